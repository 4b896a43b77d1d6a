/- Parts of the proof: Wi, Wj, Va, Vb, Vc, Vd, Ve. -/
import Derived.Lib.ParseIntBTie
import Derived.Lib.AtoiAllCases
import Derived.Test.YtgioobgahlcdhaaGreatDoorQav
import Derived.Test.YtgioobgahlcdhaaGreatDoorQaa

set_option linter.unusedVariables false
set_option linter.unusedSimpArgs false

section
/- Blocks of three and of five cells; paling/value's Truth, Number, Words. -/
namespace Go.Proofs.YtgioobgahlcdhaaGreatDoor
open Go.RowKit Go.Shelf Go.Sort Go.Lib

theorem results_row1 {P : Program} {fn : Func} {p : Tmp} {ty : TypeId} (h : fn.results = #[.cell p ty]) (tmps : Array Value) (w : World) (b o : Nat) (cs : List Value) (d : TypeDesc)
    (hp : tmps.getD p undef = .pointer (some ⟨b, o, none⟩)) (hc : w.rangeAt b o cs) (hu : P.underlying ty = some d) (hd : d.isRow = true) (hi : (P.info? ty).map (·.size) = some cs.length) :
    (results fn tmps).run P w = .ok (.agg cs.toArray) w := by
  have hl := run_loadVar_mid w b o ty cs d hc hu hd hi
  have hp' : tmps[p]?.getD undef = .pointer (some ⟨b, o, none⟩) := by simpa using hp
  simp only [results, h]
  simp [Sem.run_bind, Result.andThen, hp', asAddr, hl]

/-- A block of 3 cells, none frozen. -/
def Three (w : World) (b : Nat) (x0 x1 x2 : Value) : Prop :=
  (w.cell? ⟨b, 0, none⟩ = some x0 ∧ w.cell? ⟨b, 1, none⟩ = some x1 ∧ w.cell? ⟨b, 2, none⟩ = some x2) ∧
  w.frozen? ⟨b, 0, none⟩ = false ∧ w.frozen? ⟨b, 1, none⟩ = false ∧ w.frozen? ⟨b, 2, none⟩ = false
theorem Three.new (w : World) (y0 y1 y2 : Value) (T : TypeId) : Three (w.alloc (.cells #[y0, y1, y2] T)) w.heap.size y0 y1 y2 := by
  refine ⟨⟨?_, ?_, ?_⟩, ?_, ?_, ?_⟩
  · rw [World.cell?_alloc_at _ _ _ _ (by simp)]; first | done | rfl
  · rw [World.cell?_alloc_at _ _ _ _ (by simp)]; first | done | rfl
  · rw [World.cell?_alloc_at _ _ _ _ (by simp)]; first | done | rfl
  · exact World.frozen?_alloc_at _ _ _ _ rfl
  · exact World.frozen?_alloc_at _ _ _ _ rfl
  · exact World.frozen?_alloc_at _ _ _ _ rfl
theorem Three.later {w w' : World} {b : Nat} {x0 x1 x2 : Value} {B : Nat} (h : Three w b x0 x1 x2) (k : Below B w w') (hB : b < B) : Three w' b x0 x1 x2 := by
  obtain ⟨⟨c0, c1, c2⟩, f0, f1, f2⟩ := h
  exact ⟨⟨(k.cell hB).trans c0, (k.cell hB).trans c1, (k.cell hB).trans c2⟩, (k.frozen hB).trans f0, (k.frozen hB).trans f1, (k.frozen hB).trans f2⟩
abbrev World.put3 (w : World) (b : Nat) (y0 y1 y2 : Value) : World :=
  (((w.setCell ⟨b, 0, none⟩ y0).setCell ⟨b, 1, none⟩ y1).setCell ⟨b, 2, none⟩ y2)
theorem Three.range {w : World} {b : Nat} {x0 x1 x2 : Value} (h : Three w b x0 x1 x2) (y0 y1 y2 : Value) : (World.put3 w b y0 y1 y2).rangeAt b 0 [y0, y1, y2] := by
  obtain ⟨⟨c0, c1, c2⟩, -⟩ := h
  intro j v hj
  match j, hj with
  | 0, hj => simp at hj; subst hj; simp [World.put3, World.cell?_setCell_other, World.cell?_setCell_same, c0, c1, c2]
  | 1, hj => simp at hj; subst hj; simp [World.put3, World.cell?_setCell_other, World.cell?_setCell_same, c0, c1, c2]
  | 2, hj => simp at hj; subst hj; simp [World.put3, World.cell?_setCell_other, World.cell?_setCell_same, c0, c1, c2]
theorem below_put3 {B : Nat} {a w : World} (h : Below B a w) {b : Nat} (hb : B ≤ b) (y0 y1 y2 : Value) : Below B a (World.put3 w b y0 y1 y2) :=
  (((h.setCell (by simpa using hb) _).setCell (by simpa using hb) _).setCell (by simpa using hb) _)
theorem Three_range_new (w : World) (y0 y1 y2 : Value) (T : TypeId) : (w.alloc (.cells #[y0, y1, y2] T)).rangeAt w.heap.size 0 [y0, y1, y2] := by
  obtain ⟨⟨c0, c1, c2⟩, -⟩ := Three.new w y0 y1 y2 T
  intro j v hj
  match j, hj with
  | 0, hj => simp at hj; subst hj; exact c0
  | 1, hj => simp at hj; subst hj; exact c1
  | 2, hj => simp at hj; subst hj; exact c2
/-- A block of 5 cells, none frozen. -/
def Five (w : World) (b : Nat) (x0 x1 x2 x3 x4 : Value) : Prop :=
  (w.cell? ⟨b, 0, none⟩ = some x0 ∧ w.cell? ⟨b, 1, none⟩ = some x1 ∧ w.cell? ⟨b, 2, none⟩ = some x2 ∧ w.cell? ⟨b, 3, none⟩ = some x3 ∧ w.cell? ⟨b, 4, none⟩ = some x4) ∧
  w.frozen? ⟨b, 0, none⟩ = false ∧ w.frozen? ⟨b, 1, none⟩ = false ∧ w.frozen? ⟨b, 2, none⟩ = false ∧ w.frozen? ⟨b, 3, none⟩ = false ∧ w.frozen? ⟨b, 4, none⟩ = false
theorem Five.new (w : World) (y0 y1 y2 y3 y4 : Value) (T : TypeId) : Five (w.alloc (.cells #[y0, y1, y2, y3, y4] T)) w.heap.size y0 y1 y2 y3 y4 := by
  refine ⟨⟨?_, ?_, ?_, ?_, ?_⟩, ?_, ?_, ?_, ?_, ?_⟩
  · rw [World.cell?_alloc_at _ _ _ _ (by simp)]; first | done | rfl
  · rw [World.cell?_alloc_at _ _ _ _ (by simp)]; first | done | rfl
  · rw [World.cell?_alloc_at _ _ _ _ (by simp)]; first | done | rfl
  · rw [World.cell?_alloc_at _ _ _ _ (by simp)]; first | done | rfl
  · rw [World.cell?_alloc_at _ _ _ _ (by simp)]; first | done | rfl
  · exact World.frozen?_alloc_at _ _ _ _ rfl
  · exact World.frozen?_alloc_at _ _ _ _ rfl
  · exact World.frozen?_alloc_at _ _ _ _ rfl
  · exact World.frozen?_alloc_at _ _ _ _ rfl
  · exact World.frozen?_alloc_at _ _ _ _ rfl
theorem Five.later {w w' : World} {b : Nat} {x0 x1 x2 x3 x4 : Value} {B : Nat} (h : Five w b x0 x1 x2 x3 x4) (k : Below B w w') (hB : b < B) : Five w' b x0 x1 x2 x3 x4 := by
  obtain ⟨⟨c0, c1, c2, c3, c4⟩, f0, f1, f2, f3, f4⟩ := h
  exact ⟨⟨(k.cell hB).trans c0, (k.cell hB).trans c1, (k.cell hB).trans c2, (k.cell hB).trans c3, (k.cell hB).trans c4⟩, (k.frozen hB).trans f0, (k.frozen hB).trans f1, (k.frozen hB).trans f2, (k.frozen hB).trans f3, (k.frozen hB).trans f4⟩
abbrev World.put5 (w : World) (b : Nat) (y0 y1 y2 y3 y4 : Value) : World :=
  (((((w.setCell ⟨b, 0, none⟩ y0).setCell ⟨b, 1, none⟩ y1).setCell ⟨b, 2, none⟩ y2).setCell ⟨b, 3, none⟩ y3).setCell ⟨b, 4, none⟩ y4)
theorem Five.range {w : World} {b : Nat} {x0 x1 x2 x3 x4 : Value} (h : Five w b x0 x1 x2 x3 x4) (y0 y1 y2 y3 y4 : Value) : (World.put5 w b y0 y1 y2 y3 y4).rangeAt b 0 [y0, y1, y2, y3, y4] := by
  obtain ⟨⟨c0, c1, c2, c3, c4⟩, -⟩ := h
  intro j v hj
  match j, hj with
  | 0, hj => simp at hj; subst hj; simp [World.put5, World.cell?_setCell_other, World.cell?_setCell_same, c0, c1, c2, c3, c4]
  | 1, hj => simp at hj; subst hj; simp [World.put5, World.cell?_setCell_other, World.cell?_setCell_same, c0, c1, c2, c3, c4]
  | 2, hj => simp at hj; subst hj; simp [World.put5, World.cell?_setCell_other, World.cell?_setCell_same, c0, c1, c2, c3, c4]
  | 3, hj => simp at hj; subst hj; simp [World.put5, World.cell?_setCell_other, World.cell?_setCell_same, c0, c1, c2, c3, c4]
  | 4, hj => simp at hj; subst hj; simp [World.put5, World.cell?_setCell_other, World.cell?_setCell_same, c0, c1, c2, c3, c4]
theorem below_put5 {B : Nat} {a w : World} (h : Below B a w) {b : Nat} (hb : B ≤ b) (y0 y1 y2 y3 y4 : Value) : Below B a (World.put5 w b y0 y1 y2 y3 y4) :=
  (((((h.setCell (by simpa using hb) _).setCell (by simpa using hb) _).setCell (by simpa using hb) _).setCell (by simpa using hb) _).setCell (by simpa using hb) _)
theorem Five_range_new (w : World) (y0 y1 y2 y3 y4 : Value) (T : TypeId) : (w.alloc (.cells #[y0, y1, y2, y3, y4] T)).rangeAt w.heap.size 0 [y0, y1, y2, y3, y4] := by
  obtain ⟨⟨c0, c1, c2, c3, c4⟩, -⟩ := Five.new w y0 y1 y2 y3 y4 T
  intro j v hj
  match j, hj with
  | 0, hj => simp at hj; subst hj; exact c0
  | 1, hj => simp at hj; subst hj; exact c1
  | 2, hj => simp at hj; subst hj; exact c2
  | 3, hj => simp at hj; subst hj; exact c3
  | 4, hj => simp at hj; subst hj; exact c4

theorem valI : (Tryz.prog.info? 41).map (·.size) = some 3 := by kernel_rfl
theorem argI : (Tryz.prog.info? 43).map (·.size) = some 5 := by kernel_rfl
theorem cmdI : (Tryz.prog.info? 38).map (·.size) = some 4 := by kernel_rfl

theorem ret_val {fn : Func} {p : Tmp} (h : fn.results = #[.cell p 41]) {a : Act} {w : World} {b : Nat} {cs : List Value} {R : Ending → World → Prop}
    (hp : a.tmps.getD p undef = .pointer (some ⟨b, 0, none⟩)) (hl : w.rangeAt b 0 cs) (hn : cs.length = 3) (hd : a.defers = []) (hR : R (.returned (.agg cs.toArray)) w) : bodyPost Tryz.prog fn R .ret a w :=
  bodyPost_ret_by (results_row1 h a.tmps w b 0 cs _ hp hl Tryz.underlying41 rfl (by rw [hn]; exact valI)) hd hR
theorem ret_arg {fn : Func} {p u : Tmp} (h : fn.results = #[.cell p 43, .tmp u]) {a : Act} {w : World} {b : Nat} {cs : List Value} {R : Ending → World → Prop}
    (hp : a.tmps.getD p undef = .pointer (some ⟨b, 0, none⟩)) (hl : w.rangeAt b 0 cs) (hn : cs.length = 5) (hd : a.defers = []) (hR : R (.returned (.tuple #[.agg cs.toArray, a.tmps.getD u undef])) w) : bodyPost Tryz.prog fn R .ret a w :=
  bodyPost_ret_by (results_row2 h a.tmps w b 0 cs _ hp hl Tryz.underlying43 rfl (by rw [hn]; exact argI)) hd hR
theorem ret_cmd {fn : Func} {p u : Tmp} (h : fn.results = #[.cell p 38, .tmp u]) {a : Act} {w : World} {b : Nat} {cs : List Value} {R : Ending → World → Prop}
    (hp : a.tmps.getD p undef = .pointer (some ⟨b, 0, none⟩)) (hl : w.rangeAt b 0 cs) (hn : cs.length = 4) (hd : a.defers = []) (hR : R (.returned (.tuple #[.agg cs.toArray, a.tmps.getD u undef])) w) : bodyPost Tryz.prog fn R .ret a w :=
  bodyPost_ret_by (results_row2 h a.tmps w b 0 cs _ hp hl Tryz.underlying38 rfl (by rw [hn]; exact cmdI)) hd hR

theorem number_val (n : Int) (w : World) : Calls Tryz.prog 13 #[.int .i64 n] w fun e w' => e = .returned (.agg #[.int .u8 2, .int .i64 n, .string ⟨#[]⟩]) ∧ Later w w' := by
  go_enter Tryz.func13, Tryz.ntmps13
  go_wp2
  exact ret_val rfl rfl (Three_range_new _ _ _ _ _) rfl rfl ⟨rfl, (Below.refl _ _).alloc (Nat.le_refl _) _⟩
theorem words_val (s : ByteArray) (w : World) : Calls Tryz.prog 81 #[.string s] w fun e w' => e = .returned (.agg #[.int .u8 3, .int .i64 0, .string s]) ∧ Later w w' := by
  go_enter Tryz.func81, Tryz.ntmps81
  go_wp2
  exact ret_val rfl rfl (Three_range_new _ _ _ _ _) rfl rfl ⟨rfl, (Below.refl _ _).alloc (Nat.le_refl _) _⟩
theorem truth_true (w : World) : Calls Tryz.prog 79 #[.bool true] w fun e w' => e = .returned (.agg #[.int .u8 1, .int .i64 1, .string ⟨#[]⟩]) ∧ Later w w' := by
  go_enter Tryz.func79, Tryz.ntmps79
  go_wp2
  exact ret_val rfl rfl (Three_range_new _ _ _ _ _) rfl rfl ⟨rfl, (Below.refl _ _).alloc (Nat.le_refl _) _⟩
theorem truth_false (w : World) : Calls Tryz.prog 79 #[.bool false] w fun e w' => e = .returned (.agg #[.int .u8 1, .int .i64 0, .string ⟨#[]⟩]) ∧ Later w w' := by
  go_enter Tryz.func79, Tryz.ntmps79
  go_wp2
  exact ret_val rfl rfl (Three_range_new _ _ _ _ _) rfl rfl ⟨rfl, (Below.refl _ _).alloc (Nat.le_refl _) _⟩
end Go.Proofs.YtgioobgahlcdhaaGreatDoor
end

section
/- paling/script.arg at every word. -/
namespace Go.Proofs.YtgioobgahlcdhaaGreatDoor
open Go.RowKit Go.Shelf Go.Sort Go.Lib

/-- A told value. -/
structure Arg where
  k : Int
  n : Int
  s : ByteArray
  h : Int
  is : Bool
def Arg.cells (a : Arg) : List Value := [.int .u8 a.k, .int .i64 a.n, .string a.s, .int .i64 a.h, .bool a.is]
def Arg.v (a : Arg) : Value := .agg a.cells.toArray
def argR (s : ByteArray) : Option Arg :=
  if s.toList = [110, 105, 108] then some ⟨0, 0, ⟨#[]⟩, 0, false⟩
  else if s.toList = [116, 114, 117, 101] then some ⟨1, 1, ⟨#[]⟩, 0, false⟩
  else if s.toList = [102, 97, 108, 115, 101] then some ⟨1, 0, ⟨#[]⟩, 0, false⟩
  else if Lib.hasPrefix s.data.toList [35] then (numS (s.extract 1 s.size)).map fun n => ⟨0, 0, ⟨#[]⟩, n, true⟩
  else if Lib.hasPrefix s.data.toList [34] then
    match splitR s with
    | ([t, _], _, 0) => if t.k = 3 ∧ t.t.size ≤ 200 then some ⟨3, 0, t.t, 0, false⟩ else none
    | _ => none
  else
    match Lib.parseIntB 64 s.data.toList with
    | .ok n => if Lib.itoa n = s.data.toList then some ⟨2, n, ⟨#[]⟩, 0, false⟩ else none
    | _ => none

def ArgPost (s : ByteArray) (w : World) (e : Ending) (w' : World) : Prop :=
  ∃ a : Arg, e = .returned (.tuple #[a.v, .bool (argR s).isSome]) ∧ Later w w' ∧ ∀ b, argR s = some b → a = b
theorem ArgPost.some {s : ByteArray} {w w' : World} {a : Arg} (h : argR s = some a) (hl : Later w w') : ArgPost s w (.returned (.tuple #[a.v, .bool true])) w' :=
  ⟨a, by rw [h]; first | done | rfl, hl, fun b hb => by rw [h] at hb; exact Option.some.inj hb⟩
theorem ArgPost.none {s : ByteArray} {w w' : World} {a : Arg} (h : argR s = none) (hl : Later w w') : ArgPost s w (.returned (.tuple #[a.v, .bool false])) w' :=
  ⟨a, by rw [h]; first | done | rfl, hl, fun b hb => by rw [h] at hb; cases hb⟩

theorem formatInt_any (v : Int) (h : -9223372036854775808 ≤ v ∧ v ≤ 9223372036854775807) (w : World) (hc : Calm w) :
    Calls Tryz.prog 119 #[.int .i64 v, .int .i64 10] w fun e w' => e = .returned (.string ⟨(Lib.itoa v).toArray⟩) ∧ Later w w' := by
  refine (Tryz.strconv_FormatInt_10 v h.1 h.2 w hc.pow).mono ?_
  rintro e w' ⟨rfl, hw⟩
  exact ⟨rfl, later_grow hw⟩

set_option maxHeartbeats 4000000 in
set_option maxRecDepth 1000000 in
theorem arg_nil (s : ByteArray) (w : World) (h : (s.toList == [110, 105, 108]) = true) : Calls Tryz.prog 78 #[.string s] w (ArgPost s w) := by
  have hR : Hid (argR s = some ⟨0, 0, ⟨#[]⟩, 0, false⟩) := by show _ = _; unfold argR; rw [if_pos (by simpa using h)]
  go_enter Tryz.func78, Tryz.ntmps78
  go_wp2
  exact ret_arg rfl rfl (Five_range_new _ _ _ _ _ _ _) rfl rfl (ArgPost.some hR.out ((Below.refl _ _).alloc (Nat.le_refl _) _))

theorem after (w : World) (o : Obj) {w2 : World} (h : Later (w.alloc o) w2) : Later w w2 := ((Below.refl _ w).alloc (Nat.le_refl _) _).trans (h.mono (by simp))

set_option maxHeartbeats 4000000 in
set_option maxRecDepth 1000000 in
theorem arg_true (s : ByteArray) (w : World) (h0 : (s.toList == [110, 105, 108]) = false) (h : (s.toList == [116, 114, 117, 101]) = true) : Calls Tryz.prog 78 #[.string s] w (ArgPost s w) := by
  have hR : Hid (argR s = some ⟨1, 1, ⟨#[]⟩, 0, false⟩) := by show _ = _; unfold argR; rw [if_neg (by simpa using h0), if_pos (by simpa using h)]
  go_enter Tryz.func78, Tryz.ntmps78
  go_wp2_with (go_at_call 79; refine (truth_true _).mono ?_; rintro e w2 ⟨rfl, hbel⟩; have h4 := (Five.new w _ _ _ _ _ _).later hbel (by simp); have H5 : Aside (Five _ _ _ _ _ _ _) := h4; obtain ⟨⟨c0, c1, c2, c3, c4⟩, f0, f1, f2, f3, f4⟩ := id h4; clear h4; have HB : Aside (Later _ _) := hbel; clear hbel)
  refine ret_arg rfl rfl (H5.out.range _ _ _ _ _) rfl rfl ?_
  exact ArgPost.some (a := ⟨1, 1, ⟨#[]⟩, 0, false⟩) hR.out (below_put5 (after w _ HB.out) (Nat.le_refl _) _ _ _ _ _)

set_option maxHeartbeats 4000000 in
set_option maxRecDepth 1000000 in
theorem arg_false (s : ByteArray) (w : World) (h0 : (s.toList == [110, 105, 108]) = false) (h1 : (s.toList == [116, 114, 117, 101]) = false) (h : (s.toList == [102, 97, 108, 115, 101]) = true) : Calls Tryz.prog 78 #[.string s] w (ArgPost s w) := by
  have hR : Hid (argR s = some ⟨1, 0, ⟨#[]⟩, 0, false⟩) := by show _ = _; unfold argR; rw [if_neg (by simpa using h0), if_neg (by simpa using h1), if_pos (by simpa using h)]
  go_enter Tryz.func78, Tryz.ntmps78
  go_wp2_with (go_at_call 79; refine (truth_false _).mono ?_; rintro e w2 ⟨rfl, hbel⟩; have h4 := (Five.new w _ _ _ _ _ _).later hbel (by simp); have H5 : Aside (Five _ _ _ _ _ _ _) := h4; obtain ⟨⟨c0, c1, c2, c3, c4⟩, f0, f1, f2, f3, f4⟩ := id h4; clear h4; have HB : Aside (Later _ _) := hbel; clear hbel)
  refine ret_arg rfl rfl (H5.out.range _ _ _ _ _) rfl rfl ?_
  exact ArgPost.some (a := ⟨1, 0, ⟨#[]⟩, 0, false⟩) hR.out (below_put5 (after w _ HB.out) (Nat.le_refl _) _ _ _ _ _)

set_option maxHeartbeats 4000000 in
set_option maxRecDepth 1000000 in
theorem arg_handle (s : ByteArray) (hs : s.size ≤ 1000000) (w : World) (hc : Calm w) (h0 : (s.toList == [110, 105, 108]) = false) (h1 : (s.toList == [116, 114, 117, 101]) = false) (h2 : (s.toList == [102, 97, 108, 115, 101]) = false) (hp : Lib.hasPrefix s.data.toList [35] = true) : Calls Tryz.prog 78 #[.string s] w (ArgPost s w) := by
  have hR : Hid (argR s = (numS (s.extract 1 s.size)).map fun n => ⟨0, 0, ⟨#[]⟩, n, true⟩) := by show _ = _; unfold argR; rw [if_neg (by simpa using h0), if_neg (by simpa using h1), if_neg (by simpa using h2), if_pos hp]
  have hsz : 1 ≤ s.size := by have := prefix_size _ _ hp; simpa using this
  have hz : (s.extract 1 s.size).size ≤ 1000000 := by simp; omega
  obtain ⟨q, hq⟩ : ∃ q, (numS (s.extract 1 s.size)).isSome = q := ⟨_, rfl⟩
  go_enter Tryz.func78, Tryz.ntmps78
  go_wp2_with (first
    | (go_at_call 27; refine (Tryz.strings_HasPrefix _ _ _).mono ?_; rintro e w1 ⟨rfl, rfl⟩)
    | (go_at_call 42; refine (number_any _ hz _ (hc.later ((Below.refl _ _).alloc (Nat.le_refl _) _))).mono ?_; rintro e w2 ⟨n, rfl, hbel, hn⟩; rw [hq]; have HN : Aside (∀ v, numS (s.extract 1 s.size) = some v → n = v) := hn; clear hn; have h4 := (Five.new w _ _ _ _ _ _).later hbel (by simp); have H5 : Aside (Five _ _ _ _ _ _ _) := h4; obtain ⟨⟨c0, c1, c2, c3, c4⟩, f0, f1, f2, f3, f4⟩ := id h4; clear h4; have HB : Aside (Later _ _) := hbel; clear hbel))
  cases hx : numS (s.extract 1 s.size) with
  | none =>
    rw [hx] at hq
    subst hq
    refine ret_arg rfl rfl (H5.out.range _ _ _ _ _) rfl rfl ?_
    exact ArgPost.none (a := ⟨0, 0, ⟨#[]⟩, n, false⟩) (by rw [hR.out, hx]; first | done | rfl) (below_put5 (after w _ HB.out) (Nat.le_refl _) _ _ _ _ _)
  | some v =>
    have := HN.out v hx
    subst this
    rw [hx] at hq
    subst hq
    refine ret_arg rfl rfl (H5.out.range _ _ _ _ _) rfl rfl ?_
    exact ArgPost.some (a := ⟨0, 0, ⟨#[]⟩, n, true⟩) (by rw [hR.out, hx]; first | done | rfl) (below_put5 (after w _ HB.out) (Nat.le_refl _) _ _ _ _ _)

set_option maxHeartbeats 4000000 in
set_option maxRecDepth 1000000 in
theorem arg_number (s : ByteArray) (hs : s.size ≤ 1000000) (w : World) (hc : Calm w) (h0 : (s.toList == [110, 105, 108]) = false) (h1 : (s.toList == [116, 114, 117, 101]) = false) (h2 : (s.toList == [102, 97, 108, 115, 101]) = false) (hp : Lib.hasPrefix s.data.toList [35] = false) (hp2 : Lib.hasPrefix s.data.toList [34] = false) : Calls Tryz.prog 78 #[.string s] w (ArgPost s w) := by
  have hR0 : argR s = match Lib.parseIntB 64 s.data.toList with | .ok n => if Lib.itoa n = s.data.toList then some ⟨2, n, ⟨#[]⟩, 0, false⟩ else none | _ => none := by
    unfold argR; rw [if_neg (by simpa using h0), if_neg (by simpa using h1), if_neg (by simpa using h2), if_neg (by simp [hp]), if_neg (by simp [hp2])]
  have hc1 : Calm (w.alloc (.cells #[.int .u8 0, .int .i64 0, .string ⟨#[]⟩, .int .i64 0, .bool false] 43)) := hc.later ((Below.refl _ _).alloc (Nat.le_refl _) _)
  by_cases hx : ∃ v, Lib.parseIntB 64 s.data.toList = .ok v
  · obtain ⟨v, hv⟩ := hx
    have hin : -9223372036854775808 ≤ v ∧ v ≤ 9223372036854775807 := by rw [Lib.parseIntB_64] at hv; exact Lib.atoiAll_bounds hv
    obtain ⟨t, ht⟩ : ∃ t : ByteArray, (⟨(Lib.itoa v).toArray⟩ : ByteArray) = t := ⟨_, rfl⟩
    have hte : (t.toList == s.toList) = decide (Lib.itoa v = s.data.toList) := by
      rw [← ht, Lib.toList_data s]; exact mk_eq
    rw [hv] at hR0
    simp only at hR0
    by_cases heq : Lib.itoa v = s.data.toList
    · rw [if_pos heq] at hR0
      have hR : Hid (argR s = some ⟨2, v, ⟨#[]⟩, 0, false⟩) := hR0
      rw [decide_eq_true heq] at hte
      clear heq hR0
      go_enter Tryz.func78, Tryz.ntmps78
      go_wp2_with (first
        | (go_at_call 27; refine (Tryz.strings_HasPrefix _ _ _).mono ?_; rintro e w1 ⟨rfl, rfl⟩)
        | (go_at_call 118; refine (parse_good s hs _ v hv).mono ?_; rintro e w2 ⟨rfl, hb⟩; have HB1 : Aside (Later _ w2) := hb; clear hb)
        | (go_at_call 119; refine (formatInt_any v hin _ (hc1.later HB1.out)).mono ?_; rintro e w3 ⟨rfl, hb⟩; rw [ht]; have hbel := HB1.out.step hb; clear hb; have h4 := (Five.new w _ _ _ _ _ _).later hbel (by simp); have H5 : Aside (Five _ _ _ _ _ _ _) := h4; obtain ⟨⟨c0, c1, c2, c3, c4⟩, f0, f1, f2, f3, f4⟩ := id h4; clear h4; have HB : Aside (Later _ _) := hbel; clear hbel)
        | (go_at_call 13; refine (number_val v _).mono ?_; rintro e w4 ⟨rfl, hb⟩; have HB2 := HB.out.step hb; clear HB; have hbel := HB2; clear hb HB2; have h4 := (Five.new w _ _ _ _ _ _).later hbel (by simp); have H6 : Aside (Five _ _ _ _ _ _ _) := h4; clear c0 c1 c2 c3 c4 f0 f1 f2 f3 f4; obtain ⟨⟨c0, c1, c2, c3, c4⟩, f0, f1, f2, f3, f4⟩ := id h4; clear h4; have HB : Aside (Later _ _) := hbel; clear hbel))
      refine ret_arg rfl rfl (H6.out.range _ _ _ _ _) rfl rfl ?_
      exact ArgPost.some (a := ⟨2, v, ⟨#[]⟩, 0, false⟩) hR.out (below_put5 (after w _ HB.out) (Nat.le_refl _) _ _ _ _ _)
    · rw [if_neg heq] at hR0
      have hR : Hid (argR s = none) := hR0
      rw [decide_eq_false heq] at hte
      clear heq hR0
      go_enter Tryz.func78, Tryz.ntmps78
      go_wp2_with (first
        | (go_at_call 27; refine (Tryz.strings_HasPrefix _ _ _).mono ?_; rintro e w1 ⟨rfl, rfl⟩)
        | (go_at_call 118; refine (parse_good s hs _ v hv).mono ?_; rintro e w2 ⟨rfl, hb⟩; have HB1 : Aside (Later _ w2) := hb; clear hb)
        | (go_at_call 119; refine (formatInt_any v hin _ (hc1.later HB1.out)).mono ?_; rintro e w3 ⟨rfl, hb⟩; rw [ht]; have hbel := HB1.out.step hb; clear hb; have h4 := (Five.new w _ _ _ _ _ _).later hbel (by simp); have H5 : Aside (Five _ _ _ _ _ _ _) := h4; obtain ⟨⟨c0, c1, c2, c3, c4⟩, f0, f1, f2, f3, f4⟩ := id h4; clear h4; have HB : Aside (Later _ _) := hbel; clear hbel)
        | (go_at_call 13; refine (number_val v _).mono ?_; rintro e w4 ⟨rfl, hb⟩; have HB2 := HB.out.step hb; clear HB; have hbel := HB2; clear hb HB2; have h4 := (Five.new w _ _ _ _ _ _).later hbel (by simp); have H6 : Aside (Five _ _ _ _ _ _ _) := h4; clear c0 c1 c2 c3 c4 f0 f1 f2 f3 f4; obtain ⟨⟨c0, c1, c2, c3, c4⟩, f0, f1, f2, f3, f4⟩ := id h4; clear h4; have HB : Aside (Later _ _) := hbel; clear hbel))
      refine ret_arg rfl rfl (H5.out.range _ _ _ _ _) rfl rfl ?_
      exact ArgPost.none (a := ⟨0, 0, ⟨#[]⟩, 0, false⟩) hR.out (below_put5 (after w _ HB.out) (Nat.le_refl _) _ _ _ _ _)
  · have hR : Hid (argR s = none) := by
      show _ = _
      rw [hR0]
      split
      · rename_i v hv; exact absurd ⟨v, hv⟩ hx
      · rfl
    have HX : Aside (∀ v, Lib.parseIntB 64 s.data.toList ≠ .ok v) := fun v hv => hx ⟨v, hv⟩
    clear hx hR0
    go_enter Tryz.func78, Tryz.ntmps78
    go_wp2_with (first
      | (go_at_call 27; refine (Tryz.strings_HasPrefix _ _ _).mono ?_; rintro e w1 ⟨rfl, rfl⟩)
      | (go_at_call 118; refine (parse_bad s hs _ hc1 HX.out).mono ?_; rintro e w2 ⟨n, tt, pp, rfl, hbel⟩; have h4 := (Five.new w _ _ _ _ _ _).later hbel (by simp); have H5 : Aside (Five _ _ _ _ _ _ _) := h4; obtain ⟨⟨c0, c1, c2, c3, c4⟩, f0, f1, f2, f3, f4⟩ := id h4; clear h4; have HB : Aside (Later _ _) := hbel; clear hbel))
    refine ret_arg rfl rfl (H5.out.range _ _ _ _ _) rfl rfl ?_
    exact ArgPost.none (a := ⟨0, 0, ⟨#[]⟩, 0, false⟩) hR.out (below_put5 (after w _ HB.out) (Nat.le_refl _) _ _ _ _ _)
end Go.Proofs.YtgioobgahlcdhaaGreatDoor
end

section
/- Numbers as the reference reads them. -/
namespace Go.Proofs.YtgioobgahlcdhaaGreatDoor
open Go.RowKit Go.Shelf Go.Sort Go.Lib

theorem numS_digits (s : ByteArray) : numS s = if Go.X.canonB s.data.toList = true ∧ s.data.toList.length ≤ 7 ∧ Go.X.valF 0 s.data.toList ≤ 1000000 then some (Go.X.valF 0 s.data.toList : Int) else none := by
  rw [← Go.X.num_eq]
  first | done | rfl
theorem arg_whole (l : List UInt8) : (match Lib.parseIntB 64 l with
    | .ok n => if Lib.itoa n = l then some (⟨2, n, ⟨#[]⟩, 0, false⟩ : Arg) else none
    | _ => none) = (Go.X.wholeL l).map fun n => ⟨2, n, ⟨#[]⟩, 0, false⟩ := by
  rw [← Go.X.whole_eq, Lib.parseIntB_64]
  unfold Go.X.roundL
  cases Lib.atoiAll l with
  | ok v =>
    dsimp only
    by_cases h : Lib.itoa v = l
    · rw [if_pos h, if_pos h]; first | done | rfl
    · rw [if_neg h, if_neg h]; first | done | rfl
  | range => rfl
  | _ => rfl
theorem blank_rests (x : ByteArray) : (Go.X.restsB x.data.toList) = ((Lib.trimSpaceD x.data.toList).isEmpty || decide ((Lib.trimSpaceD x.data.toList).head? = some 59)) := Go.X.rests_eq _
end Go.Proofs.YtgioobgahlcdhaaGreatDoor
end

section
/- The reference's among, digits, whole. -/
namespace Go.Proofs.YtgioobgahlcdhaaGreatDoor
open Go.RowKit Go.Shelf Go.Sort Go.Lib

theorem u8_back (c : UInt8) : ((c.toNat : Int)).toNat.toUInt8 = c := by simp
set_option maxHeartbeats 1600000 in
theorem among_any (s set : ByteArray) (hs : s.size ≤ 1000000) (w : World) :
    Calls Tryz.prog 159 #[.string s, .string set] w fun e w' => e = .returned (.int .i64 (Go.X.runB (Go.X.inB set.data.toList) s.data.toList)) ∧ w' = w := by
  obtain ⟨p, hp⟩ : ∃ p, Go.X.inB set.data.toList = p := ⟨_, rfl⟩
  have HP : Aside (Go.X.inB set.data.toList = p) := hp
  rw [hp]
  clear hp
  go_enter Tryz.func159, Tryz.ntmps159
  go_wp2
  go_loopg [8] s.size (fun g i wr => ∃ k : Nat, k + g = s.size ∧ i = .int .i64 k ∧ wr = w ∧ Aside (Go.X.runB p s.data.toList = k + Go.X.runB p (s.data.toList.drop k)))
  case atStart => exact ⟨0, by omega, rfl, rfl, by simp [Aside]⟩
  case round =>
    obtain ⟨k, hk, rfl, rfl, HA⟩ := hrel
    by_cases hlt : k < s.size
    · obtain ⟨c, hcb⟩ : ∃ c, s[k]'hlt = c := ⟨_, rfl⟩
      have HC : Aside (s.data.toList[k]? = some c) := by rw [← hcb]; exact byte_at s k hlt
      obtain ⟨z, hz⟩ : ∃ z, Lib.indexByte set.data.toList c = z := ⟨_, rfl⟩
      have HZ : Aside (p c = decide (0 ≤ z)) := by show _ = _; rw [← HP.out, ← hz]; first | done | rfl
      have hu := u8_back c
      by_cases hn : z < 0
      · go_wp2_with (go_at_call 120; refine (Tryz.strings_IndexByte _ _ _).mono ?_; rintro e w1 ⟨rfl, rfl⟩; rw [hu, hz])
        go_ret
        refine ⟨?_, rfl⟩
        rw [HA.out, Go.X.runB_stop HC.out (by rw [HZ.out]; simp; omega)]
        first | done | rfl
      · go_wp2_with (go_at_call 120; refine (Tryz.strings_IndexByte _ _ _).mono ?_; rintro e w1 ⟨rfl, rfl⟩; rw [hu, hz])
        go_roundg (gk - 1)
        case measure => omega
        case rel => exact ⟨k + 1, by omega, by go_num, rfl, by show _ = _; rw [HA.out, Go.X.runB_drop HC.out (by rw [HZ.out]; simp; omega)]; omega⟩
    · go_wp2
      have : k = s.size := by omega
      go_ret
      refine ⟨?_, rfl⟩
      rw [HA.out, List.drop_eq_nil_of_le (by rw [← Lib.size_eq]; omega)]
      subst this
      rfl

theorem empty_size (s : ByteArray) : s.toList.isEmpty = decide (s.size = 0) := by
  rw [Lib.toList_data, Lib.size_eq]
  cases s.data.toList <;> simp

set_option maxHeartbeats 1600000 in
theorem digits_any (s : ByteArray) (hs : s.size ≤ 1000000) (w : World) :
    Calls Tryz.prog 45 #[.string s] w fun e w' => e = .returned (.int .i64 (Go.X.digitsR s.data.toList)) ∧ w' = w := by
  by_cases h0 : s.size = 0
  · have he : s.toList.isEmpty = true := by rw [empty_size]; simp [h0]
    have HR : Aside (Go.X.digitsR s.data.toList = -1) := by
      have : s.data.toList = [] := List.length_eq_zero_iff.1 (by rw [← Lib.size_eq]; exact h0)
      show _ = _
      rw [this]
      exact Go.X.digits_nil
    clear h0
    go_enter Tryz.func45, Tryz.ntmps45
    go_wp2
    go_ret
    exact ⟨by rw [HR.out]; first | done | rfl, rfl⟩
  · have he : s.toList.isEmpty = false := by rw [empty_size]; simp [h0]
    by_cases h7 : 7 < s.size
    · have HR : Aside (Go.X.digitsR s.data.toList = -1) := Go.X.digits_long (by rw [← Lib.size_eq]; exact h7)
      clear h0
      go_enter Tryz.func45, Tryz.ntmps45
      go_wp2
      go_ret
      exact ⟨by rw [HR.out]; first | done | rfl, rfl⟩
    · have hp : 0 < s.size := by omega
      by_cases hz : 1 < s.size ∧ ((s[0]'hp).toNat : Int) = 48
      · obtain ⟨hz1, hz2⟩ := hz
        have HR : Aside (Go.X.digitsR s.data.toList = -1) := Go.X.digits_nought (by rw [← Lib.size_eq]; exact hz1) ((head_is s hp 48).2 hz2)
        clear h0
        go_enter Tryz.func45, Tryz.ntmps45
        go_wp2
        go_ret
        exact ⟨by rw [HR.out]; first | done | rfl, rfl⟩
      · have HH : Aside (1 < s.data.toList.length → s.data.toList.head? ≠ some 48) := fun h1 h2 => hz ⟨by rw [Lib.size_eq]; exact h1, (head_is s hp 48).1 h2⟩
        have HE : Aside (s.data.toList ≠ []) := fun h => h0 (by rw [Lib.size_eq, h]; first | done | rfl)
        have HL : Aside (s.data.toList.length ≤ 7) := by show _ ≤ _; rw [← Lib.size_eq]; omega
        have b48 : (((s[0]'hp).toNat : Int) == 48) = false ∨ ((((s[0]'hp).toNat : Int) == 48) = true ∧ ¬ 1 < s.size) := by
          cases hb : (((s[0]'hp).toNat : Int) == 48) with
          | false => exact .inl rfl
          | true => exact .inr ⟨rfl, fun h1 => hz ⟨h1, by simpa using hb⟩⟩
        clear h0 hz
        rcases b48 with b48 | ⟨b48, hz1⟩
        all_goals go_enter Tryz.func45, Tryz.ntmps45
        all_goals go_wp2
        all_goals (
          go_loopg [3, 24] s.size (fun g nv i wr => ∃ (k n : Nat), k + g = s.size ∧ i = .int .i64 k ∧ nv = .int .i64 n ∧ wr = w ∧ n ≤ 9999999 ∧ Aside (Go.X.valF 0 (s.data.toList.take k) = n) ∧ Aside ((s.data.toList.take k).all Go.X.digB = true))
          case atStart => exact ⟨0, 0, by omega, rfl, rfl, rfl, by omega, rfl, rfl⟩
          case round =>
            obtain ⟨k, n, hk, rfl, rfl, rfl, hn9, HV, HD⟩ := hrel
            by_cases hlt : k < s.size
            · obtain ⟨c, hcb⟩ : ∃ c, s[k]'hlt = c := ⟨_, rfl⟩
              have HC : Aside (s.data.toList[k]? = some c) := by rw [← hcb]; exact byte_at s k hlt
              have hc8 := c.toNat_lt
              by_cases hd : 48 ≤ c.toNat ∧ c.toNat ≤ 57
              · obtain ⟨d1, d2⟩ := hd
                have HB : Aside (Go.X.digB c = true) := by show _ = _; unfold Go.X.digB; simp only [decide_eq_true_eq]; omega
                have HV2 : Aside (Go.X.valF 0 (s.data.toList.take (k + 1)) = n * 10 + (c.toNat - 48)) := by show _ = _; rw [Go.X.valF_take HC.out, HV.out]
                have HD2 : Aside ((s.data.toList.take (k + 1)).all Go.X.digB = true) := Go.X.all_take HC.out HB.out HD.out
                have hb9 : n * 10 + (c.toNat - 48) ≤ 9999999 := by
                  have := Go.X.valF_lt _ 7 HD2.out (by rw [List.length_take]; have := HL.out; omega)
                  rw [HV2.out] at this
                  omega
                go_wp2
                go_roundg (gk - 1)
                case measure => omega
                case rel => exact ⟨k + 1, n * 10 + (c.toNat - 48), by omega, by go_num, by go_num, rfl, hb9, HV2.out, HD2.out⟩
              · have HR : Aside (Go.X.digitsR s.data.toList = -1) := Go.X.digits_other HC.out (by unfold Go.X.digB; simp only [decide_eq_false_iff_not]; exact hd)
                go_wp2
                all_goals first
                  | (exfalso; omega)
                  | (go_ret; exact ⟨by rw [HR.out]; first | done | rfl, rfl⟩)
            · have hks : k = s.size := by omega
              have htk : s.data.toList.take k = s.data.toList := List.take_of_length_le (by rw [← Lib.size_eq]; omega)
              have HR : Aside (Go.X.digitsR s.data.toList = if n ≤ 1000000 then (n : Int) else -1) := by
                show _ = _
                rw [Go.X.digits_end HE.out HL.out HH.out (by rw [← htk]; exact HD.out)]
                rw [← htk, HV.out]
              clear htk hks
              by_cases hm : n ≤ 1000000
              · go_wp2
                go_ret
                exact ⟨by rw [HR.out, if_pos hm]; first | done | rfl, rfl⟩
              · go_wp2
                go_ret
                exact ⟨by rw [HR.out, if_neg hm]; first | done | rfl, rfl⟩)
end Go.Proofs.YtgioobgahlcdhaaGreatDoor
end

section
/- The reference's whole. -/
namespace Go.Proofs.YtgioobgahlcdhaaGreatDoor
open Go.RowKit Go.Shelf Go.Sort Go.Lib

theorem neg_back (n : Nat) (h : n ≤ 9223372036854775808) : wrap64 (IntKind.u64.wrap (-(n : Int))) = -(n : Int) := by
  unfold wrap64 IntKind.wrap
  simp only [IntKind.bits, IntKind.signed, Bool.false_and]
  simp only [Bool.false_eq_true, if_false]
  omega
theorem whole_none {r : Option Int} (h : r = none) {v : Int} {b : Bool} (hb : b = false) (w : World) : ∃ x, Ending.returned (.tuple #[.int .i64 v, .bool b]) = .returned (.tuple #[.int .i64 x, .bool r.isSome]) ∧ w = w ∧ ∀ u, r = some u → x = u :=
  ⟨v, by rw [h, hb]; first | done | rfl, rfl, fun u hu => by rw [h] at hu; cases hu⟩
theorem whole_some {r : Option Int} {v x : Int} (h : r = some x) (hv : v = x) {b : Bool} (hb : b = true) (w : World) : ∃ y, Ending.returned (.tuple #[.int .i64 v, .bool b]) = .returned (.tuple #[.int .i64 y, .bool r.isSome]) ∧ w = w ∧ ∀ u, r = some u → y = u :=
  ⟨v, by rw [h, hb]; first | done | rfl, rfl, fun u hu => by rw [h] at hu; cases hu; exact hv⟩

set_option maxHeartbeats 3200000 in
theorem whole_core (s T : ByteArray) (m : Bool) (hT : T.size ≤ 1000000) (w : World)
    (hcut : Calls Tryz.prog 122 #[.string s, .string ⟨#[45]⟩] w fun e w' => e = .returned (.tuple #[.string T, .bool m]) ∧ w' = w) :
    Calls Tryz.prog 82 #[.string s] w fun e w' => ∃ v, e = .returned (.tuple #[.int .i64 v, .bool (Go.X.wholeT m T.data.toList).isSome]) ∧ w' = w ∧ ∀ u, Go.X.wholeT m T.data.toList = some u → v = u := by
  have HCUT : Aside (Calls Tryz.prog 122 #[.string s, .string ⟨#[45]⟩] w fun e w' => e = .returned (.tuple #[.string T, .bool m]) ∧ w' = w) := hcut
  clear hcut
  by_cases h0 : T.size = 0
  · have he : T.toList.isEmpty = true := by rw [empty_size]; simp [h0]
    have HR : Aside (Go.X.wholeT m T.data.toList = none) := by
      have : T.data.toList = [] := List.length_eq_zero_iff.1 (by rw [← Lib.size_eq]; exact h0)
      show _ = _
      rw [this]
      exact Go.X.whole_nil
    clear h0
    go_enter Tryz.func82, Tryz.ntmps82
    go_wp2_with (go_at_call 122; (with_reducible refine Calls.mono HCUT.out ?_); rintro e w1 ⟨rfl, rfl⟩)
    go_ret2
    exact whole_none HR.out rfl _
  · have he : T.toList.isEmpty = false := by rw [empty_size]; simp [h0]
    by_cases h7 : 19 < T.size
    · have HR : Aside (Go.X.wholeT m T.data.toList = none) := Go.X.whole_long (by rw [← Lib.size_eq]; exact h7)
      clear h0
      go_enter Tryz.func82, Tryz.ntmps82
      go_wp2_with (go_at_call 122; (with_reducible refine Calls.mono HCUT.out ?_); rintro e w1 ⟨rfl, rfl⟩)
      go_ret2
      exact whole_none HR.out rfl _
    · have hp : 0 < T.size := by omega
      by_cases hz : 1 < T.size ∧ ((T[0]'hp).toNat : Int) = 48
      · obtain ⟨hz1, hz2⟩ := hz
        have HR : Aside (Go.X.wholeT m T.data.toList = none) := Go.X.whole_nought (by rw [← Lib.size_eq]; exact hz1) ((head_is T hp 48).2 hz2)
        clear h0
        go_enter Tryz.func82, Tryz.ntmps82
        go_wp2_with (go_at_call 122; (with_reducible refine Calls.mono HCUT.out ?_); rintro e w1 ⟨rfl, rfl⟩)
        go_ret2
        exact whole_none HR.out rfl _
      · by_cases hq : m = true ∧ T.data.toList = [48]
        · obtain ⟨rfl, hq2⟩ := hq
          have ht : (T.toList == [48]) = true := by rw [Lib.toList_data, hq2]; first | done | rfl
          have HR : Aside (Go.X.wholeT true T.data.toList = none) := by show _ = _; rw [hq2]; exact Go.X.whole_zero
          have hsz1 : ¬ 1 < T.size := by rw [Lib.size_eq, hq2]; decide
          clear h0 hq2
          go_enter Tryz.func82, Tryz.ntmps82
          go_wp2_with (go_at_call 122; (with_reducible refine Calls.mono HCUT.out ?_); rintro e w1 ⟨rfl, rfl⟩)
          all_goals (go_ret2; exact whole_none HR.out rfl _)
        · have HH : Aside (1 < T.data.toList.length → T.data.toList.head? ≠ some 48) := fun h1 h2 => hz ⟨by rw [Lib.size_eq]; exact h1, (head_is T hp 48).1 h2⟩
          have HE : Aside (T.data.toList ≠ []) := fun h => h0 (by rw [Lib.size_eq, h]; first | done | rfl)
          have HL : Aside (T.data.toList.length ≤ 19) := by show _ ≤ _; rw [← Lib.size_eq]; omega
          have ht : m = true → (T.toList == [48]) = false := fun hm => by
            cases h : T.toList == [48] with
            | false => rfl
            | true => exact absurd ⟨hm, by rw [← Lib.toList_data]; exact beq_iff_eq.1 h⟩ hq
          have HQ : Aside (m = true → T.data.toList ≠ [48]) := fun hm h => hq ⟨hm, h⟩
          have b48 : (((T[0]'hp).toNat : Int) == 48) = false ∨ ((((T[0]'hp).toNat : Int) == 48) = true ∧ ¬ 1 < T.size) := by
            cases hb : (((T[0]'hp).toNat : Int) == 48) with
            | false => exact .inl rfl
            | true => exact .inr ⟨rfl, fun h1 => hz ⟨h1, by simpa using hb⟩⟩
          clear h0 hq hz
          cases m with
          | true =>
            have ht' := ht rfl
            have HQ2 : Aside (T.data.toList ≠ [48]) := HQ.out rfl
            clear ht HQ
            rcases b48 with b48 | ⟨b48, hz1⟩
            all_goals go_enter Tryz.func82, Tryz.ntmps82
            all_goals go_wp2_with (go_at_call 122; (with_reducible refine Calls.mono HCUT.out ?_); rintro e w1 ⟨rfl, rfl⟩)
            all_goals (
              go_loopg [6, 39] T.size (fun g nv i wr => ∃ (k n : Nat), k + g = T.size ∧ i = .int .i64 k ∧ nv = .int .u64 n ∧ wr = w1 ∧ n ≤ 9999999999999999999 ∧ Aside (Go.X.valF 0 (T.data.toList.take k) = n) ∧ Aside ((T.data.toList.take k).all Go.X.digB = true))
              case atStart => exact ⟨0, 0, by omega, rfl, rfl, rfl, by omega, rfl, rfl⟩
              case round =>
                obtain ⟨k, n, hk, rfl, rfl, rfl, hn9, HV, HD⟩ := hrel
                by_cases hlt : k < T.size
                · obtain ⟨c, hcb⟩ : ∃ c, T[k]'hlt = c := ⟨_, rfl⟩
                  have HC : Aside (T.data.toList[k]? = some c) := by rw [← hcb]; exact byte_at T k hlt
                  have hc8 := c.toNat_lt
                  by_cases hd : 48 ≤ c.toNat ∧ c.toNat ≤ 57
                  · obtain ⟨d1, d2⟩ := hd
                    have HB : Aside (Go.X.digB c = true) := by show _ = _; unfold Go.X.digB; simp only [decide_eq_true_eq]; omega
                    have HV2 : Aside (Go.X.valF 0 (T.data.toList.take (k + 1)) = n * 10 + (c.toNat - 48)) := by show _ = _; rw [Go.X.valF_take HC.out, HV.out]
                    have HD2 : Aside ((T.data.toList.take (k + 1)).all Go.X.digB = true) := Go.X.all_take HC.out HB.out HD.out
                    have hb9 : n * 10 + (c.toNat - 48) ≤ 9999999999999999999 := by
                      have := Go.X.valF_lt _ 19 HD2.out (by rw [List.length_take]; have := HL.out; omega)
                      rw [HV2.out] at this
                      omega
                    go_wp2
                    go_roundg (gk - 1)
                    case measure => omega
                    case rel => exact ⟨k + 1, n * 10 + (c.toNat - 48), by omega, by go_num, by go_num, rfl, hb9, HV2.out, HD2.out⟩
                  · have HR : Aside (Go.X.wholeT true T.data.toList = none) := Go.X.whole_other HC.out (by unfold Go.X.digB; simp only [decide_eq_false_iff_not]; exact hd)
                    go_wp2
                    all_goals first
                      | (exfalso; omega)
                      | (go_ret2; exact whole_none HR.out rfl _)
                · have hks : k = T.size := by omega
                  have htk : T.data.toList.take k = T.data.toList := List.take_of_length_le (by rw [← Lib.size_eq]; omega)
                  have HR : Aside (Go.X.wholeT true T.data.toList = if n ≤ 9223372036854775808 then some (-(n : Int)) else none) := by
                    show _ = _
                    rw [Go.X.whole_minus HE.out HL.out HH.out HQ2.out (by rw [← htk]; exact HD.out)]
                    rw [← htk, HV.out]
                  clear htk hks
                  by_cases hm : n ≤ 9223372036854775808
                  · go_wp2
                    go_ret2
                    exact whole_some (HR.out.trans (if_pos hm)) (neg_back n hm) (by simp; omega) _
                  · go_wp2
                    go_ret2
                    exact whole_none (HR.out.trans (if_neg hm)) (by simp; omega) _)
          | false =>
            clear ht HQ
            rcases b48 with b48 | ⟨b48, hz1⟩
            all_goals go_enter Tryz.func82, Tryz.ntmps82
            all_goals go_wp2_with (go_at_call 122; (with_reducible refine Calls.mono HCUT.out ?_); rintro e w1 ⟨rfl, rfl⟩)
            all_goals (
              go_loopg [6, 39] T.size (fun g nv i wr => ∃ (k n : Nat), k + g = T.size ∧ i = .int .i64 k ∧ nv = .int .u64 n ∧ wr = w1 ∧ n ≤ 9999999999999999999 ∧ Aside (Go.X.valF 0 (T.data.toList.take k) = n) ∧ Aside ((T.data.toList.take k).all Go.X.digB = true))
              case atStart => exact ⟨0, 0, by omega, rfl, rfl, rfl, by omega, rfl, rfl⟩
              case round =>
                obtain ⟨k, n, hk, rfl, rfl, rfl, hn9, HV, HD⟩ := hrel
                by_cases hlt : k < T.size
                · obtain ⟨c, hcb⟩ : ∃ c, T[k]'hlt = c := ⟨_, rfl⟩
                  have HC : Aside (T.data.toList[k]? = some c) := by rw [← hcb]; exact byte_at T k hlt
                  have hc8 := c.toNat_lt
                  by_cases hd : 48 ≤ c.toNat ∧ c.toNat ≤ 57
                  · obtain ⟨d1, d2⟩ := hd
                    have HB : Aside (Go.X.digB c = true) := by show _ = _; unfold Go.X.digB; simp only [decide_eq_true_eq]; omega
                    have HV2 : Aside (Go.X.valF 0 (T.data.toList.take (k + 1)) = n * 10 + (c.toNat - 48)) := by show _ = _; rw [Go.X.valF_take HC.out, HV.out]
                    have HD2 : Aside ((T.data.toList.take (k + 1)).all Go.X.digB = true) := Go.X.all_take HC.out HB.out HD.out
                    have hb9 : n * 10 + (c.toNat - 48) ≤ 9999999999999999999 := by
                      have := Go.X.valF_lt _ 19 HD2.out (by rw [List.length_take]; have := HL.out; omega)
                      rw [HV2.out] at this
                      omega
                    go_wp2
                    go_roundg (gk - 1)
                    case measure => omega
                    case rel => exact ⟨k + 1, n * 10 + (c.toNat - 48), by omega, by go_num, by go_num, rfl, hb9, HV2.out, HD2.out⟩
                  · have HR : Aside (Go.X.wholeT false T.data.toList = none) := Go.X.whole_other HC.out (by unfold Go.X.digB; simp only [decide_eq_false_iff_not]; exact hd)
                    go_wp2
                    all_goals first
                      | (exfalso; omega)
                      | (go_ret2; exact whole_none HR.out rfl _)
                · have hks : k = T.size := by omega
                  have htk : T.data.toList.take k = T.data.toList := List.take_of_length_le (by rw [← Lib.size_eq]; omega)
                  have HR : Aside (Go.X.wholeT false T.data.toList = if n < 9223372036854775808 then some (n : Int) else none) := by
                    show _ = _
                    rw [Go.X.whole_plain HE.out HL.out HH.out (by rw [← htk]; exact HD.out)]
                    rw [← htk, HV.out]
                  clear htk hks
                  by_cases hm : n < 9223372036854775808
                  · go_wp2
                    go_ret2
                    exact whole_some (HR.out.trans (if_pos hm)) (by omega) (by simp; omega) _
                  · go_wp2
                    go_ret2
                    exact whole_none (HR.out.trans (if_neg hm)) (by simp; omega) _)

theorem whole_any (s : ByteArray) (hs : s.size ≤ 1000000) (w : World) :
    Calls Tryz.prog 82 #[.string s] w fun e w' => ∃ v, e = .returned (.tuple #[.int .i64 v, .bool (Go.X.wholeL s.data.toList).isSome]) ∧ w' = w ∧ ∀ u, Go.X.wholeL s.data.toList = some u → v = u := by
  have h := whole_core s ⟨(Lib.trimPrefix s.data.toList [45]).toArray⟩ (Lib.hasPrefix s.data.toList [45]) (by
    rw [Lib.size_eq]
    have := Lib.trimPrefix_le s.data.toList [45]
    rw [← Lib.size_eq] at this
    exact Nat.le_trans this hs) w (Tryz.strings_CutPrefix s ⟨#[45]⟩ w)
  rw [Go.X.wholeT_eq]
  exact h
end Go.Proofs.YtgioobgahlcdhaaGreatDoor
end

section
/- The reference's one token: digits, a word. -/
namespace Go.Proofs.YtgioobgahlcdhaaGreatDoor
open Go.RowKit Go.Shelf Go.Sort Go.Lib

theorem run_digits (l : List UInt8) : Go.X.runB (Go.X.inB [48, 49, 50, 51, 52, 53, 54, 55, 56, 57]) l = runN digitZ l :=
  Go.X.runB_congr (q := fun c => digitZ (c.toNat : Int)) (Go.X.bytes_all (by decide +kernel)) l
theorem run_signs (l : List UInt8) : Go.X.runB (Go.X.inB [97, 98, 99, 100, 101, 102, 103, 104, 105, 106, 107, 108, 109, 110, 111, 112, 113, 114, 115, 116, 117, 118, 119, 120, 121, 122, 65, 66, 67, 68, 69, 70, 71, 72, 73, 74, 75, 76, 77, 78, 79, 80, 81, 82, 83, 84, 85, 86, 87, 88, 89, 90, 95, 48, 49, 50, 51, 52, 53, 54, 55, 56, 57]) l = runN wordZ l :=
  Go.X.runB_congr (q := fun c => wordZ (c.toNat : Int)) (Go.X.bytes_all (by decide +kernel)) l
theorem among_digits (s : ByteArray) (hs : s.size ≤ 1000000) (w : World) :
    Calls Tryz.prog 159 #[.string s, .string ⟨#[48, 49, 50, 51, 52, 53, 54, 55, 56, 57]⟩] w fun e w' => e = .returned (.int .i64 (runN digitZ s.data.toList)) ∧ w' = w := by
  rw [← run_digits]
  exact among_any s ⟨#[48, 49, 50, 51, 52, 53, 54, 55, 56, 57]⟩ hs w
theorem among_signs (s : ByteArray) (hs : s.size ≤ 1000000) (w : World) :
    Calls Tryz.prog 159 #[.string s, .string ⟨#[97, 98, 99, 100, 101, 102, 103, 104, 105, 106, 107, 108, 109, 110, 111, 112, 113, 114, 115, 116, 117, 118, 119, 120, 121, 122, 65, 66, 67, 68, 69, 70, 71, 72, 73, 74, 75, 76, 77, 78, 79, 80, 81, 82, 83, 84, 85, 86, 87, 88, 89, 90, 95, 48, 49, 50, 51, 52, 53, 54, 55, 56, 57]⟩] w fun e w' => e = .returned (.int .i64 (runN wordZ s.data.toList)) ∧ w' = w := by
  rw [← run_signs]
  exact among_any s ⟨#[97, 98, 99, 100, 101, 102, 103, 104, 105, 106, 107, 108, 109, 110, 111, 112, 113, 114, 115, 116, 117, 118, 119, 120, 121, 122, 65, 66, 67, 68, 69, 70, 71, 72, 73, 74, 75, 76, 77, 78, 79, 80, 81, 82, 83, 84, 85, 86, 87, 88, 89, 90, 95, 48, 49, 50, 51, 52, 53, 54, 55, 56, 57]⟩ hs w

theorem runN_at {p : Int → Bool} {l : List UInt8} {k : Nat} (h : k < runN p l) : ∃ c, l[k]? = some c ∧ p (c.toNat : Int) = true := by
  unfold runN at h
  obtain ⟨r, hr⟩ := List.takeWhile_prefix (fun c : UInt8 => p c.toNat) (l := l)
  obtain ⟨d, hd⟩ : ∃ d, (l.takeWhile fun c => p c.toNat)[k]? = some d := ⟨_, List.getElem?_eq_getElem h⟩
  refine ⟨d, ?_, ?_⟩
  · rw [← hr, List.getElem?_append_left h]
    exact hd
  · exact List.all_eq_true.1 (List.all_takeWhile (p := fun c : UInt8 => p c.toNat) (l := l)) d (List.mem_of_getElem? hd)
theorem digitZ_B (c : UInt8) : digitZ (c.toNat : Int) = Go.X.digB c := by
  unfold digitZ Go.X.digB
  rw [Bool.eq_iff_iff]
  simp
  omega
theorem numberR_none {s : ByteArray} (h : (match Lib.parseIntB 64 (s.extract 0 (runN digitZ s.data.toList)).data.toList with | .ok v => some v | _ => none) = none) : numberR s = (tok0, 0, 6) := by
  unfold numberR
  split
  · rename_i x hx
    rw [hx] at h
    cases h
  · rfl
theorem numberR_some {s : ByteArray} {v : Int} (h : (match Lib.parseIntB 64 (s.extract 0 (runN digitZ s.data.toList)).data.toList with | .ok v => some v | _ => none) = some v) :
    numberR s = if 1 < runN digitZ s.data.toList ∧ s.data.toList.head? = some 48 then (tok0, 0, 6) else ((⟨2, s.extract 0 (runN digitZ s.data.toList), v, 0⟩ : Tok), ((runN digitZ s.data.toList : Nat) : Int), (0 : Int)) := by
  unfold numberR
  split
  · rename_i x hx
    rw [hx] at h
    cases h
    rfl
  · rename_i hx
    split at h
    · rename_i x hx'
      exact absurd hx' (hx x)
    · cases h
theorem number_loop (s : ByteArray) (n : Nat) (hn : runN digitZ s.data.toList = n) (h1 : 1 ≤ n) :
    (Go.X.loopD (s.data.toList.take n) 0 = none → numberR s = (tok0, 0, 6)) ∧
    (∀ x : Nat, Go.X.loopD (s.data.toList.take n) 0 = some x → 9223372036854775807 < x → numberR s = (tok0, 0, 6)) ∧
    (∀ x : Nat, Go.X.loopD (s.data.toList.take n) 0 = some x → ¬ 9223372036854775807 < x → numberR s = if 1 < n ∧ s.data.toList.head? = some 48 then (tok0, 0, 6) else ((⟨2, s.extract 0 n, x, 0⟩ : Tok), (n : Int), (0 : Int))) := by
  have hd : (s.data.toList.take n).all Go.X.digB = true := by
    rw [List.all_eq_true]
    intro c hc
    obtain ⟨k, hk⟩ := List.mem_iff_getElem?.1 hc
    rw [List.getElem?_take] at hk
    split at hk
    · rename_i hkn
      obtain ⟨d, h2, h3⟩ := runN_at (p := digitZ) (l := s.data.toList) (k := k) (by omega)
      rw [h2] at hk
      cases hk
      rw [← digitZ_B]
      exact h3
    · cases hk
  have hne : s.data.toList.take n ≠ [] := by
    intro he
    have := congrArg List.length he
    rw [List.length_take, List.length_nil] at this
    have := runN_le digitZ s.data.toList
    omega
  have hp := Go.X.loop_parse _ hne hd
  have he : (s.extract 0 (runN digitZ s.data.toList)).data.toList = s.data.toList.take n := by
    rw [Lib.extract_data, hn]
    simp
  rw [← he] at hp
  refine ⟨fun h => ?_, fun x h hx => ?_, fun x h hx => ?_⟩
  · rw [he] at hp
    rw [h] at hp
    rw [← he] at hp
    exact numberR_none hp
  · rw [he] at hp
    rw [h] at hp
    simp only [Option.bind_some] at hp
    rw [if_pos hx] at hp
    rw [← he] at hp
    exact numberR_none hp
  · rw [he] at hp
    rw [h] at hp
    simp only [Option.bind_some] at hp
    rw [if_neg hx] at hp
    rw [← he] at hp
    have := numberR_some (v := (x : Int)) hp
    rw [hn] at this
    exact this

set_option maxHeartbeats 3200000 in
set_option maxRecDepth 1000000 in
theorem one21_number (s : ByteArray) (hs : s.size ≤ 1000000) (h1 : 0 < s.size) (hd : digitZ ((s[0]'h1).toNat : Int) = true) (w : World) :
    Calls Tryz.prog 121 #[.string s] w fun e w' => e = .returned (.tuple #[(numberR s).1.v, .int .i64 (numberR s).2.1, .int .i64 (numberR s).2.2]) ∧ Later w w' := by
  obtain ⟨n, hn⟩ : ∃ n, runN digitZ s.data.toList = n := ⟨_, rfl⟩
  have hle : n ≤ s.size := by rw [← hn, Lib.size_eq]; exact runN_le _ _
  have hn1 : 1 ≤ n := by rw [← hn]; exact runN_pos _ _ _ (by rw [List.head?_eq_getElem?]; exact byte_at s 0 h1) hd
  have HAT : Aside (∀ k, k < n → ∃ c, s.data.toList[k]? = some c ∧ Go.X.digB c = true) := fun k hk => by
    obtain ⟨c, h2, h3⟩ := runN_at (p := digitZ) (l := s.data.toList) (k := k) (by omega)
    exact ⟨c, h2, by rw [← digitZ_B]; exact h3⟩
  obtain ⟨l1, l2, l3⟩ := number_loop s n hn hn1
  have L1 : Aside (Go.X.loopD (s.data.toList.take n) 0 = none → numberR s = (tok0, 0, 6)) := l1
  have L2 : Aside (∀ x : Nat, Go.X.loopD (s.data.toList.take n) 0 = some x → 9223372036854775807 < x → numberR s = (tok0, 0, 6)) := l2
  have L3 : Aside (∀ x : Nat, Go.X.loopD (s.data.toList.take n) 0 = some x → ¬ 9223372036854775807 < x → numberR s = if 1 < n ∧ s.data.toList.head? = some 48 then (tok0, 0, 6) else ((⟨2, s.extract 0 n, x, 0⟩ : Tok), (n : Int), (0 : Int))) := l3
  have HAM : Aside (∀ w, Calls Tryz.prog 159 #[.string s, .string ⟨#[48, 49, 50, 51, 52, 53, 54, 55, 56, 57]⟩] w fun e w' => e = .returned (.int .i64 n) ∧ w' = w) := fun w => by
    have := among_digits s hs w
    rw [hn] at this
    exact this
  clear l1 l2 l3 hn hd
  go_enter Tryz.func121, Tryz.ntmps121
  go_wp2_with (go_at_call 159; (with_reducible refine Calls.mono (HAM.out _) ?_); rintro e w1 ⟨rfl, rfl⟩)
  go_loopg [6, 20] n (fun g xv i wr => ∃ (k x : Nat), k + g = n ∧ i = .int .i64 k ∧ xv = .int .u64 x ∧ x ≤ 9223372036854775809 ∧ Aside (Later w wr) ∧ Aside (Four wr w.heap.size (.int .i64 0) (.string ⟨#[]⟩) (.int .i64 0) (.int .i64 0)) ∧
    Aside (Go.X.loopD (s.data.toList.take n) 0 = Go.X.loopD ((s.data.toList.take n).drop k) x))
  case atStart => exact ⟨0, 0, by omega, rfl, rfl, by omega, (Below.refl _ w).alloc (Nat.le_refl _) _, Four.new w _ _ _ _ _, rfl⟩
  case round =>
    obtain ⟨k, x, hk, rfl, rfl, hx9, HL, H4, HLP⟩ := hrel
    obtain ⟨⟨c0, c1, c2, c3⟩, f0, f1, f2, f3⟩ := id H4.out
    by_cases hlt : k < n
    · obtain ⟨c, hc, hcd⟩ := HAT.out k hlt
      have hks : k < s.size := by omega
      have hcb : s[k]'hks = c := by
        have := byte_at s k hks
        rw [hc] at this
        exact (Option.some.inj this).symm
      have HST : Aside (Go.X.loopD ((s.data.toList.take n).drop k) x = if 922337203685477580 < x then none else Go.X.loopD ((s.data.toList.take n).drop (k + 1)) (10 * x + (c.toNat - 48))) := by
        show _ = _
        rw [Lib.drop_at (l := s.data.toList.take n) (k := k) (by rw [List.getElem?_take, if_pos hlt]; exact hc)]
        first | done | rfl
      have hc48 : 48 ≤ c.toNat ∧ c.toNat ≤ 57 := by
        unfold Go.X.digB at hcd
        simpa using hcd
      obtain ⟨hc1, hc2⟩ := hc48
      clear hc hcd
      by_cases hbig : 922337203685477580 < x
      · have HR : Aside (numberR s = (tok0, 0, 6)) := L1.out (by rw [HLP.out, HST.out, if_pos hbig])
        go_wp2
        refine ret_tok rfl rfl H4.out rfl ⟨?_, below_put4 HL.out (Nat.le_refl _) _ _ _ _⟩
        rw [HR.out]
        try rfl
      · go_wp2
        go_roundg (gk - 1)
        case measure => omega
        case rel => exact ⟨k + 1, 10 * x + (c.toNat - 48), by omega, by go_num, by go_num, by omega, HL.out, H4.out, by show _ = _; rw [HLP.out, HST.out, if_neg hbig]⟩
    · have hkn : k = n := by omega
      have HEND : Aside (Go.X.loopD (s.data.toList.take n) 0 = some x) := by
        show _ = _
        rw [HLP.out, List.drop_eq_nil_of_le (by rw [List.length_take]; omega)]
        first | done | rfl
      clear hkn
      by_cases hbig : 9223372036854775807 < x
      · have HR : Aside (numberR s = (tok0, 0, 6)) := L2.out x HEND.out hbig
        go_wp2
        refine ret_tok rfl rfl H4.out rfl ⟨?_, below_put4 HL.out (Nat.le_refl _) _ _ _ _⟩
        rw [HR.out]
        try rfl
      · have HR : Aside _ := L3.out x HEND.out hbig
        by_cases hz : 1 < n ∧ ((s[0]'h1).toNat : Int) = 48
        · obtain ⟨hz1, hz2⟩ := hz
          have HR2 : Aside (numberR s = (tok0, 0, 6)) := by show _ = _; rw [HR.out, if_pos ⟨hz1, (head_is s h1 48).2 hz2⟩]
          have hz3 : (((s[0]'h1).toNat : Int) == 48) = true := by simp only [beq_iff_eq]; exact hz2
          clear hz2
          go_wp2
          refine ret_tok rfl rfl H4.out rfl ⟨?_, below_put4 HL.out (Nat.le_refl _) _ _ _ _⟩
          rw [HR2.out]
          try rfl
        · have HR2 : Aside (numberR s = (⟨2, s.extract 0 n, x, 0⟩, (n : Int), 0)) := by show _ = _; rw [HR.out, if_neg (fun h => hz ⟨h.1, (head_is s h1 48).1 h.2⟩)]
          go_wp2
          all_goals first
            | (exfalso; apply hz; constructor <;> first | omega | (simp only [beq_iff_eq] at *; omega))
            | skip
          all_goals (
            refine ret_tok rfl rfl H4.out rfl ⟨?_, below_put4 HL.out (Nat.le_refl _) _ _ _ _⟩
            rw [HR2.out]
            try rfl)

set_option maxHeartbeats 1600000 in
set_option maxRecDepth 1000000 in
theorem one21_word (s : ByteArray) (hs : s.size ≤ 1000000) (h1 : 0 < s.size) (hd : digitZ ((s[0]'h1).toNat : Int) = false) (hw : wordZ ((s[0]'h1).toNat : Int) = true) (w : World) :
    Calls Tryz.prog 121 #[.string s] w fun e w' => e = .returned (.tuple #[(⟨1, s.extract 0 (runN wordZ s.data.toList), 0, 0⟩ : Tok).v, .int .i64 (runN wordZ s.data.toList), .int .i64 0]) ∧ Later w w' := by
  have HD0 : runN digitZ s.data.toList = 0 := by
    have := runN_stop digitZ s.data.toList 0 _ (byte_at s 0 h1) hd
    simpa using this
  obtain ⟨n, hn⟩ : ∃ n, runN wordZ s.data.toList = n := ⟨_, rfl⟩
  have hle : n ≤ s.size := by rw [← hn, Lib.size_eq]; exact runN_le _ _
  have hn1 : 1 ≤ n := by rw [← hn]; exact runN_pos _ _ _ (by rw [List.head?_eq_getElem?]; exact byte_at s 0 h1) hw
  have HAM : Aside (∀ w, Calls Tryz.prog 159 #[.string s, .string ⟨#[48, 49, 50, 51, 52, 53, 54, 55, 56, 57]⟩] w fun e w' => e = .returned (.int .i64 0) ∧ w' = w) := fun w => by
    have := among_digits s hs w
    rw [HD0] at this
    exact this
  have HAS : Aside (∀ w, Calls Tryz.prog 159 #[.string s, .string ⟨#[97, 98, 99, 100, 101, 102, 103, 104, 105, 106, 107, 108, 109, 110, 111, 112, 113, 114, 115, 116, 117, 118, 119, 120, 121, 122, 65, 66, 67, 68, 69, 70, 71, 72, 73, 74, 75, 76, 77, 78, 79, 80, 81, 82, 83, 84, 85, 86, 87, 88, 89, 90, 95, 48, 49, 50, 51, 52, 53, 54, 55, 56, 57]⟩] w fun e w' => e = .returned (.int .i64 n) ∧ w' = w) := fun w => by
    have := among_signs s hs w
    rw [hn] at this
    exact this
  rw [hn]
  clear hn hd hw HD0
  go_enter Tryz.func121, Tryz.ntmps121
  go_wp2_with (first
    | (go_at_call 159; (with_reducible refine Calls.mono (HAM.out _) ?_); rintro e w1 ⟨rfl, rfl⟩)
    | (go_at_call 159; (with_reducible refine Calls.mono (HAS.out _) ?_); rintro e w1 ⟨rfl, rfl⟩))
  refine ret_tok_new rfl rfl rfl ⟨?_, (Below.refl _ w).alloc (Nat.le_refl _) _⟩
  try rfl
end Go.Proofs.YtgioobgahlcdhaaGreatDoor
end

section
/- The reference's one token: a text, a sign; at every text. -/
namespace Go.Proofs.YtgioobgahlcdhaaGreatDoor
open Go.RowKit Go.Shelf Go.Sort Go.Lib

theorem bytes_app (a b : ByteArray) : (a ++ b).data.toList = a.data.toList ++ b.data.toList := by
  rw [ByteArray.data_append, Array.toList_append]
theorem app_one (a : ByteArray) (b : UInt8) : (a ++ (⟨#[b]⟩ : ByteArray)).size = a.size + 1 := by
  rw [ByteArray.size_append]
  first | done | rfl
theorem mk_back (a : ByteArray) : (⟨a.data.toList.toArray⟩ : ByteArray) = a := by
  obtain ⟨⟨l⟩⟩ := a
  rfl
theorem cut_one (s : ByteArray) (k : Nat) (c : UInt8) (h : s.data.toList[k]? = some c) : (s.extract k (k + 1)).data.toList = [c] := by
  rw [Lib.extract_data, Lib.drop_at h, Nat.add_sub_cancel_left]
  first | done | rfl

theorem not_word (s : ByteArray) (hs : s.size ≤ 1000000) (h1 : 0 < s.size) (hw : wordZ ((s[0]'h1).toNat : Int) = false) :
    (∀ w, Calls Tryz.prog 159 #[.string s, .string ⟨#[48, 49, 50, 51, 52, 53, 54, 55, 56, 57]⟩] w fun e w' => e = .returned (.int .i64 0) ∧ w' = w) ∧
    (∀ w, Calls Tryz.prog 159 #[.string s, .string ⟨#[97, 98, 99, 100, 101, 102, 103, 104, 105, 106, 107, 108, 109, 110, 111, 112, 113, 114, 115, 116, 117, 118, 119, 120, 121, 122, 65, 66, 67, 68, 69, 70, 71, 72, 73, 74, 75, 76, 77, 78, 79, 80, 81, 82, 83, 84, 85, 86, 87, 88, 89, 90, 95, 48, 49, 50, 51, 52, 53, 54, 55, 56, 57]⟩] w fun e w' => e = .returned (.int .i64 0) ∧ w' = w) := by
  have hd : digitZ ((s[0]'h1).toNat : Int) = false := by
    unfold wordZ at hw
    unfold digitZ
    simp only [Bool.or_eq_false_iff] at hw
    exact hw.2
  refine ⟨fun w => ?_, fun w => ?_⟩
  · have := among_digits s hs w
    rw [show runN digitZ s.data.toList = 0 by have := runN_stop digitZ s.data.toList 0 _ (byte_at s 0 h1) hd; simpa using this] at this
    exact this
  · have := among_signs s hs w
    rw [show runN wordZ s.data.toList = 0 by have := runN_stop wordZ s.data.toList 0 _ (byte_at s 0 h1) hw; simpa using this] at this
    exact this

set_option maxHeartbeats 4000000 in
set_option maxRecDepth 1000000 in
theorem one21_text (s : ByteArray) (hs : s.size ≤ 1000000) (h1 : 0 < s.size) (h34 : (s[0]'h1).toNat = 34) (w : World) :
    Calls Tryz.prog 121 #[.string s] w fun e w' => e = .returned (.tuple #[(quotedR s).1.v, .int .i64 (quotedR s).2.1, .int .i64 (quotedR s).2.2]) ∧ Later w w' := by
  have hR : Hid (quotedR s = match quotedS (s.data.toList.drop 1) [] 1 with | some (t, n) => (⟨3, ⟨t.toArray⟩, 0, 0⟩, n, 0) | none => (tok0, 0, 1)) := rfl
  obtain ⟨m1, m2⟩ := not_word s hs h1 (by rw [h34]; decide)
  have HAM : Aside (∀ w, Calls Tryz.prog 159 #[.string s, .string ⟨#[48, 49, 50, 51, 52, 53, 54, 55, 56, 57]⟩] w fun e w' => e = .returned (.int .i64 0) ∧ w' = w) := m1
  have HAS : Aside (∀ w, Calls Tryz.prog 159 #[.string s, .string ⟨#[97, 98, 99, 100, 101, 102, 103, 104, 105, 106, 107, 108, 109, 110, 111, 112, 113, 114, 115, 116, 117, 118, 119, 120, 121, 122, 65, 66, 67, 68, 69, 70, 71, 72, 73, 74, 75, 76, 77, 78, 79, 80, 81, 82, 83, 84, 85, 86, 87, 88, 89, 90, 95, 48, 49, 50, 51, 52, 53, 54, 55, 56, 57]⟩] w fun e w' => e = .returned (.int .i64 0) ∧ w' = w) := m2
  have h340 : (((s[0]'h1).toNat : Int) == 34) = true := by simp only [beq_iff_eq]; omega
  clear m1 m2 h34
  go_enter Tryz.func121, Tryz.ntmps121
  go_wp2_with (first
    | (go_at_call 159; (with_reducible refine Calls.mono (HAM.out _) ?_); rintro e w1 ⟨rfl, rfl⟩)
    | (go_at_call 159; (with_reducible refine Calls.mono (HAS.out _) ?_); rintro e w1 ⟨rfl, rfl⟩))
  go_loopg [9, 10] (s.size - 1) (fun g tv i wr => ∃ (k : Nat) (acc : ByteArray), k + g = s.size ∧ i = .int .i64 k ∧ tv = .string acc ∧ acc.size ≤ k ∧
      Aside (Later w wr) ∧ Aside (Four wr w.heap.size (.int .i64 0) (.string ⟨#[]⟩) (.int .i64 0) (.int .i64 0)) ∧ Aside (quotedS (s.data.toList.drop 1) [] 1 = quotedS (s.data.toList.drop k) acc.data.toList k))
  case atStart => exact ⟨1, ⟨#[]⟩, by omega, rfl, rfl, by decide, (Below.refl _ w).alloc (Nat.le_refl _) _, Four.new w _ _ _ _ _, rfl⟩
  case round =>
    obtain ⟨k, acc, hk, rfl, rfl, hal, HL, H4, HA⟩ := hrel
    obtain ⟨⟨c0, c1, c2, c3⟩, f0, f1, f2, f3⟩ := id H4.out
    by_cases hlt : k < s.size
    · have HQ : Aside _ := quoted_step s.data.toList acc.data.toList k _ (byte_at s k hlt)
      obtain ⟨c, hcb⟩ : ∃ c, s[k]'hlt = c := ⟨_, rfl⟩
      rw [hcb] at HQ
      have HC : Aside (s.data.toList[k]? = some c) := by rw [← hcb]; exact byte_at s k hlt
      by_cases e34 : c.toNat = 34
      · have b34 : ((c.toNat : Int) == 34) = true := by simp only [beq_iff_eq]; omega
        have HR2 : Aside (quotedR s = (⟨3, acc, 0, 0⟩, ((k + 1 : Nat) : Int), 0)) := by
          show _ = _
          have h := quoted_some hR (HA.out.trans (HQ.out.trans (by rw [if_pos e34])))
          rw [mk_back] at h
          exact h
        clear e34
        go_wp2
        refine ret_tok rfl rfl H4.out rfl ⟨?_, below_put4 HL.out (Nat.le_refl _) _ _ _ _⟩
        rw [HR2.out]
        try rfl
      · have b34 : ((c.toNat : Int) == 34) = false := by simp only [beq_eq_false_iff_ne]; omega
        by_cases e92 : c.toNat = 92
        · have b92 : ((c.toNat : Int) == 92) = true := by simp only [beq_iff_eq]; omega
          by_cases hk1 : k + 1 < s.size
          · obtain ⟨d, hdb⟩ : ∃ d, s[k + 1]'hk1 = d := ⟨_, rfl⟩
            have HD : Aside (s.data.toList[k + 1]? = some d) := by rw [← hdb]; exact byte_at s (k + 1) hk1
            have HQ2 : Aside (quotedS (s.data.toList.drop k) acc.data.toList k = if d.toNat = 34 ∨ d.toNat = 92 then quotedS (s.data.toList.drop (k + 2)) (acc.data.toList ++ [d]) (k + 2) else if d.toNat = 110 then quotedS (s.data.toList.drop (k + 2)) (acc.data.toList ++ [10]) (k + 2) else none) := by
              show _ = _
              rw [HQ.out, if_neg e34, if_pos e92, HD.out]
            have hub := u8_back d
            by_cases d34 : d.toNat = 34
            · have hd : d = 34 := UInt8.toNat_inj.1 d34
              have HI : Aside (∀ w, Calls Tryz.prog 120 #[.string ⟨#[34, 92, 110]⟩, .int .u8 d.toNat] w fun e w' => e = .returned (.int .i64 0) ∧ w' = w) := fun w => by
                have := Tryz.strings_IndexByte ⟨#[34, 92, 110]⟩ d.toNat w
                rw [hub, hd] at this
                rw [hd]
                exact this
              have HA3 : Aside (quotedS (s.data.toList.drop 1) [] 1 = quotedS (s.data.toList.drop (k + 2)) (acc ++ (⟨#[34]⟩ : ByteArray)).data.toList (k + 2)) := by
                show _ = _
                rw [HA.out, HQ2.out, if_pos (.inl d34), bytes_app, hd]
                first | done | rfl
              clear d34 e34 e92 hub hd
              go_wp2_with (go_at_call 120; (with_reducible refine Calls.mono (HI.out _) ?_); rintro e w1 ⟨rfl, rfl⟩)
              go_roundg (gk - 2)
              case measure => omega
              case rel => exact ⟨k + 2, acc ++ (⟨#[34]⟩ : ByteArray), by omega, by go_num, rfl, by rw [app_one]; omega, HL.out, H4.out, HA3.out⟩
            · by_cases d92 : d.toNat = 92
              · have hd : d = 92 := UInt8.toNat_inj.1 d92
                have HI : Aside (∀ w, Calls Tryz.prog 120 #[.string ⟨#[34, 92, 110]⟩, .int .u8 d.toNat] w fun e w' => e = .returned (.int .i64 1) ∧ w' = w) := fun w => by
                  have := Tryz.strings_IndexByte ⟨#[34, 92, 110]⟩ d.toNat w
                  rw [hub, hd] at this
                  rw [hd]
                  exact this
                have HA3 : Aside (quotedS (s.data.toList.drop 1) [] 1 = quotedS (s.data.toList.drop (k + 2)) (acc ++ (⟨#[92]⟩ : ByteArray)).data.toList (k + 2)) := by
                  show _ = _
                  rw [HA.out, HQ2.out, if_pos (.inr d92), bytes_app, hd]
                  first | done | rfl
                clear d34 d92 e34 e92 hub hd
                go_wp2_with (go_at_call 120; (with_reducible refine Calls.mono (HI.out _) ?_); rintro e w1 ⟨rfl, rfl⟩)
                go_roundg (gk - 2)
                case measure => omega
                case rel => exact ⟨k + 2, acc ++ (⟨#[92]⟩ : ByteArray), by omega, by go_num, rfl, by rw [app_one]; omega, HL.out, H4.out, HA3.out⟩
              · by_cases d110 : d.toNat = 110
                · have hd : d = 110 := UInt8.toNat_inj.1 d110
                  have HI : Aside (∀ w, Calls Tryz.prog 120 #[.string ⟨#[34, 92, 110]⟩, .int .u8 d.toNat] w fun e w' => e = .returned (.int .i64 2) ∧ w' = w) := fun w => by
                    have := Tryz.strings_IndexByte ⟨#[34, 92, 110]⟩ d.toNat w
                    rw [hub, hd] at this
                    rw [hd]
                    exact this
                  have HA3 : Aside (quotedS (s.data.toList.drop 1) [] 1 = quotedS (s.data.toList.drop (k + 2)) (acc ++ (⟨#[10]⟩ : ByteArray)).data.toList (k + 2)) := by
                    show _ = _
                    rw [HA.out, HQ2.out, if_neg (by omega), if_pos d110, bytes_app]
                  clear d34 d92 d110 e34 e92 hub hd
                  go_wp2_with (go_at_call 120; (with_reducible refine Calls.mono (HI.out _) ?_); rintro e w1 ⟨rfl, rfl⟩)
                  go_roundg (gk - 2)
                  case measure => omega
                  case rel => exact ⟨k + 2, acc ++ (⟨#[10]⟩ : ByteArray), by omega, by go_num, rfl, by rw [app_one]; omega, HL.out, H4.out, HA3.out⟩
                · have HI : Aside (∀ w, Calls Tryz.prog 120 #[.string ⟨#[34, 92, 110]⟩, .int .u8 d.toNat] w fun e w' => e = .returned (.int .i64 (-1)) ∧ w' = w) := fun w => by
                    have := Tryz.strings_IndexByte ⟨#[34, 92, 110]⟩ d.toNat w
                    have hi : Lib.indexByte (⟨#[34, 92, 110]⟩ : ByteArray).data.toList d = -1 := by
                      have n1 : ((34 : UInt8) == d) = false := by simp only [beq_eq_false_iff_ne]; rintro rfl; exact d34 rfl
                      have n2 : ((92 : UInt8) == d) = false := by simp only [beq_eq_false_iff_ne]; rintro rfl; exact d92 rfl
                      have n3 : ((110 : UInt8) == d) = false := by simp only [beq_eq_false_iff_ne]; rintro rfl; exact d110 rfl
                      show Lib.indexByte [34, 92, 110] d = -1
                      simp [Lib.indexByte, n1, n2, n3]
                    rw [hub, hi] at this
                    exact this
                  have HR2 : Aside (quotedR s = (tok0, 0, 1)) := quoted_none hR (HA.out.trans (HQ2.out.trans (by rw [if_neg (by omega), if_neg d110])))
                  clear d34 d92 d110 e34 e92 hub
                  go_wp2_with (go_at_call 120; (with_reducible refine Calls.mono (HI.out _) ?_); rintro e w1 ⟨rfl, rfl⟩)
                  refine ret_tok rfl rfl H4.out rfl ⟨?_, below_put4 HL.out (Nat.le_refl _) _ _ _ _⟩
                  rw [HR2.out]
                  try rfl
          · have HR2 : Aside (quotedR s = (tok0, 0, 1)) := by
              have hk1' : s.data.toList[k + 1]? = none := by rw [List.getElem?_eq_none_iff, ← Lib.size_eq]; omega
              exact quoted_none hR (HA.out.trans (HQ.out.trans (by rw [hk1', if_neg e34, if_pos e92])))
            clear e34 e92
            go_wp2
            refine ret_tok rfl rfl H4.out rfl ⟨?_, below_put4 HL.out (Nat.le_refl _) _ _ _ _⟩
            rw [HR2.out]
            try rfl
        · have b92 : ((c.toNat : Int) == 92) = false := by simp only [beq_eq_false_iff_ne]; omega
          by_cases hr : c.toNat < 32 ∨ 126 < c.toNat
          · have HR2 : Aside (quotedR s = (tok0, 0, 1)) := quoted_none hR (HA.out.trans (HQ.out.trans (by rw [if_neg e34, if_neg e92, if_pos hr])))
            clear e34 e92
            go_wp2
            all_goals first
              | (exfalso; omega)
              | (refine ret_tok rfl rfl H4.out rfl ⟨?_, below_put4 HL.out (Nat.le_refl _) _ _ _ _⟩
                 rw [HR2.out]
                 try rfl)
          · have HA3 : Aside (quotedS (s.data.toList.drop 1) [] 1 = quotedS (s.data.toList.drop (k + 1)) (acc ++ s.extract k (k + 1)).data.toList (k + 1)) := by
              show _ = _
              rw [HA.out, HQ.out, if_neg e34, if_neg e92, if_neg hr, bytes_app, cut_one s k c HC.out]
            obtain ⟨hr1, hr2⟩ : 32 ≤ c.toNat ∧ c.toNat ≤ 126 := by omega
            clear hr e34 e92
            go_wp2
            go_roundg (gk - 1)
            case measure => omega
            case rel => exact ⟨k + 1, acc ++ s.extract k (k + 1), by omega, by go_num, rfl, by simp [ByteArray.size_append]; omega, HL.out, H4.out, HA3.out⟩
    · have HR2 : Aside (quotedR s = (tok0, 0, 1)) := quoted_none hR (HA.out.trans (by rw [List.drop_eq_nil_of_le (by rw [← Lib.size_eq]; omega)]; first | done | rfl))
      go_wp2
      refine ret_tok rfl rfl H4.out rfl ⟨?_, below_put4 HL.out (Nat.le_refl _) _ _ _ _⟩
      rw [HR2.out]
      try rfl
end Go.Proofs.YtgioobgahlcdhaaGreatDoor
end
