/- Parts of the proof: Wi, Wj, Va, Ua, Wk, Wl, Wm. -/
import Derived.Lib.ParseIntBTie
import Derived.Lib.AtoiAllCases
import Derived.Deep.RegionLaw
import Derived.Test.YtlkhkalniekaoaaGreatDoorQav
import Derived.Test.YtlkhkalniekaoaaGreatDoorQaa

set_option linter.unusedVariables false
set_option linter.unusedSimpArgs false

section
/- Blocks of three and of five cells; paling/value's Truth, Number, Words. -/
namespace Go.Proofs.YtlkhkalniekaoaaGreatDoor
open Go.RowKit Go.Shelf Go.Sort Go.Lib

theorem results_row1 {P : Program} {fn : Func} {p : Tmp} {ty : TypeId} (h : fn.results = #[.cell p ty]) (tmps : Array Value) (w : World) (b o : Nat) (cs : List Value) (d : TypeDesc)
    (hp : tmps.getD p undef = .pointer (some ⟨b, o, none⟩)) (hc : w.rangeAt b o cs) (hu : P.underlying ty = some d) (hd : d.isRow = true) (hi : (P.info? ty).map (·.size) = some cs.length) :
    (results fn tmps).run P w = .ok (.agg cs.toArray) w := by
  have hl := run_loadVar_mid w b o ty cs d hc hu hd hi
  have hp' : tmps[p]?.getD undef = .pointer (some ⟨b, o, none⟩) := by simpa using hp
  simp only [results, h]
  simp [Sem.run_bind, Result.andThen, hp', asAddr, hl]

/-- A block of 3 cells, none frozen. -/
def Three (w : World) (b : Nat) (x0 x1 x2 : Value) : Prop :=
  (w.cell? ⟨b, 0, none⟩ = some x0 ∧ w.cell? ⟨b, 1, none⟩ = some x1 ∧ w.cell? ⟨b, 2, none⟩ = some x2) ∧
  w.frozen? ⟨b, 0, none⟩ = false ∧ w.frozen? ⟨b, 1, none⟩ = false ∧ w.frozen? ⟨b, 2, none⟩ = false
theorem Three.new (w : World) (y0 y1 y2 : Value) (T : TypeId) : Three (w.alloc (.cells #[y0, y1, y2] T)) w.heap.size y0 y1 y2 := by
  refine ⟨⟨?_, ?_, ?_⟩, ?_, ?_, ?_⟩
  · rw [World.cell?_alloc_at _ _ _ _ (by simp)]; first | done | rfl
  · rw [World.cell?_alloc_at _ _ _ _ (by simp)]; first | done | rfl
  · rw [World.cell?_alloc_at _ _ _ _ (by simp)]; first | done | rfl
  · exact World.frozen?_alloc_at _ _ _ _ rfl
  · exact World.frozen?_alloc_at _ _ _ _ rfl
  · exact World.frozen?_alloc_at _ _ _ _ rfl
theorem Three.later {w w' : World} {b : Nat} {x0 x1 x2 : Value} {B : Nat} (h : Three w b x0 x1 x2) (k : Below B w w') (hB : b < B) : Three w' b x0 x1 x2 := by
  obtain ⟨⟨c0, c1, c2⟩, f0, f1, f2⟩ := h
  exact ⟨⟨(k.cell hB).trans c0, (k.cell hB).trans c1, (k.cell hB).trans c2⟩, (k.frozen hB).trans f0, (k.frozen hB).trans f1, (k.frozen hB).trans f2⟩
abbrev World.put3 (w : World) (b : Nat) (y0 y1 y2 : Value) : World :=
  (((w.setCell ⟨b, 0, none⟩ y0).setCell ⟨b, 1, none⟩ y1).setCell ⟨b, 2, none⟩ y2)
theorem Three.range {w : World} {b : Nat} {x0 x1 x2 : Value} (h : Three w b x0 x1 x2) (y0 y1 y2 : Value) : (World.put3 w b y0 y1 y2).rangeAt b 0 [y0, y1, y2] := by
  obtain ⟨⟨c0, c1, c2⟩, -⟩ := h
  intro j v hj
  match j, hj with
  | 0, hj => simp at hj; subst hj; simp [World.put3, World.cell?_setCell_other, World.cell?_setCell_same, c0, c1, c2]
  | 1, hj => simp at hj; subst hj; simp [World.put3, World.cell?_setCell_other, World.cell?_setCell_same, c0, c1, c2]
  | 2, hj => simp at hj; subst hj; simp [World.put3, World.cell?_setCell_other, World.cell?_setCell_same, c0, c1, c2]
theorem below_put3 {B : Nat} {a w : World} (h : Below B a w) {b : Nat} (hb : B ≤ b) (y0 y1 y2 : Value) : Below B a (World.put3 w b y0 y1 y2) :=
  (((h.setCell (by simpa using hb) _).setCell (by simpa using hb) _).setCell (by simpa using hb) _)
theorem Three_range_new (w : World) (y0 y1 y2 : Value) (T : TypeId) : (w.alloc (.cells #[y0, y1, y2] T)).rangeAt w.heap.size 0 [y0, y1, y2] := by
  obtain ⟨⟨c0, c1, c2⟩, -⟩ := Three.new w y0 y1 y2 T
  intro j v hj
  match j, hj with
  | 0, hj => simp at hj; subst hj; exact c0
  | 1, hj => simp at hj; subst hj; exact c1
  | 2, hj => simp at hj; subst hj; exact c2
/-- A block of 5 cells, none frozen. -/
def Five (w : World) (b : Nat) (x0 x1 x2 x3 x4 : Value) : Prop :=
  (w.cell? ⟨b, 0, none⟩ = some x0 ∧ w.cell? ⟨b, 1, none⟩ = some x1 ∧ w.cell? ⟨b, 2, none⟩ = some x2 ∧ w.cell? ⟨b, 3, none⟩ = some x3 ∧ w.cell? ⟨b, 4, none⟩ = some x4) ∧
  w.frozen? ⟨b, 0, none⟩ = false ∧ w.frozen? ⟨b, 1, none⟩ = false ∧ w.frozen? ⟨b, 2, none⟩ = false ∧ w.frozen? ⟨b, 3, none⟩ = false ∧ w.frozen? ⟨b, 4, none⟩ = false
theorem Five.new (w : World) (y0 y1 y2 y3 y4 : Value) (T : TypeId) : Five (w.alloc (.cells #[y0, y1, y2, y3, y4] T)) w.heap.size y0 y1 y2 y3 y4 := by
  refine ⟨⟨?_, ?_, ?_, ?_, ?_⟩, ?_, ?_, ?_, ?_, ?_⟩
  · rw [World.cell?_alloc_at _ _ _ _ (by simp)]; first | done | rfl
  · rw [World.cell?_alloc_at _ _ _ _ (by simp)]; first | done | rfl
  · rw [World.cell?_alloc_at _ _ _ _ (by simp)]; first | done | rfl
  · rw [World.cell?_alloc_at _ _ _ _ (by simp)]; first | done | rfl
  · rw [World.cell?_alloc_at _ _ _ _ (by simp)]; first | done | rfl
  · exact World.frozen?_alloc_at _ _ _ _ rfl
  · exact World.frozen?_alloc_at _ _ _ _ rfl
  · exact World.frozen?_alloc_at _ _ _ _ rfl
  · exact World.frozen?_alloc_at _ _ _ _ rfl
  · exact World.frozen?_alloc_at _ _ _ _ rfl
theorem Five.later {w w' : World} {b : Nat} {x0 x1 x2 x3 x4 : Value} {B : Nat} (h : Five w b x0 x1 x2 x3 x4) (k : Below B w w') (hB : b < B) : Five w' b x0 x1 x2 x3 x4 := by
  obtain ⟨⟨c0, c1, c2, c3, c4⟩, f0, f1, f2, f3, f4⟩ := h
  exact ⟨⟨(k.cell hB).trans c0, (k.cell hB).trans c1, (k.cell hB).trans c2, (k.cell hB).trans c3, (k.cell hB).trans c4⟩, (k.frozen hB).trans f0, (k.frozen hB).trans f1, (k.frozen hB).trans f2, (k.frozen hB).trans f3, (k.frozen hB).trans f4⟩
abbrev World.put5 (w : World) (b : Nat) (y0 y1 y2 y3 y4 : Value) : World :=
  (((((w.setCell ⟨b, 0, none⟩ y0).setCell ⟨b, 1, none⟩ y1).setCell ⟨b, 2, none⟩ y2).setCell ⟨b, 3, none⟩ y3).setCell ⟨b, 4, none⟩ y4)
theorem Five.range {w : World} {b : Nat} {x0 x1 x2 x3 x4 : Value} (h : Five w b x0 x1 x2 x3 x4) (y0 y1 y2 y3 y4 : Value) : (World.put5 w b y0 y1 y2 y3 y4).rangeAt b 0 [y0, y1, y2, y3, y4] := by
  obtain ⟨⟨c0, c1, c2, c3, c4⟩, -⟩ := h
  intro j v hj
  match j, hj with
  | 0, hj => simp at hj; subst hj; simp [World.put5, World.cell?_setCell_other, World.cell?_setCell_same, c0, c1, c2, c3, c4]
  | 1, hj => simp at hj; subst hj; simp [World.put5, World.cell?_setCell_other, World.cell?_setCell_same, c0, c1, c2, c3, c4]
  | 2, hj => simp at hj; subst hj; simp [World.put5, World.cell?_setCell_other, World.cell?_setCell_same, c0, c1, c2, c3, c4]
  | 3, hj => simp at hj; subst hj; simp [World.put5, World.cell?_setCell_other, World.cell?_setCell_same, c0, c1, c2, c3, c4]
  | 4, hj => simp at hj; subst hj; simp [World.put5, World.cell?_setCell_other, World.cell?_setCell_same, c0, c1, c2, c3, c4]
theorem below_put5 {B : Nat} {a w : World} (h : Below B a w) {b : Nat} (hb : B ≤ b) (y0 y1 y2 y3 y4 : Value) : Below B a (World.put5 w b y0 y1 y2 y3 y4) :=
  (((((h.setCell (by simpa using hb) _).setCell (by simpa using hb) _).setCell (by simpa using hb) _).setCell (by simpa using hb) _).setCell (by simpa using hb) _)
theorem Five_range_new (w : World) (y0 y1 y2 y3 y4 : Value) (T : TypeId) : (w.alloc (.cells #[y0, y1, y2, y3, y4] T)).rangeAt w.heap.size 0 [y0, y1, y2, y3, y4] := by
  obtain ⟨⟨c0, c1, c2, c3, c4⟩, -⟩ := Five.new w y0 y1 y2 y3 y4 T
  intro j v hj
  match j, hj with
  | 0, hj => simp at hj; subst hj; exact c0
  | 1, hj => simp at hj; subst hj; exact c1
  | 2, hj => simp at hj; subst hj; exact c2
  | 3, hj => simp at hj; subst hj; exact c3
  | 4, hj => simp at hj; subst hj; exact c4

theorem valI : (Tryz.prog.info? 47).map (·.size) = some 3 := by kernel_rfl
theorem argI : (Tryz.prog.info? 49).map (·.size) = some 5 := by kernel_rfl
theorem cmdI : (Tryz.prog.info? 35).map (·.size) = some 4 := by kernel_rfl

theorem ret_val {fn : Func} {p : Tmp} (h : fn.results = #[.cell p 47]) {a : Act} {w : World} {b : Nat} {cs : List Value} {R : Ending → World → Prop}
    (hp : a.tmps.getD p undef = .pointer (some ⟨b, 0, none⟩)) (hl : w.rangeAt b 0 cs) (hn : cs.length = 3) (hd : a.defers = []) (hR : R (.returned (.agg cs.toArray)) w) : bodyPost Tryz.prog fn R .ret a w :=
  bodyPost_ret_by (results_row1 h a.tmps w b 0 cs _ hp hl Tryz.underlying47 rfl (by rw [hn]; exact valI)) hd hR
theorem ret_arg {fn : Func} {p u : Tmp} (h : fn.results = #[.cell p 49, .tmp u]) {a : Act} {w : World} {b : Nat} {cs : List Value} {R : Ending → World → Prop}
    (hp : a.tmps.getD p undef = .pointer (some ⟨b, 0, none⟩)) (hl : w.rangeAt b 0 cs) (hn : cs.length = 5) (hd : a.defers = []) (hR : R (.returned (.tuple #[.agg cs.toArray, a.tmps.getD u undef])) w) : bodyPost Tryz.prog fn R .ret a w :=
  bodyPost_ret_by (results_row2 h a.tmps w b 0 cs _ hp hl Tryz.underlying49 rfl (by rw [hn]; exact argI)) hd hR
theorem ret_cmd {fn : Func} {p u : Tmp} (h : fn.results = #[.cell p 35, .tmp u]) {a : Act} {w : World} {b : Nat} {cs : List Value} {R : Ending → World → Prop}
    (hp : a.tmps.getD p undef = .pointer (some ⟨b, 0, none⟩)) (hl : w.rangeAt b 0 cs) (hn : cs.length = 4) (hd : a.defers = []) (hR : R (.returned (.tuple #[.agg cs.toArray, a.tmps.getD u undef])) w) : bodyPost Tryz.prog fn R .ret a w :=
  bodyPost_ret_by (results_row2 h a.tmps w b 0 cs _ hp hl Tryz.underlying35 rfl (by rw [hn]; exact cmdI)) hd hR

theorem number_val (n : Int) (w : World) : Calls Tryz.prog 12 #[.int .i64 n] w fun e w' => e = .returned (.agg #[.int .u8 2, .int .i64 n, .string ⟨#[]⟩]) ∧ Later w w' := by
  go_enter Tryz.func12, Tryz.ntmps12
  go_wp2
  exact ret_val rfl rfl (Three_range_new _ _ _ _ _) rfl rfl ⟨rfl, (Below.refl _ _).alloc (Nat.le_refl _) _⟩
theorem words_val (s : ByteArray) (w : World) : Calls Tryz.prog 72 #[.string s] w fun e w' => e = .returned (.agg #[.int .u8 3, .int .i64 0, .string s]) ∧ Later w w' := by
  go_enter Tryz.func72, Tryz.ntmps72
  go_wp2
  exact ret_val rfl rfl (Three_range_new _ _ _ _ _) rfl rfl ⟨rfl, (Below.refl _ _).alloc (Nat.le_refl _) _⟩
theorem truth_true (w : World) : Calls Tryz.prog 70 #[.bool true] w fun e w' => e = .returned (.agg #[.int .u8 1, .int .i64 1, .string ⟨#[]⟩]) ∧ Later w w' := by
  go_enter Tryz.func70, Tryz.ntmps70
  go_wp2
  exact ret_val rfl rfl (Three_range_new _ _ _ _ _) rfl rfl ⟨rfl, (Below.refl _ _).alloc (Nat.le_refl _) _⟩
theorem truth_false (w : World) : Calls Tryz.prog 70 #[.bool false] w fun e w' => e = .returned (.agg #[.int .u8 1, .int .i64 0, .string ⟨#[]⟩]) ∧ Later w w' := by
  go_enter Tryz.func70, Tryz.ntmps70
  go_wp2
  exact ret_val rfl rfl (Three_range_new _ _ _ _ _) rfl rfl ⟨rfl, (Below.refl _ _).alloc (Nat.le_refl _) _⟩
end Go.Proofs.YtlkhkalniekaoaaGreatDoor
end

section
/- paling/script.arg at every word. -/
namespace Go.Proofs.YtlkhkalniekaoaaGreatDoor
open Go.RowKit Go.Shelf Go.Sort Go.Lib

/-- A told value. -/
structure Arg where
  k : Int
  n : Int
  s : ByteArray
  h : Int
  is : Bool
def Arg.cells (a : Arg) : List Value := [.int .u8 a.k, .int .i64 a.n, .string a.s, .int .i64 a.h, .bool a.is]
def Arg.v (a : Arg) : Value := .agg a.cells.toArray
def argR (s : ByteArray) : Option Arg :=
  if s.toList = [110, 105, 108] then some ⟨0, 0, ⟨#[]⟩, 0, false⟩
  else if s.toList = [116, 114, 117, 101] then some ⟨1, 1, ⟨#[]⟩, 0, false⟩
  else if s.toList = [102, 97, 108, 115, 101] then some ⟨1, 0, ⟨#[]⟩, 0, false⟩
  else if Lib.hasPrefix s.data.toList [35] then (numS (s.extract 1 s.size)).map fun n => ⟨0, 0, ⟨#[]⟩, n, true⟩
  else if Lib.hasPrefix s.data.toList [34] then
    match splitR s with
    | ([t, _], _, 0) => if t.k = 3 ∧ t.t.size ≤ 200 then some ⟨3, 0, t.t, 0, false⟩ else none
    | _ => none
  else
    match Lib.parseIntB 64 s.data.toList with
    | .ok n => if Lib.itoa n = s.data.toList then some ⟨2, n, ⟨#[]⟩, 0, false⟩ else none
    | _ => none

def ArgPost (s : ByteArray) (w : World) (e : Ending) (w' : World) : Prop :=
  ∃ a : Arg, e = .returned (.tuple #[a.v, .bool (argR s).isSome]) ∧ Later w w' ∧ ∀ b, argR s = some b → a = b
theorem ArgPost.some {s : ByteArray} {w w' : World} {a : Arg} (h : argR s = some a) (hl : Later w w') : ArgPost s w (.returned (.tuple #[a.v, .bool true])) w' :=
  ⟨a, by rw [h]; first | done | rfl, hl, fun b hb => by rw [h] at hb; exact Option.some.inj hb⟩
theorem ArgPost.none {s : ByteArray} {w w' : World} {a : Arg} (h : argR s = none) (hl : Later w w') : ArgPost s w (.returned (.tuple #[a.v, .bool false])) w' :=
  ⟨a, by rw [h]; first | done | rfl, hl, fun b hb => by rw [h] at hb; cases hb⟩

theorem formatInt_any (v : Int) (h : -9223372036854775808 ≤ v ∧ v ≤ 9223372036854775807) (w : World) (hc : Calm w) :
    Calls Tryz.prog 37 #[.int .i64 v, .int .i64 10] w fun e w' => e = .returned (.string ⟨(Lib.itoa v).toArray⟩) ∧ Later w w' := by
  refine (Tryz.strconv_FormatInt_10 v h.1 h.2 w hc.pow).mono ?_
  rintro e w' ⟨rfl, hw⟩
  exact ⟨rfl, later_grow hw⟩

set_option maxHeartbeats 4000000 in
set_option maxRecDepth 1000000 in
theorem arg_nil (s : ByteArray) (w : World) (h : (s.toList == [110, 105, 108]) = true) : Calls Tryz.prog 69 #[.string s] w (ArgPost s w) := by
  have hR : Hid (argR s = some ⟨0, 0, ⟨#[]⟩, 0, false⟩) := by show _ = _; unfold argR; rw [if_pos (by simpa using h)]
  go_enter Tryz.func69, Tryz.ntmps69
  go_wp2
  exact ret_arg rfl rfl (Five_range_new _ _ _ _ _ _ _) rfl rfl (ArgPost.some hR.out ((Below.refl _ _).alloc (Nat.le_refl _) _))

theorem after (w : World) (o : Obj) {w2 : World} (h : Later (w.alloc o) w2) : Later w w2 := ((Below.refl _ w).alloc (Nat.le_refl _) _).trans (h.mono (by simp))

set_option maxHeartbeats 4000000 in
set_option maxRecDepth 1000000 in
theorem arg_true (s : ByteArray) (w : World) (h0 : (s.toList == [110, 105, 108]) = false) (h : (s.toList == [116, 114, 117, 101]) = true) : Calls Tryz.prog 69 #[.string s] w (ArgPost s w) := by
  have hR : Hid (argR s = some ⟨1, 1, ⟨#[]⟩, 0, false⟩) := by show _ = _; unfold argR; rw [if_neg (by simpa using h0), if_pos (by simpa using h)]
  go_enter Tryz.func69, Tryz.ntmps69
  go_wp2_with (go_at_call 70; refine (truth_true _).mono ?_; rintro e w2 ⟨rfl, hbel⟩; have h4 := (Five.new w _ _ _ _ _ _).later hbel (by simp); have H5 : Aside (Five _ _ _ _ _ _ _) := h4; obtain ⟨⟨c0, c1, c2, c3, c4⟩, f0, f1, f2, f3, f4⟩ := id h4; clear h4; have HB : Aside (Later _ _) := hbel; clear hbel)
  refine ret_arg rfl rfl (H5.out.range _ _ _ _ _) rfl rfl ?_
  exact ArgPost.some (a := ⟨1, 1, ⟨#[]⟩, 0, false⟩) hR.out (below_put5 (after w _ HB.out) (Nat.le_refl _) _ _ _ _ _)

set_option maxHeartbeats 4000000 in
set_option maxRecDepth 1000000 in
theorem arg_false (s : ByteArray) (w : World) (h0 : (s.toList == [110, 105, 108]) = false) (h1 : (s.toList == [116, 114, 117, 101]) = false) (h : (s.toList == [102, 97, 108, 115, 101]) = true) : Calls Tryz.prog 69 #[.string s] w (ArgPost s w) := by
  have hR : Hid (argR s = some ⟨1, 0, ⟨#[]⟩, 0, false⟩) := by show _ = _; unfold argR; rw [if_neg (by simpa using h0), if_neg (by simpa using h1), if_pos (by simpa using h)]
  go_enter Tryz.func69, Tryz.ntmps69
  go_wp2_with (go_at_call 70; refine (truth_false _).mono ?_; rintro e w2 ⟨rfl, hbel⟩; have h4 := (Five.new w _ _ _ _ _ _).later hbel (by simp); have H5 : Aside (Five _ _ _ _ _ _ _) := h4; obtain ⟨⟨c0, c1, c2, c3, c4⟩, f0, f1, f2, f3, f4⟩ := id h4; clear h4; have HB : Aside (Later _ _) := hbel; clear hbel)
  refine ret_arg rfl rfl (H5.out.range _ _ _ _ _) rfl rfl ?_
  exact ArgPost.some (a := ⟨1, 0, ⟨#[]⟩, 0, false⟩) hR.out (below_put5 (after w _ HB.out) (Nat.le_refl _) _ _ _ _ _)

set_option maxHeartbeats 4000000 in
set_option maxRecDepth 1000000 in
theorem arg_handle (s : ByteArray) (hs : s.size ≤ 1000000) (w : World) (hc : Calm w) (h0 : (s.toList == [110, 105, 108]) = false) (h1 : (s.toList == [116, 114, 117, 101]) = false) (h2 : (s.toList == [102, 97, 108, 115, 101]) = false) (hp : Lib.hasPrefix s.data.toList [35] = true) : Calls Tryz.prog 69 #[.string s] w (ArgPost s w) := by
  have hR : Hid (argR s = (numS (s.extract 1 s.size)).map fun n => ⟨0, 0, ⟨#[]⟩, n, true⟩) := by show _ = _; unfold argR; rw [if_neg (by simpa using h0), if_neg (by simpa using h1), if_neg (by simpa using h2), if_pos hp]
  have hsz : 1 ≤ s.size := by have := prefix_size _ _ hp; simpa using this
  have hz : (s.extract 1 s.size).size ≤ 1000000 := by simp; omega
  obtain ⟨q, hq⟩ : ∃ q, (numS (s.extract 1 s.size)).isSome = q := ⟨_, rfl⟩
  go_enter Tryz.func69, Tryz.ntmps69
  go_wp2_with (first
    | (go_at_call 103; refine (Tryz.strings_HasPrefix _ _ _).mono ?_; rintro e w1 ⟨rfl, rfl⟩)
    | (go_at_call 43; refine (number_any _ hz _ (hc.later ((Below.refl _ _).alloc (Nat.le_refl _) _))).mono ?_; rintro e w2 ⟨n, rfl, hbel, hn⟩; rw [hq]; have HN : Aside (∀ v, numS (s.extract 1 s.size) = some v → n = v) := hn; clear hn; have h4 := (Five.new w _ _ _ _ _ _).later hbel (by simp); have H5 : Aside (Five _ _ _ _ _ _ _) := h4; obtain ⟨⟨c0, c1, c2, c3, c4⟩, f0, f1, f2, f3, f4⟩ := id h4; clear h4; have HB : Aside (Later _ _) := hbel; clear hbel))
  cases hx : numS (s.extract 1 s.size) with
  | none =>
    rw [hx] at hq
    subst hq
    refine ret_arg rfl rfl (H5.out.range _ _ _ _ _) rfl rfl ?_
    exact ArgPost.none (a := ⟨0, 0, ⟨#[]⟩, n, false⟩) (by rw [hR.out, hx]; first | done | rfl) (below_put5 (after w _ HB.out) (Nat.le_refl _) _ _ _ _ _)
  | some v =>
    have := HN.out v hx
    subst this
    rw [hx] at hq
    subst hq
    refine ret_arg rfl rfl (H5.out.range _ _ _ _ _) rfl rfl ?_
    exact ArgPost.some (a := ⟨0, 0, ⟨#[]⟩, n, true⟩) (by rw [hR.out, hx]; first | done | rfl) (below_put5 (after w _ HB.out) (Nat.le_refl _) _ _ _ _ _)

set_option maxHeartbeats 4000000 in
set_option maxRecDepth 1000000 in
theorem arg_number (s : ByteArray) (hs : s.size ≤ 1000000) (w : World) (hc : Calm w) (h0 : (s.toList == [110, 105, 108]) = false) (h1 : (s.toList == [116, 114, 117, 101]) = false) (h2 : (s.toList == [102, 97, 108, 115, 101]) = false) (hp : Lib.hasPrefix s.data.toList [35] = false) (hp2 : Lib.hasPrefix s.data.toList [34] = false) : Calls Tryz.prog 69 #[.string s] w (ArgPost s w) := by
  have hR0 : argR s = match Lib.parseIntB 64 s.data.toList with | .ok n => if Lib.itoa n = s.data.toList then some ⟨2, n, ⟨#[]⟩, 0, false⟩ else none | _ => none := by
    unfold argR; rw [if_neg (by simpa using h0), if_neg (by simpa using h1), if_neg (by simpa using h2), if_neg (by simp [hp]), if_neg (by simp [hp2])]
  have hc1 : Calm (w.alloc (.cells #[.int .u8 0, .int .i64 0, .string ⟨#[]⟩, .int .i64 0, .bool false] 49)) := hc.later ((Below.refl _ _).alloc (Nat.le_refl _) _)
  by_cases hx : ∃ v, Lib.parseIntB 64 s.data.toList = .ok v
  · obtain ⟨v, hv⟩ := hx
    have hin : -9223372036854775808 ≤ v ∧ v ≤ 9223372036854775807 := by rw [Lib.parseIntB_64] at hv; exact Lib.atoiAll_bounds hv
    obtain ⟨t, ht⟩ : ∃ t : ByteArray, (⟨(Lib.itoa v).toArray⟩ : ByteArray) = t := ⟨_, rfl⟩
    have hte : (t.toList == s.toList) = decide (Lib.itoa v = s.data.toList) := by
      rw [← ht, Lib.toList_data s]; exact mk_eq
    rw [hv] at hR0
    simp only at hR0
    by_cases heq : Lib.itoa v = s.data.toList
    · rw [if_pos heq] at hR0
      have hR : Hid (argR s = some ⟨2, v, ⟨#[]⟩, 0, false⟩) := hR0
      rw [decide_eq_true heq] at hte
      clear heq hR0
      go_enter Tryz.func69, Tryz.ntmps69
      go_wp2_with (first
        | (go_at_call 103; refine (Tryz.strings_HasPrefix _ _ _).mono ?_; rintro e w1 ⟨rfl, rfl⟩)
        | (go_at_call 105; refine (parse_good s hs _ v hv).mono ?_; rintro e w2 ⟨rfl, hb⟩; have HB1 : Aside (Later _ w2) := hb; clear hb)
        | (go_at_call 37; refine (formatInt_any v hin _ (hc1.later HB1.out)).mono ?_; rintro e w3 ⟨rfl, hb⟩; rw [ht]; have hbel := HB1.out.step hb; clear hb; have h4 := (Five.new w _ _ _ _ _ _).later hbel (by simp); have H5 : Aside (Five _ _ _ _ _ _ _) := h4; obtain ⟨⟨c0, c1, c2, c3, c4⟩, f0, f1, f2, f3, f4⟩ := id h4; clear h4; have HB : Aside (Later _ _) := hbel; clear hbel)
        | (go_at_call 12; refine (number_val v _).mono ?_; rintro e w4 ⟨rfl, hb⟩; have HB2 := HB.out.step hb; clear HB; have hbel := HB2; clear hb HB2; have h4 := (Five.new w _ _ _ _ _ _).later hbel (by simp); have H6 : Aside (Five _ _ _ _ _ _ _) := h4; clear c0 c1 c2 c3 c4 f0 f1 f2 f3 f4; obtain ⟨⟨c0, c1, c2, c3, c4⟩, f0, f1, f2, f3, f4⟩ := id h4; clear h4; have HB : Aside (Later _ _) := hbel; clear hbel))
      refine ret_arg rfl rfl (H6.out.range _ _ _ _ _) rfl rfl ?_
      exact ArgPost.some (a := ⟨2, v, ⟨#[]⟩, 0, false⟩) hR.out (below_put5 (after w _ HB.out) (Nat.le_refl _) _ _ _ _ _)
    · rw [if_neg heq] at hR0
      have hR : Hid (argR s = none) := hR0
      rw [decide_eq_false heq] at hte
      clear heq hR0
      go_enter Tryz.func69, Tryz.ntmps69
      go_wp2_with (first
        | (go_at_call 103; refine (Tryz.strings_HasPrefix _ _ _).mono ?_; rintro e w1 ⟨rfl, rfl⟩)
        | (go_at_call 105; refine (parse_good s hs _ v hv).mono ?_; rintro e w2 ⟨rfl, hb⟩; have HB1 : Aside (Later _ w2) := hb; clear hb)
        | (go_at_call 37; refine (formatInt_any v hin _ (hc1.later HB1.out)).mono ?_; rintro e w3 ⟨rfl, hb⟩; rw [ht]; have hbel := HB1.out.step hb; clear hb; have h4 := (Five.new w _ _ _ _ _ _).later hbel (by simp); have H5 : Aside (Five _ _ _ _ _ _ _) := h4; obtain ⟨⟨c0, c1, c2, c3, c4⟩, f0, f1, f2, f3, f4⟩ := id h4; clear h4; have HB : Aside (Later _ _) := hbel; clear hbel)
        | (go_at_call 12; refine (number_val v _).mono ?_; rintro e w4 ⟨rfl, hb⟩; have HB2 := HB.out.step hb; clear HB; have hbel := HB2; clear hb HB2; have h4 := (Five.new w _ _ _ _ _ _).later hbel (by simp); have H6 : Aside (Five _ _ _ _ _ _ _) := h4; clear c0 c1 c2 c3 c4 f0 f1 f2 f3 f4; obtain ⟨⟨c0, c1, c2, c3, c4⟩, f0, f1, f2, f3, f4⟩ := id h4; clear h4; have HB : Aside (Later _ _) := hbel; clear hbel))
      refine ret_arg rfl rfl (H5.out.range _ _ _ _ _) rfl rfl ?_
      exact ArgPost.none (a := ⟨0, 0, ⟨#[]⟩, 0, false⟩) hR.out (below_put5 (after w _ HB.out) (Nat.le_refl _) _ _ _ _ _)
  · have hR : Hid (argR s = none) := by
      show _ = _
      rw [hR0]
      split
      · rename_i v hv; exact absurd ⟨v, hv⟩ hx
      · rfl
    have HX : Aside (∀ v, Lib.parseIntB 64 s.data.toList ≠ .ok v) := fun v hv => hx ⟨v, hv⟩
    clear hx hR0
    go_enter Tryz.func69, Tryz.ntmps69
    go_wp2_with (first
      | (go_at_call 103; refine (Tryz.strings_HasPrefix _ _ _).mono ?_; rintro e w1 ⟨rfl, rfl⟩)
      | (go_at_call 105; refine (parse_bad s hs _ hc1 HX.out).mono ?_; rintro e w2 ⟨n, tt, pp, rfl, hbel⟩; have h4 := (Five.new w _ _ _ _ _ _).later hbel (by simp); have H5 : Aside (Five _ _ _ _ _ _ _) := h4; obtain ⟨⟨c0, c1, c2, c3, c4⟩, f0, f1, f2, f3, f4⟩ := id h4; clear h4; have HB : Aside (Later _ _) := hbel; clear hbel))
    refine ret_arg rfl rfl (H5.out.range _ _ _ _ _) rfl rfl ?_
    exact ArgPost.none (a := ⟨0, 0, ⟨#[]⟩, 0, false⟩) hR.out (below_put5 (after w _ HB.out) (Nat.le_refl _) _ _ _ _ _)
end Go.Proofs.YtlkhkalniekaoaaGreatDoor
end

section
/- Numbers as the reference reads them. -/
namespace Go.Proofs.YtlkhkalniekaoaaGreatDoor
open Go.RowKit Go.Shelf Go.Sort Go.Lib

theorem numS_digits (s : ByteArray) : numS s = if Go.X.canonB s.data.toList = true ∧ s.data.toList.length ≤ 7 ∧ Go.X.valF 0 s.data.toList ≤ 1000000 then some (Go.X.valF 0 s.data.toList : Int) else none := by
  rw [← Go.X.num_eq]
  first | done | rfl
theorem arg_whole (l : List UInt8) : (match Lib.parseIntB 64 l with
    | .ok n => if Lib.itoa n = l then some (⟨2, n, ⟨#[]⟩, 0, false⟩ : Arg) else none
    | _ => none) = (Go.X.wholeL l).map fun n => ⟨2, n, ⟨#[]⟩, 0, false⟩ := by
  rw [← Go.X.whole_eq, Lib.parseIntB_64]
  unfold Go.X.roundL
  cases Lib.atoiAll l with
  | ok v =>
    dsimp only
    by_cases h : Lib.itoa v = l
    · rw [if_pos h, if_pos h]; first | done | rfl
    · rw [if_neg h, if_neg h]; first | done | rfl
  | range => rfl
  | _ => rfl
theorem blank_rests (x : ByteArray) : (Go.X.restsB x.data.toList) = ((Lib.trimSpaceD x.data.toList).isEmpty || decide ((Lib.trimSpaceD x.data.toList).head? = some 59)) := Go.X.rests_eq _
end Go.Proofs.YtlkhkalniekaoaaGreatDoor
end

section
/- ScriptLines: what the law's own numbers and values are as words; a plain law. -/
namespace Go.Proofs.YtlkhkalniekaoaaGreatDoor
open Go.RowKit Go.Shelf Go.Sort Go.Lib

theorem plain_digit {c : UInt8} (h : Go.X.digB c = true) : Go.X.plainB c = true := by
  unfold Go.X.digB at h
  unfold Go.X.plainB
  simp only [decide_eq_true_eq] at h ⊢
  omega
theorem plain_dec (u : Nat) : (Lib.decDigits u).all Go.X.plainB = true := by
  rw [List.all_eq_true]
  intro c hc
  exact plain_digit (List.all_eq_true.1 (Go.X.dec_all u) c hc)
theorem itoa_form (n : Int) : (∃ u : Nat, n = u ∧ Lib.itoa n = Lib.decDigits u) ∨ ∃ u : Nat, 1 ≤ u ∧ n = -(u : Int) ∧ Lib.itoa n = 45 :: Lib.decDigits u := by
  unfold Lib.itoa
  by_cases h : n < 0
  · rw [if_pos h]
    exact .inr ⟨n.natAbs, by omega, by omega, rfl⟩
  · rw [if_neg h]
    exact .inl ⟨n.toNat, by omega, rfl⟩
theorem plain_itoa (n : Int) : Lib.itoa n ≠ [] ∧ (Lib.itoa n).all Go.X.plainB = true := by
  rcases itoa_form n with ⟨u, _, h⟩ | ⟨u, _, _, h⟩
  · rw [h]
    exact ⟨Go.X.dec_ne u, plain_dec u⟩
  · rw [h]
    refine ⟨by simp, ?_⟩
    rw [List.all_cons, plain_dec u]
    first | done | rfl
theorem numS_dec (u : Nat) (h : u ≤ 1000000) : numS ⟨(Lib.decDigits u).toArray⟩ = some (u : Int) := by
  rw [numS_digits]
  show (if Go.X.canonB (Lib.decDigits u) = true ∧ (Lib.decDigits u).length ≤ 7 ∧ Go.X.valF 0 (Lib.decDigits u) ≤ 1000000 then some ((Go.X.valF 0 (Lib.decDigits u) : Nat) : Int) else none) = _
  rw [Go.X.val_dec, if_pos ⟨Go.X.dec_canon u, Go.X.dec_short (by omega) (Nat.lt_of_le_of_lt h (by decide)), h⟩]

theorem argR_not {l : List UInt8} {c : UInt8} {r : List UInt8} (h : l = c :: r) (h1 : c.toNat ≤ 57) (h2 : c.toNat ≠ 34) (h3 : c.toNat ≠ 35) : argR ⟨l.toArray⟩ = match Lib.parseIntB 64 l with
    | .ok n => if Lib.itoa n = l then some ⟨2, n, ⟨#[]⟩, 0, false⟩ else none
    | _ => none := by
  have ht : (⟨l.toArray⟩ : ByteArray).toList = l := by rw [Lib.toList_data]
  have hd : (⟨l.toArray⟩ : ByteArray).data.toList = l := rfl
  have hne : ∀ (x : UInt8) (y : List UInt8), 57 < x.toNat → l ≠ x :: y := fun x y hx he => by
    rw [h] at he
    have := (List.cons.inj he).1
    rw [this] at h1
    omega
  have hp : ∀ x : UInt8, c.toNat ≠ x.toNat → Lib.hasPrefix l [x] = false := fun x hx => by
    cases hq : Lib.hasPrefix l [x] with
    | false => rfl
    | true =>
      have hh : l.head? = some x := by
        rw [h] at hq ⊢
        simp only [Lib.hasPrefix, List.isPrefixOf, Bool.and_true, beq_iff_eq] at hq
        rw [hq]
        first | done | rfl
      rw [h] at hh
      simp only [List.head?_cons, Option.some.injEq] at hh
      rw [hh] at hx
      exact absurd rfl hx
  unfold argR
  rw [ht, hd, if_neg (hne _ _ (by decide)), if_neg (hne _ _ (by decide)), if_neg (hne _ _ (by decide)), hp 35 (by simpa using h3), hp 34 (by simpa using h2)]
  simp only [Bool.false_eq_true, if_false]
  first | done | rfl
theorem argR_int (n : Int) (h0 : -9223372036854775808 ≤ n) (h1 : n ≤ 9223372036854775807) : argR ⟨(Lib.itoa n).toArray⟩ = some ⟨2, n, ⟨#[]⟩, 0, false⟩ := by
  rcases itoa_form n with ⟨u, hu, h⟩ | ⟨u, hu1, hu, h⟩
  · obtain ⟨c, r, hc, _, _⟩ := Go.X.dec_sign u
    have hcd : Go.X.digB c = true := List.all_eq_true.1 (Go.X.dec_all u) c (by rw [hc]; simp)
    unfold Go.X.digB at hcd
    simp only [decide_eq_true_eq] at hcd
    rw [argR_not (h.trans hc) (by omega) (by omega) (by omega), Lib.parseIntB_64, h, Go.X.atoi_dec u (by omega)]
    simp only
    rw [← hu, if_pos h]
  · rw [argR_not h (by decide) (by decide) (by decide), Lib.parseIntB_64, h, Go.X.atoi_neg u (by omega)]
    simp only
    rw [← hu, if_pos h]
theorem argR_hash (u : Nat) (h : u ≤ 1000000) : argR ⟨(35 :: Lib.decDigits u).toArray⟩ = some ⟨0, 0, ⟨#[]⟩, u, true⟩ := by
  have ht : (⟨(35 :: Lib.decDigits u).toArray⟩ : ByteArray).toList = 35 :: Lib.decDigits u := by rw [Lib.toList_data]
  have hd : (⟨(35 :: Lib.decDigits u).toArray⟩ : ByteArray).data.toList = 35 :: Lib.decDigits u := rfl
  have he : (⟨(35 :: Lib.decDigits u).toArray⟩ : ByteArray).extract 1 (⟨(35 :: Lib.decDigits u).toArray⟩ : ByteArray).size = ⟨(Lib.decDigits u).toArray⟩ := by
    rw [Lib.extract_eq, Lib.size_eq, hd]
    simp
  unfold argR
  rw [ht, hd, if_neg (by simp), if_neg (by simp), if_neg (by simp), if_pos (by rfl), he, numS_dec u h]
  first | done | rfl

/-- The law's own value, by small numbers. -/
structure AV where
  d : Int
  n : Int
  s : Int
def AV.ok (a : AV) : Prop := (0 ≤ a.d ∧ a.d ≤ 255) ∧ (-9223372036854775808 ≤ a.n ∧ a.n ≤ 9223372036854775807) ∧ (0 ≤ a.s ∧ a.s ≤ 255)
def valTexts : List (List UInt8) := [[], [116], [97, 43, 98], [34, 92], [120, 10, 121]]
def valWords : List (List UInt8) := [[34, 34], [34, 116, 34], [34, 97, 43, 98, 34], [34, 92, 34, 92, 92, 34], [34, 120, 92, 110, 121, 34]]
/-- What it is, and its word. -/
def argT (a : AV) : Arg × List UInt8 :=
  if a.d % 5 = 1 then (⟨1, a.s % 2, ⟨#[]⟩, 0, false⟩, if a.s % 2 = 0 then [102, 97, 108, 115, 101] else [116, 114, 117, 101])
  else if a.d % 5 = 2 then (⟨2, a.n, ⟨#[]⟩, 0, false⟩, Lib.itoa a.n)
  else if a.d % 5 = 3 then (⟨3, 0, ⟨((valTexts[(a.s % 5).toNat]?).getD []).toArray⟩, 0, false⟩, (valWords[(a.s % 5).toNat]?).getD [])
  else if a.d % 5 = 4 then (⟨0, 0, ⟨#[]⟩, a.s, true⟩, 35 :: Lib.itoa a.s)
  else (⟨0, 0, ⟨#[]⟩, 0, false⟩, [110, 105, 108])
theorem argR_true : argR ⟨#[116, 114, 117, 101]⟩ = some ⟨1, 1, ⟨#[]⟩, 0, false⟩ := by kernel_rfl
theorem argR_false : argR ⟨#[102, 97, 108, 115, 101]⟩ = some ⟨1, 0, ⟨#[]⟩, 0, false⟩ := by kernel_rfl
theorem argR_nil : argR ⟨#[110, 105, 108]⟩ = some ⟨0, 0, ⟨#[]⟩, 0, false⟩ := by kernel_rfl
theorem argR_t0 : argR ⟨#[34, 34]⟩ = some ⟨3, 0, ⟨#[]⟩, 0, false⟩ := by kernel_rfl
theorem argR_t1 : argR ⟨#[34, 116, 34]⟩ = some ⟨3, 0, ⟨#[116]⟩, 0, false⟩ := by kernel_rfl
theorem argR_t2 : argR ⟨#[34, 97, 43, 98, 34]⟩ = some ⟨3, 0, ⟨#[97, 43, 98]⟩, 0, false⟩ := by kernel_rfl
theorem argR_t3 : argR ⟨#[34, 92, 34, 92, 92, 34]⟩ = some ⟨3, 0, ⟨#[34, 92]⟩, 0, false⟩ := by kernel_rfl
theorem argR_t4 : argR ⟨#[34, 120, 92, 110, 121, 34]⟩ = some ⟨3, 0, ⟨#[120, 10, 121]⟩, 0, false⟩ := by kernel_rfl
theorem argT_ok (a : AV) (h : a.ok) : argR ⟨(argT a).2.toArray⟩ = some (argT a).1 ∧ (argT a).2 ≠ [] ∧ (argT a).2.all Go.X.plainB = true := by
  obtain ⟨⟨hd0, hd1⟩, ⟨hn0, hn1⟩, hs0, hs1⟩ := h
  unfold argT
  by_cases h1 : a.d % 5 = 1
  · rw [if_pos h1]
    by_cases h2 : a.s % 2 = 0
    · rw [if_pos h2, h2]
      exact ⟨argR_false, by simp, by decide⟩
    · have h3 : a.s % 2 = 1 := by omega
      rw [if_neg h2, h3]
      exact ⟨argR_true, by simp, by decide⟩
  · rw [if_neg h1]
    by_cases h2 : a.d % 5 = 2
    · rw [if_pos h2]
      exact ⟨argR_int a.n hn0 hn1, (plain_itoa a.n).1, (plain_itoa a.n).2⟩
    · rw [if_neg h2]
      by_cases h3 : a.d % 5 = 3
      · rw [if_pos h3]
        have hk : (a.s % 5).toNat = 0 ∨ (a.s % 5).toNat = 1 ∨ (a.s % 5).toNat = 2 ∨ (a.s % 5).toNat = 3 ∨ (a.s % 5).toNat = 4 := by omega
        rcases hk with hk | hk | hk | hk | hk <;> rw [hk]
        · exact ⟨argR_t0, by decide, by decide⟩
        · exact ⟨argR_t1, by decide, by decide⟩
        · exact ⟨argR_t2, by decide, by decide⟩
        · exact ⟨argR_t3, by decide, by decide⟩
        · exact ⟨argR_t4, by decide, by decide⟩
      · rw [if_neg h3]
        by_cases h4 : a.d % 5 = 4
        · rw [if_pos h4]
          obtain ⟨u, hu⟩ := Int.eq_ofNat_of_zero_le hs0
          have hi : Lib.itoa a.s = Lib.decDigits u := by
            rcases itoa_form a.s with ⟨v, hv, h⟩ | ⟨v, hv1, hv, _⟩
            · obtain rfl : v = u := by omega
              exact h
            · omega
          rw [hi]
          have := argR_hash u (by omega)
          rw [← hu] at this
          refine ⟨this, by simp, ?_⟩
          rw [List.all_cons, plain_dec u]
          first | done | rfl
        · rw [if_neg h4]
          exact ⟨argR_nil, by simp, by decide⟩
end Go.Proofs.YtlkhkalniekaoaaGreatDoor
end

section
/- paling/script.arg: a text; at every word. -/
namespace Go.Proofs.YtlkhkalniekaoaaGreatDoor
open Go.RowKit Go.Shelf Go.Sort Go.Lib

theorem splitGo_ne (s : ByteArray) : ∀ (g i : Nat) (out : List Tok), (splitGo s g i out).2.2 = 0 → (splitGo s g i out).1 ≠ []
  | 0, _, out, _ => by simp [splitGo]
  | g + 1, i, out, h => by
    rw [splitGo] at h ⊢
    split at h
    · rename_i hi
      rw [dif_pos hi]
      split at h
      · rename_i h1; rw [if_pos h1]; exact splitGo_ne s g _ _ h
      · rename_i h1
        rw [if_neg h1]
        split at h
        · rename_i h2; rw [if_pos h2]; exact splitGo_ne s g _ _ h
        · rename_i h2
          rw [if_neg h2]
          split at h
          · rename_i h3; rw [if_pos h3]; exact splitGo_ne s g _ _ h
          · rename_i h3; exact absurd h h3
    · rename_i hi
      rw [dif_neg hi]
      simp
theorem splitR_ne (s : ByteArray) (h : (splitR s).2.2 = 0) : (splitR s).1 ≠ [] := by
  unfold splitR at h ⊢
  split
  · rename_i h1; rw [if_pos h1] at h; simp at h
  · rename_i h1; rw [if_neg h1] at h; exact splitGo_ne s _ _ _ h

/-- lex.Split where all goes well: its slice, and the first token's cells. -/
theorem lexSplit_ok (s : ByteArray) (hs : s.size ≤ 1000000) (w : World) (hc : Calm w) (t : Tok) (rest : List Tok) (i : Int) (h : splitR s = (t :: rest, i, 0)) :
    Calls Tryz.prog 104 #[.string s] w fun e w' => ∃ g cap, e = .returned (.tuple #[.slice (some ⟨g, 0, none⟩) (rest.length + 1) cap, .int .i64 i, .int .i64 0]) ∧ Later w w' ∧
      w'.cell? ⟨g, 0, none⟩ = some (.int .i64 t.k) ∧ w'.cell? ⟨g, 1, none⟩ = some (.string t.t) := by
  refine (lexSplit_any s hs w hc).mono ?_
  rintro e w' ⟨v, rfl, hl, ht⟩
  unfold Toks at ht
  rw [h] at ht ⊢
  have hlen : (t :: rest).length = rest.length + 1 := rfl
  rcases ht.2 with ⟨_, hz⟩ | ⟨g, cap, cur, rfl, hg, hr⟩
  · simp at hz
  · refine ⟨g, cap, rfl, hl, ?_, ?_⟩
    · exact (ht.cellAt 0 (by simp)).trans rfl
    · exact (ht.cellAt 1 (by simp; omega)).trans rfl
theorem lexSplit_err (s : ByteArray) (hs : s.size ≤ 1000000) (w : World) (hc : Calm w) (l : List Tok) (i er : Int) (h : splitR s = (l, i, er)) :
    Calls Tryz.prog 104 #[.string s] w fun e w' => ∃ v, e = .returned (.tuple #[v, .int .i64 i, .int .i64 er]) ∧ Later w w' := by
  refine (lexSplit_any s hs w hc).mono ?_
  rintro e w' ⟨v, rfl, hl, ht⟩
  rw [h]
  exact ⟨v, rfl, hl⟩

set_option maxHeartbeats 4000000 in
set_option maxRecDepth 1000000 in
theorem arg_text (s : ByteArray) (hs : s.size ≤ 1000000) (w : World) (hc : Calm w) (h0 : (s.toList == [110, 105, 108]) = false) (h1 : (s.toList == [116, 114, 117, 101]) = false) (h2 : (s.toList == [102, 97, 108, 115, 101]) = false) (hp : Lib.hasPrefix s.data.toList [35] = false) (hp2 : Lib.hasPrefix s.data.toList [34] = true) :
    Calls Tryz.prog 69 #[.string s] w (ArgPost s w) := by
  have hR0 : argR s = match splitR s with | ([t, _], _, 0) => if t.k = 3 ∧ t.t.size ≤ 200 then some ⟨3, 0, t.t, 0, false⟩ else none | _ => none := by
    unfold argR; rw [if_neg (by simpa using h0), if_neg (by simpa using h1), if_neg (by simpa using h2), if_neg (by simp [hp]), if_pos hp2]
    first | done | rfl
  have hc1 : Calm (w.alloc (.cells #[.int .u8 0, .int .i64 0, .string ⟨#[]⟩, .int .i64 0, .bool false] 49)) := hc.later ((Below.refl _ _).alloc (Nat.le_refl _) _)
  rcases hsp : splitR s with ⟨l, i, er⟩
  rw [hsp] at hR0
  have HSP : Aside (splitR s = (l, i, er)) := hsp
  by_cases her : er = 0
  · subst her
    cases l with
    | nil => exact absurd (by rw [hsp]) (splitR_ne s (by rw [hsp]))
    | cons t rest =>
      clear hsp
      by_cases hok : rest.length = 1 ∧ t.k = 3 ∧ t.t.size ≤ 200
      · obtain ⟨hl, hk, hz⟩ := hok
        obtain ⟨u, rfl⟩ := List.length_eq_one_iff.1 hl
        simp only [hk, hz, and_self, if_true] at hR0
        have hR : Hid (argR s = some ⟨3, 0, t.t, 0, false⟩) := hR0
        clear hR0 hl
        rcases t with ⟨tk, tt, tn, ta⟩
        simp only at hk hz hR
        subst hk
        go_enter Tryz.func69, Tryz.ntmps69
        go_wp2_with (first
          | (go_at_call 103; refine (Tryz.strings_HasPrefix _ _ _).mono ?_; rintro e w1 ⟨rfl, rfl⟩)
          | (go_at_call 104; refine (lexSplit_ok s hs _ hc1 _ _ _ HSP.out).mono ?_; rintro e w2 ⟨g, cap, rfl, hb, d0, d1⟩; have HB1 : Aside (Later _ w2) := hb; clear hb; simp only [List.length_singleton] at d0 d1 ⊢)
          | (go_at_call 72; refine (words_val _ _).mono ?_; rintro e w4 ⟨rfl, hb⟩; have hbel := HB1.out.step hb; clear hb; have h4 := (Five.new w _ _ _ _ _ _).later hbel (by simp); have H5 : Aside (Five _ _ _ _ _ _ _) := h4; obtain ⟨⟨c0, c1, c2, c3, c4⟩, f0, f1, f2, f3, f4⟩ := id h4; clear h4; have HB : Aside (Later _ _) := hbel; clear hbel))
        refine ret_arg rfl rfl (H5.out.range _ _ _ _ _) rfl rfl ?_
        exact ArgPost.some (a := ⟨3, 0, tt, 0, false⟩) hR.out (below_put5 (after w _ HB.out) (Nat.le_refl _) _ _ _ _ _)
      · have hR : Hid (argR s = none) := by
          show _ = _
          rw [hR0]
          split
          · rename_i hh
            cases hh
            rw [if_neg (fun h => hok ⟨rfl, h⟩)]
          · rfl
        clear hR0
        have HOK : Aside (¬ (rest.length = 1 ∧ t.k = 3 ∧ t.t.size ≤ 200)) := hok
        clear hok
        rcases t with ⟨tk, tt, tn, ta⟩
        simp only at HOK
        go_enter Tryz.func69, Tryz.ntmps69
        go_wp2_with (first
          | (go_at_call 103; refine (Tryz.strings_HasPrefix _ _ _).mono ?_; rintro e w1 ⟨rfl, rfl⟩)
          | (go_at_call 104; refine (lexSplit_ok s hs _ hc1 _ _ _ HSP.out).mono ?_; rintro e w2 ⟨g, cap, rfl, hbel, d0, d1⟩; simp only at d0 d1; have h4 := (Five.new w _ _ _ _ _ _).later hbel (by simp); have H5 : Aside (Five _ _ _ _ _ _ _) := h4; obtain ⟨⟨c0, c1, c2, c3, c4⟩, f0, f1, f2, f3, f4⟩ := id h4; clear h4; have HB : Aside (Later _ _) := hbel; clear hbel))
        · refine ret_arg rfl rfl (H5.out.range _ _ _ _ _) rfl rfl ?_
          exact ArgPost.none (a := ⟨0, 0, ⟨#[]⟩, 0, false⟩) hR.out (below_put5 (after w _ HB.out) (Nat.le_refl _) _ _ _ _ _)
        · have e1 : (rest.length : Int) + 1 = 2 := by assumption
          have e2 : tk = 3 := by assumption
          have e3 : (tt.size : Int) ≤ 200 := by assumption
          exact absurd ⟨by omega, e2, by omega⟩ HOK.out
        · refine ret_arg rfl rfl (H5.out.range _ _ _ _ _) rfl rfl ?_
          exact ArgPost.none (a := ⟨0, 0, ⟨#[]⟩, 0, false⟩) hR.out (below_put5 (after w _ HB.out) (Nat.le_refl _) _ _ _ _ _)
        · refine ret_arg rfl rfl (H5.out.range _ _ _ _ _) rfl rfl ?_
          exact ArgPost.none (a := ⟨0, 0, ⟨#[]⟩, 0, false⟩) hR.out (below_put5 (after w _ HB.out) (Nat.le_refl _) _ _ _ _ _)
  · have hR : Hid (argR s = none) := by
      show _ = _
      rw [hR0]
      split
      · rename_i hh; cases hh; exact absurd rfl her
      · rfl
    clear hR0 hsp
    go_enter Tryz.func69, Tryz.ntmps69
    go_wp2_with (first
      | (go_at_call 103; refine (Tryz.strings_HasPrefix _ _ _).mono ?_; rintro e w1 ⟨rfl, rfl⟩)
      | (go_at_call 104; refine (lexSplit_err s hs _ hc1 _ _ _ HSP.out).mono ?_; rintro e w2 ⟨v, rfl, hbel⟩; have h4 := (Five.new w _ _ _ _ _ _).later hbel (by simp); have H5 : Aside (Five _ _ _ _ _ _ _) := h4; obtain ⟨⟨c0, c1, c2, c3, c4⟩, f0, f1, f2, f3, f4⟩ := id h4; clear h4; have HB : Aside (Later _ _) := hbel; clear hbel))
    refine ret_arg rfl rfl (H5.out.range _ _ _ _ _) rfl rfl ?_
    exact ArgPost.none (a := ⟨0, 0, ⟨#[]⟩, 0, false⟩) hR.out (below_put5 (after w _ HB.out) (Nat.le_refl _) _ _ _ _ _)

theorem arg_any (s : ByteArray) (hs : s.size ≤ 1000000) (w : World) (hc : Calm w) : Calls Tryz.prog 69 #[.string s] w (ArgPost s w) := by
  cases h0 : (s.toList == [110, 105, 108]) with
  | true => exact arg_nil s w h0
  | false =>
    cases h1 : (s.toList == [116, 114, 117, 101]) with
    | true => exact arg_true s w h0 h1
    | false =>
      cases h2 : (s.toList == [102, 97, 108, 115, 101]) with
      | true => exact arg_false s w h0 h1 h2
      | false =>
        cases hp : Lib.hasPrefix s.data.toList [35] with
        | true => exact arg_handle s hs w hc h0 h1 h2 hp
        | false =>
          cases hp2 : Lib.hasPrefix s.data.toList [34] with
          | true => exact arg_text s hs w hc h0 h1 h2 hp hp2
          | false => exact arg_number s hs w hc h0 h1 h2 hp hp2
end Go.Proofs.YtlkhkalniekaoaaGreatDoor
end

section
/- (*paling/script.Command).rest: parts. -/
namespace Go.Proofs.YtlkhkalniekaoaaGreatDoor
open Go.RowKit Go.Shelf Go.Sort Go.Lib

theorem step_append_own {P : Program} {ops : Array Oper} {o : Oper} {a : Act} {w : World} {K : Act → World → Prop} {Q : Exit → Act → World → Prop} {E : Prop}
    (hg : o.guard = none) (s x : Operand) (t : TypeId) (hop : o.op = Op.call { callee := Callee.builtin Builtin.append, args := #[s, x], argTypes := #[t, t] })
    (base : Nat) (e : TypeId) (i : TypeInfo) (z : Value) (size bytes : Nat) (h1 : P.underlying t = some (.slice e)) (h2 : P.info? e = some i) (h3 : i.zero = some z) (h4 : i.size = size) (h5 : i.bytes = bytes) (h6 : z.cells.size = size) (h7 : 0 < size)
    (v : Value) (n : Nat) (xs : List Value) (hs : a.eval s = v) (hown : w.ownsRow base e size v n xs)
    (ad : Addr) (m c : Nat) (news : List Value) (hx : a.eval x = .slice (some ad) m c) (hn : news.length = m * size) (hc : ∀ j u, news[j]? = some u → w.cell? (ad.add j) = some u) (h1c : ∀ u ∈ news, u.oneCell' = true)
    (b1 : n + m ≤ maxLen) (b2 : (n + m) * bytes ≤ 140737488355328) (hbase : base ≤ w.heap.size)
    (hK : ∀ v' w', w'.ownsRow base e size v' (n + m) (xs ++ news) → w.grownBy w' v.ownBlock → (v' = .slice none 0 0 ↔ v = .slice none 0 0 ∧ m = 0) → K (a.put o.dst v') w') :
    if Region.wanted o (yielded ops a.tmps) = true then Oper.wp P o a w K Q else E := by
  rw [if_pos (by simp [Region.wanted, hg])]
  exact wp_append_own w s x t hop base e i z size bytes h1 h2 h3 h4 h5 h6 h7 v n xs hs hown ad m c news hx hn hc h1c b1 b2 hbase hK

theorem own_form {w : World} {B : Nat} {e : TypeId} {sz : Nat} {v : Value} {n : Nat} {xs : List Value} (h : w.ownsRow B e sz v (n + 1) xs) : ∃ g cap, v = .slice (some ⟨g, 0, none⟩) (n + 1) cap ∧ B ≤ g ∧ g < w.heap.size := by
  rcases h.2 with ⟨_, hz⟩ | ⟨g, cap, cur, rfl, hg, hh, _⟩
  · omega
  · refine ⟨g, cap, rfl, hg, ?_⟩
    rcases Nat.lt_or_ge g w.heap.size with h' | h'
    · exact h'
    · simp [Array.getElem?_eq_none h'] at hh

/-- But for block c the world is as it was, with new blocks. -/
abbrev Only (c : Nat) (w w' : World) : Prop := w.grownBy w' (some c)
theorem Only.of {c : Nat} {w w' : World} (h : Later w w') : Only c w w' := ⟨h.os, h.tape, h.output, h.size, fun k hk _ => h.block k hk⟩
theorem Only.put {c : Nat} {w w' : World} (h : Only c w w') (i : Nat) (v : Value) : Only c w (w'.setCell ⟨c, i, none⟩ v) :=
  ⟨h.os, h.tape, h.output, by simpa [World.setCell] using h.size, fun k hk hne => by
    rw [Below.heap_setCell _ _ _ _ (by intro he; exact hne (by simp at he; rw [he]))]
    exact h.block k hk hne⟩
theorem Only.grown {c : Nat} {w w2 w1 : World} (h : Only c w w2) {row : Option Nat} (hg : w2.grownBy w1 row) (hr : ∀ k, row = some k → w.heap.size ≤ k) : Only c w w1 :=
  ⟨hg.os.trans h.os, hg.tape.trans h.tape, hg.output.trans h.output, Nat.le_trans h.size hg.size, fun k hk hne => by
    rw [hg.block k (Nat.lt_of_lt_of_le hk h.size) (fun e => by have := hr k e.symm; omega)]
    exact h.block k hk hne⟩
theorem Only.later {c : Nat} {W w w' : World} (h : Later W w) (k : Only c w w') (hc : W.heap.size ≤ c) : Later W w' :=
  ⟨k.os.trans h.os, k.tape.trans h.tape, k.output.trans h.output, Nat.le_trans h.size k.size, fun i hi => by
    rw [k.block i (Nat.lt_of_lt_of_le hi h.size) (fun e => by simp at e; omega)]
    exact h.block i hi⟩

theorem arg_none (s : ByteArray) (hs : s.size ≤ 1000000) (w : World) (hc : Calm w) (h : argR s = none) :
    Calls Tryz.prog 69 #[.string s] w fun e w' => ∃ k n t hd b, e = .returned (.tuple #[.agg #[.int .u8 k, .int .i64 n, .string t, .int .i64 hd, .bool b], .bool false]) ∧ Later w w' := by
  refine (arg_any s hs w hc).mono ?_
  rintro e w' ⟨a, rfl, hl, _⟩
  rw [h]
  exact ⟨a.k, a.n, a.s, a.h, a.is, rfl, hl⟩
theorem arg_some (s : ByteArray) (hs : s.size ≤ 1000000) (w : World) (hc : Calm w) (a : Arg) (h : argR s = some a) :
    Calls Tryz.prog 69 #[.string s] w fun e w' => e = .returned (.tuple #[.agg #[.int .u8 a.k, .int .i64 a.n, .string a.s, .int .i64 a.h, .bool a.is], .bool true]) ∧ Later w w' := by
  refine (arg_any s hs w hc).mono ?_
  rintro e w' ⟨b, rfl, hl, hb⟩
  rw [h, hb a h]
  exact ⟨rfl, hl⟩

def argCells (l : List Arg) : List Value := (l.map Arg.cells).flatten
theorem argCells_snoc (l : List Arg) (a : Arg) : argCells (l ++ [a]) = argCells l ++ a.cells := by simp [argCells]
theorem argInfo : (Tryz.prog.info? 49).map (fun i => (i.zero, i.size, i.bytes)) = some (some (.agg #[.int .u8 0, .int .i64 0, .string ⟨#[]⟩, .int .i64 0, .bool false]), 5, 48) := by kernel_rfl

def argsR : List ByteArray → Option (List Arg)
  | [] => some []
  | x :: r => match argR x with
    | none => none
    | some a => (argsR r).map (a :: ·)
theorem argsR_append (l : List ByteArray) (x : ByteArray) : argsR (l ++ [x]) = match argsR l, argR x with | some al, some a => some (al ++ [a]) | _, _ => none := by
  induction l with
  | nil => simp only [List.nil_append, argsR]; cases argR x <;> rfl
  | cons y l ih =>
    simp only [List.cons_append, argsR]
    cases argR y with
    | none => rfl
    | some b =>
      simp only [ih]
      cases argsR l <;> cases argR x <;> rfl
theorem argsR_none (l r : List ByteArray) (h : argsR l = none) : argsR (l ++ r) = none := by
  induction l with
  | nil => simp [argsR] at h
  | cons y l ih =>
    simp only [List.cons_append, argsR] at h ⊢
    cases hy : argR y with
    | none => rfl
    | some b =>
      rw [hy] at h
      simp only [Option.map_eq_none_iff] at h ⊢
      exact ih h
theorem argsR_length (l : List ByteArray) (al : List Arg) (h : argsR l = some al) : al.length = l.length := by
  induction l generalizing al with
  | nil => simp [argsR] at h; subst h; rfl
  | cons y l ih =>
    simp only [argsR] at h
    cases hy : argR y with
    | none => rw [hy] at h; cases h
    | some b =>
      rw [hy] at h
      simp only [Option.map_eq_some_iff] at h
      obtain ⟨al', h', rfl⟩ := h
      simp [ih al' h']

/-- How many words may stand behind the numbers. -/
def restBad (kind : Int) (n : Nat) : Bool := if kind = 4 then decide (n ≠ 1) else if kind = 5 then decide (n < 1 ∨ 20 < n) else decide (n ≠ 0)
def restR (kind : Int) (ws : List ByteArray) : Option (List Arg) :=
  if restBad kind ws.length then none
  else match argsR ws with
    | none => none
    | some al => if kind = 5 ∧ (al.head?.map Arg.is) = some false then none else some al
end Go.Proofs.YtlkhkalniekaoaaGreatDoor
end

section
/- (*paling/script.Command).rest. -/
namespace Go.Proofs.YtlkhkalniekaoaaGreatDoor
open Go.RowKit Go.Shelf Go.Sort Go.Lib

theorem cells5_at {W : World} {N : Nat} (hN : N = W.heap.size) (a b c d e : Value) (T : TypeId) (j : Nat) (u : Value) (hj : [a, b, c, d, e][j]? = some u) : (W.alloc (.cells #[a, b, c, d, e] T)).cell? ((⟨N, 0, none⟩ : Addr).add j) = some u := by
  subst hN
  rw [Addr.add_mid]
  exact Five_range_new W a b c d e T j u hj

theorem own_slice {w : World} {B : Nat} {e : TypeId} {sz : Nat} {v : Value} {n : Nat} {xs : List Value} (h : w.ownsRow B e sz v n xs) : ∃ p m c, v = .slice p m c := by
  rcases h.2 with ⟨hv, _⟩ | ⟨g, cap, cur, hv, _⟩
  · exact ⟨_, _, _, hv⟩
  · exact ⟨_, _, _, hv⟩
theorem own_block {w : World} {B : Nat} {e : TypeId} {sz : Nat} {v : Value} {n : Nat} {xs : List Value} (h : w.ownsRow B e sz v n xs) : ∀ q, v.ownBlock = some q → B ≤ q := by
  intro q hq
  rcases h.2 with ⟨hv, _⟩ | ⟨g, cp, cur, hv, hg, _⟩
  · rw [hv] at hq; simp [Value.ownBlock] at hq
  · rw [hv] at hq; simp [Value.ownBlock] at hq; omega

def RestPost (c : Nat) (kind : Int) (nv : Value) (src : ByteArray) (ws : List ByteArray) (w : World) (e : Ending) (w' : World) : Prop :=
  ∃ er av, e = .returned (.int .i64 er) ∧ Only c w w' ∧ Four w' c (.int .i64 kind) nv av (.string src) ∧ (∃ p m q, av = .slice p m q) ∧
    ((restR kind ws = none ∧ er = 1) ∨ ∃ al, restR kind ws = some al ∧ er = 0 ∧ w'.ownsRow w.heap.size 49 5 av al.length (argCells al))

theorem Four.only {w w1 : World} {c : Nat} {x0 x1 x2 x3 : Value} {row : Option Nat} (h : Four w c x0 x1 x2 x3) (hg : w.grownBy w1 row) (hne : some c ≠ row) : Four w1 c x0 x1 x2 x3 := by
  obtain ⟨⟨c0, c1, c2, c3⟩, f0, f1, f2, f3⟩ := h
  have hf : ∀ i, w1.frozen? ⟨c, i, none⟩ = w.frozen? ⟨c, i, none⟩ := fun i => World.frozen?_of_block (w := w) (hg.block c (cell_lt c0) hne)
  exact ⟨⟨hg.cell c0 hne, hg.cell c1 hne, hg.cell c2 hne, hg.cell c3 hne⟩, (hf 0).trans f0, (hf 1).trans f1, (hf 2).trans f2, (hf 3).trans f3⟩
theorem Four.put2 {w : World} {c : Nat} {x0 x1 x2 x3 : Value} (h : Four w c x0 x1 x2 x3) (y : Value) : Four (w.setCell ⟨c, 2, none⟩ y) c x0 x1 y x3 := by
  obtain ⟨⟨c0, c1, c2, c3⟩, f0, f1, f2, f3⟩ := h
  refine ⟨⟨?_, ?_, ?_, ?_⟩, ?_, ?_, ?_, ?_⟩
  · rw [World.cell?_setCell_other _ _ _ _ (by simp)]; exact c0
  · rw [World.cell?_setCell_other _ _ _ _ (by simp)]; exact c1
  · exact World.cell?_setCell_same _ _ _ c2
  · rw [World.cell?_setCell_other _ _ _ _ (by simp)]; exact c3
  · simpa using f0
  · simpa using f1
  · simpa using f2
  · simpa using f3

set_option maxHeartbeats 8000000 in
set_option maxRecDepth 1000000 in
theorem rest_give (W0 w : World) (hc : Calm W0) (hl : Later W0 w) (c : Nat) (hcW : W0.heap.size ≤ c)  (nv : Value) (src : ByteArray)
    (h4 : Four w c (.int .i64 4) nv (.slice none 0 0) (.string src)) (wb wo cap : Nat) (ws : List ByteArray) (hcells : ∀ (j : Nat) (x : ByteArray), ws[j]? = some x → w.cell? ⟨wb, wo + j, none⟩ = some (.string x)) (hwc : wb ≠ c)
    (hws : ∀ x ∈ ws, x.size ≤ 1000000) (hlen : ws.length ≤ 1000000) :
    Calls Tryz.prog 44 #[.pointer (some ⟨c, 0, none⟩), .slice (some ⟨wb, wo, none⟩) ws.length cap] w (RestPost c 4 nv src ws w) := by
  obtain ⟨⟨c0, c1, c2, c3⟩, f0, f1, f2, f3⟩ := id h4
  have hcw : c < w.heap.size := cell_lt c0
  obtain ⟨i0, hi, hz0, hz1, hz2⟩ := info_parts argInfo
  have k4 : ((4 : Int) == 4) = true := rfl
  have k5 : ((4 : Int) == 5) = false := rfl
  by_cases hbad : restBad 4 ws.length = true
  · have hR : Aside (restR 4 ws = none) := by show _ = _; unfold restR; rw [if_pos hbad]
    have hn : ws.length ≠ 1 := by simpa [restBad] using hbad
    clear hbad
    go_enter Tryz.func44, Tryz.ntmps44
    go_wp2
    all_goals go_ret
    all_goals exact ⟨1, .slice none 0 0, rfl, Only.of (Below.refl _ _), h4, ⟨_, _, _, rfl⟩, .inl ⟨hR.out, rfl⟩⟩
  · have hR : Aside (restR 4 ws = match argsR ws with | none => none | some al => if (4 : Int) = 5 ∧ (al.head?.map Arg.is) = some false then none else some al) := by show _ = _; unfold restR; rw [if_neg hbad]; first | done | rfl
    have hn : ws.length ≤ 1 ∧ 1 ≤ ws.length := by simp [restBad] at hbad; omega
    obtain ⟨hn1, hn2⟩ := hn
    clear hbad
    have H4 : Aside (Four w c (.int .i64 4) nv (.slice none 0 0) (.string src)) := h4
    have HC : Aside (∀ (j : Nat) (x : ByteArray), ws[j]? = some x → w.cell? ⟨wb, wo + j, none⟩ = some (.string x)) := hcells
    have HW : Aside (∀ x ∈ ws, x.size ≤ 1000000) := hws
    clear hcells hws h4
    go_enter Tryz.func44, Tryz.ntmps44
    go_wp2
    clear c0 c1 c2 c3 f0 f1 f2 f3
    go_loopg [48] ws.length (fun g i wr => ∃ (k : Nat) (al : List Arg) (av : Value), k + g = ws.length ∧ i = .int .i64 k ∧ Aside (argsR (ws.take k) = some al) ∧ Aside (Only c w wr) ∧
      Aside (Four wr c (.int .i64 4) nv av (.string src)) ∧ Aside (wr.ownsRow w.heap.size 49 5 av al.length (argCells al)))
    case atStart => exact ⟨0, [], _, by omega, rfl, rfl, Only.of (Below.refl _ _), H4, World.ownsRow_nil _ _ _ _⟩
    case round =>
      obtain ⟨k, al, av, hkg, rfl, HA, HO, HF, HN⟩ := hrel
      have hal : al.length = k := by
        have := argsR_length _ _ HA.out
        simp at this
        omega
      obtain ⟨⟨c0, c1, c2, c3⟩, f0, f1, f2, f3⟩ := id HF.out
      have hcr : c < wr.heap.size := cell_lt c0
      by_cases hlt : k < ws.length
      · obtain ⟨x, hx⟩ : ∃ x, ws[k]? = some x := ⟨_, List.getElem?_eq_getElem hlt⟩
        have HX : Aside (ws[k]? = some x) := hx
        have hxs : x.size ≤ 1000000 := HW.out x (List.mem_of_getElem? hx)
        have hxc : wr.cell? ⟨wb, wo + k, none⟩ = some (.string x) := HO.out.cell (HC.out k x hx) (by simpa using hwc)
        have HCM : Aside (Calm wr) := hc.later (Only.later hl HO.out hcW)
        clear hx
        cases har : argR x with
        | none =>
          have HE : Aside (argR x = none) := har
          clear har
          go_wp2_with (go_at_call 69; refine (arg_none x hxs _ HCM.out HE.out).mono ?_; rintro e w2 ⟨xk, xn, xt, xh, xb, rfl, hb⟩; have HB : Aside (Later wr w2) := hb; clear hb)
          go_ret
          refine ⟨1, av, rfl, ?_, ?_, own_slice HN.out, .inl ⟨?_, rfl⟩⟩
          · exact (HO.out.trans (Only.of HB.out)).trans (World.grownBy_alloc _ _ _)
          · exact (HF.out.later HB.out hcr).only (World.grownBy_alloc _ _ none) (by simp)
          · have hno : argsR ws = none := by
              rw [← List.take_append_drop (k + 1) ws]
              apply argsR_none
              rw [List.take_add_one, HX.out]
              simp only [Option.toList_some, argsR_append, HA.out, HE.out]
            rw [hR.out, hno]
        | some y =>
          have HE : Aside (argR x = some y) := har
          clear har
          rcases y with ⟨yk, yn, yt, yh, yb⟩
          go_wp2_with (go_at_call 69; refine (arg_some x hxs _ HCM.out _ HE.out).mono ?_; rintro e w2 ⟨rfl, hb⟩; have HB : Aside (Later wr w2) := hb; clear hb; have h4' := HF.out.later HB.out hcr; clear c0 c1 c2 c3 f0 f1 f2 f3; obtain ⟨⟨c0, c1, c2, c3⟩, f0, f1, f2, f3⟩ := id h4'; have H5 : Aside (Four _ _ _ _ _ _) := h4'; clear h4')
          have hz := HB.out.size
          have hws : w.heap.size ≤ wr.heap.size := HO.out.size
          have hcav : some c ≠ av.ownBlock := by
            rcases HN.out.2 with ⟨hv, _⟩ | ⟨g, cp, cur, hv, hg, _⟩
            · rw [hv]; simp [Value.ownBlock]
            · rw [hv]; simp [Value.ownBlock]; omega
          have hav : Aside (∀ q, av.ownBlock = some q → w.heap.size ≤ q) := by
            intro q hq
            rcases HN.out.2 with ⟨hv, _⟩ | ⟨g, cp, cur, hv, hg, _⟩
            · rw [hv] at hq; simp [Value.ownBlock] at hq
            · rw [hv] at hq; simp [Value.ownBlock] at hq; omega
          have FW : ∀ (A A' : Obj) (w1 : World), (((w2.alloc A).alloc A').drew).grownBy w1 av.ownBlock → Four w1 c (.int .i64 4) nv av (.string src) := fun A A' w1 hg =>
            Four.only (w := ((w2.alloc A).alloc A').drew) (have h : Four ((w2.alloc A).alloc A') c _ _ _ _ := (H5.out.only (World.grownBy_alloc w2 A none) (by simp)).only (World.grownBy_alloc (w2.alloc A) A' none) (by simp); h) hg hcav
          have OW : ∀ (A A' : Obj) (w1 : World), (((w2.alloc A).alloc A').drew).grownBy w1 av.ownBlock → Only c w w1 := fun A A' w1 hg =>
            Only.grown (w2 := ((w2.alloc A).alloc A').drew) (have h : Only c w ((w2.alloc A).alloc A') := Only.grown (Only.grown (HO.out.trans (Only.of HB.out)) (World.grownBy_alloc w2 A none) (by simp)) (World.grownBy_alloc (w2.alloc A) A' none) (by simp); ⟨h.os, h.tape, h.output, h.size, h.block⟩) hg hav.out
          have NW : ∀ (A A' : Obj), (((w2.alloc A).alloc A').drew).ownsRow w.heap.size 49 5 av k (argCells al) := fun A A' => by
            have h := ((owned_later HN.out HB.out).alloc A).alloc A'
            rw [hal] at h
            exact h
          have hb1 : k + 1 ≤ maxLen := by unfold maxLen; omega
          have hb2 : (k + 1) * 48 ≤ 140737488355328 := by omega
          have hb3 : ∀ (A A' : Obj), w.heap.size ≤ (((w2.alloc A).alloc A').drew).heap.size := fun A A' => by show w.heap.size ≤ ((w2.alloc A).alloc A').heap.size; simp; omega
          have hc5 : ∀ (A : Obj) (j : Nat) (u : Value), [Value.int .u8 yk, .int .i64 yn, .string yt, .int .i64 yh, .bool yb][j]? = some u → (((w2.alloc A).alloc (.cells #[.int .u8 yk, .int .i64 yn, .string yt, .int .i64 yh, .bool yb] 49)).drew).cell? ((⟨w2.heap.size + 1, 0, none⟩ : Addr).add j) = some u := fun A j u hj =>
            cells5_at (W := w2.alloc A) (by simp) _ _ _ _ _ _ j u hj
          have h15 : ∀ u ∈ [Value.int .u8 yk, .int .i64 yn, .string yt, .int .i64 yh, .bool yb], u.oneCell' = true := by
            intro u hu
            simp only [List.mem_cons, List.not_mem_nil, or_false] at hu
            rcases hu with rfl | rfl | rfl | rfl | rfl <;> rfl
          have hcw2 : c < w2.heap.size := by omega
          have q2 : ∀ A, (w2.alloc A).cell? ⟨c, 2, none⟩ = some av := fun A => (World.cell?_alloc_past _ _ _ hcw2).trans c2
          have q22 : ∀ A A', ((w2.alloc A).alloc A').cell? ⟨c, 2, none⟩ = some av := fun A A' => (World.cell?_alloc_past _ _ _ (by simp; omega)).trans (q2 A)
          have A1 : Aside _ := FW
          have A2 : Aside _ := OW
          have A3 : Aside _ := NW
          have A4 : Aside _ := hb3
          have A5 : Aside _ := hc5
          have A6 : Aside _ := h15
          clear FW OW NW hb3 hc5 h15
          go_region_law (refine step_append_own rfl (.tmp 63) (.tmp 65) 33 rfl w.heap.size 49 i0 (.agg #[.int .u8 0, .int .i64 0, .string ⟨#[]⟩, .int .i64 0, .bool false]) 5 48 Tryz.underlying33 hi hz0 hz1 hz2 rfl (by decide) av k (argCells al) (by simp [Act.eval, Act.put]) (A3.out _ _) ⟨w2.heap.size + 1, 0, none⟩ 1 1 [.int .u8 yk, .int .i64 yn, .string yt, .int .i64 yh, .bool yb] (by simp [Act.eval, Act.put]) rfl (A5.out _) A6.out hb1 hb2 (A4.out _ _) ?_; intro v' w1 hown' hgrow _; have hf1 := A1.out _ _ _ hgrow; have ho1 : Aside (Only c w w1) := A2.out _ _ _ hgrow; clear hgrow; obtain ⟨vg, vc, rfl, -, -⟩ := own_form hown'; clear c0 c1 c2 c3 f0 f1 f2 f3; obtain ⟨⟨c0, c1, c2, c3⟩, f0, f1, f2, f3⟩ := id hf1; have H6 : Aside (Four _ _ _ _ _ _) := hf1; clear hf1; have N6 : Aside (World.ownsRow _ _ _ _ _ _ _) := hown'; clear hown')
          all_goals go_wp2
          all_goals go_roundg (gk - 1)
          all_goals first
            | omega
            | (refine ⟨k + 1, al ++ [⟨yk, yn, yt, yh, yb⟩], _, by omega, by go_num, ?_, ho1.out.put _ _, H6.out.put2 _, ?_⟩
               · show _ = _
                 rw [List.take_add_one, HX.out]
                 simp only [Option.toList_some, argsR_append, HA.out, HE.out]
               · show World.ownsRow _ _ _ _ _ _ _
                 rw [argCells_snoc, List.length_append, hal]
                 exact ownsRow_setCell_below N6.out hcw _)
      · have hkz : k = ws.length := by omega
        subst hkz
        have hAA : argsR ws = some al := by have := HA.out; rwa [List.take_length] at this
        have HAA : Aside (argsR ws = some al) := hAA
        clear hAA
        go_wp2
        go_ret
        refine ⟨0, av, rfl, HO.out, HF.out, own_slice HN.out, .inr ⟨al, ?_, rfl, HN.out⟩⟩
        rw [hR.out, HAA.out]
        simp only []
        rw [if_neg (fun h => by omega)]

set_option maxHeartbeats 8000000 in
set_option maxRecDepth 1000000 in
theorem rest_call (W0 w : World) (hc : Calm W0) (hl : Later W0 w) (c : Nat) (hcW : W0.heap.size ≤ c)  (nv : Value) (src : ByteArray)
    (h4 : Four w c (.int .i64 5) nv (.slice none 0 0) (.string src)) (wb wo cap : Nat) (ws : List ByteArray) (hcells : ∀ (j : Nat) (x : ByteArray), ws[j]? = some x → w.cell? ⟨wb, wo + j, none⟩ = some (.string x)) (hwc : wb ≠ c)
    (hws : ∀ x ∈ ws, x.size ≤ 1000000) (hlen : ws.length ≤ 1000000) :
    Calls Tryz.prog 44 #[.pointer (some ⟨c, 0, none⟩), .slice (some ⟨wb, wo, none⟩) ws.length cap] w (RestPost c 5 nv src ws w) := by
  obtain ⟨⟨c0, c1, c2, c3⟩, f0, f1, f2, f3⟩ := id h4
  have hcw : c < w.heap.size := cell_lt c0
  obtain ⟨i0, hi, hz0, hz1, hz2⟩ := info_parts argInfo
  have k4 : ((5 : Int) == 4) = false := rfl
  have k5 : ((5 : Int) == 5) = true := rfl
  by_cases hbad : restBad 5 ws.length = true
  · have hR : Aside (restR 5 ws = none) := by show _ = _; unfold restR; rw [if_pos hbad]
    have hn : ws.length < 1 ∨ 20 < ws.length := by simp [restBad] at hbad; rcases hbad with rfl | h <;> simp <;> omega
    clear hbad
    go_enter Tryz.func44, Tryz.ntmps44
    go_wp2
    all_goals go_ret
    all_goals exact ⟨1, .slice none 0 0, rfl, Only.of (Below.refl _ _), h4, ⟨_, _, _, rfl⟩, .inl ⟨hR.out, rfl⟩⟩
  · have hR : Aside (restR 5 ws = match argsR ws with | none => none | some al => if (5 : Int) = 5 ∧ (al.head?.map Arg.is) = some false then none else some al) := by show _ = _; unfold restR; rw [if_neg hbad]; first | done | rfl
    have hn : 1 ≤ ws.length ∧ ws.length ≤ 20 := by simp [restBad] at hbad; have := List.length_pos_iff.2 hbad.1; omega
    obtain ⟨hn1, hn2⟩ := hn
    clear hbad
    have H4 : Aside (Four w c (.int .i64 5) nv (.slice none 0 0) (.string src)) := h4
    have HC : Aside (∀ (j : Nat) (x : ByteArray), ws[j]? = some x → w.cell? ⟨wb, wo + j, none⟩ = some (.string x)) := hcells
    have HW : Aside (∀ x ∈ ws, x.size ≤ 1000000) := hws
    clear hcells hws h4
    go_enter Tryz.func44, Tryz.ntmps44
    go_wp2
    clear c0 c1 c2 c3 f0 f1 f2 f3
    go_loopg [48] ws.length (fun g i wr => ∃ (k : Nat) (al : List Arg) (av : Value), k + g = ws.length ∧ i = .int .i64 k ∧ Aside (argsR (ws.take k) = some al) ∧ Aside (Only c w wr) ∧
      Aside (Four wr c (.int .i64 5) nv av (.string src)) ∧ Aside (wr.ownsRow w.heap.size 49 5 av al.length (argCells al)))
    case atStart => exact ⟨0, [], _, by omega, rfl, rfl, Only.of (Below.refl _ _), H4, World.ownsRow_nil _ _ _ _⟩
    case round =>
      obtain ⟨k, al, av, hkg, rfl, HA, HO, HF, HN⟩ := hrel
      have hal : al.length = k := by
        have := argsR_length _ _ HA.out
        simp at this
        omega
      obtain ⟨⟨c0, c1, c2, c3⟩, f0, f1, f2, f3⟩ := id HF.out
      have hcr : c < wr.heap.size := cell_lt c0
      by_cases hlt : k < ws.length
      · obtain ⟨x, hx⟩ : ∃ x, ws[k]? = some x := ⟨_, List.getElem?_eq_getElem hlt⟩
        have HX : Aside (ws[k]? = some x) := hx
        have hxs : x.size ≤ 1000000 := HW.out x (List.mem_of_getElem? hx)
        have hxc : wr.cell? ⟨wb, wo + k, none⟩ = some (.string x) := HO.out.cell (HC.out k x hx) (by simpa using hwc)
        have HCM : Aside (Calm wr) := hc.later (Only.later hl HO.out hcW)
        clear hx
        cases har : argR x with
        | none =>
          have HE : Aside (argR x = none) := har
          clear har
          go_wp2_with (go_at_call 69; refine (arg_none x hxs _ HCM.out HE.out).mono ?_; rintro e w2 ⟨xk, xn, xt, xh, xb, rfl, hb⟩; have HB : Aside (Later wr w2) := hb; clear hb)
          go_ret
          refine ⟨1, av, rfl, ?_, ?_, own_slice HN.out, .inl ⟨?_, rfl⟩⟩
          · exact (HO.out.trans (Only.of HB.out)).trans (World.grownBy_alloc _ _ _)
          · exact (HF.out.later HB.out hcr).only (World.grownBy_alloc _ _ none) (by simp)
          · have hno : argsR ws = none := by
              rw [← List.take_append_drop (k + 1) ws]
              apply argsR_none
              rw [List.take_add_one, HX.out]
              simp only [Option.toList_some, argsR_append, HA.out, HE.out]
            rw [hR.out, hno]
        | some y =>
          have HE : Aside (argR x = some y) := har
          clear har
          rcases y with ⟨yk, yn, yt, yh, yb⟩
          go_wp2_with (go_at_call 69; refine (arg_some x hxs _ HCM.out _ HE.out).mono ?_; rintro e w2 ⟨rfl, hb⟩; have HB : Aside (Later wr w2) := hb; clear hb; have h4' := HF.out.later HB.out hcr; clear c0 c1 c2 c3 f0 f1 f2 f3; obtain ⟨⟨c0, c1, c2, c3⟩, f0, f1, f2, f3⟩ := id h4'; have H5 : Aside (Four _ _ _ _ _ _) := h4'; clear h4')
          have hz := HB.out.size
          have hws : w.heap.size ≤ wr.heap.size := HO.out.size
          have hcav : some c ≠ av.ownBlock := by
            rcases HN.out.2 with ⟨hv, _⟩ | ⟨g, cp, cur, hv, hg, _⟩
            · rw [hv]; simp [Value.ownBlock]
            · rw [hv]; simp [Value.ownBlock]; omega
          have hav : Aside (∀ q, av.ownBlock = some q → w.heap.size ≤ q) := by
            intro q hq
            rcases HN.out.2 with ⟨hv, _⟩ | ⟨g, cp, cur, hv, hg, _⟩
            · rw [hv] at hq; simp [Value.ownBlock] at hq
            · rw [hv] at hq; simp [Value.ownBlock] at hq; omega
          have FW : ∀ (A A' : Obj) (w1 : World), (((w2.alloc A).alloc A').drew).grownBy w1 av.ownBlock → Four w1 c (.int .i64 5) nv av (.string src) := fun A A' w1 hg =>
            Four.only (w := ((w2.alloc A).alloc A').drew) (have h : Four ((w2.alloc A).alloc A') c _ _ _ _ := (H5.out.only (World.grownBy_alloc w2 A none) (by simp)).only (World.grownBy_alloc (w2.alloc A) A' none) (by simp); h) hg hcav
          have OW : ∀ (A A' : Obj) (w1 : World), (((w2.alloc A).alloc A').drew).grownBy w1 av.ownBlock → Only c w w1 := fun A A' w1 hg =>
            Only.grown (w2 := ((w2.alloc A).alloc A').drew) (have h : Only c w ((w2.alloc A).alloc A') := Only.grown (Only.grown (HO.out.trans (Only.of HB.out)) (World.grownBy_alloc w2 A none) (by simp)) (World.grownBy_alloc (w2.alloc A) A' none) (by simp); ⟨h.os, h.tape, h.output, h.size, h.block⟩) hg hav.out
          have NW : ∀ (A A' : Obj), (((w2.alloc A).alloc A').drew).ownsRow w.heap.size 49 5 av k (argCells al) := fun A A' => by
            have h := ((owned_later HN.out HB.out).alloc A).alloc A'
            rw [hal] at h
            exact h
          have hb1 : k + 1 ≤ maxLen := by unfold maxLen; omega
          have hb2 : (k + 1) * 48 ≤ 140737488355328 := by omega
          have hb3 : ∀ (A A' : Obj), w.heap.size ≤ (((w2.alloc A).alloc A').drew).heap.size := fun A A' => by show w.heap.size ≤ ((w2.alloc A).alloc A').heap.size; simp; omega
          have hc5 : ∀ (A : Obj) (j : Nat) (u : Value), [Value.int .u8 yk, .int .i64 yn, .string yt, .int .i64 yh, .bool yb][j]? = some u → (((w2.alloc A).alloc (.cells #[.int .u8 yk, .int .i64 yn, .string yt, .int .i64 yh, .bool yb] 49)).drew).cell? ((⟨w2.heap.size + 1, 0, none⟩ : Addr).add j) = some u := fun A j u hj =>
            cells5_at (W := w2.alloc A) (by simp) _ _ _ _ _ _ j u hj
          have h15 : ∀ u ∈ [Value.int .u8 yk, .int .i64 yn, .string yt, .int .i64 yh, .bool yb], u.oneCell' = true := by
            intro u hu
            simp only [List.mem_cons, List.not_mem_nil, or_false] at hu
            rcases hu with rfl | rfl | rfl | rfl | rfl <;> rfl
          have hcw2 : c < w2.heap.size := by omega
          have q2 : ∀ A, (w2.alloc A).cell? ⟨c, 2, none⟩ = some av := fun A => (World.cell?_alloc_past _ _ _ hcw2).trans c2
          have q22 : ∀ A A', ((w2.alloc A).alloc A').cell? ⟨c, 2, none⟩ = some av := fun A A' => (World.cell?_alloc_past _ _ _ (by simp; omega)).trans (q2 A)
          have A1 : Aside _ := FW
          have A2 : Aside _ := OW
          have A3 : Aside _ := NW
          have A4 : Aside _ := hb3
          have A5 : Aside _ := hc5
          have A6 : Aside _ := h15
          clear FW OW NW hb3 hc5 h15
          go_region_law (refine step_append_own rfl (.tmp 63) (.tmp 65) 33 rfl w.heap.size 49 i0 (.agg #[.int .u8 0, .int .i64 0, .string ⟨#[]⟩, .int .i64 0, .bool false]) 5 48 Tryz.underlying33 hi hz0 hz1 hz2 rfl (by decide) av k (argCells al) (by simp [Act.eval, Act.put]) (A3.out _ _) ⟨w2.heap.size + 1, 0, none⟩ 1 1 [.int .u8 yk, .int .i64 yn, .string yt, .int .i64 yh, .bool yb] (by simp [Act.eval, Act.put]) rfl (A5.out _) A6.out hb1 hb2 (A4.out _ _) ?_; intro v' w1 hown' hgrow _; have hf1 := A1.out _ _ _ hgrow; have ho1 : Aside (Only c w w1) := A2.out _ _ _ hgrow; clear hgrow; obtain ⟨vg, vc, rfl, -, -⟩ := own_form hown'; clear c0 c1 c2 c3 f0 f1 f2 f3; obtain ⟨⟨c0, c1, c2, c3⟩, f0, f1, f2, f3⟩ := id hf1; have H6 : Aside (Four _ _ _ _ _ _) := hf1; clear hf1; have N6 : Aside (World.ownsRow _ _ _ _ _ _ _) := hown'; clear hown')
          all_goals go_wp2
          all_goals go_roundg (gk - 1)
          all_goals first
            | omega
            | (refine ⟨k + 1, al ++ [⟨yk, yn, yt, yh, yb⟩], _, by omega, by go_num, ?_, ho1.out.put _ _, H6.out.put2 _, ?_⟩
               · show _ = _
                 rw [List.take_add_one, HX.out]
                 simp only [Option.toList_some, argsR_append, HA.out, HE.out]
               · show World.ownsRow _ _ _ _ _ _ _
                 rw [argCells_snoc, List.length_append, hal]
                 exact ownsRow_setCell_below N6.out hcw _)
      · have hkz : k = ws.length := by omega
        subst hkz
        have hAA : argsR ws = some al := by have := HA.out; rwa [List.take_length] at this
        have HAA : Aside (argsR ws = some al) := hAA
        clear hAA
        cases al with
        | nil => simp at hal; omega
        | cons a0 at' =>
          have hlz : (a0 :: at').length = at'.length + 1 := rfl
          have N1 := HN.out
          rw [hlz] at N1
          obtain ⟨vg, vc, rfl, -, -⟩ := own_form N1
          have d4 : wr.cell? ⟨vg, 4, none⟩ = some (.bool a0.is) := (N1.cellAt 4 (by omega)).trans rfl
          clear N1
          rcases a0 with ⟨ak, an, at0, ah, ais⟩
          simp only at d4
          cases ais
          · go_wp2
            go_ret
            refine ⟨1, _, rfl, HO.out, HF.out, ⟨_, _, _, rfl⟩, .inl ⟨?_, rfl⟩⟩
            rw [hR.out, HAA.out]
            first | done | rfl
          · go_wp2
            go_ret
            refine ⟨0, _, rfl, HO.out, HF.out, ⟨_, _, _, rfl⟩, .inr ⟨_, ?_, rfl, HN.out⟩⟩
            rw [hR.out, HAA.out]
            first | done | rfl

set_option maxHeartbeats 8000000 in
set_option maxRecDepth 1000000 in
theorem rest_none (W0 w : World) (hc : Calm W0) (hl : Later W0 w) (c : Nat) (hcW : W0.heap.size ≤ c) (kind : Int) (hk : kind ≠ 4 ∧ kind ≠ 5) (nv : Value) (src : ByteArray)
    (h4 : Four w c (.int .i64 kind) nv (.slice none 0 0) (.string src)) (wb wo cap : Nat) (ws : List ByteArray) (hcells : ∀ (j : Nat) (x : ByteArray), ws[j]? = some x → w.cell? ⟨wb, wo + j, none⟩ = some (.string x)) (hwc : wb ≠ c)
    (hws : ∀ x ∈ ws, x.size ≤ 1000000) (hlen : ws.length ≤ 1000000) :
    Calls Tryz.prog 44 #[.pointer (some ⟨c, 0, none⟩), .slice (some ⟨wb, wo, none⟩) ws.length cap] w (RestPost c kind nv src ws w) := by
  obtain ⟨⟨c0, c1, c2, c3⟩, f0, f1, f2, f3⟩ := id h4
  have hcw : c < w.heap.size := cell_lt c0
  obtain ⟨i0, hi, hz0, hz1, hz2⟩ := info_parts argInfo
  have k4 : (kind == 4) = false := by simp only [beq_eq_false_iff_ne]; exact hk.1
  have k5 : (kind == 5) = false := by simp only [beq_eq_false_iff_ne]; exact hk.2
  by_cases hbad : restBad kind ws.length = true
  · have hR : Aside (restR kind ws = none) := by show _ = _; unfold restR; rw [if_pos hbad]
    have hn : 0 < ws.length := by simp [restBad, hk.1, hk.2] at hbad; exact List.length_pos_iff.2 hbad
    clear hbad
    go_enter Tryz.func44, Tryz.ntmps44
    go_wp2
    all_goals go_ret
    all_goals exact ⟨1, .slice none 0 0, rfl, Only.of (Below.refl _ _), h4, ⟨_, _, _, rfl⟩, .inl ⟨hR.out, rfl⟩⟩
  · have hR : Aside (restR kind ws = match argsR ws with | none => none | some al => if (kind : Int) = 5 ∧ (al.head?.map Arg.is) = some false then none else some al) := by show _ = _; unfold restR; rw [if_neg hbad]; first | done | rfl
    have hn : ws = [] := by simp [restBad, hk.1, hk.2] at hbad; exact hbad
    clear hbad
    have H4 : Aside (Four w c (.int .i64 kind) nv (.slice none 0 0) (.string src)) := h4
    have HC : Aside (∀ (j : Nat) (x : ByteArray), ws[j]? = some x → w.cell? ⟨wb, wo + j, none⟩ = some (.string x)) := hcells
    have HW : Aside (∀ x ∈ ws, x.size ≤ 1000000) := hws
    clear hcells hws h4
    obtain rfl : ws = [] := hn
    go_enter Tryz.func44, Tryz.ntmps44
    go_wp2
    refine wp_loop_rounds 1 ?_
    rw [rounds_succ]
    go_wp2
    go_ret
    refine ⟨0, .slice none 0 0, rfl, Only.of (Below.refl _ _), H4.out, ⟨_, _, _, rfl⟩, .inr ⟨[], ?_, rfl, World.ownsRow_nil _ _ _ _⟩⟩
    rw [hR.out]
    simp only [argsR]
    rw [if_neg (fun h => hk.2 h.1)]

theorem rest_any (W0 w : World) (hc : Calm W0) (hl : Later W0 w) (c : Nat) (hcW : W0.heap.size ≤ c) (kind : Int) (nv : Value) (src : ByteArray)
    (h4 : Four w c (.int .i64 kind) nv (.slice none 0 0) (.string src)) (wb wo cap : Nat) (ws : List ByteArray) (hcells : ∀ (j : Nat) (x : ByteArray), ws[j]? = some x → w.cell? ⟨wb, wo + j, none⟩ = some (.string x)) (hwc : wb ≠ c)
    (hws : ∀ x ∈ ws, x.size ≤ 1000000) (hlen : ws.length ≤ 1000000) :
    Calls Tryz.prog 44 #[.pointer (some ⟨c, 0, none⟩), .slice (some ⟨wb, wo, none⟩) ws.length cap] w (RestPost c kind nv src ws w) := by
  by_cases h : kind = 4
  · subst h; exact rest_give W0 w hc hl c hcW nv src h4 wb wo cap ws hcells hwc hws hlen
  · by_cases h' : kind = 5
    · subst h'; exact rest_call W0 w hc hl c hcW nv src h4 wb wo cap ws hcells hwc hws hlen
    · exact rest_none W0 w hc hl c hcW kind ⟨h, h'⟩ nv src h4 wb wo cap ws hcells hwc hws hlen
end Go.Proofs.YtlkhkalniekaoaaGreatDoor
end
