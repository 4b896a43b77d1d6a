/- Parts of the proof: Wn, Wo, Wp, Wq, Ub, Uc, Ud. -/
import Derived.Lib.TrimU
import Derived.Test.YtlkhkalniekaoaaGreatDoorRows
import Derived.ChangeArms
import Derived.SliceStrings
import Derived.Lib.LaidU8
import Derived.Test.YtlkhkalniekaoaaGreatDoorQaw
import Derived.Test.YtlkhkalniekaoaaGreatDoorQaa

set_option linter.unusedVariables false
set_option linter.unusedSimpArgs false

section
/- paling/script.line: parts. -/
namespace Go.Proofs.YtlkhkalniekaoaaGreatDoor
open Go.RowKit Go.Shelf Go.Sort Go.Lib

def formCells : Array Value := #[.string ⟨#[99, 111, 109, 112]⟩, .int .i64 1, .string ⟨#[108, 111, 97, 100]⟩, .int .i64 2, .string ⟨#[109, 101, 109, 98, 114, 97, 110, 101]⟩, .int .i64 2, .string ⟨#[114, 101, 118, 111, 107, 101, 114]⟩, .int .i64 2,
  .string ⟨#[103, 105, 118, 101]⟩, .int .i64 2, .string ⟨#[99, 97, 108, 108]⟩, .int .i64 1, .string ⟨#[114, 101, 118, 111, 107, 101]⟩, .int .i64 1, .string ⟨#[102, 111, 114, 103, 101, 116]⟩, .int .i64 1, .string ⟨#[99, 111, 108, 108, 101, 99, 116]⟩, .int .i64 0]
theorem range_later {w w' : World} {b : Nat} {cs : List Value} (h : w.rangeAt b 0 cs) (k : Later w w') : w'.rangeAt b 0 cs := fun j v hj => k.cellOf (h j v hj)
/-- The kinds' words, and how many numbers they have. -/
def formTab : List (ByteArray × Nat) := [(⟨#[99, 111, 109, 112]⟩, 1), (⟨#[108, 111, 97, 100]⟩, 2), (⟨#[109, 101, 109, 98, 114, 97, 110, 101]⟩, 2), (⟨#[114, 101, 118, 111, 107, 101, 114]⟩, 2), (⟨#[103, 105, 118, 101]⟩, 2), (⟨#[99, 97, 108, 108]⟩, 1), (⟨#[114, 101, 118, 111, 107, 101]⟩, 1), (⟨#[102, 111, 114, 103, 101, 116]⟩, 1), (⟨#[99, 111, 108, 108, 101, 99, 116]⟩, 0)]
structure Cmd where
  k : Int
  ns : List Int
  al : List Arg
  src : ByteArray
def wordsOf (s : ByteArray) : List ByteArray := (Lib.fieldsD s.data.toList).map fun x => ⟨x.toArray⟩
def numsR : List ByteArray → Option (List Int)
  | [] => some []
  | x :: r => match numS x with
    | none => none
    | some v => (numsR r).map (v :: ·)
/-- A command's line, its words given: the command, or why not. -/
def lineR (ws : List ByteArray) : Except Int Cmd :=
  match formTab.findIdx? fun p => decide (some p.1 = ws.head?) with
  | none => .error 18
  | some k =>
    if ws.length < 1 + ((formTab[k]?.map Prod.snd).getD 0) then .error 1
    else match numsR ((ws.drop 1).take ((formTab[k]?.map Prod.snd).getD 0)) with
      | none => .error 1
      | some ns => match restR k (ws.drop (1 + ((formTab[k]?.map Prod.snd).getD 0))) with
        | none => .error 1
        | some al => .ok ⟨k, ns, al, ⟨#[]⟩⟩

def LinePost (ws : List ByteArray) (w : World) (e : Ending) (w' : World) : Prop :=
  ∃ kk p1 n1 c1 p2 n2 c2 src er, e = .returned (.tuple #[.agg #[.int .i64 kk, .slice p1 n1 c1, .slice p2 n2 c2, .string src], .int .i64 er]) ∧ Later w w' ∧
    ((∃ x, lineR ws = .error x ∧ er = x ∧ x ≠ 0) ∨
     ∃ c, lineR ws = .ok c ∧ er = 0 ∧ kk = c.k ∧ src = c.src ∧ w'.ownsRow w.heap.size 3 1 (.slice p1 n1 c1) c.ns.length (c.ns.map (Value.int .i64)) ∧ w'.ownsRow w.heap.size 49 5 (.slice p2 n2 c2) c.al.length (argCells c.al))
theorem formIdx0 (w : World) : (Instr.index 104 (.agg formCells) (.int .i64 ((0 : Nat) : Int))).run Tryz.prog w = .ok (.agg #[.string ⟨#[99, 111, 109, 112]⟩, .int .i64 ((1 : Nat) : Int)]) w := by kernel_rfl
theorem formIdx1 (w : World) : (Instr.index 104 (.agg formCells) (.int .i64 ((1 : Nat) : Int))).run Tryz.prog w = .ok (.agg #[.string ⟨#[108, 111, 97, 100]⟩, .int .i64 ((2 : Nat) : Int)]) w := by kernel_rfl
theorem formIdx2 (w : World) : (Instr.index 104 (.agg formCells) (.int .i64 ((2 : Nat) : Int))).run Tryz.prog w = .ok (.agg #[.string ⟨#[109, 101, 109, 98, 114, 97, 110, 101]⟩, .int .i64 ((2 : Nat) : Int)]) w := by kernel_rfl
theorem formIdx3 (w : World) : (Instr.index 104 (.agg formCells) (.int .i64 ((3 : Nat) : Int))).run Tryz.prog w = .ok (.agg #[.string ⟨#[114, 101, 118, 111, 107, 101, 114]⟩, .int .i64 ((2 : Nat) : Int)]) w := by kernel_rfl
theorem formIdx4 (w : World) : (Instr.index 104 (.agg formCells) (.int .i64 ((4 : Nat) : Int))).run Tryz.prog w = .ok (.agg #[.string ⟨#[103, 105, 118, 101]⟩, .int .i64 ((2 : Nat) : Int)]) w := by kernel_rfl
theorem formIdx5 (w : World) : (Instr.index 104 (.agg formCells) (.int .i64 ((5 : Nat) : Int))).run Tryz.prog w = .ok (.agg #[.string ⟨#[99, 97, 108, 108]⟩, .int .i64 ((1 : Nat) : Int)]) w := by kernel_rfl
theorem formIdx6 (w : World) : (Instr.index 104 (.agg formCells) (.int .i64 ((6 : Nat) : Int))).run Tryz.prog w = .ok (.agg #[.string ⟨#[114, 101, 118, 111, 107, 101]⟩, .int .i64 ((1 : Nat) : Int)]) w := by kernel_rfl
theorem formIdx7 (w : World) : (Instr.index 104 (.agg formCells) (.int .i64 ((7 : Nat) : Int))).run Tryz.prog w = .ok (.agg #[.string ⟨#[102, 111, 114, 103, 101, 116]⟩, .int .i64 ((1 : Nat) : Int)]) w := by kernel_rfl
theorem formIdx8 (w : World) : (Instr.index 104 (.agg formCells) (.int .i64 ((8 : Nat) : Int))).run Tryz.prog w = .ok (.agg #[.string ⟨#[99, 111, 108, 108, 101, 99, 116]⟩, .int .i64 ((0 : Nat) : Int)]) w := by kernel_rfl
theorem formIdx (k : Nat) (W : ByteArray) (M : Nat) (h : formTab[k]? = some (W, M)) (w : World) :
    (Instr.index 104 (.agg formCells) (.int .i64 k)).run Tryz.prog w = .ok (.agg #[.string W, .int .i64 M]) w := by
  have hk : k < 9 := (List.getElem?_eq_some_iff.1 h).1
  match k, hk with
  | 0, _ => cases h; exact formIdx0 w
  | 1, _ => cases h; exact formIdx1 w
  | 2, _ => cases h; exact formIdx2 w
  | 3, _ => cases h; exact formIdx3 w
  | 4, _ => cases h; exact formIdx4 w
  | 5, _ => cases h; exact formIdx5 w
  | 6, _ => cases h; exact formIdx6 w
  | 7, _ => cases h; exact formIdx7 w
  | 8, _ => cases h; exact formIdx8 w
theorem findIdx_drop {α : Type} (l : List α) (p : α → Bool) (k : Nat) (x : α) (hx : l[k]? = some x) (hp : p x = false) : (l.drop k).findIdx? p = ((l.drop (k + 1)).findIdx? p).map (· + 1) := by
  rw [Lib.drop_at hx, List.findIdx?_cons, hp]
  first | done | rfl
end Go.Proofs.YtlkhkalniekaoaaGreatDoor
end

section
/- paling/script.line. -/
namespace Go.Proofs.YtlkhkalniekaoaaGreatDoor
open Go.RowKit Go.Shelf Go.Sort Go.Lib
theorem toList_eq (a b : ByteArray) : (a.toList == b.toList) = decide (a = b) := by
  rw [Lib.toList_data, Lib.toList_data]
  by_cases h : a = b
  · subst h; simp
  · simp only [h, decide_false, beq_eq_false_iff_ne, ne_eq]
    intro hh
    exact h (ByteArray.ext (Array.ext' hh))
theorem Four.put1 {w : World} {c : Nat} {x0 x1 x2 x3 : Value} (h : Four w c x0 x1 x2 x3) (y : Value) : Four (w.setCell ⟨c, 1, none⟩ y) c x0 y x2 x3 := by
  obtain ⟨⟨c0, c1, c2, c3⟩, f0, f1, f2, f3⟩ := h
  refine ⟨⟨?_, ?_, ?_, ?_⟩, ?_, ?_, ?_, ?_⟩
  · rw [World.cell?_setCell_other _ _ _ _ (by simp)]; exact c0
  · exact World.cell?_setCell_same _ _ _ c1
  · rw [World.cell?_setCell_other _ _ _ _ (by simp)]; exact c2
  · rw [World.cell?_setCell_other _ _ _ _ (by simp)]; exact c3
  · simpa using f0
  · simpa using f1
  · simpa using f2
  · simpa using f3
theorem own_mono {w : World} {B B' : Nat} {e : TypeId} {sz : Nat} {v : Value} {n : Nat} {xs : List Value} (h : w.ownsRow B e sz v n xs) (hB : B' ≤ B) : w.ownsRow B' e sz v n xs := by
  refine ⟨h.1, ?_⟩
  rcases h.2 with hn | ⟨g, cap, cur, hv, hg, hr⟩
  · exact .inl hn
  · exact .inr ⟨g, cap, cur, hv, Nat.le_trans hB hg, hr⟩
theorem own_put4 {w : World} {B b : Nat} {e : TypeId} {sz : Nat} {v : Value} {n : Nat} {xs : List Value} (h : w.ownsRow B e sz v n xs) (hb : b < B) (y0 y1 y2 y3 : Value) : (World.put4 w b y0 y1 y2 y3).ownsRow B e sz v n xs :=
  ownsRow_setCell_below (ownsRow_setCell_below (ownsRow_setCell_below (ownsRow_setCell_below h hb _) hb _) hb _) hb _
theorem num_none (s : ByteArray) (hs : s.size ≤ 1000000) (w : World) (hc : Calm w) (h : numS s = none) :
    Calls Tryz.prog 43 #[.string s] w fun e w' => ∃ n, e = .returned (.tuple #[.int .i64 n, .bool false]) ∧ Later w w' := by
  refine (number_any s hs w hc).mono ?_
  rintro e w' ⟨n, rfl, hl, _⟩
  rw [h]
  exact ⟨n, rfl, hl⟩
theorem num_some (s : ByteArray) (hs : s.size ≤ 1000000) (w : World) (hc : Calm w) (v : Int) (h : numS s = some v) :
    Calls Tryz.prog 43 #[.string s] w fun e w' => e = .returned (.tuple #[.int .i64 v, .bool true]) ∧ Later w w' := by
  refine (number_any s hs w hc).mono ?_
  rintro e w' ⟨n, rfl, hl, hb⟩
  rw [h, hb v h]
  exact ⟨rfl, hl⟩
theorem numsR_append (l : List ByteArray) (x : ByteArray) : numsR (l ++ [x]) = match numsR l, numS x with | some a, some b => some (a ++ [b]) | _, _ => none := by
  induction l with
  | nil => simp only [List.nil_append, numsR]; cases numS x <;> rfl
  | cons y l ih =>
    simp only [List.cons_append, numsR]
    cases numS y with
    | none => rfl
    | some b =>
      simp only [ih]
      cases numsR l <;> cases numS x <;> rfl
theorem numsR_none (l r : List ByteArray) (h : numsR l = none) : numsR (l ++ r) = none := by
  induction l with
  | nil => simp [numsR] at h
  | cons y l ih =>
    simp only [List.cons_append, numsR] at h ⊢
    cases hy : numS y with
    | none => rfl
    | some b =>
      rw [hy] at h
      simp only [Option.map_eq_none_iff] at h ⊢
      exact ih h
theorem numsR_length (l : List ByteArray) (a : List Int) (h : numsR l = some a) : a.length = l.length := by
  induction l generalizing a with
  | nil => simp [numsR] at h; subst h; rfl
  | cons y l ih =>
    simp only [numsR] at h
    cases hy : numS y with
    | none => rw [hy] at h; cases h
    | some b =>
      rw [hy] at h
      simp only [Option.map_eq_some_iff] at h
      obtain ⟨a', h', rfl⟩ := h
      simp [ih a' h']
theorem LinePost.err {ws : List ByteArray} {w w' : World} {x : Int} (h : lineR ws = .error x) (hx : x ≠ 0) (hl : Later w w') {kk : Int} {p1 p2 : Option Addr} {n1 c1 n2 c2 : Nat} {src : ByteArray} :
    LinePost ws w (.returned (.tuple #[.agg #[.int .i64 kk, .slice p1 n1 c1, .slice p2 n2 c2, .string src], .int .i64 x])) w' :=
  ⟨kk, p1, n1, c1, p2, n2, c2, src, x, rfl, hl, .inl ⟨x, h, rfl, hx⟩⟩
theorem formTab_le {k M : Nat} {W : ByteArray} (h : formTab[k]? = some (W, M)) : M ≤ 2 := by
  have : ∀ p ∈ formTab, p.2 ≤ 2 := by decide
  exact this _ (List.mem_of_getElem? h)
theorem lineR_some {ws : List ByteArray} {k M : Nat} {W : ByteArray} (hf : formTab.findIdx? (fun p => decide (some p.1 = ws.head?)) = some k) (hk : formTab[k]? = some (W, M)) : lineR ws =
    if ws.length < 1 + M then .error 1
    else match numsR ((ws.drop 1).take M) with
      | none => .error 1
      | some ns => match restR k (ws.drop (1 + M)) with
        | none => .error 1
        | some al => .ok ⟨k, ns, al, ⟨#[]⟩⟩ := by
  unfold lineR
  rw [hf]
  simp only [hk, Option.map_some, Option.getD_some]
  first | done | rfl

set_option maxHeartbeats 6000000 in
set_option maxRecDepth 1000000 in
theorem line_any (s : ByteArray) (hs : s.size ≤ 1000000) (w : World) (hc : Calm w) (hf : w.rangeAt 2 0 formCells.toList) (hne : wordsOf s ≠ []) (hlen : (wordsOf s).length ≤ 1000000) (hws : ∀ x ∈ wordsOf s, x.size ≤ 1000000) :
    Calls Tryz.prog 22 #[.string s] w (LinePost (wordsOf s) w) := by
  have HF : Aside (w.rangeAt 2 0 formCells.toList) := hf
  clear hf
  have hl0 : Aside (Later w (w.alloc (.cells #[.int .i64 0, .slice none 0 0, .slice none 0 0, .string ⟨#[]⟩] 35))) := (Below.refl _ w).alloc (Nat.le_refl _) _
  have hwl : (Lib.fieldsD s.data.toList).length = (wordsOf s).length := by simp [wordsOf]
  have hwm : ((Lib.fieldsD s.data.toList).map fun x => Value.string ⟨x.toArray⟩) = (wordsOf s).map Value.string := by simp [wordsOf]
  obtain ⟨ws, hwe⟩ : ∃ ws, wordsOf s = ws := ⟨_, rfl⟩
  have cF : ∀ w0, Calm w0 → Calls Tryz.prog 27 #[.string s] w0 fun e w' => ∃ A, e = .returned (.slice (some ⟨A, 0, none⟩) ws.length ws.length) ∧ Later w0 w' ∧ w0.heap.size ≤ A ∧
      ∀ (j : Nat) (x : ByteArray), ws[j]? = some x → w'.cell? ⟨A, j, none⟩ = some (.string x) := fun w0 hc0 => by
    refine (Tryz.strings_Fields_any s w0 (by omega) hc0.space hc0.white).mono ?_
    rintro e w' ⟨A, rfl, hA, hown, hbel⟩
    rw [hwl, hwm, hwe] at hown
    rw [hwl, hwe]
    refine ⟨A, rfl, hbel, hA, fun j x hj => ?_⟩
    have hjl : j < ws.length := (List.getElem?_eq_some_iff.1 hj).1
    exact (hown.cellAt j (by omega)).trans (by rw [List.getElem?_map, hj]; first | done | rfl)
  clear hwl hwm
  rw [hwe] at hne hlen hws ⊢
  clear hwe
  obtain ⟨w0, rest0, rfl⟩ := List.exists_cons_of_ne_nil hne
  obtain ⟨ws, hwe⟩ : ∃ ws, w0 :: rest0 = ws := ⟨_, rfl⟩
  have HW0 : Aside (ws.head? = some w0) := by rw [← hwe]; first | done | rfl
  have hl1 : 1 ≤ ws.length := by rw [← hwe]; simp
  have HWS : Aside (∀ x ∈ ws, x.size ≤ 1000000) := by rw [← hwe]; exact hws
  rw [hwe] at cF hlen ⊢
  have HW1 : Aside (ws[0]? = some w0) := by rw [← hwe]; first | done | rfl
  clear hwe hne hws
  obtain ⟨n, hn⟩ : ∃ n, ws.length = n := ⟨_, rfl⟩
  rw [hn] at cF hlen hl1
  have HN : Aside (ws.length = n) := hn
  clear hn
  obtain ⟨F, hFF⟩ : ∃ F, F = formCells := ⟨_, rfl⟩
  have HFF : Aside (F = formCells) := hFF
  clear hFF
  obtain ⟨i0, hi, hz0, hz1, hz2⟩ := info_parts (show (Tryz.prog.info? 3).map (fun i => (i.zero, i.size, i.bytes)) = some (some (.int .i64 0), 1, 8) by kernel_rfl)
  go_enter Tryz.func22, Tryz.ntmps22
  go_wp2_with (first
    | (go_at_call 27; refine (cF _ (hc.later hl0.out)).mono ?_; rintro e w1 ⟨A, rfl, hbel, hA, hcells⟩; have HC : Aside (∀ (j : Nat) (x : ByteArray), ws[j]? = some x → w1.cell? ⟨A, j, none⟩ = some (.string x)) := hcells; clear hcells; have HB : Aside (Later _ w1) := hbel; clear hbel)
    | (refine wpList_load_mid rfl 104 (.global 2) rfl 2 0 rfl F.toList _ (by rw [HFF.out]; exact range_later HF.out (Later.step hl0.out HB.out)) Tryz.underlying104 rfl (by rw [HFF.out]; kernel_rfl) ?_; simp only [Array.toArray_toList]))
  clear cF
  have hA1 : w.heap.size + 1 ≤ A := by simpa using hA
  clear hA
  have hw1 : w.heap.size + 1 ≤ w1.heap.size := by have := HB.out.size; simpa using this
  have HL1 : Aside (Later w w1) := Later.step hl0.out HB.out
  have hAw : A < w1.heap.size := cell_lt (HC.out 0 w0 HW1.out)
  have H41 : Aside (Four w1 w.heap.size (.int .i64 0) (.slice none 0 0) (.slice none 0 0) (.string ⟨#[]⟩)) := (Four.new w _ _ _ _ _).later HB.out (by simp)
  go_loopg [16] 9 (fun g i wr => ∃ k : Nat, k + g = 9 ∧ i = .int .i64 k ∧ Aside (Later w1 wr) ∧ Aside (formTab.findIdx? (fun p => decide (some p.1 = ws.head?)) = ((formTab.drop k).findIdx? (fun p => decide (some p.1 = ws.head?))).map (· + k)))
  case atStart => exact ⟨0, rfl, rfl, Below.refl _ _, by show _ = _; simp⟩
  case round =>
    obtain ⟨k, hk, rfl, HL, HI⟩ := hrel
    have hwr := HL.out.size
    by_cases hlt : k < 9
    · obtain ⟨⟨W, M⟩, hWM⟩ : ∃ p, formTab[k]? = some p := ⟨_, List.getElem?_eq_getElem hlt⟩
      have HWM : Aside (formTab[k]? = some (W, M)) := hWM
      have hM2 : M ≤ 2 := formTab_le hWM
      have hix : ∀ w, (Instr.index 104 (.agg F) (.int .i64 k)).run Tryz.prog w = .ok (.agg #[.string W, .int .i64 M]) w := fun w => by rw [HFF.out]; exact formIdx k W M hWM w
      clear hWM
      have cA : ∀ o, (wr.alloc o).cell? ⟨A, 0, none⟩ = some (.string w0) := fun o => (World.cell?_alloc_past _ _ _ (by omega)).trans (HL.out.cellOf (HC.out 0 w0 HW1.out))
      have cA' : wr.cell? ⟨A, 0, none⟩ = some (.string w0) := HL.out.cellOf (HC.out 0 w0 HW1.out)
      have hAr : A < wr.heap.size := by omega
      have hWr : w.heap.size < wr.heap.size := by omega
      have H4r : Aside (Four wr w.heap.size (.int .i64 0) (.slice none 0 0) (.slice none 0 0) (.string ⟨#[]⟩)) := H41.out.later HL.out (by omega)
      obtain ⟨⟨r0, r1, r2, r3⟩, q0, q1, q2, q3⟩ := id H4r.out
      by_cases hw : w0 = W
      · subst hw
        have hIK : formTab.findIdx? (fun p => decide (some p.1 = ws.head?)) = some k := by
          rw [HI.out, Lib.drop_at HWM.out, List.findIdx?_cons]
          simp [HW0.out]
        have HLR : Aside _ := lineR_some hIK HWM.out
        clear hIK HI
        rw [HN.out] at HLR
        by_cases hM : n < 1 + M
        · have HE : Aside (lineR ws = .error 1) := by show _ = _; rw [HLR.out, if_pos hM]
          clear HLR
          have H4r' : Aside (Four (((wr.alloc (.cells #[.string w0, .int .i64 M] 103)).alloc (.cells #[.int .i64 k, .slice none 0 0, .slice none 0 0, .string ⟨#[]⟩] 35)).drew) w.heap.size (.int .i64 0) (.slice none 0 0) (.slice none 0 0) (.string ⟨#[]⟩)) :=
            H4r.out.later ((((Below.refl _ wr).alloc (Nat.le_refl _) _).alloc (by simp) _).drew) hWr
          have hLw : Aside (Later w (((wr.alloc (.cells #[.string w0, .int .i64 M] 103)).alloc (.cells #[.int .i64 k, .slice none 0 0, .slice none 0 0, .string ⟨#[]⟩] 35)).drew)) :=
            (((((HL1.out.trans (HL.out.mono (by omega)))).alloc (by omega) _).alloc (by simp; omega) _).drew)
          go_wp2
          go_region
          go_wp2
          refine ret_cmd rfl rfl (range_later (H4r.out.range _ _ _ _) ((((Below.refl _ _).alloc (Nat.le_refl _) _).alloc (by simp) _).drew)) rfl rfl ?_
          exact LinePost.err HE.out (by decide) ((((below_put4 (HL1.out.trans (HL.out.mono (by omega))) (Nat.le_refl _) _ _ _ _).alloc (by simp [World.setCell]; omega) _).alloc (by simp [World.setCell]; omega) _).drew)
        · obtain ⟨W1, rfl⟩ : ∃ W, W = wr := ⟨_, rfl⟩
          go_wp2
          go_region
          go_wp2
          all_goals (
           go_loopg [41] M (fun g i wr => ∃ (j : Nat) (ns : List Int) (nv : Value), j + g = M ∧ i = .int .i64 j ∧ Aside (numsR ((ws.drop 1).take j) = some ns) ∧ Aside (Later W1 wr) ∧ Aside (W1.heap.size + 2 ≤ wr.heap.size) ∧
             Aside (wr.cell? ⟨W1.heap.size, 1, none⟩ = some (.int .i64 M)) ∧ Aside (Four wr (W1.heap.size + 1) (.int .i64 k) nv (.slice none 0 0) (.string ⟨#[]⟩)) ∧ Aside (wr.ownsRow (W1.heap.size + 2) 3 1 nv ns.length (ns.map (Value.int .i64))))
           case atStart =>
             refine ⟨0, [], _, by omega, rfl, rfl, ?_, ?_, ?_, ?_, World.ownsRow_nil _ _ _ _⟩
             · exact (((Below.refl _ W1).alloc (Nat.le_refl _) _).alloc (by simp) _).drew
             · show W1.heap.size + 2 ≤ ((W1.alloc _).alloc _).heap.size
               simp
             · show ((W1.alloc _).alloc _).cell? _ = _
               rw [World.cell?_alloc_past _ _ _ (by simp), World.cell?_alloc_at _ _ _ _ rfl]
               first | done | rfl
             · have := Four.new (W1.alloc (.cells #[.string w0, .int .i64 M] 103)) (.int .i64 k) (.slice none 0 0) (.slice none 0 0) (.string ⟨#[]⟩) 35
               rw [World.size_alloc] at this
               exact this
           case round =>
             obtain ⟨j, ns, nv, hjk, rfl, HJ, HX, HS, HFm, HF4, HOW⟩ := hrel
             have hsx := HS.out
             have hnl : ns.length = j := by
               have := numsR_length _ _ HJ.out
               simp at this
               have := HN.out
               omega
             obtain ⟨⟨d0, d1, d2, d3⟩, e0, e1, e2, e3⟩ := id HF4.out
             have hfm := HFm.out
             have HC4 : Aside (Four wr w.heap.size (.int .i64 0) (.slice none 0 0) (.slice none 0 0) (.string ⟨#[]⟩)) := H4r.out.later HX.out hWr
             have HLx : Aside (Later w wr) := (HL1.out.trans (HL.out.mono (by omega))).trans (HX.out.mono (by omega))
             obtain ⟨⟨z0, z1, z2, z3⟩, y0, y1, y2, y3⟩ := id HC4.out
             clear r0 r1 r2 r3 q0 q1 q2 q3 cA cA'
             by_cases hjm : j < M
             · first
                 | (exfalso; omega)
                 | (
                    obtain ⟨x, hx⟩ : ∃ x, ws[1 + j]? = some x := ⟨_, List.getElem?_eq_getElem (by have := HN.out; omega)⟩
                    have HX1 : Aside (ws[1 + j]? = some x) := hx
                    have hxs : x.size ≤ 1000000 := HWS.out x (List.mem_of_getElem? hx)
                    have hxc : wr.cell? ⟨A, 1 + j, none⟩ = some (.string x) := HX.out.cellOf (HL.out.cellOf (HC.out (1 + j) x hx))
                    have HTK : Aside ((ws.drop 1).take (j + 1) = (ws.drop 1).take j ++ [x]) := by
                      show _ = _
                      rw [List.take_add_one, List.getElem?_drop, hx]
                      first | done | rfl
                    clear hx
                    cases hnx : numS x with
                    | none =>
                      have HNX : Aside (numS x = none) := hnx
                      clear hnx
                      have HE : Aside (lineR ws = .error 1) := by
                        have hno : numsR ((ws.drop 1).take M) = none := by
                          rw [← List.take_append_drop (j + 1) ((ws.drop 1).take M), List.take_take, Nat.min_eq_left (by omega)]
                          apply numsR_none
                          rw [HTK.out, numsR_append, HJ.out, HNX.out]
                        show _ = _
                        rw [HLR.out, if_neg hM, hno]
                      go_wp2_with (go_at_call 43; refine (num_none x hxs _ (hc.later HLx.out) HNX.out).mono ?_; rintro e w2 ⟨nx, rfl, hb⟩; have HB2 : Aside (Later wr w2) := hb; clear hb; have h4' := HC4.out.later HB2.out (by omega); clear z0 z1 z2 z3 y0 y1 y2 y3; obtain ⟨⟨z0, z1, z2, z3⟩, y0, y1, y2, y3⟩ := id h4'; have H5 : Aside (Four _ _ _ _ _ _) := h4'; clear h4')
                      refine ret_cmd rfl rfl (H5.out.range _ _ _ _) rfl rfl ?_
                      exact LinePost.err HE.out (by decide) (below_put4 (Later.step HLx.out HB2.out) (Nat.le_refl _) _ _ _ _)
                    | some v =>
                      have HNX : Aside (numS x = some v) := hnx
                      clear hnx
                      have hcn : some (W1.heap.size + 1) ≠ nv.ownBlock := fun h => by have := own_block HOW.out _ h.symm; omega
                      have hfn : some W1.heap.size ≠ nv.ownBlock := fun h => by have := own_block HOW.out _ h.symm; omega
                      go_wp2_with (first
                        | (go_at_call 43; refine (num_some x hxs _ (hc.later HLx.out) v HNX.out).mono ?_; rintro e w2 ⟨rfl, hb⟩; have HB2 : Aside (Later wr w2) := hb; clear hb; have h4' := HF4.out.later HB2.out (by omega); clear d0 d1 d2 d3 e0 e1 e2 e3; obtain ⟨⟨d0, d1, d2, d3⟩, e0, e1, e2, e3⟩ := id h4'; have H5 : Aside (Four _ _ _ _ _ _) := h4'; clear h4'; have hcw2 : W1.heap.size + 1 < w2.heap.size := (by have := HB2.out.size; omega))
                        | (at_builtin; refine wpList_append_own _ rfl (.tmp 54) (.tmp 56) 32 rfl (W1.heap.size + 2) 3 i0 (.int .i64 0) 1 8 Tryz.underlying32 hi hz0 hz1 hz2 rfl (by decide) nv ns.length (ns.map (Value.int .i64)) (by simp [Act.eval, Act.put]) ((owned_later HOW.out HB2.out).alloc _) ⟨w2.heap.size, 0, none⟩ 1 1 [.int .i64 v] rfl rfl ?c1 ?c2 ?c3 ?c4 ?c5 ?_; rotate_right; intro v' w3 hown' hgrow _; have hf3 := Four.only (H5.out.only (World.grownBy_alloc w2 _ none) (by simp)) hgrow hcn; clear d0 d1 d2 d3 e0 e1 e2 e3; obtain ⟨⟨d0, d1, d2, d3⟩, e0, e1, e2, e3⟩ := id hf3; have H6 : Aside (Four _ _ _ _ _ _) := hf3; clear hf3; obtain ⟨vg, vc, rfl, -, -⟩ := own_form hown'; have N6 : Aside (World.ownsRow _ _ _ _ _ _ _) := hown'; clear hown'; have G6 : Aside (World.grownBy _ _ _) := hgrow; clear hgrow))
                      · go_roundg (gk - 1)
                        case measure => omega
                        case rel =>
                          have hz2 := HB2.out.size
                          have hz3 := G6.out.size
                          (try simp only [World.size_alloc] at hz3)
                          refine ⟨j + 1, ns ++ [v], _, by omega, by go_num, ?_, ?_, ?_, ?_, H6.out.put1 _, ?_⟩
                          · show _ = _
                            rw [HTK.out, numsR_append, HJ.out, HNX.out]
                          · refine Below.setCell (p := ⟨W1.heap.size + 1, 1, none⟩) ?_ (by simp) _
                            refine (((HX.out.trans (HB2.out.mono (by omega))).alloc (by omega) _).grown G6.out (by simp; omega) (fun q hq => by have := own_block HOW.out q hq; omega))
                          · show W1.heap.size + 2 ≤ (w3.setCell _ _).heap.size
                            simp only [World.setCell, Array.size_modify]
                            omega
                          · show _ = _
                            rw [World.cell?_setCell_other _ _ _ _ (by simp)]
                            exact G6.out.cell ((World.cell?_alloc_past _ _ _ (by omega)).trans (HB2.out.cellOf HFm.out)) hfn
                          · show World.ownsRow _ _ _ _ _ _ _
                            rw [List.length_append, List.map_append]
                            have hh := ownsRow_setCell_below (a := ⟨W1.heap.size + 1, 1, none⟩) N6.out (Nat.lt_succ_self _) (.slice (some ⟨vg, 0, none⟩) (j + 1) vc)
                            rw [hnl] at hh ⊢
                            exact hh
                      · intro j u hj
                        match j, hj with
                        | 0, hj => simp at hj; subst hj; simp [Addr.add]
                      · intro u hu; simp at hu; subst hu; rfl
                      · unfold maxLen; omega
                      · omega
                      · have := HB2.out.size; simp; omega)
             · have hjM : j = M := by omega
               subst hjM
               have hRC : ∀ (wo cap : Nat), (∀ (q : Nat) (x : ByteArray), (ws.drop (1 + j))[q]? = some x → wr.cell? ⟨A, wo + q, none⟩ = some (.string x)) →
                   Calls Tryz.prog 44 #[.pointer (some ⟨W1.heap.size + 1, 0, none⟩), .slice (some ⟨A, wo, none⟩) (n - (1 + j)) cap] wr (RestPost (W1.heap.size + 1) k nv ⟨#[]⟩ (ws.drop (1 + j)) wr) := fun wo cap hq => by
                 have h := rest_any w wr hc HLx.out (W1.heap.size + 1) (by omega) k nv ⟨#[]⟩ HF4.out A wo cap (ws.drop (1 + j)) hq (by omega) (fun x hx => HWS.out x (List.mem_of_mem_drop hx)) (by rw [List.length_drop, HN.out]; omega)
                 rw [List.length_drop, HN.out] at h
                 exact h
               have hq1 : ∀ (q : Nat) (x : ByteArray), (ws.drop (1 + j))[q]? = some x → wr.cell? ⟨A, 1 + j + q, none⟩ = some (.string x) := fun q x hx => by
                 rw [List.getElem?_drop] at hx
                 exact HX.out.cellOf (HL.out.cellOf (HC.out _ x hx))
               have hRC0 : n = 1 + j → Calls Tryz.prog 44 #[.pointer (some ⟨W1.heap.size + 1, 0, none⟩), .slice (some ⟨A, 0, none⟩) 0 0] wr (RestPost (W1.heap.size + 1) k nv ⟨#[]⟩ (ws.drop (1 + j)) wr) := fun hn1 => by
                 have h := hRC 0 0 (fun q x hx => by
                   have := (List.getElem?_eq_some_iff.1 hx).1
                   rw [List.length_drop, HN.out] at this
                   omega)
                 rw [show n - (1 + j) = 0 by omega] at h
                 exact h
               have HRC : Aside _ := hRC
               have HRC0 : Aside _ := hRC0
               have HQ1 : Aside _ := hq1
               clear hRC hq1 hRC0
               have hnvc : nv.ownBlock = none ∨ nv.ownBlock ≠ some (W1.heap.size + 1) := .inr (fun h => by have := own_block HOW.out _ h; omega)
               obtain ⟨p1, m1, q1, rfl⟩ := own_slice HOW.out
               go_wp2_with (go_at_call 44; (first | (have hne : ¬ n = 1 + j := (by omega); refine (HRC.out (1 + j) _ HQ1.out).mono ?_; clear hne) | (have hne : n = 1 + j := (by omega); refine (HRC0.out hne).mono ?_; clear hne)); rintro e w2 ⟨er, av, rfl, ho, hf, ⟨p2, m2, q2, rfl⟩, hor⟩; clear d0 d1 d2 d3 e0 e1 e2 e3 z0 z1 z2 z3 y0 y1 y2 y3; obtain ⟨⟨d0, d1, d2, d3⟩, e0, e1, e2, e3⟩ := id hf; have h4' := HC4.out.only ho (by simp; omega); obtain ⟨⟨z0, z1, z2, z3⟩, y0, y1, y2, y3⟩ := id h4'; have H5 : Aside (Four _ _ _ _ _ _) := h4'; clear h4'; have HOn : Aside (Only _ _ _) := ho; clear ho; have HOR : Aside (_ ∨ _) := hor; clear hor; have H6 : Aside (Four _ _ _ _ _ _) := hf; clear hf)
               all_goals (
                refine ret_cmd rfl rfl (H5.out.range _ _ _ _) rfl rfl ?_
                have hL2 : Later w w2 := Only.later HLx.out HOn.out (by omega)
                have hLP := fun (y0 y1 y2 y3 : Value) => below_put4 hL2 (Nat.le_refl w.heap.size) y0 y1 y2 y3
                rcases HOR.out with ⟨hr, rfl⟩ | ⟨al, hr, rfl, hown⟩
                · have hE : lineR ws = .error 1 := by
                    rw [HLR.out, if_neg hM, HJ.out]
                    simp only []
                    rw [hr]
                  exact LinePost.err hE (by decide) (hLP _ _ _ _)
                · have hE : lineR ws = .ok ⟨k, ns, al, ⟨#[]⟩⟩ := by
                    rw [HLR.out, if_neg hM, HJ.out]
                    simp only []
                    rw [hr]
                  refine ⟨_, _, _, _, _, _, _, _, 0, rfl, hLP _ _ _ _, .inr ⟨⟨k, ns, al, ⟨#[]⟩⟩, hE, rfl, rfl, rfl, ?_, ?_⟩⟩
                  · exact own_mono (own_put4 (HOW.out.kept HOn.out hnvc) (by omega) _ _ _ _) (by omega)
                  · exact own_mono (own_put4 hown (by omega) _ _ _ _) (by omega)))
      · have htl : (w0.toList == W.toList) = false := by rw [toList_eq]; simp [hw]
        have HI2 : Aside (formTab.findIdx? (fun p => decide (some p.1 = ws.head?)) = ((formTab.drop (k + 1)).findIdx? (fun p => decide (some p.1 = ws.head?))).map (· + (k + 1))) := by
          show _ = _
          rw [HI.out, findIdx_drop _ _ k _ HWM.out (by rw [HW0.out]; simp only [Option.some.injEq, decide_eq_false_iff_not]; exact fun h => hw h.symm), Option.map_map]
          congr 1
          funext x
          simp only [Function.comp]
          omega
        clear hw HI
        go_wp2
        go_region
        go_wp2
        go_roundg (gk - 1)
        case measure => omega
        case rel => exact ⟨k + 1, by omega, by go_num, ((HL.out.alloc (by omega) _).drew), HI2⟩
    · have hk9 : k = 9 := by omega
      subst hk9
      have hWr : w.heap.size < wr.heap.size := by omega
      have H4r : Aside (Four wr w.heap.size (.int .i64 0) (.slice none 0 0) (.slice none 0 0) (.string ⟨#[]⟩)) := H41.out.later HL.out (by omega)
      obtain ⟨⟨r0, r1, r2, r3⟩, q0, q1, q2, q3⟩ := id H4r.out
      have HE : Aside (lineR ws = .error 18) := by
        show _ = _
        unfold lineR
        rw [HI.out]
        first | done | rfl
      go_wp2
      refine ret_cmd rfl rfl (H4r.out.range _ _ _ _) rfl rfl ?_
      exact LinePost.err HE.out (by decide) (below_put4 (HL1.out.trans (HL.out.mono (by omega))) (Nat.le_refl _) _ _ _ _)
end Go.Proofs.YtlkhkalniekaoaaGreatDoor
end

section
/- strings.Fields against strings.TrimSpace; the words' number and lengths. -/
namespace Go.Proofs.YtlkhkalniekaoaaGreatDoor
open Go.RowKit Go.Shelf Go.Sort Go.Lib

theorem fieldsGoD_ne : ∀ (f : Nat) (cur l : List UInt8), cur ≠ [] → Lib.fieldsGoD f cur l ≠ []
  | 0, cur, l, h => by simp [Lib.fieldsGoD, h]
  | f + 1, cur, l, h => by
    unfold Lib.fieldsGoD
    split
    · simp [h]
    · split
      · simp [h]
      · exact fieldsGoD_ne f _ _ (by simp [h])
theorem fieldsGoD_count : ∀ (f : Nat) (cur l : List UInt8), (Lib.fieldsGoD f cur l).length ≤ f + 1
  | 0, cur, l => by unfold Lib.fieldsGoD; split <;> simp
  | f + 1, cur, l => by
    unfold Lib.fieldsGoD
    split
    · split <;> simp
    · split
      · have := fieldsGoD_count f [] (l.drop (Lib.decodeL l).2)
        rw [List.length_append]
        split <;> simp <;> omega
      · have := fieldsGoD_count f (cur ++ l.take (Lib.decodeL l).2) (l.drop (Lib.decodeL l).2)
        omega
theorem fieldsGoD_size : ∀ (f : Nat) (cur l : List UInt8), ∀ x ∈ Lib.fieldsGoD f cur l, x.length ≤ cur.length + l.length
  | 0, cur, l, x, hx => by
    unfold Lib.fieldsGoD at hx
    split at hx
    · simp at hx
    · simp at hx; subst hx; omega
  | f + 1, cur, l, x, hx => by
    unfold Lib.fieldsGoD at hx
    split at hx
    · split at hx
      · simp at hx
      · simp at hx; subst hx; omega
    · split at hx
      · rw [List.mem_append] at hx
        rcases hx with hx | hx
        · split at hx
          · simp at hx
          · simp at hx; subst hx; omega
        · have := fieldsGoD_size f _ _ x hx
          simp at this
          omega
      · have := fieldsGoD_size f _ _ x hx
        simp only [List.length_append, List.length_take, List.length_drop] at this
        omega
theorem trimLeftD_nil (g : Nat) : Lib.trimLeftD g [] = [] := by cases g <;> simp [Lib.trimLeftD]
theorem trimRightD_nil (g : Nat) : Lib.trimRightD g [] = [] := by cases g <;> simp [Lib.trimRightD]
theorem fieldsGoD_blank (hw : ∀ l : List UInt8, l ≠ [] → 1 ≤ (Lib.decodeL l).2) : ∀ (f : Nat) (l : List UInt8), l.length < f → Lib.fieldsGoD f [] l = [] → ∀ g, l.length ≤ g → Lib.trimLeftD g l = []
  | 0, l, h, _, _, _ => by omega
  | f + 1, l, h, hf, g, hg => by
    by_cases hl : l = []
    · subst hl; exact trimLeftD_nil g
    · unfold Lib.fieldsGoD at hf
      rw [if_neg hl] at hf
      have h1 := hw l hl
      have h2 : 0 < l.length := List.length_pos_iff.2 hl
      obtain ⟨g', rfl⟩ : ∃ g', g = g' + 1 := ⟨g - 1, by omega⟩
      unfold Lib.trimLeftD
      rw [if_neg hl]
      split at hf
      · rename_i hsp
        rw [if_pos hsp]
        simp only [if_true, List.nil_append] at hf
        exact fieldsGoD_blank hw f _ (by rw [List.length_drop]; omega) hf g' (by rw [List.length_drop]; omega)
      · exact absurd hf (fieldsGoD_ne f _ _ (by
          intro hh
          have h3 := congrArg List.length hh
          rw [List.nil_append, List.length_take, List.length_nil] at h3
          omega))
theorem words_ne (hw : ∀ l : List UInt8, l ≠ [] → 1 ≤ (Lib.decodeL l).2) (s : ByteArray) (h : Lib.trimSpaceD s.data.toList ≠ []) : wordsOf s ≠ [] := by
  intro hh
  have hf : Lib.fieldsD s.data.toList = [] := by simpa [wordsOf] using hh
  apply h
  unfold Lib.trimSpaceD
  rw [fieldsGoD_blank hw _ _ (Nat.lt_succ_self _) hf _ (Nat.le_refl _), trimRightD_nil]
theorem words_count (s : ByteArray) : (wordsOf s).length ≤ s.size + 2 := by
  have := fieldsGoD_count (s.data.toList.length + 1) [] s.data.toList
  rw [Lib.size_eq]
  simpa [wordsOf, Lib.fieldsD] using this
theorem words_size (s : ByteArray) : ∀ x ∈ wordsOf s, x.size ≤ s.size := by
  intro x hx
  simp only [wordsOf, List.mem_map] at hx
  obtain ⟨y, hy, rfl⟩ := hx
  have := fieldsGoD_size _ _ _ y hy
  rw [Lib.size_eq, Lib.size_eq]
  simpa using this
theorem line_words (s : ByteArray) (h : Lib.trimSpaceD s.data.toList ≠ []) : wordsOf s ≠ [] := words_ne (fun l _ => Lib.decodeL_width l) s h
end Go.Proofs.YtlkhkalniekaoaaGreatDoor
end

section
/- paling/script.Parse: what it answers. -/
namespace Go.Proofs.YtlkhkalniekaoaaGreatDoor
open Go.RowKit Go.Shelf Go.Sort Go.Lib

def dotS : ByteArray := ⟨#[46]⟩
/-- How many lines ahead of one that is a point alone. -/
def dotN (ls : List ByteArray) : Nat := (ls.takeWhile fun x => !(x.toList == [46])).length
def joinS (ls : List ByteArray) : ByteArray := ⟨(Lib.join (ls.map (·.data.toList)) [10]).toArray⟩
def blankS (x : ByteArray) : Bool := (Lib.trimSpaceD x.data.toList).isEmpty || decide ((Lib.trimSpaceD x.data.toList).head? = some 59)
def parseGo (ls : List ByteArray) : Nat → Nat → List Cmd → List Cmd × Int × Int
  | 0, _, out => (out, 0, 0)
  | g + 1, i, out =>
    match ls[i]? with
    | none => (out, 0, 0)
    | some x =>
      if blankS x then parseGo ls g (i + 1) out
      else if out.length = 200 then ([], i + 1, 2)
      else match lineR (wordsOf x) with
        | .error e => ([], i + 1, e)
        | .ok c =>
          if c.k = 1 then
            if ls.length ≤ i + 1 + dotN (ls.drop (i + 1)) then ([], i + 1, 1)
            else parseGo ls g (i + 1 + dotN (ls.drop (i + 1)) + 1) (out ++ [{ c with src := joinS ((ls.drop (i + 1)).take (dotN (ls.drop (i + 1)))) }])
          else parseGo ls g (i + 1) (out ++ [c])
def linesOf (s : ByteArray) : List ByteArray := Lib.splitB ⟨#[10]⟩ 0 (Lib.countB s ⟨#[10]⟩) s
def parseR (s : ByteArray) : List Cmd × Int × Int := if 65536 < s.size then ([], 0, 2) else parseGo (linesOf s) (linesOf s).length 0 []

/-- A command's four cells, and what they lead to. -/
def CmdCells (w : World) (B : Nat) (c : Cmd) (cs : List Value) : Prop :=
  ∃ p1 n1 c1 p2 n2 c2, cs = [.int .i64 c.k, .slice p1 n1 c1, .slice p2 n2 c2, .string c.src] ∧
    w.ownsRow B 3 1 (.slice p1 n1 c1) c.ns.length (c.ns.map (Value.int .i64)) ∧ w.ownsRow B 49 5 (.slice p2 n2 c2) c.al.length (argCells c.al)
def Cmds (w : World) (B : Nat) : List Cmd → List Value → Prop
  | [], xs => xs = []
  | c :: r, xs => ∃ h t, xs = h ++ t ∧ CmdCells w B c h ∧ Cmds w B r t
theorem Cmds.snoc {w : World} {B : Nat} {c : Cmd} {h : List Value} (hc : CmdCells w B c h) : ∀ {l : List Cmd} {xs : List Value}, Cmds w B l xs → Cmds w B (l ++ [c]) (xs ++ h)
  | [], xs, hl => by
    have : xs = [] := hl
    subst this
    exact ⟨h, [], by simp, hc, rfl⟩
  | d :: r, xs, ⟨a, t, hx, hd, ht⟩ => ⟨a, t ++ h, by rw [hx, List.append_assoc], hd, Cmds.snoc hc ht⟩
theorem CmdCells.kept {w w' : World} {B : Nat} {c : Cmd} {cs : List Value} (h : CmdCells w B c cs)
    (hk : ∀ {e : TypeId} {sz n : Nat} {v : Value} {xs : List Value}, (e = 3 ∨ e = 49) → w.ownsRow B e sz v n xs → w'.ownsRow B e sz v n xs) : CmdCells w' B c cs := by
  obtain ⟨p1, n1, c1, p2, n2, c2, he, h1, h2⟩ := h
  exact ⟨p1, n1, c1, p2, n2, c2, he, hk (.inl rfl) h1, hk (.inr rfl) h2⟩
theorem Cmds.kept {w w' : World} {B : Nat} (hk : ∀ {e : TypeId} {sz n : Nat} {v : Value} {xs : List Value}, (e = 3 ∨ e = 49) → w.ownsRow B e sz v n xs → w'.ownsRow B e sz v n xs) :
    ∀ {l : List Cmd} {xs : List Value}, Cmds w B l xs → Cmds w' B l xs
  | [], _, h => h
  | _ :: _, _, ⟨a, t, hx, hd, ht⟩ => ⟨a, t, hx, hd.kept hk, Cmds.kept hk ht⟩
theorem Cmds.later {w w' : World} {B : Nat} {l : List Cmd} {xs : List Value} (h : Cmds w B l xs) (k : Later w w') : Cmds w' B l xs := h.kept (fun _ ho => owned_later ho k)
theorem CmdCells.later {w w' : World} {B : Nat} {c : Cmd} {xs : List Value} (h : CmdCells w B c xs) (k : Later w w') : CmdCells w' B c xs := h.kept (fun _ ho => owned_later ho k)
/-- Rows of another element type lie in other blocks. -/
theorem own_apart {w : World} {B1 B2 : Nat} {e1 e2 : TypeId} {s1 s2 n1 n2 : Nat} {v1 v2 : Value} {x1 x2 : List Value} (h1 : w.ownsRow B1 e1 s1 v1 n1 x1) (h2 : w.ownsRow B2 e2 s2 v2 n2 x2) (hne : e1 ≠ e2) :
    v1.ownBlock = none ∨ v1.ownBlock ≠ v2.ownBlock := by
  rcases h1.2 with ⟨hv, _⟩ | ⟨g1, cp1, cur1, hv1, hg1, hh1, _⟩
  · rw [hv]; exact .inl rfl
  · rcases h2.2 with ⟨hv, _⟩ | ⟨g2, cp2, cur2, hv2, hg2, hh2, _⟩
    · rw [hv1, hv]; exact .inr (by simp [Value.ownBlock])
    · rw [hv1, hv2]
      refine .inr (fun hh => ?_)
      simp only [Value.ownBlock, Option.some.injEq] at hh
      subst hh
      rw [hh1] at hh2
      simp at hh2
      exact hne hh2.2
theorem Cmds.grown {w w' : World} {B : Nat} {l : List Cmd} {xs : List Value} (h : Cmds w B l xs) {B2 s2 n2 : Nat} {v2 : Value} {x2 : List Value} (hv : w.ownsRow B2 35 s2 v2 n2 x2) (hg : w.grownBy w' v2.ownBlock) : Cmds w' B l xs :=
  h.kept (fun he ho => ho.kept hg (own_apart ho hv (by rcases he with rfl | rfl <;> decide)))
theorem CmdCells.grown {w w' : World} {B : Nat} {c : Cmd} {xs : List Value} (h : CmdCells w B c xs) {B2 s2 n2 : Nat} {v2 : Value} {x2 : List Value} (hv : w.ownsRow B2 35 s2 v2 n2 x2) (hg : w.grownBy w' v2.ownBlock) : CmdCells w' B c xs :=
  h.kept (fun he ho => ho.kept hg (own_apart ho hv (by rcases he with rfl | rfl <;> decide)))
theorem own_len {w : World} {B : Nat} {e : TypeId} {sz : Nat} {v : Value} {n : Nat} {xs : List Value} (h : w.ownsRow B e sz v n xs) : ∃ p c, v = .slice p n c := by
  rcases h.2 with ⟨hv, hn⟩ | ⟨g, cap, cur, hv, _⟩
  · subst hn; exact ⟨_, _, hv⟩
  · exact ⟨_, _, hv⟩
end Go.Proofs.YtlkhkalniekaoaaGreatDoor
end

section
/- ScriptLines, ScriptSpoilt: the law's own lines. -/
namespace Go.Proofs.YtlkhkalniekaoaaGreatDoor
open Go.RowKit Go.Shelf Go.Sort Go.Lib

/-- The law's own line, by small numbers. -/
structure LV where
  d : Int
  a : Int
  b : Int
  args : List AV
  text : List (List UInt8)
  gap : Int
def LV.ok (l : LV) : Prop := (0 ≤ l.d ∧ l.d ≤ 255) ∧ (0 ≤ l.a ∧ l.a ≤ 4294967295) ∧ (0 ≤ l.b ∧ l.b ≤ 4294967295) ∧ (∀ x ∈ l.args, x.ok) ∧ (0 ≤ l.gap ∧ l.gap ≤ 255)
def LV.k (l : LV) : Nat := (l.d % 9).toNat
def LV.g (l : LV) : List UInt8 := if l.gap % 3 = 0 then [32] else if l.gap % 3 = 1 then [32, 32] else [9]
def formM (k : Nat) : Nat := (formTab[k]?.map Prod.snd).getD 0
def formW (k : Nat) : List UInt8 := (formTab[k]?.map fun p => p.1.data.toList).getD []
def LV.ns (l : LV) : List Nat := ([l.a, l.b].take (formM l.k)).map fun n => (n % 1000001).toNat
def LV.vs (l : LV) : List AV := if l.k = 4 then [⟨3, 0, l.gap⟩] else if l.k = 5 then ⟨4, 0, l.gap⟩ :: l.args.take 19 else []
/-- A text's line: no line feed, no point alone. -/
def textL (t : List UInt8) : List UInt8 := if t.filter (· != 10) = [46] then [] else t.filter (· != 10)
def LV.lines (l : LV) : List (List UInt8) := l.text.map textL
def LV.src (l : LV) : List UInt8 := if l.k = 1 then Lib.join l.lines [10] else []
def LV.cmd (l : LV) : Cmd := ⟨l.k, l.ns.map fun (n : Nat) => (n : Int), l.vs.map fun a => (argT a).1, ⟨l.src.toArray⟩⟩
def LV.words (l : LV) : List (List UInt8) := l.ns.map Lib.decDigits ++ l.vs.map fun a => (argT a).2
def LV.head (l : LV) : List UInt8 := formW l.k ++ Go.X.tailG l.g l.words
def LV.rows (l : LV) : List (List UInt8) := l.head :: (if l.k = 1 then l.lines ++ [[46]] else [])
/-- Lines, each with its line feed. -/
def flat (rows : List (List UInt8)) : List UInt8 := (rows.map (· ++ [10])).flatten

theorem flat_cons (r : List UInt8) (rs : List (List UInt8)) : flat (r :: rs) = r ++ 10 :: flat rs := by simp [flat]
theorem flat_app (a b : List (List UInt8)) : flat (a ++ b) = flat a ++ flat b := by simp [flat]
theorem formW_plain : ∀ k, k < 9 → formW k ≠ [] ∧ (formW k).all Go.X.plainB = true := by decide
theorem LV.k_lt (l : LV) (h : l.ok) : l.k < 9 := by
  unfold LV.k
  omega
theorem LV.vs_ok (l : LV) (h : l.ok) : ∀ a ∈ l.vs, a.ok := by
  intro a ha
  obtain ⟨_, _, _, h4, h5⟩ := h
  unfold LV.vs at ha
  split at ha
  · simp only [List.mem_singleton] at ha
    subst ha
    exact ⟨⟨by simp, by simp⟩, ⟨by simp, by simp⟩, h5⟩
  · split at ha
    · rcases List.mem_cons.1 ha with rfl | ha
      · exact ⟨⟨by simp, by simp⟩, ⟨by simp, by simp⟩, h5⟩
      · exact h4 a (List.mem_of_mem_take ha)
    · simp at ha
theorem LV.words_plain (l : LV) (h : l.ok) : ∀ x ∈ l.words, x ≠ [] ∧ x.all Go.X.plainB = true := by
  intro x hx
  unfold LV.words at hx
  rcases List.mem_append.1 hx with hx | hx
  · obtain ⟨n, _, rfl⟩ := List.mem_map.1 hx
    exact ⟨Go.X.dec_ne n, plain_dec n⟩
  · obtain ⟨a, ha, rfl⟩ := List.mem_map.1 hx
    exact (argT_ok a (l.vs_ok h a ha)).2
theorem LV.g_gap (l : LV) : l.g ≠ [] ∧ l.g.all Go.X.gapB = true := by
  unfold LV.g
  split
  · exact ⟨by simp, by decide⟩
  · split
    · exact ⟨by simp, by decide⟩
    · exact ⟨by simp, by decide⟩
theorem formM_le : ∀ k, k < 9 → formM k ≤ 2 := by decide
theorem LV.ns_len (l : LV) (h : l.ok) : l.ns.length = formM l.k := by
  have := formM_le l.k (l.k_lt h)
  unfold LV.ns
  rw [List.length_map, List.length_take]
  simp
  omega
theorem form_find : ∀ k, k < 9 → formTab.findIdx? (fun p => decide (some p.1 = some (⟨(formW k).toArray⟩ : ByteArray))) = some k ∧ formTab[k]? = some (⟨(formW k).toArray⟩, formM k) := by decide
def mkB (r : List UInt8) : ByteArray := ⟨r.toArray⟩
theorem textL_dot (t : List UInt8) : textL t ≠ [46] := by
  unfold textL
  split
  · simp
  · assumption
theorem textL_feed (t : List UInt8) : ∀ c ∈ textL t, c ≠ 10 := by
  intro c hc
  unfold textL at hc
  split at hc
  · simp at hc
  · have := (List.mem_filter.1 hc).2
    simpa using this
/-- .. and the blank lines behind it. -/
def LV.all (l : LV) : List (List UInt8) := l.rows ++ (if l.gap % 4 = 0 then [[32], [32, 32, 59, 32, 120]] else [])
theorem mk_bytes (s : ByteArray) : (⟨s.data.toList.toArray⟩ : ByteArray) = s := by
  obtain ⟨⟨q⟩⟩ := s
  rfl
end Go.Proofs.YtlkhkalniekaoaaGreatDoor
end

section
/- The laws' argument: a slice of lines, opened. -/
namespace Go.Proofs.YtlkhkalniekaoaaGreatDoor
open Go.RowKit Go.Shelf Go.Sort Go.Lib

theorem exists_list {α : Type} (P : Nat → α → Prop) : ∀ n : Nat, (∀ i, i < n → ∃ a, P i a) → ∃ l : List α, l.length = n ∧ ∀ i a, l[i]? = some a → P i a
  | 0, _ => ⟨[], rfl, fun i a h => by simp at h⟩
  | n + 1, h => by
    obtain ⟨l, hl, hp⟩ := exists_list P n (fun i hi => h i (by omega))
    obtain ⟨a, ha⟩ := h n (by omega)
    refine ⟨l ++ [a], by simp [hl], fun i b hb => ?_⟩
    rcases Nat.lt_or_ge i l.length with hi | hi
    · rw [List.getElem?_append_left hi] at hb
      exact hp i b hb
    · rw [List.getElem?_append_right hi] at hb
      have h0 : i - l.length = 0 := by
        have := (List.getElem?_eq_some_iff.1 hb).1
        simp at this
        omega
      rw [h0] at hb
      simp at hb
      subst hb
      have : i = n := by omega
      rw [this]
      exact ha

theorem first_of {α : Type} {l : List α} {i : Nat} {a : α} (h : l[i]? = some a) : ∃ b, l[0]? = some b := by
  have := (List.getElem?_eq_some_iff.1 h).1
  exact ⟨_, List.getElem?_eq_getElem (by omega)⟩
theorem spot_first {W : World} {R o k : Nat} {sR : Option _} {v : Value} (h : W.cell? (((⟨R, o, sR⟩ : Addr).add (0 * k)).add 0) = some v) : sR = none := by
  rw [Nat.zero_mul] at h
  exact cell_spot (by simpa [Addr.add] using h)
/-- A row of the law's own values, in memory. -/
def SliceA (w : World) (v : Value) (vs : List AV) : Prop := ∃ p c, v = .slice p vs.length c ∧ ∀ i a, vs[i]? = some a → ∃ R o, p = some ⟨R, o, none⟩ ∧
  w.cell? ⟨R, o + i * 3, none⟩ = some (.int .u8 a.d) ∧ w.cell? ⟨R, o + i * 3 + 1, none⟩ = some (.int .i64 a.n) ∧ w.cell? ⟨R, o + i * 3 + 2, none⟩ = some (.int .u8 a.s)
/-- A row of texts. -/
def SliceT (w : World) (v : Value) (ts : List ByteArray) : Prop := ∃ p c, v = .slice p ts.length c ∧ ts.length ≤ c ∧ ∀ i t, ts[i]? = some t → ∃ R o, p = some ⟨R, o, none⟩ ∧ w.cell? ⟨R, o + i, none⟩ = some (.string t)
/-- The law's own line, as it lies in memory. -/
structure LM where
  d : Int
  a : Int
  b : Int
  args : List AV
  text : List ByteArray
  gap : Int
  va : Value
  vt : Value
def LM.v (l : LM) : LV := ⟨l.d, l.a, l.b, l.args, l.text.map fun t => t.data.toList, l.gap⟩
def LM.cells (l : LM) : List Value := [.int .u8 l.d, .int .u32 l.a, .int .u32 l.b, l.va, l.vt, .int .u8 l.gap]
def LM.inn (l : LM) (w : World) : Prop := l.v.ok ∧ SliceA w l.va l.args ∧ SliceT w l.vt l.text ∧ l.args.length ≤ 1048576 ∧ l.text.length ≤ 1048576 ∧ (l.text.map ByteArray.size).sum ≤ 1048576
def SliceL (w : World) (v : Value) (ls : List LM) : Prop := ∃ p c, v = .slice p ls.length c ∧ ∀ i l, ls[i]? = some l → l.inn w ∧ ∃ R o, p = some ⟨R, o, none⟩ ∧ ∀ j u, l.cells[j]? = some u → w.cell? ⟨R, o + i * 6 + j, none⟩ = some u
theorem SliceA.later {w w' : World} {v : Value} {vs : List AV} (h : SliceA w v vs) (k : Later w w') : SliceA w' v vs := by
  obtain ⟨p, c, h1, h2⟩ := h
  refine ⟨p, c, h1, fun i a ha => ?_⟩
  obtain ⟨R, o, e, c0, c1, c2⟩ := h2 i a ha
  exact ⟨R, o, e, k.cellOf c0, k.cellOf c1, k.cellOf c2⟩
theorem SliceT.later {w w' : World} {v : Value} {ts : List ByteArray} (h : SliceT w v ts) (k : Later w w') : SliceT w' v ts := by
  obtain ⟨p, c, h1, h0, h2⟩ := h
  refine ⟨p, c, h1, h0, fun i t ht => ?_⟩
  obtain ⟨R, o, e, c0⟩ := h2 i t ht
  exact ⟨R, o, e, k.cellOf c0⟩
theorem LM.inn.later {w w' : World} {l : LM} (h : l.inn w) (k : Later w w') : l.inn w' := ⟨h.1, h.2.1.later k, h.2.2.1.later k, h.2.2.2⟩
theorem SliceL.later {w w' : World} {v : Value} {ls : List LM} (h : SliceL w v ls) (k : Later w w') : SliceL w' v ls := by
  obtain ⟨p, c, h1, h2⟩ := h
  refine ⟨p, c, h1, fun i l hl => ?_⟩
  obtain ⟨g, R, o, e, c0⟩ := h2 i l hl
  exact ⟨g.later k, R, o, e, fun j u hu => k.cellOf (c0 j u hu)⟩

/-! The bulk: what the second form's condition gives. -/
section
variable {H : Type}
theorem bulk_one (d : DataW H) : 1 ≤ Rows.uptoBulk d := by
  cases d with
  | lit l => cases l <;> simp [Rows.uptoBulk]
  | nil => simp [Rows.uptoBulk]
  | ptr d => simp [Rows.uptoBulk]
  | slice elems spare => simp [Rows.uptoBulk]
  | agg parts => simp [Rows.uptoBulk]
  | iface t d => simp [Rows.uptoBulk]
  | map entries => simp [Rows.uptoBulk]
  | held h => simp [Rows.uptoBulk]
theorem bulk_part {d : DataW H} : ∀ {l : List (DataW H)}, d ∈ l → Rows.uptoBulk d ≤ Rows.uptoBulkAll l
  | x :: r, h => by
    simp only [Rows.uptoBulkAll]
    rcases List.mem_cons.1 h with e | e
    · subst e; omega
    · have := bulk_part e; omega
theorem bulk_length : ∀ l : List (DataW H), l.length ≤ Rows.uptoBulkAll l
  | [] => by simp [Rows.uptoBulkAll]
  | x :: r => by
    have := bulk_one x
    have := bulk_length r
    simp only [Rows.uptoBulkAll, List.length_cons]
    omega
theorem bulk_strings : ∀ ts : List ByteArray, Rows.uptoBulkAll (ts.map fun t => (DataW.lit (.string t.data.toList) : DataW H)) = (ts.map ByteArray.size).sum + ts.length
  | [] => by simp [Rows.uptoBulkAll]
  | t :: r => by
    have := bulk_strings r
    simp only [List.map_cons, Rows.uptoBulkAll, Rows.uptoBulk, List.sum_cons, List.length_cons, this, Lib.size_eq]
    omega
theorem fst_eq {α : Type} {elems : List (DataW H × List MemPlace)} {l : List α} {f : α → DataW H} (hl : l.length = elems.length) (h : ∀ (i : Nat) (a : α), l[i]? = some a → Option.map Prod.fst (elems[i]?) = some (f a)) : elems.map (·.1) = l.map f := by
  show elems.map Prod.fst = l.map f
  apply List.ext_getElem?
  intro i
  rw [List.getElem?_map, List.getElem?_map]
  cases ha : l[i]? with
  | none =>
    have : elems[i]? = none := by
      rw [List.getElem?_eq_none_iff] at ha ⊢
      omega
    rw [this]
    first | done | rfl
  | some a => rw [h i a ha]; first | done | rfl
end

section
variable {H : Type} {enc : TypeId × Value → H} {W : World} {held : Bool}
theorem one_cell {ce : List Value} {off : Nat} {v : Value} (h : (ce.drop off).take 1 = [v]) : ce[off]? = some v := by
  have := congrArg (·[0]?) h
  simpa [List.getElem?_take, List.getElem?_drop] using this
theorem int_field {k : IntKind} {t : TypeId} (ht : Tryz.prog.underlying t = some (.int k)) (hc : Tryz.prog.cellsOf t = 1) {n : Nat} {ce : List Value} {off : Nat} {x : DataW H × List MemPlace} (h : DataW.trod enc Tryz.prog W 0 (fun _ => true) held n t ((ce.drop off).take (Tryz.prog.cellsOf t)) = some x) :
    ∃ z, ce[off]? = some (.int k z) ∧ (Lit.int k z).wf = true := by
  rw [hc] at h
  obtain ⟨z, hz, _, hw⟩ := DataW.trod_int ht h
  exact ⟨z, one_cell hz, hw⟩
theorem A_of {n : Nat} {ce : List Value} {x : DataW H × List MemPlace} (h : DataW.trod enc Tryz.prog W 0 (fun _ => true) held n 66 ce = some x) :
    ∃ a : AV, a.ok ∧ ce[0]? = some (.int .u8 a.d) ∧ ce[1]? = some (.int .i64 a.n) ∧ ce[2]? = some (.int .u8 a.s) := by
  obtain ⟨xs, m, _, _, _, hl, hf⟩ := DataW.trod_struct Tryz.underlying66 h
  have hl3 : xs.length = 3 := hl
  have g : ∀ i, i < 3 → ∃ y, xs[i]? = some y := fun i hi => ⟨_, List.getElem?_eq_getElem (by omega)⟩
  obtain ⟨y0, e0⟩ := g 0 (by omega)
  obtain ⟨y1, e1⟩ := g 1 (by omega)
  obtain ⟨y2, e2⟩ := g 2 (by omega)
  obtain ⟨d, c0, w0⟩ := int_field Tryz.underlying5 (by kernel_rfl) ((hf 0 _ rfl).trans e0)
  obtain ⟨z, c1, w1⟩ := int_field Tryz.underlying2 (by kernel_rfl) ((hf 1 _ rfl).trans e1)
  obtain ⟨q, c2, w2⟩ := int_field Tryz.underlying5 (by kernel_rfl) ((hf 2 _ rfl).trans e2)
  refine ⟨⟨d, z, q⟩, ⟨?_, ?_, ?_⟩, c0, c1, c2⟩
  · simpa [Lit.wf, IntKind.min, IntKind.max, IntKind.signed, IntKind.bits] using w0
  · simpa [Lit.wf, IntKind.min, IntKind.max, IntKind.signed, IntKind.bits] using w1
  · simpa [Lit.wf, IntKind.min, IntKind.max, IntKind.signed, IntKind.bits] using w2
theorem open_A {n : Nat} {cs : List Value} {x : DataW H × List MemPlace} (h : DataW.trod enc Tryz.prog W 0 (fun _ => true) held n 26 cs = some x) : ∃ v vs, cs = [v] ∧ SliceA W v vs ∧ (∀ a ∈ vs, a.ok) ∧ vs.length ≤ Rows.uptoBulk x.1 := by
  rcases DataW.trod_slice Tryz.underlying26 h with ⟨hc, _⟩ | ⟨a, len, cap, elems, rst, m, _, hcs, hx, _, _, _, hlen, hel, _⟩
  · exact ⟨_, [], hc, ⟨none, 0, rfl, fun i a h => by simp at h⟩, by simp, by simp⟩
  · have hc3 : Tryz.prog.cellsOf 66 = 3 := by kernel_rfl
    rw [hc3] at hel
    obtain ⟨vs, hl, hp⟩ := exists_list (fun i (q : AV) => q.ok ∧ W.cell? ((a.add (i * 3)).add 0) = some (.int .u8 q.d) ∧ W.cell? ((a.add (i * 3)).add 1) = some (.int .i64 q.n) ∧ W.cell? ((a.add (i * 3)).add 2) = some (.int .u8 q.s)) len (fun i hi => by
      obtain ⟨b, hb⟩ : ∃ b, elems[i]? = some b := ⟨_, List.getElem?_eq_getElem (by omega)⟩
      have h5 := (hel i hi).trans hb
      obtain ⟨ce, hce, hte⟩ := Option.bind_eq_some_iff.1 h5
      obtain ⟨_, _, hcc⟩ := World.cells?_some hce
      obtain ⟨q, hq, c0, c1, c2⟩ := A_of hte
      exact ⟨q, hq, (hcc 0 (by omega)).trans c0, (hcc 1 (by omega)).trans c1, (hcc 2 (by omega)).trans c2⟩)
    refine ⟨_, vs, hcs, ⟨some a, cap, by rw [hl], fun i q hq => ?_⟩, fun q hq => ?_, ?_⟩
    · obtain ⟨_, c0, c1, c2⟩ := hp i q hq
      obtain ⟨q0, hq0⟩ := first_of hq
      have hz := (hp 0 q0 hq0).2.1
      obtain ⟨R, o, sR⟩ := a
      obtain rfl : sR = none := spot_first hz
      rw [Addr.add_lit, Addr.add_lit] at c0 c1 c2
      exact ⟨R, o, rfl, c0, c1, c2⟩
    · obtain ⟨i, hi⟩ := List.mem_iff_getElem?.1 hq
      exact (hp i q hi).1
    · rw [hx]
      simp only [Rows.uptoBulk]
      have := bulk_length (elems.map (·.1))
      rw [List.length_map] at this
      omega
theorem open_T {n : Nat} {cs : List Value} {x : DataW H × List MemPlace} (h : DataW.trod enc Tryz.prog W 0 (fun _ => true) held n 27 cs = some x) : ∃ v ts, cs = [v] ∧ SliceT W v ts ∧ ts.length ≤ Rows.uptoBulk x.1 ∧ (ts.map ByteArray.size).sum ≤ Rows.uptoBulk x.1 := by
  rcases DataW.trod_slice Tryz.underlying27 h with ⟨hc, _⟩ | ⟨a, len, cap, elems, rst, m, _, hcs, hx, _, hcap, _, hlen, hel, _⟩
  · exact ⟨_, [], hc, ⟨none, 0, rfl, by simp, fun i a h => by simp at h⟩, by simp, by simp⟩
  · have hc1 : Tryz.prog.cellsOf 9 = 1 := by kernel_rfl
    rw [hc1] at hel
    obtain ⟨ts, hl, hp⟩ := exists_list (fun i (t : ByteArray) => Option.map Prod.fst (elems[i]?) = some (.lit (.string t.data.toList)) ∧ W.cell? ((a.add (i * 1)).add 0) = some (.string t)) len (fun i hi => by
      obtain ⟨b, hb⟩ : ∃ b, elems[i]? = some b := ⟨_, List.getElem?_eq_getElem (by omega)⟩
      have h5 := (hel i hi).trans hb
      obtain ⟨ce, hce, hte⟩ := Option.bind_eq_some_iff.1 h5
      obtain ⟨_, _, hcc⟩ := World.cells?_some hce
      obtain ⟨t, ht, hb1, _⟩ := DataW.trod_string Tryz.underlying9 hte
      refine ⟨t, by rw [hb, hb1]; first | done | rfl, (hcc 0 (by omega)).trans ?_⟩
      rw [ht]
      rfl)
    have he : elems.map (·.1) = ts.map fun t => (DataW.lit (.string t.data.toList) : DataW H) := fst_eq (by omega) (fun i t ht => (hp i t ht).1)
    refine ⟨_, ts, hcs, ⟨some a, cap, by rw [hl], by rw [hl]; exact hcap, fun i t ht => ?_⟩, ?_, ?_⟩
    · obtain ⟨_, c0⟩ := hp i t ht
      obtain ⟨q0, hq0⟩ := first_of ht
      have hz := (hp 0 q0 hq0).2
      obtain ⟨R, o, sR⟩ := a
      obtain rfl : sR = none := spot_first hz
      rw [Addr.add_lit, Addr.add_lit] at c0
      exact ⟨R, o, rfl, by simpa using c0⟩
    · rw [hx]
      simp only [Rows.uptoBulk]
      rw [he, bulk_strings]
      omega
    · rw [hx]
      simp only [Rows.uptoBulk]
      rw [he, bulk_strings]
      omega
theorem L_of {n : Nat} {ce : List Value} {x : DataW H × List MemPlace} (hx : Rows.uptoBulk x.1 ≤ 1048576) (h : DataW.trod enc Tryz.prog W 0 (fun _ => true) held n 29 ce = some x) :
    ∃ l : LM, l.inn W ∧ ∀ (j : Nat) (u : Value), l.cells[j]? = some u → ce[j]? = some u := by
  obtain ⟨xs, m, _, hxe, _, hl, hf⟩ := DataW.trod_struct Tryz.underlying29 h
  have hpart : ∀ (i : Nat) (y : DataW H × List MemPlace), xs[i]? = some y → Rows.uptoBulk y.1 ≤ 1048576 := fun i y hy => by
    rw [hxe] at hx
    simp only [Rows.uptoBulk] at hx
    have := bulk_part (l := xs.map (·.1)) (List.mem_map_of_mem (List.mem_of_getElem? hy))
    omega
  have hl6 : xs.length = 6 := hl
  have g : ∀ i, i < 6 → ∃ y, xs[i]? = some y := fun i hi => ⟨_, List.getElem?_eq_getElem (by omega)⟩
  obtain ⟨y0, e0⟩ := g 0 (by omega)
  obtain ⟨y1, e1⟩ := g 1 (by omega)
  obtain ⟨y2, e2⟩ := g 2 (by omega)
  obtain ⟨y3, e3⟩ := g 3 (by omega)
  obtain ⟨y4, e4⟩ := g 4 (by omega)
  obtain ⟨y5, e5⟩ := g 5 (by omega)
  obtain ⟨d, c0, w0⟩ := int_field Tryz.underlying5 (by kernel_rfl) ((hf 0 _ rfl).trans e0)
  obtain ⟨a, c1, w1⟩ := int_field Tryz.underlying25 (by kernel_rfl) ((hf 1 _ rfl).trans e1)
  obtain ⟨b, c2, w2⟩ := int_field Tryz.underlying25 (by kernel_rfl) ((hf 2 _ rfl).trans e2)
  obtain ⟨va, vs, h3, sa, oa, la⟩ := open_A ((hf 3 _ rfl).trans e3)
  obtain ⟨vt, ts, h4, st, lt, zt⟩ := open_T ((hf 4 _ rfl).trans e4)
  obtain ⟨q, c5, w5⟩ := int_field Tryz.underlying5 (by kernel_rfl) ((hf 5 _ rfl).trans e5)
  have k3 : Tryz.prog.cellsOf 26 = 1 := by kernel_rfl
  have k4 : Tryz.prog.cellsOf 27 = 1 := by kernel_rfl
  have c3 : ce[3]? = some va := one_cell (by rw [← k3]; exact h3)
  have c4 : ce[4]? = some vt := one_cell (by rw [← k4]; exact h4)
  have b3 := hpart 3 y3 e3
  have b4 := hpart 4 y4 e4
  refine ⟨⟨d, a, b, vs, ts, q, va, vt⟩, ⟨⟨?_, ?_, ?_, oa, ?_⟩, sa, st, by show vs.length ≤ _; omega, by show ts.length ≤ _; omega, by show (ts.map ByteArray.size).sum ≤ _; omega⟩, fun j u hj => ?_⟩
  · show 0 ≤ d ∧ d ≤ 255
    simpa [Lit.wf, IntKind.min, IntKind.max, IntKind.signed, IntKind.bits] using w0
  · show 0 ≤ a ∧ a ≤ 4294967295
    simpa [Lit.wf, IntKind.min, IntKind.max, IntKind.signed, IntKind.bits] using w1
  · show 0 ≤ b ∧ b ≤ 4294967295
    simpa [Lit.wf, IntKind.min, IntKind.max, IntKind.signed, IntKind.bits] using w2
  · show 0 ≤ q ∧ q ≤ 255
    simpa [Lit.wf, IntKind.min, IntKind.max, IntKind.signed, IntKind.bits] using w5
  · match j, hj with
    | 0, hj => cases hj; exact c0
    | 1, hj => cases hj; exact c1
    | 2, hj => cases hj; exact c2
    | 3, hj => cases hj; exact c3
    | 4, hj => cases hj; exact c4
    | 5, hj => cases hj; exact c5
theorem open_L {v : Value} {d : DataW H} {ps : List MemPlace} (hb : Rows.uptoBulk d ≤ 1048576) (hv : ∃ a n c, v = .slice a n c) (h : DataW.Trod enc Tryz.prog W 0 (fun _ => true) held 22 v d ps) : ∃ ls, SliceL W v ls ∧ ls.length ≤ 1048576 := by
  obtain ⟨a0, n0, c0, rfl⟩ := hv
  obtain ⟨n, h⟩ := h
  have h' : DataW.trod enc Tryz.prog W 0 (fun _ => true) held n 22 [.slice a0 n0 c0] = some (d, ps) := h
  rcases DataW.trod_slice Tryz.underlying22 h' with ⟨hc, _⟩ | ⟨a, len, cap, elems, rst, m, _, hcs, hx, _, _, _, hlen, hel, _⟩
  · cases hc
    exact ⟨[], ⟨none, 0, rfl, fun i l h => by simp at h⟩, by simp⟩
  · cases hcs
    have hd : d = .slice (elems.map (·.1)) (rst.map (·.1)) := congrArg Prod.fst hx
    rw [hd] at hb
    simp only [Rows.uptoBulk] at hb
    have hlb := bulk_length (elems.map (·.1))
    rw [List.length_map] at hlb
    have hc6 : Tryz.prog.cellsOf 29 = 6 := by kernel_rfl
    rw [hc6] at hel
    obtain ⟨ls, hl, hp⟩ := exists_list (fun i (l : LM) => l.inn W ∧ ∀ j u, l.cells[j]? = some u → W.cell? ((a.add (i * 6)).add j) = some u) n0 (fun i hi => by
      obtain ⟨b, hq⟩ : ∃ b, elems[i]? = some b := ⟨_, List.getElem?_eq_getElem (by omega)⟩
      have h5 := (hel i hi).trans hq
      obtain ⟨ce, hce, hte⟩ := Option.bind_eq_some_iff.1 h5
      obtain ⟨_, _, hcc⟩ := World.cells?_some hce
      obtain ⟨l, hin, hc⟩ := L_of (by have := bulk_part (l := elems.map (·.1)) (List.mem_map_of_mem (List.mem_of_getElem? hq)); omega) hte
      refine ⟨l, hin, fun j u hj => ?_⟩
      have hj6 : j < 6 := (List.getElem?_eq_some_iff.1 hj).1
      exact (hcc j hj6).trans (hc j u hj))
    refine ⟨ls, ⟨some a, c0, by rw [hl], fun i l hl' => ?_⟩, by omega⟩
    obtain ⟨hin, hc⟩ := hp i l hl'
    obtain ⟨q0, hq0⟩ := first_of hl'
    have hz := (hp 0 q0 hq0).2 0 _ rfl
    obtain ⟨R, o, sR⟩ := a
    obtain rfl : sR = none := spot_first hz
    refine ⟨hin, R, o, rfl, fun j u hj => ?_⟩
    have := hc j u hj
    rw [Addr.add_lit, Addr.add_lit] at this
    exact this
end
end Go.Proofs.YtlkhkalniekaoaaGreatDoor
end

section
/- ScriptLines: the law's lines as the walk writes them; their sizes. -/
namespace Go.Proofs.YtlkhkalniekaoaaGreatDoor
open Go.RowKit Go.Shelf Go.Sort Go.Lib

theorem tailG_snoc (g : List UInt8) : ∀ (ws : List (List UInt8)) (w : List UInt8), Go.X.tailG g (ws ++ [w]) = Go.X.tailG g ws ++ (g ++ w)
  | [], w => by simp [Go.X.tailG]
  | x :: r, w => by simp [Go.X.tailG, tailG_snoc g r w]
theorem tailG_app (g : List UInt8) : ∀ a b : List (List UInt8), Go.X.tailG g (a ++ b) = Go.X.tailG g a ++ Go.X.tailG g b
  | [], b => rfl
  | x :: r, b => by simp [Go.X.tailG, tailG_app g r b]
theorem mkB_app (a b : List UInt8) : mkB (a ++ b) = mkB a ++ mkB b := by
  apply ByteArray.ext
  simp [mkB]
theorem mkB_size (a : List UInt8) : (mkB a).size = a.length := by
  rw [Lib.size_eq]
  first | done | rfl
theorem mkB_list (s : ByteArray) : mkB s.data.toList = s := mk_bytes s
theorem flat_join : ∀ xs : List (List UInt8), flat xs = if xs = [] then [] else Lib.join xs [10] ++ [10]
  | [] => rfl
  | x :: r => by
    rw [flat_cons, if_neg (by simp), Lib.join_cons]
    have : ∀ (r : List (List UInt8)) (x : List UInt8), x ++ 10 :: flat r = x ++ Lib.joinTail [10] r ++ [10] := by
      intro r
      induction r with
      | nil => intro x; simp [flat, Lib.joinTail]
      | cons y r ih =>
        intro x
        rw [flat_cons, ih y]
        simp [Lib.joinTail]
    exact this r x
/-- What stands behind a load's first line. -/
def LV.body (l : LV) : List UInt8 := 10 :: (Lib.join l.lines [10] ++ ((if l.lines = [] then [] else [10]) ++ [46]))
theorem LV.flat_load (l : LV) (h : l.k = 1) : flat l.rows = l.head ++ (l.body ++ [10]) := by
  unfold LV.rows LV.body
  rw [if_pos h, flat_cons, flat_app, flat_join l.lines]
  by_cases hn : l.lines = []
  · rw [if_pos hn, if_pos hn, hn]
    simp [flat, Lib.join_nil]
  · rw [if_neg hn, if_neg hn]
    simp [flat]
theorem LV.flat_other (l : LV) (h : l.k ≠ 1) : flat l.rows = l.head ++ [10] := by
  unfold LV.rows
  rw [if_neg h]
  simp [flat]
theorem textL_len (t : List UInt8) : (textL t).length ≤ t.length := by
  unfold textL
  split
  · simp
  · exact List.length_filter_le _ _
theorem lens_texts : ∀ ts : List (List UInt8), Lib.lens (ts.map textL) ≤ Lib.lens ts
  | [] => Nat.le_refl _
  | t :: r => by
    have h1 := textL_len t
    have h2 := lens_texts r
    simp only [Lib.lens, List.map_cons, List.sum_cons] at h2 ⊢
    omega
theorem flat_len : ∀ xs : List (List UInt8), (flat xs).length = Lib.lens xs + xs.length
  | [] => rfl
  | x :: r => by
    have := flat_len r
    rw [flat_cons]
    simp only [Lib.lens, List.map_cons, List.sum_cons, List.length_append, List.length_cons] at this ⊢
    omega
theorem tailG_len (g : List UInt8) (b : Nat) : ∀ ws : List (List UInt8), (∀ w ∈ ws, w.length ≤ b) → (Go.X.tailG g ws).length ≤ ws.length * (g.length + b)
  | [], _ => by simp [Go.X.tailG]
  | w :: r, h => by
    have h1 := h w (by simp)
    have h2 := tailG_len g b r (fun x hx => h x (by simp [hx]))
    simp only [Go.X.tailG, List.length_append, List.length_cons]
    rw [Nat.succ_mul]
    omega
theorem itoa_len (n : Int) (h0 : -9223372036854775808 ≤ n) (h1 : n ≤ 9223372036854775807) : (Lib.itoa n).length ≤ 20 := by
  rcases itoa_form n with ⟨u, hu, h⟩ | ⟨u, hu1, hu, h⟩
  · rw [h]
    have : (Lib.decDigits u).length ≤ 19 := Go.X.dec_short (by omega) (by omega)
    omega
  · rw [h, List.length_cons]
    have : (Lib.decDigits u).length ≤ 19 := Go.X.dec_short (by omega) (by omega)
    omega
theorem argT_len (a : AV) (h : a.ok) : (argT a).2.length ≤ 21 := by
  obtain ⟨⟨hd0, hd1⟩, ⟨hn0, hn1⟩, hs0, hs1⟩ := h
  unfold argT
  split
  · split <;> simp
  · split
    · have := itoa_len a.n hn0 hn1
      show (Lib.itoa a.n).length ≤ 21
      omega
    · split
      · have hk : (a.s % 5).toNat = 0 ∨ (a.s % 5).toNat = 1 ∨ (a.s % 5).toNat = 2 ∨ (a.s % 5).toNat = 3 ∨ (a.s % 5).toNat = 4 := by omega
        rcases hk with hk | hk | hk | hk | hk <;> rw [hk] <;> simp [valWords]
      · split
        · have := itoa_len a.s (by omega) (by omega)
          show (35 :: Lib.itoa a.s).length ≤ 21
          rw [List.length_cons]
          omega
        · simp
theorem formW_len : ∀ k, k < 9 → (formW k).length ≤ 8 := by decide
theorem LV.vs_len (l : LV) : l.vs.length ≤ 20 := by
  unfold LV.vs
  split
  · simp
  · split
    · simp only [List.length_cons, List.length_take]
      omega
    · simp
theorem LV.head_len (l : LV) (h : l.ok) : l.head.length ≤ 600 := by
  have h1 := formW_len l.k (l.k_lt h)
  have h2 := l.ns_len h
  have h3 := formM_le l.k (l.k_lt h)
  have h4 := l.vs_len
  have hg : l.g.length ≤ 2 := by
    unfold LV.g
    split
    · simp
    · split <;> simp
  have hw : ∀ w ∈ l.words, w.length ≤ 21 := by
    intro w hw
    unfold LV.words at hw
    rcases List.mem_append.1 hw with hw | hw
    · obtain ⟨n, hn, rfl⟩ := List.mem_map.1 hw
      have hn' : n ≤ 1000000 := by
        unfold LV.ns at hn
        obtain ⟨m, _, rfl⟩ := List.mem_map.1 hn
        omega
      have : (Lib.decDigits n).length ≤ 19 := Go.X.dec_short (by omega) (by omega)
      omega
    · obtain ⟨a, ha, rfl⟩ := List.mem_map.1 hw
      exact argT_len a (l.vs_ok h a ha)
  have ht := tailG_len l.g 21 l.words hw
  have hl : l.words.length ≤ 22 := by
    unfold LV.words
    rw [List.length_append, List.length_map, List.length_map]
    omega
  unfold LV.head
  rw [List.length_append]
  have : l.words.length * (l.g.length + 21) ≤ 22 * 23 := Nat.mul_le_mul hl (by omega)
  omega
theorem LV.rows_len (l : LV) (h : l.ok) : (flat l.rows).length ≤ 604 + l.text.length + Lib.lens l.text := by
  have h1 := l.head_len h
  by_cases hk : l.k = 1
  · rw [l.flat_load hk]
    unfold LV.body
    have h2 := lens_texts l.text
    have h3 : (Lib.join l.lines [10]).length ≤ l.text.length + Lib.lens l.text := by
      unfold LV.lines
      cases ht : l.text with
      | nil => simp [Lib.join_nil]
      | cons x r =>
        rw [List.map_cons, Lib.join_length]
        rw [ht, List.map_cons] at h2
        simp only [List.length_map, List.length_cons, List.length_nil] at h2 ⊢
        omega
    have h4 : (if l.lines = [] then ([] : List UInt8) else [10]).length ≤ 1 := by split <;> simp
    simp only [List.length_append, List.length_cons, List.length_nil]
    omega
  · rw [l.flat_other hk, List.length_append, List.length_singleton]
    omega
end Go.Proofs.YtlkhkalniekaoaaGreatDoor
end
