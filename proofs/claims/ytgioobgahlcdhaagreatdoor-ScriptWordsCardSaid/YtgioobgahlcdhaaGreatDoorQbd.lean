/- Parts of the proof: Yf. -/
import Derived.Test.YtgioobgahlcdhaaGreatDoorQbc

set_option linter.unusedVariables false
set_option linter.unusedSimpArgs false

section
/- palinglaw21.ScriptWords: the walk. -/
namespace Go.Proofs.YtgioobgahlcdhaaGreatDoor
open Go.RowKit Go.Shelf Go.Sort Go.Lib

def wordTab (a b : ByteArray) : List ByteArray := [a ++ ⟨#[32]⟩ ++ b, ⟨#[99, 97, 108, 108, 32, 53, 32, 35, 48, 32]⟩ ++ b, ⟨#[99, 111, 109, 112, 32, 53, 32]⟩ ++ b, ⟨#[99, 111, 108, 108, 101, 99, 116, 32]⟩ ++ b]
set_option maxHeartbeats 4000000 in
set_option maxRecDepth 1000000 in
theorem words_go (w : World) (a b : ByteArray) (q : Bool) (hs : ¬ 100 < a.size + b.size) (hc : Calm w) (hf : w.rangeAt 1 0 formCells.toList) (hf2 : Forms21 w) (HA : Aside (Calls Tryz.prog 5 #[] w fun e w' => e = .returned (.bool true) ∧ Later w w'))
    (HCN : Aside (∀ w', Calls Tryz.prog 6 #[.string (a ++ b), .string ⟨#[10]⟩] w' fun e w'' => e = .returned (.bool q) ∧ w'' = w')) :
    Calls Tryz.prog 3 #[.string a, .string b] w fun e w' => e = .returned (.bool true) ∧ Later w w' := by
  cases q with
  | true =>
    clear hf hf2 hc
    go_enter Tryz.func3, Tryz.ntmps3
    go_wp2_with (first
      | (go_at_call 5; (with_reducible refine Calls.mono HA.out ?_); rintro e w1 ⟨rfl, hb1⟩; have B1 : Aside (Later w w1) := hb1; clear hb1)
      | (go_at_call 6; (with_reducible refine Calls.mono (HCN.out _) ?_); rintro e w2 ⟨rfl, hw2⟩; obtain rfl := hw2.symm))
    go_ret
    exact ⟨rfl, B1.out⟩
  | false =>
  obtain ⟨tab, htab⟩ : ∃ tab, wordTab a b = tab := ⟨_, rfl⟩
  have HTL : Aside (tab.length = 4) := by rw [← htab]; first | done | rfl
  have HTS : Aside (∀ x ∈ tab, x.size ≤ 1000000) := by
    intro x hx
    rw [← htab] at hx
    simp only [wordTab, List.mem_cons, List.not_mem_nil, or_false] at hx
    have e1 : (⟨#[32]⟩ : ByteArray).size = 1 := rfl
    have e2 : (⟨#[99, 97, 108, 108, 32, 53, 32, 35, 48, 32]⟩ : ByteArray).size = 10 := rfl
    have e3 : (⟨#[99, 111, 109, 112, 32, 53, 32]⟩ : ByteArray).size = 7 := rfl
    have e4 : (⟨#[99, 111, 108, 108, 101, 99, 116, 32]⟩ : ByteArray).size = 8 := rfl
    rcases hx with rfl | rfl | rfl | rfl <;> simp only [ByteArray.size_append, e1, e2, e3, e4] <;> omega
  have tabCells : ∀ (j : Nat) (x : ByteArray), tab[j]? = some x → (#[Value.string (a ++ ⟨#[32]⟩ ++ b), .string (⟨#[99, 97, 108, 108, 32, 53, 32, 35, 48, 32]⟩ ++ b), .string (⟨#[99, 111, 109, 112, 32, 53, 32]⟩ ++ b), .string (⟨#[99, 111, 108, 108, 101, 99, 116, 32]⟩ ++ b)] : Array Value)[j]? = some (.string x) := by
    intro j x hx
    rw [← htab] at hx
    have hj : j < 4 := (List.getElem?_eq_some_iff.1 hx).1
    match j, hj, hx with
    | 0, _, hx => cases hx; rfl
    | 1, _, hx => cases hx; rfl
    | 2, _, hx => cases hx; rfl
    | 3, _, hx => cases hx; rfl
  clear htab
  go_enter Tryz.func3, Tryz.ntmps3
  go_wp2_with (first
    | (go_at_call 5; (with_reducible refine Calls.mono HA.out ?_); rintro e w1 ⟨rfl, hb1⟩; have B1 : Aside (Later w w1) := hb1; clear hb1)
    | (go_at_call 6; (with_reducible refine Calls.mono (HCN.out _) ?_); rintro e w2 ⟨rfl, hw2⟩; obtain rfl := hw2.symm))
  go_loopg [39] 4 (fun g i wr => ∃ k : Nat, k + g = 4 ∧ i = .int .i64 k ∧ Aside (Later w1 wr) ∧ Aside (∀ (j : Nat) (x : ByteArray), tab[j]? = some x → wr.cell? ⟨w1.heap.size, j, none⟩ = some (.string x)))
  case atStart =>
    refine ⟨0, by omega, rfl, (Below.refl _ w1).alloc (Nat.le_refl _) _, ?_⟩
    intro j x hx
    rw [World.cell?_alloc_at _ _ _ _ rfl]
    exact tabCells j x hx
  case round =>
    obtain ⟨k, hk, rfl, HL, HX⟩ := hrel
    by_cases hlt : k < 4
    · obtain ⟨x, hx⟩ : ∃ x, tab[k]? = some x := ⟨_, List.getElem?_eq_getElem (by rw [HTL.out]; exact hlt)⟩
      have hxc := HX.out k x hx
      have HLw : Aside (Later w wr) := B1.out.step HL.out
      obtain ⟨l, i, e, h1, h2, h3, h4⟩ := both_parse x (HTS.out x (List.mem_of_getElem? hx)) w hc hf hf2
      have P1 : Aside (∀ w', Later w w' → Calls Tryz.prog 7 #[.string x] w' fun en w2 => ∃ p n c xs, en = .returned (.tuple #[.slice p n c, .int .i64 i, .int .i64 e]) ∧ Later w' w2 ∧ w2.ownsRow w'.heap.size 38 4 (.slice p n c) l.length xs ∧ Cmds w2 w'.heap.size l xs) := h1
      have P2 : Aside (∀ w', Later w w' → Calls Tryz.prog 8 #[.string x] w' fun en w2 => ∃ p n c xs, en = .returned (.tuple #[.slice p n c, .int .i64 i, .int .i64 e]) ∧ Later w' w2 ∧ w2.ownsRow w'.heap.size 38 4 (.slice p n c) l.length xs ∧ Cmds w2 w'.heap.size l xs) := h2
      have HS : Aside (∀ c ∈ l, c.ns.length ≤ 1000000 ∧ c.al.length ≤ 1000000) := h4
      have HLL : Aside (l.length ≤ 1000000) := h3
      clear h1 h2 h3 h4 hx
      go_wp2_with (first
        | (go_at_call 7; (with_reducible refine Calls.mono (P1.out _ HLw.out) ?_); rintro en w2 ⟨p1, n1, c1, xs1, rfl, hb, ho, hm⟩; have B12 : Aside (Later wr w2) := hb; have B2 : Aside (Later w w2) := HLw.out.step hb; have O1 : Aside (World.ownsRow _ _ _ _ _ _ _) := ho; have M1 : Aside (Cmds _ _ _ _) := hm; clear hb ho hm)
        | (go_at_call 8; (with_reducible refine Calls.mono (P2.out _ B2.out) ?_); rintro en w3 ⟨p2, n2, c2, xs2, rfl, hb, ho, hm⟩; have B23 : Aside (Later w2 w3) := hb; have B3 : Aside (Later w w3) := B2.out.step hb; have O2 : Aside (World.ownsRow _ _ _ _ _ _ _) := ho; have M2 : Aside (Cmds _ _ _ _) := hm; clear hb ho hm)
        | (go_at_call 9; (with_reducible refine Calls.mono (same_any w3 l p1 p2 n1 c1 n2 c2 _ _ xs1 xs2 (owned_later O1.out B23.out) (M1.out.later B23.out) O2.out M2.out HLL.out HS.out) ?_); rintro en w4 ⟨rfl, hb⟩; have B34 : Aside (Later w3 w4) := hb; clear hb))
      go_roundg (gk - 1)
      case measure => omega
      case rel =>
        have HR : Later wr w4 := (B12.out.step B23.out).step B34.out
        exact ⟨k + 1, by omega, by go_num, HL.out.step HR, fun j x hx => HR.cellOf (HX.out j x hx)⟩
    · go_wp2
      go_ret
      exact ⟨rfl, B1.out.step HL.out⟩

theorem words_any (w : World) (a b : ByteArray) (ha : a.size ≤ 140737488351232) (hb : b.size ≤ 140737488351232) (hc : Calm w) (hf : w.rangeAt 1 0 formCells.toList) (hf2 : Forms21 w) (hA : Calls Tryz.prog 5 #[] w fun e w' => e = .returned (.bool true) ∧ Later w w') :
    Calls Tryz.prog 3 #[.string a, .string b] w fun e w' => e = .returned (.bool true) ∧ Later w w' := by
  by_cases hs : 100 < a.size + b.size
  · have HA : Aside (Calls Tryz.prog 5 #[] w fun e w' => e = .returned (.bool true) ∧ Later w w') := hA
    clear hA hf hf2 hc
    go_enter Tryz.func3, Tryz.ntmps3
    go_wp2_with (go_at_call 5; (with_reducible refine Calls.mono HA.out ?_); rintro e w1 ⟨rfl, hb1⟩; have B1 : Aside (Later w w1) := hb1; clear hb1)
    go_ret
    exact ⟨rfl, B1.out⟩
  · exact words_go w a b _ hs hc hf hf2 hA (fun w' => Tryz.strings_Contains_one (a ++ b) 10 w')
end Go.Proofs.YtgioobgahlcdhaaGreatDoor
end
