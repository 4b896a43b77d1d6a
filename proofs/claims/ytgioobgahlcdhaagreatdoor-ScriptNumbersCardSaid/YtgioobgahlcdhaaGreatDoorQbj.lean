/- Parts of the proof: Yh. -/
import Derived.Lib.Repeat
import Derived.Test.YtgioobgahlcdhaaGreatDoorQbc
import Derived.Test.YtgioobgahlcdhaaGreatDoorQbi

set_option linter.unusedVariables false
set_option linter.unusedSimpArgs false

section
/- palinglaw21.ScriptNumbers: the walk. -/
namespace Go.Proofs.YtgioobgahlcdhaaGreatDoor
open Go.RowKit Go.Shelf Go.Sort Go.Lib

theorem rep_flat (l : List UInt8) : ∀ n, Lib.repeatL l n = (List.replicate n l).flatten
  | 0 => by simp [Lib.repeatL]
  | n + 1 => by simp [Lib.repeatL, rep_flat l n, List.replicate_succ]
theorem repeat_any (s : ByteArray) (hs : s.size ≤ 100) (z : Int) (h0 : 0 ≤ z) (h1 : z ≤ 100000) (w : World) :
    Calls Tryz.prog 10 #[.string s, .int .i64 z] w fun e w' => e = .returned (.string ⟨(List.replicate z.toNat s.data.toList).flatten.toArray⟩) ∧ Later w w' := by
  obtain ⟨c, rfl⟩ := Int.eq_ofNat_of_zero_le h0
  refine (Tryz.strings_Repeat s c w (by omega) ?_).mono ?_
  · exact Nat.le_trans (Nat.mul_le_mul hs (by omega : c ≤ 100000)) (by decide)
  · rintro e w' ⟨rfl, hb⟩
    exact ⟨by rw [rep_flat]; first | done | rfl, hb⟩
set_option maxHeartbeats 4000000 in
set_option maxRecDepth 1000000 in
theorem numbers_minus (w : World) (n : Nat) (hn : n < 18446744073709551616) (z : Int) (h0 : 0 ≤ z) (h1 : z ≤ 255) (r t : ByteArray) (hr : r.size ≤ 2) (ht : t.size ≤ 100) (hc : Calm w) (hf : w.rangeAt 1 0 formCells.toList) (hf2 : Forms21 w) (HA : Aside (Calls Tryz.prog 5 #[] w fun e w' => e = .returned (.bool true) ∧ Later w w'))
    (HR : Aside (∀ y w', y = z % 3 → Calls Tryz.prog 10 #[.string ⟨#[48]⟩, .int .i64 y] w' fun e w'' => e = .returned (.string r) ∧ Later w' w''))
    (HU : Aside (∀ w', Later w w' → Calls Tryz.prog 11 #[.int .u64 n, .int .i64 10] w' fun e w'' => e = .returned (.string t) ∧ Later w' w'')) :
    Calls Tryz.prog 4 #[.int .u64 n, .int .u8 z, .bool true] w fun e w' => e = .returned (.bool true) ∧ Later w w' := by
  obtain ⟨s, hse⟩ : ∃ s : ByteArray, ⟨#[45]⟩ ++ (r ++ t) = s := ⟨_, rfl⟩
  obtain ⟨tab, htab⟩ : ∃ tab : List ByteArray, [⟨#[99, 111, 109, 112, 32]⟩ ++ s, ⟨#[102, 111, 114, 103, 101, 116, 32]⟩ ++ s, ⟨#[99, 97, 108, 108, 32, 49, 32, 35]⟩ ++ s, ⟨#[99, 97, 108, 108, 32, 49, 32, 35, 48, 32]⟩ ++ s, ⟨#[103, 105, 118, 101, 32, 48, 32, 49, 32]⟩ ++ s] = tab := ⟨_, rfl⟩
  have e0 : (⟨#[45]⟩ : ByteArray).size = 1 := rfl
  have e1 : (⟨#[99, 111, 109, 112, 32]⟩ : ByteArray).size = 5 := rfl
  have e2 : (⟨#[102, 111, 114, 103, 101, 116, 32]⟩ : ByteArray).size = 7 := rfl
  have e3 : (⟨#[99, 97, 108, 108, 32, 49, 32, 35]⟩ : ByteArray).size = 8 := rfl
  have e4 : (⟨#[99, 97, 108, 108, 32, 49, 32, 35, 48, 32]⟩ : ByteArray).size = 10 := rfl
  have e5 : (⟨#[103, 105, 118, 101, 32, 48, 32, 49, 32]⟩ : ByteArray).size = 9 := rfl
  have hss : s.size ≤ 200 := by rw [← hse]; simp only [ByteArray.size_append, e0]; omega
  have HTL : Aside (tab.length = 5) := by rw [← htab]; first | done | rfl
  have HTS : Aside (∀ x ∈ tab, x.size ≤ 1000000) := by
    intro x hx
    rw [← htab] at hx
    simp only [List.mem_cons, List.not_mem_nil, or_false] at hx
    rcases hx with rfl | rfl | rfl | rfl | rfl <;> simp only [ByteArray.size_append, e1, e2, e3, e4, e5] <;> omega
  have tabCells : ∀ (j : Nat) (x : ByteArray), tab[j]? = some x → (#[Value.string (⟨#[99, 111, 109, 112, 32]⟩ ++ s), .string (⟨#[102, 111, 114, 103, 101, 116, 32]⟩ ++ s), .string (⟨#[99, 97, 108, 108, 32, 49, 32, 35]⟩ ++ s), .string (⟨#[99, 97, 108, 108, 32, 49, 32, 35, 48, 32]⟩ ++ s), .string (⟨#[103, 105, 118, 101, 32, 48, 32, 49, 32]⟩ ++ s)] : Array Value)[j]? = some (.string x) := by
    intro j x hx
    rw [← htab] at hx
    have hj : j < 5 := (List.getElem?_eq_some_iff.1 hx).1
    match j, hj, hx with
    | 0, _, hx => cases hx; rfl
    | 1, _, hx => cases hx; rfl
    | 2, _, hx => cases hx; rfl
    | 3, _, hx => cases hx; rfl
    | 4, _, hx => cases hx; rfl
  clear htab e0 e1 e2 e3 e4 e5
  go_enter Tryz.func4, Tryz.ntmps4
  go_wp2_with (first
    | (go_at_call 5; (with_reducible refine Calls.mono HA.out ?_); rintro e w1 ⟨rfl, hb1⟩; have BA : Aside (Later w w1) := hb1; clear hb1)
    | (go_at_call 10; (with_reducible refine Calls.mono (HR.out _ _ ?_) ?_); rotate_left; rintro e w2 ⟨rfl, hb1⟩; have BR : Aside (Later w w2) := BA.out.step hb1; clear hb1)
    | (go_at_call 11; (with_reducible refine Calls.mono (HU.out _ BR.out) ?_); rintro e w3 ⟨rfl, hb1⟩; have B1 : Aside (Later w w3) := BR.out.step hb1; clear hb1))
  rotate_left
  · first
      | rfl
      | simp
      | omega
  go_loopg [40] 5 (fun g i wr => ∃ k : Nat, k + g = 5 ∧ i = .int .i64 k ∧ Aside (Later w3 wr) ∧ Aside (∀ (j : Nat) (x : ByteArray), tab[j]? = some x → wr.cell? ⟨w3.heap.size, j, none⟩ = some (.string x)))
  case atStart =>
    refine ⟨0, by omega, rfl, (Below.refl _ w3).alloc (Nat.le_refl _) _, ?_⟩
    intro j x hx
    rw [World.cell?_alloc_at _ _ _ _ rfl]
    exact tabCells j x hx
  case round =>
    obtain ⟨k, hk, rfl, HL, HX⟩ := hrel
    by_cases hlt : k < 5
    · obtain ⟨x, hx⟩ : ∃ x, tab[k]? = some x := ⟨_, List.getElem?_eq_getElem (by rw [HTL.out]; exact hlt)⟩
      have hxc := HX.out k x hx
      have HLw : Aside (Later w wr) := B1.out.step HL.out
      obtain ⟨l, i, e, h1, h2, h3, h4⟩ := both_parse x (HTS.out x (List.mem_of_getElem? hx)) w hc hf hf2
      have P1 : Aside (∀ w', Later w w' → Calls Tryz.prog 7 #[.string x] w' fun en w2 => ∃ p n c xs, en = .returned (.tuple #[.slice p n c, .int .i64 i, .int .i64 e]) ∧ Later w' w2 ∧ w2.ownsRow w'.heap.size 38 4 (.slice p n c) l.length xs ∧ Cmds w2 w'.heap.size l xs) := h1
      have P2 : Aside (∀ w', Later w w' → Calls Tryz.prog 8 #[.string x] w' fun en w2 => ∃ p n c xs, en = .returned (.tuple #[.slice p n c, .int .i64 i, .int .i64 e]) ∧ Later w' w2 ∧ w2.ownsRow w'.heap.size 38 4 (.slice p n c) l.length xs ∧ Cmds w2 w'.heap.size l xs) := h2
      have HS : Aside (∀ c ∈ l, c.ns.length ≤ 1000000 ∧ c.al.length ≤ 1000000) := h4
      have HLL : Aside (l.length ≤ 1000000) := h3
      clear h1 h2 h3 h4 hx
      go_wp2_with (first
        | (go_at_call 7; (with_reducible refine Calls.mono (P1.out _ HLw.out) ?_); rintro en w2 ⟨p1, n1, c1, xs1, rfl, hb, ho, hm⟩; have B12 : Aside (Later wr w2) := hb; have B2 : Aside (Later w w2) := HLw.out.step hb; have O1 : Aside (World.ownsRow _ _ _ _ _ _ _) := ho; have M1 : Aside (Cmds _ _ _ _) := hm; clear hb ho hm)
        | (go_at_call 8; (with_reducible refine Calls.mono (P2.out _ B2.out) ?_); rintro en w3 ⟨p2, n2, c2, xs2, rfl, hb, ho, hm⟩; have B23 : Aside (Later w2 w3) := hb; have B3 : Aside (Later w w3) := B2.out.step hb; have O2 : Aside (World.ownsRow _ _ _ _ _ _ _) := ho; have M2 : Aside (Cmds _ _ _ _) := hm; clear hb ho hm)
        | (go_at_call 9; (with_reducible refine Calls.mono (same_any w3 l p1 p2 n1 c1 n2 c2 _ _ xs1 xs2 (owned_later O1.out B23.out) (M1.out.later B23.out) O2.out M2.out HLL.out HS.out) ?_); rintro en w4 ⟨rfl, hb⟩; have B34 : Aside (Later w3 w4) := hb; clear hb))
      go_roundg (gk - 1)
      case measure => omega
      case rel =>
        have HR : Later wr w4 := (B12.out.step B23.out).step B34.out
        exact ⟨k + 1, by omega, by go_num, HL.out.step HR, fun j x hx => HR.cellOf (HX.out j x hx)⟩
    · go_wp2
      go_ret
      exact ⟨rfl, B1.out.step HL.out⟩

set_option maxHeartbeats 4000000 in
set_option maxRecDepth 1000000 in
theorem numbers_plain (w : World) (n : Nat) (hn : n < 18446744073709551616) (z : Int) (h0 : 0 ≤ z) (h1 : z ≤ 255) (r t : ByteArray) (hr : r.size ≤ 2) (ht : t.size ≤ 100) (hc : Calm w) (hf : w.rangeAt 1 0 formCells.toList) (hf2 : Forms21 w) (HA : Aside (Calls Tryz.prog 5 #[] w fun e w' => e = .returned (.bool true) ∧ Later w w'))
    (HR : Aside (∀ y w', y = z % 3 → Calls Tryz.prog 10 #[.string ⟨#[48]⟩, .int .i64 y] w' fun e w'' => e = .returned (.string r) ∧ Later w' w''))
    (HU : Aside (∀ w', Later w w' → Calls Tryz.prog 11 #[.int .u64 n, .int .i64 10] w' fun e w'' => e = .returned (.string t) ∧ Later w' w'')) :
    Calls Tryz.prog 4 #[.int .u64 n, .int .u8 z, .bool false] w fun e w' => e = .returned (.bool true) ∧ Later w w' := by
  obtain ⟨s, hse⟩ : ∃ s : ByteArray, r ++ t = s := ⟨_, rfl⟩
  obtain ⟨tab, htab⟩ : ∃ tab : List ByteArray, [⟨#[99, 111, 109, 112, 32]⟩ ++ s, ⟨#[102, 111, 114, 103, 101, 116, 32]⟩ ++ s, ⟨#[99, 97, 108, 108, 32, 49, 32, 35]⟩ ++ s, ⟨#[99, 97, 108, 108, 32, 49, 32, 35, 48, 32]⟩ ++ s, ⟨#[103, 105, 118, 101, 32, 48, 32, 49, 32]⟩ ++ s] = tab := ⟨_, rfl⟩
  have e0 : (⟨#[45]⟩ : ByteArray).size = 1 := rfl
  have e1 : (⟨#[99, 111, 109, 112, 32]⟩ : ByteArray).size = 5 := rfl
  have e2 : (⟨#[102, 111, 114, 103, 101, 116, 32]⟩ : ByteArray).size = 7 := rfl
  have e3 : (⟨#[99, 97, 108, 108, 32, 49, 32, 35]⟩ : ByteArray).size = 8 := rfl
  have e4 : (⟨#[99, 97, 108, 108, 32, 49, 32, 35, 48, 32]⟩ : ByteArray).size = 10 := rfl
  have e5 : (⟨#[103, 105, 118, 101, 32, 48, 32, 49, 32]⟩ : ByteArray).size = 9 := rfl
  have hss : s.size ≤ 200 := by rw [← hse]; simp only [ByteArray.size_append, e0]; omega
  have HTL : Aside (tab.length = 5) := by rw [← htab]; first | done | rfl
  have HTS : Aside (∀ x ∈ tab, x.size ≤ 1000000) := by
    intro x hx
    rw [← htab] at hx
    simp only [List.mem_cons, List.not_mem_nil, or_false] at hx
    rcases hx with rfl | rfl | rfl | rfl | rfl <;> simp only [ByteArray.size_append, e1, e2, e3, e4, e5] <;> omega
  have tabCells : ∀ (j : Nat) (x : ByteArray), tab[j]? = some x → (#[Value.string (⟨#[99, 111, 109, 112, 32]⟩ ++ s), .string (⟨#[102, 111, 114, 103, 101, 116, 32]⟩ ++ s), .string (⟨#[99, 97, 108, 108, 32, 49, 32, 35]⟩ ++ s), .string (⟨#[99, 97, 108, 108, 32, 49, 32, 35, 48, 32]⟩ ++ s), .string (⟨#[103, 105, 118, 101, 32, 48, 32, 49, 32]⟩ ++ s)] : Array Value)[j]? = some (.string x) := by
    intro j x hx
    rw [← htab] at hx
    have hj : j < 5 := (List.getElem?_eq_some_iff.1 hx).1
    match j, hj, hx with
    | 0, _, hx => cases hx; rfl
    | 1, _, hx => cases hx; rfl
    | 2, _, hx => cases hx; rfl
    | 3, _, hx => cases hx; rfl
    | 4, _, hx => cases hx; rfl
  clear htab e0 e1 e2 e3 e4 e5
  go_enter Tryz.func4, Tryz.ntmps4
  go_wp2_with (first
    | (go_at_call 5; (with_reducible refine Calls.mono HA.out ?_); rintro e w1 ⟨rfl, hb1⟩; have BA : Aside (Later w w1) := hb1; clear hb1)
    | (go_at_call 10; (with_reducible refine Calls.mono (HR.out _ _ ?_) ?_); rotate_left; rintro e w2 ⟨rfl, hb1⟩; have BR : Aside (Later w w2) := BA.out.step hb1; clear hb1)
    | (go_at_call 11; (with_reducible refine Calls.mono (HU.out _ BR.out) ?_); rintro e w3 ⟨rfl, hb1⟩; have B1 : Aside (Later w w3) := BR.out.step hb1; clear hb1))
  rotate_left
  · first
      | rfl
      | simp
      | omega
  go_loopg [40] 5 (fun g i wr => ∃ k : Nat, k + g = 5 ∧ i = .int .i64 k ∧ Aside (Later w3 wr) ∧ Aside (∀ (j : Nat) (x : ByteArray), tab[j]? = some x → wr.cell? ⟨w3.heap.size, j, none⟩ = some (.string x)))
  case atStart =>
    refine ⟨0, by omega, rfl, (Below.refl _ w3).alloc (Nat.le_refl _) _, ?_⟩
    intro j x hx
    rw [World.cell?_alloc_at _ _ _ _ rfl]
    exact tabCells j x hx
  case round =>
    obtain ⟨k, hk, rfl, HL, HX⟩ := hrel
    by_cases hlt : k < 5
    · obtain ⟨x, hx⟩ : ∃ x, tab[k]? = some x := ⟨_, List.getElem?_eq_getElem (by rw [HTL.out]; exact hlt)⟩
      have hxc := HX.out k x hx
      have HLw : Aside (Later w wr) := B1.out.step HL.out
      obtain ⟨l, i, e, h1, h2, h3, h4⟩ := both_parse x (HTS.out x (List.mem_of_getElem? hx)) w hc hf hf2
      have P1 : Aside (∀ w', Later w w' → Calls Tryz.prog 7 #[.string x] w' fun en w2 => ∃ p n c xs, en = .returned (.tuple #[.slice p n c, .int .i64 i, .int .i64 e]) ∧ Later w' w2 ∧ w2.ownsRow w'.heap.size 38 4 (.slice p n c) l.length xs ∧ Cmds w2 w'.heap.size l xs) := h1
      have P2 : Aside (∀ w', Later w w' → Calls Tryz.prog 8 #[.string x] w' fun en w2 => ∃ p n c xs, en = .returned (.tuple #[.slice p n c, .int .i64 i, .int .i64 e]) ∧ Later w' w2 ∧ w2.ownsRow w'.heap.size 38 4 (.slice p n c) l.length xs ∧ Cmds w2 w'.heap.size l xs) := h2
      have HS : Aside (∀ c ∈ l, c.ns.length ≤ 1000000 ∧ c.al.length ≤ 1000000) := h4
      have HLL : Aside (l.length ≤ 1000000) := h3
      clear h1 h2 h3 h4 hx
      go_wp2_with (first
        | (go_at_call 7; (with_reducible refine Calls.mono (P1.out _ HLw.out) ?_); rintro en w2 ⟨p1, n1, c1, xs1, rfl, hb, ho, hm⟩; have B12 : Aside (Later wr w2) := hb; have B2 : Aside (Later w w2) := HLw.out.step hb; have O1 : Aside (World.ownsRow _ _ _ _ _ _ _) := ho; have M1 : Aside (Cmds _ _ _ _) := hm; clear hb ho hm)
        | (go_at_call 8; (with_reducible refine Calls.mono (P2.out _ B2.out) ?_); rintro en w3 ⟨p2, n2, c2, xs2, rfl, hb, ho, hm⟩; have B23 : Aside (Later w2 w3) := hb; have B3 : Aside (Later w w3) := B2.out.step hb; have O2 : Aside (World.ownsRow _ _ _ _ _ _ _) := ho; have M2 : Aside (Cmds _ _ _ _) := hm; clear hb ho hm)
        | (go_at_call 9; (with_reducible refine Calls.mono (same_any w3 l p1 p2 n1 c1 n2 c2 _ _ xs1 xs2 (owned_later O1.out B23.out) (M1.out.later B23.out) O2.out M2.out HLL.out HS.out) ?_); rintro en w4 ⟨rfl, hb⟩; have B34 : Aside (Later w3 w4) := hb; clear hb))
      go_roundg (gk - 1)
      case measure => omega
      case rel =>
        have HR : Later wr w4 := (B12.out.step B23.out).step B34.out
        exact ⟨k + 1, by omega, by go_num, HL.out.step HR, fun j x hx => HR.cellOf (HX.out j x hx)⟩
    · go_wp2
      go_ret
      exact ⟨rfl, B1.out.step HL.out⟩


theorem numbers_any (w : World) (n : Nat) (hn : n < 18446744073709551616) (z : Int) (h0 : 0 ≤ z) (h1 : z ≤ 255) (m : Bool) (hc : Calm w) (hf : w.rangeAt 1 0 formCells.toList) (hf2 : Forms21 w) (hA : Calls Tryz.prog 5 #[] w fun e w' => e = .returned (.bool true) ∧ Later w w') :
    Calls Tryz.prog 4 #[.int .u64 n, .int .u8 z, .bool m] w fun e w' => e = .returned (.bool true) ∧ Later w w' := by
  have hR : ∀ y w', y = z % 3 → Calls Tryz.prog 10 #[.string ⟨#[48]⟩, .int .i64 y] w' fun e w'' => e = .returned (.string ⟨(List.replicate (z % 3).toNat [48]).flatten.toArray⟩) ∧ Later w' w'' := fun y w' hy => by
    subst hy
    exact repeat_any ⟨#[48]⟩ (by decide) _ (by omega) (by omega) w'
  have hU : ∀ w', Later w w' → Calls Tryz.prog 11 #[.int .u64 n, .int .i64 10] w' fun e w'' => e = .returned (.string ⟨(Lib.decDigits n).toArray⟩) ∧ Later w' w'' := fun w' hl => formatUint_any n hn w' (hc.later hl)
  have hr : (⟨(List.replicate (z % 3).toNat ([48] : List UInt8)).flatten.toArray⟩ : ByteArray).size ≤ 2 := by
    rw [Lib.size_eq]
    simp
    omega
  have ht : (⟨(Lib.decDigits n).toArray⟩ : ByteArray).size ≤ 100 := by
    rw [Lib.size_eq]
    show (Lib.decDigits n).length ≤ 100
    rw [Lib.decDigits_length]
    rcases Nat.eq_zero_or_pos n with h | h
    · subst h
      rw [Lib.nDigits_small (by omega)]
      omega
    · have := Lib.numDigits_eq n h hn
      split at this <;> omega
  cases m with
  | true => exact numbers_minus w n hn z h0 h1 _ _ hr ht hc hf hf2 hA hR hU
  | false => exact numbers_plain w n hn z h0 h1 _ _ hr ht hc hf hf2 hA hR hU
end Go.Proofs.YtgioobgahlcdhaaGreatDoor
end
