/- Parts of the proof: Yc. -/
import Derived.Test.YthifhncbbndiaaaGreatDoorQax

set_option linter.unusedVariables false
set_option linter.unusedSimpArgs false

section
/- palinglaw21.ScriptMany: the walk. -/
namespace Go.Proofs.YthifhncbbndiaaaGreatDoor
open Go.RowKit Go.Shelf Go.Sort Go.Lib

set_option maxHeartbeats 1000000 in
set_option maxRecDepth 1000000 in
theorem many_aa (w : World) (n : Int) (h0 : 0 ≤ n) (h1 : n ≤ 255) (T1 T2 : ByteArray) (hk : 200 < 195 + n % 10) (hm : 6 < n % 12)
    (HA : Aside (Calls Tryz.prog 4 #[] w fun e w' => e = .returned (.bool true) ∧ Later w w'))
    (R1 : Aside (∀ z w', z = 195 + n % 10 → Calls Tryz.prog 6 #[.string ⟨#[99, 111, 108, 108, 101, 99, 116, 10]⟩, .int .i64 z] w' fun e w2 => e = .returned (.string T1) ∧ Later w' w2))
    (R2 : Aside (∀ z w', z = 65530 + n % 12 → Calls Tryz.prog 6 #[.string ⟨#[10]⟩, .int .i64 z] w' fun e w2 => e = .returned (.string T2) ∧ Later w' w2))
    (P1 : Aside (∀ w', Later w w' → Calls Tryz.prog 5 #[.string T1] w' fun en w2 => ∃ p c, en = .returned (.tuple #[.slice p 0 c, .int .i64 201, .int .i64 2]) ∧ Later w' w2))
    (P2 : Aside (∀ w', Later w w' → Calls Tryz.prog 5 #[.string T2] w' fun en w2 => ∃ p c, en = .returned (.tuple #[.slice p 0 c, .int .i64 0, .int .i64 2]) ∧ Later w' w2)) :
    Calls Tryz.prog 3 #[.int .u8 n] w fun e w' => e = .returned (.bool true) ∧ Later w w' := by
  go_enter Tryz.func3, Tryz.ntmps3
  go_wp2_with (first
    | (go_at_call 4; (with_reducible refine Calls.mono HA.out ?_); rintro e w1 ⟨rfl, hb1⟩; have B1 : Aside (Later w w1) := hb1; clear hb1)
    | (go_at_call 6; (with_reducible refine Calls.mono (R1.out _ _ ?_) ?_); rotate_left; rintro e w2 ⟨rfl, hb1⟩; have B2 : Aside (Later w w2) := B1.out.step hb1; clear hb1)
    | (go_at_call 5; (with_reducible refine Calls.mono (P1.out _ B2.out) ?_); rintro e w3 ⟨p1, c1, rfl, hb1⟩; have B3 : Aside (Later w w3) := B2.out.step hb1; clear hb1)
    | (go_at_call 6; (with_reducible refine Calls.mono (R2.out _ _ ?_) ?_); rotate_left; rintro e w4 ⟨rfl, hb1⟩; have B4 : Aside (Later w w4) := B3.out.step hb1; clear hb1)
    | (go_at_call 5; (with_reducible refine Calls.mono (P2.out _ B4.out) ?_); rintro e w5 ⟨p2, c2, rfl, hb1⟩; have B5 : Aside (Later w w5) := B4.out.step hb1; clear hb1))
  all_goals first
    | rfl
    | (go_ret; refine ⟨?_, B5.out⟩; first | rfl | simp [hm] | (simp; omega))
set_option maxHeartbeats 1000000 in
set_option maxRecDepth 1000000 in
theorem many_ab (w : World) (n : Int) (h0 : 0 ≤ n) (h1 : n ≤ 255) (T1 T2 : ByteArray) (hk : 200 < 195 + n % 10) (hm : ¬ 6 < n % 12)
    (HA : Aside (Calls Tryz.prog 4 #[] w fun e w' => e = .returned (.bool true) ∧ Later w w'))
    (R1 : Aside (∀ z w', z = 195 + n % 10 → Calls Tryz.prog 6 #[.string ⟨#[99, 111, 108, 108, 101, 99, 116, 10]⟩, .int .i64 z] w' fun e w2 => e = .returned (.string T1) ∧ Later w' w2))
    (R2 : Aside (∀ z w', z = 65530 + n % 12 → Calls Tryz.prog 6 #[.string ⟨#[10]⟩, .int .i64 z] w' fun e w2 => e = .returned (.string T2) ∧ Later w' w2))
    (P1 : Aside (∀ w', Later w w' → Calls Tryz.prog 5 #[.string T1] w' fun en w2 => ∃ p c, en = .returned (.tuple #[.slice p 0 c, .int .i64 201, .int .i64 2]) ∧ Later w' w2))
    (P2 : Aside (∀ w', Later w w' → Calls Tryz.prog 5 #[.string T2] w' fun en w2 => ∃ p c, en = .returned (.tuple #[.slice p 0 c, .int .i64 0, .int .i64 0]) ∧ Later w' w2)) :
    Calls Tryz.prog 3 #[.int .u8 n] w fun e w' => e = .returned (.bool true) ∧ Later w w' := by
  go_enter Tryz.func3, Tryz.ntmps3
  go_wp2_with (first
    | (go_at_call 4; (with_reducible refine Calls.mono HA.out ?_); rintro e w1 ⟨rfl, hb1⟩; have B1 : Aside (Later w w1) := hb1; clear hb1)
    | (go_at_call 6; (with_reducible refine Calls.mono (R1.out _ _ ?_) ?_); rotate_left; rintro e w2 ⟨rfl, hb1⟩; have B2 : Aside (Later w w2) := B1.out.step hb1; clear hb1)
    | (go_at_call 5; (with_reducible refine Calls.mono (P1.out _ B2.out) ?_); rintro e w3 ⟨p1, c1, rfl, hb1⟩; have B3 : Aside (Later w w3) := B2.out.step hb1; clear hb1)
    | (go_at_call 6; (with_reducible refine Calls.mono (R2.out _ _ ?_) ?_); rotate_left; rintro e w4 ⟨rfl, hb1⟩; have B4 : Aside (Later w w4) := B3.out.step hb1; clear hb1)
    | (go_at_call 5; (with_reducible refine Calls.mono (P2.out _ B4.out) ?_); rintro e w5 ⟨p2, c2, rfl, hb1⟩; have B5 : Aside (Later w w5) := B4.out.step hb1; clear hb1))
  all_goals first
    | rfl
    | (go_ret; refine ⟨?_, B5.out⟩; first | rfl | simp [hm] | (simp; omega))
set_option maxHeartbeats 1000000 in
set_option maxRecDepth 1000000 in
theorem many_ba (w : World) (n : Int) (h0 : 0 ≤ n) (h1 : n ≤ 255) (T1 T2 : ByteArray) (L : Nat) (i1 : Int) (hk : ¬ 200 < 195 + n % 10) (hL : (L : Int) = 195 + n % 10) (hm : 6 < n % 12)
    (HA : Aside (Calls Tryz.prog 4 #[] w fun e w' => e = .returned (.bool true) ∧ Later w w'))
    (R1 : Aside (∀ z w', z = 195 + n % 10 → Calls Tryz.prog 6 #[.string ⟨#[99, 111, 108, 108, 101, 99, 116, 10]⟩, .int .i64 z] w' fun e w2 => e = .returned (.string T1) ∧ Later w' w2))
    (R2 : Aside (∀ z w', z = 65530 + n % 12 → Calls Tryz.prog 6 #[.string ⟨#[10]⟩, .int .i64 z] w' fun e w2 => e = .returned (.string T2) ∧ Later w' w2))
    (P1 : Aside (∀ w', Later w w' → Calls Tryz.prog 5 #[.string T1] w' fun en w2 => ∃ p c, en = .returned (.tuple #[.slice p L c, .int .i64 i1, .int .i64 0]) ∧ Later w' w2))
    (P2 : Aside (∀ w', Later w w' → Calls Tryz.prog 5 #[.string T2] w' fun en w2 => ∃ p c, en = .returned (.tuple #[.slice p 0 c, .int .i64 0, .int .i64 2]) ∧ Later w' w2)) :
    Calls Tryz.prog 3 #[.int .u8 n] w fun e w' => e = .returned (.bool true) ∧ Later w w' := by
  go_enter Tryz.func3, Tryz.ntmps3
  go_wp2_with (first
    | (go_at_call 4; (with_reducible refine Calls.mono HA.out ?_); rintro e w1 ⟨rfl, hb1⟩; have B1 : Aside (Later w w1) := hb1; clear hb1)
    | (go_at_call 6; (with_reducible refine Calls.mono (R1.out _ _ ?_) ?_); rotate_left; rintro e w2 ⟨rfl, hb1⟩; have B2 : Aside (Later w w2) := B1.out.step hb1; clear hb1)
    | (go_at_call 5; (with_reducible refine Calls.mono (P1.out _ B2.out) ?_); rintro e w3 ⟨p1, c1, rfl, hb1⟩; have B3 : Aside (Later w w3) := B2.out.step hb1; clear hb1)
    | (go_at_call 6; (with_reducible refine Calls.mono (R2.out _ _ ?_) ?_); rotate_left; rintro e w4 ⟨rfl, hb1⟩; have B4 : Aside (Later w w4) := B3.out.step hb1; clear hb1)
    | (go_at_call 5; (with_reducible refine Calls.mono (P2.out _ B4.out) ?_); rintro e w5 ⟨p2, c2, rfl, hb1⟩; have B5 : Aside (Later w w5) := B4.out.step hb1; clear hb1))
  all_goals first
    | rfl
    | (go_ret; refine ⟨?_, B5.out⟩; first | rfl | simp [hm] | (simp; omega))
set_option maxHeartbeats 1000000 in
set_option maxRecDepth 1000000 in
theorem many_bb (w : World) (n : Int) (h0 : 0 ≤ n) (h1 : n ≤ 255) (T1 T2 : ByteArray) (L : Nat) (i1 : Int) (hk : ¬ 200 < 195 + n % 10) (hL : (L : Int) = 195 + n % 10) (hm : ¬ 6 < n % 12)
    (HA : Aside (Calls Tryz.prog 4 #[] w fun e w' => e = .returned (.bool true) ∧ Later w w'))
    (R1 : Aside (∀ z w', z = 195 + n % 10 → Calls Tryz.prog 6 #[.string ⟨#[99, 111, 108, 108, 101, 99, 116, 10]⟩, .int .i64 z] w' fun e w2 => e = .returned (.string T1) ∧ Later w' w2))
    (R2 : Aside (∀ z w', z = 65530 + n % 12 → Calls Tryz.prog 6 #[.string ⟨#[10]⟩, .int .i64 z] w' fun e w2 => e = .returned (.string T2) ∧ Later w' w2))
    (P1 : Aside (∀ w', Later w w' → Calls Tryz.prog 5 #[.string T1] w' fun en w2 => ∃ p c, en = .returned (.tuple #[.slice p L c, .int .i64 i1, .int .i64 0]) ∧ Later w' w2))
    (P2 : Aside (∀ w', Later w w' → Calls Tryz.prog 5 #[.string T2] w' fun en w2 => ∃ p c, en = .returned (.tuple #[.slice p 0 c, .int .i64 0, .int .i64 0]) ∧ Later w' w2)) :
    Calls Tryz.prog 3 #[.int .u8 n] w fun e w' => e = .returned (.bool true) ∧ Later w w' := by
  go_enter Tryz.func3, Tryz.ntmps3
  go_wp2_with (first
    | (go_at_call 4; (with_reducible refine Calls.mono HA.out ?_); rintro e w1 ⟨rfl, hb1⟩; have B1 : Aside (Later w w1) := hb1; clear hb1)
    | (go_at_call 6; (with_reducible refine Calls.mono (R1.out _ _ ?_) ?_); rotate_left; rintro e w2 ⟨rfl, hb1⟩; have B2 : Aside (Later w w2) := B1.out.step hb1; clear hb1)
    | (go_at_call 5; (with_reducible refine Calls.mono (P1.out _ B2.out) ?_); rintro e w3 ⟨p1, c1, rfl, hb1⟩; have B3 : Aside (Later w w3) := B2.out.step hb1; clear hb1)
    | (go_at_call 6; (with_reducible refine Calls.mono (R2.out _ _ ?_) ?_); rotate_left; rintro e w4 ⟨rfl, hb1⟩; have B4 : Aside (Later w w4) := B3.out.step hb1; clear hb1)
    | (go_at_call 5; (with_reducible refine Calls.mono (P2.out _ B4.out) ?_); rintro e w5 ⟨p2, c2, rfl, hb1⟩; have B5 : Aside (Later w w5) := B4.out.step hb1; clear hb1))
  all_goals first
    | rfl
    | (go_ret; refine ⟨?_, B5.out⟩; first | rfl | simp [hm] | (simp; omega))

theorem many_any (w : World) (n : Int) (h0 : 0 ≤ n) (h1 : n ≤ 255) (hc : Calm w) (hf : w.rangeAt 1 0 formCells.toList)
    (hA : Calls Tryz.prog 4 #[] w fun e w' => e = .returned (.bool true) ∧ Later w w') :
    Calls Tryz.prog 3 #[.int .u8 n] w fun e w' => e = .returned (.bool true) ∧ Later w w' := by
  obtain ⟨l1, i1, e1, hR1, hbig, hsmall⟩ := many_cols (195 + n % 10) (by omega) (by omega)
  obtain ⟨e2, hR2, hbig2, hsmall2⟩ := many_feeds (65530 + n % 12) (by omega)
  have hz1 : (⟨(List.replicate (195 + n % 10).toNat ([99, 111, 108, 108, 101, 99, 116, 10] : List UInt8)).flatten.toArray⟩ : ByteArray).size ≤ 1000000 := by
    rw [Lib.size_eq]
    simp
    omega
  have hz2 : (⟨(List.replicate (65530 + n % 12).toNat ([10] : List UInt8)).flatten.toArray⟩ : ByteArray).size ≤ 1000000 := by
    rw [Lib.size_eq]
    simp
    omega
  have R1 : ∀ z w', z = 195 + n % 10 → Calls Tryz.prog 6 #[.string ⟨#[99, 111, 108, 108, 101, 99, 116, 10]⟩, .int .i64 z] w' fun e w2 => e = .returned (.string ⟨(List.replicate (195 + n % 10).toNat ([99, 111, 108, 108, 101, 99, 116, 10] : List UInt8)).flatten.toArray⟩) ∧ Later w' w2 := fun z w' hz => by
    subst hz
    exact repeat_any ⟨#[99, 111, 108, 108, 101, 99, 116, 10]⟩ (by decide) _ (by omega) (by omega) w'
  have R2 : ∀ z w', z = 65530 + n % 12 → Calls Tryz.prog 6 #[.string ⟨#[10]⟩, .int .i64 z] w' fun e w2 => e = .returned (.string ⟨(List.replicate (65530 + n % 12).toNat ([10] : List UInt8)).flatten.toArray⟩) ∧ Later w' w2 := fun z w' hz => by
    subst hz
    exact repeat_any ⟨#[10]⟩ (by decide) _ (by omega) (by omega) w'
  have P1 := fun w' hl => parse_parts2 _ hz1 l1 i1 e1 hR1 w hc hf w' hl
  have P2 := fun w' hl => parse_parts2 _ hz2 [] 0 e2 hR2 w hc hf w' hl
  by_cases hk : 200 < 195 + n % 10
  · obtain ⟨a, b, c⟩ := hbig hk
    subst a
    subst b
    subst c
    by_cases hm : 6 < n % 12
    · have := hbig2 (by omega)
      subst this
      exact many_aa w n h0 h1 _ _ hk hm hA R1 R2 P1 P2
    · have := hsmall2 (by omega)
      subst this
      exact many_ab w n h0 h1 _ _ hk hm hA R1 R2 P1 P2
  · obtain ⟨a, b⟩ := hsmall (by omega)
    subst b
    by_cases hm : 6 < n % 12
    · have := hbig2 (by omega)
      subst this
      exact many_ba w n h0 h1 _ _ l1.length i1 hk a hm hA R1 R2 P1 P2
    · have := hsmall2 (by omega)
      subst this
      exact many_bb w n h0 h1 _ _ l1.length i1 hk a hm hA R1 R2 P1 P2
end Go.Proofs.YthifhncbbndiaaaGreatDoor
end
