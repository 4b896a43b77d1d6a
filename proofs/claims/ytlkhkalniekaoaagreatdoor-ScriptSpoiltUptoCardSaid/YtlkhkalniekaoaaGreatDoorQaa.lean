/- Parts of the proof: PNum, PNumB, PBlank, PBlankB, PLine, PFeed, PRef, XDef, XOps. -/
import Derived.Lib.ItoaNum
import Derived.Lib.AtoiAllCases
import Derived.Lib.ParseIntBTie
import Derived.Lib.SpaceUEq
import Derived.Lib.Replace
import Derived.Lib.IndexBytes
import Derived.Lib.Join
import Derived.Lib.IndexLaws
import Derived.Lib.Strings
import GoSem.Step

set_option linter.unusedVariables false
set_option linter.unusedSimpArgs false

section
/- Decimal numerals: what strconv takes, by the digits. -/
namespace Go.X
open Go.Lib

def digB (c : UInt8) : Bool := decide (48 ≤ c.toNat ∧ c.toNat ≤ 57)
def valF (acc : Nat) (l : List UInt8) : Nat := l.foldl (fun a c => a * 10 + (c.toNat - 48)) acc
/-- Digits, no nought ahead. -/
def canonB (l : List UInt8) : Bool := !l.isEmpty && (l.all digB && !(decide (1 < l.length) && decide (l.head? = some 48)))

theorem valF_app (acc : Nat) (l r : List UInt8) : valF acc (l ++ r) = valF (valF acc l) r := by simp [valF]
theorem valF_ge : ∀ (l : List UInt8) (acc : Nat), acc ≤ valF acc l
  | [], acc => Nat.le_refl _
  | c :: r, acc => by
    have := valF_ge r (acc * 10 + (c.toNat - 48))
    show acc ≤ valF (acc * 10 + (c.toNat - 48)) r
    omega
theorem dec_small {u : Nat} (h : u < 10) : decDigits u = [UInt8.ofNat (48 + u)] := decDigits_one h
theorem dec_big {u : Nat} (h : ¬ u < 10) : decDigits u = decDigits (u / 10) ++ [UInt8.ofNat (48 + u % 10)] := by
  rw [decDigits, dif_neg h]
theorem ofDigit {d : Nat} (h : d < 10) : (UInt8.ofNat (48 + d)).toNat = 48 + d := by
  simp only [UInt8.toNat_ofNat']
  omega
theorem val_dec (u : Nat) : valF 0 (decDigits u) = u := by
  induction u using Nat.strongRecOn with
  | _ u ih =>
    by_cases h : u < 10
    · rw [dec_small h]
      show 0 * 10 + ((UInt8.ofNat (48 + u)).toNat - 48) = u
      rw [ofDigit h]
      omega
    · rw [dec_big h, valF_app, ih (u / 10) (by omega)]
      show u / 10 * 10 + ((UInt8.ofNat (48 + u % 10)).toNat - 48) = u
      rw [ofDigit (by omega)]
      omega
theorem dec_all (u : Nat) : (decDigits u).all digB = true := by
  induction u using Nat.strongRecOn with
  | _ u ih =>
    have key : ∀ d, d < 10 → digB (UInt8.ofNat (48 + d)) = true := fun d hd => by
      unfold digB
      rw [ofDigit hd]
      simp
      omega
    by_cases h : u < 10
    · rw [dec_small h, List.all_cons, key u h]
      rfl
    · rw [dec_big h, List.all_append, ih (u / 10) (by omega)]
      rw [List.all_cons, key (u % 10) (by omega)]
      rfl
theorem dec_ne (u : Nat) : decDigits u ≠ [] := by
  by_cases h : u < 10
  · rw [dec_small h]; simp
  · rw [dec_big h]; simp
theorem head_app {l r : List UInt8} (h : l ≠ []) : (l ++ r).head? = l.head? := by
  cases l with
  | nil => exact absurd rfl h
  | cons _ _ => rfl
theorem dec_head (u : Nat) (hu : u ≠ 0) : (decDigits u).head? ≠ some 48 := by
  induction u using Nat.strongRecOn with
  | _ u ih =>
    by_cases h : u < 10
    · rw [dec_small h]
      intro he
      have := congrArg (Option.map UInt8.toNat) he
      simp only [List.head?_cons, Option.map_some, Option.some.injEq] at this
      rw [ofDigit h] at this
      have h48 : (48 : UInt8).toNat = 48 := rfl
      omega
    · rw [dec_big h, head_app (dec_ne _)]
      exact ih (u / 10) (by omega) (by omega)
theorem dec_canon (u : Nat) : canonB (decDigits u) = true := by
  unfold canonB
  rw [dec_all]
  have h1 : (decDigits u).isEmpty = false := by
    cases h : decDigits u with
    | nil => exact absurd h (dec_ne u)
    | cons _ _ => rfl
  rw [h1]
  by_cases hu : u = 0
  · subst hu
    rw [dec_small (by omega)]
    rfl
  · have := dec_head u hu
    simp [this]
theorem canon_parts {l : List UInt8} (h : canonB l = true) : l ≠ [] ∧ l.all digB = true ∧ (1 < l.length → l.head? ≠ some 48) := by
  unfold canonB at h
  simp only [Bool.and_eq_true, Bool.not_eq_true', Bool.and_eq_false_iff, decide_eq_false_iff_not] at h
  obtain ⟨h1, h2, h3⟩ := h
  refine ⟨by rintro rfl; simp at h1, h2, fun h4 => ?_⟩
  rcases h3 with h3 | h3
  · exact absurd h4 h3
  · exact h3
theorem digit_back {c : UInt8} (h : digB c = true) : c.toNat - 48 < 10 ∧ UInt8.ofNat (48 + (c.toNat - 48)) = c := by
  unfold digB at h
  simp only [decide_eq_true_eq] at h
  refine ⟨by omega, ?_⟩
  apply UInt8.toNat_inj.1
  rw [ofDigit (by omega)]
  omega
theorem canon_dec_aux : ∀ (n : Nat) (l : List UInt8), l.length = n → l ≠ [] → l.all digB = true → (1 < l.length → l.head? ≠ some 48) → decDigits (valF 0 l) = l
  | 0, l, hn, hne, _, _ => absurd (List.length_eq_zero_iff.1 hn) hne
  | n + 1, l, hn, hne, hd, hh => by
    obtain ⟨m, c, rfl⟩ : ∃ m c, l = m ++ [c] := ⟨l.dropLast, l.getLast hne, (List.dropLast_concat_getLast hne).symm⟩
    rw [List.all_append, Bool.and_eq_true] at hd
    obtain ⟨hm, hc⟩ := hd
    have hc : digB c = true := by simpa using hc
    obtain ⟨d1, d2⟩ := digit_back hc
    rw [valF_app]
    show decDigits (valF 0 m * 10 + (c.toNat - 48)) = m ++ [c]
    by_cases hm0 : m = []
    · subst hm0
      show decDigits (0 * 10 + (c.toNat - 48)) = [c]
      rw [dec_small (by omega), Nat.zero_mul, Nat.zero_add, d2]
    · have hl : m.length = n := by simp at hn; exact hn
      have hpos : 0 < m.length := List.length_pos_iff.2 hm0
      have hhead : m.head? ≠ some 48 := by
        have := hh (by simp; omega)
        rwa [head_app hm0] at this
      have ih := canon_dec_aux n m hl hm0 hm (fun _ => hhead)
      have hv : valF 0 m ≠ 0 := fun h0 => by
        rw [h0, dec_small (by omega)] at ih
        rw [← ih] at hhead
        exact hhead rfl
      rw [dec_big (by omega), show (valF 0 m * 10 + (c.toNat - 48)) / 10 = valF 0 m by omega, show (valF 0 m * 10 + (c.toNat - 48)) % 10 = c.toNat - 48 by omega, ih, d2]
theorem canon_dec {l : List UInt8} (h : canonB l = true) : decDigits (valF 0 l) = l := by
  obtain ⟨h1, h2, h3⟩ := canon_parts h
  exact canon_dec_aux l.length l rfl h1 h2 h3
theorem parse_digits : ∀ (l : List UInt8) (acc : Nat), l.all digB = true → valF acc l < 18446744073709551616 → parseUint10 acc l = .ok (valF acc l)
  | [], acc, _, _ => rfl
  | c :: r, acc, hd, hv => by
    simp only [List.all_cons, Bool.and_eq_true] at hd
    have hc := hd.1
    unfold digB at hc
    simp only [decide_eq_true_eq] at hc
    have hge := valF_ge r (acc * 10 + (c.toNat - 48))
    have hv2 : valF (acc * 10 + (c.toNat - 48)) r < 18446744073709551616 := hv
    rw [parseUint10, if_pos hc, if_neg (by omega), if_neg (by omega)]
    exact parse_digits r _ hd.2 hv2
theorem nDigits_low (u : Nat) (hu : u ≠ 0) : 10 ^ (nDigits u - 1) ≤ u := by
  induction u using Nat.strongRecOn with
  | _ u ih =>
    by_cases h : u < 10
    · rw [nDigits_small h]
      show 10 ^ 0 ≤ u
      omega
    · have := ih (u / 10) (by omega) (by omega)
      have hp := nDigits_pos (u / 10)
      rw [nDigits_big h, Nat.add_sub_cancel]
      obtain ⟨k, hk⟩ : ∃ k, nDigits (u / 10) = k + 1 := ⟨nDigits (u / 10) - 1, by omega⟩
      rw [hk] at this ⊢
      rw [Nat.add_sub_cancel] at this
      rw [Nat.pow_succ]
      omega
theorem dec_short {u k : Nat} (hk : 1 ≤ k) (h : u < 10 ^ k) : (decDigits u).length ≤ k := by
  rw [decDigits_length]
  by_cases hu : u = 0
  · subst hu
    rw [nDigits_small (by omega)]
    exact hk
  · have h1 := nDigits_low u hu
    apply Classical.byContradiction
    intro hn
    have : 10 ^ k ≤ 10 ^ (nDigits u - 1) := Nat.pow_le_pow_right (by omega) (by omega)
    omega

/-- A numeral's first byte is no sign. -/
theorem dec_sign (u : Nat) : ∃ c r, decDigits u = c :: r ∧ c.toNat ≠ 43 ∧ c.toNat ≠ 45 := by
  cases h : decDigits u with
  | nil => exact absurd h (dec_ne u)
  | cons c r =>
    have := dec_all u
    rw [h] at this
    simp only [List.all_cons, Bool.and_eq_true] at this
    have hc := this.1
    unfold digB at hc
    simp only [decide_eq_true_eq] at hc
    exact ⟨c, r, rfl, by omega, by omega⟩
theorem mag_dec (u : Nat) (h : u < 18446744073709551616) : parseMag (decDigits u) = .ok u := by
  unfold parseMag
  rw [if_neg (dec_ne u), parse_digits _ _ (dec_all u) (by rw [val_dec]; exact h), val_dec]
theorem atoi_dec (u : Nat) (h : u < 9223372036854775808) : atoiAll (decDigits u) = .ok (u : Int) := by
  obtain ⟨c, r, hc, h1, h2⟩ := dec_sign u
  have hm := mag_dec u (by omega)
  rw [hc] at hm ⊢
  rw [atoiAll_plain c r h1 h2, hm]
  unfold signless
  simp only
  rw [if_neg (by omega)]
theorem atoi_neg (u : Nat) (h : u ≤ 9223372036854775808) : atoiAll (45 :: decDigits u) = .ok (-(u : Int)) := by
  rw [atoiAll_minus, mag_dec u (by omega)]
  unfold signed
  simp only
  rw [if_neg (by omega)]

/-- strconv.Atoi and back: what it takes and writes as it stood. -/
def roundL (l : List UInt8) : Option Int := match atoiAll l with
  | .ok v => if itoa v = l then some v else none
  | _ => none
def wholeL (l : List UInt8) : Option Int :=
  if l.head? = some 45 then
    if canonB (l.drop 1) = true ∧ (l.drop 1).length ≤ 19 ∧ l.drop 1 ≠ [48] ∧ valF 0 (l.drop 1) ≤ 9223372036854775808 then some (-(valF 0 (l.drop 1) : Int)) else none
  else if canonB l = true ∧ l.length ≤ 19 ∧ valF 0 l < 9223372036854775808 then some (valF 0 l : Int) else none
theorem whole_eq (l : List UInt8) : roundL l = wholeL l := by
  unfold wholeL
  by_cases hm : l.head? = some 45
  · rw [if_pos hm]
    obtain ⟨t, rfl⟩ : ∃ t, l = 45 :: t := by
      cases l with
      | nil => cases hm
      | cons c r => simp at hm; exact ⟨r, by rw [hm]⟩
    simp only [List.drop_succ_cons, List.drop_zero]
    by_cases hg : canonB t = true ∧ t.length ≤ 19 ∧ t ≠ [48] ∧ valF 0 t ≤ 9223372036854775808
    · obtain ⟨g1, g2, g3, g4⟩ := hg
      rw [if_pos ⟨g1, g2, g3, g4⟩]
      have hd := canon_dec g1
      have ha := atoi_neg (valF 0 t) g4
      rw [hd] at ha
      have h0 : valF 0 t ≠ 0 := fun h0 => g3 (by rw [← hd, h0]; exact dec_small (by omega))
      unfold roundL
      rw [ha]
      simp only
      rw [if_pos]
      unfold itoa
      rw [if_pos (by omega)]
      have : (-(valF 0 t : Int)).natAbs = valF 0 t := by omega
      rw [this, hd]
    · rw [if_neg hg]
      unfold roundL
      split
      · rename_i v hv
        rw [if_neg]
        intro hi
        apply hg
        have hb := atoiAll_bounds hv
        unfold itoa at hi
        split at hi
        · rename_i hneg
          simp only [List.cons.injEq, true_and] at hi
          have h1 : valF 0 t = v.natAbs := by rw [← hi, val_dec]
          have hk : v.natAbs < 10 ^ 19 := Nat.lt_of_le_of_lt (m := 9223372036854775808) (by omega) (by decide)
          refine ⟨by rw [← hi]; exact dec_canon _, by rw [← hi]; exact dec_short (by omega) hk, ?_, by omega⟩
          rintro rfl
          have : valF 0 [48] = 0 := rfl
          omega
        · obtain ⟨c, r, hc, _, h2⟩ := dec_sign v.toNat
          rw [hc] at hi
          simp only [List.cons.injEq] at hi
          exact absurd (congrArg UInt8.toNat hi.1) h2
      · rfl
  · rw [if_neg hm]
    by_cases hg : canonB l = true ∧ l.length ≤ 19 ∧ valF 0 l < 9223372036854775808
    · obtain ⟨g1, g2, g3⟩ := hg
      rw [if_pos ⟨g1, g2, g3⟩]
      have hd := canon_dec g1
      have ha := atoi_dec (valF 0 l) g3
      rw [hd] at ha
      unfold roundL
      rw [ha]
      simp only
      rw [if_pos]
      unfold itoa
      rw [if_neg (by omega), Int.toNat_natCast, hd]
    · rw [if_neg hg]
      unfold roundL
      split
      · rename_i v hv
        rw [if_neg]
        intro hi
        apply hg
        have hb := atoiAll_bounds hv
        unfold itoa at hi
        split at hi
        · rw [← hi] at hm
          exact absurd rfl hm
        · have h1 : valF 0 l = v.toNat := by rw [← hi, val_dec]
          have hk : v.toNat < 10 ^ 19 := Nat.lt_of_le_of_lt (m := 9223372036854775808) (by omega) (by decide)
          exact ⟨by rw [← hi]; exact dec_canon _, by rw [← hi]; exact dec_short (by omega) hk, by omega⟩
      · rfl
/-- A number up to a million. -/
def numL (l : List UInt8) : Option Int := match atoiAll l with
  | .ok v => if itoa v = l ∧ 0 ≤ v ∧ v ≤ 1000000 then some v else none
  | _ => none
theorem num_eq (l : List UInt8) : numL l = if canonB l = true ∧ l.length ≤ 7 ∧ valF 0 l ≤ 1000000 then some (valF 0 l : Int) else none := by
  by_cases hg : canonB l = true ∧ l.length ≤ 7 ∧ valF 0 l ≤ 1000000
  · obtain ⟨g1, g2, g3⟩ := hg
    rw [if_pos ⟨g1, g2, g3⟩]
    have hd := canon_dec g1
    have ha := atoi_dec (valF 0 l) (by omega)
    rw [hd] at ha
    unfold numL
    rw [ha]
    simp only
    rw [if_pos]
    refine ⟨?_, by omega, by omega⟩
    unfold itoa
    rw [if_neg (by omega), Int.toNat_natCast, hd]
  · rw [if_neg hg]
    unfold numL
    split
    · rename_i v hv
      rw [if_neg]
      rintro ⟨hi, h0, h1⟩
      apply hg
      unfold itoa at hi
      rw [if_neg (by omega)] at hi
      have h2 : valF 0 l = v.toNat := by rw [← hi, val_dec]
      have hk : v.toNat < 10 ^ 7 := Nat.lt_of_le_of_lt (m := 1000000) (by omega) (by decide)
      exact ⟨by rw [← hi]; exact dec_canon _, by rw [← hi]; exact dec_short (by omega) hk, by omega⟩
    · rfl
end Go.X
end

section
/- A run of digits: what the reference's loop comes to, and what strconv.ParseInt says of it. -/
namespace Go.X
open Go.Lib

theorem valF_cons (acc : Nat) (c : UInt8) (r : List UInt8) : valF acc (c :: r) = valF (acc * 10 + (c.toNat - 48)) r := by
  unfold valF
  rw [List.foldl_cons]
theorem valF_nil (acc : Nat) : valF acc [] = acc := rfl
theorem parse_range : ∀ (l : List UInt8) (acc : Nat), l.all digB = true → acc < 18446744073709551616 → 18446744073709551616 ≤ valF acc l → parseUint10 acc l = .range
  | [], acc, _, h1, h2 => by
    rw [valF_nil] at h2
    omega
  | c :: r, acc, hd, h1, h2 => by
    rw [valF_cons] at h2
    simp only [List.all_cons, Bool.and_eq_true] at hd
    have hc := hd.1
    unfold digB at hc
    simp only [decide_eq_true_eq] at hc
    rw [parseUint10, if_pos hc]
    by_cases ha : 1844674407370955162 ≤ acc
    · rw [if_pos ha]
    · rw [if_neg ha]
      by_cases hb : 18446744073709551616 ≤ acc * 10 + (c.toNat - 48)
      · rw [if_pos hb]
      · rw [if_neg hb]
        exact parse_range r _ hd.2 (by omega) h2
/-- strconv.ParseInt(digits, 10, 64). -/
theorem digits_parse (l : List UInt8) (hne : l ≠ []) (hd : l.all digB = true) : (match parseIntB 64 l with | .ok v => some v | _ => none) = if valF 0 l < 9223372036854775808 then some (valF 0 l : Int) else none := by
  rw [parseIntB_64]
  cases l with
  | nil => exact absurd rfl hne
  | cons c r =>
    have hc := hd
    simp only [List.all_cons, Bool.and_eq_true] at hc
    have hc := hc.1
    unfold digB at hc
    simp only [decide_eq_true_eq] at hc
    rw [atoiAll_plain c r (by omega) (by omega)]
    unfold parseMag
    rw [if_neg hne]
    by_cases hb : valF 0 (c :: r) < 18446744073709551616
    · rw [parse_digits _ _ hd hb]
      unfold signless
      simp only
      by_cases h63 : valF 0 (c :: r) < 9223372036854775808
      · rw [if_pos h63, if_neg (by omega)]
      · rw [if_neg h63, if_pos (by omega)]
    · rw [parse_range _ _ hd (by omega) (by omega), if_neg (by omega)]
      rfl
/-- The reference's loop: it stops where ten times what it has would pass an int64. -/
def loopD : List UInt8 → Nat → Option Nat
  | [], x => some x
  | c :: r, x => if 922337203685477580 < x then none else loopD r (10 * x + (c.toNat - 48))
theorem loop_val : ∀ (l : List UInt8) (x : Nat), ((loopD l x).bind fun y => if 9223372036854775807 < y then none else some y) = if valF x l < 9223372036854775808 then some (valF x l) else none
  | [], x => by
    show (if 9223372036854775807 < x then none else some x) = if x < 9223372036854775808 then some x else none
    by_cases h : x < 9223372036854775808
    · rw [if_neg (by omega), if_pos h]
    · rw [if_pos (by omega), if_neg h]
  | c :: r, x => by
    unfold loopD
    rw [valF_cons]
    by_cases h : 922337203685477580 < x
    · have := valF_ge r (x * 10 + (c.toNat - 48))
      rw [if_pos h, if_neg (by omega)]
      rfl
    · rw [if_neg h, loop_val r, Nat.mul_comm 10 x]
theorem loop_parse (l : List UInt8) (hne : l ≠ []) (hd : l.all digB = true) : (match parseIntB 64 l with | .ok v => some v | _ => none) = ((loopD l 0).bind fun y => if 9223372036854775807 < y then none else some y).map (fun y => (y : Int)) := by
  rw [digits_parse l hne hd, loop_val l 0]
  by_cases h : valF 0 l < 9223372036854775808
  · rw [if_pos h, if_pos h]; rfl
  · rw [if_neg h, if_neg h]; rfl
end Go.X
end

section
/- strings.Fields against strings.TrimSpace: the first byte that is no white space. -/
namespace Go.X
open Go.Lib

theorem seqs_pos : ∀ s ∈ spaceSeqs, 1 ≤ s.length := by decide
theorem head_some {l : List UInt8} {s : List UInt8} (hs : s ∈ spaceSeqs) (hp : s.isPrefixOf l = true) : headSpace l ≠ 0 := by
  unfold headSpace
  cases h : spaceSeqs.find? (·.isPrefixOf l) with
  | none => exact absurd hp (by simpa using List.find?_eq_none.1 h s hs)
  | some q =>
    have := seqs_pos q (List.mem_of_find?_eq_some h)
    simp only [Option.map_some, Option.getD_some]
    omega
theorem head_nil : headSpace [] = 0 := by decide
theorem head_le (l : List UInt8) : headSpace l ≤ l.length := by
  unfold headSpace
  cases h : spaceSeqs.find? (·.isPrefixOf l) with
  | none => simp
  | some q =>
    have hp : q.isPrefixOf l = true := by simpa using List.find?_some h
    have := (List.isPrefixOf_iff_prefix.1 hp).length_le
    simpa using this
theorem tail_cases (l : List UInt8) (h : tailSpace l ≠ 0) : ∃ s ∈ spaceSeqs, ∃ p, l = p ++ s ∧ tailSpace l = s.length := by
  unfold tailSpace at h ⊢
  cases hf : spaceSeqs.find? (·.isSuffixOf l) with
  | none => rw [hf] at h; exact absurd rfl h
  | some q =>
    have hp : q.isSuffixOf l = true := by simpa using List.find?_some hf
    obtain ⟨p, hp⟩ := List.isSuffixOf_iff_suffix.1 hp
    exact ⟨q, List.mem_of_find?_eq_some hf, p, hp.symm, rfl⟩
theorem stripR_head : ∀ (g : Nat) (l : List UInt8), l ≠ [] → headSpace l = 0 → stripR g l ≠ [] ∧ (stripR g l).head? = l.head?
  | 0, l, h, _ => ⟨h, rfl⟩
  | g + 1, l, h, h0 => by
    unfold stripR
    by_cases ht : tailSpace l = 0
    · rw [if_pos ht]; exact ⟨h, rfl⟩
    · rw [if_neg ht]
      obtain ⟨s, hs, p, rfl, hk⟩ := tail_cases l ht
      have e : (p ++ s).take ((p ++ s).length - tailSpace (p ++ s)) = p := by
        rw [hk, List.length_append, Nat.add_sub_cancel, List.take_left']
        rfl
      rw [e]
      have hp : p ≠ [] := by
        rintro rfl
        exact head_some hs (List.isPrefixOf_iff_prefix.2 (by simp)) h0
      have hp0 : headSpace p = 0 := by
        apply Classical.byContradiction
        intro hne
        unfold headSpace at hne
        cases hf : spaceSeqs.find? (·.isPrefixOf p) with
        | none => rw [hf] at hne; exact hne rfl
        | some q =>
          have hq : q.isPrefixOf p = true := by simpa using List.find?_some hf
          exact head_some (List.mem_of_find?_eq_some hf) (List.isPrefixOf_iff_prefix.2 ((List.isPrefixOf_iff_prefix.1 hq).trans (List.prefix_append _ _))) h0
      obtain ⟨h1, h2⟩ := stripR_head g p hp hp0
      refine ⟨h1, h2.trans ?_⟩
      cases p with
      | nil => exact absurd rfl hp
      | cons _ _ => rfl
theorem stripR_nil (g : Nat) : stripR g [] = [] := by
  cases g with
  | zero => rfl
  | succ g => unfold stripR; rw [if_pos (by decide)]
theorem fields_cur : ∀ (f : Nat) (cur l : List UInt8), cur ≠ [] → fieldsGoU f cur l ≠ [] ∧ (fieldsGoU f cur l).head?.bind List.head? = cur.head?
  | 0, cur, l, h => by
    unfold fieldsGoU
    rw [if_neg h]
    exact ⟨by simp, rfl⟩
  | f + 1, cur, [], h => by
    unfold fieldsGoU
    rw [if_neg h]
    exact ⟨by simp, rfl⟩
  | f + 1, cur, b :: t, h => by
    unfold fieldsGoU
    by_cases hs : headSpace (b :: t) = 0
    · rw [if_pos hs]
      obtain ⟨h1, h2⟩ := fields_cur f (cur ++ [b]) t (by simp)
      refine ⟨h1, h2.trans ?_⟩
      cases cur with
      | nil => exact absurd rfl h
      | cons _ _ => rfl
    · rw [if_neg hs, if_neg h]
      exact ⟨by simp, rfl⟩
theorem fields_strip : ∀ (f : Nat) (l : List UInt8), l.length < f → ∀ g, l.length ≤ g → (fieldsGoU f [] l = [] ↔ stripL g l = []) ∧ (fieldsGoU f [] l).head?.bind List.head? = (stripL g l).head? ∧ (stripL g l = [] ∨ headSpace (stripL g l) = 0)
  | 0, l, h, _, _ => absurd h (Nat.not_lt_zero _)
  | f + 1, [], h, g, hg => by
    have e : stripL g [] = [] := by
      cases g with
      | zero => rfl
      | succ g => unfold stripL; rw [if_pos head_nil]
    rw [e]
    unfold fieldsGoU
    exact ⟨by simp, by simp, .inl rfl⟩
  | f + 1, b :: t, h, g, hg => by
    obtain ⟨g', rfl⟩ : ∃ g', g = g' + 1 := ⟨g - 1, by simp at hg; omega⟩
    unfold fieldsGoU stripL
    by_cases hs : headSpace (b :: t) = 0
    · rw [if_pos hs, if_pos hs]
      obtain ⟨h1, h2⟩ := fields_cur f ([] ++ [b]) t (by simp)
      refine ⟨⟨fun he => absurd he h1, fun he => by cases he⟩, h2.trans rfl, .inr hs⟩
    · rw [if_neg hs, if_neg hs, if_pos rfl, List.nil_append]
      have hl : ((b :: t).drop (headSpace (b :: t))).length < (b :: t).length := by
        rw [List.length_drop]
        simp only [List.length_cons]
        omega
      simp only [List.length_cons] at h hg hl
      exact fields_strip f _ (by omega) g' (by omega)
theorem first_word (l : List UInt8) : (fieldsD l = [] ↔ trimSpaceD l = []) ∧ (fieldsD l).head?.bind List.head? = (trimSpaceD l).head? := by
  rw [← fieldsU_eq, ← trimSpaceU_eq]
  unfold fieldsU trimSpaceU
  obtain ⟨h1, h2, h3⟩ := fields_strip (l.length + 1) l (Nat.lt_succ_self _) l.length (Nat.le_refl _)
  by_cases he : stripL l.length l = []
  · rw [he, stripR_nil]
    rw [he] at h1 h2
    exact ⟨by simpa using h1, h2⟩
  · obtain ⟨k1, k2⟩ := stripR_head l.length _ he (h3.resolve_left he)
    exact ⟨⟨fun hf => absurd (h1.1 hf) he, fun hf => absurd hf k1⟩, h2.trans k2.symm⟩
end Go.X
end

section
/- The reference's test of a line that says nothing, against script.Parse's. -/
namespace Go.X
open Go.Lib

/-- No word, or the first begins with a semicolon. -/
def restsB (l : List UInt8) : Bool := match fieldsD l with
  | [] => true
  | x :: _ => decide (x.head? = some 59)
theorem rests_eq (l : List UInt8) : restsB l = ((trimSpaceD l).isEmpty || decide ((trimSpaceD l).head? = some 59)) := by
  obtain ⟨h1, h2⟩ := first_word l
  unfold restsB
  cases hf : fieldsD l with
  | nil =>
    rw [h1.1 hf]
    rfl
  | cons x r =>
    rw [hf] at h2
    have h2 : x.head? = (trimSpaceD l).head? := h2
    have hne : trimSpaceD l ≠ [] := fun he => by
      have := h1.2 he
      rw [hf] at this
      cases this
    have he : (trimSpaceD l).isEmpty = false := by
      cases ht : trimSpaceD l with
      | nil => exact absurd ht hne
      | cons _ _ => rfl
    rw [he, Bool.false_or]
    simp only [h2]
end Go.X
end

section
/- Words with gaps between: strings.Fields gives the words. -/
namespace Go.X
open Go.Lib

def plainB (b : UInt8) : Bool := decide (33 ≤ b.toNat ∧ b.toNat ≤ 126)
def gapB (b : UInt8) : Bool := b == 32 || b == 9
theorem seqs_heads : (spaceSeqs.all fun s => match s with | [] => false | x :: _ => !plainB x) = true := by decide
theorem head_plain {b : UInt8} (t : List UInt8) (h : plainB b = true) : headSpace (b :: t) = 0 := by
  unfold headSpace
  have hn : spaceSeqs.find? (·.isPrefixOf (b :: t)) = none := by
    rw [List.find?_eq_none]
    intro s hs hp
    have h1 := List.all_eq_true.1 seqs_heads s hs
    cases s with
    | nil => cases h1
    | cons x r =>
      simp only [List.isPrefixOf, Bool.and_eq_true, beq_iff_eq] at hp
      have h2 : (!plainB x) = true := h1
      rw [hp.1, h] at h2
      cases h2
  rw [hn]
  rfl
theorem head_gap {b : UInt8} (t : List UInt8) (h : gapB b = true) : headSpace (b :: t) = 1 := by
  unfold gapB at h
  simp only [Bool.or_eq_true, beq_iff_eq] at h
  rcases h with rfl | rfl <;> rfl
/-- Each word with the gap ahead of it. -/
def tailG (gap : List UInt8) : List (List UInt8) → List UInt8
  | [] => []
  | w :: r => gap ++ (w ++ tailG gap r)
theorem go_word : ∀ (w : List UInt8) (f : Nat) (cur rest : List UInt8), w.all plainB = true → fieldsGoU (f + w.length) cur (w ++ rest) = fieldsGoU f (cur ++ w) rest
  | [], f, cur, rest, _ => by simp
  | b :: w, f, cur, rest, h => by
    simp only [List.all_cons, Bool.and_eq_true] at h
    rw [List.length_cons, ← Nat.add_assoc, List.cons_append]
    rw [fieldsGoU, if_pos (head_plain _ h.1), go_word w f _ _ h.2, List.append_assoc]
    rfl
theorem go_gap0 : ∀ (g : List UInt8) (f : Nat) (rest : List UInt8), g.all gapB = true → fieldsGoU (f + g.length) [] (g ++ rest) = fieldsGoU f [] rest
  | [], f, rest, _ => rfl
  | b :: g, f, rest, h => by
    simp only [List.all_cons, Bool.and_eq_true] at h
    rw [List.length_cons, ← Nat.add_assoc, List.cons_append]
    rw [fieldsGoU, head_gap _ h.1, if_neg (by omega), if_pos rfl]
    exact go_gap0 g f rest h.2
theorem go_gap (g : List UInt8) (f : Nat) (cur rest : List UInt8) (hg : g ≠ []) (h : g.all gapB = true) (hc : cur ≠ []) : fieldsGoU (f + g.length) cur (g ++ rest) = cur :: fieldsGoU f [] rest := by
  cases g with
  | nil => exact absurd rfl hg
  | cons b g =>
    simp only [List.all_cons, Bool.and_eq_true] at h
    rw [List.length_cons, ← Nat.add_assoc, List.cons_append]
    rw [fieldsGoU, head_gap _ h.1, if_neg (by omega), if_neg hc]
    exact congrArg (cur :: ·) (go_gap0 g f rest h.2)
theorem go_tail (g : List UInt8) (hg : g ≠ []) (h : g.all gapB = true) : ∀ (ws : List (List UInt8)) (f : Nat) (cur : List UInt8), cur ≠ [] → (∀ w ∈ ws, w ≠ [] ∧ w.all plainB = true) → (tailG g ws).length < f → fieldsGoU f cur (tailG g ws) = cur :: ws
  | [], f, cur, hc, _, hf => by
    obtain ⟨f', rfl⟩ : ∃ f', f = f' + 1 := ⟨f - 1, by simp [tailG] at hf; omega⟩
    show (if cur = [] then [] else [cur]) = [cur]
    rw [if_neg hc]
  | w :: r, f, cur, hc, hw, hf => by
    have hw0 := hw w (by simp)
    have hl : (tailG g (w :: r)).length = g.length + (w.length + (tailG g r).length) := by simp [tailG]
    obtain ⟨f', rfl⟩ : ∃ f', f = (f' + w.length) + g.length := ⟨f - g.length - w.length, by omega⟩
    show fieldsGoU _ cur (g ++ (w ++ tailG g r)) = _
    rw [go_gap g _ cur _ hg h hc, go_word w f' [] _ hw0.2, List.nil_append, go_tail g hg h r f' w hw0.1 (fun x hx => hw x (by simp [hx])) (by omega)]
/-- A line of words. -/
theorem fields_line (g : List UInt8) (hg : g ≠ []) (h : g.all gapB = true) (w : List UInt8) (ws : List (List UInt8)) (hw : w ≠ [] ∧ w.all plainB = true) (hs : ∀ x ∈ ws, x ≠ [] ∧ x.all plainB = true) : fieldsD (w ++ tailG g ws) = w :: ws := by
  rw [← fieldsU_eq]
  unfold fieldsU
  rw [List.length_append, show w.length + (tailG g ws).length + 1 = ((tailG g ws).length + 1) + w.length by omega, go_word w _ [] _ hw.2, List.nil_append]
  exact go_tail g hg h ws _ w hw.1 hs (by omega)
end Go.X
end

section
/- strings.ReplaceAll of one byte by nothing: the other bytes. -/
namespace Go.X
open Go.Lib

theorem index_feed (c : UInt8) : ∀ s : List UInt8, (index s [c] = -1 ∧ c ∉ s) ∨ ∃ i : Nat, index s [c] = (i : Int) ∧ s.filter (· != c) = s.take i ++ (s.drop (i + 1)).filter (· != c) ∧ s.count c = 1 + (s.drop (i + 1)).count c
  | [] => .inl ⟨by rw [index_one]; rfl, by simp⟩
  | b :: l => by
    by_cases h : b = c
    · subst h
      refine .inr ⟨0, ?_, ?_, ?_⟩
      · rw [index_one]
        simp [indexByte]
      · simp
      · simp [Nat.add_comm]
    · have hb : (b == c) = false := by simpa using h
      rcases index_feed c l with ⟨h1, h2⟩ | ⟨i, h1, h2, h3⟩
      · rw [index_one] at h1
        refine .inl ⟨?_, ?_⟩
        · rw [index_one, indexByte, hb, h1]
          rfl
        · intro hm
          rcases List.mem_cons.1 hm with e | e
          · exact h e.symm
          · exact h2 e
      · rw [index_one] at h1
        refine .inr ⟨i + 1, ?_, ?_, ?_⟩
        · rw [index_one, indexByte, hb, h1]
          have hi : ((i : Int) == -1) = false := by simp only [beq_eq_false_iff_ne]; omega
          rw [hi]
          simp
        · rw [List.filter_cons_of_pos (by simpa using h), h2]
          simp
        · rw [List.count_cons_of_ne (by simpa using h), h3]
          simp
theorem replaceK_feed (c : UInt8) : ∀ (k : Nat) (s : List UInt8), s.count c ≤ k → replaceK [c] [] k s = s.filter (· != c)
  | 0, s, h => by
    rw [replaceK, List.filter_eq_self.2]
    intro x hx
    simp only [bne_iff_ne, ne_eq]
    rintro rfl
    have := List.count_pos_iff.2 hx
    omega
  | k + 1, s, h => by
    rcases index_feed c s with ⟨h1, h2⟩ | ⟨i, h1, h2, h3⟩
    · rw [replaceK, h1, if_pos (by rfl), List.filter_eq_self.2]
      intro x hx
      simp only [bne_iff_ne, ne_eq]
      rintro rfl
      exact h2 hx
    · rw [replaceK_hit _ _ _ _ _ h1, h2, List.append_nil, List.length_singleton, replaceK_feed c k (s.drop (i + 1)) (by omega)]
theorem replaceAll_feed (c : UInt8) (s : List UInt8) : replaceAll s [c] [] = s.filter (· != c) := by
  unfold replaceAll replace
  rw [if_neg (by simp)]
  unfold replaceNum
  rw [if_pos (.inl (by decide))]
  exact replaceK_feed c _ s (by rw [Go.Lib.count_one]; exact Nat.le_refl _)

theorem joinTail_snoc (sep : List UInt8) (r : List (List UInt8)) (x : List UInt8) : joinTail sep (r ++ [x]) = joinTail sep r ++ (sep ++ x) := by simp [joinTail]
theorem join_snoc (sep : List UInt8) (r : List (List UInt8)) (x : List UInt8) (h : r ≠ []) : join (r ++ [x]) sep = join r sep ++ (sep ++ x) := by
  cases r with
  | nil => exact absurd rfl h
  | cons y r => rw [List.cons_append, join_cons, join_cons, joinTail_snoc, List.append_assoc]
theorem join_bare : ∀ r : List (List UInt8), join r [] = r.flatten
  | [] => rfl
  | x :: r => by
    rw [join_cons, List.flatten_cons]
    congr 1
    unfold joinTail
    congr 1
    exact (List.map_congr_left (fun a _ => List.nil_append a)).trans (List.map_id _)
theorem tail_snoc (g : List UInt8) : ∀ (ws : List (List UInt8)) (w : List UInt8), joinTail g (ws ++ [w]) = joinTail g ws ++ (g ++ w) := fun ws w => joinTail_snoc g ws w
end Go.X
end

section
/- What the reference's loops over digits and runs of bytes come to. -/
namespace Go.X
open Go.Lib

theorem valF_bound : ∀ (l : List UInt8) (acc : Nat), l.all digB = true → valF acc l + 1 ≤ (acc + 1) * 10 ^ l.length
  | [], acc, _ => by rw [valF_nil]; simp
  | c :: r, acc, hd => by
    simp only [List.all_cons, Bool.and_eq_true] at hd
    have hc := hd.1
    unfold digB at hc
    simp only [decide_eq_true_eq] at hc
    rw [valF_cons]
    refine Nat.le_trans (valF_bound r _ hd.2) ?_
    rw [List.length_cons, Nat.pow_succ, Nat.mul_comm (10 ^ r.length) 10, ← Nat.mul_assoc]
    exact Nat.mul_le_mul_right _ (by omega)
theorem valF_lt (l : List UInt8) (n : Nat) (hd : l.all digB = true) (hn : l.length ≤ n) : valF 0 l + 1 ≤ 10 ^ n := by
  have h := valF_bound l 0 hd
  rw [Nat.zero_add, Nat.one_mul] at h
  exact Nat.le_trans h (Nat.pow_le_pow_right (by omega) hn)
theorem valF_take {l : List UInt8} {k : Nat} {c : UInt8} (h : l[k]? = some c) (acc : Nat) : valF acc (l.take (k + 1)) = valF acc (l.take k) * 10 + (c.toNat - 48) := by
  rw [List.take_add_one, h, valF_app]
  rfl
theorem all_take {l : List UInt8} {k : Nat} {c : UInt8} (h : l[k]? = some c) (hc : digB c = true) (ha : (l.take k).all digB = true) : (l.take (k + 1)).all digB = true := by
  rw [List.take_add_one, h, List.all_append, ha]
  simp [hc]
theorem all_not {l : List UInt8} {k : Nat} {c : UInt8} (h : l[k]? = some c) (hc : digB c = false) : l.all digB = false := by
  rw [List.all_eq_false]
  exact ⟨c, List.mem_of_getElem? h, by simp [hc]⟩
theorem canon_not {l : List UInt8} (h : l.all digB = false) : ¬ canonB l = true := by
  intro hc
  have := (canon_parts hc).2.1
  rw [h] at this
  cases this
theorem canon_nought {l : List UInt8} (h1 : 1 < l.length) (h2 : l.head? = some 48) : ¬ canonB l = true := fun hc => (canon_parts hc).2.2 h1 h2
theorem canon_nil : ¬ canonB [] = true := by decide
theorem canon_mk {l : List UInt8} (h1 : l ≠ []) (h2 : 1 < l.length → l.head? ≠ some 48) (hd : l.all digB = true) : canonB l = true := by
  unfold canonB
  rw [hd]
  have h3 : l.isEmpty = false := by
    cases l with
    | nil => exact absurd rfl h1
    | cons _ _ => rfl
  rw [h3]
  by_cases hl : 1 < l.length
  · simp [h2 hl]
  · simp [hl]

/-- The reference's digits: below nought where there is no number. -/
def digitsR (l : List UInt8) : Int := if canonB l = true ∧ l.length ≤ 7 ∧ valF 0 l ≤ 1000000 then (valF 0 l : Int) else -1
theorem digits_nil : digitsR [] = -1 := by unfold digitsR; rw [if_neg (fun h => canon_nil h.1)]
theorem digits_long {l : List UInt8} (h : 7 < l.length) : digitsR l = -1 := by unfold digitsR; rw [if_neg (fun h' => by omega)]
theorem digits_nought {l : List UInt8} (h1 : 1 < l.length) (h2 : l.head? = some 48) : digitsR l = -1 := by unfold digitsR; rw [if_neg (fun h => canon_nought h1 h2 h.1)]
theorem digits_other {l : List UInt8} {k : Nat} {c : UInt8} (h : l[k]? = some c) (hc : digB c = false) : digitsR l = -1 := by unfold digitsR; rw [if_neg (fun h' => canon_not (all_not h hc) h'.1)]
theorem digits_end {l : List UInt8} (h1 : l ≠ []) (h2 : l.length ≤ 7) (h3 : 1 < l.length → l.head? ≠ some 48) (hd : l.all digB = true) : digitsR l = if valF 0 l ≤ 1000000 then (valF 0 l : Int) else -1 := by
  unfold digitsR
  by_cases h : valF 0 l ≤ 1000000
  · rw [if_pos h, if_pos ⟨canon_mk h1 h3 hd, h2, h⟩]
  · rw [if_neg h, if_neg (fun h' => h h'.2.2)]

/-- A whole number, its sign taken off. -/
def wholeT (minus : Bool) (t : List UInt8) : Option Int :=
  if minus = true then
    if canonB t = true ∧ t.length ≤ 19 ∧ t ≠ [48] ∧ valF 0 t ≤ 9223372036854775808 then some (-(valF 0 t : Int)) else none
  else if canonB t = true ∧ t.length ≤ 19 ∧ valF 0 t < 9223372036854775808 then some (valF 0 t : Int) else none
theorem prefix_head (l : List UInt8) (c : UInt8) : hasPrefix l [c] = true ↔ l.head? = some c := by
  unfold hasPrefix
  cases l with
  | nil => simp
  | cons x r =>
    simp only [List.isPrefixOf, Bool.and_true, beq_iff_eq, List.head?_cons, Option.some.injEq]
    exact eq_comm
theorem wholeT_eq (l : List UInt8) : wholeL l = wholeT (hasPrefix l [45]) (trimPrefix l [45]) := by
  unfold wholeL wholeT trimPrefix
  by_cases h : l.head? = some 45
  · rw [if_pos h, (prefix_head l 45).2 h, if_pos rfl, if_pos rfl]
    rfl
  · have h' : hasPrefix l [45] = false := by
      cases hp : hasPrefix l [45] with
      | false => rfl
      | true => exact absurd ((prefix_head l 45).1 hp) h
    have hf : ¬ (false = true) := by decide
    simp only [if_neg h, h', if_neg hf]
theorem whole_not {m : Bool} {t : List UInt8} (h : ¬ (canonB t = true ∧ t.length ≤ 19)) : wholeT m t = none := by
  unfold wholeT
  cases m with
  | true => rw [if_pos rfl, if_neg (fun h' => h ⟨h'.1, h'.2.1⟩)]
  | false => rw [if_neg (by simp), if_neg (fun h' => h ⟨h'.1, h'.2.1⟩)]
theorem whole_nil {m : Bool} : wholeT m [] = none := whole_not (fun h => canon_nil h.1)
theorem whole_long {m : Bool} {t : List UInt8} (h : 19 < t.length) : wholeT m t = none := whole_not (fun h' => by omega)
theorem whole_nought {m : Bool} {t : List UInt8} (h1 : 1 < t.length) (h2 : t.head? = some 48) : wholeT m t = none := whole_not (fun h => canon_nought h1 h2 h.1)
theorem whole_other {m : Bool} {t : List UInt8} {k : Nat} {c : UInt8} (h : t[k]? = some c) (hc : digB c = false) : wholeT m t = none := whole_not (fun h' => canon_not (all_not h hc) h'.1)
theorem whole_zero : wholeT true [48] = none := by unfold wholeT; rw [if_pos rfl, if_neg (fun h => h.2.2.1 rfl)]
theorem whole_minus {t : List UInt8} (h1 : t ≠ []) (h2 : t.length ≤ 19) (h3 : 1 < t.length → t.head? ≠ some 48) (h4 : t ≠ [48]) (hd : t.all digB = true) : wholeT true t = if valF 0 t ≤ 9223372036854775808 then some (-(valF 0 t : Int)) else none := by
  unfold wholeT
  rw [if_pos rfl]
  by_cases h : valF 0 t ≤ 9223372036854775808
  · rw [if_pos h, if_pos ⟨canon_mk h1 h3 hd, h2, h4, h⟩]
  · rw [if_neg h, if_neg (fun h' => h h'.2.2.2)]
theorem whole_plain {t : List UInt8} (h1 : t ≠ []) (h2 : t.length ≤ 19) (h3 : 1 < t.length → t.head? ≠ some 48) (hd : t.all digB = true) : wholeT false t = if valF 0 t < 9223372036854775808 then some (valF 0 t : Int) else none := by
  unfold wholeT
  rw [if_neg (by simp)]
  by_cases h : valF 0 t < 9223372036854775808
  · rw [if_pos h, if_pos ⟨canon_mk h1 h3 hd, h2, h⟩]
  · rw [if_neg h, if_neg (fun h' => h h'.2.2)]

theorem dropB_at {l : List UInt8} {k : Nat} {c : UInt8} (hk : l[k]? = some c) : l.drop k = c :: l.drop (k + 1) := by
  obtain ⟨h, rfl⟩ := List.getElem?_eq_some_iff.1 hk
  exact List.drop_eq_getElem_cons h
/-- How many bytes at the beginning are so. -/
def runB (p : UInt8 → Bool) (l : List UInt8) : Nat := (l.takeWhile p).length
def inB (set : List UInt8) (c : UInt8) : Bool := decide (0 ≤ indexByte set c)
theorem runB_drop {p : UInt8 → Bool} {l : List UInt8} {k : Nat} {c : UInt8} (hk : l[k]? = some c) (h : p c = true) : runB p (l.drop k) = runB p (l.drop (k + 1)) + 1 := by
  rw [dropB_at hk]
  unfold runB
  rw [List.takeWhile_cons_of_pos h]
  rfl
theorem runB_stop {p : UInt8 → Bool} {l : List UInt8} {k : Nat} {c : UInt8} (hk : l[k]? = some c) (h : p c = false) : runB p (l.drop k) = 0 := by
  rw [dropB_at hk]
  unfold runB
  rw [List.takeWhile_cons_of_neg (by simp [h])]
  rfl
theorem runB_congr {p q : UInt8 → Bool} (h : ∀ c, p c = q c) (l : List UInt8) : runB p l = runB q l := by
  have : p = q := funext h
  rw [this]
theorem bytes_all {p q : UInt8 → Bool} (h : (List.range 256).all (fun n => p (UInt8.ofNat n) == q (UInt8.ofNat n)) = true) (c : UInt8) : p c = q c := by
  have := List.all_eq_true.1 h c.toNat (List.mem_range.2 c.toNat_lt)
  rw [UInt8.ofNat_toNat] at this
  exact beq_iff_eq.1 this
theorem index_run (c : UInt8) : ∀ l : List UInt8, indexByte l c = if runB (fun x => x != c) l = l.length then -1 else ((runB (fun x => x != c) l : Nat) : Int)
  | [] => rfl
  | b :: l => by
    have ih := index_run c l
    unfold indexByte
    by_cases hb : b = c
    · subst hb
      have : runB (fun x => x != b) (b :: l) = 0 := by
        unfold runB
        rw [List.takeWhile_cons_of_neg (by simp)]
        rfl
      rw [this, if_pos (by simp), if_neg (by simp)]
      rfl
    · have hr : runB (fun x => x != c) (b :: l) = runB (fun x => x != c) l + 1 := by
        unfold runB
        rw [List.takeWhile_cons_of_pos (by simpa using hb)]
        rfl
      rw [hr, if_neg (by simpa using hb), List.length_cons, ih]
      by_cases he : runB (fun x => x != c) l = l.length
      · rw [if_pos he, if_pos (show ((-1 : Int) == -1) = true from rfl), if_pos (by omega)]
      · rw [if_neg he, if_neg (by simp only [beq_iff_eq]; omega), if_neg (by omega)]
        omega
theorem runB_le (p : UInt8 → Bool) (l : List UInt8) : runB p l ≤ l.length := (List.takeWhile_sublist _).length_le
end Go.X
end

section
/- A reckoner for Go code over named memory: definitions alone. -/
namespace Go.X

/-! ## A trie over the naturals -/

inductive Tr (α : Type) where
  | nil : Tr α
  | node (l : Tr α) (x : Option α) (r : Tr α) : Tr α

noncomputable section
variable {α β : Type}

def bel (b : Bool) (t f : β) : β := Bool.rec (motive := fun _ => β) f t b
def oel (o : Option α) (s : α → β) (n : β) : β := Option.rec (motive := fun _ => β) n s o
def nel (k : Nat) (z : β) (s : Nat → β) : β := Nat.rec (motive := fun _ => β) z (fun m _ => s m) k
def even (k : Nat) (e o : β) : β := bel (Nat.beq (Nat.mod k 2) 0) e o

def Tr.getNode (x : Option α) (gl gr : Nat → Option α) (k : Nat) : Option α :=
  nel k x fun k => even k (gl (Nat.div k 2)) (gr (Nat.div k 2))
def Tr.get (t : Tr α) (k : Nat) : Option α :=
  Tr.rec (motive := fun _ => Nat → Option α) (fun _ => none) (fun _ x _ gl gr => Tr.getNode x gl gr) t k

def Tr.setNil (ih : Tr α → Nat → (Tr α → β) → β) (v : Option α) (k : Nat) (c : Tr α → β) : β :=
  nel k (c (.node .nil v .nil))
    fun k => even k (ih .nil (Nat.div k 2) fun l => c (.node l none .nil)) (ih .nil (Nat.div k 2) fun r => c (.node .nil none r))
def Tr.setNode (ih : Tr α → Nat → (Tr α → β) → β) (v : Option α) (k : Nat) (c : Tr α → β) (l : Tr α) (x : Option α) (r : Tr α) : β :=
  nel k (c (.node l v r))
    fun k => even k (ih l (Nat.div k 2) fun l => c (.node l x r)) (ih r (Nat.div k 2) fun r => c (.node l x r))
def Tr.setStep (v : Option α) (ih : Tr α → Nat → (Tr α → β) → β) (t : Tr α) (k : Nat) (c : Tr α → β) : β :=
  Tr.rec (motive := fun _ => β) (Tr.setNil ih v k c) (fun l x r _ _ => Tr.setNode ih v k c l x r) t
/-- The trie with 'v' at k is handed on, worked out. (f: more than k's length.) -/
def Tr.setF (f : Nat) (t : Tr α) (k : Nat) (v : Option α) (c : Tr α → β) : β :=
  Nat.rec (motive := fun _ => Tr α → Nat → (Tr α → β) → β) (fun t _ c => c t) (fun _ ih => Tr.setStep v ih) f t k c
def Tr.setK (t : Tr α) (k : Nat) (v : Option α) (c : Tr α → β) : β := Tr.setF (Nat.succ k) t k v c
def Tr.set (t : Tr α) (k : Nat) (v : Option α) : Tr α := Tr.setK t k v fun t => t

def nth (l : List α) (n : Nat) : Option α :=
  List.rec (motive := fun _ => Nat → Option α) (fun _ => none) (fun a _ ih n => nel n (some a) ih) l n
end

/-! ## Values and rows -/

inductive Cap where
  | ex (c : Nat)
  | up (e : Nat)

inductive V where
  | bool (b : Bool)
  | int (k : IntKind) (n : Int)
  | str (l n : Nat)
  | ptr (b off : Nat)
  | nilp
  | sl (b off len : Nat) (c : Cap)
  | nils
  | map (b : Nat)
  | nilm
  | fn (f : FuncId) (first captured : List V)
  | nilf
  | iface (t : TypeId) (v : V)
  | nili
  | agg (l : List V)
  | tup (l : List V)
  deriving Inhabited

def undefV : V := .tup []

inductive Blk where
  | cells (ty : TypeId) (ch n fz : Nat) (els : Tr (List V))
  | map (es : List (V × V × Nat)) (clock : Nat)
  | lmap (es : List (V × V))                                   -- one that is only read, in whatever order
  | miter (m : Option Nat) (since : Nat) (seen : List Nat)

abbrev Hp := Tr Blk
abbrev Env := Tr V

noncomputable section
variable {α β : Type}

/-! ### Strings: their bytes in a number, the first one lowest -/
def packL (l : List UInt8) : Nat := List.rec (motive := fun _ => Nat) 0 (fun b _ ih => Nat.add b.toNat (Nat.mul 256 ih)) l
def byteAt (n i : Nat) : Nat := Nat.mod (Nat.shiftRight n (Nat.mul 8 i)) 256

def V.sel (fb : Bool → β) (fi : IntKind → Int → β) (fs : Nat → Nat → β) (fp : Nat → Nat → β) (fnp : β) (fsl : Nat → Nat → Nat → Cap → β)
    (fns : β) (fm : Nat → β) (fnm : β) (ff : FuncId → List V → List V → β) (fnf : β) (fif : TypeId → V → β) (fni : β) (fa : List V → β) (ft : List V → β) (v : V) : β :=
  V.rec (motive_1 := fun _ => β) (motive_2 := fun _ => PUnit) fb fi fs fp fnp fsl fns fm fnm (fun f a b _ _ => ff f a b) fnf (fun t v _ => fif t v) fni (fun l _ => fa l) (fun l _ => ft l) ⟨⟩ (fun _ _ _ _ => ⟨⟩) v

/-- A constant's cells; a constant. -/
def ofCell : Value → Option V
  | .bool b => some (.bool b)
  | .int k n => some (.int k n)
  | .string s => some (.str s.data.toList.length (packL s.data.toList))
  | .pointer none => some .nilp
  | .slice none 0 0 => some .nils
  | .map none => some .nilm
  | .nilFunc => some .nilf
  | .nilIface => some .nili
  | _ => none
def ofCells : List Value → Option (List V)
  | [] => some []
  | c :: r => match ofCell c, ofCells r with
    | some v, some l => some (v :: l)
    | _, _ => none
def ofValue : Value → Option V
  | .agg cs => match ofCells cs.toList with | some l => some (.agg l) | none => none
  | v => ofCell v

def one (v : V) : Option (List V) := some [v]
/-- A value's cells; none of several results. -/
def cellsOf (v : V) : Option (List V) := V.sel (fun b => one (.bool b)) (fun k n => one (.int k n)) (fun l n => one (.str l n)) (fun b o => one (.ptr b o)) (one .nilp) (fun b o l c => one (.sl b o l c))
  (one .nils) (fun b => one (.map b)) (one .nilm) (fun f a b => one (.fn f a b)) (one .nilf) (fun t v => one (.iface t v)) (one .nili) (fun l => some l) (fun _ => none) v

/-! ### Working out -/
def forceN (n : Nat) (c : Nat → β) : β := nel n (c 0) fun m => c (Nat.succ m)
def forceI (n : Int) (c : Int → β) : β := Int.rec (motive := fun _ => β) (fun m => forceN m fun m => c (.ofNat m)) (fun m => forceN m fun m => c (.negSucc m)) n
def forceB (b : Bool) (c : Bool → β) : β := bel b (c true) (c false)
def forceC (x : Cap) (c : Cap → β) : β := Cap.rec (motive := fun _ => β) (fun m => forceN m fun m => c (.ex m)) (fun m => forceN m fun m => c (.up m)) x
def fvB (b : Bool) (c : V → β) : β := forceB b fun b => c (.bool b)
def fvI (k : IntKind) (n : Int) (c : V → β) : β := forceI n fun n => c (.int k n)
def fvS (l n : Nat) (c : V → β) : β := forceN l fun l => forceN n fun n => c (.str l n)
def fvP (b o : Nat) (c : V → β) : β := forceN b fun b => forceN o fun o => c (.ptr b o)
def fvL (b o l : Nat) (x : Cap) (c : V → β) : β := forceN b fun b => forceN o fun o => forceN l fun l => forceC x fun x => c (.sl b o l x)
def fvM (b : Nat) (c : V → β) : β := forceN b fun b => c (.map b)
def fvF (f : FuncId) (a b : List V) (c : V → β) : β := c (.fn f a b)
def fvIf (t : TypeId) (v : V) (c : V → β) : β := c (.iface t v)
def fvA (l : List V) (c : V → β) : β := c (.agg l)
def fvT (l : List V) (c : V → β) : β := c (.tup l)
def forceV (v : V) (c : V → β) : β :=
  V.sel fvB fvI fvS fvP (fun c => c .nilp) fvL (fun c => c .nils) fvM (fun c => c .nilm) fvF (fun c => c .nilf) fvIf (fun c => c .nili) fvA fvT v c
def forceLs (v : V) (ih : (List V → β) → β) (c : List V → β) : β := forceV v fun v => ih fun r => c (v :: r)
def forceL (l : List V) (c : List V → β) : β := List.rec (motive := fun _ => (List V → β) → β) (fun c => c []) (fun v _ ih => forceLs v ih) l c
def fwA (l : List V) (c : V → β) : β := forceL l fun l => c (.agg l)
def forceU (v : V) (c : V → β) : β :=
  V.sel fvB fvI fvS fvP (fun c => c .nilp) fvL (fun c => c .nils) fvM (fun c => c .nilm) fvF (fun c => c .nilf) fvIf (fun c => c .nili) fwA fvT v c
def forceUs (v : V) (ih : (List V → β) → β) (c : List V → β) : β := forceU v fun v => ih fun r => c (v :: r)
def forceUL (l : List V) (c : List V → β) : β := List.rec (motive := fun _ => (List V → β) → β) (fun c => c []) (fun v _ ih => forceUs v ih) l c
def fwT (l : List V) (c : V → β) : β := forceUL l fun l => c (.tup l)
def fwIf (t : TypeId) (v : V) (c : V → β) : β := forceU v fun v => c (.iface t v)
def fwF (f : FuncId) (a b : List V) (c : V → β) : β := forceL a fun a => forceL b fun b => c (.fn f a b)
def forceW (v : V) (c : V → β) : β :=
  V.sel fvB fvI fvS fvP (fun c => c .nilp) fvL (fun c => c .nils) fvM (fun c => c .nilm) fwF (fun c => c .nilf) fwIf (fun c => c .nili) fwA fwT v c

/-! ### Rows of cells, kept in chunks -/
/-- The cell at a place. -/
def cellAt (ch n : Nat) (els : Tr (List V)) (off : Nat) : Option V :=
  if off / ch < n then (els.get (off / ch)).bind (·[off % ch]?) else none

def readMany (ch : Nat) (els : Tr (List V)) : Nat → Nat → Option (List V)
  | 0, _ => some []
  | k + 1, i => oel (els.get i) (fun l => bel (Nat.beq l.length ch) (oel (readMany ch els k (i + 1)) (fun r => some (l ++ r)) none) none) none
/-- So many cells from a place on: within one chunk, or whole chunks. -/
def readRow (ch n : Nat) (els : Tr (List V)) (off k : Nat) : Option (List V) :=
  bel (Nat.ble (Nat.add (Nat.mod off ch) k) ch)
    (bel (Nat.ble (Nat.succ (Nat.div off ch)) n) (oel (els.get (Nat.div off ch)) (fun l => some ((l.drop (Nat.mod off ch)).take k)) none) none)
    (bel (Nat.beq (Nat.mod off ch) 0) (bel (Nat.beq (Nat.mod k ch) 0) (bel (Nat.ble (Nat.add (Nat.div off ch) (Nat.div k ch)) n) (readMany ch els (Nat.div k ch) (Nat.div off ch)) none) none) none)

def Blk.sel (fc : TypeId → Nat → Nat → Nat → Tr (List V) → β) (fm : List (V × V × Nat) → Nat → β) (fl : List (V × V) → β) (fi : Option Nat → Nat → List Nat → β) (b : Blk) : β :=
  Blk.rec (motive := fun _ => β) fc fm fl fi b

def loadN (t : Hp) (b off k : Nat) : Option (List V) :=
  nel k (some []) fun _ => oel (t.get b) (fun x => x.sel (fun _ ch n _ els => oel (readRow ch n els off k) (fun l => bel (Nat.beq l.length k) (some l) none) none) (fun _ _ => none) (fun _ => none) (fun _ _ _ => none)) none

/-! ## What comes of a piece of code -/

inductive Out where
  | normal
  | exit (id : Nat)
  | ret
  | panic (v : V)

structure Dx where
  df : List (FuncId × List V)
  pan : Option V

inductive R where
  | fail
  | go (o : Out) (tm : Env) (d : Dx) (t : Hp) (nx : Nat)

inductive CR where
  | fail
  | ret (v : V) (t : Hp) (nx : Nat) (pan : Option V)
  | panic (v : V) (t : Hp) (nx : Nat)

abbrev K := Env → Dx → Hp → Nat → R
abbrev CallT := FuncId → List V → Option (Option V) → Hp → Nat → CR

def writeMany (ch : Nat) (k : Nat) (els : Tr (List V)) (i : Nat) (l : List V) (c : Tr (List V) → R) : R :=
  Nat.rec (motive := fun _ => Tr (List V) → Nat → List V → (Tr (List V) → R) → R) (fun els _ _ c => c els)
    (fun _ ih els i l c => forceL (l.take ch) fun x => els.setK i (some x) fun els => forceL (l.drop ch) fun l => ih els (Nat.succ i) l c) k els i l c

def storeIn (vs : List V) (i o k n : Nat) (els : Tr (List V)) (c : Tr (List V) → R) : R :=
  bel (Nat.ble (Nat.succ i) n) (oel (els.get i) (fun l => bel (Nat.ble (Nat.add o k) l.length) (forceL (l.take o ++ (vs ++ l.drop (Nat.add o k))) fun l => els.setK i (some l) c) .fail) .fail) .fail
def storeOver (vs : List V) (i o k n ch : Nat) (els : Tr (List V)) (c : Tr (List V) → R) : R :=
  bel (Nat.beq o 0) (bel (Nat.beq (Nat.mod k ch) 0) (bel (Nat.ble (Nat.add i (Nat.div k ch)) n) (writeMany ch (Nat.div k ch) els i vs c) .fail) .fail) .fail
def storeRow (ch n : Nat) (els : Tr (List V)) (off : Nat) (vs : List V) (c : Tr (List V) → R) : R :=
  forceN (Nat.div off ch) fun i => forceN (Nat.mod off ch) fun o => forceN vs.length fun k =>
    bel (Nat.ble (Nat.add o k) ch) (storeIn vs i o k n els c) (storeOver vs i o k n ch els c)
def storeBlk (t : Hp) (b off : Nat) (vs : List V) (c : Hp → R) (ty ch n fz : Nat) (els : Tr (List V)) : R :=
  bel (Nat.ble fz off) (storeRow ch n els off vs fun els => t.setK b (some (.cells ty ch n fz els)) c) .fail
def storeK (t : Hp) (b off : Nat) (vs : List V) (c : Hp → R) : R :=
  List.rec (motive := fun _ => R) (c t)
    (fun _ _ _ => oel (t.get b) (fun x => x.sel (fun ty ch n fz els => storeBlk t b off vs c ty ch n fz els) (fun _ _ => .fail) (fun _ => .fail) (fun _ _ _ => .fail)) .fail) vs
end
end Go.X
end

section
/- A reckoner for Go code over named memory: the operations. -/
namespace Go.X
noncomputable section
variable {α β : Type}

/-! ## What is asked of a value; 'n' where it is something else -/
def onBool (v : V) (t f n : β) : β :=
  V.sel (fun b t f _ => bel b t f) (fun _ _ _ _ n => n) (fun _ _ _ _ n => n) (fun _ _ _ _ n => n) (fun _ _ n => n) (fun _ _ _ _ _ _ n => n) (fun _ _ n => n) (fun _ _ _ n => n) (fun _ _ n => n)
    (fun _ _ _ _ _ n => n) (fun _ _ n => n) (fun _ _ _ _ n => n) (fun _ _ n => n) (fun _ _ _ n => n) (fun _ _ _ n => n) v t f n
def onInt (v : V) (c : IntKind → Int → β) (n : β) : β :=
  V.sel (fun _ _ n => n) (fun k i c _ => c k i) (fun _ _ _ n => n) (fun _ _ _ n => n) (fun _ n => n) (fun _ _ _ _ _ n => n) (fun _ n => n) (fun _ _ n => n) (fun _ n => n)
    (fun _ _ _ _ n => n) (fun _ n => n) (fun _ _ _ n => n) (fun _ n => n) (fun _ _ n => n) (fun _ _ n => n) v c n
def onStr (v : V) (c : Nat → Nat → β) (n : β) : β :=
  V.sel (fun _ _ n => n) (fun _ _ _ n => n) (fun l s c _ => c l s) (fun _ _ _ n => n) (fun _ n => n) (fun _ _ _ _ _ n => n) (fun _ n => n) (fun _ _ n => n) (fun _ n => n)
    (fun _ _ _ _ n => n) (fun _ n => n) (fun _ _ _ n => n) (fun _ n => n) (fun _ _ n => n) (fun _ _ n => n) v c n
def onPtr (v : V) (c : Nat → Nat → β) (n : β) : β :=
  V.sel (fun _ _ n => n) (fun _ _ _ n => n) (fun _ _ _ n => n) (fun b o c _ => c b o) (fun _ n => n) (fun _ _ _ _ _ n => n) (fun _ n => n) (fun _ _ n => n) (fun _ n => n)
    (fun _ _ _ _ n => n) (fun _ n => n) (fun _ _ _ n => n) (fun _ n => n) (fun _ _ n => n) (fun _ _ n => n) v c n
def onMap (v : V) (c : Nat → β) (n : β) : β :=
  V.sel (fun _ _ n => n) (fun _ _ _ n => n) (fun _ _ _ n => n) (fun _ _ _ n => n) (fun _ n => n) (fun _ _ _ _ _ n => n) (fun _ n => n) (fun b c _ => c b) (fun _ n => n)
    (fun _ _ _ _ n => n) (fun _ n => n) (fun _ _ _ n => n) (fun _ n => n) (fun _ _ n => n) (fun _ _ n => n) v c n
def onFn (v : V) (c : FuncId → List V → List V → β) (n : β) : β :=
  V.sel (fun _ _ n => n) (fun _ _ _ n => n) (fun _ _ _ n => n) (fun _ _ _ n => n) (fun _ n => n) (fun _ _ _ _ _ n => n) (fun _ n => n) (fun _ _ n => n) (fun _ n => n)
    (fun f a b c _ => c f a b) (fun _ n => n) (fun _ _ _ n => n) (fun _ n => n) (fun _ _ n => n) (fun _ _ n => n) v c n
def onAgg (v : V) (c : List V → β) (n : β) : β :=
  V.sel (fun _ _ n => n) (fun _ _ _ n => n) (fun _ _ _ n => n) (fun _ _ _ n => n) (fun _ n => n) (fun _ _ _ _ _ n => n) (fun _ n => n) (fun _ _ n => n) (fun _ n => n)
    (fun _ _ _ _ n => n) (fun _ n => n) (fun _ _ _ n => n) (fun _ n => n) (fun l c _ => c l) (fun _ _ n => n) v c n
def onTup (v : V) (c : List V → β) (n : β) : β :=
  V.sel (fun _ _ n => n) (fun _ _ _ n => n) (fun _ _ _ n => n) (fun _ _ _ n => n) (fun _ n => n) (fun _ _ _ _ _ n => n) (fun _ n => n) (fun _ _ n => n) (fun _ n => n)
    (fun _ _ _ _ n => n) (fun _ n => n) (fun _ _ _ n => n) (fun _ n => n) (fun _ _ n => n) (fun l c _ => c l) v c n
/-- A slice: nil, or not. -/
def onSl (v : V) (z : β) (c : Nat → Nat → Nat → Cap → β) (n : β) : β :=
  V.sel (fun _ _ _ n => n) (fun _ _ _ _ n => n) (fun _ _ _ _ n => n) (fun _ _ _ _ n => n) (fun _ _ n => n) (fun b o l x _ c _ => c b o l x) (fun z _ _ => z) (fun _ _ _ n => n) (fun _ _ n => n)
    (fun _ _ _ _ _ n => n) (fun _ _ n => n) (fun _ _ _ _ n => n) (fun _ _ n => n) (fun _ _ _ n => n) (fun _ _ _ n => n) v z c n
/-- A number that is not below nought. -/
def onNat (v : V) (c : Nat → β) (n : β) : β := onInt v (fun _ i => Int.rec (motive := fun _ => β) c (fun _ => n) i) n
def onCap (x : Cap) (e u : Nat → β) : β := Cap.rec (motive := fun _ => β) e u x
def onList (l : List α) (z : β) (c : α → List α → β) : β := List.rec (motive := fun _ => β) z (fun a l _ => c a l) l

/-! ## Operands -/
def evT (t : Nat) (tm : Env) (c : V → β) (n : β) : β := oel (tm.get t) c n
def evC (v : Value) (_ : Env) (c : V → β) (n : β) : β := oel (ofValue v) c n
/-- (The names below 64 are the package-level variables'.) -/
def evG (g : Nat) (_ : Env) (c : V → β) (n : β) : β := bel (Nat.ble (Nat.succ g) 64) (c (.ptr g 0)) n
def evF (f : Nat) (_ : Env) (c : V → β) (_ : β) : β := c (.fn f [] [])
def ev (x : Operand) (tm : Env) (c : V → β) (n : β) : β := Operand.rec (motive := fun _ => Env → (V → β) → β → β) evT evC evG evF x tm c n
def evs1 (tm : Env) (n : β) (x : Operand) (ih : (List V → β) → β) (c : List V → β) : β := ev x tm (fun v => ih fun l => c (v :: l)) n
def evs (l : List Operand) (tm : Env) (c : List V → β) (n : β) : β :=
  List.rec (motive := fun _ => (List V → β) → β) (fun c => c []) (fun x _ ih => evs1 tm n x ih) l c
def evp1 (tm : Env) (n : β) (x : Nat × Operand) (ih : (List (Nat × V) → β) → β) (c : List (Nat × V) → β) : β := ev x.2 tm (fun v => ih fun l => c ((x.1, v) :: l)) n
def evParts (l : List (Nat × Operand)) (tm : Env) (c : List (Nat × V) → β) (n : β) : β :=
  List.rec (motive := fun _ => (List (Nat × V) → β) → β) (fun c => c []) (fun x _ ih => evp1 tm n x ih) l c
/-- A bound, or what stands for it. -/
def bnd (x : Option Operand) (tm : Env) (d : Nat) (c : Nat → β) (n : β) : β := oel x (fun x => ev x tm (fun v => onNat v c n) n) (c d)

/-! ## Types -/
section
variable (P : Program)
def sz (t : TypeId) : Nat := oel (P.info? t) (fun i => i.size) 0
def und (t : TypeId) : TypeDesc := oel (P.underlying t) (fun d => d) .invalid
def isAggB : TypeDesc → Bool
  | .struct _ => true
  | .array _ _ => true
  | _ => false
def zeroV (t : TypeId) : Option V := oel (P.info? t) (fun i => oel i.zero ofValue none) none
def elemOfSl : TypeDesc → Option TypeId
  | .slice e => some e
  | _ => none
def elemOfArr : TypeDesc → Option (Nat × TypeId)
  | .array n e => some (n, e)
  | _ => none
def fieldsOf : TypeDesc → List Field
  | .struct fs => fs.toList
  | _ => []
def mapOf : TypeDesc → Option (TypeId × TypeId)
  | .map k e => some (k, e)
  | _ => none
def intOf? : TypeDesc → Option IntKind
  | .int k => some k
  | _ => none
def isStr : TypeDesc → Bool
  | .string => true
  | _ => false
def isIface : TypeDesc → Bool
  | .interface _ => true
  | _ => false
/-- What a type is to the operations: worked out once a type. -/
def szO (t : TypeId) : Option Nat := oel (P.info? t) (fun i => some i.size) none
def slElem (t : TypeId) : Option (TypeId × Nat) := oel (elemOfSl (und P t)) (fun e => oel (szO P e) (fun s => some (e, s)) none) none
def arrElem (t : TypeId) : Option (Nat × TypeId × Nat) := oel (elemOfArr (und P t)) (fun e => oel (szO P e.2) (fun s => some (e.1, e.2, s)) none) none
def fieldAt (s : TypeId) (i : Nat) : Option (Nat × TypeId) := oel (nth (fieldsOf (und P s)) i) (fun f => some (f.offset, f.type)) none
def aggB (t : TypeId) : Bool := isAggB (und P t)
def chunk (t : TypeId) : Nat := oel (elemOfArr (und P t)) (fun e => sz P e.2) (sz P t)
/-- No type; one of several cells; another one. -/
def selD (d : TypeDesc) (inv agg oth : β) : β := match d with
  | .invalid => inv
  | .struct _ => agg
  | .array _ _ => agg
  | _ => oth
/-- No type, or an interface's; another one. -/
def concD (d : TypeDesc) (no ok : β) : β := match d with
  | .invalid => no
  | .interface _ => no
  | _ => ok
def someD (d : TypeDesc) (no ok : β) : β := match d with
  | .invalid => no
  | _ => ok
def nointD (d : TypeDesc) (no ok : β) : β := match d with
  | .invalid => no
  | .int _ => no
  | _ => ok
def oneV (l : List V) (c : V → β) (n : β) : β := onList l n fun v r => onList r (c v) fun _ _ => n
/-- Cells as a value of a type. -/
def mkV (t : TypeId) (l : List V) (c : V → β) (n : β) : β := selD (und P t) n (c (.agg l)) (oneV l c n)
end

/-! ## Numbers -/
def leI (a b : Int) : Bool :=
  Int.rec (motive := fun _ => Bool) (fun a => Int.rec (motive := fun _ => Bool) (fun b => Nat.ble a b) (fun _ => false) b)
    (fun a => Int.rec (motive := fun _ => Bool) (fun _ => true) (fun b => Nat.ble b a) b) a
def eqI (a b : Int) : Bool :=
  Int.rec (motive := fun _ => Bool) (fun a => Int.rec (motive := fun _ => Bool) (fun b => Nat.beq a b) (fun _ => false) b)
    (fun a => Int.rec (motive := fun _ => Bool) (fun _ => false) (fun b => Nat.beq a b) b) a
def notB (b : Bool) : Bool := bel b false true
def andB (a b : Bool) : Bool := bel a b false
/-- 'wrap', where nothing has to be done at once. -/
def wrapV (k : IntKind) (n : Int) : Int :=
  Int.rec (motive := fun _ => Int) (fun m => bel (Nat.ble (Nat.succ m) 128) (.ofNat m) (bel (Nat.ble (Nat.succ m) (Nat.pow 2 (Nat.sub k.bits 1))) (.ofNat m) (k.wrap (.ofNat m)))) (fun m => k.wrap (.negSucc m)) n
def addI (a b : Int) : Int :=
  Int.rec (motive := fun _ => Int) (fun a => Int.rec (motive := fun _ => Int) (fun b => .ofNat (Nat.add a b)) (fun b => Int.add (.ofNat a) (.negSucc b)) b)
    (fun a => Int.add (.negSucc a) b) a
def subI (a b : Int) : Int :=
  Int.rec (motive := fun _ => Int) (fun a => Int.rec (motive := fun _ => Int) (fun b => bel (Nat.ble b a) (.ofNat (Nat.sub a b)) (Int.sub (.ofNat a) (.ofNat b))) (fun b => Int.sub (.ofNat a) (.negSucc b)) b)
    (fun a => Int.sub (.negSucc a) b) a

def strEq (la a lb b : Nat) : Bool := bel (Nat.beq la lb) (Nat.beq (Nat.mod a (Nat.pow 2 (Nat.mul 8 la))) (Nat.mod b (Nat.pow 2 (Nat.mul 8 la)))) false
/-- Is the one text before the other one? -/
def strLt : Nat → Nat → Nat → Nat → Bool
  | 0, _, lb, _ => nel lb false fun _ => true
  | la + 1, a, lb, b => nel lb false fun lb =>
    bel (Nat.beq (Nat.mod a 256) (Nat.mod b 256)) (strLt la (Nat.div a 256) lb (Nat.div b 256)) (Nat.ble (Nat.succ (Nat.mod a 256)) (Nat.mod b 256))

abbrev CV (β : Type) := (V → β) → β → β
def biAdd (k : IntKind) (a b : Int) (c : V → β) (_ : β) : β := c (.int k (wrapV k (addI a b)))
def biSub (k : IntKind) (a b : Int) (c : V → β) (_ : β) : β := c (.int k (wrapV k (subI a b)))
def biMul (k : IntKind) (a b : Int) (c : V → β) (_ : β) : β := c (.int k (wrapV k (Int.mul a b)))
def biQuo (k : IntKind) (a b : Int) (c : V → β) (n : β) : β := bel (eqI b 0) n (c (.int k (wrapV k (Int.tdiv a b))))
def biRem (k : IntKind) (a b : Int) (c : V → β) (n : β) : β := bel (eqI b 0) n (c (.int k (Int.tmod a b)))
def biBits (f : (k : IntKind) → BitVec k.bits → BitVec k.bits → BitVec k.bits) (k : IntKind) (a b : Int) (c : V → β) (_ : β) : β := c (.int k (k.wrap (f k (BitVec.ofInt k.bits a) (BitVec.ofInt k.bits b)).toNat))
def biAnd (k : IntKind) (a b : Int) (c : V → β) (n : β) : β :=
  Int.rec (motive := fun _ => β) (fun x => Int.rec (motive := fun _ => β) (fun y => bel (Nat.ble (Nat.succ x) (Nat.pow 2 k.bits)) (bel (Nat.ble (Nat.succ y) (Nat.pow 2 k.bits)) (c (.int k (wrapV k (.ofNat (Nat.land x y))))) n) n) (fun _ => biBits (fun _ x y => x &&& y) k a b c n) b) (fun _ => biBits (fun _ x y => x &&& y) k a b c n) a
def biOr (k : IntKind) (a b : Int) (c : V → β) (n : β) : β := biBits (fun _ x y => x ||| y) k a b c n
def biXor (k : IntKind) (a b : Int) (c : V → β) (n : β) : β := biBits (fun _ x y => x ^^^ y) k a b c n
def biAndNot (k : IntKind) (a b : Int) (c : V → β) (n : β) : β := biBits (fun _ x y => x &&& ~~~y) k a b c n
def biShl (k : IntKind) (a b : Int) (c : V → β) (n : β) : β := Int.rec (motive := fun _ => β) (fun m => c (.int k (wrapV k (Int.mul a (.ofNat (Nat.pow 2 (min m k.bits))))))) (fun _ => n) b
def biShr (k : IntKind) (a b : Int) (c : V → β) (n : β) : β :=
  Int.rec (motive := fun _ => β) (fun m => Int.rec (motive := fun _ => β) (fun x => c (.int k (.ofNat (Nat.shiftRight x (min m k.bits))))) (fun _ => c (.int k (Int.fdiv a (.ofNat (Nat.pow 2 (min m k.bits)))))) a) (fun _ => n) b
def biEql (_ : IntKind) (a b : Int) (c : V → β) (_ : β) : β := c (.bool (eqI a b))
def biNeq (_ : IntKind) (a b : Int) (c : V → β) (_ : β) : β := c (.bool (notB (eqI a b)))
def biLss (_ : IntKind) (a b : Int) (c : V → β) (_ : β) : β := c (.bool (notB (leI b a)))
def biLeq (_ : IntKind) (a b : Int) (c : V → β) (_ : β) : β := c (.bool (leI a b))
def biGtr (_ : IntKind) (a b : Int) (c : V → β) (_ : β) : β := c (.bool (notB (leI a b)))
def biGeq (_ : IntKind) (a b : Int) (c : V → β) (_ : β) : β := c (.bool (leI b a))
def biOp (op : BinOp) : IntKind → Int → Int → CV β :=
  BinOp.rec (motive := fun _ => IntKind → Int → Int → CV β) biAdd biSub biMul biQuo biRem biAnd biOr biXor biShl biShr biAndNot biEql biNeq biLss biLeq biGtr biGeq op
def sameKind (j k : IntKind) : Bool := decide (j = k)
def isShift (op : BinOp) : Bool := match op with | .shl => true | .shr => true | _ => false

abbrev BS (β : Type) := Nat → Nat → Nat → Nat → CV β
def bsFail (_ _ _ _ : Nat) (_ : V → β) (n : β) : β := n
def bsAdd (la a lb b : Nat) (c : V → β) (n : β) : β :=
  bel (Nat.ble (Nat.add la lb) 9223372036854775807) (c (.str (Nat.add la lb) (Nat.add (Nat.mod a (Nat.pow 2 (Nat.mul 8 la))) (Nat.shiftLeft b (Nat.mul 8 la))))) n
def bsEql (la a lb b : Nat) (c : V → β) (_ : β) : β := c (.bool (strEq la a lb b))
def bsNeq (la a lb b : Nat) (c : V → β) (_ : β) : β := c (.bool (notB (strEq la a lb b)))
def bsLss (la a lb b : Nat) (c : V → β) (_ : β) : β := c (.bool (strLt la a lb b))
def bsGeq (la a lb b : Nat) (c : V → β) (_ : β) : β := c (.bool (notB (strLt la a lb b)))
def bsOp (op : BinOp) : BS β :=
  BinOp.rec (motive := fun _ => BS β) bsAdd bsFail bsFail bsFail bsFail bsFail bsFail bsFail bsFail bsFail bsFail bsEql bsNeq bsLss bsFail bsFail bsGeq op

def boolEq (a b : Bool) : Bool := bel a b (notB b)
end
end Go.X
end
