/- Parts of the proof: Vf, Vg, Wk, Vh, Wl. -/
import Derived.Deep.RegionLaw
import Derived.Test.YtgioobgahlcdhaaGreatDoorQaw
import Derived.Test.YtgioobgahlcdhaaGreatDoorQav

set_option linter.unusedVariables false
set_option linter.unusedSimpArgs false

section
/- The reference's one token: a sign; at every text. -/
namespace Go.Proofs.YtgioobgahlcdhaaGreatDoor
open Go.RowKit Go.Shelf Go.Sort Go.Lib

def signTab : List ByteArray := [⟨#[61, 61]⟩, ⟨#[33, 61]⟩, ⟨#[40]⟩, ⟨#[41]⟩, ⟨#[123]⟩, ⟨#[125]⟩, ⟨#[91]⟩, ⟨#[93]⟩, ⟨#[59]⟩, ⟨#[44]⟩, ⟨#[58]⟩, ⟨#[46]⟩, ⟨#[61]⟩, ⟨#[60]⟩, ⟨#[43]⟩, ⟨#[45]⟩, ⟨#[42]⟩, ⟨#[33]⟩]
theorem index_mem (c : UInt8) : ∀ l : List UInt8, 0 ≤ Lib.indexByte l c ↔ c ∈ l
  | [] => by simp [Lib.indexByte]
  | b :: l => by
    have ih := index_mem c l
    have hge := Lib.indexByte_ge l c
    unfold Lib.indexByte
    by_cases hb : b = c
    · subst hb
      simp
    · rw [if_neg (by simpa using hb)]
      have hb' : ¬ c = b := fun h => hb h.symm
      simp only [List.mem_cons, hb', false_or]
      rw [← ih]
      split
      · rename_i h
        have := beq_iff_eq.1 h
        omega
      · rename_i h
        have : Lib.indexByte l c ≠ -1 := fun h' => h (beq_iff_eq.2 h')
        omega
theorem one_prefix {s : ByteArray} {c b : UInt8} (hc : s.data.toList.head? = some c) : Lib.hasPrefix s.data.toList [b] = true ↔ c = b := by
  rw [Go.X.prefix_head, hc, Option.some.injEq]
theorem prefix_cut {s x : ByteArray} (h : Lib.hasPrefix s.data.toList x.data.toList = true) : s.extract 0 x.size = x := by
  obtain ⟨r, hr⟩ := List.isPrefixOf_iff_prefix.1 h
  rw [Lib.extract_eq, ← hr, Lib.size_eq]
  simp only [List.drop_zero, Nat.sub_zero, List.take_left]
  first | done | exact mk_back x
theorem sign_hit {s : ByteArray} {c : UInt8} {k : Nat} {x : ByteArray} (hc : s.data.toList.head? = some c) (hk : signTab[k]? = some x) (hp : Lib.hasPrefix s.data.toList x.data.toList = true)
    (hno : ∀ j y, j < k → signTab[j]? = some y → Lib.hasPrefix s.data.toList y.data.toList = false) (h1 : wordZ c.toNat = false) (h3 : ¬ c.toNat = 34) : oneR s c = ((⟨4, x, 0, 0⟩ : Tok), (x.size : Int), (0 : Int)) := by
  have hl : letterZ c.toNat = false := by unfold wordZ at h1; simp only [Bool.or_eq_false_iff] at h1; exact h1.1
  have hd : digitZ c.toNat = false := by unfold wordZ at h1; unfold digitZ; simp only [Bool.or_eq_false_iff] at h1; exact h1.2
  have hx := prefix_cut hp
  unfold oneR
  rw [if_neg (by simp [hl]), if_neg (by simp [hd]), if_neg h3]
  match k, hk, hno with
  | 0, hk, _ =>
    cases hk
    have hp' : Lib.hasPrefix s.data.toList [61, 61] = true := hp
    rw [if_pos (by simp [hp'])]
    exact congrArg (fun t => ((⟨4, t, 0, 0⟩ : Tok), (2 : Int), (0 : Int))) hx
  | 1, hk, _ =>
    cases hk
    have hp' : Lib.hasPrefix s.data.toList [33, 61] = true := hp
    rw [if_pos (by simp [hp'])]
    exact congrArg (fun t => ((⟨4, t, 0, 0⟩ : Tok), (2 : Int), (0 : Int))) hx
  | k + 2, hk, hno =>
    have q0 : Lib.hasPrefix s.data.toList [61, 61] = false := hno 0 _ (by omega) rfl
    have q1 : Lib.hasPrefix s.data.toList [33, 61] = false := hno 1 _ (by omega) rfl
    have hm : x ∈ signTab.drop 2 := List.mem_of_getElem? (i := k) (by rw [List.getElem?_drop, Nat.add_comm]; exact hk)
    have hm2 : x ∈ signs.data.toList.map fun b => (⟨#[b]⟩ : ByteArray) := hm
    obtain ⟨b, hb, rfl⟩ := List.mem_map.1 hm2
    have hcb : c = b := (one_prefix hc).1 hp
    rw [if_neg (by simp [q0, q1]), if_pos (by rw [hcb]; exact (index_mem b _).2 hb)]
    exact congrArg (fun t => ((⟨4, t, 0, 0⟩ : Tok), (1 : Int), (0 : Int))) hx
theorem sign_miss {s : ByteArray} {c : UInt8} (hc : s.data.toList.head? = some c)
    (hno : ∀ (j : Nat) y, j < 18 → signTab[j]? = some y → Lib.hasPrefix s.data.toList y.data.toList = false) (h1 : wordZ c.toNat = false) (h3 : ¬ c.toNat = 34) : oneR s c = (tok0, 0, 1) := by
  have hl : letterZ c.toNat = false := by unfold wordZ at h1; simp only [Bool.or_eq_false_iff] at h1; exact h1.1
  have hd : digitZ c.toNat = false := by unfold wordZ at h1; unfold digitZ; simp only [Bool.or_eq_false_iff] at h1; exact h1.2
  have q0 : Lib.hasPrefix s.data.toList [61, 61] = false := hno 0 _ (by omega) rfl
  have q1 : Lib.hasPrefix s.data.toList [33, 61] = false := hno 1 _ (by omega) rfl
  unfold oneR
  rw [if_neg (by simp [hl]), if_neg (by simp [hd]), if_neg h3, if_neg (by simp [q0, q1]), if_neg]
  rw [index_mem]
  intro hm
  have hm2 : (⟨#[c]⟩ : ByteArray) ∈ signs.data.toList.map fun b => (⟨#[b]⟩ : ByteArray) := List.mem_map_of_mem hm
  have hm3 : (⟨#[c]⟩ : ByteArray) ∈ signTab.drop 2 := hm2
  obtain ⟨j, hj⟩ := List.mem_iff_getElem?.1 hm3
  rw [List.getElem?_drop] at hj
  have hj18 : 2 + j < 18 := (List.getElem?_eq_some_iff.1 hj).1
  have := hno (2 + j) _ hj18 hj
  have hp : Lib.hasPrefix s.data.toList [c] = true := (one_prefix hc).2 rfl
  rw [show (⟨#[c]⟩ : ByteArray).data.toList = [c] from rfl, hp] at this
  cases this

set_option maxHeartbeats 4000000 in
set_option maxRecDepth 1000000 in
theorem one21_sign (s : ByteArray) (hs : s.size ≤ 1000000) (h1 : 0 < s.size) (hw : wordZ ((s[0]'h1).toNat : Int) = false) (h34 : ¬ (s[0]'h1).toNat = 34) (w : World) :
    Calls Tryz.prog 121 #[.string s] w fun e w' => e = .returned (.tuple #[(oneR s (s[0]'h1)).1.v, .int .i64 (oneR s (s[0]'h1)).2.1, .int .i64 (oneR s (s[0]'h1)).2.2]) ∧ Later w w' := by
  obtain ⟨m1, m2⟩ := not_word s hs h1 hw
  have HAM : Aside (∀ w, Calls Tryz.prog 159 #[.string s, .string ⟨#[48, 49, 50, 51, 52, 53, 54, 55, 56, 57]⟩] w fun e w' => e = .returned (.int .i64 0) ∧ w' = w) := m1
  have HAS : Aside (∀ w, Calls Tryz.prog 159 #[.string s, .string ⟨#[97, 98, 99, 100, 101, 102, 103, 104, 105, 106, 107, 108, 109, 110, 111, 112, 113, 114, 115, 116, 117, 118, 119, 120, 121, 122, 65, 66, 67, 68, 69, 70, 71, 72, 73, 74, 75, 76, 77, 78, 79, 80, 81, 82, 83, 84, 85, 86, 87, 88, 89, 90, 95, 48, 49, 50, 51, 52, 53, 54, 55, 56, 57]⟩] w fun e w' => e = .returned (.int .i64 0) ∧ w' = w) := m2
  have h340 : (((s[0]'h1).toNat : Int) == 34) = false := by simp only [beq_eq_false_iff_ne]; omega
  obtain ⟨c, hcb⟩ : ∃ c, s[0]'h1 = c := ⟨_, rfl⟩
  rw [hcb] at hw h34 h340 ⊢
  have HH : Aside (s.data.toList.head? = some c) := by
    show _ = _
    rw [List.head?_eq_getElem?, byte_at s 0 h1, hcb]
  have HW : Aside (wordZ c.toNat = false) := hw
  have H34 : Aside (¬ c.toNat = 34) := h34
  clear m1 m2 hw h34
  go_enter Tryz.func121, Tryz.ntmps121
  go_wp2_with (first
    | (go_at_call 159; (with_reducible refine Calls.mono (HAM.out _) ?_); rintro e w1 ⟨rfl, rfl⟩)
    | (go_at_call 159; (with_reducible refine Calls.mono (HAS.out _) ?_); rintro e w1 ⟨rfl, rfl⟩))
  go_loopg [117] 18 (fun g i wr => ∃ k : Nat, k + g = 18 ∧ i = .int .i64 k ∧ Aside (Later w wr) ∧ Aside (Four wr w.heap.size (.int .i64 0) (.string ⟨#[]⟩) (.int .i64 0) (.int .i64 0)) ∧
    Aside (∀ (j : Nat) (x : ByteArray), signTab[j]? = some x → wr.cell? ⟨w.heap.size + 1, j, none⟩ = some (.string x)) ∧ Aside (∀ (j : Nat) y, j < k → signTab[j]? = some y → Lib.hasPrefix s.data.toList y.data.toList = false))
  case atStart =>
    refine ⟨0, by omega, rfl, ((Below.refl _ w).alloc (Nat.le_refl _) _).alloc (by simp) _, (Four.new w _ _ _ _ _).later ((Below.refl _ _).alloc (Nat.le_refl _) _) (by simp), ?_, fun j y hj => absurd hj (Nat.not_lt_zero _)⟩
    intro j x hx
    rw [World.cell?_alloc_at _ _ _ _ (by simp)]
    have hj : j < 18 := (List.getElem?_eq_some_iff.1 hx).1
    match j, hj, hx with
    | 0, _, hx => cases hx; rfl
    | 1, _, hx => cases hx; rfl
    | 2, _, hx => cases hx; rfl
    | 3, _, hx => cases hx; rfl
    | 4, _, hx => cases hx; rfl
    | 5, _, hx => cases hx; rfl
    | 6, _, hx => cases hx; rfl
    | 7, _, hx => cases hx; rfl
    | 8, _, hx => cases hx; rfl
    | 9, _, hx => cases hx; rfl
    | 10, _, hx => cases hx; rfl
    | 11, _, hx => cases hx; rfl
    | 12, _, hx => cases hx; rfl
    | 13, _, hx => cases hx; rfl
    | 14, _, hx => cases hx; rfl
    | 15, _, hx => cases hx; rfl
    | 16, _, hx => cases hx; rfl
    | 17, _, hx => cases hx; rfl
  case round =>
    obtain ⟨k, hk, rfl, HL, H4, HX, HN⟩ := hrel
    obtain ⟨⟨c0, c1, c2, c3⟩, f0, f1, f2, f3⟩ := id H4.out
    by_cases hlt : k < 18
    · obtain ⟨x, hx⟩ : ∃ x, signTab[k]? = some x := ⟨_, List.getElem?_eq_getElem hlt⟩
      have HX1 : Aside (signTab[k]? = some x) := hx
      have hxc := HX.out k x hx
      clear hx
      cases hp : Lib.hasPrefix s.data.toList x.data.toList with
      | true =>
        have HR : Aside (oneR s c = (⟨4, x, 0, 0⟩, (x.size : Int), 0)) := sign_hit HH.out HX1.out hp HN.out HW.out H34.out
        go_wp2_with (go_at_call 27; refine (Tryz.strings_HasPrefix _ _ _).mono ?_; rintro e w1 ⟨rfl, rfl⟩)
        refine ret_tok rfl rfl H4.out rfl ⟨?_, below_put4 HL.out (Nat.le_refl _) _ _ _ _⟩
        rw [HR.out]
        try rfl
      | false =>
        have HN2 : Aside (∀ (j : Nat) y, j < k + 1 → signTab[j]? = some y → Lib.hasPrefix s.data.toList y.data.toList = false) := fun j y hj hy => by
          by_cases hjk : j < k
          · exact HN.out j y hjk hy
          · obtain rfl : j = k := by omega
            rw [HX1.out] at hy
            cases hy
            exact hp
        go_wp2_with (go_at_call 27; refine (Tryz.strings_HasPrefix _ _ _).mono ?_; rintro e w1 ⟨rfl, rfl⟩)
        go_roundg (gk - 1)
        case measure => omega
        case rel => exact ⟨k + 1, by omega, by go_num, HL.out, H4.out, HX.out, HN2.out⟩
    · have hk18 : k = 18 := by omega
      subst hk18
      have HR : Aside (oneR s c = (tok0, 0, 1)) := sign_miss HH.out HN.out HW.out H34.out
      go_wp2
      refine ret_tok rfl rfl H4.out rfl ⟨?_, below_put4 HL.out (Nat.le_refl _) _ _ _ _⟩
      rw [HR.out]
      try rfl

theorem one21_any (s : ByteArray) (hs : s.size ≤ 1000000) (h1 : 0 < s.size) (w : World) :
    Calls Tryz.prog 121 #[.string s] w fun e w' => e = .returned (.tuple #[(oneR s (s[0]'h1)).1.v, .int .i64 (oneR s (s[0]'h1)).2.1, .int .i64 (oneR s (s[0]'h1)).2.2]) ∧ Later w w' := by
  cases hd : digitZ ((s[0]'h1).toNat : Int) with
  | true =>
    have hl : letterZ ((s[0]'h1).toNat : Int) = false := by
      unfold digitZ at hd
      unfold letterZ
      simp only [Bool.and_eq_true, decide_eq_true_eq] at hd
      simp only [Bool.or_eq_false_iff, Bool.and_eq_false_iff, decide_eq_false_iff_not]
      omega
    have ho : oneR s (s[0]'h1) = numberR s := by unfold oneR; rw [if_neg (by simp [hl]), if_pos hd]
    rw [ho]
    exact one21_number s hs h1 hd w
  | false =>
    cases hw : wordZ ((s[0]'h1).toNat : Int) with
    | true =>
      have hl : letterZ ((s[0]'h1).toNat : Int) = true := by
        unfold wordZ at hw
        unfold digitZ at hd
        rw [hd, Bool.or_false] at hw
        exact hw
      have ho : oneR s (s[0]'h1) = (⟨1, s.extract 0 (runN wordZ s.data.toList), 0, 0⟩, ((runN wordZ s.data.toList : Nat) : Int), 0) := by unfold oneR; rw [if_pos hl]
      rw [ho]
      exact one21_word s hs h1 hd hw w
    | false =>
      by_cases h34 : (s[0]'h1).toNat = 34
      · have hl : letterZ ((s[0]'h1).toNat : Int) = false := by unfold wordZ at hw; simp only [Bool.or_eq_false_iff] at hw; exact hw.1
        have ho : oneR s (s[0]'h1) = quotedR s := by unfold oneR; rw [if_neg (by simp [hl]), if_neg (by simp [hd]), if_pos h34]
        rw [ho]
        exact one21_text s hs h1 h34 w
      · exact one21_sign s hs h1 hw h34 w
end Go.Proofs.YtgioobgahlcdhaaGreatDoor
end

section
/- The reference's tokens, at every text. -/
namespace Go.Proofs.YtgioobgahlcdhaaGreatDoor
open Go.RowKit Go.Shelf Go.Sort Go.Lib

theorem run_feed (l : List UInt8) : Go.X.runB (fun x => x != 10) l = runN notNl l := by
  refine Go.X.runB_congr (q := fun c => notNl (c.toNat : Int)) (fun c => ?_) l
  unfold notNl
  rw [Bool.eq_iff_iff]
  simp only [bne_iff_ne, ne_eq, Bool.not_eq_true', decide_eq_false_iff_not]
  exact not_congr ⟨fun h => by rw [h]; first | done | rfl, fun h => UInt8.toNat_inj.1 (by have h10 : (10 : UInt8).toNat = 10 := rfl; omega)⟩
/-- strings.IndexByte of a line feed. -/
theorem feed_at (s : ByteArray) (k : Nat) (w : World) :
    Calls Tryz.prog 120 #[.string (s.extract k s.size), .int .u8 10] w fun e w' => e = .returned (.int .i64 (if runN notNl (s.data.toList.drop k) = (s.data.toList.drop k).length then -1 else ((runN notNl (s.data.toList.drop k) : Nat) : Int))) ∧ w' = w := by
  have h := Tryz.strings_IndexByte (s.extract k s.size) 10 w
  have hd : (s.extract k s.size).data.toList = s.data.toList.drop k := by
    rw [Lib.extract_data]
    exact List.take_of_length_le (by rw [List.length_drop, Lib.size_eq]; exact Nat.le_refl _)
  rw [hd, show (10 : Int).toNat.toUInt8 = 10 from rfl, Go.X.index_run, run_feed] at h
  exact h

set_option maxHeartbeats 8000000 in
set_option maxRecDepth 1000000 in
theorem split21_any (s : ByteArray) (hs : s.size ≤ 1000000) (w : World) :
    Calls Tryz.prog 80 #[.string s] w fun e w' => ∃ v, e = .returned (.tuple #[v, .int .i64 (splitR s).2.1, .int .i64 (splitR s).2.2]) ∧ Later w w' ∧ Toks w.heap.size w' v (splitR s).1 := by
  obtain ⟨i0, hi, hz0, hz1, hz2⟩ := info_parts tokInfo
  by_cases hbig : 8192 < s.size
  · have hR : Hid (splitR s = ([], 0, 2)) := by show _ = _; unfold splitR; rw [if_pos hbig]
    go_enter Tryz.func80, Tryz.ntmps80
    go_wp2
    go_ret3
    rw [hR.out]
    exact ⟨_, rfl, Below.refl _ _, World.ownsRow_nil _ _ _ _⟩
  · have hR : Hid (splitR s = splitGo s s.size 0 []) := by show _ = _; unfold splitR; rw [if_neg hbig]
    go_enter Tryz.func80, Tryz.ntmps80
    go_wp2
    go_loopg [5, 6] s.size (fun g v i wr => ∃ (k : Nat) (out : List Tok), s.size ≤ k + g ∧ k ≤ s.size ∧ out.length ≤ k ∧ i = .int .i64 k ∧ Aside (wr.ownsRow w.heap.size 152 4 v out.length (tokCells out)) ∧
        Aside (Later w wr) ∧ Aside (splitGo s s.size 0 [] = splitGo s g k out))
    case atStart => exact ⟨0, [], by omega, by omega, by simp, rfl, World.ownsRow_nil _ _ _ _, Below.refl _ _, rfl⟩
    case round =>
      obtain ⟨k, out, hk, hks, hol, rfl, HO, HL, HA⟩ := hrel
      by_cases hlt : k < s.size
      · obtain ⟨c, hcb⟩ : ∃ c, s[k]'hlt = c := ⟨_, rfl⟩
        have hsz : (s.extract k s.size).size ≤ 1000000 := by simp; omega
        have hs0 : 0 < (s.extract k s.size).size := by simp; omega
        rcases hor : oneR (s.extract k s.size) c with ⟨⟨tk, tt, tn, ta⟩, nn, er⟩
        have HOR : Aside (oneR (s.extract k s.size) c = _) := hor
        have HX : Aside ((s.extract k s.size)[0]'hs0 = c) := (extract_first s k hlt hs0).trans hcb
        clear hor
        by_cases hb : c.toNat = 32 ∨ c.toNat = 10
        · have hstep : ∀ g, splitGo s (g + 1) k out = splitGo s g (k + 1) out := fun g => by
            rw [splitGo, dif_pos hlt, hcb, if_pos hb]
          obtain ⟨g, rfl⟩ : ∃ g, gk = g + 1 := ⟨gk - 1, by omega⟩
          have HA2 : Aside (splitGo s s.size 0 [] = splitGo s g (k + 1) out) := HA.out.trans (hstep g)
          rcases hb with hb | hb
          · have n32 : ((c.toNat : Int) == 32) = true := by simp only [beq_iff_eq]; omega
            go_wp2
            go_roundg g
            case measure => omega
            case rel => exact ⟨k + 1, out, by omega, by omega, by omega, by go_num, HO, HL, HA2⟩
          · have n32 : ((c.toNat : Int) == 32) = false := by simp only [beq_eq_false_iff_ne]; omega
            have n10 : ((c.toNat : Int) == 10) = true := by simp only [beq_iff_eq]; omega
            go_wp2
            go_roundg g
            case measure => omega
            case rel => exact ⟨k + 1, out, by omega, by omega, by omega, by go_num, HO, HL, HA2⟩
        · have n32 : ((c.toNat : Int) == 32) = false := by simp only [beq_eq_false_iff_ne]; omega
          have n10 : ((c.toNat : Int) == 10) = false := by simp only [beq_eq_false_iff_ne]; omega
          by_cases h35 : c.toNat = 35
          · have n35 : ((c.toNat : Int) == 35) = true := by simp only [beq_iff_eq]; omega
            have hstep : ∀ g, splitGo s (g + 1) k out = splitGo s g (k + runN notNl (s.data.toList.drop k)) out := fun g => by
              rw [splitGo, dif_pos hlt, hcb, if_neg hb, if_pos h35]
            obtain ⟨G, rfl⟩ : ∃ g, gk = g + 1 := ⟨gk - 1, by omega⟩
            have HA2 : Aside (splitGo s s.size 0 [] = splitGo s G (k + runN notNl (s.data.toList.drop k)) out) := HA.out.trans (hstep G)
            have hrl : runN notNl (s.data.toList.drop k) ≤ (s.data.toList.drop k).length := runN_le _ _
            have hdl : (s.data.toList.drop k).length = s.size - k := by rw [List.length_drop, Lib.size_eq]
            have hfe := feed_at s k wr
            have h1r : 1 ≤ runN notNl (s.data.toList.drop k) := by
              rw [runN_drop notNl _ _ _ (byte_at s k hlt) (by rw [hcb]; simp [notNl]; omega)]
              omega
            obtain ⟨r, hr⟩ : ∃ r, runN notNl (s.data.toList.drop k) = r := ⟨_, rfl⟩
            rw [hdl] at hfe hrl
            rw [hr] at hfe hrl HA2 h1r
            clear hr hdl
            by_cases hend : r = s.size - k
            · rw [if_pos hend] at hfe
              have HFE : Aside (Calls Tryz.prog 120 #[.string (s.extract k s.size), .int .u8 10] wr fun e w' => e = .returned (.int .i64 (-1)) ∧ w' = wr) := hfe
              clear hfe
              go_wp2_with (go_at_call 120; (with_reducible refine Calls.mono HFE.out ?_); rintro e w1 ⟨rfl, rfl⟩)
              go_roundg G
              case measure => omega
              case rel => exact ⟨k + r, out, by omega, by omega, by omega, by go_num, HO, HL, HA2⟩
            · rw [if_neg hend] at hfe
              have HFE : Aside (Calls Tryz.prog 120 #[.string (s.extract k s.size), .int .u8 10] wr fun e w' => e = .returned (.int .i64 r) ∧ w' = wr) := hfe
              clear hfe
              go_wp2_with (go_at_call 120; (with_reducible refine Calls.mono HFE.out ?_); rintro e w1 ⟨rfl, rfl⟩)
              go_roundg G
              case measure => omega
              case rel => exact ⟨k + r, out, by omega, by omega, by omega, by go_num, HO, HL, HA2⟩
          · have n35 : ((c.toNat : Int) == 35) = false := by simp only [beq_eq_false_iff_ne]; omega
            by_cases her : er = 0
            · subst her
              go_wp2_with (first
                | (go_at_call 121; refine (one21_any _ hsz hs0 _).mono ?_; rintro e w2 ⟨rfl, hbel⟩; rw [HX.out, HOR.out]; simp only [Tok.v]; have HB : Aside (Later wr w2) := hbel; clear hbel)
                | (at_builtin; refine wpList_append_own _ rfl (.tmp 61) (.tmp 63) 147 rfl w.heap.size 152 i0 (.agg #[.int .i64 0, .string ⟨#[]⟩, .int .i64 0, .int .i64 0]) 4 40 Tryz.underlying147 hi hz0 hz1 hz2 rfl (by decide) _ _ _ rfl (((owned_later HO.out HB.out).alloc _).alloc _) ⟨w2.heap.size + 1, 0, none⟩ 1 1 [.int .i64 tk, .string tt, .int .i64 tn, .int .i64 k] rfl rfl ?c1 ?c2 ?c3 ?c4 ?c5 ?_))
              case c1 => exact fun j u hj => cells4_at (by simp) _ _ _ _ _ j u hj
              case c2 =>
                intro u hu
                simp only [List.mem_cons, List.not_mem_nil, or_false] at hu
                rcases hu with rfl | rfl | rfl | rfl <;> rfl
              case c3 => unfold maxLen; omega
              case c4 => omega
              case c5 => have := HB.out.size; have := HL.out.size; simp; omega
              · intro v' w1 hown' hgrow _
                obtain ⟨n, hn, hn1, hn2⟩ := oneR_pos (s.extract k s.size) c ((head_is _ hs0 c).2 (by rw [HX.out])) (by rw [HOR.out])
                rw [HOR.out] at hn
                simp only at hn
                subst hn
                have hn3 : k + n ≤ s.size := by simp at hn2; omega
                obtain ⟨G, rfl⟩ : ∃ g, gk = g + 1 := ⟨gk - 1, by omega⟩
                have HA2 : Aside (splitGo s s.size 0 [] = splitGo s G (k + n) (out ++ [(⟨tk, tt, tn, (k : Int)⟩ : Tok)])) := by
                  refine HA.out.trans ?_
                  rw [splitGo, dif_pos hlt, hcb, if_neg hb, if_neg h35, HOR.out, if_pos rfl]
                  first | done | rfl
                have HO2 : Aside (w1.ownsRow w.heap.size 152 4 v' (out ++ [(⟨tk, tt, tn, (k : Int)⟩ : Tok)]).length (tokCells (out ++ [(⟨tk, tt, tn, (k : Int)⟩ : Tok)]))) := by
                  show World.ownsRow _ _ _ _ _ _ _
                  rw [tokCells_snoc, List.length_append]
                  exact hown'
                have HL2 : Aside (Later w w1) := by
                  have b1 : Below w.heap.size w w2 := HL.out.trans (HB.out.mono HL.out.size)
                  have z1 := b1.size
                  refine ((b1.alloc z1 _).alloc (by simp; omega) _).grown hgrow (by simp; omega) (fun q hq => ?_)
                  rcases HO.out.2 with ⟨hv, _⟩ | ⟨g, cap, cur, hv, hg, _⟩
                  · rw [hv] at hq; simp [Value.ownBlock] at hq
                  · rw [hv] at hq; simp [Value.ownBlock] at hq; omega
                clear hown' hgrow
                go_wp2
                go_roundg G
                case measure => omega
                case rel => exact ⟨k + n, _, by omega, by omega, by simp; omega, by go_num, HO2, HL2, HA2⟩
            · go_wp2_with (go_at_call 121; refine (one21_any _ hsz hs0 _).mono ?_; rintro e w2 ⟨rfl, hbel⟩; rw [HX.out, HOR.out]; simp only [Tok.v]; have HB : Aside (Later wr w2) := hbel; clear hbel)
              go_ret3
              obtain ⟨G, rfl⟩ : ∃ g, gk = g + 1 := ⟨gk - 1, by omega⟩
              have hfin : splitR s = ([], (k : Int), er) := by
                rw [hR.out, HA.out, splitGo, dif_pos hlt, hcb, if_neg hb, if_neg h35, HOR.out, if_neg her]
              rw [hfin]
              exact ⟨_, rfl, ((HL.out.trans (HB.out.mono HL.out.size)).alloc (by have := HL.out.size; have := HB.out.size; omega) _), World.ownsRow_nil _ _ _ _⟩
      · have hkz : k = s.size := by omega
        subst hkz
        go_wp2_with (at_builtin; refine wpList_append_own _ rfl (.tmp 68) (.tmp 71) 147 rfl w.heap.size 152 i0 (.agg #[.int .i64 0, .string ⟨#[]⟩, .int .i64 0, .int .i64 0]) 4 40 Tryz.underlying147 hi hz0 hz1 hz2 rfl (by decide) _ _ _ rfl (HO.out.alloc _) ⟨wr.heap.size, 0, none⟩ 1 1 [.int .i64 0, .string ⟨#[]⟩, .int .i64 0, .int .i64 s.size] rfl rfl ?d1 ?d2 ?d3 ?d4 ?d5 ?_)
        case d1 => exact fun j u hj => cells4_at (by simp) _ _ _ _ _ j u hj
        case d2 =>
          intro u hu
          simp only [List.mem_cons, List.not_mem_nil, or_false] at hu
          rcases hu with rfl | rfl | rfl | rfl <;> rfl
        case d3 => unfold maxLen; omega
        case d4 => omega
        case d5 => have := HL.out.size; simp; omega
        · intro v' w1 hown' hgrow _
          have hfin : splitR s = (out ++ [endTok s], 0, 0) := by
            rw [hR.out, HA.out]
            cases gk with
            | zero => rfl
            | succ g => rw [splitGo, dif_neg (by omega)]
          have HF : Aside (splitR s = (out ++ [endTok s], 0, 0)) := hfin
          clear hfin
          have HO2 : Aside (w1.ownsRow w.heap.size 152 4 v' (out ++ [endTok s]).length (tokCells (out ++ [endTok s]))) := by
            show World.ownsRow _ _ _ _ _ _ _
            rw [tokCells_snoc, List.length_append]
            exact hown'
          have HL2 : Aside (Later w w1) := by
            have z1 := HL.out.size
            refine (HL.out.alloc z1 _).grown hgrow (by simp; omega) (fun q hq => ?_)
            rcases HO.out.2 with ⟨hv, _⟩ | ⟨g, cap, cur, hv, hg, _⟩
            · rw [hv] at hq; simp [Value.ownBlock] at hq
            · rw [hv] at hq; simp [Value.ownBlock] at hq; omega
          clear hown' hgrow
          go_wp2
          go_ret3
          rw [HF.out]
          exact ⟨_, rfl, HL2, HO2⟩
end Go.Proofs.YtgioobgahlcdhaaGreatDoor
end

section
/- paling/script.arg: a text; at every word. -/
namespace Go.Proofs.YtgioobgahlcdhaaGreatDoor
open Go.RowKit Go.Shelf Go.Sort Go.Lib

theorem splitGo_ne (s : ByteArray) : ∀ (g i : Nat) (out : List Tok), (splitGo s g i out).2.2 = 0 → (splitGo s g i out).1 ≠ []
  | 0, _, out, _ => by simp [splitGo]
  | g + 1, i, out, h => by
    rw [splitGo] at h ⊢
    split at h
    · rename_i hi
      rw [dif_pos hi]
      split at h
      · rename_i h1; rw [if_pos h1]; exact splitGo_ne s g _ _ h
      · rename_i h1
        rw [if_neg h1]
        split at h
        · rename_i h2; rw [if_pos h2]; exact splitGo_ne s g _ _ h
        · rename_i h2
          rw [if_neg h2]
          split at h
          · rename_i h3; rw [if_pos h3]; exact splitGo_ne s g _ _ h
          · rename_i h3; exact absurd h h3
    · rename_i hi
      rw [dif_neg hi]
      simp
theorem splitR_ne (s : ByteArray) (h : (splitR s).2.2 = 0) : (splitR s).1 ≠ [] := by
  unfold splitR at h ⊢
  split
  · rename_i h1; rw [if_pos h1] at h; simp at h
  · rename_i h1; rw [if_neg h1] at h; exact splitGo_ne s _ _ _ h

/-- lex.Split where all goes well: its slice, and the first token's cells. -/
theorem lexSplit_ok (s : ByteArray) (hs : s.size ≤ 1000000) (w : World) (hc : Calm w) (t : Tok) (rest : List Tok) (i : Int) (h : splitR s = (t :: rest, i, 0)) :
    Calls Tryz.prog 117 #[.string s] w fun e w' => ∃ g cap, e = .returned (.tuple #[.slice (some ⟨g, 0, none⟩) (rest.length + 1) cap, .int .i64 i, .int .i64 0]) ∧ Later w w' ∧
      w'.cell? ⟨g, 0, none⟩ = some (.int .i64 t.k) ∧ w'.cell? ⟨g, 1, none⟩ = some (.string t.t) := by
  refine (lexSplit_any s hs w hc).mono ?_
  rintro e w' ⟨v, rfl, hl, ht⟩
  unfold Toks at ht
  rw [h] at ht ⊢
  have hlen : (t :: rest).length = rest.length + 1 := rfl
  rcases ht.2 with ⟨_, hz⟩ | ⟨g, cap, cur, rfl, hg, hr⟩
  · simp at hz
  · refine ⟨g, cap, rfl, hl, ?_, ?_⟩
    · exact (ht.cellAt 0 (by simp)).trans rfl
    · exact (ht.cellAt 1 (by simp; omega)).trans rfl
theorem lexSplit_err (s : ByteArray) (hs : s.size ≤ 1000000) (w : World) (hc : Calm w) (l : List Tok) (i er : Int) (h : splitR s = (l, i, er)) :
    Calls Tryz.prog 117 #[.string s] w fun e w' => ∃ v, e = .returned (.tuple #[v, .int .i64 i, .int .i64 er]) ∧ Later w w' := by
  refine (lexSplit_any s hs w hc).mono ?_
  rintro e w' ⟨v, rfl, hl, ht⟩
  rw [h]
  exact ⟨v, rfl, hl⟩

set_option maxHeartbeats 4000000 in
set_option maxRecDepth 1000000 in
theorem arg_text (s : ByteArray) (hs : s.size ≤ 1000000) (w : World) (hc : Calm w) (h0 : (s.toList == [110, 105, 108]) = false) (h1 : (s.toList == [116, 114, 117, 101]) = false) (h2 : (s.toList == [102, 97, 108, 115, 101]) = false) (hp : Lib.hasPrefix s.data.toList [35] = false) (hp2 : Lib.hasPrefix s.data.toList [34] = true) :
    Calls Tryz.prog 78 #[.string s] w (ArgPost s w) := by
  have hR0 : argR s = match splitR s with | ([t, _], _, 0) => if t.k = 3 ∧ t.t.size ≤ 200 then some ⟨3, 0, t.t, 0, false⟩ else none | _ => none := by
    unfold argR; rw [if_neg (by simpa using h0), if_neg (by simpa using h1), if_neg (by simpa using h2), if_neg (by simp [hp]), if_pos hp2]
    first | done | rfl
  have hc1 : Calm (w.alloc (.cells #[.int .u8 0, .int .i64 0, .string ⟨#[]⟩, .int .i64 0, .bool false] 43)) := hc.later ((Below.refl _ _).alloc (Nat.le_refl _) _)
  rcases hsp : splitR s with ⟨l, i, er⟩
  rw [hsp] at hR0
  have HSP : Aside (splitR s = (l, i, er)) := hsp
  by_cases her : er = 0
  · subst her
    cases l with
    | nil => exact absurd (by rw [hsp]) (splitR_ne s (by rw [hsp]))
    | cons t rest =>
      clear hsp
      by_cases hok : rest.length = 1 ∧ t.k = 3 ∧ t.t.size ≤ 200
      · obtain ⟨hl, hk, hz⟩ := hok
        obtain ⟨u, rfl⟩ := List.length_eq_one_iff.1 hl
        simp only [hk, hz, and_self, if_true] at hR0
        have hR : Hid (argR s = some ⟨3, 0, t.t, 0, false⟩) := hR0
        clear hR0 hl
        rcases t with ⟨tk, tt, tn, ta⟩
        simp only at hk hz hR
        subst hk
        go_enter Tryz.func78, Tryz.ntmps78
        go_wp2_with (first
          | (go_at_call 27; refine (Tryz.strings_HasPrefix _ _ _).mono ?_; rintro e w1 ⟨rfl, rfl⟩)
          | (go_at_call 117; refine (lexSplit_ok s hs _ hc1 _ _ _ HSP.out).mono ?_; rintro e w2 ⟨g, cap, rfl, hb, d0, d1⟩; have HB1 : Aside (Later _ w2) := hb; clear hb; simp only [List.length_singleton] at d0 d1 ⊢)
          | (go_at_call 81; refine (words_val _ _).mono ?_; rintro e w4 ⟨rfl, hb⟩; have hbel := HB1.out.step hb; clear hb; have h4 := (Five.new w _ _ _ _ _ _).later hbel (by simp); have H5 : Aside (Five _ _ _ _ _ _ _) := h4; obtain ⟨⟨c0, c1, c2, c3, c4⟩, f0, f1, f2, f3, f4⟩ := id h4; clear h4; have HB : Aside (Later _ _) := hbel; clear hbel))
        refine ret_arg rfl rfl (H5.out.range _ _ _ _ _) rfl rfl ?_
        exact ArgPost.some (a := ⟨3, 0, tt, 0, false⟩) hR.out (below_put5 (after w _ HB.out) (Nat.le_refl _) _ _ _ _ _)
      · have hR : Hid (argR s = none) := by
          show _ = _
          rw [hR0]
          split
          · rename_i hh
            cases hh
            rw [if_neg (fun h => hok ⟨rfl, h⟩)]
          · rfl
        clear hR0
        have HOK : Aside (¬ (rest.length = 1 ∧ t.k = 3 ∧ t.t.size ≤ 200)) := hok
        clear hok
        rcases t with ⟨tk, tt, tn, ta⟩
        simp only at HOK
        go_enter Tryz.func78, Tryz.ntmps78
        go_wp2_with (first
          | (go_at_call 27; refine (Tryz.strings_HasPrefix _ _ _).mono ?_; rintro e w1 ⟨rfl, rfl⟩)
          | (go_at_call 117; refine (lexSplit_ok s hs _ hc1 _ _ _ HSP.out).mono ?_; rintro e w2 ⟨g, cap, rfl, hbel, d0, d1⟩; simp only at d0 d1; have h4 := (Five.new w _ _ _ _ _ _).later hbel (by simp); have H5 : Aside (Five _ _ _ _ _ _ _) := h4; obtain ⟨⟨c0, c1, c2, c3, c4⟩, f0, f1, f2, f3, f4⟩ := id h4; clear h4; have HB : Aside (Later _ _) := hbel; clear hbel))
        · refine ret_arg rfl rfl (H5.out.range _ _ _ _ _) rfl rfl ?_
          exact ArgPost.none (a := ⟨0, 0, ⟨#[]⟩, 0, false⟩) hR.out (below_put5 (after w _ HB.out) (Nat.le_refl _) _ _ _ _ _)
        · have e1 : (rest.length : Int) + 1 = 2 := by assumption
          have e2 : tk = 3 := by assumption
          have e3 : (tt.size : Int) ≤ 200 := by assumption
          exact absurd ⟨by omega, e2, by omega⟩ HOK.out
        · refine ret_arg rfl rfl (H5.out.range _ _ _ _ _) rfl rfl ?_
          exact ArgPost.none (a := ⟨0, 0, ⟨#[]⟩, 0, false⟩) hR.out (below_put5 (after w _ HB.out) (Nat.le_refl _) _ _ _ _ _)
        · refine ret_arg rfl rfl (H5.out.range _ _ _ _ _) rfl rfl ?_
          exact ArgPost.none (a := ⟨0, 0, ⟨#[]⟩, 0, false⟩) hR.out (below_put5 (after w _ HB.out) (Nat.le_refl _) _ _ _ _ _)
  · have hR : Hid (argR s = none) := by
      show _ = _
      rw [hR0]
      split
      · rename_i hh; cases hh; exact absurd rfl her
      · rfl
    clear hR0 hsp
    go_enter Tryz.func78, Tryz.ntmps78
    go_wp2_with (first
      | (go_at_call 27; refine (Tryz.strings_HasPrefix _ _ _).mono ?_; rintro e w1 ⟨rfl, rfl⟩)
      | (go_at_call 117; refine (lexSplit_err s hs _ hc1 _ _ _ HSP.out).mono ?_; rintro e w2 ⟨v, rfl, hbel⟩; have h4 := (Five.new w _ _ _ _ _ _).later hbel (by simp); have H5 : Aside (Five _ _ _ _ _ _ _) := h4; obtain ⟨⟨c0, c1, c2, c3, c4⟩, f0, f1, f2, f3, f4⟩ := id h4; clear h4; have HB : Aside (Later _ _) := hbel; clear hbel))
    refine ret_arg rfl rfl (H5.out.range _ _ _ _ _) rfl rfl ?_
    exact ArgPost.none (a := ⟨0, 0, ⟨#[]⟩, 0, false⟩) hR.out (below_put5 (after w _ HB.out) (Nat.le_refl _) _ _ _ _ _)

theorem arg_any (s : ByteArray) (hs : s.size ≤ 1000000) (w : World) (hc : Calm w) : Calls Tryz.prog 78 #[.string s] w (ArgPost s w) := by
  cases h0 : (s.toList == [110, 105, 108]) with
  | true => exact arg_nil s w h0
  | false =>
    cases h1 : (s.toList == [116, 114, 117, 101]) with
    | true => exact arg_true s w h0 h1
    | false =>
      cases h2 : (s.toList == [102, 97, 108, 115, 101]) with
      | true => exact arg_false s w h0 h1 h2
      | false =>
        cases hp : Lib.hasPrefix s.data.toList [35] with
        | true => exact arg_handle s hs w hc h0 h1 h2 hp
        | false =>
          cases hp2 : Lib.hasPrefix s.data.toList [34] with
          | true => exact arg_text s hs w hc h0 h1 h2 hp hp2
          | false => exact arg_number s hs w hc h0 h1 h2 hp hp2
end Go.Proofs.YtgioobgahlcdhaaGreatDoor
end

section
/- The reference's told value, at every word. -/
namespace Go.Proofs.YtgioobgahlcdhaaGreatDoor
open Go.RowKit Go.Shelf Go.Sort Go.Lib

theorem digits_some {s : ByteArray} {n : Int} (hn : Go.X.digitsR s.data.toList = n) (h : 0 ≤ n) : numS s = some n := by
  rw [numS_digits]
  unfold Go.X.digitsR at hn
  split at hn
  · rename_i hc
    rw [if_pos hc, hn]
  · omega
theorem digits_none {s : ByteArray} {n : Int} (hn : Go.X.digitsR s.data.toList = n) (h : n < 0) : numS s = none := by
  rw [numS_digits]
  unfold Go.X.digitsR at hn
  split at hn
  · omega
  · rename_i hc
    rw [if_neg hc]
theorem split21_ok (s : ByteArray) (hs : s.size ≤ 1000000) (w : World) (t : Tok) (rest : List Tok) (i : Int) (h : splitR s = (t :: rest, i, 0)) :
    Calls Tryz.prog 80 #[.string s] w fun e w' => ∃ g cap, e = .returned (.tuple #[.slice (some ⟨g, 0, none⟩) (rest.length + 1) cap, .int .i64 i, .int .i64 0]) ∧ Later w w' ∧
      w'.cell? ⟨g, 0, none⟩ = some (.int .i64 t.k) ∧ w'.cell? ⟨g, 1, none⟩ = some (.string t.t) := by
  refine (split21_any s hs w).mono ?_
  rintro e w' ⟨v, rfl, hl, ht⟩
  unfold Toks at ht
  rw [h] at ht ⊢
  have hlen : (t :: rest).length = rest.length + 1 := rfl
  rcases ht.2 with ⟨_, hz⟩ | ⟨g, cap, cur, rfl, hg, hr⟩
  · simp at hz
  · refine ⟨g, cap, rfl, hl, ?_, ?_⟩
    · exact (ht.cellAt 0 (by simp)).trans rfl
    · exact (ht.cellAt 1 (by simp; omega)).trans rfl
theorem split21_err (s : ByteArray) (hs : s.size ≤ 1000000) (w : World) (l : List Tok) (i er : Int) (h : splitR s = (l, i, er)) :
    Calls Tryz.prog 80 #[.string s] w fun e w' => ∃ v, e = .returned (.tuple #[v, .int .i64 i, .int .i64 er]) ∧ Later w w' := by
  refine (split21_any s hs w).mono ?_
  rintro e w' ⟨v, rfl, hl, ht⟩
  rw [h]
  exact ⟨v, rfl, hl⟩

set_option maxHeartbeats 4000000 in
set_option maxRecDepth 1000000 in
theorem told_nil (s : ByteArray) (w : World) (h : (s.toList == [110, 105, 108]) = true) : Calls Tryz.prog 46 #[.string s] w (ArgPost s w) := by
  have hR : Hid (argR s = some ⟨0, 0, ⟨#[]⟩, 0, false⟩) := by show _ = _; unfold argR; rw [if_pos (by simpa using h)]
  go_enter Tryz.func46, Tryz.ntmps46
  go_wp2
  exact ret_arg rfl rfl (Five_range_new _ _ _ _ _ _ _) rfl rfl (ArgPost.some hR.out ((Below.refl _ _).alloc (Nat.le_refl _) _))

set_option maxHeartbeats 4000000 in
set_option maxRecDepth 1000000 in
theorem told_true (s : ByteArray) (w : World) (h0 : (s.toList == [110, 105, 108]) = false) (h : (s.toList == [116, 114, 117, 101]) = true) : Calls Tryz.prog 46 #[.string s] w (ArgPost s w) := by
  have hR : Hid (argR s = some ⟨1, 1, ⟨#[]⟩, 0, false⟩) := by show _ = _; unfold argR; rw [if_neg (by simpa using h0), if_pos (by simpa using h)]
  go_enter Tryz.func46, Tryz.ntmps46
  go_wp2_with (go_at_call 79; refine (truth_true _).mono ?_; rintro e w2 ⟨rfl, hbel⟩; have h4 := (Five.new w _ _ _ _ _ _).later hbel (by simp); have H5 : Aside (Five _ _ _ _ _ _ _) := h4; obtain ⟨⟨c0, c1, c2, c3, c4⟩, f0, f1, f2, f3, f4⟩ := id h4; clear h4; have HB : Aside (Later _ _) := hbel; clear hbel)
  refine ret_arg rfl rfl (H5.out.range _ _ _ _ _) rfl rfl ?_
  exact ArgPost.some (a := ⟨1, 1, ⟨#[]⟩, 0, false⟩) hR.out (below_put5 (after w _ HB.out) (Nat.le_refl _) _ _ _ _ _)

set_option maxHeartbeats 4000000 in
set_option maxRecDepth 1000000 in
theorem told_false (s : ByteArray) (w : World) (h0 : (s.toList == [110, 105, 108]) = false) (h1 : (s.toList == [116, 114, 117, 101]) = false) (h : (s.toList == [102, 97, 108, 115, 101]) = true) : Calls Tryz.prog 46 #[.string s] w (ArgPost s w) := by
  have hR : Hid (argR s = some ⟨1, 0, ⟨#[]⟩, 0, false⟩) := by show _ = _; unfold argR; rw [if_neg (by simpa using h0), if_neg (by simpa using h1), if_pos (by simpa using h)]
  go_enter Tryz.func46, Tryz.ntmps46
  go_wp2_with (go_at_call 79; refine (truth_false _).mono ?_; rintro e w2 ⟨rfl, hbel⟩; have h4 := (Five.new w _ _ _ _ _ _).later hbel (by simp); have H5 : Aside (Five _ _ _ _ _ _ _) := h4; obtain ⟨⟨c0, c1, c2, c3, c4⟩, f0, f1, f2, f3, f4⟩ := id h4; clear h4; have HB : Aside (Later _ _) := hbel; clear hbel)
  refine ret_arg rfl rfl (H5.out.range _ _ _ _ _) rfl rfl ?_
  exact ArgPost.some (a := ⟨1, 0, ⟨#[]⟩, 0, false⟩) hR.out (below_put5 (after w _ HB.out) (Nat.le_refl _) _ _ _ _ _)

set_option maxHeartbeats 4000000 in
set_option maxRecDepth 1000000 in
theorem told_handle (s : ByteArray) (hs : s.size ≤ 1000000) (w : World) (hz1 : 0 < s.size) (h0 : (s.toList == [110, 105, 108]) = false) (h1 : (s.toList == [116, 114, 117, 101]) = false) (h2 : (s.toList == [102, 97, 108, 115, 101]) = false) (hp : (((s[0]'hz1).toNat : Int) == 35) = true) : Calls Tryz.prog 46 #[.string s] w (ArgPost s w) := by
  have hpp : Lib.hasPrefix s.data.toList [35] = true := (Go.X.prefix_head _ _).2 ((head_is s hz1 35).2 (by simpa using hp))
  have hR : Hid (argR s = (numS (s.extract 1 s.size)).map fun n => ⟨0, 0, ⟨#[]⟩, n, true⟩) := by show _ = _; unfold argR; rw [if_neg (by simpa using h0), if_neg (by simpa using h1), if_neg (by simpa using h2), if_pos hpp]
  have hz : (s.extract 1 s.size).size ≤ 1000000 := by simp; omega
  obtain ⟨n, hn⟩ : ∃ n, Go.X.digitsR (s.extract 1 s.size).data.toList = n := ⟨_, rfl⟩
  have HC : Aside (∀ w, Calls Tryz.prog 45 #[.string (s.extract 1 s.size)] w fun e w' => e = .returned (.int .i64 n) ∧ w' = w) := fun w => by
    have := digits_any (s.extract 1 s.size) hz w
    rw [hn] at this
    exact this
  have HS : Aside (0 ≤ n → numS (s.extract 1 s.size) = some n) := fun h => digits_some hn h
  have HN : Aside (n < 0 → numS (s.extract 1 s.size) = none) := fun h => digits_none hn h
  clear hn hpp
  by_cases hn0 : 0 ≤ n
  · have HA : Aside (argR s = some ⟨0, 0, ⟨#[]⟩, n, true⟩) := by show _ = _; rw [hR.out, HS.out hn0]; first | done | rfl
    go_enter Tryz.func46, Tryz.ntmps46
    go_wp2_with (go_at_call 45; (with_reducible refine Calls.mono (HC.out _) ?_); rintro e w1 ⟨rfl, rfl⟩)
    exact ret_arg rfl rfl (Five_range_new _ _ _ _ _ _ _) rfl rfl (ArgPost.some HA.out ((Below.refl _ _).alloc (Nat.le_refl _) _))
  · have HA : Aside (argR s = none) := by show _ = _; rw [hR.out, HN.out (by omega)]; first | done | rfl
    have hn1 : n < 0 := by omega
    have hn2 : decide (0 ≤ n) = false := decide_eq_false hn0
    go_enter Tryz.func46, Tryz.ntmps46
    go_wp2_with (go_at_call 45; (with_reducible refine Calls.mono (HC.out _) ?_); rintro e w1 ⟨rfl, rfl⟩)
    exact ret_arg rfl rfl (Five_range_new _ _ _ _ _ _ _) rfl rfl (ArgPost.none (a := ⟨0, 0, ⟨#[]⟩, n, true⟩) HA.out ((Below.refl _ _).alloc (Nat.le_refl _) _))

set_option maxHeartbeats 4000000 in
set_option maxRecDepth 1000000 in
theorem told_whole (s : ByteArray) (hs : s.size ≤ 1000000) (w : World) (hz1 : 0 < s.size) (h0 : (s.toList == [110, 105, 108]) = false) (h1 : (s.toList == [116, 114, 117, 101]) = false) (h2 : (s.toList == [102, 97, 108, 115, 101]) = false) (hp : (((s[0]'hz1).toNat : Int) == 35) = false) (hp2 : (((s[0]'hz1).toNat : Int) == 34) = false) : Calls Tryz.prog 46 #[.string s] w (ArgPost s w) := by
  have n1 : ¬ Lib.hasPrefix s.data.toList [35] = true := fun h => by
    have := (head_is s hz1 35).1 ((Go.X.prefix_head _ _).1 h)
    simp only [beq_eq_false_iff_ne] at hp
    exact hp this
  have n2 : ¬ Lib.hasPrefix s.data.toList [34] = true := fun h => by
    have := (head_is s hz1 34).1 ((Go.X.prefix_head _ _).1 h)
    simp only [beq_eq_false_iff_ne] at hp2
    exact hp2 this
  have hR : Hid (argR s = (Go.X.wholeL s.data.toList).map fun n => ⟨2, n, ⟨#[]⟩, 0, false⟩) := by
    show _ = _
    rw [← arg_whole]
    unfold argR
    rw [if_neg (by simpa using h0), if_neg (by simpa using h1), if_neg (by simpa using h2), if_neg n1, if_neg n2]
    first | done | rfl
  clear n1 n2
  obtain ⟨r, hr⟩ : ∃ r, Go.X.wholeL s.data.toList = r := ⟨_, rfl⟩
  have HC : Aside (∀ w, Calls Tryz.prog 82 #[.string s] w fun e w' => ∃ v, e = .returned (.tuple #[.int .i64 v, .bool r.isSome]) ∧ w' = w ∧ ∀ u, r = some u → v = u) := fun w => by
    have := whole_any s hs w
    rw [hr] at this
    exact this
  rw [hr] at hR
  clear hr
  cases r with
  | none =>
    have HA : Aside (argR s = none) := hR.out
    clear hR
    go_enter Tryz.func46, Tryz.ntmps46
    go_wp2_with (first
      | (go_at_call 82; (with_reducible refine Calls.mono (HC.out _) ?_); rintro e w1 ⟨v, rfl, rfl, -⟩; simp only [Option.isSome_none])
      | (go_at_call 13; refine (number_val v _).mono ?_; rintro e w4 ⟨rfl, hbel⟩; have h4 := (Five.new w _ _ _ _ _ _).later hbel (by simp); have H6 : Aside (Five _ _ _ _ _ _ _) := h4; obtain ⟨⟨c0, c1, c2, c3, c4⟩, f0, f1, f2, f3, f4⟩ := id h4; clear h4; have HB : Aside (Later _ _) := hbel; clear hbel))
    refine ret_arg rfl rfl (H6.out.range _ _ _ _ _) rfl rfl ?_
    exact ArgPost.none (a := ⟨2, v, ⟨#[]⟩, 0, false⟩) HA.out (below_put5 (after w _ HB.out) (Nat.le_refl _) _ _ _ _ _)
  | some n =>
    have HA : Aside (argR s = some ⟨2, n, ⟨#[]⟩, 0, false⟩) := hR.out
    clear hR
    have HC2 : Aside (∀ w, Calls Tryz.prog 82 #[.string s] w fun e w' => e = .returned (.tuple #[.int .i64 n, .bool true]) ∧ w' = w) := fun w => by
      refine (HC.out w).mono ?_
      rintro e w' ⟨v, rfl, rfl, hv⟩
      rw [hv n rfl]
      exact ⟨rfl, rfl⟩
    clear HC
    go_enter Tryz.func46, Tryz.ntmps46
    go_wp2_with (first
      | (go_at_call 82; (with_reducible refine Calls.mono (HC2.out _) ?_); rintro e w1 ⟨rfl, rfl⟩)
      | (go_at_call 13; refine (number_val n _).mono ?_; rintro e w4 ⟨rfl, hbel⟩; have h4 := (Five.new w _ _ _ _ _ _).later hbel (by simp); have H6 : Aside (Five _ _ _ _ _ _ _) := h4; obtain ⟨⟨c0, c1, c2, c3, c4⟩, f0, f1, f2, f3, f4⟩ := id h4; clear h4; have HB : Aside (Later _ _) := hbel; clear hbel))
    refine ret_arg rfl rfl (H6.out.range _ _ _ _ _) rfl rfl ?_
    exact ArgPost.some (a := ⟨2, n, ⟨#[]⟩, 0, false⟩) HA.out (below_put5 (after w _ HB.out) (Nat.le_refl _) _ _ _ _ _)

set_option maxHeartbeats 4000000 in
set_option maxRecDepth 1000000 in
theorem told_text (s : ByteArray) (hs : s.size ≤ 1000000) (w : World) (hz1 : 0 < s.size) (h0 : (s.toList == [110, 105, 108]) = false) (h1 : (s.toList == [116, 114, 117, 101]) = false) (h2 : (s.toList == [102, 97, 108, 115, 101]) = false) (hq : (((s[0]'hz1).toNat : Int) == 35) = false) (hq2 : (((s[0]'hz1).toNat : Int) == 34) = true) :
    Calls Tryz.prog 46 #[.string s] w (ArgPost s w) := by
  have hp : Lib.hasPrefix s.data.toList [35] = false := by
    cases h : Lib.hasPrefix s.data.toList [35] with
    | false => rfl
    | true =>
      have := (head_is s hz1 35).1 ((Go.X.prefix_head _ _).1 h)
      simp only [beq_eq_false_iff_ne] at hq
      exact absurd this hq
  have hp2 : Lib.hasPrefix s.data.toList [34] = true := (Go.X.prefix_head _ _).2 ((head_is s hz1 34).2 (by simpa using hq2))
  have hR0 : argR s = match splitR s with | ([t, _], _, 0) => if t.k = 3 ∧ t.t.size ≤ 200 then some ⟨3, 0, t.t, 0, false⟩ else none | _ => none := by
    unfold argR; rw [if_neg (by simpa using h0), if_neg (by simpa using h1), if_neg (by simpa using h2), if_neg (by simp [hp]), if_pos hp2]
    first | done | rfl
  clear hp hp2
  rcases hsp : splitR s with ⟨l, i, er⟩
  rw [hsp] at hR0
  have HSP : Aside (splitR s = (l, i, er)) := hsp
  by_cases her : er = 0
  · subst her
    cases l with
    | nil => exact absurd (by rw [hsp]) (splitR_ne s (by rw [hsp]))
    | cons t rest =>
      clear hsp
      by_cases hok : rest.length = 1 ∧ t.k = 3 ∧ t.t.size ≤ 200
      · obtain ⟨hl, hk, hz⟩ := hok
        obtain ⟨u, rfl⟩ := List.length_eq_one_iff.1 hl
        simp only [hk, hz, and_self, if_true] at hR0
        have hR : Hid (argR s = some ⟨3, 0, t.t, 0, false⟩) := hR0
        clear hR0 hl
        rcases t with ⟨tk, tt, tn, ta⟩
        simp only at hk hz hR
        subst hk
        go_enter Tryz.func46, Tryz.ntmps46
        go_wp2_with (first
          | (go_at_call 80; refine (split21_ok s hs _ _ _ _ HSP.out).mono ?_; rintro e w2 ⟨g, cap, rfl, hb, d0, d1⟩; have HB1 : Aside (Later _ w2) := hb; clear hb; simp only [List.length_singleton] at d0 d1 ⊢)
          | (go_at_call 81; refine (words_val _ _).mono ?_; rintro e w4 ⟨rfl, hb⟩; have hbel := HB1.out.step hb; clear hb; have h4 := (Five.new w _ _ _ _ _ _).later hbel (by simp); have H5 : Aside (Five _ _ _ _ _ _ _) := h4; obtain ⟨⟨c0, c1, c2, c3, c4⟩, f0, f1, f2, f3, f4⟩ := id h4; clear h4; have HB : Aside (Later _ _) := hbel; clear hbel))
        refine ret_arg rfl rfl (H5.out.range _ _ _ _ _) rfl rfl ?_
        exact ArgPost.some (a := ⟨3, 0, tt, 0, false⟩) hR.out (below_put5 (after w _ HB.out) (Nat.le_refl _) _ _ _ _ _)
      · have hR : Hid (argR s = none) := by
          show _ = _
          rw [hR0]
          split
          · rename_i hh
            cases hh
            rw [if_neg (fun h => hok ⟨rfl, h⟩)]
          · rfl
        clear hR0
        have HOK : Aside (¬ (rest.length = 1 ∧ t.k = 3 ∧ t.t.size ≤ 200)) := hok
        clear hok
        rcases t with ⟨tk, tt, tn, ta⟩
        simp only at HOK
        go_enter Tryz.func46, Tryz.ntmps46
        go_wp2_with (first
          | (go_at_call 80; refine (split21_ok s hs _ _ _ _ HSP.out).mono ?_; rintro e w2 ⟨g, cap, rfl, hbel, d0, d1⟩; simp only at d0 d1; have h4 := (Five.new w _ _ _ _ _ _).later hbel (by simp); have H5 : Aside (Five _ _ _ _ _ _ _) := h4; obtain ⟨⟨c0, c1, c2, c3, c4⟩, f0, f1, f2, f3, f4⟩ := id h4; clear h4; have HB : Aside (Later _ _) := hbel; clear hbel))
        · refine ret_arg rfl rfl (H5.out.range _ _ _ _ _) rfl rfl ?_
          exact ArgPost.none (a := ⟨0, 0, ⟨#[]⟩, 0, false⟩) hR.out (below_put5 (after w _ HB.out) (Nat.le_refl _) _ _ _ _ _)
        · have e1 : (rest.length : Int) + 1 = 2 := by assumption
          have e2 : tk = 3 := by assumption
          have e3 : (tt.size : Int) ≤ 200 := by assumption
          exact absurd ⟨by omega, e2, by omega⟩ HOK.out
        · refine ret_arg rfl rfl (H5.out.range _ _ _ _ _) rfl rfl ?_
          exact ArgPost.none (a := ⟨0, 0, ⟨#[]⟩, 0, false⟩) hR.out (below_put5 (after w _ HB.out) (Nat.le_refl _) _ _ _ _ _)
        · refine ret_arg rfl rfl (H5.out.range _ _ _ _ _) rfl rfl ?_
          exact ArgPost.none (a := ⟨0, 0, ⟨#[]⟩, 0, false⟩) hR.out (below_put5 (after w _ HB.out) (Nat.le_refl _) _ _ _ _ _)
  · have hR : Hid (argR s = none) := by
      show _ = _
      rw [hR0]
      split
      · rename_i hh; cases hh; exact absurd rfl her
      · rfl
    clear hR0 hsp
    go_enter Tryz.func46, Tryz.ntmps46
    go_wp2_with (first
      | (go_at_call 80; refine (split21_err s hs _ _ _ _ HSP.out).mono ?_; rintro e w2 ⟨v, rfl, hbel⟩; have h4 := (Five.new w _ _ _ _ _ _).later hbel (by simp); have H5 : Aside (Five _ _ _ _ _ _ _) := h4; obtain ⟨⟨c0, c1, c2, c3, c4⟩, f0, f1, f2, f3, f4⟩ := id h4; clear h4; have HB : Aside (Later _ _) := hbel; clear hbel))
    refine ret_arg rfl rfl (H5.out.range _ _ _ _ _) rfl rfl ?_
    exact ArgPost.none (a := ⟨0, 0, ⟨#[]⟩, 0, false⟩) hR.out (below_put5 (after w _ HB.out) (Nat.le_refl _) _ _ _ _ _)

theorem told_any (s : ByteArray) (hs : s.size ≤ 1000000) (w : World) (hz1 : 0 < s.size) : Calls Tryz.prog 46 #[.string s] w (ArgPost s w) := by
  cases h0 : (s.toList == [110, 105, 108]) with
  | true => exact told_nil s w h0
  | false =>
    cases h1 : (s.toList == [116, 114, 117, 101]) with
    | true => exact told_true s w h0 h1
    | false =>
      cases h2 : (s.toList == [102, 97, 108, 115, 101]) with
      | true => exact told_false s w h0 h1 h2
      | false =>
        cases hp : (((s[0]'hz1).toNat : Int) == 35) with
        | true => exact told_handle s hs w hz1 h0 h1 h2 hp
        | false =>
          cases hp2 : (((s[0]'hz1).toNat : Int) == 34) with
          | true => exact told_text s hs w hz1 h0 h1 h2 hp hp2
          | false => exact told_whole s hs w hz1 h0 h1 h2 hp hp2
theorem told_no (s : ByteArray) (hs : s.size ≤ 1000000) (hz1 : 0 < s.size) (w : World) (h : argR s = none) :
    Calls Tryz.prog 46 #[.string s] w fun e w' => ∃ k n t hd b, e = .returned (.tuple #[.agg #[.int .u8 k, .int .i64 n, .string t, .int .i64 hd, .bool b], .bool false]) ∧ Later w w' := by
  refine (told_any s hs w hz1).mono ?_
  rintro e w' ⟨a, rfl, hl, _⟩
  rw [h]
  exact ⟨a.k, a.n, a.s, a.h, a.is, rfl, hl⟩
theorem told_yes (s : ByteArray) (hs : s.size ≤ 1000000) (hz1 : 0 < s.size) (w : World) (a : Arg) (h : argR s = some a) :
    Calls Tryz.prog 46 #[.string s] w fun e w' => e = .returned (.tuple #[.agg #[.int .u8 a.k, .int .i64 a.n, .string a.s, .int .i64 a.h, .bool a.is], .bool true]) ∧ Later w w' := by
  refine (told_any s hs w hz1).mono ?_
  rintro e w' ⟨b, rfl, hl, hb⟩
  rw [h, hb a h]
  exact ⟨rfl, hl⟩
end Go.Proofs.YtgioobgahlcdhaaGreatDoor
end

section
/- (*paling/script.Command).rest: parts. -/
namespace Go.Proofs.YtgioobgahlcdhaaGreatDoor
open Go.RowKit Go.Shelf Go.Sort Go.Lib

theorem step_append_own {P : Program} {ops : Array Oper} {o : Oper} {a : Act} {w : World} {K : Act → World → Prop} {Q : Exit → Act → World → Prop} {E : Prop}
    (hg : o.guard = none) (s x : Operand) (t : TypeId) (hop : o.op = Op.call { callee := Callee.builtin Builtin.append, args := #[s, x], argTypes := #[t, t] })
    (base : Nat) (e : TypeId) (i : TypeInfo) (z : Value) (size bytes : Nat) (h1 : P.underlying t = some (.slice e)) (h2 : P.info? e = some i) (h3 : i.zero = some z) (h4 : i.size = size) (h5 : i.bytes = bytes) (h6 : z.cells.size = size) (h7 : 0 < size)
    (v : Value) (n : Nat) (xs : List Value) (hs : a.eval s = v) (hown : w.ownsRow base e size v n xs)
    (ad : Addr) (m c : Nat) (news : List Value) (hx : a.eval x = .slice (some ad) m c) (hn : news.length = m * size) (hc : ∀ j u, news[j]? = some u → w.cell? (ad.add j) = some u) (h1c : ∀ u ∈ news, u.oneCell' = true)
    (b1 : n + m ≤ maxLen) (b2 : (n + m) * bytes ≤ 140737488355328) (hbase : base ≤ w.heap.size)
    (hK : ∀ v' w', w'.ownsRow base e size v' (n + m) (xs ++ news) → w.grownBy w' v.ownBlock → (v' = .slice none 0 0 ↔ v = .slice none 0 0 ∧ m = 0) → K (a.put o.dst v') w') :
    if Region.wanted o (yielded ops a.tmps) = true then Oper.wp P o a w K Q else E := by
  rw [if_pos (by simp [Region.wanted, hg])]
  exact wp_append_own w s x t hop base e i z size bytes h1 h2 h3 h4 h5 h6 h7 v n xs hs hown ad m c news hx hn hc h1c b1 b2 hbase hK

theorem own_form {w : World} {B : Nat} {e : TypeId} {sz : Nat} {v : Value} {n : Nat} {xs : List Value} (h : w.ownsRow B e sz v (n + 1) xs) : ∃ g cap, v = .slice (some ⟨g, 0, none⟩) (n + 1) cap ∧ B ≤ g ∧ g < w.heap.size := by
  rcases h.2 with ⟨_, hz⟩ | ⟨g, cap, cur, rfl, hg, hh, _⟩
  · omega
  · refine ⟨g, cap, rfl, hg, ?_⟩
    rcases Nat.lt_or_ge g w.heap.size with h' | h'
    · exact h'
    · simp [Array.getElem?_eq_none h'] at hh

/-- But for block c the world is as it was, with new blocks. -/
abbrev Only (c : Nat) (w w' : World) : Prop := w.grownBy w' (some c)
theorem Only.of {c : Nat} {w w' : World} (h : Later w w') : Only c w w' := ⟨h.os, h.tape, h.output, h.size, fun k hk _ => h.block k hk⟩
theorem Only.put {c : Nat} {w w' : World} (h : Only c w w') (i : Nat) (v : Value) : Only c w (w'.setCell ⟨c, i, none⟩ v) :=
  ⟨h.os, h.tape, h.output, by simpa [World.setCell] using h.size, fun k hk hne => by
    rw [Below.heap_setCell _ _ _ _ (by intro he; exact hne (by simp at he; rw [he]))]
    exact h.block k hk hne⟩
theorem Only.grown {c : Nat} {w w2 w1 : World} (h : Only c w w2) {row : Option Nat} (hg : w2.grownBy w1 row) (hr : ∀ k, row = some k → w.heap.size ≤ k) : Only c w w1 :=
  ⟨hg.os.trans h.os, hg.tape.trans h.tape, hg.output.trans h.output, Nat.le_trans h.size hg.size, fun k hk hne => by
    rw [hg.block k (Nat.lt_of_lt_of_le hk h.size) (fun e => by have := hr k e.symm; omega)]
    exact h.block k hk hne⟩
theorem Only.later {c : Nat} {W w w' : World} (h : Later W w) (k : Only c w w') (hc : W.heap.size ≤ c) : Later W w' :=
  ⟨k.os.trans h.os, k.tape.trans h.tape, k.output.trans h.output, Nat.le_trans h.size k.size, fun i hi => by
    rw [k.block i (Nat.lt_of_lt_of_le hi h.size) (fun e => by simp at e; omega)]
    exact h.block i hi⟩

theorem arg_none (s : ByteArray) (hs : s.size ≤ 1000000) (w : World) (hc : Calm w) (h : argR s = none) :
    Calls Tryz.prog 78 #[.string s] w fun e w' => ∃ k n t hd b, e = .returned (.tuple #[.agg #[.int .u8 k, .int .i64 n, .string t, .int .i64 hd, .bool b], .bool false]) ∧ Later w w' := by
  refine (arg_any s hs w hc).mono ?_
  rintro e w' ⟨a, rfl, hl, _⟩
  rw [h]
  exact ⟨a.k, a.n, a.s, a.h, a.is, rfl, hl⟩
theorem arg_some (s : ByteArray) (hs : s.size ≤ 1000000) (w : World) (hc : Calm w) (a : Arg) (h : argR s = some a) :
    Calls Tryz.prog 78 #[.string s] w fun e w' => e = .returned (.tuple #[.agg #[.int .u8 a.k, .int .i64 a.n, .string a.s, .int .i64 a.h, .bool a.is], .bool true]) ∧ Later w w' := by
  refine (arg_any s hs w hc).mono ?_
  rintro e w' ⟨b, rfl, hl, hb⟩
  rw [h, hb a h]
  exact ⟨rfl, hl⟩

def argCells (l : List Arg) : List Value := (l.map Arg.cells).flatten
theorem argCells_snoc (l : List Arg) (a : Arg) : argCells (l ++ [a]) = argCells l ++ a.cells := by simp [argCells]
theorem argInfo : (Tryz.prog.info? 43).map (fun i => (i.zero, i.size, i.bytes)) = some (some (.agg #[.int .u8 0, .int .i64 0, .string ⟨#[]⟩, .int .i64 0, .bool false]), 5, 48) := by kernel_rfl

def argsR : List ByteArray → Option (List Arg)
  | [] => some []
  | x :: r => match argR x with
    | none => none
    | some a => (argsR r).map (a :: ·)
theorem argsR_append (l : List ByteArray) (x : ByteArray) : argsR (l ++ [x]) = match argsR l, argR x with | some al, some a => some (al ++ [a]) | _, _ => none := by
  induction l with
  | nil => simp only [List.nil_append, argsR]; cases argR x <;> rfl
  | cons y l ih =>
    simp only [List.cons_append, argsR]
    cases argR y with
    | none => rfl
    | some b =>
      simp only [ih]
      cases argsR l <;> cases argR x <;> rfl
theorem argsR_none (l r : List ByteArray) (h : argsR l = none) : argsR (l ++ r) = none := by
  induction l with
  | nil => simp [argsR] at h
  | cons y l ih =>
    simp only [List.cons_append, argsR] at h ⊢
    cases hy : argR y with
    | none => rfl
    | some b =>
      rw [hy] at h
      simp only [Option.map_eq_none_iff] at h ⊢
      exact ih h
theorem argsR_length (l : List ByteArray) (al : List Arg) (h : argsR l = some al) : al.length = l.length := by
  induction l generalizing al with
  | nil => simp [argsR] at h; subst h; rfl
  | cons y l ih =>
    simp only [argsR] at h
    cases hy : argR y with
    | none => rw [hy] at h; cases h
    | some b =>
      rw [hy] at h
      simp only [Option.map_eq_some_iff] at h
      obtain ⟨al', h', rfl⟩ := h
      simp [ih al' h']

/-- How many words may stand behind the numbers. -/
def restBad (kind : Int) (n : Nat) : Bool := if kind = 4 then decide (n ≠ 1) else if kind = 5 then decide (n < 1 ∨ 20 < n) else decide (n ≠ 0)
def restR (kind : Int) (ws : List ByteArray) : Option (List Arg) :=
  if restBad kind ws.length then none
  else match argsR ws with
    | none => none
    | some al => if kind = 5 ∧ (al.head?.map Arg.is) = some false then none else some al
end Go.Proofs.YtgioobgahlcdhaaGreatDoor
end
