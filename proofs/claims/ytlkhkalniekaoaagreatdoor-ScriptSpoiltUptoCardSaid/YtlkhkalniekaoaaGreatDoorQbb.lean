/- Parts of the proof: Vg, Vh, Vi. -/
import Derived.Test.YtlkhkalniekaoaaGreatDoorQba
import Derived.Test.YtlkhkalniekaoaaGreatDoorQav
import Derived.Test.YtlkhkalniekaoaaGreatDoorQaw
import Derived.Test.YtlkhkalniekaoaaGreatDoorQax

set_option linter.unusedVariables false
set_option linter.unusedSimpArgs false

section
/- The reference's tokens, at every text. -/
namespace Go.Proofs.YtlkhkalniekaoaaGreatDoor
open Go.RowKit Go.Shelf Go.Sort Go.Lib

theorem run_feed (l : List UInt8) : Go.X.runB (fun x => x != 10) l = runN notNl l := by
  refine Go.X.runB_congr (q := fun c => notNl (c.toNat : Int)) (fun c => ?_) l
  unfold notNl
  rw [Bool.eq_iff_iff]
  simp only [bne_iff_ne, ne_eq, Bool.not_eq_true', decide_eq_false_iff_not]
  exact not_congr ⟨fun h => by rw [h]; first | done | rfl, fun h => UInt8.toNat_inj.1 (by have h10 : (10 : UInt8).toNat = 10 := rfl; omega)⟩
/-- strings.IndexByte of a line feed. -/
theorem feed_at (s : ByteArray) (k : Nat) (w : World) :
    Calls Tryz.prog 106 #[.string (s.extract k s.size), .int .u8 10] w fun e w' => e = .returned (.int .i64 (if runN notNl (s.data.toList.drop k) = (s.data.toList.drop k).length then -1 else ((runN notNl (s.data.toList.drop k) : Nat) : Int))) ∧ w' = w := by
  have h := Tryz.strings_IndexByte (s.extract k s.size) 10 w
  have hd : (s.extract k s.size).data.toList = s.data.toList.drop k := by
    rw [Lib.extract_data]
    exact List.take_of_length_le (by rw [List.length_drop, Lib.size_eq]; exact Nat.le_refl _)
  rw [hd, show (10 : Int).toNat.toUInt8 = 10 from rfl, Go.X.index_run, run_feed] at h
  exact h

set_option maxHeartbeats 8000000 in
set_option maxRecDepth 1000000 in
theorem split21_any (s : ByteArray) (hs : s.size ≤ 1000000) (w : World) :
    Calls Tryz.prog 71 #[.string s] w fun e w' => ∃ v, e = .returned (.tuple #[v, .int .i64 (splitR s).2.1, .int .i64 (splitR s).2.2]) ∧ Later w w' ∧ Toks w.heap.size w' v (splitR s).1 := by
  obtain ⟨i0, hi, hz0, hz1, hz2⟩ := info_parts tokInfo
  by_cases hbig : 8192 < s.size
  · have hR : Hid (splitR s = ([], 0, 2)) := by show _ = _; unfold splitR; rw [if_pos hbig]
    go_enter Tryz.func71, Tryz.ntmps71
    go_wp2
    go_ret3
    rw [hR.out]
    exact ⟨_, rfl, Below.refl _ _, World.ownsRow_nil _ _ _ _⟩
  · have hR : Hid (splitR s = splitGo s s.size 0 []) := by show _ = _; unfold splitR; rw [if_neg hbig]
    go_enter Tryz.func71, Tryz.ntmps71
    go_wp2
    go_loopg [5, 6] s.size (fun g v i wr => ∃ (k : Nat) (out : List Tok), s.size ≤ k + g ∧ k ≤ s.size ∧ out.length ≤ k ∧ i = .int .i64 k ∧ Aside (wr.ownsRow w.heap.size 155 4 v out.length (tokCells out)) ∧
        Aside (Later w wr) ∧ Aside (splitGo s s.size 0 [] = splitGo s g k out))
    case atStart => exact ⟨0, [], by omega, by omega, by simp, rfl, World.ownsRow_nil _ _ _ _, Below.refl _ _, rfl⟩
    case round =>
      obtain ⟨k, out, hk, hks, hol, rfl, HO, HL, HA⟩ := hrel
      by_cases hlt : k < s.size
      · obtain ⟨c, hcb⟩ : ∃ c, s[k]'hlt = c := ⟨_, rfl⟩
        have hsz : (s.extract k s.size).size ≤ 1000000 := by simp; omega
        have hs0 : 0 < (s.extract k s.size).size := by simp; omega
        rcases hor : oneR (s.extract k s.size) c with ⟨⟨tk, tt, tn, ta⟩, nn, er⟩
        have HOR : Aside (oneR (s.extract k s.size) c = _) := hor
        have HX : Aside ((s.extract k s.size)[0]'hs0 = c) := (extract_first s k hlt hs0).trans hcb
        clear hor
        by_cases hb : c.toNat = 32 ∨ c.toNat = 10
        · have hstep : ∀ g, splitGo s (g + 1) k out = splitGo s g (k + 1) out := fun g => by
            rw [splitGo, dif_pos hlt, hcb, if_pos hb]
          obtain ⟨g, rfl⟩ : ∃ g, gk = g + 1 := ⟨gk - 1, by omega⟩
          have HA2 : Aside (splitGo s s.size 0 [] = splitGo s g (k + 1) out) := HA.out.trans (hstep g)
          rcases hb with hb | hb
          · have n32 : ((c.toNat : Int) == 32) = true := by simp only [beq_iff_eq]; omega
            go_wp2
            go_roundg g
            case measure => omega
            case rel => exact ⟨k + 1, out, by omega, by omega, by omega, by go_num, HO, HL, HA2⟩
          · have n32 : ((c.toNat : Int) == 32) = false := by simp only [beq_eq_false_iff_ne]; omega
            have n10 : ((c.toNat : Int) == 10) = true := by simp only [beq_iff_eq]; omega
            go_wp2
            go_roundg g
            case measure => omega
            case rel => exact ⟨k + 1, out, by omega, by omega, by omega, by go_num, HO, HL, HA2⟩
        · have n32 : ((c.toNat : Int) == 32) = false := by simp only [beq_eq_false_iff_ne]; omega
          have n10 : ((c.toNat : Int) == 10) = false := by simp only [beq_eq_false_iff_ne]; omega
          by_cases h35 : c.toNat = 35
          · have n35 : ((c.toNat : Int) == 35) = true := by simp only [beq_iff_eq]; omega
            have hstep : ∀ g, splitGo s (g + 1) k out = splitGo s g (k + runN notNl (s.data.toList.drop k)) out := fun g => by
              rw [splitGo, dif_pos hlt, hcb, if_neg hb, if_pos h35]
            obtain ⟨G, rfl⟩ : ∃ g, gk = g + 1 := ⟨gk - 1, by omega⟩
            have HA2 : Aside (splitGo s s.size 0 [] = splitGo s G (k + runN notNl (s.data.toList.drop k)) out) := HA.out.trans (hstep G)
            have hrl : runN notNl (s.data.toList.drop k) ≤ (s.data.toList.drop k).length := runN_le _ _
            have hdl : (s.data.toList.drop k).length = s.size - k := by rw [List.length_drop, Lib.size_eq]
            have hfe := feed_at s k wr
            have h1r : 1 ≤ runN notNl (s.data.toList.drop k) := by
              rw [runN_drop notNl _ _ _ (byte_at s k hlt) (by rw [hcb]; simp [notNl]; omega)]
              omega
            obtain ⟨r, hr⟩ : ∃ r, runN notNl (s.data.toList.drop k) = r := ⟨_, rfl⟩
            rw [hdl] at hfe hrl
            rw [hr] at hfe hrl HA2 h1r
            clear hr hdl
            by_cases hend : r = s.size - k
            · rw [if_pos hend] at hfe
              have HFE : Aside (Calls Tryz.prog 106 #[.string (s.extract k s.size), .int .u8 10] wr fun e w' => e = .returned (.int .i64 (-1)) ∧ w' = wr) := hfe
              clear hfe
              go_wp2_with (go_at_call 106; (with_reducible refine Calls.mono HFE.out ?_); rintro e w1 ⟨rfl, rfl⟩)
              go_roundg G
              case measure => omega
              case rel => exact ⟨k + r, out, by omega, by omega, by omega, by go_num, HO, HL, HA2⟩
            · rw [if_neg hend] at hfe
              have HFE : Aside (Calls Tryz.prog 106 #[.string (s.extract k s.size), .int .u8 10] wr fun e w' => e = .returned (.int .i64 r) ∧ w' = wr) := hfe
              clear hfe
              go_wp2_with (go_at_call 106; (with_reducible refine Calls.mono HFE.out ?_); rintro e w1 ⟨rfl, rfl⟩)
              go_roundg G
              case measure => omega
              case rel => exact ⟨k + r, out, by omega, by omega, by omega, by go_num, HO, HL, HA2⟩
          · have n35 : ((c.toNat : Int) == 35) = false := by simp only [beq_eq_false_iff_ne]; omega
            by_cases her : er = 0
            · subst her
              go_wp2_with (first
                | (go_at_call 107; refine (one21_any _ hsz hs0 _).mono ?_; rintro e w2 ⟨rfl, hbel⟩; rw [HX.out, HOR.out]; simp only [Tok.v]; have HB : Aside (Later wr w2) := hbel; clear hbel)
                | (at_builtin; refine wpList_append_own _ rfl (.tmp 61) (.tmp 63) 150 rfl w.heap.size 155 i0 (.agg #[.int .i64 0, .string ⟨#[]⟩, .int .i64 0, .int .i64 0]) 4 40 Tryz.underlying150 hi hz0 hz1 hz2 rfl (by decide) _ _ _ rfl (((owned_later HO.out HB.out).alloc _).alloc _) ⟨w2.heap.size + 1, 0, none⟩ 1 1 [.int .i64 tk, .string tt, .int .i64 tn, .int .i64 k] rfl rfl ?c1 ?c2 ?c3 ?c4 ?c5 ?_))
              case c1 => exact fun j u hj => cells4_at (by simp) _ _ _ _ _ j u hj
              case c2 =>
                intro u hu
                simp only [List.mem_cons, List.not_mem_nil, or_false] at hu
                rcases hu with rfl | rfl | rfl | rfl <;> rfl
              case c3 => unfold maxLen; omega
              case c4 => omega
              case c5 => have := HB.out.size; have := HL.out.size; simp; omega
              · intro v' w1 hown' hgrow _
                obtain ⟨n, hn, hn1, hn2⟩ := oneR_pos (s.extract k s.size) c ((head_is _ hs0 c).2 (by rw [HX.out])) (by rw [HOR.out])
                rw [HOR.out] at hn
                simp only at hn
                subst hn
                have hn3 : k + n ≤ s.size := by simp at hn2; omega
                obtain ⟨G, rfl⟩ : ∃ g, gk = g + 1 := ⟨gk - 1, by omega⟩
                have HA2 : Aside (splitGo s s.size 0 [] = splitGo s G (k + n) (out ++ [(⟨tk, tt, tn, (k : Int)⟩ : Tok)])) := by
                  refine HA.out.trans ?_
                  rw [splitGo, dif_pos hlt, hcb, if_neg hb, if_neg h35, HOR.out, if_pos rfl]
                  first | done | rfl
                have HO2 : Aside (w1.ownsRow w.heap.size 155 4 v' (out ++ [(⟨tk, tt, tn, (k : Int)⟩ : Tok)]).length (tokCells (out ++ [(⟨tk, tt, tn, (k : Int)⟩ : Tok)]))) := by
                  show World.ownsRow _ _ _ _ _ _ _
                  rw [tokCells_snoc, List.length_append]
                  exact hown'
                have HL2 : Aside (Later w w1) := by
                  have b1 : Below w.heap.size w w2 := HL.out.trans (HB.out.mono HL.out.size)
                  have z1 := b1.size
                  refine ((b1.alloc z1 _).alloc (by simp; omega) _).grown hgrow (by simp; omega) (fun q hq => ?_)
                  rcases HO.out.2 with ⟨hv, _⟩ | ⟨g, cap, cur, hv, hg, _⟩
                  · rw [hv] at hq; simp [Value.ownBlock] at hq
                  · rw [hv] at hq; simp [Value.ownBlock] at hq; omega
                clear hown' hgrow
                go_wp2
                go_roundg G
                case measure => omega
                case rel => exact ⟨k + n, _, by omega, by omega, by simp; omega, by go_num, HO2, HL2, HA2⟩
            · go_wp2_with (go_at_call 107; refine (one21_any _ hsz hs0 _).mono ?_; rintro e w2 ⟨rfl, hbel⟩; rw [HX.out, HOR.out]; simp only [Tok.v]; have HB : Aside (Later wr w2) := hbel; clear hbel)
              go_ret3
              obtain ⟨G, rfl⟩ : ∃ g, gk = g + 1 := ⟨gk - 1, by omega⟩
              have hfin : splitR s = ([], (k : Int), er) := by
                rw [hR.out, HA.out, splitGo, dif_pos hlt, hcb, if_neg hb, if_neg h35, HOR.out, if_neg her]
              rw [hfin]
              exact ⟨_, rfl, ((HL.out.trans (HB.out.mono HL.out.size)).alloc (by have := HL.out.size; have := HB.out.size; omega) _), World.ownsRow_nil _ _ _ _⟩
      · have hkz : k = s.size := by omega
        subst hkz
        go_wp2_with (at_builtin; refine wpList_append_own _ rfl (.tmp 68) (.tmp 71) 150 rfl w.heap.size 155 i0 (.agg #[.int .i64 0, .string ⟨#[]⟩, .int .i64 0, .int .i64 0]) 4 40 Tryz.underlying150 hi hz0 hz1 hz2 rfl (by decide) _ _ _ rfl (HO.out.alloc _) ⟨wr.heap.size, 0, none⟩ 1 1 [.int .i64 0, .string ⟨#[]⟩, .int .i64 0, .int .i64 s.size] rfl rfl ?d1 ?d2 ?d3 ?d4 ?d5 ?_)
        case d1 => exact fun j u hj => cells4_at (by simp) _ _ _ _ _ j u hj
        case d2 =>
          intro u hu
          simp only [List.mem_cons, List.not_mem_nil, or_false] at hu
          rcases hu with rfl | rfl | rfl | rfl <;> rfl
        case d3 => unfold maxLen; omega
        case d4 => omega
        case d5 => have := HL.out.size; simp; omega
        · intro v' w1 hown' hgrow _
          have hfin : splitR s = (out ++ [endTok s], 0, 0) := by
            rw [hR.out, HA.out]
            cases gk with
            | zero => rfl
            | succ g => rw [splitGo, dif_neg (by omega)]
          have HF : Aside (splitR s = (out ++ [endTok s], 0, 0)) := hfin
          clear hfin
          have HO2 : Aside (w1.ownsRow w.heap.size 155 4 v' (out ++ [endTok s]).length (tokCells (out ++ [endTok s]))) := by
            show World.ownsRow _ _ _ _ _ _ _
            rw [tokCells_snoc, List.length_append]
            exact hown'
          have HL2 : Aside (Later w w1) := by
            have z1 := HL.out.size
            refine (HL.out.alloc z1 _).grown hgrow (by simp; omega) (fun q hq => ?_)
            rcases HO.out.2 with ⟨hv, _⟩ | ⟨g, cap, cur, hv, hg, _⟩
            · rw [hv] at hq; simp [Value.ownBlock] at hq
            · rw [hv] at hq; simp [Value.ownBlock] at hq; omega
          clear hown' hgrow
          go_wp2
          go_ret3
          rw [HF.out]
          exact ⟨_, rfl, HL2, HO2⟩
end Go.Proofs.YtlkhkalniekaoaaGreatDoor
end

section
/- The reference's told value, at every word. -/
namespace Go.Proofs.YtlkhkalniekaoaaGreatDoor
open Go.RowKit Go.Shelf Go.Sort Go.Lib

theorem digits_some {s : ByteArray} {n : Int} (hn : Go.X.digitsR s.data.toList = n) (h : 0 ≤ n) : numS s = some n := by
  rw [numS_digits]
  unfold Go.X.digitsR at hn
  split at hn
  · rename_i hc
    rw [if_pos hc, hn]
  · omega
theorem digits_none {s : ByteArray} {n : Int} (hn : Go.X.digitsR s.data.toList = n) (h : n < 0) : numS s = none := by
  rw [numS_digits]
  unfold Go.X.digitsR at hn
  split at hn
  · omega
  · rename_i hc
    rw [if_neg hc]
theorem split21_ok (s : ByteArray) (hs : s.size ≤ 1000000) (w : World) (t : Tok) (rest : List Tok) (i : Int) (h : splitR s = (t :: rest, i, 0)) :
    Calls Tryz.prog 71 #[.string s] w fun e w' => ∃ g cap, e = .returned (.tuple #[.slice (some ⟨g, 0, none⟩) (rest.length + 1) cap, .int .i64 i, .int .i64 0]) ∧ Later w w' ∧
      w'.cell? ⟨g, 0, none⟩ = some (.int .i64 t.k) ∧ w'.cell? ⟨g, 1, none⟩ = some (.string t.t) := by
  refine (split21_any s hs w).mono ?_
  rintro e w' ⟨v, rfl, hl, ht⟩
  unfold Toks at ht
  rw [h] at ht ⊢
  have hlen : (t :: rest).length = rest.length + 1 := rfl
  rcases ht.2 with ⟨_, hz⟩ | ⟨g, cap, cur, rfl, hg, hr⟩
  · simp at hz
  · refine ⟨g, cap, rfl, hl, ?_, ?_⟩
    · exact (ht.cellAt 0 (by simp)).trans rfl
    · exact (ht.cellAt 1 (by simp; omega)).trans rfl
theorem split21_err (s : ByteArray) (hs : s.size ≤ 1000000) (w : World) (l : List Tok) (i er : Int) (h : splitR s = (l, i, er)) :
    Calls Tryz.prog 71 #[.string s] w fun e w' => ∃ v, e = .returned (.tuple #[v, .int .i64 i, .int .i64 er]) ∧ Later w w' := by
  refine (split21_any s hs w).mono ?_
  rintro e w' ⟨v, rfl, hl, ht⟩
  rw [h]
  exact ⟨v, rfl, hl⟩

set_option maxHeartbeats 4000000 in
set_option maxRecDepth 1000000 in
theorem told_nil (s : ByteArray) (w : World) (h : (s.toList == [110, 105, 108]) = true) : Calls Tryz.prog 47 #[.string s] w (ArgPost s w) := by
  have hR : Hid (argR s = some ⟨0, 0, ⟨#[]⟩, 0, false⟩) := by show _ = _; unfold argR; rw [if_pos (by simpa using h)]
  go_enter Tryz.func47, Tryz.ntmps47
  go_wp2
  exact ret_arg rfl rfl (Five_range_new _ _ _ _ _ _ _) rfl rfl (ArgPost.some hR.out ((Below.refl _ _).alloc (Nat.le_refl _) _))

set_option maxHeartbeats 4000000 in
set_option maxRecDepth 1000000 in
theorem told_true (s : ByteArray) (w : World) (h0 : (s.toList == [110, 105, 108]) = false) (h : (s.toList == [116, 114, 117, 101]) = true) : Calls Tryz.prog 47 #[.string s] w (ArgPost s w) := by
  have hR : Hid (argR s = some ⟨1, 1, ⟨#[]⟩, 0, false⟩) := by show _ = _; unfold argR; rw [if_neg (by simpa using h0), if_pos (by simpa using h)]
  go_enter Tryz.func47, Tryz.ntmps47
  go_wp2_with (go_at_call 70; refine (truth_true _).mono ?_; rintro e w2 ⟨rfl, hbel⟩; have h4 := (Five.new w _ _ _ _ _ _).later hbel (by simp); have H5 : Aside (Five _ _ _ _ _ _ _) := h4; obtain ⟨⟨c0, c1, c2, c3, c4⟩, f0, f1, f2, f3, f4⟩ := id h4; clear h4; have HB : Aside (Later _ _) := hbel; clear hbel)
  refine ret_arg rfl rfl (H5.out.range _ _ _ _ _) rfl rfl ?_
  exact ArgPost.some (a := ⟨1, 1, ⟨#[]⟩, 0, false⟩) hR.out (below_put5 (after w _ HB.out) (Nat.le_refl _) _ _ _ _ _)

set_option maxHeartbeats 4000000 in
set_option maxRecDepth 1000000 in
theorem told_false (s : ByteArray) (w : World) (h0 : (s.toList == [110, 105, 108]) = false) (h1 : (s.toList == [116, 114, 117, 101]) = false) (h : (s.toList == [102, 97, 108, 115, 101]) = true) : Calls Tryz.prog 47 #[.string s] w (ArgPost s w) := by
  have hR : Hid (argR s = some ⟨1, 0, ⟨#[]⟩, 0, false⟩) := by show _ = _; unfold argR; rw [if_neg (by simpa using h0), if_neg (by simpa using h1), if_pos (by simpa using h)]
  go_enter Tryz.func47, Tryz.ntmps47
  go_wp2_with (go_at_call 70; refine (truth_false _).mono ?_; rintro e w2 ⟨rfl, hbel⟩; have h4 := (Five.new w _ _ _ _ _ _).later hbel (by simp); have H5 : Aside (Five _ _ _ _ _ _ _) := h4; obtain ⟨⟨c0, c1, c2, c3, c4⟩, f0, f1, f2, f3, f4⟩ := id h4; clear h4; have HB : Aside (Later _ _) := hbel; clear hbel)
  refine ret_arg rfl rfl (H5.out.range _ _ _ _ _) rfl rfl ?_
  exact ArgPost.some (a := ⟨1, 0, ⟨#[]⟩, 0, false⟩) hR.out (below_put5 (after w _ HB.out) (Nat.le_refl _) _ _ _ _ _)

set_option maxHeartbeats 4000000 in
set_option maxRecDepth 1000000 in
theorem told_handle (s : ByteArray) (hs : s.size ≤ 1000000) (w : World) (hz1 : 0 < s.size) (h0 : (s.toList == [110, 105, 108]) = false) (h1 : (s.toList == [116, 114, 117, 101]) = false) (h2 : (s.toList == [102, 97, 108, 115, 101]) = false) (hp : (((s[0]'hz1).toNat : Int) == 35) = true) : Calls Tryz.prog 47 #[.string s] w (ArgPost s w) := by
  have hpp : Lib.hasPrefix s.data.toList [35] = true := (Go.X.prefix_head _ _).2 ((head_is s hz1 35).2 (by simpa using hp))
  have hR : Hid (argR s = (numS (s.extract 1 s.size)).map fun n => ⟨0, 0, ⟨#[]⟩, n, true⟩) := by show _ = _; unfold argR; rw [if_neg (by simpa using h0), if_neg (by simpa using h1), if_neg (by simpa using h2), if_pos hpp]
  have hz : (s.extract 1 s.size).size ≤ 1000000 := by simp; omega
  obtain ⟨n, hn⟩ : ∃ n, Go.X.digitsR (s.extract 1 s.size).data.toList = n := ⟨_, rfl⟩
  have HC : Aside (∀ w, Calls Tryz.prog 46 #[.string (s.extract 1 s.size)] w fun e w' => e = .returned (.int .i64 n) ∧ w' = w) := fun w => by
    have := digits_any (s.extract 1 s.size) hz w
    rw [hn] at this
    exact this
  have HS : Aside (0 ≤ n → numS (s.extract 1 s.size) = some n) := fun h => digits_some hn h
  have HN : Aside (n < 0 → numS (s.extract 1 s.size) = none) := fun h => digits_none hn h
  clear hn hpp
  by_cases hn0 : 0 ≤ n
  · have HA : Aside (argR s = some ⟨0, 0, ⟨#[]⟩, n, true⟩) := by show _ = _; rw [hR.out, HS.out hn0]; first | done | rfl
    go_enter Tryz.func47, Tryz.ntmps47
    go_wp2_with (go_at_call 46; (with_reducible refine Calls.mono (HC.out _) ?_); rintro e w1 ⟨rfl, rfl⟩)
    exact ret_arg rfl rfl (Five_range_new _ _ _ _ _ _ _) rfl rfl (ArgPost.some HA.out ((Below.refl _ _).alloc (Nat.le_refl _) _))
  · have HA : Aside (argR s = none) := by show _ = _; rw [hR.out, HN.out (by omega)]; first | done | rfl
    have hn1 : n < 0 := by omega
    have hn2 : decide (0 ≤ n) = false := decide_eq_false hn0
    go_enter Tryz.func47, Tryz.ntmps47
    go_wp2_with (go_at_call 46; (with_reducible refine Calls.mono (HC.out _) ?_); rintro e w1 ⟨rfl, rfl⟩)
    exact ret_arg rfl rfl (Five_range_new _ _ _ _ _ _ _) rfl rfl (ArgPost.none (a := ⟨0, 0, ⟨#[]⟩, n, true⟩) HA.out ((Below.refl _ _).alloc (Nat.le_refl _) _))

set_option maxHeartbeats 4000000 in
set_option maxRecDepth 1000000 in
theorem told_whole (s : ByteArray) (hs : s.size ≤ 1000000) (w : World) (hz1 : 0 < s.size) (h0 : (s.toList == [110, 105, 108]) = false) (h1 : (s.toList == [116, 114, 117, 101]) = false) (h2 : (s.toList == [102, 97, 108, 115, 101]) = false) (hp : (((s[0]'hz1).toNat : Int) == 35) = false) (hp2 : (((s[0]'hz1).toNat : Int) == 34) = false) : Calls Tryz.prog 47 #[.string s] w (ArgPost s w) := by
  have n1 : ¬ Lib.hasPrefix s.data.toList [35] = true := fun h => by
    have := (head_is s hz1 35).1 ((Go.X.prefix_head _ _).1 h)
    simp only [beq_eq_false_iff_ne] at hp
    exact hp this
  have n2 : ¬ Lib.hasPrefix s.data.toList [34] = true := fun h => by
    have := (head_is s hz1 34).1 ((Go.X.prefix_head _ _).1 h)
    simp only [beq_eq_false_iff_ne] at hp2
    exact hp2 this
  have hR : Hid (argR s = (Go.X.wholeL s.data.toList).map fun n => ⟨2, n, ⟨#[]⟩, 0, false⟩) := by
    show _ = _
    rw [← arg_whole]
    unfold argR
    rw [if_neg (by simpa using h0), if_neg (by simpa using h1), if_neg (by simpa using h2), if_neg n1, if_neg n2]
    first | done | rfl
  clear n1 n2
  obtain ⟨r, hr⟩ : ∃ r, Go.X.wholeL s.data.toList = r := ⟨_, rfl⟩
  have HC : Aside (∀ w, Calls Tryz.prog 73 #[.string s] w fun e w' => ∃ v, e = .returned (.tuple #[.int .i64 v, .bool r.isSome]) ∧ w' = w ∧ ∀ u, r = some u → v = u) := fun w => by
    have := whole_any s hs w
    rw [hr] at this
    exact this
  rw [hr] at hR
  clear hr
  cases r with
  | none =>
    have HA : Aside (argR s = none) := hR.out
    clear hR
    go_enter Tryz.func47, Tryz.ntmps47
    go_wp2_with (first
      | (go_at_call 73; (with_reducible refine Calls.mono (HC.out _) ?_); rintro e w1 ⟨v, rfl, rfl, -⟩; simp only [Option.isSome_none])
      | (go_at_call 12; refine (number_val v _).mono ?_; rintro e w4 ⟨rfl, hbel⟩; have h4 := (Five.new w _ _ _ _ _ _).later hbel (by simp); have H6 : Aside (Five _ _ _ _ _ _ _) := h4; obtain ⟨⟨c0, c1, c2, c3, c4⟩, f0, f1, f2, f3, f4⟩ := id h4; clear h4; have HB : Aside (Later _ _) := hbel; clear hbel))
    refine ret_arg rfl rfl (H6.out.range _ _ _ _ _) rfl rfl ?_
    exact ArgPost.none (a := ⟨2, v, ⟨#[]⟩, 0, false⟩) HA.out (below_put5 (after w _ HB.out) (Nat.le_refl _) _ _ _ _ _)
  | some n =>
    have HA : Aside (argR s = some ⟨2, n, ⟨#[]⟩, 0, false⟩) := hR.out
    clear hR
    have HC2 : Aside (∀ w, Calls Tryz.prog 73 #[.string s] w fun e w' => e = .returned (.tuple #[.int .i64 n, .bool true]) ∧ w' = w) := fun w => by
      refine (HC.out w).mono ?_
      rintro e w' ⟨v, rfl, rfl, hv⟩
      rw [hv n rfl]
      exact ⟨rfl, rfl⟩
    clear HC
    go_enter Tryz.func47, Tryz.ntmps47
    go_wp2_with (first
      | (go_at_call 73; (with_reducible refine Calls.mono (HC2.out _) ?_); rintro e w1 ⟨rfl, rfl⟩)
      | (go_at_call 12; refine (number_val n _).mono ?_; rintro e w4 ⟨rfl, hbel⟩; have h4 := (Five.new w _ _ _ _ _ _).later hbel (by simp); have H6 : Aside (Five _ _ _ _ _ _ _) := h4; obtain ⟨⟨c0, c1, c2, c3, c4⟩, f0, f1, f2, f3, f4⟩ := id h4; clear h4; have HB : Aside (Later _ _) := hbel; clear hbel))
    refine ret_arg rfl rfl (H6.out.range _ _ _ _ _) rfl rfl ?_
    exact ArgPost.some (a := ⟨2, n, ⟨#[]⟩, 0, false⟩) HA.out (below_put5 (after w _ HB.out) (Nat.le_refl _) _ _ _ _ _)

set_option maxHeartbeats 4000000 in
set_option maxRecDepth 1000000 in
theorem told_text (s : ByteArray) (hs : s.size ≤ 1000000) (w : World) (hz1 : 0 < s.size) (h0 : (s.toList == [110, 105, 108]) = false) (h1 : (s.toList == [116, 114, 117, 101]) = false) (h2 : (s.toList == [102, 97, 108, 115, 101]) = false) (hq : (((s[0]'hz1).toNat : Int) == 35) = false) (hq2 : (((s[0]'hz1).toNat : Int) == 34) = true) :
    Calls Tryz.prog 47 #[.string s] w (ArgPost s w) := by
  have hp : Lib.hasPrefix s.data.toList [35] = false := by
    cases h : Lib.hasPrefix s.data.toList [35] with
    | false => rfl
    | true =>
      have := (head_is s hz1 35).1 ((Go.X.prefix_head _ _).1 h)
      simp only [beq_eq_false_iff_ne] at hq
      exact absurd this hq
  have hp2 : Lib.hasPrefix s.data.toList [34] = true := (Go.X.prefix_head _ _).2 ((head_is s hz1 34).2 (by simpa using hq2))
  have hR0 : argR s = match splitR s with | ([t, _], _, 0) => if t.k = 3 ∧ t.t.size ≤ 200 then some ⟨3, 0, t.t, 0, false⟩ else none | _ => none := by
    unfold argR; rw [if_neg (by simpa using h0), if_neg (by simpa using h1), if_neg (by simpa using h2), if_neg (by simp [hp]), if_pos hp2]
    first | done | rfl
  clear hp hp2
  rcases hsp : splitR s with ⟨l, i, er⟩
  rw [hsp] at hR0
  have HSP : Aside (splitR s = (l, i, er)) := hsp
  by_cases her : er = 0
  · subst her
    cases l with
    | nil => exact absurd (by rw [hsp]) (splitR_ne s (by rw [hsp]))
    | cons t rest =>
      clear hsp
      by_cases hok : rest.length = 1 ∧ t.k = 3 ∧ t.t.size ≤ 200
      · obtain ⟨hl, hk, hz⟩ := hok
        obtain ⟨u, rfl⟩ := List.length_eq_one_iff.1 hl
        simp only [hk, hz, and_self, if_true] at hR0
        have hR : Hid (argR s = some ⟨3, 0, t.t, 0, false⟩) := hR0
        clear hR0 hl
        rcases t with ⟨tk, tt, tn, ta⟩
        simp only at hk hz hR
        subst hk
        go_enter Tryz.func47, Tryz.ntmps47
        go_wp2_with (first
          | (go_at_call 71; refine (split21_ok s hs _ _ _ _ HSP.out).mono ?_; rintro e w2 ⟨g, cap, rfl, hb, d0, d1⟩; have HB1 : Aside (Later _ w2) := hb; clear hb; simp only [List.length_singleton] at d0 d1 ⊢)
          | (go_at_call 72; refine (words_val _ _).mono ?_; rintro e w4 ⟨rfl, hb⟩; have hbel := HB1.out.step hb; clear hb; have h4 := (Five.new w _ _ _ _ _ _).later hbel (by simp); have H5 : Aside (Five _ _ _ _ _ _ _) := h4; obtain ⟨⟨c0, c1, c2, c3, c4⟩, f0, f1, f2, f3, f4⟩ := id h4; clear h4; have HB : Aside (Later _ _) := hbel; clear hbel))
        refine ret_arg rfl rfl (H5.out.range _ _ _ _ _) rfl rfl ?_
        exact ArgPost.some (a := ⟨3, 0, tt, 0, false⟩) hR.out (below_put5 (after w _ HB.out) (Nat.le_refl _) _ _ _ _ _)
      · have hR : Hid (argR s = none) := by
          show _ = _
          rw [hR0]
          split
          · rename_i hh
            cases hh
            rw [if_neg (fun h => hok ⟨rfl, h⟩)]
          · rfl
        clear hR0
        have HOK : Aside (¬ (rest.length = 1 ∧ t.k = 3 ∧ t.t.size ≤ 200)) := hok
        clear hok
        rcases t with ⟨tk, tt, tn, ta⟩
        simp only at HOK
        go_enter Tryz.func47, Tryz.ntmps47
        go_wp2_with (first
          | (go_at_call 71; refine (split21_ok s hs _ _ _ _ HSP.out).mono ?_; rintro e w2 ⟨g, cap, rfl, hbel, d0, d1⟩; simp only at d0 d1; have h4 := (Five.new w _ _ _ _ _ _).later hbel (by simp); have H5 : Aside (Five _ _ _ _ _ _ _) := h4; obtain ⟨⟨c0, c1, c2, c3, c4⟩, f0, f1, f2, f3, f4⟩ := id h4; clear h4; have HB : Aside (Later _ _) := hbel; clear hbel))
        · refine ret_arg rfl rfl (H5.out.range _ _ _ _ _) rfl rfl ?_
          exact ArgPost.none (a := ⟨0, 0, ⟨#[]⟩, 0, false⟩) hR.out (below_put5 (after w _ HB.out) (Nat.le_refl _) _ _ _ _ _)
        · have e1 : (rest.length : Int) + 1 = 2 := by assumption
          have e2 : tk = 3 := by assumption
          have e3 : (tt.size : Int) ≤ 200 := by assumption
          exact absurd ⟨by omega, e2, by omega⟩ HOK.out
        · refine ret_arg rfl rfl (H5.out.range _ _ _ _ _) rfl rfl ?_
          exact ArgPost.none (a := ⟨0, 0, ⟨#[]⟩, 0, false⟩) hR.out (below_put5 (after w _ HB.out) (Nat.le_refl _) _ _ _ _ _)
        · refine ret_arg rfl rfl (H5.out.range _ _ _ _ _) rfl rfl ?_
          exact ArgPost.none (a := ⟨0, 0, ⟨#[]⟩, 0, false⟩) hR.out (below_put5 (after w _ HB.out) (Nat.le_refl _) _ _ _ _ _)
  · have hR : Hid (argR s = none) := by
      show _ = _
      rw [hR0]
      split
      · rename_i hh; cases hh; exact absurd rfl her
      · rfl
    clear hR0 hsp
    go_enter Tryz.func47, Tryz.ntmps47
    go_wp2_with (first
      | (go_at_call 71; refine (split21_err s hs _ _ _ _ HSP.out).mono ?_; rintro e w2 ⟨v, rfl, hbel⟩; have h4 := (Five.new w _ _ _ _ _ _).later hbel (by simp); have H5 : Aside (Five _ _ _ _ _ _ _) := h4; obtain ⟨⟨c0, c1, c2, c3, c4⟩, f0, f1, f2, f3, f4⟩ := id h4; clear h4; have HB : Aside (Later _ _) := hbel; clear hbel))
    refine ret_arg rfl rfl (H5.out.range _ _ _ _ _) rfl rfl ?_
    exact ArgPost.none (a := ⟨0, 0, ⟨#[]⟩, 0, false⟩) hR.out (below_put5 (after w _ HB.out) (Nat.le_refl _) _ _ _ _ _)

theorem told_any (s : ByteArray) (hs : s.size ≤ 1000000) (w : World) (hz1 : 0 < s.size) : Calls Tryz.prog 47 #[.string s] w (ArgPost s w) := by
  cases h0 : (s.toList == [110, 105, 108]) with
  | true => exact told_nil s w h0
  | false =>
    cases h1 : (s.toList == [116, 114, 117, 101]) with
    | true => exact told_true s w h0 h1
    | false =>
      cases h2 : (s.toList == [102, 97, 108, 115, 101]) with
      | true => exact told_false s w h0 h1 h2
      | false =>
        cases hp : (((s[0]'hz1).toNat : Int) == 35) with
        | true => exact told_handle s hs w hz1 h0 h1 h2 hp
        | false =>
          cases hp2 : (((s[0]'hz1).toNat : Int) == 34) with
          | true => exact told_text s hs w hz1 h0 h1 h2 hp hp2
          | false => exact told_whole s hs w hz1 h0 h1 h2 hp hp2
theorem told_no (s : ByteArray) (hs : s.size ≤ 1000000) (hz1 : 0 < s.size) (w : World) (h : argR s = none) :
    Calls Tryz.prog 47 #[.string s] w fun e w' => ∃ k n t hd b, e = .returned (.tuple #[.agg #[.int .u8 k, .int .i64 n, .string t, .int .i64 hd, .bool b], .bool false]) ∧ Later w w' := by
  refine (told_any s hs w hz1).mono ?_
  rintro e w' ⟨a, rfl, hl, _⟩
  rw [h]
  exact ⟨a.k, a.n, a.s, a.h, a.is, rfl, hl⟩
theorem told_yes (s : ByteArray) (hs : s.size ≤ 1000000) (hz1 : 0 < s.size) (w : World) (a : Arg) (h : argR s = some a) :
    Calls Tryz.prog 47 #[.string s] w fun e w' => e = .returned (.tuple #[.agg #[.int .u8 a.k, .int .i64 a.n, .string a.s, .int .i64 a.h, .bool a.is], .bool true]) ∧ Later w w' := by
  refine (told_any s hs w hz1).mono ?_
  rintro e w' ⟨b, rfl, hl, hb⟩
  rw [h, hb a h]
  exact ⟨rfl, hl⟩
end Go.Proofs.YtlkhkalniekaoaaGreatDoor
end

section
/- The reference's line: parts. -/
namespace Go.Proofs.YtlkhkalniekaoaaGreatDoor
open Go.RowKit Go.Shelf Go.Sort Go.Lib

/-- The reference's own table of kinds, wherever it lies. -/
def Forms21 (w : World) : Prop := ∃ R o c, w.cell? ⟨0, 0, none⟩ = some (.slice (some ⟨R, o, none⟩) 9 c) ∧
  ∀ (k : Nat) (W : ByteArray) (M : Nat), formTab[k]? = some (W, M) → w.cell? ⟨R, o + k * 2, none⟩ = some (.string W) ∧ w.cell? ⟨R, o + k * 2 + 1, none⟩ = some (.int .i64 M)
theorem Forms21.later {w w' : World} (h : Forms21 w) (k : Later w w') : Forms21 w' := by
  obtain ⟨R, o, c, h1, h2⟩ := h
  exact ⟨R, o, c, k.cellOf h1, fun q W M hq => ⟨k.cellOf (h2 q W M hq).1, k.cellOf (h2 q W M hq).2⟩⟩

theorem restR_nil {k : Int} (h4 : k ≠ 4) (h5 : k ≠ 5) : restR k [] = some [] := by
  unfold restR restBad
  rw [if_neg h4, if_neg h5]
  simp [argsR, h5]
theorem restR_bad {k : Int} {ws : List ByteArray} (h : restBad k ws.length = true) : restR k ws = none := by
  unfold restR
  rw [if_pos h]
theorem restR_args {k : Int} {ws : List ByteArray} (h : restBad k ws.length = false) : restR k ws = match argsR ws with | none => none | some al => if k = 5 ∧ (al.head?.map Arg.is) = some false then none else some al := by
  unfold restR
  rw [if_neg (by simp [h])]
  first | done | rfl
theorem restR_no {k : Int} {ws : List ByteArray} (h : argsR ws = none) : restR k ws = none := by
  unfold restR
  rw [h]
  split <;> rfl
theorem restR_head {ws : List ByteArray} {al : List Arg} (h : argsR ws = some al) (ha : (al.head?.map Arg.is) = some false) : restR 5 ws = none := by
  unfold restR
  rw [h]
  split
  · rfl
  · exact if_pos ⟨rfl, ha⟩
theorem argsR_first {x : ByteArray} {r : List ByteArray} {a : Arg} (h : argR x = some a) (hf : a.is = false) : restR 5 (x :: r) = none := by
  cases hr : argsR r with
  | none => exact restR_no (by simp only [argsR, h, hr]; first | done | rfl)
  | some al => exact restR_head (al := a :: al) (by simp only [argsR, h, hr]; first | done | rfl) (by simp [hf])
end Go.Proofs.YtlkhkalniekaoaaGreatDoor
end
