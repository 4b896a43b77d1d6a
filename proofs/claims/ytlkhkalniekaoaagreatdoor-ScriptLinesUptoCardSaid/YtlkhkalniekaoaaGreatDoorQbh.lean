/- Parts of the proof: Yj. -/
import Derived.Test.YtlkhkalniekaoaaGreatDoorQbe
import Derived.Test.YtlkhkalniekaoaaGreatDoorQbg
import Derived.Test.YtlkhkalniekaoaaGreatDoorQbd

set_option linter.unusedVariables false
set_option linter.unusedSimpArgs false

section
/- palinglaw21.ScriptLines: the walk. -/
namespace Go.Proofs.YtlkhkalniekaoaaGreatDoor
open Go.RowKit Go.Shelf Go.Sort Go.Lib

theorem lines_next {ls : List LM} {k : Nat} {l : LM} (h : ls[k]? = some l) {s T : ByteArray} (hs : s = mkB (flat (noteL :: (((ls.take k).map LM.v).map LV.all).flatten))) (hT : T = mkB (flat l.v.rows)) :
    (l.gap % 4 = 0 → s ++ T ++ ⟨#[32, 10, 32, 32, 59, 32, 120, 10]⟩ = mkB (flat (noteL :: (((ls.take (k + 1)).map LM.v).map LV.all).flatten))) ∧ (¬ l.gap % 4 = 0 → s ++ T = mkB (flat (noteL :: (((ls.take (k + 1)).map LM.v).map LV.all).flatten))) := by
  subst hs hT
  have e : ((((ls.take (k + 1)).map LM.v).map LV.all).flatten) = (((ls.take k).map LM.v).map LV.all).flatten ++ l.v.all := by
    rw [List.take_add_one, h]
    simp
  have e8 : (⟨#[32, 10, 32, 32, 59, 32, 120, 10]⟩ : ByteArray) = mkB [32, 10, 32, 32, 59, 32, 120, 10] := rfl
  have eg : l.v.gap = l.gap := rfl
  rw [e, ← List.cons_append, flat_app, all_flat, eg]
  refine ⟨fun hg => ?_, fun hg => ?_⟩
  · rw [if_pos hg, e8, ← mkB_app, ← mkB_app, List.append_assoc]
  · rw [if_neg hg, ← mkB_app, List.append_nil]
set_option maxHeartbeats 4000000 in
set_option maxRecDepth 1000000 in
theorem lines_any (w : World) (v0 : Value) (ls : List LM) (hls : SliceL w v0 ls) (hll : ls.length ≤ 1048576) (hc : Calm w) (hf : w.rangeAt 2 0 formCells.toList) (hf2 : Forms21 w)
    (hA : Calls Tryz.prog 5 #[] w fun e w' => e = .returned (.bool true) ∧ Later w w') :
    Calls Tryz.prog 3 #[v0] w fun e w' => e = .returned (.bool true) ∧ Later w w' := by
  have HA : Aside (Calls Tryz.prog 5 #[] w fun e w' => e = .returned (.bool true) ∧ Later w w') := hA
  clear hA
  obtain ⟨p, c, rfl, hcl⟩ := hls
  have HCL : Aside (∀ i l, ls[i]? = some l → l.inn w ∧ ∃ R o, p = some ⟨R, o, none⟩ ∧ ∀ j u, l.cells[j]? = some u → w.cell? ⟨R, o + i * 6 + j, none⟩ = some u) := hcl
  clear hcl
  obtain ⟨N, hN⟩ : ∃ N, ls.length = N := ⟨_, rfl⟩
  rw [hN] at hll ⊢
  have HN : Aside (ls.length = N) := hN
  clear hN
  have HC : Aside (Calm w) := hc
  have HF : Aside (w.rangeAt 2 0 formCells.toList) := hf
  have HF2 : Aside (Forms21 w) := hf2
  clear hc hf hf2
  by_cases h40 : 40 < N
  · go_enter Tryz.func3, Tryz.ntmps3
    go_wp2_with (go_at_call 5; (with_reducible refine Calls.mono HA.out ?_); rintro e w1 ⟨rfl, hb1⟩; have B1 : Aside (Later w w1) := hb1; clear hb1)
    go_ret
    exact ⟨rfl, B1.out⟩
  · obtain ⟨i0, hi, hz0, hz1, hz2⟩ := info_parts cmdInfo
    go_enter Tryz.func3, Tryz.ntmps3
    go_wp2_with (go_at_call 5; (with_reducible refine Calls.mono HA.out ?_); rintro e w1 ⟨rfl, hb1⟩; have B1 : Aside (Later w w1) := hb1; clear hb1)
    go_loopg [3, 4, 19] N (fun fu sv wv i wr => ∃ (k : Nat) (s : ByteArray) (xs : List Value), k + fu = N ∧ i = .int .i64 k ∧ sv = .string s ∧ s.size ≤ 9 + 1122 * k ∧ Aside (Later w1 wr) ∧ Aside (s = mkB (flat (noteL :: (((ls.take k).map LM.v).map LV.all).flatten))) ∧
      Aside (wr.ownsRow w1.heap.size 35 4 wv k xs) ∧ Aside (Cmds wr w1.heap.size (((ls.take k).map LM.v).map LV.cmd) xs))
    case atStart => exact ⟨0, _, [], by omega, rfl, rfl, by decide, Below.refl _ _, rfl, World.ownsRow_nil _ _ _ _, rfl⟩
    case round =>
      obtain ⟨k, s, xs, hk, rfl, rfl, hs, HL, HS, HO, HM⟩ := hrel
      obtain ⟨pw, mw, cw, rfl⟩ := own_slice HO.out
      have hz1' := B1.out.size
      have hz2' := HL.out.size
      by_cases hkN : k < N
      · obtain ⟨l, hl⟩ : ∃ l, ls[k]? = some l := ⟨_, List.getElem?_eq_getElem (by rw [HN.out]; exact hkN)⟩
        obtain ⟨hin, R, o, rfl, hcells⟩ := HCL.out k l hl
        have HLw : Aside (Later w wr) := B1.out.trans (HL.out.mono (by omega))
        obtain ⟨⟨_, _, _, _, hg0, hg1⟩, _⟩ := id hin
        have hg0' : 0 ≤ l.gap := hg0
        have hg1' : l.gap ≤ 255 := hg1
        clear hg0 hg1
        obtain ⟨pa, na, ca, pt, nt, ct, J, T, cm, hva, hvt, hnt, hnt6, hJ6, hT6, hT, hcm, hcn, hca, hjoin, hline⟩ := line_open wr (HC.out.later HLw.out) (HF2.out.later HLw.out) l (hin.later HLw.out)
        have d0 : wr.cell? ⟨R, o + k * 6, none⟩ = some (.int .u8 l.d) := HLw.out.cellOf (hcells 0 _ rfl)
        have d1 : wr.cell? ⟨R, o + k * 6 + 1, none⟩ = some (.int .u32 l.a) := HLw.out.cellOf (hcells 1 _ rfl)
        have d2 : wr.cell? ⟨R, o + k * 6 + 2, none⟩ = some (.int .u32 l.b) := HLw.out.cellOf (hcells 2 _ rfl)
        have d3 : wr.cell? ⟨R, o + k * 6 + 3, none⟩ = some (.slice pa na ca) := by rw [← hva]; exact HLw.out.cellOf (hcells 3 _ rfl)
        have d4 : wr.cell? ⟨R, o + k * 6 + 4, none⟩ = some (.slice pt nt ct) := by rw [← hvt]; exact HLw.out.cellOf (hcells 4 _ rfl)
        have d5 : wr.cell? ⟨R, o + k * 6 + 5, none⟩ = some (.int .u8 l.gap) := HLw.out.cellOf (hcells 5 _ rfl)
        have HNX := lines_next hl HS.out hT
        have HJ : Aside (∀ w', Later wr w' → Calls Tryz.prog 6 #[.slice pt nt ct, .string ⟨#[]⟩] w' fun e w'' => e = .returned (.string J) ∧ Later w' w'') := hjoin
        have HCM : Aside (((ls.take (k + 1)).map LM.v).map LV.cmd = ((ls.take k).map LM.v).map LV.cmd ++ [cm]) := by
          show _ = _
          rw [List.take_add_one, hl, hcm]
          simp
        clear hcells hin hl hT hjoin hva hvt hnt hcm
        rcases cm with ⟨ck, cns, cal, csrc⟩
        have HLI : Aside (∀ w', Later wr w' → Calls Tryz.prog 7 #[.agg #[.int .u8 l.d, .int .u32 l.a, .int .u32 l.b, .slice pa na ca, .slice pt nt ct, .int .u8 l.gap]] w' fun e w'' => ∃ p1 n1 c1 p2 n2 c2, e = .returned (.tuple #[.agg #[.int .i64 ck, .slice p1 n1 c1, .slice p2 n2 c2, .string csrc], .string T]) ∧ Later w' w'' ∧
          w''.ownsRow w'.heap.size 3 1 (.slice p1 n1 c1) cns.length (cns.map (Value.int .i64)) ∧ w''.ownsRow w'.heap.size 49 5 (.slice p2 n2 c2) cal.length (argCells cal)) := hline
        clear hline hcn hca
        have HN4 : Aside (l.gap % 4 = 0 → s ++ T ++ ⟨#[32, 10, 32, 32, 59, 32, 120, 10]⟩ = mkB (flat (noteL :: (((ls.take (k + 1)).map LM.v).map LV.all).flatten))) := HNX.1
        have HN5 : Aside (¬ l.gap % 4 = 0 → s ++ T = mkB (flat (noteL :: (((ls.take (k + 1)).map LM.v).map LV.all).flatten))) := HNX.2
        clear HNX
        by_cases h10 : 10 < nt
        · go_wp2
          go_ret
          exact ⟨rfl, HLw.out.alloc (by omega) _⟩
        · by_cases h500 : 500 < J.size
          · go_wp2_with (go_at_call 6; (with_reducible refine Calls.mono (HJ.out _ ((Below.refl _ _).alloc (Nat.le_refl _) _)) ?_); rintro e w2 ⟨rfl, hb⟩; have B2 : Aside (Later wr w2) := Later.step ((Below.refl _ _).alloc (Nat.le_refl _) _) hb; clear hb)
            go_ret
            exact ⟨rfl, HLw.out.step B2.out⟩
          · have hq1 : ¬ 9223372036854775807 < s.size + T.size := by omega
            have hq2 : ¬ 9223372036854775807 < (s ++ T).size + 8 := by rw [ByteArray.size_append]; omega
            have hlw : Aside (∀ q, (Value.slice pw mw cw).ownBlock = some q → q < wr.heap.size) := own_lt HO.out
            by_cases hg4 : l.gap % 4 = 0
            all_goals (
              go_wp2_with (first
                | (go_at_call 6; (with_reducible refine Calls.mono (HJ.out _ ((Below.refl _ _).alloc (Nat.le_refl _) _)) ?_); rintro e w2 ⟨rfl, hb⟩; obtain ⟨t0, t1, t2, t3, t4, t5⟩ := six_cells hb; have B2 : Aside (Later wr w2) := Later.step ((Below.refl _ _).alloc (Nat.le_refl _) _) hb; have hw2 : wr.heap.size < w2.heap.size := (by have := hb.size; simp at this; omega); clear hb)
                | (go_at_call 7; (with_reducible refine Calls.mono (HLI.out _ B2.out) ?_); rintro e w3 ⟨p1, n1, c1, p2, n2, c2, rfl, hb, hr1, hr2⟩; have t5' := hb.cellOf t5; clear t0 t1 t2 t3 t4 t5; have B3 : Aside (Later wr w3) := B2.out.step hb; have hw3 : wr.heap.size < w3.heap.size := (by have := hb.size; omega); have O1 : Aside (World.ownsRow _ _ _ _ _ _ _) := own_mono hr1 (show w1.heap.size ≤ w2.heap.size by omega); have O2 : Aside (World.ownsRow _ _ _ _ _ _ _) := own_mono hr2 (show w1.heap.size ≤ w2.heap.size by omega); clear hb hr1 hr2)
                | (at_builtin; refine wpList_append_own _ rfl (.tmp 39) (.tmp 41) 24 rfl w1.heap.size 35 i0 (.agg #[.int .i64 0, .slice none 0 0, .slice none 0 0, .string ⟨#[]⟩]) 4 72 Tryz.underlying24 hi hz0 hz1 hz2 rfl (by decide) (.slice pw mw cw) k xs (by simp [Act.eval, Act.put]) (((owned_later HO.out B3.out).alloc _).alloc _) ⟨w3.heap.size + 1, 0, none⟩ 1 1 [.int .i64 ck, .slice p1 n1 c1, .slice p2 n2 c2, .string csrc] rfl rfl ?_ ?_ ?_ ?_ ?_ ?_; rotate_right; intro v' w4 hown' hgrow _; have t6 : w4.cell? ⟨wr.heap.size, 5, none⟩ = some (.int .u8 l.gap) := hgrow.cell (al1 (al1 t5' _) _) (fun h => absurd (hlw.out _ h.symm) (Nat.lt_irrefl _)); clear t5'))
              · have HO3 : ((w3.alloc (.cells #[.int .i64 ck, .slice p1 n1 c1, .slice p2 n2 c2, .string csrc] 35)).alloc (.cells #[.int .i64 ck, .slice p1 n1 c1, .slice p2 n2 c2, .string csrc] 35)).ownsRow w1.heap.size 35 4 (.slice pw mw cw) k xs :=
                  ((owned_later HO.out B3.out).alloc _).alloc _
                have HC3 : CmdCells ((w3.alloc (.cells #[.int .i64 ck, .slice p1 n1 c1, .slice p2 n2 c2, .string csrc] 35)).alloc (.cells #[.int .i64 ck, .slice p1 n1 c1, .slice p2 n2 c2, .string csrc] 35)) w1.heap.size ⟨ck, cns, cal, csrc⟩ [.int .i64 ck, .slice p1 n1 c1, .slice p2 n2 c2, .string csrc] :=
                  ⟨p1, n1, c1, p2, n2, c2, rfl, (O1.out.alloc _).alloc _, (O2.out.alloc _).alloc _⟩
                have HM3 : Cmds ((w3.alloc (.cells #[.int .i64 ck, .slice p1 n1 c1, .slice p2 n2 c2, .string csrc] 35)).alloc (.cells #[.int .i64 ck, .slice p1 n1 c1, .slice p2 n2 c2, .string csrc] 35)) w1.heap.size (((ls.take k).map LM.v).map LV.cmd) xs :=
                  HM.out.later ((B3.out.alloc (by omega) _).alloc (by simp; omega) _)
                have HOF : Aside (w4.ownsRow w1.heap.size 35 4 v' (k + 1) (xs ++ [.int .i64 ck, .slice p1 n1 c1, .slice p2 n2 c2, .string csrc])) := hown'
                have HCF : Aside (Cmds w4 w1.heap.size (((ls.take (k + 1)).map LM.v).map LV.cmd) (xs ++ [.int .i64 ck, .slice p1 n1 c1, .slice p2 n2 c2, .string csrc])) := by
                  show Cmds _ _ _ _
                  rw [HCM.out]
                  exact Cmds.snoc (HC3.grown HO3 hgrow) (HM3.grown HO3 hgrow)
                have HLF : Aside (Later w1 w4) := by
                  refine (((HL.out.trans (B3.out.mono (by omega))).alloc (by omega) _).alloc (by simp; omega) _).grown hgrow (by simp; omega) (fun q hq => own_block HO.out q hq)
                clear hown' hgrow
                go_roundg (gk - 1)
                case measure => omega
                case rel =>
                  first
                    | exact ⟨k + 1, _, _, by omega, by go_num, rfl, by (simp only [ByteArray.size_append]; show s.size + T.size + 8 ≤ _; omega), HLF.out, HN4.out hg4, HOF.out, HCF.out⟩
                    | exact ⟨k + 1, _, _, by omega, by go_num, rfl, by (simp only [ByteArray.size_append]; omega), HLF.out, HN5.out hg4, HOF.out, HCF.out⟩
              all_goals first
                | exact fun q u hq => cells4_at (by simp) _ _ _ _ _ q u hq
                | (intro u hu; simp only [List.mem_cons, List.not_mem_nil, or_false] at hu; rcases hu with rfl | rfl | rfl | rfl <;> rfl)
                | exact ⟨rfl, rfl, rfl, rfl⟩
                | (unfold maxLen; omega)
                | omega
                | (simp only [World.size_alloc]; omega))
      · have hkz : k = N := by omega
        have hall : ls.take k = ls := List.take_of_length_le (by rw [HN.out]; omega)
        have hok : ∀ l ∈ ls.map LM.v, l.ok := by
          intro x hx
          obtain ⟨l, hl, rfl⟩ := List.mem_map.1 hx
          obtain ⟨i, hi⟩ := List.mem_iff_getElem?.1 hl
          exact (HCL.out i l hi).1.1
        have hP := parse_law (ls.map LM.v) hok (by rw [List.length_map, HN.out]; omega) s (by rw [HS.out, hall]; first | done | rfl) (by omega)
        have hM := HM.out
        rw [hall] at hM
        have hb : ∀ c ∈ (ls.map LM.v).map LV.cmd, c.ns.length ≤ 1000000 ∧ c.al.length ≤ 1000000 := by
          intro c hc
          obtain ⟨x, hx, rfl⟩ := List.mem_map.1 hc
          exact cmd_bounds x (hok x hx)
        have hlen : ((ls.map LM.v).map LV.cmd).length = k := by rw [List.length_map, List.length_map, HN.out, hkz]
        obtain ⟨L, hL⟩ : ∃ L, (ls.map LM.v).map LV.cmd = L := ⟨_, rfl⟩
        rw [hL] at hP hM hb hlen
        have HLw : Aside (Later w wr) := B1.out.trans (HL.out.mono (by omega))
        have HPA : Aside (∀ w', Later w w' → Calls Tryz.prog 8 #[.string s] w' fun en w2 => ∃ p n c xs, en = .returned (.tuple #[.slice p n c, .int .i64 0, .int .i64 0]) ∧ Later w' w2 ∧ w2.ownsRow w'.heap.size 35 4 (.slice p n c) L.length xs ∧ Cmds w2 w'.heap.size L xs) := fun w' hl => by
          refine (parse_any s w' (HC.out.later hl) (range_later HF.out hl) (by omega)).mono ?_
          rintro en w2 ⟨v, xs, he, hb, ho, hm⟩
          rw [hP] at he ho hm
          obtain ⟨p, c, rfl⟩ := own_len ho
          exact ⟨p, _, c, xs, he, hb, ho, hm⟩
        have HO' : Aside (wr.ownsRow w1.heap.size 35 4 (.slice pw mw cw) L.length xs) := by
          show World.ownsRow _ _ _ _ _ _ _
          rw [hlen]
          exact HO.out
        have HM' : Aside (Cmds wr w1.heap.size L xs) := hM
        have HB : Aside (∀ c ∈ L, c.ns.length ≤ 1000000 ∧ c.al.length ≤ 1000000) := hb
        have HLL : Aside (L.length ≤ 1000000) := by show _ ≤ _; omega
        clear hP hM hb hlen hL hok hall
        go_wp2_with (first
          | (go_at_call 8; (with_reducible refine Calls.mono (HPA.out _ HLw.out) ?_); rintro en w2 ⟨p1, n1, c1, xs1, rfl, hb, ho, hm⟩; have B2 : Aside (Later wr w2) := hb; have O1 : Aside (World.ownsRow _ _ _ _ _ _ _) := ho; have M1 : Aside (Cmds _ _ _ _) := hm; clear hb ho hm)
          | (go_at_call 9; (with_reducible refine Calls.mono (same_any w2 L p1 pw n1 c1 mw cw _ _ xs1 xs O1.out M1.out (owned_later HO'.out B2.out) (HM'.out.later B2.out) HLL.out HB.out) ?_); rintro en w4 ⟨rfl, hb⟩; have B4 : Aside (Later w w4) := Later.step HLw.out (Later.step B2.out hb); clear hb))
        go_ret
        exact ⟨rfl, B4.out⟩
end Go.Proofs.YtlkhkalniekaoaaGreatDoor
end
