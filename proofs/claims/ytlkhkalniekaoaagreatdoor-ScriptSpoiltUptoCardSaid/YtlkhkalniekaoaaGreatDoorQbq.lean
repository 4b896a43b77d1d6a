/- Parts of the proof: Yk. -/
import Derived.Test.YtlkhkalniekaoaaGreatDoorQbe
import Derived.Test.YtlkhkalniekaoaaGreatDoorQbp

set_option linter.unusedVariables false
set_option linter.unusedSimpArgs false

section
/- palinglaw21.ScriptSpoilt: the walk. -/
namespace Go.Proofs.YtlkhkalniekaoaaGreatDoor
open Go.RowKit Go.Shelf Go.Sort Go.Lib

set_option maxHeartbeats 4000000 in
set_option maxRecDepth 1000000 in
theorem spoilt_any (w : World) (v0 : Value) (ls : List LM) (hls : SliceL w v0 ls) (hll : ls.length ≤ 1048576) (a : Int) (ha0 : 0 ≤ a) (ha1 : a ≤ 65535) (ct : Int) (hc0 : 0 ≤ ct) (hc1 : ct ≤ 255) (m : ByteArray) (hm : m.size ≤ 1048576) (hc : Calm w) (hf : w.rangeAt 2 0 formCells.toList) (hf2 : Forms21 w)
    (hA : Calls Tryz.prog 5 #[] w fun e w' => e = .returned (.bool true) ∧ Later w w') :
    Calls Tryz.prog 4 #[v0, .int .u16 a, .int .u8 ct, .string m] w fun e w' => e = .returned (.bool true) ∧ Later w w' := by
  have HA : Aside (Calls Tryz.prog 5 #[] w fun e w' => e = .returned (.bool true) ∧ Later w w') := hA
  clear hA
  obtain ⟨p, c, rfl, hcl⟩ := hls
  have HCL : Aside (∀ i l, ls[i]? = some l → l.inn w ∧ ∃ R o, p = some ⟨R, o, none⟩ ∧ ∀ j u, l.cells[j]? = some u → w.cell? ⟨R, o + i * 6 + j, none⟩ = some u) := hcl
  clear hcl
  obtain ⟨N, hN⟩ : ∃ N, ls.length = N := ⟨_, rfl⟩
  rw [hN] at hll ⊢
  have HN : Aside (ls.length = N) := hN
  clear hN
  have HC : Aside (Calm w) := hc
  have HF : Aside (w.rangeAt 2 0 formCells.toList) := hf
  have HF2 : Aside (Forms21 w) := hf2
  clear hc hf hf2
  by_cases h15 : 15 < N
  · go_enter Tryz.func4, Tryz.ntmps4
    go_wp2_with (go_at_call 5; (with_reducible refine Calls.mono HA.out ?_); rintro e w1 ⟨rfl, hb1⟩; have B1 : Aside (Later w w1) := hb1; clear hb1)
    go_ret
    exact ⟨rfl, B1.out⟩
  · by_cases hm40 : 40 < m.size
    · go_enter Tryz.func4, Tryz.ntmps4
      go_wp2_with (go_at_call 5; (with_reducible refine Calls.mono HA.out ?_); rintro e w1 ⟨rfl, hb1⟩; have B1 : Aside (Later w w1) := hb1; clear hb1)
      go_ret
      exact ⟨rfl, B1.out⟩
    · go_enter Tryz.func4, Tryz.ntmps4
      go_wp2_with (go_at_call 5; (with_reducible refine Calls.mono HA.out ?_); rintro e w1 ⟨rfl, hb1⟩; have B1 : Aside (Later w w1) := hb1; clear hb1)
      go_loopg [9, 33] N (fun fu sv i wr => ∃ (k : Nat) (s : ByteArray), k + fu = N ∧ i = .int .i64 k ∧ sv = .string s ∧ s.size ≤ 809 * k ∧ Aside (Later w1 wr))
      case atStart => exact ⟨0, _, by omega, rfl, rfl, by decide, Below.refl _ _⟩
      case round =>
        obtain ⟨k, s, hk, rfl, rfl, hs, HL⟩ := hrel
        have hz1' := B1.out.size
        have hz2' := HL.out.size
        have HLw : Aside (Later w wr) := B1.out.trans (HL.out.mono (by omega))
        by_cases hkN : k < N
        · obtain ⟨l, hl⟩ : ∃ l, ls[k]? = some l := ⟨_, List.getElem?_eq_getElem (by rw [HN.out]; exact hkN)⟩
          obtain ⟨hin, R, o, rfl, hcells⟩ := HCL.out k l hl
          obtain ⟨pa, na, ca, pt, nt, ctx, J, T, cm, hva, hvt, hnt, hnt6, hJ6, hT6, hT, hcm, hcn, hca, hjoin, hline⟩ := line_open wr (HC.out.later HLw.out) (HF2.out.later HLw.out) l (hin.later HLw.out)
          have d0 : wr.cell? ⟨R, o + k * 6, none⟩ = some (.int .u8 l.d) := HLw.out.cellOf (hcells 0 _ rfl)
          have d1 : wr.cell? ⟨R, o + k * 6 + 1, none⟩ = some (.int .u32 l.a) := HLw.out.cellOf (hcells 1 _ rfl)
          have d2 : wr.cell? ⟨R, o + k * 6 + 2, none⟩ = some (.int .u32 l.b) := HLw.out.cellOf (hcells 2 _ rfl)
          have d3 : wr.cell? ⟨R, o + k * 6 + 3, none⟩ = some (.slice pa na ca) := by rw [← hva]; exact HLw.out.cellOf (hcells 3 _ rfl)
          have d4 : wr.cell? ⟨R, o + k * 6 + 4, none⟩ = some (.slice pt nt ctx) := by rw [← hvt]; exact HLw.out.cellOf (hcells 4 _ rfl)
          have d5 : wr.cell? ⟨R, o + k * 6 + 5, none⟩ = some (.int .u8 l.gap) := HLw.out.cellOf (hcells 5 _ rfl)
          have HJ : Aside (∀ w', Later wr w' → Calls Tryz.prog 6 #[.slice pt nt ctx, .string ⟨#[]⟩] w' fun e w'' => e = .returned (.string J) ∧ Later w' w'') := hjoin
          clear hcells hin hl hT hjoin hva hvt hnt hcm
          rcases cm with ⟨ck, cns, cal, csrc⟩
          have HLI : Aside (∀ w', Later wr w' → Calls Tryz.prog 7 #[.agg #[.int .u8 l.d, .int .u32 l.a, .int .u32 l.b, .slice pa na ca, .slice pt nt ctx, .int .u8 l.gap]] w' fun e w'' => ∃ p1 n1 c1 p2 n2 c2, e = .returned (.tuple #[.agg #[.int .i64 ck, .slice p1 n1 c1, .slice p2 n2 c2, .string csrc], .string T]) ∧ Later w' w'' ∧
            w''.ownsRow w'.heap.size 3 1 (.slice p1 n1 c1) cns.length (cns.map (Value.int .i64)) ∧ w''.ownsRow w'.heap.size 49 5 (.slice p2 n2 c2) cal.length (argCells cal)) := hline
          clear hline hcn hca
          by_cases h5 : 5 < nt
          · go_wp2
            go_ret
            exact ⟨rfl, HLw.out.alloc (by omega) _⟩
          · by_cases h200 : 200 < J.size
            · go_wp2_with (go_at_call 6; (with_reducible refine Calls.mono (HJ.out _ ((Below.refl _ _).alloc (Nat.le_refl _) _)) ?_); rintro e w2 ⟨rfl, hb⟩; have B2 : Aside (Later wr w2) := Later.step ((Below.refl _ _).alloc (Nat.le_refl _) _) hb; clear hb)
              go_ret
              exact ⟨rfl, HLw.out.step B2.out⟩
            · have hq1 : ¬ 9223372036854775807 < s.size + T.size := by omega
              go_wp2_with (first
                | (go_at_call 6; (with_reducible refine Calls.mono (HJ.out _ ((Below.refl _ _).alloc (Nat.le_refl _) _)) ?_); rintro e w2 ⟨rfl, hb⟩; obtain ⟨t0, t1, t2, t3, t4, t5⟩ := six_cells hb; have B2 : Aside (Later wr w2) := Later.step ((Below.refl _ _).alloc (Nat.le_refl _) _) hb; clear hb)
                | (go_at_call 7; (with_reducible refine Calls.mono (HLI.out _ B2.out) ?_); rintro e w3 ⟨p1, n1, c1, p2, n2, c2, rfl, hb, hr1, hr2⟩; clear t0 t1 t2 t3 t4 t5 hr1 hr2; have B3 : Aside (Later wr w3) := B2.out.step hb; clear hb))
              go_roundg (gk - 1)
              case measure => omega
              case rel => exact ⟨k + 1, _, by omega, by go_num, rfl, by rw [ByteArray.size_append]; omega, (Later.step HL.out B3.out).alloc (by have := B3.out.size; omega) _⟩
        · have hm0 : 0 ≤ a % ((s.size : Int) + 1) := Int.emod_nonneg _ (by omega)
          have hm1 : a % ((s.size : Int) + 1) < (s.size : Int) + 1 := Int.emod_lt_of_pos _ (by omega)
          obtain ⟨z, hz⟩ := Int.eq_ofNat_of_zero_le hm0
          rw [hz] at hm1
          have hzs : z ≤ s.size := by omega
          clear hm0 hm1
          obtain ⟨q, hq⟩ : ∃ q : Nat, ct % 7 = (q : Int) := ⟨(ct % 7).toNat, by omega⟩
          have hq6 : q ≤ 6 := by omega
          have hss : s.size ≤ 12135 := by omega
          have hq1 : ¬ 9223372036854775807 < z + m.size := by omega
          have hq2 : ¬ (9223372036854775807 : Int) < (z : Int) + (q : Int) := by omega
          go_wp2
          go_region
          have hXs : (s.extract 0 z ++ m ++ s.extract (min ((z : Int) + (q : Int)) (s.size : Int)).toNat s.size).size ≤ 1000000 := by
            simp only [ByteArray.size_append, ByteArray.size_extract]
            omega
          generalize s.extract 0 z ++ m ++ s.extract (min ((z : Int) + (q : Int)) (s.size : Int)).toNat s.size = S at hXs ⊢
          obtain ⟨l, i, e, h1, h2, h3, h4⟩ := both_parse S hXs w HC.out HF.out HF2.out
          have P1 : Aside (∀ w', Later w w' → Calls Tryz.prog 8 #[.string S] w' fun en w2 => ∃ p n c xs, en = .returned (.tuple #[.slice p n c, .int .i64 i, .int .i64 e]) ∧ Later w' w2 ∧ w2.ownsRow w'.heap.size 35 4 (.slice p n c) l.length xs ∧ Cmds w2 w'.heap.size l xs) := h1
          have P2 : Aside (∀ w', Later w w' → Calls Tryz.prog 10 #[.string S] w' fun en w2 => ∃ p n c xs, en = .returned (.tuple #[.slice p n c, .int .i64 i, .int .i64 e]) ∧ Later w' w2 ∧ w2.ownsRow w'.heap.size 35 4 (.slice p n c) l.length xs ∧ Cmds w2 w'.heap.size l xs) := h2
          have HSM : Aside (∀ c ∈ l, c.ns.length ≤ 1000000 ∧ c.al.length ≤ 1000000) := h4
          have HLL : Aside (l.length ≤ 1000000) := h3
          clear h1 h2 h3 h4
          have B1' : Aside (Later w wr.drew) := HLw.drew
          go_wp2_with (first
            | (go_at_call 8; (with_reducible refine Calls.mono (P1.out _ B1'.out) ?_); rintro en w2 ⟨p1, n1, c1, xs1, rfl, hb, ho, hm⟩; have B12 : Aside (Later wr.drew w2) := hb; have B2 : Aside (Later w w2) := B1'.out.step hb; have O1 : Aside (World.ownsRow _ _ _ _ _ _ _) := ho; have M1 : Aside (Cmds _ _ _ _) := hm; clear hb ho hm)
            | (go_at_call 10; (with_reducible refine Calls.mono (P2.out _ B2.out) ?_); rintro en w3 ⟨p2, n2, c2, xs2, rfl, hb, ho, hm⟩; have B23 : Aside (Later w2 w3) := hb; have B3 : Aside (Later w w3) := B2.out.step hb; have O2 : Aside (World.ownsRow _ _ _ _ _ _ _) := ho; have M2 : Aside (Cmds _ _ _ _) := hm; clear hb ho hm)
            | (go_at_call 9; (with_reducible refine Calls.mono (same_any w3 l p1 p2 n1 c1 n2 c2 _ _ xs1 xs2 (owned_later O1.out B23.out) (M1.out.later B23.out) O2.out M2.out HLL.out HSM.out) ?_); rintro en w4 ⟨rfl, hb⟩; have B4 : Aside (Later w w4) := B3.out.step hb; clear hb))
          go_ret
          exact ⟨rfl, B4.out⟩
end Go.Proofs.YtlkhkalniekaoaaGreatDoor
end
