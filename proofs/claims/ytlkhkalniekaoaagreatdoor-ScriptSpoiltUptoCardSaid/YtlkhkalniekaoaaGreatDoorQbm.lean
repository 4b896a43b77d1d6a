/- Parts of the proof: Vj. -/
import Derived.Deep.RegionLaw
import Derived.Test.YtlkhkalniekaoaaGreatDoorQbb

set_option linter.unusedVariables false
set_option linter.unusedSimpArgs false

section
/- The reference's line, at every row of words. -/
namespace Go.Proofs.YtlkhkalniekaoaaGreatDoor
open Go.RowKit Go.Shelf Go.Sort Go.Lib

set_option maxHeartbeats 12000000 in
set_option maxRecDepth 1000000 in
theorem line21_any (ws : List ByteArray) (w : World) (hc : Forms21 w) (A : Nat) (hcells : ∀ (j : Nat) (x : ByteArray), ws[j]? = some x → w.cell? ⟨A, j, none⟩ = some (.string x)) (hne : ws ≠ []) (hlen : ws.length ≤ 1000000) (hws : ∀ x ∈ ws, x.size ≤ 1000000 ∧ 0 < x.size) :
    Calls Tryz.prog 28 #[.slice (some ⟨A, 0, none⟩) ws.length ws.length] w (LinePost ws w) := by
  obtain ⟨R, o1, fc, hfg, hft⟩ := hc
  have HFT : Aside (∀ (k : Nat) (W : ByteArray) (M : Nat), formTab[k]? = some (W, M) → w.cell? ⟨R, o1 + k * 2, none⟩ = some (.string W) ∧ w.cell? ⟨R, o1 + k * 2 + 1, none⟩ = some (.int .i64 M)) := hft
  have HC : Aside (∀ (j : Nat) (x : ByteArray), ws[j]? = some x → w.cell? ⟨A, j, none⟩ = some (.string x)) := hcells
  clear hft hcells
  obtain ⟨w0, rest0, rfl⟩ := List.exists_cons_of_ne_nil hne
  obtain ⟨ws, hwe⟩ : ∃ ws, w0 :: rest0 = ws := ⟨_, rfl⟩
  have HW0 : Aside (ws.head? = some w0) := by rw [← hwe]; first | done | rfl
  have hl1 : 1 ≤ ws.length := by rw [← hwe]; simp
  have HWS : Aside (∀ x ∈ ws, x.size ≤ 1000000 ∧ 0 < x.size) := by rw [← hwe]; exact hws
  rw [hwe] at HC hlen ⊢
  have HW1 : Aside (ws[0]? = some w0) := by rw [← hwe]; first | done | rfl
  clear hwe hne hws
  obtain ⟨n, hn⟩ : ∃ n, ws.length = n := ⟨_, rfl⟩
  rw [hn] at hlen hl1 ⊢
  have HN : Aside (ws.length = n) := hn
  clear hn
  obtain ⟨i0, hi, hz0, hz1, hz2⟩ := info_parts (show (Tryz.prog.info? 3).map (fun i => (i.zero, i.size, i.bytes)) = some (some (.int .i64 0), 1, 8) by kernel_rfl)
  have hAw : A < w.heap.size := cell_lt (HC.out 0 w0 HW1.out)
  have hgw : 0 < w.heap.size := cell_lt hfg
  have hfg' : ∀ o, (w.alloc o).cell? ⟨0, 0, none⟩ = some (.slice (some ⟨R, o1, none⟩) 9 fc) := fun o => (World.cell?_alloc_past _ _ _ hgw).trans hfg
  go_enter Tryz.func28, Tryz.ntmps28
  go_wp2
  go_loopg [16] 9 (fun g i wr => ∃ k : Nat, k + g = 9 ∧ i = .int .i64 k ∧ Aside (Later w wr) ∧ Aside (w.heap.size + 1 ≤ wr.heap.size) ∧ Aside (Four wr w.heap.size (.int .i64 0) (.slice none 0 0) (.slice none 0 0) (.string ⟨#[]⟩)) ∧
    Aside (formTab.findIdx? (fun p => decide (some p.1 = ws.head?)) = ((formTab.drop k).findIdx? (fun p => decide (some p.1 = ws.head?))).map (· + k)))
  case atStart => exact ⟨0, rfl, rfl, (Below.refl _ w).alloc (Nat.le_refl _) _, by show _ ≤ _; simp, Four.new w _ _ _ _ _, by show _ = _; simp⟩
  case round =>
    obtain ⟨k, hk, rfl, HL, HWR, H4r, HI⟩ := hrel
    have hwr := HWR.out
    have hWr : w.heap.size < wr.heap.size := by omega
    obtain ⟨⟨r0, r1, r2, r3⟩, q0, q1, q2, q3⟩ := id H4r.out
    by_cases hlt : k < 9
    · obtain ⟨⟨W, M⟩, hWM⟩ : ∃ p, formTab[k]? = some p := ⟨_, List.getElem?_eq_getElem hlt⟩
      have HWM : Aside (formTab[k]? = some (W, M)) := hWM
      have hM2 : M ≤ 2 := formTab_le hWM
      obtain ⟨ff1, ff2⟩ := HFT.out k W M hWM
      have fr1 : wr.cell? ⟨R, o1 + k * 2, none⟩ = some (.string W) := HL.out.cellOf ff1
      have fr2 : wr.cell? ⟨R, o1 + k * 2 + 1, none⟩ = some (.int .i64 M) := HL.out.cellOf ff2
      clear hWM ff1 ff2
      have hAr : A < wr.heap.size := by omega
      have cA : ∀ o, (wr.alloc o).cell? ⟨A, 0, none⟩ = some (.string w0) := fun o => (World.cell?_alloc_past _ _ _ hAr).trans (HL.out.cellOf (HC.out 0 w0 HW1.out))
      have cA' : wr.cell? ⟨A, 0, none⟩ = some (.string w0) := HL.out.cellOf (HC.out 0 w0 HW1.out)
      by_cases hw : w0 = W
      · subst hw
        have hIK : formTab.findIdx? (fun p => decide (some p.1 = ws.head?)) = some k := by
          rw [HI.out, Lib.drop_at HWM.out, List.findIdx?_cons]
          simp [HW0.out]
        have HLR : Aside _ := lineR_some hIK HWM.out
        clear hIK HI
        rw [HN.out] at HLR
        by_cases hM : n ≤ M
        · have HE : Aside (lineR ws = .error 1) := by show _ = _; rw [HLR.out, if_pos (by omega)]
          clear HLR
          go_wp2
          go_region
          go_wp2
          refine ret_cmd rfl rfl (range_later (H4r.out.range _ _ _ _) ((((Below.refl _ _).alloc (Nat.le_refl _) _).alloc (by simp) _).drew)) rfl rfl ?_
          exact LinePost.err HE.out (by decide) ((((below_put4 HL.out (Nat.le_refl _) _ _ _ _).alloc (by simp [World.setCell]; omega) _).alloc (by simp [World.setCell]; omega) _).drew)
        · obtain ⟨W1, rfl⟩ : ∃ W, W = wr := ⟨_, rfl⟩
          go_wp2
          go_region
          go_wp2
          all_goals (
           go_loopg [41] M (fun g i wr => ∃ (j : Nat) (ns : List Int) (nv : Value), j + g = M ∧ i = .int .i64 j ∧ Aside (numsR ((ws.drop 1).take j) = some ns) ∧ Aside (Later W1 wr) ∧ Aside (W1.heap.size + 2 ≤ wr.heap.size) ∧
             Aside (wr.cell? ⟨W1.heap.size, 1, none⟩ = some (.int .i64 M)) ∧ Aside (Four wr (W1.heap.size + 1) (.int .i64 k) nv (.slice none 0 0) (.string ⟨#[]⟩)) ∧ Aside (wr.ownsRow (W1.heap.size + 2) 3 1 nv ns.length (ns.map (Value.int .i64))))
           case atStart =>
             refine ⟨0, [], _, by omega, rfl, rfl, ?_, ?_, ?_, ?_, World.ownsRow_nil _ _ _ _⟩
             · exact (((Below.refl _ W1).alloc (Nat.le_refl _) _).alloc (by simp) _).drew
             · show W1.heap.size + 2 ≤ ((W1.alloc _).alloc _).heap.size
               simp
             · show ((W1.alloc _).alloc _).cell? _ = _
               rw [World.cell?_alloc_past _ _ _ (by simp), World.cell?_alloc_at _ _ _ _ rfl]
               first | done | rfl
             · have := Four.new (W1.alloc (.cells #[.string w0, .int .i64 M] 62)) (.int .i64 k) (.slice none 0 0) (.slice none 0 0) (.string ⟨#[]⟩) 35
               rw [World.size_alloc] at this
               exact this
           case round =>
             obtain ⟨j, ns, nv, hjk, rfl, HJ, HX, HS, HFm, HF4, HOW⟩ := hrel
             have hsx := HS.out
             have hnl : ns.length = j := by
               have := numsR_length _ _ HJ.out
               simp at this
               have := HN.out
               omega
             obtain ⟨pn, mn, qn, rfl⟩ := own_slice HOW.out
             obtain ⟨⟨d0, d1, d2, d3⟩, e0, e1, e2, e3⟩ := id HF4.out
             have hfm := HFm.out
             have HC4 : Aside (Four wr w.heap.size (.int .i64 0) (.slice none 0 0) (.slice none 0 0) (.string ⟨#[]⟩)) := H4r.out.later HX.out hWr
             have HLx : Aside (Later w wr) := HL.out.trans (HX.out.mono (by omega))
             obtain ⟨⟨z0, z1, z2, z3⟩, y0, y1, y2, y3⟩ := id HC4.out
             clear r0 r1 r2 r3 q0 q1 q2 q3 cA cA' fr1 fr2
             by_cases hjm : j < M
             · first
                 | (exfalso; omega)
                 | (
                    obtain ⟨x, hx⟩ : ∃ x, ws[1 + j]? = some x := ⟨_, List.getElem?_eq_getElem (by have := HN.out; omega)⟩
                    have HX1 : Aside (ws[1 + j]? = some x) := hx
                    have hxs : x.size ≤ 1000000 := (HWS.out x (List.mem_of_getElem? hx)).1
                    have hxc : wr.cell? ⟨A, 1 + j, none⟩ = some (.string x) := HX.out.cellOf (HL.out.cellOf (HC.out (1 + j) x hx))
                    have HTK : Aside ((ws.drop 1).take (j + 1) = (ws.drop 1).take j ++ [x]) := by
                      show _ = _
                      rw [List.take_add_one, List.getElem?_drop, hx]
                      first | done | rfl
                    clear hx
                    obtain ⟨v, hv⟩ : ∃ v, Go.X.digitsR x.data.toList = v := ⟨_, rfl⟩
                    have HDC : Aside (∀ w, Calls Tryz.prog 46 #[.string x] w fun e w' => e = .returned (.int .i64 v) ∧ w' = w) := fun w => by
                      have := digits_any x hxs w
                      rw [hv] at this
                      exact this
                    by_cases hv0 : v < 0
                    · have HNX : Aside (numS x = none) := digits_none hv hv0
                      clear hv
                      have HE : Aside (lineR ws = .error 1) := by
                        have hno : numsR ((ws.drop 1).take M) = none := by
                          rw [← List.take_append_drop (j + 1) ((ws.drop 1).take M), List.take_take, Nat.min_eq_left (by omega)]
                          apply numsR_none
                          rw [HTK.out, numsR_append, HJ.out, HNX.out]
                        show _ = _
                        rw [HLR.out, if_neg (by omega), hno]
                      go_wp2_with (go_at_call 46; (with_reducible refine Calls.mono (HDC.out _) ?_); rintro e w2 ⟨rfl, hw2⟩; obtain rfl := hw2.symm)
                      refine ret_cmd rfl rfl (HC4.out.range _ _ _ _) rfl rfl ?_
                      exact LinePost.err HE.out (by decide) (below_put4 HLx.out (Nat.le_refl _) _ _ _ _)
                    · have HNX : Aside (numS x = some v) := digits_some hv (by omega)
                      clear hv
                      have hcn : some (W1.heap.size + 1) ≠ (Value.slice pn mn qn).ownBlock := fun h => by have := own_block HOW.out _ h.symm; omega
                      have hfn : some W1.heap.size ≠ (Value.slice pn mn qn).ownBlock := fun h => by have := own_block HOW.out _ h.symm; omega
                      have hav : Aside (∀ q, (Value.slice pn mn qn).ownBlock = some q → W1.heap.size + 2 ≤ q) := fun q hq => own_block HOW.out q hq
                      have hcw : W1.heap.size + 1 < wr.heap.size := by omega
                      have FW : ∀ (B : Obj) (w1 : World), ((wr.alloc B).drew).grownBy w1 (Value.slice pn mn qn).ownBlock → Four w1 (W1.heap.size + 1) (.int .i64 k) (.slice pn mn qn) (.slice none 0 0) (.string ⟨#[]⟩) := fun B w1 hg =>
                        Four.only (w := (wr.alloc B).drew) (have h : Four (wr.alloc B) (W1.heap.size + 1) _ _ _ _ := HF4.out.only (World.grownBy_alloc wr B none) (by simp); h) hg hcn
                      have GW : ∀ (B : Obj) (w1 : World), ((wr.alloc B).drew).grownBy w1 (Value.slice pn mn qn).ownBlock → Later W1 w1 ∧ wr.heap.size ≤ w1.heap.size ∧ w1.cell? ⟨W1.heap.size, 1, none⟩ = some (.int .i64 M) := fun B w1 hg => by
                        have e1 : ((wr.alloc B).drew).heap.size = wr.heap.size + 1 := World.size_alloc wr B
                        have hs1 : wr.heap.size + 1 ≤ w1.heap.size := by rw [← e1]; exact hg.size
                        refine ⟨(((HX.out.alloc (by omega) B).drew).grown hg (by show W1.heap.size ≤ (wr.alloc B).heap.size; simp; omega) (fun q hq => by have := hav.out q hq; omega)), by omega, ?_⟩
                        refine hg.cell ?_ hfn
                        show (wr.alloc B).cell? _ = _
                        exact (World.cell?_alloc_past _ _ _ (by omega)).trans HFm.out
                      have NW : ∀ (B : Obj), ((wr.alloc B).drew).ownsRow (W1.heap.size + 2) 3 1 (.slice pn mn qn) j (ns.map (Value.int .i64)) := fun B => by
                        have h := HOW.out.alloc B
                        rw [hnl] at h
                        exact h
                      have hb1 : j + 1 ≤ maxLen := by unfold maxLen; omega
                      have hb2 : (j + 1) * 8 ≤ 140737488355328 := by omega
                      have hb3 : ∀ (B : Obj), W1.heap.size + 2 ≤ ((wr.alloc B).drew).heap.size := fun B => by show W1.heap.size + 2 ≤ (wr.alloc B).heap.size; simp; omega
                      have hc5 : ∀ (i : Nat) (u : Value), [Value.int .i64 v][i]? = some u → (((wr.alloc (.cells #[.int .i64 v] 3)).drew).cell? ((⟨wr.heap.size, 0, none⟩ : Addr).add i)) = some u := fun i u hi => by
                        have hi0 : i = 0 := by have := (List.getElem?_eq_some_iff.1 hi).1; simp at this; exact this
                        subst hi0
                        show (wr.alloc _).cell? _ = _
                        rw [Addr.add_mid, World.cell?_alloc_at _ _ _ _ rfl]
                        simpa using hi
                      have h15 : ∀ u ∈ [Value.int .i64 v], u.oneCell' = true := by
                        intro u hu
                        simp only [List.mem_cons, List.not_mem_nil, or_false] at hu
                        rw [hu]
                        first | done | rfl
                      have A1 : Aside _ := FW
                      have A2 : Aside _ := GW
                      have A3 : Aside _ := NW
                      have A4 : Aside _ := hb3
                      have A5 : Aside _ := hc5
                      have A6 : Aside _ := h15
                      clear FW GW NW hb3 hc5 h15
                      go_wp2_with (go_at_call 46; (with_reducible refine Calls.mono (HDC.out _) ?_); rintro e w2 ⟨rfl, hw2⟩; obtain rfl := hw2.symm)
                      go_region_law (first
                        | (refine step_append_own rfl (.tmp 50) (.tmp 53) 32 rfl (W1.heap.size + 2) 3 i0 (.int .i64 0) 1 8 Tryz.underlying32 hi hz0 hz1 hz2 rfl (by decide) (.slice pn mn qn) j (ns.map (Value.int .i64)) (by simp [Act.eval, Act.put]) (A3.out _) ⟨wr.heap.size, 0, none⟩ 1 1 [.int .i64 v] (by simp [Act.eval, Act.put]) rfl (A5.out) A6.out hb1 hb2 (A4.out _) ?_; intro v' w1 hown' hgrow _; have hf1 := A1.out _ _ hgrow; have hg1 : Aside _ := A2.out _ _ hgrow; clear hgrow; obtain ⟨vg, vc, rfl, -, -⟩ := own_form hown'; clear d0 d1 d2 d3 e0 e1 e2 e3; obtain ⟨⟨d0, d1, d2, d3⟩, e0, e1, e2, e3⟩ := id hf1; have H6 : Aside (Four _ _ _ _ _ _) := hf1; clear hf1; have N6 : Aside (World.ownsRow _ _ _ _ _ _ _) := hown'; clear hown')
                        | (go_simp; go_at_call 46; (with_reducible refine Calls.mono (HDC.out _) ?_); rintro e w2 ⟨rfl, rfl⟩))
                      all_goals go_wp2
                      all_goals go_roundg (gk - 1)
                      all_goals first
                        | omega
                        | (refine ⟨j + 1, ns ++ [v], _, by omega, by go_num, ?_, ?_, ?_, ?_, H6.out.put1 _, ?_⟩
                           · show _ = _
                             rw [HTK.out, numsR_append, HJ.out, HNX.out]
                           · exact Below.setCell (p := ⟨W1.heap.size + 1, 1, none⟩) hg1.out.1 (by simp) _
                           · show W1.heap.size + 2 ≤ (World.setCell _ _ _).heap.size
                             have := hg1.out.2.1
                             simp only [World.setCell, Array.size_modify]
                             omega
                           · show _ = _
                             rw [World.cell?_setCell_other _ _ _ _ (by simp)]
                             exact hg1.out.2.2
                           · show World.ownsRow _ _ _ _ _ _ _
                             rw [List.length_append, List.map_append, hnl]
                             exact ownsRow_setCell_below (a := ⟨W1.heap.size + 1, 1, none⟩) N6.out (Nat.lt_succ_self _) _))
             · have hjM : j = M := by omega
               subst hjM
               have hcw : W1.heap.size + 1 < wr.heap.size := by omega
               have HL2 : Aside (lineR ws = match restR k (ws.drop (1 + j)) with | none => .error 1 | some al => .ok ⟨k, ns, al, ⟨#[]⟩⟩) := by
                 show _ = _
                 rw [HLR.out, if_neg (by omega), HJ.out]
                 first | done | rfl
               clear HLR
               by_cases hL : n = 1 + j
               · have HD0 : Aside (ws.drop (1 + j) = []) := List.drop_eq_nil_of_le (by rw [HN.out]; omega)
                 by_cases hk4 : k = 4
                 · have HE : Aside (lineR ws = .error 1) := by show _ = _; rw [HL2.out, HD0.out, restR_bad (by subst hk4; decide)]
                   subst hk4
                   go_wp2
                   refine ret_cmd rfl rfl (HC4.out.range _ _ _ _) rfl rfl ?_
                   exact LinePost.err HE.out (by decide) (below_put4 HLx.out (Nat.le_refl _) _ _ _ _)
                 · by_cases hk5 : k = 5
                   · have HE : Aside (lineR ws = .error 1) := by show _ = _; rw [HL2.out, HD0.out, restR_bad (by subst hk5; decide)]
                     subst hk5
                     go_wp2
                     refine ret_cmd rfl rfl (HC4.out.range _ _ _ _) rfl rfl ?_
                     exact LinePost.err HE.out (by decide) (below_put4 HLx.out (Nat.le_refl _) _ _ _ _)
                   · have HE : Aside (lineR ws = .ok ⟨k, ns, [], ⟨#[]⟩⟩) := by show _ = _; rw [HL2.out, HD0.out, restR_nil (by omega) (by omega)]
                     go_wp2
                     refine wp_loop_rounds 1 ?_
                     rw [rounds_succ]
                     go_wp2
                     refine ret_cmd rfl rfl (HC4.out.range _ _ _ _) rfl rfl ?_
                     refine ⟨_, _, _, _, _, _, _, _, 0, rfl, below_put4 HLx.out (Nat.le_refl _) _ _ _ _, .inr ⟨⟨k, ns, [], ⟨#[]⟩⟩, HE.out, rfl, rfl, rfl, ?_, ?_⟩⟩
                     · exact own_mono (own_put4 HOW.out (by omega) _ _ _ _) (by omega)
                     · exact World.ownsRow_nil _ _ _ _
               · first
                   | (exfalso; omega)
                   | (
                     by_cases hk4 : k = 4
                     · have HK : Aside ((k : Int) = 4) := by show _ = _; omega
                       have b4 : ((k : Int) == 4) = true := by simp only [beq_iff_eq]; omega
                       have b5 : ((k : Int) == 5) = false := by simp only [beq_eq_false_iff_ne]; omega
                       have b4' : ((k : Int) != 4) = false := by simp only [bne_eq_false_iff_eq]; omega
                       have b5' : ((k : Int) != 5) = true := by simp only [bne_iff_ne, ne_eq]; omega
                       by_cases hb : n - (1 + j) = 1
                       · have HGOOD : Aside (restBad 4 (n - (1 + j)) = false) := by show _ = _; rw [hb]; decide
                         have bL : (((n - (1 + j) : Nat) : Int) != 1) = false := by simp only [bne_eq_false_iff_eq]; omega
                         clear hk4 hb
                         obtain ⟨M, hMj⟩ : ∃ M, M = j := ⟨_, rfl⟩
                         subst hMj
                         go_wp2
                         go_loopg [99] (n - (1 + M)) (fun g i wr => ∃ (q : Nat) (al : List Arg) (av : Value), q + g = n - (1 + M) ∧ i = .int .i64 q ∧ Aside (argsR ((ws.drop (1 + M)).take q) = some al) ∧ Aside (Later W1 wr) ∧ Aside (W1.heap.size + 2 ≤ wr.heap.size) ∧
                           Aside (Four wr (W1.heap.size + 1) (.int .i64 k) (.slice pn mn qn) av (.string ⟨#[]⟩)) ∧ Aside (wr.ownsRow (W1.heap.size + 2) 3 1 (.slice pn mn qn) ns.length (ns.map (Value.int .i64))) ∧
                           Aside (wr.ownsRow (W1.heap.size + 2) 49 5 av al.length (argCells al)) ∧ Aside (¬ ((4 : Int) = 5 ∧ (al.head?.map Arg.is) = some false)))
                         case atStart => exact ⟨0, [], _, by omega, rfl, rfl, HX.out, HS.out, HF4.out, HOW.out, World.ownsRow_nil _ _ _ _, fun h => by simp at h⟩
                         case round =>
                           clear d0 d1 d2 d3 e0 e1 e2 e3 z0 z1 z2 z3 y0 y1 y2 y3
                           obtain ⟨q, al, av, hqg, rfl, HQA, HX2, HS2, HF2, HO2, HA2, HH2⟩ := hrel
                           have hs2 := HS2.out
                           have hqal : al.length = q := by
                             have := argsR_length _ _ HQA.out
                             rw [List.length_take, List.length_drop, HN.out] at this
                             omega
                           obtain ⟨⟨d0, d1, d2, d3⟩, e0, e1, e2, e3⟩ := id HF2.out
                           have HC5 : Aside (Four wr w.heap.size (.int .i64 0) (.slice none 0 0) (.slice none 0 0) (.string ⟨#[]⟩)) := H4r.out.later HX2.out hWr
                           have HLx2 : Aside (Later w wr) := HL.out.trans (HX2.out.mono (by omega))
                           obtain ⟨⟨z0, z1, z2, z3⟩, y0, y1, y2, y3⟩ := id HC5.out
                           obtain ⟨pa, ma, qa, rfl⟩ := own_slice HA2.out
                           by_cases hq : q < n - (1 + M)
                           · obtain ⟨x, hx⟩ : ∃ x, ws[1 + M + q]? = some x := ⟨_, List.getElem?_eq_getElem (by have := HN.out; omega)⟩
                             have HX1 : Aside (ws[1 + M + q]? = some x) := hx
                             have hxs : x.size ≤ 1000000 := (HWS.out x (List.mem_of_getElem? hx)).1
                             have hx0 : 0 < x.size := (HWS.out x (List.mem_of_getElem? hx)).2
                             have hxc : wr.cell? ⟨A, 1 + M + q, none⟩ = some (.string x) := HX2.out.cellOf (HL.out.cellOf (HC.out (1 + M + q) x hx))
                             have HTK2 : Aside ((ws.drop (1 + M)).take (q + 1) = (ws.drop (1 + M)).take q ++ [x]) := by
                               show _ = _
                               rw [List.take_add_one, List.getElem?_drop, hx]
                               first | done | rfl
                             clear hx
                             cases har : argR x with
                             | none =>
                               have HE1 : Aside (argR x = none) := har
                               clear har
                               have HE : Aside (lineR ws = .error 1) := by
                                 have hno : argsR (ws.drop (1 + M)) = none := by
                                   rw [← List.take_append_drop (q + 1) (ws.drop (1 + M)), HTK2.out]
                                   apply argsR_none
                                   rw [argsR_append, HQA.out, HE1.out]
                                 show _ = _
                                 rw [HL2.out, restR_no hno]
                               go_wp2_with (go_at_call 47; refine (told_no x hxs hx0 _ HE1.out).mono ?_; rintro e w2 ⟨ak, an, at', ah, ab, rfl, hb⟩; have HB2 : Aside (Later wr w2) := hb; clear hb; have h4' := HF2.out.later HB2.out (by omega); have h5' := HC5.out.later HB2.out (by omega); clear d0 d1 d2 d3 e0 e1 e2 e3 z0 z1 z2 z3 y0 y1 y2 y3; obtain ⟨⟨d0, d1, d2, d3⟩, e0, e1, e2, e3⟩ := id h4'; obtain ⟨⟨z0, z1, z2, z3⟩, y0, y1, y2, y3⟩ := id h5'; have H5 : Aside (Four _ _ _ _ _ _) := h5'; clear h4' h5'; have hcw2 : W1.heap.size + 1 < w2.heap.size := (by have := HB2.out.size; omega); have hww2 : w.heap.size < w2.heap.size := (by have := HB2.out.size; omega))
                               refine ret_cmd rfl rfl (range_later (H5.out.range _ _ _ _) ((Below.refl _ _).alloc (Nat.le_refl _) _)) rfl rfl ?_
                               exact LinePost.err HE.out (by decide) ((below_put4 (Later.step HLx2.out HB2.out) (Nat.le_refl _) _ _ _ _).alloc (by simp [World.setCell]; omega) _)
                             | some y =>
                               have HE1 : Aside (argR x = some y) := har
                               clear har
                               rcases y with ⟨yk, yn, yt, yh, yb⟩
                               obtain ⟨j0, hj, hz0', hz1', hz2'⟩ := info_parts argInfo
                               have hcn : some (W1.heap.size + 1) ≠ (Value.slice pa ma qa).ownBlock := fun h => by have := own_block HA2.out _ h.symm; omega
                               have HHN : Aside (¬ ((4 : Int) = 5 ∧ ((al ++ [(⟨yk, yn, yt, yh, yb⟩ : Arg)]).head?.map Arg.is) = some false)) := by
                                 exact fun h => absurd h.1 (by decide)
                               go_wp2_with (first
                                 | (go_at_call 47; refine (told_yes x hxs hx0 _ _ HE1.out).mono ?_; rintro e w2 ⟨rfl, hb⟩; have HB2 : Aside (Later wr w2) := hb; clear hb; have h4' := HF2.out.later HB2.out (by omega); have h5' := HC5.out.later HB2.out (by omega); clear d0 d1 d2 d3 e0 e1 e2 e3 z0 z1 z2 z3 y0 y1 y2 y3; obtain ⟨⟨d0, d1, d2, d3⟩, e0, e1, e2, e3⟩ := id h4'; obtain ⟨⟨z0, z1, z2, z3⟩, y0, y1, y2, y3⟩ := id h5'; have H5 : Aside (Four _ _ _ _ _ _) := h5'; have H6 : Aside (Four _ _ _ _ _ _) := h4'; clear h4' h5'; have hcw2 : W1.heap.size + 1 < w2.heap.size := (by have := HB2.out.size; omega); have hww2 : w.heap.size < w2.heap.size := (by have := HB2.out.size; omega))
                                 | (at_builtin; refine wpList_append_own _ rfl (.tmp 126) (.tmp 128) 33 rfl (W1.heap.size + 2) 49 j0 (.agg #[.int .u8 0, .int .i64 0, .string ⟨#[]⟩, .int .i64 0, .bool false]) 5 48 Tryz.underlying33 hj hz0' hz1' hz2' rfl (by decide) (.slice pa ma qa) al.length (argCells al) (by simp [Act.eval, Act.put]) (((owned_later HA2.out HB2.out).alloc _).alloc _) ⟨w2.heap.size + 1, 0, none⟩ 1 1 [.int .u8 yk, .int .i64 yn, .string yt, .int .i64 yh, .bool yb] rfl rfl ?_ ?_ ?_ ?_ ?_ ?_; rotate_right; intro v' w3 hown' hgrow _; have hf3 := Four.only ((H6.out.only (World.grownBy_alloc w2 _ none) (by simp)).only (World.grownBy_alloc (w2.alloc _) _ none) (by simp)) hgrow hcn; clear d0 d1 d2 d3 e0 e1 e2 e3; obtain ⟨⟨d0, d1, d2, d3⟩, e0, e1, e2, e3⟩ := id hf3; have H7 : Aside (Four _ _ _ _ _ _) := hf3; clear hf3; obtain ⟨vg, vc, rfl, -, -⟩ := own_form hown'; have N6 : Aside (World.ownsRow _ _ _ _ _ _ _) := hown'; clear hown'; have G6 : Aside (World.grownBy _ _ _) := hgrow; clear hgrow))
                               · go_roundg (gk - 1)
                                 case measure => omega
                                 case rel =>
                                   have hz2 := HB2.out.size
                                   have hz3 := G6.out.size
                                   (try simp only [World.size_alloc] at hz3)
                                   have hap : (Value.slice pn mn qn).ownBlock = none ∨ (Value.slice pn mn qn).ownBlock ≠ (Value.slice pa ma qa).ownBlock := own_apart HO2.out HA2.out (by decide)
                                   refine ⟨q + 1, al ++ [(⟨yk, yn, yt, yh, yb⟩ : Arg)], _, by omega, by go_num, ?_, ?_, ?_, H7.out.put2 _, ?_, ?_, HHN.out⟩
                                   · show _ = _
                                     rw [HTK2.out, argsR_append, HQA.out, HE1.out]
                                   · refine Below.setCell (p := ⟨W1.heap.size + 1, 2, none⟩) ?_ (by simp) _
                                     refine ((((HX2.out.trans (HB2.out.mono (by omega))).alloc (by omega) _).alloc (by simp; omega) _).grown G6.out (by simp; omega) (fun q hq => by have := own_block HA2.out q hq; omega))
                                   · show W1.heap.size + 2 ≤ (w3.setCell _ _).heap.size
                                     simp only [World.setCell, Array.size_modify]
                                     omega
                                   · show World.ownsRow _ _ _ _ _ _ _
                                     exact ownsRow_setCell_below (a := ⟨W1.heap.size + 1, 2, none⟩) (World.ownsRow.kept (((owned_later HO2.out HB2.out).alloc _).alloc _) G6.out hap) (Nat.lt_succ_self _) _
                                   · show World.ownsRow _ _ _ _ _ _ _
                                     rw [argCells_snoc, List.length_append]
                                     have hh := ownsRow_setCell_below (a := ⟨W1.heap.size + 1, 2, none⟩) N6.out (Nat.lt_succ_self _) (.slice (some ⟨vg, 0, none⟩) (q + 1) vc)
                                     rw [hqal] at hh ⊢
                                     exact hh
                               · exact fun j u hj => cells5_at (by simp) _ _ _ _ _ _ j u hj
                               · intro u hu
                                 simp only [List.mem_cons, List.not_mem_nil, or_false] at hu
                                 rcases hu with rfl | rfl | rfl | rfl | rfl <;> rfl
                               · unfold maxLen; omega
                               · omega
                               · have := HB2.out.size; simp; omega
                           · have hqe : q = n - (1 + M) := by omega
                             have hall : (ws.drop (1 + M)).take q = ws.drop (1 + M) := List.take_of_length_le (by rw [List.length_drop, HN.out]; omega)
                             have HE : Aside (lineR ws = .ok ⟨k, ns, al, ⟨#[]⟩⟩) := by
                               have hargs : argsR (ws.drop (1 + M)) = some al := by rw [← hall]; exact HQA.out
                               show _ = _
                               rw [HL2.out, HK.out, restR_args (by rw [List.length_drop, HN.out]; exact HGOOD.out), hargs]
                               simp only []
                               first | rw [if_neg HH2.out] | rw [if_neg (fun h => HH2.out ⟨rfl, h.2⟩)]
                             clear hall
                             go_wp2
                             refine ret_cmd rfl rfl (HC5.out.range _ _ _ _) rfl rfl ?_
                             refine ⟨_, _, _, _, _, _, _, _, 0, rfl, below_put4 HLx2.out (Nat.le_refl _) _ _ _ _, .inr ⟨⟨k, ns, al, ⟨#[]⟩⟩, HE.out, rfl, rfl, rfl, ?_, ?_⟩⟩
                             · exact own_mono (own_put4 HO2.out (by omega) _ _ _ _) (by omega)
                             · exact own_mono (own_put4 HA2.out (by omega) _ _ _ _) (by omega)
                       · have HE : Aside (lineR ws = .error 1) := by show _ = _; rw [HL2.out, HK.out, restR_bad (by rw [List.length_drop, HN.out]; simp [restBad]; omega)]
                         have bL : (((n - (1 + j) : Nat) : Int) != 1) = true := by simp only [bne_iff_ne, ne_eq]; omega
                         clear hk4
                         go_wp2
                         refine ret_cmd rfl rfl (HC4.out.range _ _ _ _) rfl rfl ?_
                         exact LinePost.err HE.out (by decide) (below_put4 HLx.out (Nat.le_refl _) _ _ _ _)
                     · by_cases hk5 : k = 5
                       · have HK : Aside ((k : Int) = 5) := by show _ = _; omega
                         have b4 : ((k : Int) == 4) = false := by simp only [beq_eq_false_iff_ne]; omega
                         have b5 : ((k : Int) == 5) = true := by simp only [beq_iff_eq]; omega
                         have b4' : ((k : Int) != 4) = true := by simp only [bne_iff_ne, ne_eq]; omega
                         have b5' : ((k : Int) != 5) = false := by simp only [bne_eq_false_iff_eq]; omega
                         have hp1 : 1 ≤ n - (1 + j) := by omega
                         clear hk5 hk4
                         by_cases hb : n - (1 + j) ≤ 20
                         · have HGOOD : Aside (restBad 5 (n - (1 + j)) = false) := by show _ = _; simp [restBad]; omega
                           obtain ⟨M, hMj⟩ : ∃ M, M = j := ⟨_, rfl⟩
                           subst hMj
                           go_wp2
                           go_loopg [99] (n - (1 + M)) (fun g i wr => ∃ (q : Nat) (al : List Arg) (av : Value), q + g = n - (1 + M) ∧ i = .int .i64 q ∧ Aside (argsR ((ws.drop (1 + M)).take q) = some al) ∧ Aside (Later W1 wr) ∧ Aside (W1.heap.size + 2 ≤ wr.heap.size) ∧
                             Aside (Four wr (W1.heap.size + 1) (.int .i64 k) (.slice pn mn qn) av (.string ⟨#[]⟩)) ∧ Aside (wr.ownsRow (W1.heap.size + 2) 3 1 (.slice pn mn qn) ns.length (ns.map (Value.int .i64))) ∧
                             Aside (wr.ownsRow (W1.heap.size + 2) 49 5 av al.length (argCells al)) ∧ Aside (¬ ((5 : Int) = 5 ∧ (al.head?.map Arg.is) = some false)))
                           case atStart => exact ⟨0, [], _, by omega, rfl, rfl, HX.out, HS.out, HF4.out, HOW.out, World.ownsRow_nil _ _ _ _, fun h => by simp at h⟩
                           case round =>
                             clear d0 d1 d2 d3 e0 e1 e2 e3 z0 z1 z2 z3 y0 y1 y2 y3
                             obtain ⟨q, al, av, hqg, rfl, HQA, HX2, HS2, HF2, HO2, HA2, HH2⟩ := hrel
                             have hs2 := HS2.out
                             have hqal : al.length = q := by
                               have := argsR_length _ _ HQA.out
                               rw [List.length_take, List.length_drop, HN.out] at this
                               omega
                             obtain ⟨⟨d0, d1, d2, d3⟩, e0, e1, e2, e3⟩ := id HF2.out
                             have HC5 : Aside (Four wr w.heap.size (.int .i64 0) (.slice none 0 0) (.slice none 0 0) (.string ⟨#[]⟩)) := H4r.out.later HX2.out hWr
                             have HLx2 : Aside (Later w wr) := HL.out.trans (HX2.out.mono (by omega))
                             obtain ⟨⟨z0, z1, z2, z3⟩, y0, y1, y2, y3⟩ := id HC5.out
                             obtain ⟨pa, ma, qa, rfl⟩ := own_slice HA2.out
                             by_cases hq : q < n - (1 + M)
                             · obtain ⟨x, hx⟩ : ∃ x, ws[1 + M + q]? = some x := ⟨_, List.getElem?_eq_getElem (by have := HN.out; omega)⟩
                               have HX1 : Aside (ws[1 + M + q]? = some x) := hx
                               have hxs : x.size ≤ 1000000 := (HWS.out x (List.mem_of_getElem? hx)).1
                               have hx0 : 0 < x.size := (HWS.out x (List.mem_of_getElem? hx)).2
                               have hxc : wr.cell? ⟨A, 1 + M + q, none⟩ = some (.string x) := HX2.out.cellOf (HL.out.cellOf (HC.out (1 + M + q) x hx))
                               have HTK2 : Aside ((ws.drop (1 + M)).take (q + 1) = (ws.drop (1 + M)).take q ++ [x]) := by
                                 show _ = _
                                 rw [List.take_add_one, List.getElem?_drop, hx]
                                 first | done | rfl
                               clear hx
                               cases har : argR x with
                               | none =>
                                 have HE1 : Aside (argR x = none) := har
                                 clear har
                                 have HE : Aside (lineR ws = .error 1) := by
                                   have hno : argsR (ws.drop (1 + M)) = none := by
                                     rw [← List.take_append_drop (q + 1) (ws.drop (1 + M)), HTK2.out]
                                     apply argsR_none
                                     rw [argsR_append, HQA.out, HE1.out]
                                   show _ = _
                                   rw [HL2.out, restR_no hno]
                                 go_wp2_with (go_at_call 47; refine (told_no x hxs hx0 _ HE1.out).mono ?_; rintro e w2 ⟨ak, an, at', ah, ab, rfl, hb⟩; have HB2 : Aside (Later wr w2) := hb; clear hb; have h4' := HF2.out.later HB2.out (by omega); have h5' := HC5.out.later HB2.out (by omega); clear d0 d1 d2 d3 e0 e1 e2 e3 z0 z1 z2 z3 y0 y1 y2 y3; obtain ⟨⟨d0, d1, d2, d3⟩, e0, e1, e2, e3⟩ := id h4'; obtain ⟨⟨z0, z1, z2, z3⟩, y0, y1, y2, y3⟩ := id h5'; have H5 : Aside (Four _ _ _ _ _ _) := h5'; clear h4' h5'; have hcw2 : W1.heap.size + 1 < w2.heap.size := (by have := HB2.out.size; omega); have hww2 : w.heap.size < w2.heap.size := (by have := HB2.out.size; omega))
                                 refine ret_cmd rfl rfl (range_later (H5.out.range _ _ _ _) ((Below.refl _ _).alloc (Nat.le_refl _) _)) rfl rfl ?_
                                 exact LinePost.err HE.out (by decide) ((below_put4 (Later.step HLx2.out HB2.out) (Nat.le_refl _) _ _ _ _).alloc (by simp [World.setCell]; omega) _)
                               | some y =>
                                 have HE1 : Aside (argR x = some y) := har
                                 clear har
                                 rcases y with ⟨yk, yn, yt, yh, yb⟩
                                 by_cases hq0 : q = 0
                                 · have HQ0 : Aside (q = 0) := hq0
                                   have bq : ((q : Int) == 0) = true := by simp only [beq_iff_eq]; omega
                                   clear hq0
                                   cases yb with
                                   | false =>
                                     have HE : Aside (lineR ws = .error 1) := by
                                       have hd : ws.drop (1 + M) = x :: ws.drop (1 + M + 1) := Lib.drop_at (by have h := HX1.out; rw [HQ0.out] at h; simpa using h)
                                       show _ = _
                                       rw [HL2.out, HK.out, hd, argsR_first HE1.out rfl]
                                     go_wp2_with (go_at_call 47; refine (told_yes x hxs hx0 _ _ HE1.out).mono ?_; rintro e w2 ⟨rfl, hb⟩; have HB2 : Aside (Later wr w2) := hb; clear hb; have h4' := HF2.out.later HB2.out (by omega); have h5' := HC5.out.later HB2.out (by omega); clear d0 d1 d2 d3 e0 e1 e2 e3 z0 z1 z2 z3 y0 y1 y2 y3; obtain ⟨⟨d0, d1, d2, d3⟩, e0, e1, e2, e3⟩ := id h4'; obtain ⟨⟨z0, z1, z2, z3⟩, y0, y1, y2, y3⟩ := id h5'; have H5 : Aside (Four _ _ _ _ _ _) := h5'; have H6 : Aside (Four _ _ _ _ _ _) := h4'; clear h4' h5'; have hcw2 : W1.heap.size + 1 < w2.heap.size := (by have := HB2.out.size; omega); have hww2 : w.heap.size < w2.heap.size := (by have := HB2.out.size; omega))
                                     refine ret_cmd rfl rfl (range_later (H5.out.range _ _ _ _) ((Below.refl _ _).alloc (Nat.le_refl _) _)) rfl rfl ?_
                                     exact LinePost.err HE.out (by decide) ((below_put4 (Later.step HLx2.out HB2.out) (Nat.le_refl _) _ _ _ _).alloc (by simp [World.setCell]; omega) _)
                                   | true =>
                                     obtain ⟨j0, hj, hz0', hz1', hz2'⟩ := info_parts argInfo
                                     have hcn : some (W1.heap.size + 1) ≠ (Value.slice pa ma qa).ownBlock := fun h => by have := own_block HA2.out _ h.symm; omega
                                     have HHN : Aside (¬ ((5 : Int) = 5 ∧ ((al ++ [(⟨yk, yn, yt, yh, true⟩ : Arg)]).head?.map Arg.is) = some false)) := by
                                       have hn0 : al = [] := List.length_eq_zero_iff.1 (by rw [hqal]; exact HQ0.out)
                                       intro hbadd
                                       have h2 := hbadd.2
                                       rw [hn0] at h2
                                       simp at h2
                                     go_wp2_with (first
                                       | (go_at_call 47; refine (told_yes x hxs hx0 _ _ HE1.out).mono ?_; rintro e w2 ⟨rfl, hb⟩; have HB2 : Aside (Later wr w2) := hb; clear hb; have h4' := HF2.out.later HB2.out (by omega); have h5' := HC5.out.later HB2.out (by omega); clear d0 d1 d2 d3 e0 e1 e2 e3 z0 z1 z2 z3 y0 y1 y2 y3; obtain ⟨⟨d0, d1, d2, d3⟩, e0, e1, e2, e3⟩ := id h4'; obtain ⟨⟨z0, z1, z2, z3⟩, y0, y1, y2, y3⟩ := id h5'; have H5 : Aside (Four _ _ _ _ _ _) := h5'; have H6 : Aside (Four _ _ _ _ _ _) := h4'; clear h4' h5'; have hcw2 : W1.heap.size + 1 < w2.heap.size := (by have := HB2.out.size; omega); have hww2 : w.heap.size < w2.heap.size := (by have := HB2.out.size; omega))
                                       | (at_builtin; refine wpList_append_own _ rfl (.tmp 126) (.tmp 128) 33 rfl (W1.heap.size + 2) 49 j0 (.agg #[.int .u8 0, .int .i64 0, .string ⟨#[]⟩, .int .i64 0, .bool false]) 5 48 Tryz.underlying33 hj hz0' hz1' hz2' rfl (by decide) (.slice pa ma qa) al.length (argCells al) (by simp [Act.eval, Act.put]) (((owned_later HA2.out HB2.out).alloc _).alloc _) ⟨w2.heap.size + 1, 0, none⟩ 1 1 [.int .u8 yk, .int .i64 yn, .string yt, .int .i64 yh, .bool true] rfl rfl ?_ ?_ ?_ ?_ ?_ ?_; rotate_right; intro v' w3 hown' hgrow _; have hf3 := Four.only ((H6.out.only (World.grownBy_alloc w2 _ none) (by simp)).only (World.grownBy_alloc (w2.alloc _) _ none) (by simp)) hgrow hcn; clear d0 d1 d2 d3 e0 e1 e2 e3; obtain ⟨⟨d0, d1, d2, d3⟩, e0, e1, e2, e3⟩ := id hf3; have H7 : Aside (Four _ _ _ _ _ _) := hf3; clear hf3; obtain ⟨vg, vc, rfl, -, -⟩ := own_form hown'; have N6 : Aside (World.ownsRow _ _ _ _ _ _ _) := hown'; clear hown'; have G6 : Aside (World.grownBy _ _ _) := hgrow; clear hgrow))
                                     · go_roundg (gk - 1)
                                       case measure => omega
                                       case rel =>
                                         have hz2 := HB2.out.size
                                         have hz3 := G6.out.size
                                         (try simp only [World.size_alloc] at hz3)
                                         have hap : (Value.slice pn mn qn).ownBlock = none ∨ (Value.slice pn mn qn).ownBlock ≠ (Value.slice pa ma qa).ownBlock := own_apart HO2.out HA2.out (by decide)
                                         refine ⟨q + 1, al ++ [(⟨yk, yn, yt, yh, true⟩ : Arg)], _, by omega, by go_num, ?_, ?_, ?_, H7.out.put2 _, ?_, ?_, HHN.out⟩
                                         · show _ = _
                                           rw [HTK2.out, argsR_append, HQA.out, HE1.out]
                                         · refine Below.setCell (p := ⟨W1.heap.size + 1, 2, none⟩) ?_ (by simp) _
                                           refine ((((HX2.out.trans (HB2.out.mono (by omega))).alloc (by omega) _).alloc (by simp; omega) _).grown G6.out (by simp; omega) (fun q hq => by have := own_block HA2.out q hq; omega))
                                         · show W1.heap.size + 2 ≤ (w3.setCell _ _).heap.size
                                           simp only [World.setCell, Array.size_modify]
                                           omega
                                         · show World.ownsRow _ _ _ _ _ _ _
                                           exact ownsRow_setCell_below (a := ⟨W1.heap.size + 1, 2, none⟩) (World.ownsRow.kept (((owned_later HO2.out HB2.out).alloc _).alloc _) G6.out hap) (Nat.lt_succ_self _) _
                                         · show World.ownsRow _ _ _ _ _ _ _
                                           rw [argCells_snoc, List.length_append]
                                           have hh := ownsRow_setCell_below (a := ⟨W1.heap.size + 1, 2, none⟩) N6.out (Nat.lt_succ_self _) (.slice (some ⟨vg, 0, none⟩) (q + 1) vc)
                                           rw [hqal] at hh ⊢
                                           exact hh
                                     · exact fun j u hj => cells5_at (by simp) _ _ _ _ _ _ j u hj
                                     · intro u hu
                                       simp only [List.mem_cons, List.not_mem_nil, or_false] at hu
                                       rcases hu with rfl | rfl | rfl | rfl | rfl <;> rfl
                                     · unfold maxLen; omega
                                     · omega
                                     · have := HB2.out.size; simp; omega
                                 · have bq : ((q : Int) == 0) = false := by simp only [beq_eq_false_iff_ne]; omega
                                   obtain ⟨j0, hj, hz0', hz1', hz2'⟩ := info_parts argInfo
                                   have hcn : some (W1.heap.size + 1) ≠ (Value.slice pa ma qa).ownBlock := fun h => by have := own_block HA2.out _ h.symm; omega
                                   have HHN : Aside (¬ ((5 : Int) = 5 ∧ ((al ++ [(⟨yk, yn, yt, yh, yb⟩ : Arg)]).head?.map Arg.is) = some false)) := by
                                     intro hbadd
                                     have h2 := hbadd.2
                                     cases al with
                                     | nil => exact hq0 hqal.symm
                                     | cons b r => exact HH2.out ⟨rfl, by simpa using h2⟩
                                   go_wp2_with (first
                                     | (go_at_call 47; refine (told_yes x hxs hx0 _ _ HE1.out).mono ?_; rintro e w2 ⟨rfl, hb⟩; have HB2 : Aside (Later wr w2) := hb; clear hb; have h4' := HF2.out.later HB2.out (by omega); have h5' := HC5.out.later HB2.out (by omega); clear d0 d1 d2 d3 e0 e1 e2 e3 z0 z1 z2 z3 y0 y1 y2 y3; obtain ⟨⟨d0, d1, d2, d3⟩, e0, e1, e2, e3⟩ := id h4'; obtain ⟨⟨z0, z1, z2, z3⟩, y0, y1, y2, y3⟩ := id h5'; have H5 : Aside (Four _ _ _ _ _ _) := h5'; have H6 : Aside (Four _ _ _ _ _ _) := h4'; clear h4' h5'; have hcw2 : W1.heap.size + 1 < w2.heap.size := (by have := HB2.out.size; omega); have hww2 : w.heap.size < w2.heap.size := (by have := HB2.out.size; omega))
                                     | (at_builtin; refine wpList_append_own _ rfl (.tmp 126) (.tmp 128) 33 rfl (W1.heap.size + 2) 49 j0 (.agg #[.int .u8 0, .int .i64 0, .string ⟨#[]⟩, .int .i64 0, .bool false]) 5 48 Tryz.underlying33 hj hz0' hz1' hz2' rfl (by decide) (.slice pa ma qa) al.length (argCells al) (by simp [Act.eval, Act.put]) (((owned_later HA2.out HB2.out).alloc _).alloc _) ⟨w2.heap.size + 1, 0, none⟩ 1 1 [.int .u8 yk, .int .i64 yn, .string yt, .int .i64 yh, .bool yb] rfl rfl ?_ ?_ ?_ ?_ ?_ ?_; rotate_right; intro v' w3 hown' hgrow _; have hf3 := Four.only ((H6.out.only (World.grownBy_alloc w2 _ none) (by simp)).only (World.grownBy_alloc (w2.alloc _) _ none) (by simp)) hgrow hcn; clear d0 d1 d2 d3 e0 e1 e2 e3; obtain ⟨⟨d0, d1, d2, d3⟩, e0, e1, e2, e3⟩ := id hf3; have H7 : Aside (Four _ _ _ _ _ _) := hf3; clear hf3; obtain ⟨vg, vc, rfl, -, -⟩ := own_form hown'; have N6 : Aside (World.ownsRow _ _ _ _ _ _ _) := hown'; clear hown'; have G6 : Aside (World.grownBy _ _ _) := hgrow; clear hgrow))
                                   · go_roundg (gk - 1)
                                     case measure => omega
                                     case rel =>
                                       have hz2 := HB2.out.size
                                       have hz3 := G6.out.size
                                       (try simp only [World.size_alloc] at hz3)
                                       have hap : (Value.slice pn mn qn).ownBlock = none ∨ (Value.slice pn mn qn).ownBlock ≠ (Value.slice pa ma qa).ownBlock := own_apart HO2.out HA2.out (by decide)
                                       refine ⟨q + 1, al ++ [(⟨yk, yn, yt, yh, yb⟩ : Arg)], _, by omega, by go_num, ?_, ?_, ?_, H7.out.put2 _, ?_, ?_, HHN.out⟩
                                       · show _ = _
                                         rw [HTK2.out, argsR_append, HQA.out, HE1.out]
                                       · refine Below.setCell (p := ⟨W1.heap.size + 1, 2, none⟩) ?_ (by simp) _
                                         refine ((((HX2.out.trans (HB2.out.mono (by omega))).alloc (by omega) _).alloc (by simp; omega) _).grown G6.out (by simp; omega) (fun q hq => by have := own_block HA2.out q hq; omega))
                                       · show W1.heap.size + 2 ≤ (w3.setCell _ _).heap.size
                                         simp only [World.setCell, Array.size_modify]
                                         omega
                                       · show World.ownsRow _ _ _ _ _ _ _
                                         exact ownsRow_setCell_below (a := ⟨W1.heap.size + 1, 2, none⟩) (World.ownsRow.kept (((owned_later HO2.out HB2.out).alloc _).alloc _) G6.out hap) (Nat.lt_succ_self _) _
                                       · show World.ownsRow _ _ _ _ _ _ _
                                         rw [argCells_snoc, List.length_append]
                                         have hh := ownsRow_setCell_below (a := ⟨W1.heap.size + 1, 2, none⟩) N6.out (Nat.lt_succ_self _) (.slice (some ⟨vg, 0, none⟩) (q + 1) vc)
                                         rw [hqal] at hh ⊢
                                         exact hh
                                   · exact fun j u hj => cells5_at (by simp) _ _ _ _ _ _ j u hj
                                   · intro u hu
                                     simp only [List.mem_cons, List.not_mem_nil, or_false] at hu
                                     rcases hu with rfl | rfl | rfl | rfl | rfl <;> rfl
                                   · unfold maxLen; omega
                                   · omega
                                   · have := HB2.out.size; simp; omega
                             · have hqe : q = n - (1 + M) := by omega
                               have hall : (ws.drop (1 + M)).take q = ws.drop (1 + M) := List.take_of_length_le (by rw [List.length_drop, HN.out]; omega)
                               have HE : Aside (lineR ws = .ok ⟨k, ns, al, ⟨#[]⟩⟩) := by
                                 have hargs : argsR (ws.drop (1 + M)) = some al := by rw [← hall]; exact HQA.out
                                 show _ = _
                                 rw [HL2.out, HK.out, restR_args (by rw [List.length_drop, HN.out]; exact HGOOD.out), hargs]
                                 simp only []
                                 first | rw [if_neg HH2.out] | rw [if_neg (fun h => HH2.out ⟨rfl, h.2⟩)]
                               clear hall
                               go_wp2
                               refine ret_cmd rfl rfl (HC5.out.range _ _ _ _) rfl rfl ?_
                               refine ⟨_, _, _, _, _, _, _, _, 0, rfl, below_put4 HLx2.out (Nat.le_refl _) _ _ _ _, .inr ⟨⟨k, ns, al, ⟨#[]⟩⟩, HE.out, rfl, rfl, rfl, ?_, ?_⟩⟩
                               · exact own_mono (own_put4 HO2.out (by omega) _ _ _ _) (by omega)
                               · exact own_mono (own_put4 HA2.out (by omega) _ _ _ _) (by omega)
                         · have HE : Aside (lineR ws = .error 1) := by show _ = _; rw [HL2.out, HK.out, restR_bad (by rw [List.length_drop, HN.out]; simp [restBad]; omega)]
                           go_wp2
                           refine ret_cmd rfl rfl (HC4.out.range _ _ _ _) rfl rfl ?_
                           exact LinePost.err HE.out (by decide) (below_put4 HLx.out (Nat.le_refl _) _ _ _ _)
                       · have HE : Aside (lineR ws = .error 1) := by
                           show _ = _
                           rw [HL2.out, restR_bad (by rw [List.length_drop, HN.out]; unfold restBad; rw [if_neg (by omega), if_neg (by omega)]; simp; omega)]
                         have b4 : ((k : Int) == 4) = false := by simp only [beq_eq_false_iff_ne]; omega
                         have b5 : ((k : Int) == 5) = false := by simp only [beq_eq_false_iff_ne]; omega
                         have b4' : ((k : Int) != 4) = true := by simp only [bne_iff_ne, ne_eq]; omega
                         have b5' : ((k : Int) != 5) = true := by simp only [bne_iff_ne, ne_eq]; omega
                         have hp0 : 0 < n - (1 + j) := by omega
                         clear hk4 hk5
                         go_wp2
                         refine ret_cmd rfl rfl (HC4.out.range _ _ _ _) rfl rfl ?_
                         exact LinePost.err HE.out (by decide) (below_put4 HLx.out (Nat.le_refl _) _ _ _ _)))
      · have htl : (w0.toList == W.toList) = false := by rw [toList_eq]; simp [hw]
        have HI2 : Aside (formTab.findIdx? (fun p => decide (some p.1 = ws.head?)) = ((formTab.drop (k + 1)).findIdx? (fun p => decide (some p.1 = ws.head?))).map (· + (k + 1))) := by
          show _ = _
          rw [HI.out, findIdx_drop _ _ k _ HWM.out (by rw [HW0.out]; simp only [Option.some.injEq, decide_eq_false_iff_not]; exact fun h => hw h.symm), Option.map_map]
          congr 1
          funext x
          simp only [Function.comp]
          omega
        clear hw HI
        go_wp2
        go_region
        go_wp2
        go_roundg (gk - 1)
        case measure => omega
        case rel => exact ⟨k + 1, by omega, by go_num, ((HL.out.alloc (by omega) _).drew), by show _ ≤ (World.alloc _ _).heap.size; simp; omega, (H4r.out.later ((Below.refl _ _).alloc (Nat.le_refl _) _).drew hWr), HI2⟩
    · have hk9 : k = 9 := by omega
      subst hk9
      have HE : Aside (lineR ws = .error 18) := by
        show _ = _
        unfold lineR
        rw [HI.out]
        first | done | rfl
      go_wp2
      refine ret_cmd rfl rfl (H4r.out.range _ _ _ _) rfl rfl ?_
      exact LinePost.err HE.out (by decide) (below_put4 HL.out (Nat.le_refl _) _ _ _ _)
end Go.Proofs.YtlkhkalniekaoaaGreatDoor
end
