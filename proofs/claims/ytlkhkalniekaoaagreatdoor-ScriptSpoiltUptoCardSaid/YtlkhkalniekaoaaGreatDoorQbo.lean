/- Parts of the proof: Vl. -/
import Derived.Shelf.Strings.PiecesUse
import Derived.Test.YtlkhkalniekaoaaGreatDoorQbn

set_option linter.unusedVariables false
set_option linter.unusedSimpArgs false

section
/- The reference's Parse, at every text. -/
namespace Go.Proofs.YtlkhkalniekaoaaGreatDoor
open Go.RowKit Go.Shelf Go.Sort Go.Lib

set_option maxHeartbeats 4000000 in
set_option maxRecDepth 1000000 in
theorem parse21_any (s : ByteArray) (w : World) (hc : Calm w) (hf : Forms21 w) (hs0 : s.size ≤ 1000000) :
    Calls Tryz.prog 10 #[.string s] w (ParsePost s w) := by
  have HF : Aside (Forms21 w) := hf
  clear hf
  obtain ⟨i0, hi, hz0, hz1, hz2⟩ := info_parts cmdInfo
  by_cases hbig : 65536 < s.size
  · have hR : Aside (parseR s = ([], 0, 2)) := by show _ = _; unfold parseR; rw [if_pos hbig]
    go_enter Tryz.func10, Tryz.ntmps10
    go_wp2
    go_ret3
    refine ⟨.slice none 0 0, [], ?_, Below.refl _ _, ?_, ?_⟩
    · rw [hR.out]; first | done | rfl
    · rw [hR.out]; exact World.ownsRow_nil _ _ _ _
    · rw [hR.out]; first | done | rfl
  · have hR : Aside (parseR s = parseGo (linesOf s) (linesOf s).length 0 []) := by show _ = _; unfold parseR; rw [if_neg hbig]
    obtain ⟨m, hm⟩ := hc.most
    have hlen : (linesOf s).length = Lib.countB s ⟨#[10]⟩ + 1 := Lib.splitB_all ⟨#[10]⟩ (by decide) 0 _ s rfl
    have hcnt : Lib.countB s ⟨#[10]⟩ ≤ s.size := Lib.countB_le ⟨#[10]⟩ (by decide) s.size s (Nat.le_refl _)
    have hsub : ∀ x ∈ linesOf s, x.size ≤ s.size := lines_size s
    have cS : Calls Tryz.prog 20 #[.string s, .string ⟨#[10]⟩] w fun e w' => e = .returned (.slice (some ⟨w.heap.size, 0, none⟩) (linesOf s).length (linesOf s).length) ∧ Later w w' ∧
        ∀ (j : Nat) (x : ByteArray), (linesOf s)[j]? = some x → w'.cell? ⟨w.heap.size, j, none⟩ = some (.string x) := by
      refine (Tryz.strings_Split s ⟨#[10]⟩ m w (by omega) hm (by decide)).mono ?_
      rintro e w' ⟨rfl, rfl⟩
      rw [hlen]
      refine ⟨rfl, (Below.refl _ w).alloc (Nat.le_refl _) _, fun j x hj => ?_⟩
      have := Lib.pieces_cell_at w (linesOf s) 9 j x hj
      exact this
    obtain ⟨ls, hls⟩ : ∃ ls, linesOf s = ls := ⟨_, rfl⟩
    rw [hls] at hlen hsub cS hR
    clear hls
    obtain ⟨n, hn⟩ : ∃ n, ls.length = n := ⟨_, rfl⟩
    rw [hn] at hlen cS hR
    have HN : Aside (ls.length = n) := hn
    have hn6 : n ≤ 65537 := by omega
    clear hn hlen
    have HSB : Aside (∀ x ∈ ls, x.size ≤ 65536) := fun x hx => Nat.le_trans (hsub x hx) (by omega)
    clear hsub
    go_enter Tryz.func10, Tryz.ntmps10
    go_wp2_with (go_at_call 20; refine cS.mono ?_; rintro e w1 ⟨rfl, hb, hcells⟩; have HL1 : Aside (Later w w1) := hb; clear hb; have HC : Aside (∀ (j : Nat) (x : ByteArray), ls[j]? = some x → w1.cell? ⟨w.heap.size, j, none⟩ = some (.string x)) := hcells; clear hcells)
    clear cS
    go_loopg [6, 7] n (fun g v i wr => ∃ (k : Nat) (out : List Cmd) (xs : List Value), n ≤ k + g ∧ k ≤ n ∧ i = .int .i64 k ∧ out.length ≤ 200 ∧ Aside (Later w1 wr) ∧ Aside (parseR s = parseGo ls g k out) ∧
      Aside (wr.ownsRow w1.heap.size 35 4 v out.length xs) ∧ Aside (Cmds wr w1.heap.size out xs))
    case atStart => exact ⟨0, [], [], by omega, by omega, rfl, by simp, Below.refl _ _, hR.out, World.ownsRow_nil _ _ _ _, rfl⟩
    case round =>
      obtain ⟨k, out, xs, hk, hkn, rfl, ho2, HL, HP, HO, HCm⟩ := hrel
      have hz1' := HL1.out.size
      have hz2' := HL.out.size
      obtain ⟨vp, vc, rfl⟩ := own_len HO.out
      by_cases hlt : k < n
      · obtain ⟨x, hx⟩ : ∃ x, ls[k]? = some x := ⟨_, List.getElem?_eq_getElem (by have := HN.out; omega)⟩
        have HX : Aside (ls[k]? = some x) := hx
        have hxs : x.size ≤ 65536 := HSB.out x (List.mem_of_getElem? hx)
        have hxc : wr.cell? ⟨w.heap.size, k, none⟩ = some (.string x) := HL.out.cellOf (HC.out k x hx)
        have HLw : Aside (Later w wr) := HL1.out.trans (HL.out.mono (by omega))
        clear hx
        obtain ⟨G, hG⟩ : ∃ g, gk = g + 1 := ⟨gk - 1, by omega⟩
        subst hG
        have HST : Aside _ := parseGo_step ls G k out x HX.out
        have hbw := blank_words x
        have hwl : (wordsOf x).length ≤ 1000000 := by have := words_count x; omega
        have hws : ∀ y ∈ wordsOf x, y.size ≤ 1000000 ∧ 0 < y.size := fun y hy => ⟨by have := words_size x y hy; omega, words_full x y hy⟩
        have cF := fields_any x (by omega) wr (hc.later HLw.out)
        obtain ⟨ws, hwe⟩ : ∃ ws, wordsOf x = ws := ⟨_, rfl⟩
        rw [hwe] at hbw hwl hws cF HST
        clear hwe
        have CF : Aside (Calls Tryz.prog 27 #[.string x] wr fun e w' => ∃ A, e = .returned (.slice (some ⟨A, 0, none⟩) ws.length ws.length) ∧ Later wr w' ∧ wr.heap.size ≤ A ∧ ∀ (j : Nat) (y : ByteArray), ws[j]? = some y → w'.cell? ⟨A, j, none⟩ = some (.string y)) := cF
        have HWS : Aside (∀ y ∈ ws, y.size ≤ 1000000 ∧ 0 < y.size) := hws
        have HBW : Aside _ := hbw
        clear cF hws hbw
        obtain ⟨wn, hwn⟩ : ∃ wn, ws.length = wn := ⟨_, rfl⟩
        have HLN : Aside (ws.length = wn) := hwn
        rw [hwn] at hwl
        clear hwn
        by_cases hw0 : wn = 0
        · have hwe : ws = [] := List.length_eq_zero_iff.1 (by rw [HLN.out]; exact hw0)
          have HP2 : Aside (parseR s = parseGo ls G (k + 1) out) := by
            show _ = _
            rw [HP.out, HST.out, if_pos (by rw [HBW.out, hwe])]
          clear hwe
          subst hw0
          go_wp2_with (go_at_call 27; (with_reducible refine Calls.mono CF.out ?_); rintro e w2 ⟨A, rfl, hb, hA, hcl⟩; have HB2 : Aside (Later wr w2) := hb; have HCL : Aside (∀ (j : Nat) (y : ByteArray), ws[j]? = some y → w2.cell? ⟨A, j, none⟩ = some (.string y)) := hcl; clear hb hcl; rw [HLN.out])
          go_roundg G
          case measure => omega
          case rel => exact ⟨k + 1, out, xs, by omega, by omega, by go_num, ho2, Later.step HL.out HB2.out, HP2.out, owned_later HO.out HB2.out, HCm.out.later HB2.out⟩
        · have hne : ws ≠ [] := fun h => hw0 (by rw [← HLN.out, h]; first | done | rfl)
          obtain ⟨y0, r0, hwe⟩ := List.exists_cons_of_ne_nil hne
          have HNE : Aside (ws ≠ []) := hne
          have HY0 : Aside (ws[0]? = some y0) := by rw [hwe]; first | done | rfl
          have hy0 : 0 < y0.size := (HWS.out y0 (by rw [hwe]; simp)).2
          have HBY : Aside (blankS x = decide (y0.data.toList.head? = some 59)) := by show _ = _; rw [HBW.out, hwe]
          clear hwe hne
          by_cases h59 : ((y0[0]'hy0).toNat : Int) = 59
          · have HP2 : Aside (parseR s = parseGo ls G (k + 1) out) := by
              show _ = _
              rw [HP.out, HST.out, if_pos (by rw [HBY.out, (head_is y0 hy0 59).2 h59]; first | done | rfl)]
            have b59 : (((y0[0]'hy0).toNat : Int) == 59) = true := by simp only [beq_iff_eq]; exact h59
            clear h59
            go_wp2_with (go_at_call 27; (with_reducible refine Calls.mono CF.out ?_); rintro e w2 ⟨A, rfl, hb, hA, hcl⟩; have HB2 : Aside (Later wr w2) := hb; have HCL : Aside (∀ (j : Nat) (y : ByteArray), ws[j]? = some y → w2.cell? ⟨A, j, none⟩ = some (.string y)) := hcl; clear hb hcl; rw [HLN.out]; have hyc : w2.cell? ⟨A, 0, none⟩ = some (.string y0) := HCL.out 0 y0 HY0.out)
            go_roundg G
            case measure => omega
            case rel => exact ⟨k + 1, out, xs, by omega, by omega, by go_num, ho2, Later.step HL.out HB2.out, HP2.out, owned_later HO.out HB2.out, HCm.out.later HB2.out⟩
          · have b59 : (((y0[0]'hy0).toNat : Int) == 59) = false := by simp only [beq_eq_false_iff_ne]; exact h59
            have HBL : Aside (¬ blankS x = true) := by
              show ¬ _
              rw [HBY.out]
              simp only [decide_eq_true_eq]
              exact fun h => h59 ((head_is y0 hy0 59).1 h)
            clear h59
            by_cases h200 : out.length = 200
            · have HP2 : Aside (parseR s = ([], (k : Int) + 1, 2)) := by
                show _ = _
                rw [HP.out, HST.out, if_neg HBL.out, if_pos h200]
              have h200' : ((out.length : Nat) : Int) = 200 := by omega
              clear h200
              go_wp2_with (go_at_call 27; (with_reducible refine Calls.mono CF.out ?_); rintro e w2 ⟨A, rfl, hb, hA, hcl⟩; have HB2 : Aside (Later wr w2) := hb; have HCL : Aside (∀ (j : Nat) (y : ByteArray), ws[j]? = some y → w2.cell? ⟨A, j, none⟩ = some (.string y)) := hcl; clear hb hcl; rw [HLN.out]; have hyc : w2.cell? ⟨A, 0, none⟩ = some (.string y0) := HCL.out 0 y0 HY0.out)
              go_ret3
              refine ⟨.slice none 0 0, [], ?_, HLw.out.trans (HB2.out.mono (by omega)), ?_, ?_⟩
              · rw [HP2.out]; first | done | rfl
              · rw [HP2.out]; exact World.ownsRow_nil _ _ _ _
              · rw [HP2.out]; first | done | rfl
            · have h200' : ¬ ((out.length : Nat) : Int) = 200 := by omega
              have A1 : Aside (∀ w2, Later wr w2 → Forms21 w2) := fun w2 hb => HF.out.later (HLw.out.trans (hb.mono (by omega)))
              have hL0 : w.heap.size ≤ wr.heap.size := by omega
              cases hlr : lineR ws with
              | error er =>
                have HLR : Aside (lineR ws = .error er) := hlr
                clear hlr
                have HP2 : Aside (parseR s = ([], (k : Int) + 1, er)) := by
                  show _ = _
                  rw [HP.out, HST.out, if_neg HBL.out, if_neg h200, HLR.out]
                have LE : Aside (∀ (w2 : World) (A : Nat), Later wr w2 → (∀ (j : Nat) (y : ByteArray), ws[j]? = some y → w2.cell? ⟨A, j, none⟩ = some (.string y)) → Calls Tryz.prog 28 #[.slice (some ⟨A, 0, none⟩) wn wn] w2 fun e w' => er ≠ 0 ∧ ∃ kk p1 n1 c1 p2 n2 c2 src, e = .returned (.tuple #[.agg #[.int .i64 kk, .slice p1 n1 c1, .slice p2 n2 c2, .string src], .int .i64 er]) ∧ Later w2 w') := fun w2 A hb hcl => by
                  have := line21_err ws w2 (A1.out w2 hb) A hcl HNE.out (by rw [HLN.out]; exact hwl) HWS.out er HLR.out
                  rw [HLN.out] at this
                  exact this
                clear h200
                go_wp2_with (first
                  | (go_at_call 27; (with_reducible refine Calls.mono CF.out ?_); rintro e w2 ⟨A, rfl, hb, hA, hcl⟩; have HB2 : Aside (Later wr w2) := hb; have HCL : Aside (∀ (j : Nat) (y : ByteArray), ws[j]? = some y → w2.cell? ⟨A, j, none⟩ = some (.string y)) := hcl; clear hb hcl; rw [HLN.out]; have hyc : w2.cell? ⟨A, 0, none⟩ = some (.string y0) := HCL.out 0 y0 HY0.out)
                  | (go_at_call 28; (with_reducible refine Calls.mono (LE.out _ _ HB2.out HCL.out) ?_); rintro e w3 ⟨her0, kk, p1, n1, c1, p2, n2, c2, src, rfl, hb⟩; have HB3 : Aside (Later w2 w3) := hb; clear hb))
                go_ret3
                refine ⟨.slice none 0 0, [], ?_, ((HLw.out.trans (HB2.out.mono hL0)).trans (HB3.out.mono (by have := HB2.out.size; omega))).alloc (by have := HB2.out.size; have := HB3.out.size; omega) _, ?_, ?_⟩
                · rw [HP2.out]; first | done | rfl
                · rw [HP2.out]; exact World.ownsRow_nil _ _ _ _
                · rw [HP2.out]; first | done | rfl
              | ok c =>
                have HLR : Aside (lineR ws = .ok c) := hlr
                clear hlr
                have LK : Aside (∀ (w2 : World) (A : Nat), Later wr w2 → (∀ (j : Nat) (y : ByteArray), ws[j]? = some y → w2.cell? ⟨A, j, none⟩ = some (.string y)) → Calls Tryz.prog 28 #[.slice (some ⟨A, 0, none⟩) wn wn] w2 fun e w' => ∃ p1 n1 c1 p2 n2 c2, e = .returned (.tuple #[.agg #[.int .i64 c.k, .slice p1 n1 c1, .slice p2 n2 c2, .string c.src], .int .i64 0]) ∧ Later w2 w' ∧
                    w'.ownsRow w2.heap.size 3 1 (.slice p1 n1 c1) c.ns.length (c.ns.map (Value.int .i64)) ∧ w'.ownsRow w2.heap.size 49 5 (.slice p2 n2 c2) c.al.length (argCells c.al)) := fun w2 A hb hcl => by
                  have := line21_ok ws w2 (A1.out w2 hb) A hcl HNE.out (by rw [HLN.out]; exact hwl) HWS.out c HLR.out
                  rw [HLN.out] at this
                  exact this
                by_cases hk1 : c.k = 1
                · rcases c with ⟨ck, cns, cal, csrc⟩
                  simp only at hk1
                  subst hk1
                  obtain ⟨W1, rfl⟩ : ∃ W, W = wr := ⟨_, rfl⟩
                  obtain ⟨d, hd⟩ : ∃ d, dotN (ls.drop (k + 1)) = d := ⟨_, rfl⟩
                  have hdl : d ≤ n - (k + 1) := by
                    rw [← hd]
                    have := dotN_len (ls.drop (k + 1))
                    rw [List.length_drop, HN.out] at this
                    exact this
                  have HST2 : Aside (parseR s = if n ≤ k + 1 + d then ([], (k : Int) + 1, 1)
                      else parseGo ls G (k + 1 + d + 1) (out ++ [(⟨1, cns, cal, joinS ((ls.drop (k + 1)).take d)⟩ : Cmd)])) := by
                    show _ = _
                    rw [HP.out, HST.out, if_neg HBL.out, if_neg h200, HLR.out]
                    simp only [if_true]
                    rw [HN.out, hd]
                  have IX : Aside (∀ (w' : World) (a : Option Addr) (c : Nat), (∀ (q : Nat) (y : ByteArray), ls[q]? = some y → w'.cell? ⟨w.heap.size, q, none⟩ = some (.string y)) → (0 < n - (k + 1) → a = some ⟨w.heap.size, k + 1, none⟩) →
                      Calls Tryz.prog 29 #[.slice a (n - (k + 1)) c, .string ⟨#[46]⟩] w' fun e w'' => e = .returned (.int .i64 (if d = n - (k + 1) then -1 else (d : Int))) ∧ w'' = w') := fun w' a c hcl ha => by
                    have hll : (ls.drop (k + 1)).length = n - (k + 1) := by rw [List.length_drop, HN.out]
                    have := point_any w.heap.size (k + 1) c (ls.drop (k + 1)) w' (by rw [hll]; omega) (fun q y hy => by rw [List.getElem?_drop] at hy; exact hcl _ y hy) a (by rw [hll]; exact ha)
                    rw [hll, hd] at this
                    exact this
                  clear h200 hd
                  have HWC : Aside (∀ w', Later W1 w' → ∀ (q : Nat) (y : ByteArray), ls[q]? = some y → w'.cell? ⟨w.heap.size, q, none⟩ = some (.string y)) := fun w' hb q y hy => hb.cellOf (HL.out.cellOf (HC.out q y hy))
                  have hWlt : w.heap.size < W1.heap.size := cell_lt hxc
                  by_cases hdn : d = n - (k + 1)
                  · have HP2 : Aside (parseR s = ([], (k : Int) + 1, 1)) := by
                      show _ = _
                      rw [HST2.out, if_pos (by omega)]
                    have IX2 : Aside (∀ (w' : World) (a : Option Addr) (c : Nat), (∀ (q : Nat) (y : ByteArray), ls[q]? = some y → w'.cell? ⟨w.heap.size, q, none⟩ = some (.string y)) → (0 < n - (k + 1) → a = some ⟨w.heap.size, k + 1, none⟩) →
                      Calls Tryz.prog 29 #[.slice a (n - (k + 1)) c, .string ⟨#[46]⟩] w' fun e w'' => e = .returned (.int .i64 (-1)) ∧ w'' = w') := fun w' a c hcl ha => by
                      have := IX.out w' a c hcl ha
                      rw [if_pos hdn] at this
                      exact this
                    clear hdn
                    by_cases hkn1 : n = k + 1
                    · subst hkn1
                      go_wp2_with (first
                        | (go_at_call 27; (with_reducible refine Calls.mono CF.out ?_); rintro e w2 ⟨A, rfl, hb, hA, hcl⟩; have HB2 : Aside (Later W1 w2) := hb; have HCL : Aside (∀ (j : Nat) (y : ByteArray), ws[j]? = some y → w2.cell? ⟨A, j, none⟩ = some (.string y)) := hcl; clear hb hcl; rw [HLN.out]; have hyc : w2.cell? ⟨A, 0, none⟩ = some (.string y0) := HCL.out 0 y0 HY0.out)
                        | (go_at_call 28; (with_reducible refine Calls.mono (LK.out _ _ HB2.out HCL.out) ?_); rintro e w3 ⟨p1, n1, c1, p2, n2, c2, rfl, hb, ho1', ho2'⟩; have HB3 : Aside (Later w2 w3) := hb; clear hb ho1' ho2'; simp only [])
                        | (go_at_call 29; (have h0n : k + 1 - (k + 1) = 0 := (by omega)); have IX3 := IX2.out; rw [h0n] at IX3; (with_reducible refine Calls.mono (IX3 _ _ _ ?_ ?_) ?_); (exact fun q y hy => (World.cell?_alloc_past _ _ _ (by have := HB2.out.size; have := HB3.out.size; omega)).trans (HWC.out _ (Later.step HB2.out HB3.out) q y hy)); (exact fun h => absurd h (Nat.lt_irrefl _)); rintro e w4 ⟨rfl, rfl⟩))
                      go_ret3
                      refine ⟨.slice none 0 0, [], ?_, ((HLw.out.trans (HB2.out.mono hL0)).trans (HB3.out.mono (by have := HB2.out.size; omega))).alloc (by have := HB2.out.size; have := HB3.out.size; omega) _, ?_, ?_⟩
                      · rw [HP2.out]; first | done | rfl
                      · rw [HP2.out]; exact World.ownsRow_nil _ _ _ _
                      · rw [HP2.out]; first | done | rfl
                    · have hkn2 : k + 1 < n := by omega
                      go_wp2_with (first
                        | (go_at_call 27; (with_reducible refine Calls.mono CF.out ?_); rintro e w2 ⟨A, rfl, hb, hA, hcl⟩; have HB2 : Aside (Later W1 w2) := hb; have HCL : Aside (∀ (j : Nat) (y : ByteArray), ws[j]? = some y → w2.cell? ⟨A, j, none⟩ = some (.string y)) := hcl; clear hb hcl; rw [HLN.out]; have hyc : w2.cell? ⟨A, 0, none⟩ = some (.string y0) := HCL.out 0 y0 HY0.out)
                        | (go_at_call 28; (with_reducible refine Calls.mono (LK.out _ _ HB2.out HCL.out) ?_); rintro e w3 ⟨p1, n1, c1, p2, n2, c2, rfl, hb, ho1', ho2'⟩; have HB3 : Aside (Later w2 w3) := hb; clear hb ho1' ho2'; simp only [])
                        | (go_at_call 29; (with_reducible refine Calls.mono (IX2.out _ _ _ ?_ ?_) ?_); (exact fun q y hy => (World.cell?_alloc_past _ _ _ (by have := HB2.out.size; have := HB3.out.size; omega)).trans (HWC.out _ (Later.step HB2.out HB3.out) q y hy)); (exact fun _ => rfl); rintro e w4 ⟨rfl, rfl⟩))
                      go_ret3
                      refine ⟨.slice none 0 0, [], ?_, ((HLw.out.trans (HB2.out.mono hL0)).trans (HB3.out.mono (by have := HB2.out.size; omega))).alloc (by have := HB2.out.size; have := HB3.out.size; omega) _, ?_, ?_⟩
                      · rw [HP2.out]; first | done | rfl
                      · rw [HP2.out]; exact World.ownsRow_nil _ _ _ _
                      · rw [HP2.out]; first | done | rfl
                  · have hdlt : d < n - (k + 1) := by omega
                    have IX2 : Aside (∀ (w' : World) (a : Option Addr) (c : Nat), (∀ (q : Nat) (y : ByteArray), ls[q]? = some y → w'.cell? ⟨w.heap.size, q, none⟩ = some (.string y)) → (0 < n - (k + 1) → a = some ⟨w.heap.size, k + 1, none⟩) →
                      Calls Tryz.prog 29 #[.slice a (n - (k + 1)) c, .string ⟨#[46]⟩] w' fun e w'' => e = .returned (.int .i64 d) ∧ w'' = w') := fun w' a c hcl ha => by
                      have := IX.out w' a c hcl ha
                      rw [if_neg hdn] at this
                      exact this
                    clear hdn
                    obtain ⟨J, hJ⟩ : ∃ J, joinS ((ls.drop (k + 1)).take d) = J := ⟨_, rfl⟩
                    have HP2 : Aside (parseR s = parseGo ls G (k + 1 + d + 1) (out ++ [(⟨1, cns, cal, J⟩ : Cmd)])) := by
                      show _ = _
                      rw [HST2.out, if_neg (by omega), hJ]
                    have JC : Aside (∀ w', Later W1 w' → Calls Tryz.prog 6 #[.slice (some ⟨w.heap.size, k + 1, none⟩) d (n - (k + 1)), .string ⟨#[10]⟩] w' fun e w'' => e = .returned (.string J) ∧ Later w' w'') := fun w' hb => by
                      have hxl : ((ls.drop (k + 1)).take d).length = d := by rw [List.length_take, List.length_drop, HN.out]; omega
                      have h := Tryz.strings_Join w.heap.size (k + 1) (n - (k + 1)) ((ls.drop (k + 1)).take d) ⟨#[10]⟩ w'
                        (fun q y hy => by
                          rw [List.getElem?_take] at hy
                          split at hy
                          · rw [List.getElem?_drop] at hy
                            exact HWC.out w' hb _ y hy
                          · cases hy)
                        (by have := hb.size; omega) (by rw [hxl]; omega) (by rw [hxl]; omega)
                        (join_small _ (fun y hy => HSB.out y (List.mem_of_mem_drop (List.mem_of_mem_take hy))) (by rw [hxl]; omega))
                      rw [hxl] at h
                      refine h.mono ?_
                      rintro e w'' ⟨rfl, hb2⟩
                      rw [← hJ]
                      exact ⟨rfl, hb2⟩
                    clear hJ
                    go_wp2_with (first
                      | (go_at_call 27; (with_reducible refine Calls.mono CF.out ?_); rintro e w2 ⟨A, rfl, hb, hA, hcl⟩; have HB2 : Aside (Later W1 w2) := hb; have HCL : Aside (∀ (j : Nat) (y : ByteArray), ws[j]? = some y → w2.cell? ⟨A, j, none⟩ = some (.string y)) := hcl; clear hb hcl; rw [HLN.out]; have hyc : w2.cell? ⟨A, 0, none⟩ = some (.string y0) := HCL.out 0 y0 HY0.out)
                      | (go_at_call 28; (with_reducible refine Calls.mono (LK.out _ _ HB2.out HCL.out) ?_); rintro e w3 ⟨p1, n1, c1, p2, n2, c2, rfl, hb, ho1', ho2'⟩; have HB3 : Aside (Later w2 w3) := hb; clear hb; have O1 : Aside (World.ownsRow _ _ _ _ _ _ _) := ho1'; have O2 : Aside (World.ownsRow _ _ _ _ _ _ _) := ho2'; clear ho1' ho2'; have B23 : Aside (Later W1 w3) := Later.step HB2.out HB3.out; simp only [])
                      | (go_at_call 29; (with_reducible refine Calls.mono (IX2.out _ _ _ ?_ ?_) ?_); (exact fun q y hy => (World.cell?_alloc_past _ _ _ (by have := B23.out.size; omega)).trans (HWC.out _ B23.out q y hy)); (exact fun _ => rfl); rintro e w4 ⟨rfl, rfl⟩)
                      | (go_at_call 6; (with_reducible refine Calls.mono (JC.out _ (B23.out.alloc (by have := B23.out.size; omega) _)) ?_); rintro e w5 ⟨rfl, hb⟩; have HB5 : Aside (Later (w3.alloc (.cells #[.int .i64 1, .slice p1 n1 c1, .slice p2 n2 c2, .string csrc] 35)) w5) := hb; have f5 := (Four.new w3 _ _ _ _ _).later hb (by simp); obtain ⟨⟨g0, g1, g2, g3⟩, k0, k1, k2, k3⟩ := id f5; clear hb f5)
                      | (at_builtin; refine wpList_append_own _ rfl (.tmp 79) (.tmp 81) 24 rfl w1.heap.size 35 i0 (.agg #[.int .i64 0, .slice none 0 0, .slice none 0 0, .string ⟨#[]⟩]) 4 72 Tryz.underlying24 hi hz0 hz1 hz2 rfl (by decide) (.slice vp out.length vc) out.length xs (by simp [Act.eval, Act.put]) ((owned_later (owned_later HO.out B23.out) ((((Below.refl _ w3).alloc (Nat.le_refl _) _).trans (HB5.out.mono (by simp))).setCell (p := ⟨w3.heap.size, 3, none⟩) (Nat.le_refl _) (.string J))).alloc _) ⟨w5.heap.size, 0, none⟩ 1 1 [.int .i64 1, .slice p1 n1 c1, .slice p2 n2 c2, .string J] rfl rfl ?_ ?_ ?_ ?_ ?_ ?_; rotate_right; intro v' w4 hown' hgrow _))
                    · have z2 := HB2.out.size
                      have z3 := HB3.out.size
                      have b36 : Later w3 (w5.setCell ⟨w3.heap.size, 3, none⟩ (.string J)) := (((Below.refl _ w3).alloc (Nat.le_refl _) _).trans (HB5.out.mono (by simp))).setCell (p := ⟨w3.heap.size, 3, none⟩) (Nat.le_refl _) (.string J)
                      have b37 : Later w3 ((w5.setCell ⟨w3.heap.size, 3, none⟩ (.string J)).alloc (.cells #[.int .i64 1, .slice p1 n1 c1, .slice p2 n2 c2, .string J] 35)) := b36.alloc b36.size _
                      have b27 : Later W1 ((w5.setCell ⟨w3.heap.size, 3, none⟩ (.string J)).alloc (.cells #[.int .i64 1, .slice p1 n1 c1, .slice p2 n2 c2, .string J] 35)) := Later.step B23.out b37
                      have HO3 : ((w5.setCell ⟨w3.heap.size, 3, none⟩ (.string J)).alloc (.cells #[.int .i64 1, .slice p1 n1 c1, .slice p2 n2 c2, .string J] 35)).ownsRow w1.heap.size 35 4 (.slice vp out.length vc) out.length xs := owned_later HO.out b27
                      have HC3' : CmdCells ((w5.setCell ⟨w3.heap.size, 3, none⟩ (.string J)).alloc (.cells #[.int .i64 1, .slice p1 n1 c1, .slice p2 n2 c2, .string J] 35)) w1.heap.size ⟨1, cns, cal, J⟩ [.int .i64 1, .slice p1 n1 c1, .slice p2 n2 c2, .string J] :=
                        ⟨p1, n1, c1, p2, n2, c2, rfl, own_mono (owned_later O1.out b37) (by omega), own_mono (owned_later O2.out b37) (by omega)⟩
                      have HM3 : Cmds ((w5.setCell ⟨w3.heap.size, 3, none⟩ (.string J)).alloc (.cells #[.int .i64 1, .slice p1 n1 c1, .slice p2 n2 c2, .string J] 35)) w1.heap.size out xs := HCm.out.later b27
                      have HOF : Aside (w4.ownsRow w1.heap.size 35 4 v' (out ++ [(⟨1, cns, cal, J⟩ : Cmd)]).length (xs ++ [.int .i64 1, .slice p1 n1 c1, .slice p2 n2 c2, .string J])) := by
                        show World.ownsRow _ _ _ _ _ _ _
                        rw [List.length_append]
                        exact hown'
                      have HCF : Aside (Cmds w4 w1.heap.size (out ++ [(⟨1, cns, cal, J⟩ : Cmd)]) (xs ++ [.int .i64 1, .slice p1 n1 c1, .slice p2 n2 c2, .string J])) :=
                        Cmds.snoc (HC3'.grown HO3 hgrow) (HM3.grown HO3 hgrow)
                      have HLF : Aside (Later w1 w4) :=
                        (HL.out.trans (b27.mono (by omega))).grown hgrow (Nat.le_trans (by omega) b27.size) (fun q hq => own_block HO.out q hq)
                      clear hown' hgrow
                      go_wp2
                      go_roundg G
                      case measure => omega
                      case rel => exact ⟨k + 1 + d + 1, _, _, by omega, by omega, by go_num, by simp; omega, HLF.out, HP2.out, HOF.out, HCF.out⟩
                    all_goals first
                      | exact ⟨rfl, rfl, rfl, rfl⟩
                      | (unfold maxLen; omega)
                      | omega
                      | (have := HB5.out.size; simp at this ⊢; omega)
                      | (have h2 := HB2.out.size; have h3 := HB3.out.size; have h5 := HB5.out.size; simp only [World.size_alloc, World.setCell, Array.size_modify] at h2 h3 h5 ⊢; omega)
                      | exact fun q u hq => cells4_at (by simp [World.setCell]) _ _ _ _ _ q u hq
                      | (intro u hu; simp only [List.mem_cons, List.not_mem_nil, or_false] at hu; rcases hu with rfl | rfl | rfl | rfl <;> rfl)
                · have HP2 : Aside (parseR s = parseGo ls G (k + 1) (out ++ [c])) := by
                    show _ = _
                    rw [HP.out, HST.out, if_neg HBL.out, if_neg h200, HLR.out]
                    simp only [hk1, if_false]
                  clear h200
                  rcases c with ⟨ck, cns, cal, csrc⟩
                  simp only at hk1
                  go_wp2_with (first
                    | (go_at_call 27; (with_reducible refine Calls.mono CF.out ?_); rintro e w2 ⟨A, rfl, hb, hA, hcl⟩; have HB2 : Aside (Later wr w2) := hb; have HCL : Aside (∀ (j : Nat) (y : ByteArray), ws[j]? = some y → w2.cell? ⟨A, j, none⟩ = some (.string y)) := hcl; clear hb hcl; rw [HLN.out]; have hyc : w2.cell? ⟨A, 0, none⟩ = some (.string y0) := HCL.out 0 y0 HY0.out)
                    | (go_at_call 28; (with_reducible refine Calls.mono (LK.out _ _ HB2.out HCL.out) ?_); rintro e w3 ⟨p1, n1, c1, p2, n2, c2, rfl, hb, ho1', ho2'⟩; have HB3 : Aside (Later w2 w3) := hb; clear hb; have O1 : Aside (World.ownsRow _ _ _ _ _ _ _) := ho1'; have O2 : Aside (World.ownsRow _ _ _ _ _ _ _) := ho2'; clear ho1' ho2'; simp only [])
                    | (at_builtin; refine wpList_append_own _ rfl (.tmp 79) (.tmp 81) 24 rfl w1.heap.size 35 i0 (.agg #[.int .i64 0, .slice none 0 0, .slice none 0 0, .string ⟨#[]⟩]) 4 72 Tryz.underlying24 hi hz0 hz1 hz2 rfl (by decide) (.slice vp out.length vc) out.length xs (by simp [Act.eval, Act.put]) (((owned_later (owned_later HO.out HB2.out) HB3.out).alloc _).alloc _) ⟨w3.heap.size + 1, 0, none⟩ 1 1 [.int .i64 ck, .slice p1 n1 c1, .slice p2 n2 c2, .string csrc] rfl rfl ?_ ?_ ?_ ?_ ?_ ?_; rotate_right; intro v' w4 hown' hgrow _))
                  · have b23 : Later wr w3 := Later.step HB2.out HB3.out
                    have z2 := HB2.out.size
                    have z3 := HB3.out.size
                    have HO3 : ((w3.alloc (.cells #[.int .i64 ck, .slice p1 n1 c1, .slice p2 n2 c2, .string csrc] 35)).alloc (.cells #[.int .i64 ck, .slice p1 n1 c1, .slice p2 n2 c2, .string csrc] 35)).ownsRow w1.heap.size 35 4 (.slice vp out.length vc) out.length xs :=
                      ((owned_later (owned_later HO.out HB2.out) HB3.out).alloc _).alloc _
                    have HC3 : CmdCells ((w3.alloc (.cells #[.int .i64 ck, .slice p1 n1 c1, .slice p2 n2 c2, .string csrc] 35)).alloc (.cells #[.int .i64 ck, .slice p1 n1 c1, .slice p2 n2 c2, .string csrc] 35)) w1.heap.size ⟨ck, cns, cal, csrc⟩ [.int .i64 ck, .slice p1 n1 c1, .slice p2 n2 c2, .string csrc] :=
                      ⟨p1, n1, c1, p2, n2, c2, rfl, own_mono ((O1.out.alloc _).alloc _) (by omega), own_mono ((O2.out.alloc _).alloc _) (by omega)⟩
                    have HM3 : Cmds ((w3.alloc (.cells #[.int .i64 ck, .slice p1 n1 c1, .slice p2 n2 c2, .string csrc] 35)).alloc (.cells #[.int .i64 ck, .slice p1 n1 c1, .slice p2 n2 c2, .string csrc] 35)) w1.heap.size out xs :=
                      HCm.out.later (((b23.alloc (by omega) _)).alloc (by simp; omega) _)
                    have HOF : Aside (w4.ownsRow w1.heap.size 35 4 v' (out ++ [(⟨ck, cns, cal, csrc⟩ : Cmd)]).length (xs ++ [.int .i64 ck, .slice p1 n1 c1, .slice p2 n2 c2, .string csrc])) := by
                      show World.ownsRow _ _ _ _ _ _ _
                      rw [List.length_append]
                      exact hown'
                    have HCF : Aside (Cmds w4 w1.heap.size (out ++ [(⟨ck, cns, cal, csrc⟩ : Cmd)]) (xs ++ [.int .i64 ck, .slice p1 n1 c1, .slice p2 n2 c2, .string csrc])) :=
                      Cmds.snoc (HC3.grown HO3 hgrow) (HM3.grown HO3 hgrow)
                    have HLF : Aside (Later w1 w4) := by
                      refine (((HL.out.trans (b23.mono (by omega))).alloc (by omega) _).alloc (by simp; omega) _).grown hgrow (by simp; omega) (fun q hq => own_block HO.out q hq)
                    clear hown' hgrow
                    go_roundg G
                    case measure => omega
                    case rel => exact ⟨k + 1, _, _, by omega, by omega, by go_num, by simp; omega, HLF.out, HP2.out, HOF.out, HCF.out⟩
                  all_goals first
                    | exact ⟨rfl, rfl, rfl, rfl⟩
                    | (unfold maxLen; omega)
                    | omega
                    | (have h2 := HB2.out.size; have h3 := HB3.out.size; simp only [World.size_alloc] at h2 h3 ⊢; omega)
                    | exact fun q u hq => cells4_at (by simp [World.setCell]) _ _ _ _ _ q u hq
                    | (intro u hu; simp only [List.mem_cons, List.not_mem_nil, or_false] at hu; rcases hu with rfl | rfl | rfl | rfl <;> rfl)
      · have hkz : k = n := by omega
        subst hkz
        have hfin : Aside (parseR s = (out, 0, 0)) := by
          show _ = _
          rw [HP.out]
          cases gk with
          | zero => rfl
          | succ g =>
            have : ls[k]? = none := by rw [List.getElem?_eq_none_iff, HN.out]; exact Nat.le_refl _
            rw [parseGo, this]
        go_wp2
        go_ret3
        refine ⟨.slice vp out.length vc, xs, ?_, HL1.out.trans (HL.out.mono (by omega)), ?_, ?_⟩
        · rw [hfin.out]; first | done | rfl
        · rw [hfin.out]; exact own_mono HO.out hz1'
        · rw [hfin.out]; exact Cmds.mono hz1' HCm.out
end Go.Proofs.YtlkhkalniekaoaaGreatDoor
end
