/- Parts of the proof: Wo, Wp, Wq, Wr. -/
import Derived.Lib.TrimU
import Derived.Shelf.Strings.PiecesUse
import Derived.Test.YthifhncbbndiaaaGreatDoorQav

set_option linter.unusedVariables false
set_option linter.unusedSimpArgs false

section
/- paling/script.line. -/
namespace Go.Proofs.YthifhncbbndiaaaGreatDoor
open Go.RowKit Go.Shelf Go.Sort Go.Lib
theorem toList_eq (a b : ByteArray) : (a.toList == b.toList) = decide (a = b) := by
  rw [Lib.toList_data, Lib.toList_data]
  by_cases h : a = b
  · subst h; simp
  · simp only [h, decide_false, beq_eq_false_iff_ne, ne_eq]
    intro hh
    exact h (ByteArray.ext (Array.ext' hh))
theorem Four.put1 {w : World} {c : Nat} {x0 x1 x2 x3 : Value} (h : Four w c x0 x1 x2 x3) (y : Value) : Four (w.setCell ⟨c, 1, none⟩ y) c x0 y x2 x3 := by
  obtain ⟨⟨c0, c1, c2, c3⟩, f0, f1, f2, f3⟩ := h
  refine ⟨⟨?_, ?_, ?_, ?_⟩, ?_, ?_, ?_, ?_⟩
  · rw [World.cell?_setCell_other _ _ _ _ (by simp)]; exact c0
  · exact World.cell?_setCell_same _ _ _ c1
  · rw [World.cell?_setCell_other _ _ _ _ (by simp)]; exact c2
  · rw [World.cell?_setCell_other _ _ _ _ (by simp)]; exact c3
  · simpa using f0
  · simpa using f1
  · simpa using f2
  · simpa using f3
theorem own_mono {w : World} {B B' : Nat} {e : TypeId} {sz : Nat} {v : Value} {n : Nat} {xs : List Value} (h : w.ownsRow B e sz v n xs) (hB : B' ≤ B) : w.ownsRow B' e sz v n xs := by
  refine ⟨h.1, ?_⟩
  rcases h.2 with hn | ⟨g, cap, cur, hv, hg, hr⟩
  · exact .inl hn
  · exact .inr ⟨g, cap, cur, hv, Nat.le_trans hB hg, hr⟩
theorem own_put4 {w : World} {B b : Nat} {e : TypeId} {sz : Nat} {v : Value} {n : Nat} {xs : List Value} (h : w.ownsRow B e sz v n xs) (hb : b < B) (y0 y1 y2 y3 : Value) : (World.put4 w b y0 y1 y2 y3).ownsRow B e sz v n xs :=
  ownsRow_setCell_below (ownsRow_setCell_below (ownsRow_setCell_below (ownsRow_setCell_below h hb _) hb _) hb _) hb _
theorem num_none (s : ByteArray) (hs : s.size ≤ 1000000) (w : World) (hc : Calm w) (h : numS s = none) :
    Calls Tryz.prog 28 #[.string s] w fun e w' => ∃ n, e = .returned (.tuple #[.int .i64 n, .bool false]) ∧ Later w w' := by
  refine (number_any s hs w hc).mono ?_
  rintro e w' ⟨n, rfl, hl, _⟩
  rw [h]
  exact ⟨n, rfl, hl⟩
theorem num_some (s : ByteArray) (hs : s.size ≤ 1000000) (w : World) (hc : Calm w) (v : Int) (h : numS s = some v) :
    Calls Tryz.prog 28 #[.string s] w fun e w' => e = .returned (.tuple #[.int .i64 v, .bool true]) ∧ Later w w' := by
  refine (number_any s hs w hc).mono ?_
  rintro e w' ⟨n, rfl, hl, hb⟩
  rw [h, hb v h]
  exact ⟨rfl, hl⟩
theorem numsR_append (l : List ByteArray) (x : ByteArray) : numsR (l ++ [x]) = match numsR l, numS x with | some a, some b => some (a ++ [b]) | _, _ => none := by
  induction l with
  | nil => simp only [List.nil_append, numsR]; cases numS x <;> rfl
  | cons y l ih =>
    simp only [List.cons_append, numsR]
    cases numS y with
    | none => rfl
    | some b =>
      simp only [ih]
      cases numsR l <;> cases numS x <;> rfl
theorem numsR_none (l r : List ByteArray) (h : numsR l = none) : numsR (l ++ r) = none := by
  induction l with
  | nil => simp [numsR] at h
  | cons y l ih =>
    simp only [List.cons_append, numsR] at h ⊢
    cases hy : numS y with
    | none => rfl
    | some b =>
      rw [hy] at h
      simp only [Option.map_eq_none_iff] at h ⊢
      exact ih h
theorem numsR_length (l : List ByteArray) (a : List Int) (h : numsR l = some a) : a.length = l.length := by
  induction l generalizing a with
  | nil => simp [numsR] at h; subst h; rfl
  | cons y l ih =>
    simp only [numsR] at h
    cases hy : numS y with
    | none => rw [hy] at h; cases h
    | some b =>
      rw [hy] at h
      simp only [Option.map_eq_some_iff] at h
      obtain ⟨a', h', rfl⟩ := h
      simp [ih a' h']
theorem LinePost.err {ws : List ByteArray} {w w' : World} {x : Int} (h : lineR ws = .error x) (hx : x ≠ 0) (hl : Later w w') {kk : Int} {p1 p2 : Option Addr} {n1 c1 n2 c2 : Nat} {src : ByteArray} :
    LinePost ws w (.returned (.tuple #[.agg #[.int .i64 kk, .slice p1 n1 c1, .slice p2 n2 c2, .string src], .int .i64 x])) w' :=
  ⟨kk, p1, n1, c1, p2, n2, c2, src, x, rfl, hl, .inl ⟨x, h, rfl, hx⟩⟩
theorem formTab_le {k M : Nat} {W : ByteArray} (h : formTab[k]? = some (W, M)) : M ≤ 2 := by
  have : ∀ p ∈ formTab, p.2 ≤ 2 := by decide
  exact this _ (List.mem_of_getElem? h)
theorem lineR_some {ws : List ByteArray} {k M : Nat} {W : ByteArray} (hf : formTab.findIdx? (fun p => decide (some p.1 = ws.head?)) = some k) (hk : formTab[k]? = some (W, M)) : lineR ws =
    if ws.length < 1 + M then .error 1
    else match numsR ((ws.drop 1).take M) with
      | none => .error 1
      | some ns => match restR k (ws.drop (1 + M)) with
        | none => .error 1
        | some al => .ok ⟨k, ns, al, ⟨#[]⟩⟩ := by
  unfold lineR
  rw [hf]
  simp only [hk, Option.map_some, Option.getD_some]
  rfl

set_option maxHeartbeats 6000000 in
set_option maxRecDepth 1000000 in
theorem line_any (s : ByteArray) (hs : s.size ≤ 1000000) (w : World) (hc : Calm w) (hf : w.rangeAt 1 0 formCells.toList) (hne : wordsOf s ≠ []) (hlen : (wordsOf s).length ≤ 1000000) (hws : ∀ x ∈ wordsOf s, x.size ≤ 1000000) :
    Calls Tryz.prog 11 #[.string s] w (LinePost (wordsOf s) w) := by
  have HF : Aside (w.rangeAt 1 0 formCells.toList) := hf
  clear hf
  have hl0 : Aside (Later w (w.alloc (.cells #[.int .i64 0, .slice none 0 0, .slice none 0 0, .string ⟨#[]⟩] 33))) := (Below.refl _ w).alloc (Nat.le_refl _) _
  have hwl : (Lib.fieldsD s.data.toList).length = (wordsOf s).length := by simp [wordsOf]
  have hwm : ((Lib.fieldsD s.data.toList).map fun x => Value.string ⟨x.toArray⟩) = (wordsOf s).map Value.string := by simp [wordsOf]
  obtain ⟨ws, hwe⟩ : ∃ ws, wordsOf s = ws := ⟨_, rfl⟩
  have cF : ∀ w0, Calm w0 → Calls Tryz.prog 27 #[.string s] w0 fun e w' => ∃ A, e = .returned (.slice (some ⟨A, 0, none⟩) ws.length ws.length) ∧ Later w0 w' ∧ w0.heap.size ≤ A ∧
      ∀ (j : Nat) (x : ByteArray), ws[j]? = some x → w'.cell? ⟨A, j, none⟩ = some (.string x) := fun w0 hc0 => by
    refine (Tryz.strings_Fields_any s w0 (by omega) hc0.space hc0.white).mono ?_
    rintro e w' ⟨A, rfl, hA, hown, hbel⟩
    rw [hwl, hwm, hwe] at hown
    rw [hwl, hwe]
    refine ⟨A, rfl, hbel, hA, fun j x hj => ?_⟩
    have hjl : j < ws.length := (List.getElem?_eq_some_iff.1 hj).1
    exact (hown.cellAt j (by omega)).trans (by rw [List.getElem?_map, hj]; first | done | rfl)
  clear hwl hwm
  rw [hwe] at hne hlen hws ⊢
  clear hwe
  obtain ⟨w0, rest0, rfl⟩ := List.exists_cons_of_ne_nil hne
  obtain ⟨ws, hwe⟩ : ∃ ws, w0 :: rest0 = ws := ⟨_, rfl⟩
  have HW0 : Aside (ws.head? = some w0) := by rw [← hwe]; first | done | rfl
  have hl1 : 1 ≤ ws.length := by rw [← hwe]; simp
  have HWS : Aside (∀ x ∈ ws, x.size ≤ 1000000) := by rw [← hwe]; exact hws
  rw [hwe] at cF hlen ⊢
  have HW1 : Aside (ws[0]? = some w0) := by rw [← hwe]; first | done | rfl
  clear hwe hne hws
  obtain ⟨n, hn⟩ : ∃ n, ws.length = n := ⟨_, rfl⟩
  rw [hn] at cF hlen hl1
  have HN : Aside (ws.length = n) := hn
  clear hn
  obtain ⟨F, hFF⟩ : ∃ F, F = formCells := ⟨_, rfl⟩
  have HFF : Aside (F = formCells) := hFF
  clear hFF
  obtain ⟨i0, hi, hz0, hz1, hz2⟩ := info_parts (show (Tryz.prog.info? 3).map (fun i => (i.zero, i.size, i.bytes)) = some (some (.int .i64 0), 1, 8) by kernel_rfl)
  go_enter Tryz.func11, Tryz.ntmps11
  go_wp2_with (first
    | (go_at_call 27; refine (cF _ (hc.later hl0.out)).mono ?_; rintro e w1 ⟨A, rfl, hbel, hA, hcells⟩; have HC : Aside (∀ (j : Nat) (x : ByteArray), ws[j]? = some x → w1.cell? ⟨A, j, none⟩ = some (.string x)) := hcells; clear hcells; have HB : Aside (Later _ w1) := hbel; clear hbel)
    | (refine wpList_load_mid rfl 81 (.global 1) rfl 1 0 rfl F.toList _ (by rw [HFF.out]; exact range_later HF.out (Later.step hl0.out HB.out)) Tryz.underlying81 rfl (by rw [HFF.out]; kernel_rfl) ?_; simp only [Array.toArray_toList]))
  clear cF
  have hA1 : w.heap.size + 1 ≤ A := by simpa using hA
  clear hA
  have hw1 : w.heap.size + 1 ≤ w1.heap.size := by have := HB.out.size; simpa using this
  have HL1 : Aside (Later w w1) := Later.step hl0.out HB.out
  have hAw : A < w1.heap.size := cell_lt (HC.out 0 w0 HW1.out)
  have H41 : Aside (Four w1 w.heap.size (.int .i64 0) (.slice none 0 0) (.slice none 0 0) (.string ⟨#[]⟩)) := (Four.new w _ _ _ _ _).later HB.out (by simp)
  go_loopg [16] 9 (fun g i wr => ∃ k : Nat, k + g = 9 ∧ i = .int .i64 k ∧ Aside (Later w1 wr) ∧ Aside (formTab.findIdx? (fun p => decide (some p.1 = ws.head?)) = ((formTab.drop k).findIdx? (fun p => decide (some p.1 = ws.head?))).map (· + k)))
  case atStart => exact ⟨0, rfl, rfl, Below.refl _ _, by show _ = _; simp⟩
  case round =>
    obtain ⟨k, hk, rfl, HL, HI⟩ := hrel
    have hwr := HL.out.size
    by_cases hlt : k < 9
    · obtain ⟨⟨W, M⟩, hWM⟩ : ∃ p, formTab[k]? = some p := ⟨_, List.getElem?_eq_getElem hlt⟩
      have HWM : Aside (formTab[k]? = some (W, M)) := hWM
      have hM2 : M ≤ 2 := formTab_le hWM
      have hix : ∀ w, (Instr.index 81 (.agg F) (.int .i64 k)).run Tryz.prog w = .ok (.agg #[.string W, .int .i64 M]) w := fun w => by rw [HFF.out]; exact formIdx k W M hWM w
      clear hWM
      have cA : ∀ o, (wr.alloc o).cell? ⟨A, 0, none⟩ = some (.string w0) := fun o => (World.cell?_alloc_past _ _ _ (by omega)).trans (HL.out.cellOf (HC.out 0 w0 HW1.out))
      have cA' : wr.cell? ⟨A, 0, none⟩ = some (.string w0) := HL.out.cellOf (HC.out 0 w0 HW1.out)
      have hAr : A < wr.heap.size := by omega
      have hWr : w.heap.size < wr.heap.size := by omega
      have H4r : Aside (Four wr w.heap.size (.int .i64 0) (.slice none 0 0) (.slice none 0 0) (.string ⟨#[]⟩)) := H41.out.later HL.out (by omega)
      obtain ⟨⟨r0, r1, r2, r3⟩, q0, q1, q2, q3⟩ := id H4r.out
      by_cases hw : w0 = W
      · subst hw
        have hIK : formTab.findIdx? (fun p => decide (some p.1 = ws.head?)) = some k := by
          rw [HI.out, Lib.drop_at HWM.out, List.findIdx?_cons]
          simp [HW0.out]
        have HLR : Aside _ := lineR_some hIK HWM.out
        clear hIK HI
        rw [HN.out] at HLR
        by_cases hM : n < 1 + M
        · have HE : Aside (lineR ws = .error 1) := by show _ = _; rw [HLR.out, if_pos hM]
          clear HLR
          have H4r' : Aside (Four (((wr.alloc (.cells #[.string w0, .int .i64 M] 80)).alloc (.cells #[.int .i64 k, .slice none 0 0, .slice none 0 0, .string ⟨#[]⟩] 33)).drew) w.heap.size (.int .i64 0) (.slice none 0 0) (.slice none 0 0) (.string ⟨#[]⟩)) :=
            H4r.out.later ((((Below.refl _ wr).alloc (Nat.le_refl _) _).alloc (by simp) _).drew) hWr
          have hLw : Aside (Later w (((wr.alloc (.cells #[.string w0, .int .i64 M] 80)).alloc (.cells #[.int .i64 k, .slice none 0 0, .slice none 0 0, .string ⟨#[]⟩] 33)).drew)) :=
            (((((HL1.out.trans (HL.out.mono (by omega)))).alloc (by omega) _).alloc (by simp; omega) _).drew)
          go_wp2
          go_region
          go_wp2
          refine ret_cmd rfl rfl (range_later (H4r.out.range _ _ _ _) ((((Below.refl _ _).alloc (Nat.le_refl _) _).alloc (by simp) _).drew)) rfl rfl ?_
          exact LinePost.err HE.out (by decide) ((((below_put4 (HL1.out.trans (HL.out.mono (by omega))) (Nat.le_refl _) _ _ _ _).alloc (by simp [World.setCell]; omega) _).alloc (by simp [World.setCell]; omega) _).drew)
        · obtain ⟨W1, rfl⟩ : ∃ W, W = wr := ⟨_, rfl⟩
          go_wp2
          go_region
          go_wp2
          all_goals (
           go_loopg [41] M (fun g i wr => ∃ (j : Nat) (ns : List Int) (nv : Value), j + g = M ∧ i = .int .i64 j ∧ Aside (numsR ((ws.drop 1).take j) = some ns) ∧ Aside (Later W1 wr) ∧ Aside (W1.heap.size + 2 ≤ wr.heap.size) ∧
             Aside (wr.cell? ⟨W1.heap.size, 1, none⟩ = some (.int .i64 M)) ∧ Aside (Four wr (W1.heap.size + 1) (.int .i64 k) nv (.slice none 0 0) (.string ⟨#[]⟩)) ∧ Aside (wr.ownsRow (W1.heap.size + 2) 3 1 nv ns.length (ns.map (Value.int .i64))))
           case atStart =>
             refine ⟨0, [], _, by omega, rfl, rfl, ?_, ?_, ?_, ?_, World.ownsRow_nil _ _ _ _⟩
             · exact (((Below.refl _ W1).alloc (Nat.le_refl _) _).alloc (by simp) _).drew
             · show W1.heap.size + 2 ≤ ((W1.alloc _).alloc _).heap.size
               simp
             · show ((W1.alloc _).alloc _).cell? _ = _
               rw [World.cell?_alloc_past _ _ _ (by simp), World.cell?_alloc_at _ _ _ _ rfl]
               first | done | rfl
             · have := Four.new (W1.alloc (.cells #[.string w0, .int .i64 M] 80)) (.int .i64 k) (.slice none 0 0) (.slice none 0 0) (.string ⟨#[]⟩) 33
               rw [World.size_alloc] at this
               exact this
           case round =>
             obtain ⟨j, ns, nv, hjk, rfl, HJ, HX, HS, HFm, HF4, HOW⟩ := hrel
             have hsx := HS.out
             have hnl : ns.length = j := by
               have := numsR_length _ _ HJ.out
               simp at this
               have := HN.out
               omega
             obtain ⟨⟨d0, d1, d2, d3⟩, e0, e1, e2, e3⟩ := id HF4.out
             have hfm := HFm.out
             have HC4 : Aside (Four wr w.heap.size (.int .i64 0) (.slice none 0 0) (.slice none 0 0) (.string ⟨#[]⟩)) := H4r.out.later HX.out hWr
             have HLx : Aside (Later w wr) := (HL1.out.trans (HL.out.mono (by omega))).trans (HX.out.mono (by omega))
             obtain ⟨⟨z0, z1, z2, z3⟩, y0, y1, y2, y3⟩ := id HC4.out
             clear r0 r1 r2 r3 q0 q1 q2 q3 cA cA'
             by_cases hjm : j < M
             · first
                 | (exfalso; omega)
                 | (
                    obtain ⟨x, hx⟩ : ∃ x, ws[1 + j]? = some x := ⟨_, List.getElem?_eq_getElem (by have := HN.out; omega)⟩
                    have HX1 : Aside (ws[1 + j]? = some x) := hx
                    have hxs : x.size ≤ 1000000 := HWS.out x (List.mem_of_getElem? hx)
                    have hxc : wr.cell? ⟨A, 1 + j, none⟩ = some (.string x) := HX.out.cellOf (HL.out.cellOf (HC.out (1 + j) x hx))
                    have HTK : Aside ((ws.drop 1).take (j + 1) = (ws.drop 1).take j ++ [x]) := by
                      show _ = _
                      rw [List.take_add_one, List.getElem?_drop, hx]
                      first | done | rfl
                    clear hx
                    cases hnx : numS x with
                    | none =>
                      have HNX : Aside (numS x = none) := hnx
                      clear hnx
                      have HE : Aside (lineR ws = .error 1) := by
                        have hno : numsR ((ws.drop 1).take M) = none := by
                          rw [← List.take_append_drop (j + 1) ((ws.drop 1).take M), List.take_take, Nat.min_eq_left (by omega)]
                          apply numsR_none
                          rw [HTK.out, numsR_append, HJ.out, HNX.out]
                        show _ = _
                        rw [HLR.out, if_neg hM, hno]
                      go_wp2_with (go_at_call 28; refine (num_none x hxs _ (hc.later HLx.out) HNX.out).mono ?_; rintro e w2 ⟨nx, rfl, hb⟩; have HB2 : Aside (Later wr w2) := hb; clear hb; have h4' := HC4.out.later HB2.out (by omega); clear z0 z1 z2 z3 y0 y1 y2 y3; obtain ⟨⟨z0, z1, z2, z3⟩, y0, y1, y2, y3⟩ := id h4'; have H5 : Aside (Four _ _ _ _ _ _) := h4'; clear h4')
                      refine ret_cmd rfl rfl (H5.out.range _ _ _ _) rfl rfl ?_
                      exact LinePost.err HE.out (by decide) (below_put4 (Later.step HLx.out HB2.out) (Nat.le_refl _) _ _ _ _)
                    | some v =>
                      have HNX : Aside (numS x = some v) := hnx
                      clear hnx
                      have hcn : some (W1.heap.size + 1) ≠ nv.ownBlock := fun h => by have := own_block HOW.out _ h.symm; omega
                      have hfn : some W1.heap.size ≠ nv.ownBlock := fun h => by have := own_block HOW.out _ h.symm; omega
                      go_wp2_with (first
                        | (go_at_call 28; refine (num_some x hxs _ (hc.later HLx.out) v HNX.out).mono ?_; rintro e w2 ⟨rfl, hb⟩; have HB2 : Aside (Later wr w2) := hb; clear hb; have h4' := HF4.out.later HB2.out (by omega); clear d0 d1 d2 d3 e0 e1 e2 e3; obtain ⟨⟨d0, d1, d2, d3⟩, e0, e1, e2, e3⟩ := id h4'; have H5 : Aside (Four _ _ _ _ _ _) := h4'; clear h4'; have hcw2 : W1.heap.size + 1 < w2.heap.size := (by have := HB2.out.size; omega))
                        | (at_builtin; refine wpList_append_own _ rfl (.tmp 54) (.tmp 56) 30 rfl (W1.heap.size + 2) 3 i0 (.int .i64 0) 1 8 Tryz.underlying30 hi hz0 hz1 hz2 rfl (by decide) nv ns.length (ns.map (Value.int .i64)) (by simp [Act.eval, Act.put]) ((owned_later HOW.out HB2.out).alloc _) ⟨w2.heap.size, 0, none⟩ 1 1 [.int .i64 v] rfl rfl ?c1 ?c2 ?c3 ?c4 ?c5 ?_; rotate_right; intro v' w3 hown' hgrow _; have hf3 := Four.only (H5.out.only (World.grownBy_alloc w2 _ none) (by simp)) hgrow hcn; clear d0 d1 d2 d3 e0 e1 e2 e3; obtain ⟨⟨d0, d1, d2, d3⟩, e0, e1, e2, e3⟩ := id hf3; have H6 : Aside (Four _ _ _ _ _ _) := hf3; clear hf3; obtain ⟨vg, vc, rfl, -, -⟩ := own_form hown'; have N6 : Aside (World.ownsRow _ _ _ _ _ _ _) := hown'; clear hown'; have G6 : Aside (World.grownBy _ _ _) := hgrow; clear hgrow))
                      · go_roundg (gk - 1)
                        case measure => omega
                        case rel =>
                          have hz2 := HB2.out.size
                          have hz3 := G6.out.size
                          (try simp only [World.size_alloc] at hz3)
                          refine ⟨j + 1, ns ++ [v], _, by omega, by go_num, ?_, ?_, ?_, ?_, H6.out.put1 _, ?_⟩
                          · show _ = _
                            rw [HTK.out, numsR_append, HJ.out, HNX.out]
                          · refine Below.setCell (p := ⟨W1.heap.size + 1, 1, none⟩) ?_ (by simp) _
                            refine (((HX.out.trans (HB2.out.mono (by omega))).alloc (by omega) _).grown G6.out (by simp; omega) (fun q hq => by have := own_block HOW.out q hq; omega))
                          · show W1.heap.size + 2 ≤ (w3.setCell _ _).heap.size
                            simp only [World.setCell, Array.size_modify]
                            omega
                          · show _ = _
                            rw [World.cell?_setCell_other _ _ _ _ (by simp)]
                            exact G6.out.cell ((World.cell?_alloc_past _ _ _ (by omega)).trans (HB2.out.cellOf HFm.out)) hfn
                          · show World.ownsRow _ _ _ _ _ _ _
                            rw [List.length_append, List.map_append]
                            have hh := ownsRow_setCell_below (a := ⟨W1.heap.size + 1, 1, none⟩) N6.out (Nat.lt_succ_self _) (.slice (some ⟨vg, 0, none⟩) (j + 1) vc)
                            rw [hnl] at hh ⊢
                            exact hh
                      · intro j u hj
                        match j, hj with
                        | 0, hj => simp at hj; subst hj; simp [Addr.add]
                      · intro u hu; simp at hu; subst hu; rfl
                      · unfold maxLen; omega
                      · omega
                      · have := HB2.out.size; simp; omega)
             · have hjM : j = M := by omega
               subst hjM
               have hRC : ∀ (wo cap : Nat), (∀ (q : Nat) (x : ByteArray), (ws.drop (1 + j))[q]? = some x → wr.cell? ⟨A, wo + q, none⟩ = some (.string x)) →
                   Calls Tryz.prog 29 #[.pointer (some ⟨W1.heap.size + 1, 0, none⟩), .slice (some ⟨A, wo, none⟩) (n - (1 + j)) cap] wr (RestPost (W1.heap.size + 1) k nv ⟨#[]⟩ (ws.drop (1 + j)) wr) := fun wo cap hq => by
                 have h := rest_any w wr hc HLx.out (W1.heap.size + 1) (by omega) k nv ⟨#[]⟩ HF4.out A wo cap (ws.drop (1 + j)) hq (by omega) (fun x hx => HWS.out x (List.mem_of_mem_drop hx)) (by rw [List.length_drop, HN.out]; omega)
                 rw [List.length_drop, HN.out] at h
                 exact h
               have hq1 : ∀ (q : Nat) (x : ByteArray), (ws.drop (1 + j))[q]? = some x → wr.cell? ⟨A, 1 + j + q, none⟩ = some (.string x) := fun q x hx => by
                 rw [List.getElem?_drop] at hx
                 exact HX.out.cellOf (HL.out.cellOf (HC.out _ x hx))
               have hRC0 : n = 1 + j → Calls Tryz.prog 29 #[.pointer (some ⟨W1.heap.size + 1, 0, none⟩), .slice (some ⟨A, 0, none⟩) 0 0] wr (RestPost (W1.heap.size + 1) k nv ⟨#[]⟩ (ws.drop (1 + j)) wr) := fun hn1 => by
                 have h := hRC 0 0 (fun q x hx => by
                   have := (List.getElem?_eq_some_iff.1 hx).1
                   rw [List.length_drop, HN.out] at this
                   omega)
                 rw [show n - (1 + j) = 0 by omega] at h
                 exact h
               have HRC : Aside _ := hRC
               have HRC0 : Aside _ := hRC0
               have HQ1 : Aside _ := hq1
               clear hRC hq1 hRC0
               have hnvc : nv.ownBlock = none ∨ nv.ownBlock ≠ some (W1.heap.size + 1) := .inr (fun h => by have := own_block HOW.out _ h; omega)
               obtain ⟨p1, m1, q1, rfl⟩ := own_slice HOW.out
               go_wp2_with (go_at_call 29; (first | (have hne : ¬ n = 1 + j := (by omega); refine (HRC.out (1 + j) _ HQ1.out).mono ?_; clear hne) | (have hne : n = 1 + j := (by omega); refine (HRC0.out hne).mono ?_; clear hne)); rintro e w2 ⟨er, av, rfl, ho, hf, ⟨p2, m2, q2, rfl⟩, hor⟩; clear d0 d1 d2 d3 e0 e1 e2 e3 z0 z1 z2 z3 y0 y1 y2 y3; obtain ⟨⟨d0, d1, d2, d3⟩, e0, e1, e2, e3⟩ := id hf; have h4' := HC4.out.only ho (by simp; omega); obtain ⟨⟨z0, z1, z2, z3⟩, y0, y1, y2, y3⟩ := id h4'; have H5 : Aside (Four _ _ _ _ _ _) := h4'; clear h4'; have HOn : Aside (Only _ _ _) := ho; clear ho; have HOR : Aside (_ ∨ _) := hor; clear hor; have H6 : Aside (Four _ _ _ _ _ _) := hf; clear hf)
               all_goals (
                refine ret_cmd rfl rfl (H5.out.range _ _ _ _) rfl rfl ?_
                have hL2 : Later w w2 := Only.later HLx.out HOn.out (by omega)
                have hLP := fun (y0 y1 y2 y3 : Value) => below_put4 hL2 (Nat.le_refl w.heap.size) y0 y1 y2 y3
                rcases HOR.out with ⟨hr, rfl⟩ | ⟨al, hr, rfl, hown⟩
                · have hE : lineR ws = .error 1 := by
                    rw [HLR.out, if_neg hM, HJ.out]
                    simp only []
                    rw [hr]
                  exact LinePost.err hE (by decide) (hLP _ _ _ _)
                · have hE : lineR ws = .ok ⟨k, ns, al, ⟨#[]⟩⟩ := by
                    rw [HLR.out, if_neg hM, HJ.out]
                    simp only []
                    rw [hr]
                  refine ⟨_, _, _, _, _, _, _, _, 0, rfl, hLP _ _ _ _, .inr ⟨⟨k, ns, al, ⟨#[]⟩⟩, hE, rfl, rfl, rfl, ?_, ?_⟩⟩
                  · exact own_mono (own_put4 (HOW.out.kept HOn.out hnvc) (by omega) _ _ _ _) (by omega)
                  · exact own_mono (own_put4 hown (by omega) _ _ _ _) (by omega)))
      · have htl : (w0.toList == W.toList) = false := by rw [toList_eq]; simp [hw]
        have HI2 : Aside (formTab.findIdx? (fun p => decide (some p.1 = ws.head?)) = ((formTab.drop (k + 1)).findIdx? (fun p => decide (some p.1 = ws.head?))).map (· + (k + 1))) := by
          show _ = _
          rw [HI.out, findIdx_drop _ _ k _ HWM.out (by rw [HW0.out]; simp only [Option.some.injEq, decide_eq_false_iff_not]; exact fun h => hw h.symm), Option.map_map]
          congr 1
          funext x
          simp only [Function.comp]
          omega
        clear hw HI
        go_wp2
        go_region
        go_wp2
        go_roundg (gk - 1)
        case measure => omega
        case rel => exact ⟨k + 1, by omega, by go_num, ((HL.out.alloc (by omega) _).drew), HI2⟩
    · have hk9 : k = 9 := by omega
      subst hk9
      have hWr : w.heap.size < wr.heap.size := by omega
      have H4r : Aside (Four wr w.heap.size (.int .i64 0) (.slice none 0 0) (.slice none 0 0) (.string ⟨#[]⟩)) := H41.out.later HL.out (by omega)
      obtain ⟨⟨r0, r1, r2, r3⟩, q0, q1, q2, q3⟩ := id H4r.out
      have HE : Aside (lineR ws = .error 18) := by
        show _ = _
        unfold lineR
        rw [HI.out]
        first | done | rfl
      go_wp2
      refine ret_cmd rfl rfl (H4r.out.range _ _ _ _) rfl rfl ?_
      exact LinePost.err HE.out (by decide) (below_put4 (HL1.out.trans (HL.out.mono (by omega))) (Nat.le_refl _) _ _ _ _)
end Go.Proofs.YthifhncbbndiaaaGreatDoor
end

section
/- strings.Fields against strings.TrimSpace; the words' number and lengths. -/
namespace Go.Proofs.YthifhncbbndiaaaGreatDoor
open Go.RowKit Go.Shelf Go.Sort Go.Lib

theorem fieldsGoD_ne : ∀ (f : Nat) (cur l : List UInt8), cur ≠ [] → Lib.fieldsGoD f cur l ≠ []
  | 0, cur, l, h => by simp [Lib.fieldsGoD, h]
  | f + 1, cur, l, h => by
    unfold Lib.fieldsGoD
    split
    · simp [h]
    · split
      · simp [h]
      · exact fieldsGoD_ne f _ _ (by simp [h])
theorem fieldsGoD_count : ∀ (f : Nat) (cur l : List UInt8), (Lib.fieldsGoD f cur l).length ≤ f + 1
  | 0, cur, l => by unfold Lib.fieldsGoD; split <;> simp
  | f + 1, cur, l => by
    unfold Lib.fieldsGoD
    split
    · split <;> simp
    · split
      · have := fieldsGoD_count f [] (l.drop (Lib.decodeL l).2)
        rw [List.length_append]
        split <;> simp <;> omega
      · have := fieldsGoD_count f (cur ++ l.take (Lib.decodeL l).2) (l.drop (Lib.decodeL l).2)
        omega
theorem fieldsGoD_size : ∀ (f : Nat) (cur l : List UInt8), ∀ x ∈ Lib.fieldsGoD f cur l, x.length ≤ cur.length + l.length
  | 0, cur, l, x, hx => by
    unfold Lib.fieldsGoD at hx
    split at hx
    · simp at hx
    · simp at hx; subst hx; omega
  | f + 1, cur, l, x, hx => by
    unfold Lib.fieldsGoD at hx
    split at hx
    · split at hx
      · simp at hx
      · simp at hx; subst hx; omega
    · split at hx
      · rw [List.mem_append] at hx
        rcases hx with hx | hx
        · split at hx
          · simp at hx
          · simp at hx; subst hx; omega
        · have := fieldsGoD_size f _ _ x hx
          simp at this
          omega
      · have := fieldsGoD_size f _ _ x hx
        simp only [List.length_append, List.length_take, List.length_drop] at this
        omega
theorem trimLeftD_nil (g : Nat) : Lib.trimLeftD g [] = [] := by cases g <;> simp [Lib.trimLeftD]
theorem trimRightD_nil (g : Nat) : Lib.trimRightD g [] = [] := by cases g <;> simp [Lib.trimRightD]
theorem fieldsGoD_blank (hw : ∀ l : List UInt8, l ≠ [] → 1 ≤ (Lib.decodeL l).2) : ∀ (f : Nat) (l : List UInt8), l.length < f → Lib.fieldsGoD f [] l = [] → ∀ g, l.length ≤ g → Lib.trimLeftD g l = []
  | 0, l, h, _, _, _ => by omega
  | f + 1, l, h, hf, g, hg => by
    by_cases hl : l = []
    · subst hl; exact trimLeftD_nil g
    · unfold Lib.fieldsGoD at hf
      rw [if_neg hl] at hf
      have h1 := hw l hl
      have h2 : 0 < l.length := List.length_pos_iff.2 hl
      obtain ⟨g', rfl⟩ : ∃ g', g = g' + 1 := ⟨g - 1, by omega⟩
      unfold Lib.trimLeftD
      rw [if_neg hl]
      split at hf
      · rename_i hsp
        rw [if_pos hsp]
        simp only [if_true, List.nil_append] at hf
        exact fieldsGoD_blank hw f _ (by rw [List.length_drop]; omega) hf g' (by rw [List.length_drop]; omega)
      · exact absurd hf (fieldsGoD_ne f _ _ (by
          intro hh
          have h3 := congrArg List.length hh
          rw [List.nil_append, List.length_take, List.length_nil] at h3
          omega))
theorem words_ne (hw : ∀ l : List UInt8, l ≠ [] → 1 ≤ (Lib.decodeL l).2) (s : ByteArray) (h : Lib.trimSpaceD s.data.toList ≠ []) : wordsOf s ≠ [] := by
  intro hh
  have hf : Lib.fieldsD s.data.toList = [] := by simpa [wordsOf] using hh
  apply h
  unfold Lib.trimSpaceD
  rw [fieldsGoD_blank hw _ _ (Nat.lt_succ_self _) hf _ (Nat.le_refl _), trimRightD_nil]
theorem words_count (s : ByteArray) : (wordsOf s).length ≤ s.size + 2 := by
  have := fieldsGoD_count (s.data.toList.length + 1) [] s.data.toList
  rw [Lib.size_eq]
  simpa [wordsOf, Lib.fieldsD] using this
theorem words_size (s : ByteArray) : ∀ x ∈ wordsOf s, x.size ≤ s.size := by
  intro x hx
  simp only [wordsOf, List.mem_map] at hx
  obtain ⟨y, hy, rfl⟩ := hx
  have := fieldsGoD_size _ _ _ y hy
  rw [Lib.size_eq, Lib.size_eq]
  simpa using this
theorem line_words (s : ByteArray) (h : Lib.trimSpaceD s.data.toList ≠ []) : wordsOf s ≠ [] := words_ne (fun l _ => Lib.decodeL_width l) s h
end Go.Proofs.YthifhncbbndiaaaGreatDoor
end

section
/- paling/script.Parse: what it answers. -/
namespace Go.Proofs.YthifhncbbndiaaaGreatDoor
open Go.RowKit Go.Shelf Go.Sort Go.Lib

def dotS : ByteArray := ⟨#[46]⟩
/-- How many lines ahead of one that is a point alone. -/
def dotN (ls : List ByteArray) : Nat := (ls.takeWhile fun x => !(x.toList == [46])).length
def joinS (ls : List ByteArray) : ByteArray := ⟨(Lib.join (ls.map (·.data.toList)) [10]).toArray⟩
def blankS (x : ByteArray) : Bool := (Lib.trimSpaceD x.data.toList).isEmpty || decide ((Lib.trimSpaceD x.data.toList).head? = some 59)
def parseGo (ls : List ByteArray) : Nat → Nat → List Cmd → List Cmd × Int × Int
  | 0, _, out => (out, 0, 0)
  | g + 1, i, out =>
    match ls[i]? with
    | none => (out, 0, 0)
    | some x =>
      if blankS x then parseGo ls g (i + 1) out
      else if out.length = 200 then ([], i + 1, 2)
      else match lineR (wordsOf x) with
        | .error e => ([], i + 1, e)
        | .ok c =>
          if c.k = 1 then
            if ls.length ≤ i + 1 + dotN (ls.drop (i + 1)) then ([], i + 1, 1)
            else parseGo ls g (i + 1 + dotN (ls.drop (i + 1)) + 1) (out ++ [{ c with src := joinS ((ls.drop (i + 1)).take (dotN (ls.drop (i + 1)))) }])
          else parseGo ls g (i + 1) (out ++ [c])
def linesOf (s : ByteArray) : List ByteArray := Lib.splitB ⟨#[10]⟩ 0 (Lib.countB s ⟨#[10]⟩) s
def parseR (s : ByteArray) : List Cmd × Int × Int := if 65536 < s.size then ([], 0, 2) else parseGo (linesOf s) (linesOf s).length 0 []

/-- A command's four cells, and what they lead to. -/
def CmdCells (w : World) (B : Nat) (c : Cmd) (cs : List Value) : Prop :=
  ∃ p1 n1 c1 p2 n2 c2, cs = [.int .i64 c.k, .slice p1 n1 c1, .slice p2 n2 c2, .string c.src] ∧
    w.ownsRow B 3 1 (.slice p1 n1 c1) c.ns.length (c.ns.map (Value.int .i64)) ∧ w.ownsRow B 38 5 (.slice p2 n2 c2) c.al.length (argCells c.al)
def Cmds (w : World) (B : Nat) : List Cmd → List Value → Prop
  | [], xs => xs = []
  | c :: r, xs => ∃ h t, xs = h ++ t ∧ CmdCells w B c h ∧ Cmds w B r t
theorem Cmds.snoc {w : World} {B : Nat} {c : Cmd} {h : List Value} (hc : CmdCells w B c h) : ∀ {l : List Cmd} {xs : List Value}, Cmds w B l xs → Cmds w B (l ++ [c]) (xs ++ h)
  | [], xs, hl => by
    have : xs = [] := hl
    subst this
    exact ⟨h, [], by simp, hc, rfl⟩
  | d :: r, xs, ⟨a, t, hx, hd, ht⟩ => ⟨a, t ++ h, by rw [hx, List.append_assoc], hd, Cmds.snoc hc ht⟩
theorem CmdCells.kept {w w' : World} {B : Nat} {c : Cmd} {cs : List Value} (h : CmdCells w B c cs)
    (hk : ∀ {e : TypeId} {sz n : Nat} {v : Value} {xs : List Value}, (e = 3 ∨ e = 38) → w.ownsRow B e sz v n xs → w'.ownsRow B e sz v n xs) : CmdCells w' B c cs := by
  obtain ⟨p1, n1, c1, p2, n2, c2, he, h1, h2⟩ := h
  exact ⟨p1, n1, c1, p2, n2, c2, he, hk (.inl rfl) h1, hk (.inr rfl) h2⟩
theorem Cmds.kept {w w' : World} {B : Nat} (hk : ∀ {e : TypeId} {sz n : Nat} {v : Value} {xs : List Value}, (e = 3 ∨ e = 38) → w.ownsRow B e sz v n xs → w'.ownsRow B e sz v n xs) :
    ∀ {l : List Cmd} {xs : List Value}, Cmds w B l xs → Cmds w' B l xs
  | [], _, h => h
  | _ :: _, _, ⟨a, t, hx, hd, ht⟩ => ⟨a, t, hx, hd.kept hk, Cmds.kept hk ht⟩
theorem Cmds.later {w w' : World} {B : Nat} {l : List Cmd} {xs : List Value} (h : Cmds w B l xs) (k : Later w w') : Cmds w' B l xs := h.kept (fun _ ho => owned_later ho k)
theorem CmdCells.later {w w' : World} {B : Nat} {c : Cmd} {xs : List Value} (h : CmdCells w B c xs) (k : Later w w') : CmdCells w' B c xs := h.kept (fun _ ho => owned_later ho k)
/-- Rows of another element type lie in other blocks. -/
theorem own_apart {w : World} {B1 B2 : Nat} {e1 e2 : TypeId} {s1 s2 n1 n2 : Nat} {v1 v2 : Value} {x1 x2 : List Value} (h1 : w.ownsRow B1 e1 s1 v1 n1 x1) (h2 : w.ownsRow B2 e2 s2 v2 n2 x2) (hne : e1 ≠ e2) :
    v1.ownBlock = none ∨ v1.ownBlock ≠ v2.ownBlock := by
  rcases h1.2 with ⟨hv, _⟩ | ⟨g1, cp1, cur1, hv1, hg1, hh1, _⟩
  · rw [hv]; exact .inl rfl
  · rcases h2.2 with ⟨hv, _⟩ | ⟨g2, cp2, cur2, hv2, hg2, hh2, _⟩
    · rw [hv1, hv]; exact .inr (by simp [Value.ownBlock])
    · rw [hv1, hv2]
      refine .inr (fun hh => ?_)
      simp only [Value.ownBlock, Option.some.injEq] at hh
      subst hh
      rw [hh1] at hh2
      simp at hh2
      exact hne hh2.2
theorem Cmds.grown {w w' : World} {B : Nat} {l : List Cmd} {xs : List Value} (h : Cmds w B l xs) {B2 s2 n2 : Nat} {v2 : Value} {x2 : List Value} (hv : w.ownsRow B2 33 s2 v2 n2 x2) (hg : w.grownBy w' v2.ownBlock) : Cmds w' B l xs :=
  h.kept (fun he ho => ho.kept hg (own_apart ho hv (by rcases he with rfl | rfl <;> decide)))
theorem CmdCells.grown {w w' : World} {B : Nat} {c : Cmd} {xs : List Value} (h : CmdCells w B c xs) {B2 s2 n2 : Nat} {v2 : Value} {x2 : List Value} (hv : w.ownsRow B2 33 s2 v2 n2 x2) (hg : w.grownBy w' v2.ownBlock) : CmdCells w' B c xs :=
  h.kept (fun he ho => ho.kept hg (own_apart ho hv (by rcases he with rfl | rfl <;> decide)))
theorem own_len {w : World} {B : Nat} {e : TypeId} {sz : Nat} {v : Value} {n : Nat} {xs : List Value} (h : w.ownsRow B e sz v n xs) : ∃ p c, v = .slice p n c := by
  rcases h.2 with ⟨hv, hn⟩ | ⟨g, cap, cur, hv, _⟩
  · subst hn; exact ⟨_, _, hv⟩
  · exact ⟨_, _, hv⟩
end Go.Proofs.YthifhncbbndiaaaGreatDoor
end

section
/- paling/script.Parse. -/
namespace Go.Proofs.YthifhncbbndiaaaGreatDoor
open Go.RowKit Go.Shelf Go.Sort Go.Lib

theorem cmdInfo : (Tryz.prog.info? 33).map (fun i => (i.zero, i.size, i.bytes)) = some (some (.agg #[.int .i64 0, .slice none 0 0, .slice none 0 0, .string ⟨#[]⟩]), 4, 72) := by kernel_rfl
/-- What strings.TrimSpace leaves, as a string. -/
theorem trim_any (x : ByteArray) (hx : x.size ≤ 1000000) (w : World) (hc : Calm w) :
    Calls Tryz.prog 10 #[.string x] w fun e w' => e = .returned (.string ⟨(Lib.trimSpaceD x.data.toList).toArray⟩) ∧ Later w w' :=
  Tryz.strings_TrimSpace_any x w (by omega) hc.space hc.utf hc.white

theorem parseGo_step (ls : List ByteArray) (g i : Nat) (out : List Cmd) (x : ByteArray) (hx : ls[i]? = some x) : parseGo ls (g + 1) i out =
    if blankS x = true then parseGo ls g (i + 1) out
    else if out.length = 200 then ([], i + 1, 2)
    else match lineR (wordsOf x) with
      | .error e => ([], i + 1, e)
      | .ok c =>
        if c.k = 1 then
          if ls.length ≤ i + 1 + dotN (ls.drop (i + 1)) then ([], i + 1, 1)
          else parseGo ls g (i + 1 + dotN (ls.drop (i + 1)) + 1) (out ++ [{ c with src := joinS ((ls.drop (i + 1)).take (dotN (ls.drop (i + 1)))) }])
        else parseGo ls g (i + 1) (out ++ [c]) := by
  rw [parseGo, hx]
  first | done | rfl
theorem Cmds.mono {w : World} {B B' : Nat} (hB : B' ≤ B) : ∀ {l : List Cmd} {xs : List Value}, Cmds w B l xs → Cmds w B' l xs
  | [], _, h => h
  | _ :: _, _, ⟨a, t, hx, ⟨p1, n1, c1, p2, n2, c2, he, h1, h2⟩, ht⟩ => ⟨a, t, hx, ⟨p1, n1, c1, p2, n2, c2, he, own_mono h1 hB, own_mono h2 hB⟩, Cmds.mono hB ht⟩
theorem splitK_sub (sep : List UInt8) (save : Nat) : ∀ (k : Nat) (s p : List UInt8), p ∈ Lib.splitK sep save k s → p.Sublist s
  | 0, s, p, h => by
    simp [Lib.splitK] at h
    subst h
    exact List.Sublist.refl _
  | k + 1, s, p, h => by
    unfold Lib.splitK at h
    split at h
    · simp at h
      subst h
      exact List.Sublist.refl _
    · rcases List.mem_cons.1 h with rfl | h
      · exact List.take_sublist _ _
      · exact (splitK_sub sep save k _ p h).trans (List.drop_sublist _ _)
theorem lines_size (s : ByteArray) : ∀ x ∈ linesOf s, x.size ≤ s.size := by
  intro x hx
  have h := splitK_sub [10] 0 _ s.data.toList x.data.toList (by
    have hd := Lib.splitB_data ⟨#[10]⟩ 0 (Lib.countB s ⟨#[10]⟩) s
    rw [← hd]
    exact List.mem_map_of_mem hx)
  rw [Lib.size_eq, Lib.size_eq]
  exact h.length_le
theorem dotN_go {ls : List ByteArray} {j : Nat} {y : ByteArray} (hy : ls[j]? = some y) (h : (y.toList == [46]) = false) : dotN (ls.drop j) = dotN (ls.drop (j + 1)) + 1 := by
  rw [Lib.drop_at hy]
  unfold dotN
  rw [List.takeWhile_cons_of_pos (by simp only [h]; first | done | rfl)]
  first | done | rfl
theorem dotN_stop {ls : List ByteArray} {j : Nat} {y : ByteArray} (hy : ls[j]? = some y) (h : (y.toList == [46]) = true) : dotN (ls.drop j) = 0 := by
  rw [Lib.drop_at hy]
  unfold dotN
  rw [List.takeWhile_cons_of_neg (by simp only [h]; decide)]
  first | done | rfl
theorem lens_small : ∀ (xs : List ByteArray), (∀ x ∈ xs, x.size ≤ 65536) → Lib.lens (xs.map (·.data.toList)) ≤ xs.length * 65536
  | [], _ => by simp [Lib.lens]
  | x :: r, h => by
    have h1 := lens_small r (fun y hy => h y (by simp [hy]))
    have h2 := h x (by simp)
    rw [Lib.size_eq] at h2
    unfold Lib.lens at h1 ⊢
    rw [List.map_cons, List.map_cons, List.sum_cons, List.length_cons]
    omega
theorem join_small (xs : List ByteArray) (h : ∀ x ∈ xs, x.size ≤ 65536) (hl : xs.length ≤ 65537) : (Lib.join (xs.map (·.data.toList)) [10]).length ≤ 140737488355328 := by
  cases xs with
  | nil => simp [Lib.join]
  | cons x r =>
    have := lens_small (x :: r) h
    rw [List.map_cons, Lib.join_length]
    rw [List.map_cons] at this
    simp only [List.length_map, List.length_cons, List.length_nil] at this hl ⊢
    omega
theorem line_err (x : ByteArray) (hs : x.size ≤ 1000000) (w : World) (hc : Calm w) (hf : w.rangeAt 1 0 formCells.toList) (hne : wordsOf x ≠ []) (hlen : (wordsOf x).length ≤ 1000000) (hws : ∀ y ∈ wordsOf x, y.size ≤ 1000000) (er : Int) (h : lineR (wordsOf x) = .error er) :
    Calls Tryz.prog 11 #[.string x] w fun e w' => er ≠ 0 ∧ ∃ kk p1 n1 c1 p2 n2 c2 src, e = .returned (.tuple #[.agg #[.int .i64 kk, .slice p1 n1 c1, .slice p2 n2 c2, .string src], .int .i64 er]) ∧ Later w w' := by
  refine (line_any x hs w hc hf hne hlen hws).mono ?_
  rintro e w' ⟨kk, p1, n1, c1, p2, n2, c2, src, er', rfl, hl, ⟨y, hy, rfl, hy0⟩ | ⟨c, hc', _⟩⟩
  · rw [h] at hy
    cases hy
    exact ⟨hy0, kk, p1, n1, c1, p2, n2, c2, src, rfl, hl⟩
  · rw [h] at hc'; cases hc'
theorem line_ok (x : ByteArray) (hs : x.size ≤ 1000000) (w : World) (hc : Calm w) (hf : w.rangeAt 1 0 formCells.toList) (hne : wordsOf x ≠ []) (hlen : (wordsOf x).length ≤ 1000000) (hws : ∀ y ∈ wordsOf x, y.size ≤ 1000000) (c : Cmd) (h : lineR (wordsOf x) = .ok c) :
    Calls Tryz.prog 11 #[.string x] w fun e w' => ∃ p1 n1 c1 p2 n2 c2, e = .returned (.tuple #[.agg #[.int .i64 c.k, .slice p1 n1 c1, .slice p2 n2 c2, .string c.src], .int .i64 0]) ∧ Later w w' ∧
      w'.ownsRow w.heap.size 3 1 (.slice p1 n1 c1) c.ns.length (c.ns.map (Value.int .i64)) ∧ w'.ownsRow w.heap.size 38 5 (.slice p2 n2 c2) c.al.length (argCells c.al) := by
  refine (line_any x hs w hc hf hne hlen hws).mono ?_
  rintro e w' ⟨kk, p1, n1, c1, p2, n2, c2, src, er', rfl, hl, ⟨y, hy, rfl, hy0⟩ | ⟨d, hd, rfl, rfl, rfl, h1, h2⟩⟩
  · rw [h] at hy; cases hy
  · rw [h] at hd
    cases hd
    exact ⟨p1, n1, c1, p2, n2, c2, rfl, hl, h1, h2⟩
def ParsePost (s : ByteArray) (w : World) (e : Ending) (w' : World) : Prop :=
  ∃ v xs, e = .returned (.tuple #[v, .int .i64 (parseR s).2.1, .int .i64 (parseR s).2.2]) ∧ Later w w' ∧ w'.ownsRow w.heap.size 33 4 v (parseR s).1.length xs ∧ Cmds w' w.heap.size (parseR s).1 xs

set_option maxHeartbeats 4000000 in
set_option maxRecDepth 1000000 in
theorem parse_any (s : ByteArray) (w : World) (hc : Calm w) (hf : w.rangeAt 1 0 formCells.toList) (hs0 : s.size ≤ 1000000) :
    Calls Tryz.prog 5 #[.string s] w (ParsePost s w) := by
  have HF : Aside (w.rangeAt 1 0 formCells.toList) := hf
  clear hf
  obtain ⟨i0, hi, hz0, hz1, hz2⟩ := info_parts cmdInfo
  by_cases hbig : 65536 < s.size
  · have hR : Aside (parseR s = ([], 0, 2)) := by show _ = _; unfold parseR; rw [if_pos hbig]
    go_enter Tryz.func5, Tryz.ntmps5
    go_wp2
    go_ret3
    refine ⟨.slice none 0 0, [], ?_, Below.refl _ _, ?_, ?_⟩
    · rw [hR.out]; first | done | rfl
    · rw [hR.out]; exact World.ownsRow_nil _ _ _ _
    · rw [hR.out]; first | done | rfl
  · have hR : Aside (parseR s = parseGo (linesOf s) (linesOf s).length 0 []) := by show _ = _; unfold parseR; rw [if_neg hbig]
    obtain ⟨m, hm⟩ := hc.most
    have hlen : (linesOf s).length = Lib.countB s ⟨#[10]⟩ + 1 := Lib.splitB_all ⟨#[10]⟩ (by decide) 0 _ s rfl
    have hcnt : Lib.countB s ⟨#[10]⟩ ≤ s.size := Lib.countB_le ⟨#[10]⟩ (by decide) s.size s (Nat.le_refl _)
    have hsub : ∀ x ∈ linesOf s, x.size ≤ s.size := lines_size s
    have cS : Calls Tryz.prog 9 #[.string s, .string ⟨#[10]⟩] w fun e w' => e = .returned (.slice (some ⟨w.heap.size, 0, none⟩) (linesOf s).length (linesOf s).length) ∧ Later w w' ∧
        ∀ (j : Nat) (x : ByteArray), (linesOf s)[j]? = some x → w'.cell? ⟨w.heap.size, j, none⟩ = some (.string x) := by
      refine (Tryz.strings_Split s ⟨#[10]⟩ m w (by omega) hm (by decide)).mono ?_
      rintro e w' ⟨rfl, rfl⟩
      rw [hlen]
      refine ⟨rfl, (Below.refl _ w).alloc (Nat.le_refl _) _, fun j x hj => ?_⟩
      have := Lib.pieces_cell_at w (linesOf s) 9 j x hj
      exact this
    obtain ⟨ls, hls⟩ : ∃ ls, linesOf s = ls := ⟨_, rfl⟩
    rw [hls] at hlen hsub cS hR
    clear hls
    obtain ⟨n, hn⟩ : ∃ n, ls.length = n := ⟨_, rfl⟩
    rw [hn] at hlen cS hR
    have HN : Aside (ls.length = n) := hn
    have hn6 : n ≤ 65537 := by omega
    clear hn hlen
    have HSB : Aside (∀ x ∈ ls, x.size ≤ 65536) := fun x hx => Nat.le_trans (hsub x hx) (by omega)
    clear hsub
    go_enter Tryz.func5, Tryz.ntmps5
    go_wp2_with (go_at_call 9; refine cS.mono ?_; rintro e w1 ⟨rfl, hb, hcells⟩; have HL1 : Aside (Later w w1) := hb; clear hb; have HC : Aside (∀ (j : Nat) (x : ByteArray), ls[j]? = some x → w1.cell? ⟨w.heap.size, j, none⟩ = some (.string x)) := hcells; clear hcells)
    clear cS
    go_loopg [5, 7] n (fun g v i wr => ∃ (k : Nat) (out : List Cmd) (xs : List Value), n ≤ k + g ∧ k ≤ n ∧ i = .int .i64 k ∧ out.length ≤ 200 ∧ Aside (Later w1 wr) ∧ Aside (parseR s = parseGo ls g k out) ∧
      Aside (wr.ownsRow w1.heap.size 33 4 v out.length xs) ∧ Aside (Cmds wr w1.heap.size out xs))
    case atStart => exact ⟨0, [], [], by omega, by omega, rfl, by simp, Below.refl _ _, hR.out, World.ownsRow_nil _ _ _ _, rfl⟩
    case round =>
      obtain ⟨k, out, xs, hk, hkn, rfl, ho2, HL, HP, HO, HCm⟩ := hrel
      have hz1' := HL1.out.size
      have hz2' := HL.out.size
      obtain ⟨vp, vc, rfl⟩ := own_len HO.out
      by_cases hlt : k < n
      · obtain ⟨x, hx⟩ : ∃ x, ls[k]? = some x := ⟨_, List.getElem?_eq_getElem (by have := HN.out; omega)⟩
        have HX : Aside (ls[k]? = some x) := hx
        have hxs : x.size ≤ 65536 := HSB.out x (List.mem_of_getElem? hx)
        have hxc : wr.cell? ⟨w.heap.size, k, none⟩ = some (.string x) := HL.out.cellOf (HC.out k x hx)
        have HLw : Aside (Later w wr) := HL1.out.trans (HL.out.mono (by omega))
        clear hx
        obtain ⟨tb, htb⟩ : ∃ tb : ByteArray, (⟨(Lib.trimSpaceD x.data.toList).toArray⟩ : ByteArray) = tb := ⟨_, rfl⟩
        have htd : tb.data.toList = Lib.trimSpaceD x.data.toList := by rw [← htb]
        have cT := trim_any x (by omega) wr (hc.later HLw.out)
        rw [htb] at cT
        obtain ⟨G, hG⟩ : ∃ g, gk = g + 1 := ⟨gk - 1, by omega⟩
        subst hG
        have HST : Aside _ := parseGo_step ls G k out x HX.out
        clear htb
        by_cases hbl : blankS x = true
        · have HP2 : Aside (parseR s = parseGo ls G (k + 1) out) := by
            show _ = _
            rw [HP.out, HST.out]
            simp only [hbl, if_true]
          by_cases hem : tb.data.toList = []
          · have he : tb.toList.isEmpty = true := by rw [Lib.toList_data, hem]; first | done | rfl
            clear hem htd hbl
            go_wp2_with (go_at_call 10; refine cT.mono ?_; rintro e w2 ⟨rfl, hb⟩; have HB2 : Aside (Later wr w2) := hb; clear hb)
            go_roundg G
            case measure => omega
            case rel => exact ⟨k + 1, out, xs, by omega, by omega, by go_num, ho2, Later.step HL.out HB2.out, HP2.out, owned_later HO.out HB2.out, HCm.out.later HB2.out⟩
          · have he : tb.toList.isEmpty = false := by
              rw [Lib.toList_data]
              cases h : tb.data.toList with
              | nil => exact absurd h hem
              | cons _ _ => rfl
            have hsz : 0 < tb.size := by rw [Lib.size_eq]; exact List.length_pos_iff.2 hem
            have h59 : ((tb[0]'hsz).toNat : Int) = 59 := by
              have h := hbl
              unfold blankS at h
              rw [← htd] at h
              have h' : tb.data.toList.head? = some 59 := by
                cases ht : tb.data.toList with
                | nil => exact absurd ht hem
                | cons a r => rw [ht] at h; simpa using h
              exact (head_is tb hsz 59).1 h'
            clear hem htd hbl
            go_wp2_with (go_at_call 10; refine cT.mono ?_; rintro e w2 ⟨rfl, hb⟩; have HB2 : Aside (Later wr w2) := hb; clear hb)
            all_goals go_roundg G
            all_goals first
              | omega
              | exact ⟨k + 1, out, xs, by omega, by omega, by go_num, ho2, Later.step HL.out HB2.out, HP2.out, owned_later HO.out HB2.out, HCm.out.later HB2.out⟩
        · have hem : tb.data.toList ≠ [] := by
            intro hh
            apply hbl
            unfold blankS
            rw [← htd, hh]
            first | done | rfl
          have he : tb.toList.isEmpty = false := by
            rw [Lib.toList_data]
            cases h : tb.data.toList with
            | nil => exact absurd h hem
            | cons _ _ => rfl
          have hsz : 0 < tb.size := by rw [Lib.size_eq]; exact List.length_pos_iff.2 hem
          have h59 : ((tb[0]'hsz).toNat : Int) ≠ 59 := by
            intro hh
            apply hbl
            unfold blankS
            rw [← htd, (head_is tb hsz 59).2 hh]
            simp
          have hwn : wordsOf x ≠ [] := line_words x (by rw [← htd]; exact hem)
          have hwl : (wordsOf x).length ≤ 1000000 := by have := words_count x; omega
          have hws : ∀ y ∈ wordsOf x, y.size ≤ 1000000 := fun y hy => by have := words_size x y hy; omega
          have HWN : Aside _ := hwn
          have HWS : Aside _ := hws
          have HWL : Aside _ := hwl
          have HBL : Aside (¬ blankS x = true) := hbl
          clear hwn hwl hws hbl hem htd
          by_cases h200 : out.length = 200
          · have HP2 : Aside (parseR s = ([], (k : Int) + 1, 2)) := by
              show _ = _
              rw [HP.out, HST.out, if_neg HBL.out, if_pos h200]
            have h200' : ((out.length : Nat) : Int) = 200 := by omega
            clear h200
            go_wp2_with (go_at_call 10; refine cT.mono ?_; rintro e w2 ⟨rfl, hb⟩; have HB2 : Aside (Later wr w2) := hb; clear hb)
            go_ret3
            refine ⟨.slice none 0 0, [], ?_, HLw.out.trans (HB2.out.mono (by omega)), ?_, ?_⟩
            · rw [HP2.out]; first | done | rfl
            · rw [HP2.out]; exact World.ownsRow_nil _ _ _ _
            · rw [HP2.out]; first | done | rfl
          · have h200' : ¬ ((out.length : Nat) : Int) = 200 := by omega
            have HFr : ∀ w2, Later wr w2 → w2.rangeAt 1 0 formCells.toList := fun w2 hb => range_later HF.out (HLw.out.trans (hb.mono (by omega)))
            have HCa : ∀ w2, Later wr w2 → Calm w2 := fun w2 hb => hc.later (HLw.out.trans (hb.mono (by omega)))
            have hL0 : w.heap.size ≤ wr.heap.size := by omega
            cases hlr : lineR (wordsOf x) with
            | error er =>
              have HLR : Aside (lineR (wordsOf x) = .error er) := hlr
              clear hlr
              have HP2 : Aside (parseR s = ([], (k : Int) + 1, er)) := by
                show _ = _
                rw [HP.out, HST.out, if_neg HBL.out, if_neg h200, HLR.out]
              clear h200
              have A1 : Aside _ := HFr
              have A2 : Aside _ := HCa
              clear HFr HCa
              go_wp2_with (first
                | (go_at_call 10; refine cT.mono ?_; rintro e w2 ⟨rfl, hb⟩; have HB2 : Aside (Later wr w2) := hb; clear hb; have hxc2 : w2.cell? ⟨w.heap.size, k, none⟩ = some (.string x) := HB2.out.cellOf hxc)
                | (go_at_call 11; refine (line_err x (by omega) _ (A2.out _ HB2.out) (A1.out _ HB2.out) HWN.out HWL.out HWS.out er HLR.out).mono ?_; rintro e w3 ⟨her0, kk, p1, n1, c1, p2, n2, c2, src, rfl, hb⟩; have HB3 : Aside (Later w2 w3) := hb; clear hb))
              go_ret3
              refine ⟨.slice none 0 0, [], ?_, ((HLw.out.trans (HB2.out.mono hL0)).trans (HB3.out.mono (by have := HB2.out.size; omega))).alloc (by have := HB2.out.size; have := HB3.out.size; omega) _, ?_, ?_⟩
              · rw [HP2.out]; first | done | rfl
              · rw [HP2.out]; exact World.ownsRow_nil _ _ _ _
              · rw [HP2.out]; first | done | rfl
            | ok c =>
              have HLR : Aside (lineR (wordsOf x) = .ok c) := hlr
              clear hlr
              have A1 : Aside _ := HFr
              have A2 : Aside _ := HCa
              clear HFr HCa
              by_cases hk1 : c.k = 1
              · rcases c with ⟨ck, cns, cal, csrc⟩
                simp only at hk1
                subst hk1
                obtain ⟨W1, rfl⟩ : ∃ W, W = wr := ⟨_, rfl⟩
                have HST2 : Aside (parseR s = if n ≤ k + 1 + dotN (ls.drop (k + 1)) then ([], (k : Int) + 1, 1)
                    else parseGo ls G (k + 1 + dotN (ls.drop (k + 1)) + 1) (out ++ [(⟨1, cns, cal, joinS ((ls.drop (k + 1)).take (dotN (ls.drop (k + 1))))⟩ : Cmd)])) := by
                  show _ = _
                  rw [HP.out, HST.out, if_neg HBL.out, if_neg h200, HLR.out]
                  simp only [if_true]
                  rw [HN.out]
                clear h200
                go_wp2_with (first
                  | (go_at_call 10; refine cT.mono ?_; rintro e w2 ⟨rfl, hb⟩; have HB2 : Aside (Later W1 w2) := hb; clear hb; have hxc2 : w2.cell? ⟨w.heap.size, k, none⟩ = some (.string x) := HB2.out.cellOf hxc)
                  | (go_at_call 11; refine (line_ok x (by omega) _ (A2.out _ HB2.out) (A1.out _ HB2.out) HWN.out HWL.out HWS.out _ HLR.out).mono ?_; rintro e w3 ⟨p1, n1, c1, p2, n2, c2, rfl, hb, ho1', ho2'⟩; have HB3 : Aside (Later w2 w3) := hb; clear hb; have O1 : Aside (World.ownsRow _ _ _ _ _ _ _) := ho1'; have O2 : Aside (World.ownsRow _ _ _ _ _ _ _) := ho2'; clear ho1' ho2'; simp only []))
                have b23 : Later W1 w3 := Later.step HB2.out HB3.out
                have B23 : Aside (Later W1 w3) := b23
                have z2 := HB2.out.size
                have z3 := HB3.out.size
                have HC3 : Aside (∀ (o : Obj) (q : Nat) (y : ByteArray), ls[q]? = some y → (w3.alloc o).cell? ⟨w.heap.size, q, none⟩ = some (.string y)) := fun o q y hy =>
                  (World.cell?_alloc_past _ _ _ (cell_lt (b23.cellOf (HL.out.cellOf (HC.out q y hy))))).trans (b23.cellOf (HL.out.cellOf (HC.out q y hy)))
                clear b23 hxc hxc2
                go_loopg [7] (n - (k + 1)) (fun g i wx => ∃ j : Nat, j + g = n ∧ k + 1 ≤ j ∧ i = .int .i64 j ∧ wx = w3.alloc (.cells #[.int .i64 1, .slice p1 n1 c1, .slice p2 n2 c2, .string csrc] 33) ∧ Aside (k + 1 + dotN (ls.drop (k + 1)) = j + dotN (ls.drop j)))
                case atStart => exact ⟨k + 1, by omega, by omega, by go_num, rfl, rfl⟩
                case round =>
                  obtain ⟨j, hjn, hkj, rfl, rfl, HD⟩ := hrel
                  by_cases hj : j < n
                  · obtain ⟨y, hy⟩ : ∃ y, ls[j]? = some y := ⟨_, List.getElem?_eq_getElem (by have := HN.out; omega)⟩
                    have HY : Aside (ls[j]? = some y) := hy
                    have hyc := HC3.out (.cells #[.int .i64 1, .slice p1 n1 c1, .slice p2 n2 c2, .string csrc] 33) j y hy
                    clear hy
                    cases hdot : (y.toList == [46]) with
                    | false =>
                      have HD2 : Aside (dotN (ls.drop j) = dotN (ls.drop (j + 1)) + 1) := dotN_go HY.out hdot
                      go_wp2
                      go_roundg (gk - 1)
                      case measure => omega
                      case rel => exact ⟨j + 1, by omega, by omega, by go_num, rfl, by have := HD.out; have := HD2.out; show _ = _; omega⟩
                    | true =>
                      have HD2 : Aside (dotN (ls.drop j) = 0) := dotN_stop HY.out hdot
                      have hd1 : k + 1 + dotN (ls.drop (k + 1)) = j := by have := HD.out; have := HD2.out; omega
                      have hd2 : dotN (ls.drop (k + 1)) = j - (k + 1) := by omega
                      obtain ⟨J, hJ⟩ : ∃ J, joinS ((ls.drop (k + 1)).take (j - (k + 1))) = J := ⟨_, rfl⟩
                      have HP2 : Aside (parseR s = parseGo ls G (j + 1) (out ++ [(⟨1, cns, cal, J⟩ : Cmd)])) := by
                        show _ = _
                        rw [HST2.out, if_neg (by omega), hd1, hd2, hJ]
                      have JC : Calls Tryz.prog 12 #[.slice (some ⟨w.heap.size, k + 1, none⟩) (j - (k + 1)) (n - (k + 1)), .string ⟨#[10]⟩] (w3.alloc (.cells #[.int .i64 1, .slice p1 n1 c1, .slice p2 n2 c2, .string csrc] 33)) fun e w' => e = .returned (.string J) ∧ Later (w3.alloc (.cells #[.int .i64 1, .slice p1 n1 c1, .slice p2 n2 c2, .string csrc] 33)) w' := by
                        have hxl : ((ls.drop (k + 1)).take (j - (k + 1))).length = j - (k + 1) := by rw [List.length_take, List.length_drop, HN.out]; omega
                        have h := Tryz.strings_Join w.heap.size (k + 1) (n - (k + 1)) ((ls.drop (k + 1)).take (j - (k + 1))) ⟨#[10]⟩ (w3.alloc (.cells #[.int .i64 1, .slice p1 n1 c1, .slice p2 n2 c2, .string csrc] 33))
                          (fun q y hy => by
                            rw [List.getElem?_take] at hy
                            split at hy
                            · rw [List.getElem?_drop] at hy
                              exact HC3.out _ _ y hy
                            · cases hy)
                          (cell_lt hyc) (by rw [hxl]; omega) (by rw [hxl]; omega)
                          (join_small _ (fun y hy => HSB.out y (List.mem_of_mem_drop (List.mem_of_mem_take hy))) (by rw [hxl]; omega))
                        rw [hxl] at h
                        refine h.mono ?_
                        rintro e w' ⟨rfl, hb⟩
                        rw [← hJ]
                        exact ⟨rfl, hb⟩
                      have HJC : Aside _ := JC
                      clear JC hd1 hd2 hJ
                      go_wp2_with (first
                        | (go_at_call 12; go_must (refine Calls.mono HJC.out ?_; rintro e w5 ⟨rfl, hb⟩; have HB5 : Aside (Later (w3.alloc (.cells #[.int .i64 1, .slice p1 n1 c1, .slice p2 n2 c2, .string csrc] 33)) w5) := hb; have f5 := (Four.new w3 _ _ _ _ _).later hb (by simp); obtain ⟨⟨g0, g1, g2, g3⟩, k0, k1, k2, k3⟩ := id f5; clear hb f5))
                        | (at_builtin; refine wpList_append_own _ rfl (.tmp 85) (.tmp 87) 23 rfl w1.heap.size 33 i0 (.agg #[.int .i64 0, .slice none 0 0, .slice none 0 0, .string ⟨#[]⟩]) 4 72 Tryz.underlying23 hi hz0 hz1 hz2 rfl (by decide) (.slice vp out.length vc) out.length xs (by simp [Act.eval, Act.put]) ((owned_later (owned_later HO.out B23.out) ((((Below.refl _ w3).alloc (Nat.le_refl _) _).trans (HB5.out.mono (by simp))).setCell (p := ⟨w3.heap.size, 3, none⟩) (Nat.le_refl _) (.string J))).alloc _) ⟨w5.heap.size, 0, none⟩ 1 1 [.int .i64 1, .slice p1 n1 c1, .slice p2 n2 c2, .string J] rfl rfl ?_ ?_ ?_ ?_ ?_ ?_; rotate_right; intro v' w4 hown' hgrow _))
                      · have b36 : Later w3 (w5.setCell ⟨w3.heap.size, 3, none⟩ (.string J)) := (((Below.refl _ w3).alloc (Nat.le_refl _) _).trans (HB5.out.mono (by simp))).setCell (p := ⟨w3.heap.size, 3, none⟩) (Nat.le_refl _) (.string J)
                        have b37 : Later w3 ((w5.setCell ⟨w3.heap.size, 3, none⟩ (.string J)).alloc (.cells #[.int .i64 1, .slice p1 n1 c1, .slice p2 n2 c2, .string J] 33)) := b36.alloc b36.size _
                        have b27 : Later W1 ((w5.setCell ⟨w3.heap.size, 3, none⟩ (.string J)).alloc (.cells #[.int .i64 1, .slice p1 n1 c1, .slice p2 n2 c2, .string J] 33)) := Later.step B23.out b37
                        have HO3 : ((w5.setCell ⟨w3.heap.size, 3, none⟩ (.string J)).alloc (.cells #[.int .i64 1, .slice p1 n1 c1, .slice p2 n2 c2, .string J] 33)).ownsRow w1.heap.size 33 4 (.slice vp out.length vc) out.length xs := owned_later HO.out b27
                        have HC3' : CmdCells ((w5.setCell ⟨w3.heap.size, 3, none⟩ (.string J)).alloc (.cells #[.int .i64 1, .slice p1 n1 c1, .slice p2 n2 c2, .string J] 33)) w1.heap.size ⟨1, cns, cal, J⟩ [.int .i64 1, .slice p1 n1 c1, .slice p2 n2 c2, .string J] :=
                          ⟨p1, n1, c1, p2, n2, c2, rfl, own_mono (owned_later O1.out b37) (by omega), own_mono (owned_later O2.out b37) (by omega)⟩
                        have HM3 : Cmds ((w5.setCell ⟨w3.heap.size, 3, none⟩ (.string J)).alloc (.cells #[.int .i64 1, .slice p1 n1 c1, .slice p2 n2 c2, .string J] 33)) w1.heap.size out xs := HCm.out.later b27
                        have HOF : Aside (w4.ownsRow w1.heap.size 33 4 v' (out ++ [(⟨1, cns, cal, J⟩ : Cmd)]).length (xs ++ [.int .i64 1, .slice p1 n1 c1, .slice p2 n2 c2, .string J])) := by
                          show World.ownsRow _ _ _ _ _ _ _
                          rw [List.length_append]
                          exact hown'
                        have HCF : Aside (Cmds w4 w1.heap.size (out ++ [(⟨1, cns, cal, J⟩ : Cmd)]) (xs ++ [.int .i64 1, .slice p1 n1 c1, .slice p2 n2 c2, .string J])) :=
                          Cmds.snoc (HC3'.grown HO3 hgrow) (HM3.grown HO3 hgrow)
                        have HLF : Aside (Later w1 w4) :=
                          (HL.out.trans (b27.mono (by omega))).grown hgrow (Nat.le_trans (by omega) b27.size) (fun q hq => own_block HO.out q hq)
                        clear hown' hgrow
                        go_wp2
                        go_roundg G
                        case measure => omega
                        case rel => exact ⟨j + 1, _, _, by omega, by omega, by go_num, by simp; omega, HLF.out, HP2.out, HOF.out, HCF.out⟩
                      all_goals first
                        | exact ⟨rfl, rfl, rfl, rfl⟩
                        | (unfold maxLen; omega)
                        | omega
                        | (have := HB5.out.size; simp at this ⊢; omega)
                        | exact fun q u hq => cells4_at (by simp [World.setCell]) _ _ _ _ _ q u hq
                        | (intro u hu; simp only [List.mem_cons, List.not_mem_nil, or_false] at hu; rcases hu with rfl | rfl | rfl | rfl <;> rfl)
                  · have hjz : j = n := by omega
                    subst hjz
                    have HP2 : Aside (parseR s = ([], (k : Int) + 1, 1)) := by
                      show _ = _
                      rw [HST2.out, if_pos (by have := HD.out; omega)]
                    go_wp2
                    go_ret3
                    refine ⟨.slice none 0 0, [], ?_, (HLw.out.trans (B23.out.mono hL0)).alloc (by omega) _, ?_, ?_⟩
                    · rw [HP2.out]; first | done | rfl
                    · rw [HP2.out]; exact World.ownsRow_nil _ _ _ _
                    · rw [HP2.out]; first | done | rfl
              · have HP2 : Aside (parseR s = parseGo ls G (k + 1) (out ++ [c])) := by
                  show _ = _
                  rw [HP.out, HST.out, if_neg HBL.out, if_neg h200, HLR.out]
                  simp only [hk1, if_false]
                clear h200
                rcases c with ⟨ck, cns, cal, csrc⟩
                simp only at hk1
                go_wp2_with (first
                  | (go_at_call 10; refine cT.mono ?_; rintro e w2 ⟨rfl, hb⟩; have HB2 : Aside (Later wr w2) := hb; clear hb; have hxc2 : w2.cell? ⟨w.heap.size, k, none⟩ = some (.string x) := HB2.out.cellOf hxc)
                  | (go_at_call 11; refine (line_ok x (by omega) _ (A2.out _ HB2.out) (A1.out _ HB2.out) HWN.out HWL.out HWS.out _ HLR.out).mono ?_; rintro e w3 ⟨p1, n1, c1, p2, n2, c2, rfl, hb, ho1', ho2'⟩; have HB3 : Aside (Later w2 w3) := hb; clear hb; have O1 : Aside (World.ownsRow _ _ _ _ _ _ _) := ho1'; have O2 : Aside (World.ownsRow _ _ _ _ _ _ _) := ho2'; clear ho1' ho2'; simp only [])
                  | (at_builtin; refine wpList_append_own _ rfl (.tmp 85) (.tmp 87) 23 rfl w1.heap.size 33 i0 (.agg #[.int .i64 0, .slice none 0 0, .slice none 0 0, .string ⟨#[]⟩]) 4 72 Tryz.underlying23 hi hz0 hz1 hz2 rfl (by decide) (.slice vp out.length vc) out.length xs (by simp [Act.eval, Act.put]) (((owned_later (owned_later HO.out HB2.out) HB3.out).alloc _).alloc _) ⟨w3.heap.size + 1, 0, none⟩ 1 1 [.int .i64 ck, .slice p1 n1 c1, .slice p2 n2 c2, .string csrc] rfl rfl ?_ ?_ ?_ ?_ ?_ ?_; rotate_right; intro v' w4 hown' hgrow _))
                · have b23 : Later wr w3 := Later.step HB2.out HB3.out
                  have z2 := HB2.out.size
                  have z3 := HB3.out.size
                  have HO3 : ((w3.alloc (.cells #[.int .i64 ck, .slice p1 n1 c1, .slice p2 n2 c2, .string csrc] 33)).alloc (.cells #[.int .i64 ck, .slice p1 n1 c1, .slice p2 n2 c2, .string csrc] 33)).ownsRow w1.heap.size 33 4 (.slice vp out.length vc) out.length xs :=
                    ((owned_later (owned_later HO.out HB2.out) HB3.out).alloc _).alloc _
                  have HC3 : CmdCells ((w3.alloc (.cells #[.int .i64 ck, .slice p1 n1 c1, .slice p2 n2 c2, .string csrc] 33)).alloc (.cells #[.int .i64 ck, .slice p1 n1 c1, .slice p2 n2 c2, .string csrc] 33)) w1.heap.size ⟨ck, cns, cal, csrc⟩ [.int .i64 ck, .slice p1 n1 c1, .slice p2 n2 c2, .string csrc] :=
                    ⟨p1, n1, c1, p2, n2, c2, rfl, own_mono ((O1.out.alloc _).alloc _) (by omega), own_mono ((O2.out.alloc _).alloc _) (by omega)⟩
                  have HM3 : Cmds ((w3.alloc (.cells #[.int .i64 ck, .slice p1 n1 c1, .slice p2 n2 c2, .string csrc] 33)).alloc (.cells #[.int .i64 ck, .slice p1 n1 c1, .slice p2 n2 c2, .string csrc] 33)) w1.heap.size out xs :=
                    HCm.out.later (((b23.alloc (by omega) _)).alloc (by simp; omega) _)
                  have HOF : Aside (w4.ownsRow w1.heap.size 33 4 v' (out ++ [(⟨ck, cns, cal, csrc⟩ : Cmd)]).length (xs ++ [.int .i64 ck, .slice p1 n1 c1, .slice p2 n2 c2, .string csrc])) := by
                    show World.ownsRow _ _ _ _ _ _ _
                    rw [List.length_append]
                    exact hown'
                  have HCF : Aside (Cmds w4 w1.heap.size (out ++ [(⟨ck, cns, cal, csrc⟩ : Cmd)]) (xs ++ [.int .i64 ck, .slice p1 n1 c1, .slice p2 n2 c2, .string csrc])) :=
                    Cmds.snoc (HC3.grown HO3 hgrow) (HM3.grown HO3 hgrow)
                  have HLF : Aside (Later w1 w4) := by
                    refine (((HL.out.trans (b23.mono (by omega))).alloc (by omega) _).alloc (by simp; omega) _).grown hgrow (by simp; omega) (fun q hq => own_block HO.out q hq)
                  clear hown' hgrow
                  go_roundg G
                  case measure => omega
                  case rel => exact ⟨k + 1, _, _, by omega, by omega, by go_num, by simp; omega, HLF.out, HP2.out, HOF.out, HCF.out⟩
                · exact ⟨rfl, rfl, rfl, rfl⟩
                · unfold maxLen; omega
                · omega
                · have := HB2.out.size; have := HB3.out.size; omega
      · have hkz : k = n := by omega
        subst hkz
        have hfin : Aside (parseR s = (out, 0, 0)) := by
          show _ = _
          rw [HP.out]
          cases gk with
          | zero => rfl
          | succ g =>
            have : ls[k]? = none := by rw [List.getElem?_eq_none_iff, HN.out]; exact Nat.le_refl _
            rw [parseGo, this]
        go_wp2
        go_ret3
        refine ⟨.slice vp out.length vc, xs, ?_, HL1.out.trans (HL.out.mono (by omega)), ?_, ?_⟩
        · rw [hfin.out]; first | done | rfl
        · rw [hfin.out]; exact own_mono HO.out hz1'
        · rw [hfin.out]; exact Cmds.mono hz1' HCm.out
end Go.Proofs.YthifhncbbndiaaaGreatDoor
end
