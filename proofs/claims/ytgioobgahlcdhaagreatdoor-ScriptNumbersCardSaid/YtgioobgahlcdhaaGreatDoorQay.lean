/- Parts of the proof: Wm, Wn, Wo, Wp, Wq, Vi. -/
import Derived.Lib.TrimU
import Derived.Test.YtgioobgahlcdhaaGreatDoorQax

set_option linter.unusedVariables false
set_option linter.unusedSimpArgs false

section
/- (*paling/script.Command).rest. -/
namespace Go.Proofs.YtgioobgahlcdhaaGreatDoor
open Go.RowKit Go.Shelf Go.Sort Go.Lib

theorem cells5_at {W : World} {N : Nat} (hN : N = W.heap.size) (a b c d e : Value) (T : TypeId) (j : Nat) (u : Value) (hj : [a, b, c, d, e][j]? = some u) : (W.alloc (.cells #[a, b, c, d, e] T)).cell? ((⟨N, 0, none⟩ : Addr).add j) = some u := by
  subst hN
  rw [Addr.add_mid]
  exact Five_range_new W a b c d e T j u hj

theorem own_slice {w : World} {B : Nat} {e : TypeId} {sz : Nat} {v : Value} {n : Nat} {xs : List Value} (h : w.ownsRow B e sz v n xs) : ∃ p m c, v = .slice p m c := by
  rcases h.2 with ⟨hv, _⟩ | ⟨g, cap, cur, hv, _⟩
  · exact ⟨_, _, _, hv⟩
  · exact ⟨_, _, _, hv⟩
theorem own_block {w : World} {B : Nat} {e : TypeId} {sz : Nat} {v : Value} {n : Nat} {xs : List Value} (h : w.ownsRow B e sz v n xs) : ∀ q, v.ownBlock = some q → B ≤ q := by
  intro q hq
  rcases h.2 with ⟨hv, _⟩ | ⟨g, cp, cur, hv, hg, _⟩
  · rw [hv] at hq; simp [Value.ownBlock] at hq
  · rw [hv] at hq; simp [Value.ownBlock] at hq; omega

def RestPost (c : Nat) (kind : Int) (nv : Value) (src : ByteArray) (ws : List ByteArray) (w : World) (e : Ending) (w' : World) : Prop :=
  ∃ er av, e = .returned (.int .i64 er) ∧ Only c w w' ∧ Four w' c (.int .i64 kind) nv av (.string src) ∧ (∃ p m q, av = .slice p m q) ∧
    ((restR kind ws = none ∧ er = 1) ∨ ∃ al, restR kind ws = some al ∧ er = 0 ∧ w'.ownsRow w.heap.size 43 5 av al.length (argCells al))

theorem Four.only {w w1 : World} {c : Nat} {x0 x1 x2 x3 : Value} {row : Option Nat} (h : Four w c x0 x1 x2 x3) (hg : w.grownBy w1 row) (hne : some c ≠ row) : Four w1 c x0 x1 x2 x3 := by
  obtain ⟨⟨c0, c1, c2, c3⟩, f0, f1, f2, f3⟩ := h
  have hf : ∀ i, w1.frozen? ⟨c, i, none⟩ = w.frozen? ⟨c, i, none⟩ := fun i => World.frozen?_of_block (w := w) (hg.block c (cell_lt c0) hne)
  exact ⟨⟨hg.cell c0 hne, hg.cell c1 hne, hg.cell c2 hne, hg.cell c3 hne⟩, (hf 0).trans f0, (hf 1).trans f1, (hf 2).trans f2, (hf 3).trans f3⟩
theorem Four.put2 {w : World} {c : Nat} {x0 x1 x2 x3 : Value} (h : Four w c x0 x1 x2 x3) (y : Value) : Four (w.setCell ⟨c, 2, none⟩ y) c x0 x1 y x3 := by
  obtain ⟨⟨c0, c1, c2, c3⟩, f0, f1, f2, f3⟩ := h
  refine ⟨⟨?_, ?_, ?_, ?_⟩, ?_, ?_, ?_, ?_⟩
  · rw [World.cell?_setCell_other _ _ _ _ (by simp)]; exact c0
  · rw [World.cell?_setCell_other _ _ _ _ (by simp)]; exact c1
  · exact World.cell?_setCell_same _ _ _ c2
  · rw [World.cell?_setCell_other _ _ _ _ (by simp)]; exact c3
  · simpa using f0
  · simpa using f1
  · simpa using f2
  · simpa using f3

set_option maxHeartbeats 8000000 in
set_option maxRecDepth 1000000 in
theorem rest_give (W0 w : World) (hc : Calm W0) (hl : Later W0 w) (c : Nat) (hcW : W0.heap.size ≤ c)  (nv : Value) (src : ByteArray)
    (h4 : Four w c (.int .i64 4) nv (.slice none 0 0) (.string src)) (wb wo cap : Nat) (ws : List ByteArray) (hcells : ∀ (j : Nat) (x : ByteArray), ws[j]? = some x → w.cell? ⟨wb, wo + j, none⟩ = some (.string x)) (hwc : wb ≠ c)
    (hws : ∀ x ∈ ws, x.size ≤ 1000000) (hlen : ws.length ≤ 1000000) :
    Calls Tryz.prog 43 #[.pointer (some ⟨c, 0, none⟩), .slice (some ⟨wb, wo, none⟩) ws.length cap] w (RestPost c 4 nv src ws w) := by
  obtain ⟨⟨c0, c1, c2, c3⟩, f0, f1, f2, f3⟩ := id h4
  have hcw : c < w.heap.size := cell_lt c0
  obtain ⟨i0, hi, hz0, hz1, hz2⟩ := info_parts argInfo
  have k4 : ((4 : Int) == 4) = true := rfl
  have k5 : ((4 : Int) == 5) = false := rfl
  by_cases hbad : restBad 4 ws.length = true
  · have hR : Aside (restR 4 ws = none) := by show _ = _; unfold restR; rw [if_pos hbad]
    have hn : ws.length ≠ 1 := by simpa [restBad] using hbad
    clear hbad
    go_enter Tryz.func43, Tryz.ntmps43
    go_wp2
    all_goals go_ret
    all_goals exact ⟨1, .slice none 0 0, rfl, Only.of (Below.refl _ _), h4, ⟨_, _, _, rfl⟩, .inl ⟨hR.out, rfl⟩⟩
  · have hR : Aside (restR 4 ws = match argsR ws with | none => none | some al => if (4 : Int) = 5 ∧ (al.head?.map Arg.is) = some false then none else some al) := by show _ = _; unfold restR; rw [if_neg hbad]; first | done | rfl
    have hn : ws.length ≤ 1 ∧ 1 ≤ ws.length := by simp [restBad] at hbad; omega
    obtain ⟨hn1, hn2⟩ := hn
    clear hbad
    have H4 : Aside (Four w c (.int .i64 4) nv (.slice none 0 0) (.string src)) := h4
    have HC : Aside (∀ (j : Nat) (x : ByteArray), ws[j]? = some x → w.cell? ⟨wb, wo + j, none⟩ = some (.string x)) := hcells
    have HW : Aside (∀ x ∈ ws, x.size ≤ 1000000) := hws
    clear hcells hws h4
    go_enter Tryz.func43, Tryz.ntmps43
    go_wp2
    clear c0 c1 c2 c3 f0 f1 f2 f3
    go_loopg [48] ws.length (fun g i wr => ∃ (k : Nat) (al : List Arg) (av : Value), k + g = ws.length ∧ i = .int .i64 k ∧ Aside (argsR (ws.take k) = some al) ∧ Aside (Only c w wr) ∧
      Aside (Four wr c (.int .i64 4) nv av (.string src)) ∧ Aside (wr.ownsRow w.heap.size 43 5 av al.length (argCells al)))
    case atStart => exact ⟨0, [], _, by omega, rfl, rfl, Only.of (Below.refl _ _), H4, World.ownsRow_nil _ _ _ _⟩
    case round =>
      obtain ⟨k, al, av, hkg, rfl, HA, HO, HF, HN⟩ := hrel
      have hal : al.length = k := by
        have := argsR_length _ _ HA.out
        simp at this
        omega
      obtain ⟨⟨c0, c1, c2, c3⟩, f0, f1, f2, f3⟩ := id HF.out
      have hcr : c < wr.heap.size := cell_lt c0
      by_cases hlt : k < ws.length
      · obtain ⟨x, hx⟩ : ∃ x, ws[k]? = some x := ⟨_, List.getElem?_eq_getElem hlt⟩
        have HX : Aside (ws[k]? = some x) := hx
        have hxs : x.size ≤ 1000000 := HW.out x (List.mem_of_getElem? hx)
        have hxc : wr.cell? ⟨wb, wo + k, none⟩ = some (.string x) := HO.out.cell (HC.out k x hx) (by simpa using hwc)
        have HCM : Aside (Calm wr) := hc.later (Only.later hl HO.out hcW)
        clear hx
        cases har : argR x with
        | none =>
          have HE : Aside (argR x = none) := har
          clear har
          go_wp2_with (go_at_call 78; refine (arg_none x hxs _ HCM.out HE.out).mono ?_; rintro e w2 ⟨xk, xn, xt, xh, xb, rfl, hb⟩; have HB : Aside (Later wr w2) := hb; clear hb)
          go_ret
          refine ⟨1, av, rfl, ?_, ?_, own_slice HN.out, .inl ⟨?_, rfl⟩⟩
          · exact (HO.out.trans (Only.of HB.out)).trans (World.grownBy_alloc _ _ _)
          · exact (HF.out.later HB.out hcr).only (World.grownBy_alloc _ _ none) (by simp)
          · have hno : argsR ws = none := by
              rw [← List.take_append_drop (k + 1) ws]
              apply argsR_none
              rw [List.take_add_one, HX.out]
              simp only [Option.toList_some, argsR_append, HA.out, HE.out]
            rw [hR.out, hno]
        | some y =>
          have HE : Aside (argR x = some y) := har
          clear har
          rcases y with ⟨yk, yn, yt, yh, yb⟩
          go_wp2_with (go_at_call 78; refine (arg_some x hxs _ HCM.out _ HE.out).mono ?_; rintro e w2 ⟨rfl, hb⟩; have HB : Aside (Later wr w2) := hb; clear hb; have h4' := HF.out.later HB.out hcr; clear c0 c1 c2 c3 f0 f1 f2 f3; obtain ⟨⟨c0, c1, c2, c3⟩, f0, f1, f2, f3⟩ := id h4'; have H5 : Aside (Four _ _ _ _ _ _) := h4'; clear h4')
          have hz := HB.out.size
          have hws : w.heap.size ≤ wr.heap.size := HO.out.size
          have hcav : some c ≠ av.ownBlock := by
            rcases HN.out.2 with ⟨hv, _⟩ | ⟨g, cp, cur, hv, hg, _⟩
            · rw [hv]; simp [Value.ownBlock]
            · rw [hv]; simp [Value.ownBlock]; omega
          have hav : Aside (∀ q, av.ownBlock = some q → w.heap.size ≤ q) := by
            intro q hq
            rcases HN.out.2 with ⟨hv, _⟩ | ⟨g, cp, cur, hv, hg, _⟩
            · rw [hv] at hq; simp [Value.ownBlock] at hq
            · rw [hv] at hq; simp [Value.ownBlock] at hq; omega
          have FW : ∀ (A A' : Obj) (w1 : World), (((w2.alloc A).alloc A').drew).grownBy w1 av.ownBlock → Four w1 c (.int .i64 4) nv av (.string src) := fun A A' w1 hg =>
            Four.only (w := ((w2.alloc A).alloc A').drew) (have h : Four ((w2.alloc A).alloc A') c _ _ _ _ := (H5.out.only (World.grownBy_alloc w2 A none) (by simp)).only (World.grownBy_alloc (w2.alloc A) A' none) (by simp); h) hg hcav
          have OW : ∀ (A A' : Obj) (w1 : World), (((w2.alloc A).alloc A').drew).grownBy w1 av.ownBlock → Only c w w1 := fun A A' w1 hg =>
            Only.grown (w2 := ((w2.alloc A).alloc A').drew) (have h : Only c w ((w2.alloc A).alloc A') := Only.grown (Only.grown (HO.out.trans (Only.of HB.out)) (World.grownBy_alloc w2 A none) (by simp)) (World.grownBy_alloc (w2.alloc A) A' none) (by simp); ⟨h.os, h.tape, h.output, h.size, h.block⟩) hg hav.out
          have NW : ∀ (A A' : Obj), (((w2.alloc A).alloc A').drew).ownsRow w.heap.size 43 5 av k (argCells al) := fun A A' => by
            have h := ((owned_later HN.out HB.out).alloc A).alloc A'
            rw [hal] at h
            exact h
          have hb1 : k + 1 ≤ maxLen := by unfold maxLen; omega
          have hb2 : (k + 1) * 48 ≤ 140737488355328 := by omega
          have hb3 : ∀ (A A' : Obj), w.heap.size ≤ (((w2.alloc A).alloc A').drew).heap.size := fun A A' => by show w.heap.size ≤ ((w2.alloc A).alloc A').heap.size; simp; omega
          have hc5 : ∀ (A : Obj) (j : Nat) (u : Value), [Value.int .u8 yk, .int .i64 yn, .string yt, .int .i64 yh, .bool yb][j]? = some u → (((w2.alloc A).alloc (.cells #[.int .u8 yk, .int .i64 yn, .string yt, .int .i64 yh, .bool yb] 43)).drew).cell? ((⟨w2.heap.size + 1, 0, none⟩ : Addr).add j) = some u := fun A j u hj =>
            cells5_at (W := w2.alloc A) (by simp) _ _ _ _ _ _ j u hj
          have h15 : ∀ u ∈ [Value.int .u8 yk, .int .i64 yn, .string yt, .int .i64 yh, .bool yb], u.oneCell' = true := by
            intro u hu
            simp only [List.mem_cons, List.not_mem_nil, or_false] at hu
            rcases hu with rfl | rfl | rfl | rfl | rfl <;> rfl
          have hcw2 : c < w2.heap.size := by omega
          have q2 : ∀ A, (w2.alloc A).cell? ⟨c, 2, none⟩ = some av := fun A => (World.cell?_alloc_past _ _ _ hcw2).trans c2
          have q22 : ∀ A A', ((w2.alloc A).alloc A').cell? ⟨c, 2, none⟩ = some av := fun A A' => (World.cell?_alloc_past _ _ _ (by simp; omega)).trans (q2 A)
          have A1 : Aside _ := FW
          have A2 : Aside _ := OW
          have A3 : Aside _ := NW
          have A4 : Aside _ := hb3
          have A5 : Aside _ := hc5
          have A6 : Aside _ := h15
          clear FW OW NW hb3 hc5 h15
          go_region_law (refine step_append_own rfl (.tmp 63) (.tmp 65) 36 rfl w.heap.size 43 i0 (.agg #[.int .u8 0, .int .i64 0, .string ⟨#[]⟩, .int .i64 0, .bool false]) 5 48 Tryz.underlying36 hi hz0 hz1 hz2 rfl (by decide) av k (argCells al) (by simp [Act.eval, Act.put]) (A3.out _ _) ⟨w2.heap.size + 1, 0, none⟩ 1 1 [.int .u8 yk, .int .i64 yn, .string yt, .int .i64 yh, .bool yb] (by simp [Act.eval, Act.put]) rfl (A5.out _) A6.out hb1 hb2 (A4.out _ _) ?_; intro v' w1 hown' hgrow _; have hf1 := A1.out _ _ _ hgrow; have ho1 : Aside (Only c w w1) := A2.out _ _ _ hgrow; clear hgrow; obtain ⟨vg, vc, rfl, -, -⟩ := own_form hown'; clear c0 c1 c2 c3 f0 f1 f2 f3; obtain ⟨⟨c0, c1, c2, c3⟩, f0, f1, f2, f3⟩ := id hf1; have H6 : Aside (Four _ _ _ _ _ _) := hf1; clear hf1; have N6 : Aside (World.ownsRow _ _ _ _ _ _ _) := hown'; clear hown')
          all_goals go_wp2
          all_goals go_roundg (gk - 1)
          all_goals first
            | omega
            | (refine ⟨k + 1, al ++ [⟨yk, yn, yt, yh, yb⟩], _, by omega, by go_num, ?_, ho1.out.put _ _, H6.out.put2 _, ?_⟩
               · show _ = _
                 rw [List.take_add_one, HX.out]
                 simp only [Option.toList_some, argsR_append, HA.out, HE.out]
               · show World.ownsRow _ _ _ _ _ _ _
                 rw [argCells_snoc, List.length_append, hal]
                 exact ownsRow_setCell_below N6.out hcw _)
      · have hkz : k = ws.length := by omega
        subst hkz
        have hAA : argsR ws = some al := by have := HA.out; rwa [List.take_length] at this
        have HAA : Aside (argsR ws = some al) := hAA
        clear hAA
        go_wp2
        go_ret
        refine ⟨0, av, rfl, HO.out, HF.out, own_slice HN.out, .inr ⟨al, ?_, rfl, HN.out⟩⟩
        rw [hR.out, HAA.out]
        simp only []
        rw [if_neg (fun h => by omega)]

set_option maxHeartbeats 8000000 in
set_option maxRecDepth 1000000 in
theorem rest_call (W0 w : World) (hc : Calm W0) (hl : Later W0 w) (c : Nat) (hcW : W0.heap.size ≤ c)  (nv : Value) (src : ByteArray)
    (h4 : Four w c (.int .i64 5) nv (.slice none 0 0) (.string src)) (wb wo cap : Nat) (ws : List ByteArray) (hcells : ∀ (j : Nat) (x : ByteArray), ws[j]? = some x → w.cell? ⟨wb, wo + j, none⟩ = some (.string x)) (hwc : wb ≠ c)
    (hws : ∀ x ∈ ws, x.size ≤ 1000000) (hlen : ws.length ≤ 1000000) :
    Calls Tryz.prog 43 #[.pointer (some ⟨c, 0, none⟩), .slice (some ⟨wb, wo, none⟩) ws.length cap] w (RestPost c 5 nv src ws w) := by
  obtain ⟨⟨c0, c1, c2, c3⟩, f0, f1, f2, f3⟩ := id h4
  have hcw : c < w.heap.size := cell_lt c0
  obtain ⟨i0, hi, hz0, hz1, hz2⟩ := info_parts argInfo
  have k4 : ((5 : Int) == 4) = false := rfl
  have k5 : ((5 : Int) == 5) = true := rfl
  by_cases hbad : restBad 5 ws.length = true
  · have hR : Aside (restR 5 ws = none) := by show _ = _; unfold restR; rw [if_pos hbad]
    have hn : ws.length < 1 ∨ 20 < ws.length := by simp [restBad] at hbad; rcases hbad with rfl | h <;> simp <;> omega
    clear hbad
    go_enter Tryz.func43, Tryz.ntmps43
    go_wp2
    all_goals go_ret
    all_goals exact ⟨1, .slice none 0 0, rfl, Only.of (Below.refl _ _), h4, ⟨_, _, _, rfl⟩, .inl ⟨hR.out, rfl⟩⟩
  · have hR : Aside (restR 5 ws = match argsR ws with | none => none | some al => if (5 : Int) = 5 ∧ (al.head?.map Arg.is) = some false then none else some al) := by show _ = _; unfold restR; rw [if_neg hbad]; first | done | rfl
    have hn : 1 ≤ ws.length ∧ ws.length ≤ 20 := by simp [restBad] at hbad; have := List.length_pos_iff.2 hbad.1; omega
    obtain ⟨hn1, hn2⟩ := hn
    clear hbad
    have H4 : Aside (Four w c (.int .i64 5) nv (.slice none 0 0) (.string src)) := h4
    have HC : Aside (∀ (j : Nat) (x : ByteArray), ws[j]? = some x → w.cell? ⟨wb, wo + j, none⟩ = some (.string x)) := hcells
    have HW : Aside (∀ x ∈ ws, x.size ≤ 1000000) := hws
    clear hcells hws h4
    go_enter Tryz.func43, Tryz.ntmps43
    go_wp2
    clear c0 c1 c2 c3 f0 f1 f2 f3
    go_loopg [48] ws.length (fun g i wr => ∃ (k : Nat) (al : List Arg) (av : Value), k + g = ws.length ∧ i = .int .i64 k ∧ Aside (argsR (ws.take k) = some al) ∧ Aside (Only c w wr) ∧
      Aside (Four wr c (.int .i64 5) nv av (.string src)) ∧ Aside (wr.ownsRow w.heap.size 43 5 av al.length (argCells al)))
    case atStart => exact ⟨0, [], _, by omega, rfl, rfl, Only.of (Below.refl _ _), H4, World.ownsRow_nil _ _ _ _⟩
    case round =>
      obtain ⟨k, al, av, hkg, rfl, HA, HO, HF, HN⟩ := hrel
      have hal : al.length = k := by
        have := argsR_length _ _ HA.out
        simp at this
        omega
      obtain ⟨⟨c0, c1, c2, c3⟩, f0, f1, f2, f3⟩ := id HF.out
      have hcr : c < wr.heap.size := cell_lt c0
      by_cases hlt : k < ws.length
      · obtain ⟨x, hx⟩ : ∃ x, ws[k]? = some x := ⟨_, List.getElem?_eq_getElem hlt⟩
        have HX : Aside (ws[k]? = some x) := hx
        have hxs : x.size ≤ 1000000 := HW.out x (List.mem_of_getElem? hx)
        have hxc : wr.cell? ⟨wb, wo + k, none⟩ = some (.string x) := HO.out.cell (HC.out k x hx) (by simpa using hwc)
        have HCM : Aside (Calm wr) := hc.later (Only.later hl HO.out hcW)
        clear hx
        cases har : argR x with
        | none =>
          have HE : Aside (argR x = none) := har
          clear har
          go_wp2_with (go_at_call 78; refine (arg_none x hxs _ HCM.out HE.out).mono ?_; rintro e w2 ⟨xk, xn, xt, xh, xb, rfl, hb⟩; have HB : Aside (Later wr w2) := hb; clear hb)
          go_ret
          refine ⟨1, av, rfl, ?_, ?_, own_slice HN.out, .inl ⟨?_, rfl⟩⟩
          · exact (HO.out.trans (Only.of HB.out)).trans (World.grownBy_alloc _ _ _)
          · exact (HF.out.later HB.out hcr).only (World.grownBy_alloc _ _ none) (by simp)
          · have hno : argsR ws = none := by
              rw [← List.take_append_drop (k + 1) ws]
              apply argsR_none
              rw [List.take_add_one, HX.out]
              simp only [Option.toList_some, argsR_append, HA.out, HE.out]
            rw [hR.out, hno]
        | some y =>
          have HE : Aside (argR x = some y) := har
          clear har
          rcases y with ⟨yk, yn, yt, yh, yb⟩
          go_wp2_with (go_at_call 78; refine (arg_some x hxs _ HCM.out _ HE.out).mono ?_; rintro e w2 ⟨rfl, hb⟩; have HB : Aside (Later wr w2) := hb; clear hb; have h4' := HF.out.later HB.out hcr; clear c0 c1 c2 c3 f0 f1 f2 f3; obtain ⟨⟨c0, c1, c2, c3⟩, f0, f1, f2, f3⟩ := id h4'; have H5 : Aside (Four _ _ _ _ _ _) := h4'; clear h4')
          have hz := HB.out.size
          have hws : w.heap.size ≤ wr.heap.size := HO.out.size
          have hcav : some c ≠ av.ownBlock := by
            rcases HN.out.2 with ⟨hv, _⟩ | ⟨g, cp, cur, hv, hg, _⟩
            · rw [hv]; simp [Value.ownBlock]
            · rw [hv]; simp [Value.ownBlock]; omega
          have hav : Aside (∀ q, av.ownBlock = some q → w.heap.size ≤ q) := by
            intro q hq
            rcases HN.out.2 with ⟨hv, _⟩ | ⟨g, cp, cur, hv, hg, _⟩
            · rw [hv] at hq; simp [Value.ownBlock] at hq
            · rw [hv] at hq; simp [Value.ownBlock] at hq; omega
          have FW : ∀ (A A' : Obj) (w1 : World), (((w2.alloc A).alloc A').drew).grownBy w1 av.ownBlock → Four w1 c (.int .i64 5) nv av (.string src) := fun A A' w1 hg =>
            Four.only (w := ((w2.alloc A).alloc A').drew) (have h : Four ((w2.alloc A).alloc A') c _ _ _ _ := (H5.out.only (World.grownBy_alloc w2 A none) (by simp)).only (World.grownBy_alloc (w2.alloc A) A' none) (by simp); h) hg hcav
          have OW : ∀ (A A' : Obj) (w1 : World), (((w2.alloc A).alloc A').drew).grownBy w1 av.ownBlock → Only c w w1 := fun A A' w1 hg =>
            Only.grown (w2 := ((w2.alloc A).alloc A').drew) (have h : Only c w ((w2.alloc A).alloc A') := Only.grown (Only.grown (HO.out.trans (Only.of HB.out)) (World.grownBy_alloc w2 A none) (by simp)) (World.grownBy_alloc (w2.alloc A) A' none) (by simp); ⟨h.os, h.tape, h.output, h.size, h.block⟩) hg hav.out
          have NW : ∀ (A A' : Obj), (((w2.alloc A).alloc A').drew).ownsRow w.heap.size 43 5 av k (argCells al) := fun A A' => by
            have h := ((owned_later HN.out HB.out).alloc A).alloc A'
            rw [hal] at h
            exact h
          have hb1 : k + 1 ≤ maxLen := by unfold maxLen; omega
          have hb2 : (k + 1) * 48 ≤ 140737488355328 := by omega
          have hb3 : ∀ (A A' : Obj), w.heap.size ≤ (((w2.alloc A).alloc A').drew).heap.size := fun A A' => by show w.heap.size ≤ ((w2.alloc A).alloc A').heap.size; simp; omega
          have hc5 : ∀ (A : Obj) (j : Nat) (u : Value), [Value.int .u8 yk, .int .i64 yn, .string yt, .int .i64 yh, .bool yb][j]? = some u → (((w2.alloc A).alloc (.cells #[.int .u8 yk, .int .i64 yn, .string yt, .int .i64 yh, .bool yb] 43)).drew).cell? ((⟨w2.heap.size + 1, 0, none⟩ : Addr).add j) = some u := fun A j u hj =>
            cells5_at (W := w2.alloc A) (by simp) _ _ _ _ _ _ j u hj
          have h15 : ∀ u ∈ [Value.int .u8 yk, .int .i64 yn, .string yt, .int .i64 yh, .bool yb], u.oneCell' = true := by
            intro u hu
            simp only [List.mem_cons, List.not_mem_nil, or_false] at hu
            rcases hu with rfl | rfl | rfl | rfl | rfl <;> rfl
          have hcw2 : c < w2.heap.size := by omega
          have q2 : ∀ A, (w2.alloc A).cell? ⟨c, 2, none⟩ = some av := fun A => (World.cell?_alloc_past _ _ _ hcw2).trans c2
          have q22 : ∀ A A', ((w2.alloc A).alloc A').cell? ⟨c, 2, none⟩ = some av := fun A A' => (World.cell?_alloc_past _ _ _ (by simp; omega)).trans (q2 A)
          have A1 : Aside _ := FW
          have A2 : Aside _ := OW
          have A3 : Aside _ := NW
          have A4 : Aside _ := hb3
          have A5 : Aside _ := hc5
          have A6 : Aside _ := h15
          clear FW OW NW hb3 hc5 h15
          go_region_law (refine step_append_own rfl (.tmp 63) (.tmp 65) 36 rfl w.heap.size 43 i0 (.agg #[.int .u8 0, .int .i64 0, .string ⟨#[]⟩, .int .i64 0, .bool false]) 5 48 Tryz.underlying36 hi hz0 hz1 hz2 rfl (by decide) av k (argCells al) (by simp [Act.eval, Act.put]) (A3.out _ _) ⟨w2.heap.size + 1, 0, none⟩ 1 1 [.int .u8 yk, .int .i64 yn, .string yt, .int .i64 yh, .bool yb] (by simp [Act.eval, Act.put]) rfl (A5.out _) A6.out hb1 hb2 (A4.out _ _) ?_; intro v' w1 hown' hgrow _; have hf1 := A1.out _ _ _ hgrow; have ho1 : Aside (Only c w w1) := A2.out _ _ _ hgrow; clear hgrow; obtain ⟨vg, vc, rfl, -, -⟩ := own_form hown'; clear c0 c1 c2 c3 f0 f1 f2 f3; obtain ⟨⟨c0, c1, c2, c3⟩, f0, f1, f2, f3⟩ := id hf1; have H6 : Aside (Four _ _ _ _ _ _) := hf1; clear hf1; have N6 : Aside (World.ownsRow _ _ _ _ _ _ _) := hown'; clear hown')
          all_goals go_wp2
          all_goals go_roundg (gk - 1)
          all_goals first
            | omega
            | (refine ⟨k + 1, al ++ [⟨yk, yn, yt, yh, yb⟩], _, by omega, by go_num, ?_, ho1.out.put _ _, H6.out.put2 _, ?_⟩
               · show _ = _
                 rw [List.take_add_one, HX.out]
                 simp only [Option.toList_some, argsR_append, HA.out, HE.out]
               · show World.ownsRow _ _ _ _ _ _ _
                 rw [argCells_snoc, List.length_append, hal]
                 exact ownsRow_setCell_below N6.out hcw _)
      · have hkz : k = ws.length := by omega
        subst hkz
        have hAA : argsR ws = some al := by have := HA.out; rwa [List.take_length] at this
        have HAA : Aside (argsR ws = some al) := hAA
        clear hAA
        cases al with
        | nil => simp at hal; omega
        | cons a0 at' =>
          have hlz : (a0 :: at').length = at'.length + 1 := rfl
          have N1 := HN.out
          rw [hlz] at N1
          obtain ⟨vg, vc, rfl, -, -⟩ := own_form N1
          have d4 : wr.cell? ⟨vg, 4, none⟩ = some (.bool a0.is) := (N1.cellAt 4 (by omega)).trans rfl
          clear N1
          rcases a0 with ⟨ak, an, at0, ah, ais⟩
          simp only at d4
          cases ais
          · go_wp2
            go_ret
            refine ⟨1, _, rfl, HO.out, HF.out, ⟨_, _, _, rfl⟩, .inl ⟨?_, rfl⟩⟩
            rw [hR.out, HAA.out]
            first | done | rfl
          · go_wp2
            go_ret
            refine ⟨0, _, rfl, HO.out, HF.out, ⟨_, _, _, rfl⟩, .inr ⟨_, ?_, rfl, HN.out⟩⟩
            rw [hR.out, HAA.out]
            first | done | rfl

set_option maxHeartbeats 8000000 in
set_option maxRecDepth 1000000 in
theorem rest_none (W0 w : World) (hc : Calm W0) (hl : Later W0 w) (c : Nat) (hcW : W0.heap.size ≤ c) (kind : Int) (hk : kind ≠ 4 ∧ kind ≠ 5) (nv : Value) (src : ByteArray)
    (h4 : Four w c (.int .i64 kind) nv (.slice none 0 0) (.string src)) (wb wo cap : Nat) (ws : List ByteArray) (hcells : ∀ (j : Nat) (x : ByteArray), ws[j]? = some x → w.cell? ⟨wb, wo + j, none⟩ = some (.string x)) (hwc : wb ≠ c)
    (hws : ∀ x ∈ ws, x.size ≤ 1000000) (hlen : ws.length ≤ 1000000) :
    Calls Tryz.prog 43 #[.pointer (some ⟨c, 0, none⟩), .slice (some ⟨wb, wo, none⟩) ws.length cap] w (RestPost c kind nv src ws w) := by
  obtain ⟨⟨c0, c1, c2, c3⟩, f0, f1, f2, f3⟩ := id h4
  have hcw : c < w.heap.size := cell_lt c0
  obtain ⟨i0, hi, hz0, hz1, hz2⟩ := info_parts argInfo
  have k4 : (kind == 4) = false := by simp only [beq_eq_false_iff_ne]; exact hk.1
  have k5 : (kind == 5) = false := by simp only [beq_eq_false_iff_ne]; exact hk.2
  by_cases hbad : restBad kind ws.length = true
  · have hR : Aside (restR kind ws = none) := by show _ = _; unfold restR; rw [if_pos hbad]
    have hn : 0 < ws.length := by simp [restBad, hk.1, hk.2] at hbad; exact List.length_pos_iff.2 hbad
    clear hbad
    go_enter Tryz.func43, Tryz.ntmps43
    go_wp2
    all_goals go_ret
    all_goals exact ⟨1, .slice none 0 0, rfl, Only.of (Below.refl _ _), h4, ⟨_, _, _, rfl⟩, .inl ⟨hR.out, rfl⟩⟩
  · have hR : Aside (restR kind ws = match argsR ws with | none => none | some al => if (kind : Int) = 5 ∧ (al.head?.map Arg.is) = some false then none else some al) := by show _ = _; unfold restR; rw [if_neg hbad]; first | done | rfl
    have hn : ws = [] := by simp [restBad, hk.1, hk.2] at hbad; exact hbad
    clear hbad
    have H4 : Aside (Four w c (.int .i64 kind) nv (.slice none 0 0) (.string src)) := h4
    have HC : Aside (∀ (j : Nat) (x : ByteArray), ws[j]? = some x → w.cell? ⟨wb, wo + j, none⟩ = some (.string x)) := hcells
    have HW : Aside (∀ x ∈ ws, x.size ≤ 1000000) := hws
    clear hcells hws h4
    obtain rfl : ws = [] := hn
    go_enter Tryz.func43, Tryz.ntmps43
    go_wp2
    refine wp_loop_rounds 1 ?_
    rw [rounds_succ]
    go_wp2
    go_ret
    refine ⟨0, .slice none 0 0, rfl, Only.of (Below.refl _ _), H4.out, ⟨_, _, _, rfl⟩, .inr ⟨[], ?_, rfl, World.ownsRow_nil _ _ _ _⟩⟩
    rw [hR.out]
    simp only [argsR]
    rw [if_neg (fun h => hk.2 h.1)]

theorem rest_any (W0 w : World) (hc : Calm W0) (hl : Later W0 w) (c : Nat) (hcW : W0.heap.size ≤ c) (kind : Int) (nv : Value) (src : ByteArray)
    (h4 : Four w c (.int .i64 kind) nv (.slice none 0 0) (.string src)) (wb wo cap : Nat) (ws : List ByteArray) (hcells : ∀ (j : Nat) (x : ByteArray), ws[j]? = some x → w.cell? ⟨wb, wo + j, none⟩ = some (.string x)) (hwc : wb ≠ c)
    (hws : ∀ x ∈ ws, x.size ≤ 1000000) (hlen : ws.length ≤ 1000000) :
    Calls Tryz.prog 43 #[.pointer (some ⟨c, 0, none⟩), .slice (some ⟨wb, wo, none⟩) ws.length cap] w (RestPost c kind nv src ws w) := by
  by_cases h : kind = 4
  · subst h; exact rest_give W0 w hc hl c hcW nv src h4 wb wo cap ws hcells hwc hws hlen
  · by_cases h' : kind = 5
    · subst h'; exact rest_call W0 w hc hl c hcW nv src h4 wb wo cap ws hcells hwc hws hlen
    · exact rest_none W0 w hc hl c hcW kind ⟨h, h'⟩ nv src h4 wb wo cap ws hcells hwc hws hlen
end Go.Proofs.YtgioobgahlcdhaaGreatDoor
end

section
/- paling/script.line: parts. -/
namespace Go.Proofs.YtgioobgahlcdhaaGreatDoor
open Go.RowKit Go.Shelf Go.Sort Go.Lib

def formCells : Array Value := #[.string ⟨#[99, 111, 109, 112]⟩, .int .i64 1, .string ⟨#[108, 111, 97, 100]⟩, .int .i64 2, .string ⟨#[109, 101, 109, 98, 114, 97, 110, 101]⟩, .int .i64 2, .string ⟨#[114, 101, 118, 111, 107, 101, 114]⟩, .int .i64 2,
  .string ⟨#[103, 105, 118, 101]⟩, .int .i64 2, .string ⟨#[99, 97, 108, 108]⟩, .int .i64 1, .string ⟨#[114, 101, 118, 111, 107, 101]⟩, .int .i64 1, .string ⟨#[102, 111, 114, 103, 101, 116]⟩, .int .i64 1, .string ⟨#[99, 111, 108, 108, 101, 99, 116]⟩, .int .i64 0]
theorem range_later {w w' : World} {b : Nat} {cs : List Value} (h : w.rangeAt b 0 cs) (k : Later w w') : w'.rangeAt b 0 cs := fun j v hj => k.cellOf (h j v hj)
/-- The kinds' words, and how many numbers they have. -/
def formTab : List (ByteArray × Nat) := [(⟨#[99, 111, 109, 112]⟩, 1), (⟨#[108, 111, 97, 100]⟩, 2), (⟨#[109, 101, 109, 98, 114, 97, 110, 101]⟩, 2), (⟨#[114, 101, 118, 111, 107, 101, 114]⟩, 2), (⟨#[103, 105, 118, 101]⟩, 2), (⟨#[99, 97, 108, 108]⟩, 1), (⟨#[114, 101, 118, 111, 107, 101]⟩, 1), (⟨#[102, 111, 114, 103, 101, 116]⟩, 1), (⟨#[99, 111, 108, 108, 101, 99, 116]⟩, 0)]
structure Cmd where
  k : Int
  ns : List Int
  al : List Arg
  src : ByteArray
def wordsOf (s : ByteArray) : List ByteArray := (Lib.fieldsD s.data.toList).map fun x => ⟨x.toArray⟩
def numsR : List ByteArray → Option (List Int)
  | [] => some []
  | x :: r => match numS x with
    | none => none
    | some v => (numsR r).map (v :: ·)
/-- A command's line, its words given: the command, or why not. -/
def lineR (ws : List ByteArray) : Except Int Cmd :=
  match formTab.findIdx? fun p => decide (some p.1 = ws.head?) with
  | none => .error 18
  | some k =>
    if ws.length < 1 + ((formTab[k]?.map Prod.snd).getD 0) then .error 1
    else match numsR ((ws.drop 1).take ((formTab[k]?.map Prod.snd).getD 0)) with
      | none => .error 1
      | some ns => match restR k (ws.drop (1 + ((formTab[k]?.map Prod.snd).getD 0))) with
        | none => .error 1
        | some al => .ok ⟨k, ns, al, ⟨#[]⟩⟩

def LinePost (ws : List ByteArray) (w : World) (e : Ending) (w' : World) : Prop :=
  ∃ kk p1 n1 c1 p2 n2 c2 src er, e = .returned (.tuple #[.agg #[.int .i64 kk, .slice p1 n1 c1, .slice p2 n2 c2, .string src], .int .i64 er]) ∧ Later w w' ∧
    ((∃ x, lineR ws = .error x ∧ er = x ∧ x ≠ 0) ∨
     ∃ c, lineR ws = .ok c ∧ er = 0 ∧ kk = c.k ∧ src = c.src ∧ w'.ownsRow w.heap.size 3 1 (.slice p1 n1 c1) c.ns.length (c.ns.map (Value.int .i64)) ∧ w'.ownsRow w.heap.size 43 5 (.slice p2 n2 c2) c.al.length (argCells c.al))
theorem formIdx0 (w : World) : (Instr.index 91 (.agg formCells) (.int .i64 ((0 : Nat) : Int))).run Tryz.prog w = .ok (.agg #[.string ⟨#[99, 111, 109, 112]⟩, .int .i64 ((1 : Nat) : Int)]) w := by kernel_rfl
theorem formIdx1 (w : World) : (Instr.index 91 (.agg formCells) (.int .i64 ((1 : Nat) : Int))).run Tryz.prog w = .ok (.agg #[.string ⟨#[108, 111, 97, 100]⟩, .int .i64 ((2 : Nat) : Int)]) w := by kernel_rfl
theorem formIdx2 (w : World) : (Instr.index 91 (.agg formCells) (.int .i64 ((2 : Nat) : Int))).run Tryz.prog w = .ok (.agg #[.string ⟨#[109, 101, 109, 98, 114, 97, 110, 101]⟩, .int .i64 ((2 : Nat) : Int)]) w := by kernel_rfl
theorem formIdx3 (w : World) : (Instr.index 91 (.agg formCells) (.int .i64 ((3 : Nat) : Int))).run Tryz.prog w = .ok (.agg #[.string ⟨#[114, 101, 118, 111, 107, 101, 114]⟩, .int .i64 ((2 : Nat) : Int)]) w := by kernel_rfl
theorem formIdx4 (w : World) : (Instr.index 91 (.agg formCells) (.int .i64 ((4 : Nat) : Int))).run Tryz.prog w = .ok (.agg #[.string ⟨#[103, 105, 118, 101]⟩, .int .i64 ((2 : Nat) : Int)]) w := by kernel_rfl
theorem formIdx5 (w : World) : (Instr.index 91 (.agg formCells) (.int .i64 ((5 : Nat) : Int))).run Tryz.prog w = .ok (.agg #[.string ⟨#[99, 97, 108, 108]⟩, .int .i64 ((1 : Nat) : Int)]) w := by kernel_rfl
theorem formIdx6 (w : World) : (Instr.index 91 (.agg formCells) (.int .i64 ((6 : Nat) : Int))).run Tryz.prog w = .ok (.agg #[.string ⟨#[114, 101, 118, 111, 107, 101]⟩, .int .i64 ((1 : Nat) : Int)]) w := by kernel_rfl
theorem formIdx7 (w : World) : (Instr.index 91 (.agg formCells) (.int .i64 ((7 : Nat) : Int))).run Tryz.prog w = .ok (.agg #[.string ⟨#[102, 111, 114, 103, 101, 116]⟩, .int .i64 ((1 : Nat) : Int)]) w := by kernel_rfl
theorem formIdx8 (w : World) : (Instr.index 91 (.agg formCells) (.int .i64 ((8 : Nat) : Int))).run Tryz.prog w = .ok (.agg #[.string ⟨#[99, 111, 108, 108, 101, 99, 116]⟩, .int .i64 ((0 : Nat) : Int)]) w := by kernel_rfl
theorem formIdx (k : Nat) (W : ByteArray) (M : Nat) (h : formTab[k]? = some (W, M)) (w : World) :
    (Instr.index 91 (.agg formCells) (.int .i64 k)).run Tryz.prog w = .ok (.agg #[.string W, .int .i64 M]) w := by
  have hk : k < 9 := (List.getElem?_eq_some_iff.1 h).1
  match k, hk with
  | 0, _ => cases h; exact formIdx0 w
  | 1, _ => cases h; exact formIdx1 w
  | 2, _ => cases h; exact formIdx2 w
  | 3, _ => cases h; exact formIdx3 w
  | 4, _ => cases h; exact formIdx4 w
  | 5, _ => cases h; exact formIdx5 w
  | 6, _ => cases h; exact formIdx6 w
  | 7, _ => cases h; exact formIdx7 w
  | 8, _ => cases h; exact formIdx8 w
theorem findIdx_drop {α : Type} (l : List α) (p : α → Bool) (k : Nat) (x : α) (hx : l[k]? = some x) (hp : p x = false) : (l.drop k).findIdx? p = ((l.drop (k + 1)).findIdx? p).map (· + 1) := by
  rw [Lib.drop_at hx, List.findIdx?_cons, hp]
  first | done | rfl
end Go.Proofs.YtgioobgahlcdhaaGreatDoor
end

section
/- paling/script.line. -/
namespace Go.Proofs.YtgioobgahlcdhaaGreatDoor
open Go.RowKit Go.Shelf Go.Sort Go.Lib
theorem toList_eq (a b : ByteArray) : (a.toList == b.toList) = decide (a = b) := by
  rw [Lib.toList_data, Lib.toList_data]
  by_cases h : a = b
  · subst h; simp
  · simp only [h, decide_false, beq_eq_false_iff_ne, ne_eq]
    intro hh
    exact h (ByteArray.ext (Array.ext' hh))
theorem Four.put1 {w : World} {c : Nat} {x0 x1 x2 x3 : Value} (h : Four w c x0 x1 x2 x3) (y : Value) : Four (w.setCell ⟨c, 1, none⟩ y) c x0 y x2 x3 := by
  obtain ⟨⟨c0, c1, c2, c3⟩, f0, f1, f2, f3⟩ := h
  refine ⟨⟨?_, ?_, ?_, ?_⟩, ?_, ?_, ?_, ?_⟩
  · rw [World.cell?_setCell_other _ _ _ _ (by simp)]; exact c0
  · exact World.cell?_setCell_same _ _ _ c1
  · rw [World.cell?_setCell_other _ _ _ _ (by simp)]; exact c2
  · rw [World.cell?_setCell_other _ _ _ _ (by simp)]; exact c3
  · simpa using f0
  · simpa using f1
  · simpa using f2
  · simpa using f3
theorem own_mono {w : World} {B B' : Nat} {e : TypeId} {sz : Nat} {v : Value} {n : Nat} {xs : List Value} (h : w.ownsRow B e sz v n xs) (hB : B' ≤ B) : w.ownsRow B' e sz v n xs := by
  refine ⟨h.1, ?_⟩
  rcases h.2 with hn | ⟨g, cap, cur, hv, hg, hr⟩
  · exact .inl hn
  · exact .inr ⟨g, cap, cur, hv, Nat.le_trans hB hg, hr⟩
theorem own_put4 {w : World} {B b : Nat} {e : TypeId} {sz : Nat} {v : Value} {n : Nat} {xs : List Value} (h : w.ownsRow B e sz v n xs) (hb : b < B) (y0 y1 y2 y3 : Value) : (World.put4 w b y0 y1 y2 y3).ownsRow B e sz v n xs :=
  ownsRow_setCell_below (ownsRow_setCell_below (ownsRow_setCell_below (ownsRow_setCell_below h hb _) hb _) hb _) hb _
theorem num_none (s : ByteArray) (hs : s.size ≤ 1000000) (w : World) (hc : Calm w) (h : numS s = none) :
    Calls Tryz.prog 42 #[.string s] w fun e w' => ∃ n, e = .returned (.tuple #[.int .i64 n, .bool false]) ∧ Later w w' := by
  refine (number_any s hs w hc).mono ?_
  rintro e w' ⟨n, rfl, hl, _⟩
  rw [h]
  exact ⟨n, rfl, hl⟩
theorem num_some (s : ByteArray) (hs : s.size ≤ 1000000) (w : World) (hc : Calm w) (v : Int) (h : numS s = some v) :
    Calls Tryz.prog 42 #[.string s] w fun e w' => e = .returned (.tuple #[.int .i64 v, .bool true]) ∧ Later w w' := by
  refine (number_any s hs w hc).mono ?_
  rintro e w' ⟨n, rfl, hl, hb⟩
  rw [h, hb v h]
  exact ⟨rfl, hl⟩
theorem numsR_append (l : List ByteArray) (x : ByteArray) : numsR (l ++ [x]) = match numsR l, numS x with | some a, some b => some (a ++ [b]) | _, _ => none := by
  induction l with
  | nil => simp only [List.nil_append, numsR]; cases numS x <;> rfl
  | cons y l ih =>
    simp only [List.cons_append, numsR]
    cases numS y with
    | none => rfl
    | some b =>
      simp only [ih]
      cases numsR l <;> cases numS x <;> rfl
theorem numsR_none (l r : List ByteArray) (h : numsR l = none) : numsR (l ++ r) = none := by
  induction l with
  | nil => simp [numsR] at h
  | cons y l ih =>
    simp only [List.cons_append, numsR] at h ⊢
    cases hy : numS y with
    | none => rfl
    | some b =>
      rw [hy] at h
      simp only [Option.map_eq_none_iff] at h ⊢
      exact ih h
theorem numsR_length (l : List ByteArray) (a : List Int) (h : numsR l = some a) : a.length = l.length := by
  induction l generalizing a with
  | nil => simp [numsR] at h; subst h; rfl
  | cons y l ih =>
    simp only [numsR] at h
    cases hy : numS y with
    | none => rw [hy] at h; cases h
    | some b =>
      rw [hy] at h
      simp only [Option.map_eq_some_iff] at h
      obtain ⟨a', h', rfl⟩ := h
      simp [ih a' h']
theorem LinePost.err {ws : List ByteArray} {w w' : World} {x : Int} (h : lineR ws = .error x) (hx : x ≠ 0) (hl : Later w w') {kk : Int} {p1 p2 : Option Addr} {n1 c1 n2 c2 : Nat} {src : ByteArray} :
    LinePost ws w (.returned (.tuple #[.agg #[.int .i64 kk, .slice p1 n1 c1, .slice p2 n2 c2, .string src], .int .i64 x])) w' :=
  ⟨kk, p1, n1, c1, p2, n2, c2, src, x, rfl, hl, .inl ⟨x, h, rfl, hx⟩⟩
theorem formTab_le {k M : Nat} {W : ByteArray} (h : formTab[k]? = some (W, M)) : M ≤ 2 := by
  have : ∀ p ∈ formTab, p.2 ≤ 2 := by decide
  exact this _ (List.mem_of_getElem? h)
theorem lineR_some {ws : List ByteArray} {k M : Nat} {W : ByteArray} (hf : formTab.findIdx? (fun p => decide (some p.1 = ws.head?)) = some k) (hk : formTab[k]? = some (W, M)) : lineR ws =
    if ws.length < 1 + M then .error 1
    else match numsR ((ws.drop 1).take M) with
      | none => .error 1
      | some ns => match restR k (ws.drop (1 + M)) with
        | none => .error 1
        | some al => .ok ⟨k, ns, al, ⟨#[]⟩⟩ := by
  unfold lineR
  rw [hf]
  simp only [hk, Option.map_some, Option.getD_some]
  first | done | rfl

set_option maxHeartbeats 6000000 in
set_option maxRecDepth 1000000 in
theorem line_any (s : ByteArray) (hs : s.size ≤ 1000000) (w : World) (hc : Calm w) (hf : w.rangeAt 1 0 formCells.toList) (hne : wordsOf s ≠ []) (hlen : (wordsOf s).length ≤ 1000000) (hws : ∀ x ∈ wordsOf s, x.size ≤ 1000000) :
    Calls Tryz.prog 17 #[.string s] w (LinePost (wordsOf s) w) := by
  have HF : Aside (w.rangeAt 1 0 formCells.toList) := hf
  clear hf
  have hl0 : Aside (Later w (w.alloc (.cells #[.int .i64 0, .slice none 0 0, .slice none 0 0, .string ⟨#[]⟩] 38))) := (Below.refl _ w).alloc (Nat.le_refl _) _
  have hwl : (Lib.fieldsD s.data.toList).length = (wordsOf s).length := by simp [wordsOf]
  have hwm : ((Lib.fieldsD s.data.toList).map fun x => Value.string ⟨x.toArray⟩) = (wordsOf s).map Value.string := by simp [wordsOf]
  obtain ⟨ws, hwe⟩ : ∃ ws, wordsOf s = ws := ⟨_, rfl⟩
  have cF : ∀ w0, Calm w0 → Calls Tryz.prog 19 #[.string s] w0 fun e w' => ∃ A, e = .returned (.slice (some ⟨A, 0, none⟩) ws.length ws.length) ∧ Later w0 w' ∧ w0.heap.size ≤ A ∧
      ∀ (j : Nat) (x : ByteArray), ws[j]? = some x → w'.cell? ⟨A, j, none⟩ = some (.string x) := fun w0 hc0 => by
    refine (Tryz.strings_Fields_any s w0 (by omega) hc0.space hc0.white).mono ?_
    rintro e w' ⟨A, rfl, hA, hown, hbel⟩
    rw [hwl, hwm, hwe] at hown
    rw [hwl, hwe]
    refine ⟨A, rfl, hbel, hA, fun j x hj => ?_⟩
    have hjl : j < ws.length := (List.getElem?_eq_some_iff.1 hj).1
    exact (hown.cellAt j (by omega)).trans (by rw [List.getElem?_map, hj]; first | done | rfl)
  clear hwl hwm
  rw [hwe] at hne hlen hws ⊢
  clear hwe
  obtain ⟨w0, rest0, rfl⟩ := List.exists_cons_of_ne_nil hne
  obtain ⟨ws, hwe⟩ : ∃ ws, w0 :: rest0 = ws := ⟨_, rfl⟩
  have HW0 : Aside (ws.head? = some w0) := by rw [← hwe]; first | done | rfl
  have hl1 : 1 ≤ ws.length := by rw [← hwe]; simp
  have HWS : Aside (∀ x ∈ ws, x.size ≤ 1000000) := by rw [← hwe]; exact hws
  rw [hwe] at cF hlen ⊢
  have HW1 : Aside (ws[0]? = some w0) := by rw [← hwe]; first | done | rfl
  clear hwe hne hws
  obtain ⟨n, hn⟩ : ∃ n, ws.length = n := ⟨_, rfl⟩
  rw [hn] at cF hlen hl1
  have HN : Aside (ws.length = n) := hn
  clear hn
  obtain ⟨F, hFF⟩ : ∃ F, F = formCells := ⟨_, rfl⟩
  have HFF : Aside (F = formCells) := hFF
  clear hFF
  obtain ⟨i0, hi, hz0, hz1, hz2⟩ := info_parts (show (Tryz.prog.info? 3).map (fun i => (i.zero, i.size, i.bytes)) = some (some (.int .i64 0), 1, 8) by kernel_rfl)
  go_enter Tryz.func17, Tryz.ntmps17
  go_wp2_with (first
    | (go_at_call 19; refine (cF _ (hc.later hl0.out)).mono ?_; rintro e w1 ⟨A, rfl, hbel, hA, hcells⟩; have HC : Aside (∀ (j : Nat) (x : ByteArray), ws[j]? = some x → w1.cell? ⟨A, j, none⟩ = some (.string x)) := hcells; clear hcells; have HB : Aside (Later _ w1) := hbel; clear hbel)
    | (refine wpList_load_mid rfl 91 (.global 1) rfl 1 0 rfl F.toList _ (by rw [HFF.out]; exact range_later HF.out (Later.step hl0.out HB.out)) Tryz.underlying91 rfl (by rw [HFF.out]; kernel_rfl) ?_; simp only [Array.toArray_toList]))
  clear cF
  have hA1 : w.heap.size + 1 ≤ A := by simpa using hA
  clear hA
  have hw1 : w.heap.size + 1 ≤ w1.heap.size := by have := HB.out.size; simpa using this
  have HL1 : Aside (Later w w1) := Later.step hl0.out HB.out
  have hAw : A < w1.heap.size := cell_lt (HC.out 0 w0 HW1.out)
  have H41 : Aside (Four w1 w.heap.size (.int .i64 0) (.slice none 0 0) (.slice none 0 0) (.string ⟨#[]⟩)) := (Four.new w _ _ _ _ _).later HB.out (by simp)
  go_loopg [16] 9 (fun g i wr => ∃ k : Nat, k + g = 9 ∧ i = .int .i64 k ∧ Aside (Later w1 wr) ∧ Aside (formTab.findIdx? (fun p => decide (some p.1 = ws.head?)) = ((formTab.drop k).findIdx? (fun p => decide (some p.1 = ws.head?))).map (· + k)))
  case atStart => exact ⟨0, rfl, rfl, Below.refl _ _, by show _ = _; simp⟩
  case round =>
    obtain ⟨k, hk, rfl, HL, HI⟩ := hrel
    have hwr := HL.out.size
    by_cases hlt : k < 9
    · obtain ⟨⟨W, M⟩, hWM⟩ : ∃ p, formTab[k]? = some p := ⟨_, List.getElem?_eq_getElem hlt⟩
      have HWM : Aside (formTab[k]? = some (W, M)) := hWM
      have hM2 : M ≤ 2 := formTab_le hWM
      have hix : ∀ w, (Instr.index 91 (.agg F) (.int .i64 k)).run Tryz.prog w = .ok (.agg #[.string W, .int .i64 M]) w := fun w => by rw [HFF.out]; exact formIdx k W M hWM w
      clear hWM
      have cA : ∀ o, (wr.alloc o).cell? ⟨A, 0, none⟩ = some (.string w0) := fun o => (World.cell?_alloc_past _ _ _ (by omega)).trans (HL.out.cellOf (HC.out 0 w0 HW1.out))
      have cA' : wr.cell? ⟨A, 0, none⟩ = some (.string w0) := HL.out.cellOf (HC.out 0 w0 HW1.out)
      have hAr : A < wr.heap.size := by omega
      have hWr : w.heap.size < wr.heap.size := by omega
      have H4r : Aside (Four wr w.heap.size (.int .i64 0) (.slice none 0 0) (.slice none 0 0) (.string ⟨#[]⟩)) := H41.out.later HL.out (by omega)
      obtain ⟨⟨r0, r1, r2, r3⟩, q0, q1, q2, q3⟩ := id H4r.out
      by_cases hw : w0 = W
      · subst hw
        have hIK : formTab.findIdx? (fun p => decide (some p.1 = ws.head?)) = some k := by
          rw [HI.out, Lib.drop_at HWM.out, List.findIdx?_cons]
          simp [HW0.out]
        have HLR : Aside _ := lineR_some hIK HWM.out
        clear hIK HI
        rw [HN.out] at HLR
        by_cases hM : n < 1 + M
        · have HE : Aside (lineR ws = .error 1) := by show _ = _; rw [HLR.out, if_pos hM]
          clear HLR
          have H4r' : Aside (Four (((wr.alloc (.cells #[.string w0, .int .i64 M] 90)).alloc (.cells #[.int .i64 k, .slice none 0 0, .slice none 0 0, .string ⟨#[]⟩] 38)).drew) w.heap.size (.int .i64 0) (.slice none 0 0) (.slice none 0 0) (.string ⟨#[]⟩)) :=
            H4r.out.later ((((Below.refl _ wr).alloc (Nat.le_refl _) _).alloc (by simp) _).drew) hWr
          have hLw : Aside (Later w (((wr.alloc (.cells #[.string w0, .int .i64 M] 90)).alloc (.cells #[.int .i64 k, .slice none 0 0, .slice none 0 0, .string ⟨#[]⟩] 38)).drew)) :=
            (((((HL1.out.trans (HL.out.mono (by omega)))).alloc (by omega) _).alloc (by simp; omega) _).drew)
          go_wp2
          go_region
          go_wp2
          refine ret_cmd rfl rfl (range_later (H4r.out.range _ _ _ _) ((((Below.refl _ _).alloc (Nat.le_refl _) _).alloc (by simp) _).drew)) rfl rfl ?_
          exact LinePost.err HE.out (by decide) ((((below_put4 (HL1.out.trans (HL.out.mono (by omega))) (Nat.le_refl _) _ _ _ _).alloc (by simp [World.setCell]; omega) _).alloc (by simp [World.setCell]; omega) _).drew)
        · obtain ⟨W1, rfl⟩ : ∃ W, W = wr := ⟨_, rfl⟩
          go_wp2
          go_region
          go_wp2
          all_goals (
           go_loopg [41] M (fun g i wr => ∃ (j : Nat) (ns : List Int) (nv : Value), j + g = M ∧ i = .int .i64 j ∧ Aside (numsR ((ws.drop 1).take j) = some ns) ∧ Aside (Later W1 wr) ∧ Aside (W1.heap.size + 2 ≤ wr.heap.size) ∧
             Aside (wr.cell? ⟨W1.heap.size, 1, none⟩ = some (.int .i64 M)) ∧ Aside (Four wr (W1.heap.size + 1) (.int .i64 k) nv (.slice none 0 0) (.string ⟨#[]⟩)) ∧ Aside (wr.ownsRow (W1.heap.size + 2) 3 1 nv ns.length (ns.map (Value.int .i64))))
           case atStart =>
             refine ⟨0, [], _, by omega, rfl, rfl, ?_, ?_, ?_, ?_, World.ownsRow_nil _ _ _ _⟩
             · exact (((Below.refl _ W1).alloc (Nat.le_refl _) _).alloc (by simp) _).drew
             · show W1.heap.size + 2 ≤ ((W1.alloc _).alloc _).heap.size
               simp
             · show ((W1.alloc _).alloc _).cell? _ = _
               rw [World.cell?_alloc_past _ _ _ (by simp), World.cell?_alloc_at _ _ _ _ rfl]
               first | done | rfl
             · have := Four.new (W1.alloc (.cells #[.string w0, .int .i64 M] 90)) (.int .i64 k) (.slice none 0 0) (.slice none 0 0) (.string ⟨#[]⟩) 38
               rw [World.size_alloc] at this
               exact this
           case round =>
             obtain ⟨j, ns, nv, hjk, rfl, HJ, HX, HS, HFm, HF4, HOW⟩ := hrel
             have hsx := HS.out
             have hnl : ns.length = j := by
               have := numsR_length _ _ HJ.out
               simp at this
               have := HN.out
               omega
             obtain ⟨⟨d0, d1, d2, d3⟩, e0, e1, e2, e3⟩ := id HF4.out
             have hfm := HFm.out
             have HC4 : Aside (Four wr w.heap.size (.int .i64 0) (.slice none 0 0) (.slice none 0 0) (.string ⟨#[]⟩)) := H4r.out.later HX.out hWr
             have HLx : Aside (Later w wr) := (HL1.out.trans (HL.out.mono (by omega))).trans (HX.out.mono (by omega))
             obtain ⟨⟨z0, z1, z2, z3⟩, y0, y1, y2, y3⟩ := id HC4.out
             clear r0 r1 r2 r3 q0 q1 q2 q3 cA cA'
             by_cases hjm : j < M
             · first
                 | (exfalso; omega)
                 | (
                    obtain ⟨x, hx⟩ : ∃ x, ws[1 + j]? = some x := ⟨_, List.getElem?_eq_getElem (by have := HN.out; omega)⟩
                    have HX1 : Aside (ws[1 + j]? = some x) := hx
                    have hxs : x.size ≤ 1000000 := HWS.out x (List.mem_of_getElem? hx)
                    have hxc : wr.cell? ⟨A, 1 + j, none⟩ = some (.string x) := HX.out.cellOf (HL.out.cellOf (HC.out (1 + j) x hx))
                    have HTK : Aside ((ws.drop 1).take (j + 1) = (ws.drop 1).take j ++ [x]) := by
                      show _ = _
                      rw [List.take_add_one, List.getElem?_drop, hx]
                      first | done | rfl
                    clear hx
                    cases hnx : numS x with
                    | none =>
                      have HNX : Aside (numS x = none) := hnx
                      clear hnx
                      have HE : Aside (lineR ws = .error 1) := by
                        have hno : numsR ((ws.drop 1).take M) = none := by
                          rw [← List.take_append_drop (j + 1) ((ws.drop 1).take M), List.take_take, Nat.min_eq_left (by omega)]
                          apply numsR_none
                          rw [HTK.out, numsR_append, HJ.out, HNX.out]
                        show _ = _
                        rw [HLR.out, if_neg hM, hno]
                      go_wp2_with (go_at_call 42; refine (num_none x hxs _ (hc.later HLx.out) HNX.out).mono ?_; rintro e w2 ⟨nx, rfl, hb⟩; have HB2 : Aside (Later wr w2) := hb; clear hb; have h4' := HC4.out.later HB2.out (by omega); clear z0 z1 z2 z3 y0 y1 y2 y3; obtain ⟨⟨z0, z1, z2, z3⟩, y0, y1, y2, y3⟩ := id h4'; have H5 : Aside (Four _ _ _ _ _ _) := h4'; clear h4')
                      refine ret_cmd rfl rfl (H5.out.range _ _ _ _) rfl rfl ?_
                      exact LinePost.err HE.out (by decide) (below_put4 (Later.step HLx.out HB2.out) (Nat.le_refl _) _ _ _ _)
                    | some v =>
                      have HNX : Aside (numS x = some v) := hnx
                      clear hnx
                      have hcn : some (W1.heap.size + 1) ≠ nv.ownBlock := fun h => by have := own_block HOW.out _ h.symm; omega
                      have hfn : some W1.heap.size ≠ nv.ownBlock := fun h => by have := own_block HOW.out _ h.symm; omega
                      go_wp2_with (first
                        | (go_at_call 42; refine (num_some x hxs _ (hc.later HLx.out) v HNX.out).mono ?_; rintro e w2 ⟨rfl, hb⟩; have HB2 : Aside (Later wr w2) := hb; clear hb; have h4' := HF4.out.later HB2.out (by omega); clear d0 d1 d2 d3 e0 e1 e2 e3; obtain ⟨⟨d0, d1, d2, d3⟩, e0, e1, e2, e3⟩ := id h4'; have H5 : Aside (Four _ _ _ _ _ _) := h4'; clear h4'; have hcw2 : W1.heap.size + 1 < w2.heap.size := (by have := HB2.out.size; omega))
                        | (at_builtin; refine wpList_append_own _ rfl (.tmp 54) (.tmp 56) 35 rfl (W1.heap.size + 2) 3 i0 (.int .i64 0) 1 8 Tryz.underlying35 hi hz0 hz1 hz2 rfl (by decide) nv ns.length (ns.map (Value.int .i64)) (by simp [Act.eval, Act.put]) ((owned_later HOW.out HB2.out).alloc _) ⟨w2.heap.size, 0, none⟩ 1 1 [.int .i64 v] rfl rfl ?c1 ?c2 ?c3 ?c4 ?c5 ?_; rotate_right; intro v' w3 hown' hgrow _; have hf3 := Four.only (H5.out.only (World.grownBy_alloc w2 _ none) (by simp)) hgrow hcn; clear d0 d1 d2 d3 e0 e1 e2 e3; obtain ⟨⟨d0, d1, d2, d3⟩, e0, e1, e2, e3⟩ := id hf3; have H6 : Aside (Four _ _ _ _ _ _) := hf3; clear hf3; obtain ⟨vg, vc, rfl, -, -⟩ := own_form hown'; have N6 : Aside (World.ownsRow _ _ _ _ _ _ _) := hown'; clear hown'; have G6 : Aside (World.grownBy _ _ _) := hgrow; clear hgrow))
                      · go_roundg (gk - 1)
                        case measure => omega
                        case rel =>
                          have hz2 := HB2.out.size
                          have hz3 := G6.out.size
                          (try simp only [World.size_alloc] at hz3)
                          refine ⟨j + 1, ns ++ [v], _, by omega, by go_num, ?_, ?_, ?_, ?_, H6.out.put1 _, ?_⟩
                          · show _ = _
                            rw [HTK.out, numsR_append, HJ.out, HNX.out]
                          · refine Below.setCell (p := ⟨W1.heap.size + 1, 1, none⟩) ?_ (by simp) _
                            refine (((HX.out.trans (HB2.out.mono (by omega))).alloc (by omega) _).grown G6.out (by simp; omega) (fun q hq => by have := own_block HOW.out q hq; omega))
                          · show W1.heap.size + 2 ≤ (w3.setCell _ _).heap.size
                            simp only [World.setCell, Array.size_modify]
                            omega
                          · show _ = _
                            rw [World.cell?_setCell_other _ _ _ _ (by simp)]
                            exact G6.out.cell ((World.cell?_alloc_past _ _ _ (by omega)).trans (HB2.out.cellOf HFm.out)) hfn
                          · show World.ownsRow _ _ _ _ _ _ _
                            rw [List.length_append, List.map_append]
                            have hh := ownsRow_setCell_below (a := ⟨W1.heap.size + 1, 1, none⟩) N6.out (Nat.lt_succ_self _) (.slice (some ⟨vg, 0, none⟩) (j + 1) vc)
                            rw [hnl] at hh ⊢
                            exact hh
                      · intro j u hj
                        match j, hj with
                        | 0, hj => simp at hj; subst hj; simp [Addr.add]
                      · intro u hu; simp at hu; subst hu; rfl
                      · unfold maxLen; omega
                      · omega
                      · have := HB2.out.size; simp; omega)
             · have hjM : j = M := by omega
               subst hjM
               have hRC : ∀ (wo cap : Nat), (∀ (q : Nat) (x : ByteArray), (ws.drop (1 + j))[q]? = some x → wr.cell? ⟨A, wo + q, none⟩ = some (.string x)) →
                   Calls Tryz.prog 43 #[.pointer (some ⟨W1.heap.size + 1, 0, none⟩), .slice (some ⟨A, wo, none⟩) (n - (1 + j)) cap] wr (RestPost (W1.heap.size + 1) k nv ⟨#[]⟩ (ws.drop (1 + j)) wr) := fun wo cap hq => by
                 have h := rest_any w wr hc HLx.out (W1.heap.size + 1) (by omega) k nv ⟨#[]⟩ HF4.out A wo cap (ws.drop (1 + j)) hq (by omega) (fun x hx => HWS.out x (List.mem_of_mem_drop hx)) (by rw [List.length_drop, HN.out]; omega)
                 rw [List.length_drop, HN.out] at h
                 exact h
               have hq1 : ∀ (q : Nat) (x : ByteArray), (ws.drop (1 + j))[q]? = some x → wr.cell? ⟨A, 1 + j + q, none⟩ = some (.string x) := fun q x hx => by
                 rw [List.getElem?_drop] at hx
                 exact HX.out.cellOf (HL.out.cellOf (HC.out _ x hx))
               have hRC0 : n = 1 + j → Calls Tryz.prog 43 #[.pointer (some ⟨W1.heap.size + 1, 0, none⟩), .slice (some ⟨A, 0, none⟩) 0 0] wr (RestPost (W1.heap.size + 1) k nv ⟨#[]⟩ (ws.drop (1 + j)) wr) := fun hn1 => by
                 have h := hRC 0 0 (fun q x hx => by
                   have := (List.getElem?_eq_some_iff.1 hx).1
                   rw [List.length_drop, HN.out] at this
                   omega)
                 rw [show n - (1 + j) = 0 by omega] at h
                 exact h
               have HRC : Aside _ := hRC
               have HRC0 : Aside _ := hRC0
               have HQ1 : Aside _ := hq1
               clear hRC hq1 hRC0
               have hnvc : nv.ownBlock = none ∨ nv.ownBlock ≠ some (W1.heap.size + 1) := .inr (fun h => by have := own_block HOW.out _ h; omega)
               obtain ⟨p1, m1, q1, rfl⟩ := own_slice HOW.out
               go_wp2_with (go_at_call 43; (first | (have hne : ¬ n = 1 + j := (by omega); refine (HRC.out (1 + j) _ HQ1.out).mono ?_; clear hne) | (have hne : n = 1 + j := (by omega); refine (HRC0.out hne).mono ?_; clear hne)); rintro e w2 ⟨er, av, rfl, ho, hf, ⟨p2, m2, q2, rfl⟩, hor⟩; clear d0 d1 d2 d3 e0 e1 e2 e3 z0 z1 z2 z3 y0 y1 y2 y3; obtain ⟨⟨d0, d1, d2, d3⟩, e0, e1, e2, e3⟩ := id hf; have h4' := HC4.out.only ho (by simp; omega); obtain ⟨⟨z0, z1, z2, z3⟩, y0, y1, y2, y3⟩ := id h4'; have H5 : Aside (Four _ _ _ _ _ _) := h4'; clear h4'; have HOn : Aside (Only _ _ _) := ho; clear ho; have HOR : Aside (_ ∨ _) := hor; clear hor; have H6 : Aside (Four _ _ _ _ _ _) := hf; clear hf)
               all_goals (
                refine ret_cmd rfl rfl (H5.out.range _ _ _ _) rfl rfl ?_
                have hL2 : Later w w2 := Only.later HLx.out HOn.out (by omega)
                have hLP := fun (y0 y1 y2 y3 : Value) => below_put4 hL2 (Nat.le_refl w.heap.size) y0 y1 y2 y3
                rcases HOR.out with ⟨hr, rfl⟩ | ⟨al, hr, rfl, hown⟩
                · have hE : lineR ws = .error 1 := by
                    rw [HLR.out, if_neg hM, HJ.out]
                    simp only []
                    rw [hr]
                  exact LinePost.err hE (by decide) (hLP _ _ _ _)
                · have hE : lineR ws = .ok ⟨k, ns, al, ⟨#[]⟩⟩ := by
                    rw [HLR.out, if_neg hM, HJ.out]
                    simp only []
                    rw [hr]
                  refine ⟨_, _, _, _, _, _, _, _, 0, rfl, hLP _ _ _ _, .inr ⟨⟨k, ns, al, ⟨#[]⟩⟩, hE, rfl, rfl, rfl, ?_, ?_⟩⟩
                  · exact own_mono (own_put4 (HOW.out.kept HOn.out hnvc) (by omega) _ _ _ _) (by omega)
                  · exact own_mono (own_put4 hown (by omega) _ _ _ _) (by omega)))
      · have htl : (w0.toList == W.toList) = false := by rw [toList_eq]; simp [hw]
        have HI2 : Aside (formTab.findIdx? (fun p => decide (some p.1 = ws.head?)) = ((formTab.drop (k + 1)).findIdx? (fun p => decide (some p.1 = ws.head?))).map (· + (k + 1))) := by
          show _ = _
          rw [HI.out, findIdx_drop _ _ k _ HWM.out (by rw [HW0.out]; simp only [Option.some.injEq, decide_eq_false_iff_not]; exact fun h => hw h.symm), Option.map_map]
          congr 1
          funext x
          simp only [Function.comp]
          omega
        clear hw HI
        go_wp2
        go_region
        go_wp2
        go_roundg (gk - 1)
        case measure => omega
        case rel => exact ⟨k + 1, by omega, by go_num, ((HL.out.alloc (by omega) _).drew), HI2⟩
    · have hk9 : k = 9 := by omega
      subst hk9
      have hWr : w.heap.size < wr.heap.size := by omega
      have H4r : Aside (Four wr w.heap.size (.int .i64 0) (.slice none 0 0) (.slice none 0 0) (.string ⟨#[]⟩)) := H41.out.later HL.out (by omega)
      obtain ⟨⟨r0, r1, r2, r3⟩, q0, q1, q2, q3⟩ := id H4r.out
      have HE : Aside (lineR ws = .error 18) := by
        show _ = _
        unfold lineR
        rw [HI.out]
        first | done | rfl
      go_wp2
      refine ret_cmd rfl rfl (H4r.out.range _ _ _ _) rfl rfl ?_
      exact LinePost.err HE.out (by decide) (below_put4 (HL1.out.trans (HL.out.mono (by omega))) (Nat.le_refl _) _ _ _ _)
end Go.Proofs.YtgioobgahlcdhaaGreatDoor
end

section
/- strings.Fields against strings.TrimSpace; the words' number and lengths. -/
namespace Go.Proofs.YtgioobgahlcdhaaGreatDoor
open Go.RowKit Go.Shelf Go.Sort Go.Lib

theorem fieldsGoD_ne : ∀ (f : Nat) (cur l : List UInt8), cur ≠ [] → Lib.fieldsGoD f cur l ≠ []
  | 0, cur, l, h => by simp [Lib.fieldsGoD, h]
  | f + 1, cur, l, h => by
    unfold Lib.fieldsGoD
    split
    · simp [h]
    · split
      · simp [h]
      · exact fieldsGoD_ne f _ _ (by simp [h])
theorem fieldsGoD_count : ∀ (f : Nat) (cur l : List UInt8), (Lib.fieldsGoD f cur l).length ≤ f + 1
  | 0, cur, l => by unfold Lib.fieldsGoD; split <;> simp
  | f + 1, cur, l => by
    unfold Lib.fieldsGoD
    split
    · split <;> simp
    · split
      · have := fieldsGoD_count f [] (l.drop (Lib.decodeL l).2)
        rw [List.length_append]
        split <;> simp <;> omega
      · have := fieldsGoD_count f (cur ++ l.take (Lib.decodeL l).2) (l.drop (Lib.decodeL l).2)
        omega
theorem fieldsGoD_size : ∀ (f : Nat) (cur l : List UInt8), ∀ x ∈ Lib.fieldsGoD f cur l, x.length ≤ cur.length + l.length
  | 0, cur, l, x, hx => by
    unfold Lib.fieldsGoD at hx
    split at hx
    · simp at hx
    · simp at hx; subst hx; omega
  | f + 1, cur, l, x, hx => by
    unfold Lib.fieldsGoD at hx
    split at hx
    · split at hx
      · simp at hx
      · simp at hx; subst hx; omega
    · split at hx
      · rw [List.mem_append] at hx
        rcases hx with hx | hx
        · split at hx
          · simp at hx
          · simp at hx; subst hx; omega
        · have := fieldsGoD_size f _ _ x hx
          simp at this
          omega
      · have := fieldsGoD_size f _ _ x hx
        simp only [List.length_append, List.length_take, List.length_drop] at this
        omega
theorem trimLeftD_nil (g : Nat) : Lib.trimLeftD g [] = [] := by cases g <;> simp [Lib.trimLeftD]
theorem trimRightD_nil (g : Nat) : Lib.trimRightD g [] = [] := by cases g <;> simp [Lib.trimRightD]
theorem fieldsGoD_blank (hw : ∀ l : List UInt8, l ≠ [] → 1 ≤ (Lib.decodeL l).2) : ∀ (f : Nat) (l : List UInt8), l.length < f → Lib.fieldsGoD f [] l = [] → ∀ g, l.length ≤ g → Lib.trimLeftD g l = []
  | 0, l, h, _, _, _ => by omega
  | f + 1, l, h, hf, g, hg => by
    by_cases hl : l = []
    · subst hl; exact trimLeftD_nil g
    · unfold Lib.fieldsGoD at hf
      rw [if_neg hl] at hf
      have h1 := hw l hl
      have h2 : 0 < l.length := List.length_pos_iff.2 hl
      obtain ⟨g', rfl⟩ : ∃ g', g = g' + 1 := ⟨g - 1, by omega⟩
      unfold Lib.trimLeftD
      rw [if_neg hl]
      split at hf
      · rename_i hsp
        rw [if_pos hsp]
        simp only [if_true, List.nil_append] at hf
        exact fieldsGoD_blank hw f _ (by rw [List.length_drop]; omega) hf g' (by rw [List.length_drop]; omega)
      · exact absurd hf (fieldsGoD_ne f _ _ (by
          intro hh
          have h3 := congrArg List.length hh
          rw [List.nil_append, List.length_take, List.length_nil] at h3
          omega))
theorem words_ne (hw : ∀ l : List UInt8, l ≠ [] → 1 ≤ (Lib.decodeL l).2) (s : ByteArray) (h : Lib.trimSpaceD s.data.toList ≠ []) : wordsOf s ≠ [] := by
  intro hh
  have hf : Lib.fieldsD s.data.toList = [] := by simpa [wordsOf] using hh
  apply h
  unfold Lib.trimSpaceD
  rw [fieldsGoD_blank hw _ _ (Nat.lt_succ_self _) hf _ (Nat.le_refl _), trimRightD_nil]
theorem words_count (s : ByteArray) : (wordsOf s).length ≤ s.size + 2 := by
  have := fieldsGoD_count (s.data.toList.length + 1) [] s.data.toList
  rw [Lib.size_eq]
  simpa [wordsOf, Lib.fieldsD] using this
theorem words_size (s : ByteArray) : ∀ x ∈ wordsOf s, x.size ≤ s.size := by
  intro x hx
  simp only [wordsOf, List.mem_map] at hx
  obtain ⟨y, hy, rfl⟩ := hx
  have := fieldsGoD_size _ _ _ y hy
  rw [Lib.size_eq, Lib.size_eq]
  simpa using this
theorem line_words (s : ByteArray) (h : Lib.trimSpaceD s.data.toList ≠ []) : wordsOf s ≠ [] := words_ne (fun l _ => Lib.decodeL_width l) s h
end Go.Proofs.YtgioobgahlcdhaaGreatDoor
end

section
/- paling/script.Parse: what it answers. -/
namespace Go.Proofs.YtgioobgahlcdhaaGreatDoor
open Go.RowKit Go.Shelf Go.Sort Go.Lib

def dotS : ByteArray := ⟨#[46]⟩
/-- How many lines ahead of one that is a point alone. -/
def dotN (ls : List ByteArray) : Nat := (ls.takeWhile fun x => !(x.toList == [46])).length
def joinS (ls : List ByteArray) : ByteArray := ⟨(Lib.join (ls.map (·.data.toList)) [10]).toArray⟩
def blankS (x : ByteArray) : Bool := (Lib.trimSpaceD x.data.toList).isEmpty || decide ((Lib.trimSpaceD x.data.toList).head? = some 59)
def parseGo (ls : List ByteArray) : Nat → Nat → List Cmd → List Cmd × Int × Int
  | 0, _, out => (out, 0, 0)
  | g + 1, i, out =>
    match ls[i]? with
    | none => (out, 0, 0)
    | some x =>
      if blankS x then parseGo ls g (i + 1) out
      else if out.length = 200 then ([], i + 1, 2)
      else match lineR (wordsOf x) with
        | .error e => ([], i + 1, e)
        | .ok c =>
          if c.k = 1 then
            if ls.length ≤ i + 1 + dotN (ls.drop (i + 1)) then ([], i + 1, 1)
            else parseGo ls g (i + 1 + dotN (ls.drop (i + 1)) + 1) (out ++ [{ c with src := joinS ((ls.drop (i + 1)).take (dotN (ls.drop (i + 1)))) }])
          else parseGo ls g (i + 1) (out ++ [c])
def linesOf (s : ByteArray) : List ByteArray := Lib.splitB ⟨#[10]⟩ 0 (Lib.countB s ⟨#[10]⟩) s
def parseR (s : ByteArray) : List Cmd × Int × Int := if 65536 < s.size then ([], 0, 2) else parseGo (linesOf s) (linesOf s).length 0 []

/-- A command's four cells, and what they lead to. -/
def CmdCells (w : World) (B : Nat) (c : Cmd) (cs : List Value) : Prop :=
  ∃ p1 n1 c1 p2 n2 c2, cs = [.int .i64 c.k, .slice p1 n1 c1, .slice p2 n2 c2, .string c.src] ∧
    w.ownsRow B 3 1 (.slice p1 n1 c1) c.ns.length (c.ns.map (Value.int .i64)) ∧ w.ownsRow B 43 5 (.slice p2 n2 c2) c.al.length (argCells c.al)
def Cmds (w : World) (B : Nat) : List Cmd → List Value → Prop
  | [], xs => xs = []
  | c :: r, xs => ∃ h t, xs = h ++ t ∧ CmdCells w B c h ∧ Cmds w B r t
theorem Cmds.snoc {w : World} {B : Nat} {c : Cmd} {h : List Value} (hc : CmdCells w B c h) : ∀ {l : List Cmd} {xs : List Value}, Cmds w B l xs → Cmds w B (l ++ [c]) (xs ++ h)
  | [], xs, hl => by
    have : xs = [] := hl
    subst this
    exact ⟨h, [], by simp, hc, rfl⟩
  | d :: r, xs, ⟨a, t, hx, hd, ht⟩ => ⟨a, t ++ h, by rw [hx, List.append_assoc], hd, Cmds.snoc hc ht⟩
theorem CmdCells.kept {w w' : World} {B : Nat} {c : Cmd} {cs : List Value} (h : CmdCells w B c cs)
    (hk : ∀ {e : TypeId} {sz n : Nat} {v : Value} {xs : List Value}, (e = 3 ∨ e = 43) → w.ownsRow B e sz v n xs → w'.ownsRow B e sz v n xs) : CmdCells w' B c cs := by
  obtain ⟨p1, n1, c1, p2, n2, c2, he, h1, h2⟩ := h
  exact ⟨p1, n1, c1, p2, n2, c2, he, hk (.inl rfl) h1, hk (.inr rfl) h2⟩
theorem Cmds.kept {w w' : World} {B : Nat} (hk : ∀ {e : TypeId} {sz n : Nat} {v : Value} {xs : List Value}, (e = 3 ∨ e = 43) → w.ownsRow B e sz v n xs → w'.ownsRow B e sz v n xs) :
    ∀ {l : List Cmd} {xs : List Value}, Cmds w B l xs → Cmds w' B l xs
  | [], _, h => h
  | _ :: _, _, ⟨a, t, hx, hd, ht⟩ => ⟨a, t, hx, hd.kept hk, Cmds.kept hk ht⟩
theorem Cmds.later {w w' : World} {B : Nat} {l : List Cmd} {xs : List Value} (h : Cmds w B l xs) (k : Later w w') : Cmds w' B l xs := h.kept (fun _ ho => owned_later ho k)
theorem CmdCells.later {w w' : World} {B : Nat} {c : Cmd} {xs : List Value} (h : CmdCells w B c xs) (k : Later w w') : CmdCells w' B c xs := h.kept (fun _ ho => owned_later ho k)
/-- Rows of another element type lie in other blocks. -/
theorem own_apart {w : World} {B1 B2 : Nat} {e1 e2 : TypeId} {s1 s2 n1 n2 : Nat} {v1 v2 : Value} {x1 x2 : List Value} (h1 : w.ownsRow B1 e1 s1 v1 n1 x1) (h2 : w.ownsRow B2 e2 s2 v2 n2 x2) (hne : e1 ≠ e2) :
    v1.ownBlock = none ∨ v1.ownBlock ≠ v2.ownBlock := by
  rcases h1.2 with ⟨hv, _⟩ | ⟨g1, cp1, cur1, hv1, hg1, hh1, _⟩
  · rw [hv]; exact .inl rfl
  · rcases h2.2 with ⟨hv, _⟩ | ⟨g2, cp2, cur2, hv2, hg2, hh2, _⟩
    · rw [hv1, hv]; exact .inr (by simp [Value.ownBlock])
    · rw [hv1, hv2]
      refine .inr (fun hh => ?_)
      simp only [Value.ownBlock, Option.some.injEq] at hh
      subst hh
      rw [hh1] at hh2
      simp at hh2
      exact hne hh2.2
theorem Cmds.grown {w w' : World} {B : Nat} {l : List Cmd} {xs : List Value} (h : Cmds w B l xs) {B2 s2 n2 : Nat} {v2 : Value} {x2 : List Value} (hv : w.ownsRow B2 38 s2 v2 n2 x2) (hg : w.grownBy w' v2.ownBlock) : Cmds w' B l xs :=
  h.kept (fun he ho => ho.kept hg (own_apart ho hv (by rcases he with rfl | rfl <;> decide)))
theorem CmdCells.grown {w w' : World} {B : Nat} {c : Cmd} {xs : List Value} (h : CmdCells w B c xs) {B2 s2 n2 : Nat} {v2 : Value} {x2 : List Value} (hv : w.ownsRow B2 38 s2 v2 n2 x2) (hg : w.grownBy w' v2.ownBlock) : CmdCells w' B c xs :=
  h.kept (fun he ho => ho.kept hg (own_apart ho hv (by rcases he with rfl | rfl <;> decide)))
theorem own_len {w : World} {B : Nat} {e : TypeId} {sz : Nat} {v : Value} {n : Nat} {xs : List Value} (h : w.ownsRow B e sz v n xs) : ∃ p c, v = .slice p n c := by
  rcases h.2 with ⟨hv, hn⟩ | ⟨g, cap, cur, hv, _⟩
  · subst hn; exact ⟨_, _, hv⟩
  · exact ⟨_, _, hv⟩
end Go.Proofs.YtgioobgahlcdhaaGreatDoor
end

section
/- The reference's line: parts. -/
namespace Go.Proofs.YtgioobgahlcdhaaGreatDoor
open Go.RowKit Go.Shelf Go.Sort Go.Lib

/-- The reference's own table of kinds, wherever it lies. -/
def Forms21 (w : World) : Prop := ∃ R o c, w.cell? ⟨2, 0, none⟩ = some (.slice (some ⟨R, o, none⟩) 9 c) ∧
  ∀ (k : Nat) (W : ByteArray) (M : Nat), formTab[k]? = some (W, M) → w.cell? ⟨R, o + k * 2, none⟩ = some (.string W) ∧ w.cell? ⟨R, o + k * 2 + 1, none⟩ = some (.int .i64 M)
theorem Forms21.later {w w' : World} (h : Forms21 w) (k : Later w w') : Forms21 w' := by
  obtain ⟨R, o, c, h1, h2⟩ := h
  exact ⟨R, o, c, k.cellOf h1, fun q W M hq => ⟨k.cellOf (h2 q W M hq).1, k.cellOf (h2 q W M hq).2⟩⟩

theorem restR_nil {k : Int} (h4 : k ≠ 4) (h5 : k ≠ 5) : restR k [] = some [] := by
  unfold restR restBad
  rw [if_neg h4, if_neg h5]
  simp [argsR, h5]
theorem restR_bad {k : Int} {ws : List ByteArray} (h : restBad k ws.length = true) : restR k ws = none := by
  unfold restR
  rw [if_pos h]
theorem restR_args {k : Int} {ws : List ByteArray} (h : restBad k ws.length = false) : restR k ws = match argsR ws with | none => none | some al => if k = 5 ∧ (al.head?.map Arg.is) = some false then none else some al := by
  unfold restR
  rw [if_neg (by simp [h])]
  first | done | rfl
theorem restR_no {k : Int} {ws : List ByteArray} (h : argsR ws = none) : restR k ws = none := by
  unfold restR
  rw [h]
  split <;> rfl
theorem restR_head {ws : List ByteArray} {al : List Arg} (h : argsR ws = some al) (ha : (al.head?.map Arg.is) = some false) : restR 5 ws = none := by
  unfold restR
  rw [h]
  split
  · rfl
  · exact if_pos ⟨rfl, ha⟩
theorem argsR_first {x : ByteArray} {r : List ByteArray} {a : Arg} (h : argR x = some a) (hf : a.is = false) : restR 5 (x :: r) = none := by
  cases hr : argsR r with
  | none => exact restR_no (by simp only [argsR, h, hr]; first | done | rfl)
  | some al => exact restR_head (al := a :: al) (by simp only [argsR, h, hr]; first | done | rfl) (by simp [hf])
end Go.Proofs.YtgioobgahlcdhaaGreatDoor
end
