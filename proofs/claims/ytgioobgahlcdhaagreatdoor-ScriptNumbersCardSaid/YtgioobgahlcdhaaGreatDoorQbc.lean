/- Parts of the proof: Ws, Wt, Wu, Wv, Ww, Vn. -/
import Derived.Test.YtgioobgahlcdhaaGreatDoorQba
import Derived.Test.YtgioobgahlcdhaaGreatDoorQbb

set_option linter.unusedVariables false
set_option linter.unusedSimpArgs false

section
/- slices.Equal on two rows of the same numbers, of the same values. -/
namespace Go.Proofs.YtgioobgahlcdhaaGreatDoor
open Go.RowKit Go.Shelf Go.Sort Go.Lib

theorem own_lead {w : World} {B : Nat} {e : TypeId} {sz : Nat} {p : Option Addr} {m c n : Nat} {xs : List Value} (h : w.ownsRow B e sz (.slice p m c) n xs) (hn : 0 < n) :
    ∃ g, p = some ⟨g, 0, none⟩ ∧ m = n ∧ ∀ (j : Nat) (v : Value), xs[j]? = some v → w.cell? ⟨g, j, none⟩ = some v := by
  obtain ⟨q, rfl⟩ : ∃ q, n = q + 1 := ⟨n - 1, by omega⟩
  obtain ⟨g, cap, he, _, _⟩ := own_form h
  cases he
  refine ⟨g, rfl, rfl, fun j v hj => ?_⟩
  have hjl : j < xs.length := (List.getElem?_eq_some_iff.1 hj).1
  exact (h.cellAt j (by rw [← h.1]; exact hjl)).trans hj

set_option maxHeartbeats 2000000 in
set_option maxRecDepth 1000000 in
theorem equalInts (w : World) (p1 p2 : Option Addr) (m1 c1 m2 c2 B1 B2 : Nat) (ns : List Int) (h1 : w.ownsRow B1 3 1 (.slice p1 m1 c1) ns.length (ns.map (Value.int .i64))) (h2 : w.ownsRow B2 3 1 (.slice p2 m2 c2) ns.length (ns.map (Value.int .i64))) (hl : ns.length ≤ 1000000) :
    Calls Tryz.prog 24 #[.slice p1 m1 c1, .slice p2 m2 c2] w fun e w' => e = .returned (.bool true) ∧ Later w w' := by
  by_cases hz : 0 < ns.length
  · obtain ⟨g1, rfl, rfl, k1⟩ := own_lead h1 hz
    obtain ⟨g2, rfl, rfl, k2⟩ := own_lead h2 hz
    have K1 : Aside (∀ (j : Nat) (v : Value), (ns.map (Value.int .i64))[j]? = some v → w.cell? ⟨g1, j, none⟩ = some v) := k1
    have K2 : Aside (∀ (j : Nat) (v : Value), (ns.map (Value.int .i64))[j]? = some v → w.cell? ⟨g2, j, none⟩ = some v) := k2
    clear h1 h2 k1 k2
    obtain ⟨n, hn⟩ : ∃ n, ns.length = n := ⟨_, rfl⟩
    rw [hn] at hl hz ⊢
    have HN : Aside (ns.length = n) := hn
    clear hn
    go_enter Tryz.func24, Tryz.ntmps24
    go_wp2
    go_loopg [13] n (fun g i wr => ∃ k : Nat, k + g = n ∧ i = .int .i64 k ∧ Aside (Later w wr))
    case atStart => exact ⟨0, by omega, rfl, Below.refl _ _⟩
    case round =>
      obtain ⟨k, hk, rfl, HL⟩ := hrel
      by_cases hlt : k < n
      · obtain ⟨x, hx⟩ : ∃ x, ns[k]? = some x := ⟨_, List.getElem?_eq_getElem (by have := HN.out; omega)⟩
        have d1 : wr.cell? ⟨g1, k, none⟩ = some (.int .i64 x) := HL.out.cellOf (K1.out k _ (by rw [List.getElem?_map, hx]; first | done | rfl))
        have d2 : wr.cell? ⟨g2, k, none⟩ = some (.int .i64 x) := HL.out.cellOf (K2.out k _ (by rw [List.getElem?_map, hx]; first | done | rfl))
        clear hx
        go_wp2
        go_region
        all_goals go_wp2
        all_goals go_roundg (gk - 1)
        all_goals first
          | omega
          | exact ⟨k + 1, by omega, by go_num, HL.out.drew⟩
      · go_wp2
        go_ret
        exact ⟨rfl, HL.out⟩
  · obtain ⟨q1, d1, e1⟩ := own_len h1
    obtain ⟨q2, d2, e2⟩ := own_len h2
    cases e1
    cases e2
    have hz0 : ns.length = 0 := by omega
    rw [hz0]
    clear h1 h2 hz hz0 hl
    go_enter Tryz.func24, Tryz.ntmps24
    go_wp2
    refine wp_loop_rounds 1 ?_
    rw [rounds_succ]
    go_wp2
    go_ret
    exact ⟨rfl, Below.refl _ _⟩
end Go.Proofs.YtgioobgahlcdhaaGreatDoor
end

section
/- slices.Equal on two rows of the same values. -/
namespace Go.Proofs.YtgioobgahlcdhaaGreatDoor
open Go.RowKit Go.Shelf Go.Sort Go.Lib

theorem argCells_at {al : List Arg} {k : Nat} {x : Arg} (h : al[k]? = some x) : (argCells al)[k * 5]? = some (.int .u8 x.k) ∧ (argCells al)[k * 5 + 1]? = some (.int .i64 x.n) ∧ (argCells al)[k * 5 + 2]? = some (.string x.s) ∧ (argCells al)[k * 5 + 3]? = some (.int .i64 x.h) ∧ (argCells al)[k * 5 + 4]? = some (.bool x.is) := by
  induction al generalizing k with
  | nil => simp at h
  | cons y l ih =>
    have hc : argCells (y :: l) = y.cells ++ argCells l := rfl
    rw [hc]
    cases k with
    | zero =>
      simp at h
      subst h
      exact ⟨rfl, rfl, rfl, rfl, rfl⟩
    | succ k =>
      have h' := ih (k := k) (by simpa using h)
      have e : ∀ q, (y.cells ++ argCells l)[(k + 1) * 5 + q]? = (argCells l)[k * 5 + q]? := fun q => by
        rw [List.getElem?_append_right (by show y.cells.length ≤ _; simp [Arg.cells]; omega)]
        congr 1
        show (k + 1) * 5 + q - 5 = _
        omega
      have e0 := e 0
      simp only [Nat.add_zero] at e0
      rw [e0, e 1, e 2, e 3, e 4]
      exact h'

set_option maxHeartbeats 2000000 in
set_option maxRecDepth 1000000 in
theorem equalArgs (w : World) (p1 p2 : Option Addr) (m1 c1 m2 c2 B1 B2 : Nat) (al : List Arg) (h1 : w.ownsRow B1 43 5 (.slice p1 m1 c1) al.length (argCells al)) (h2 : w.ownsRow B2 43 5 (.slice p2 m2 c2) al.length (argCells al)) (hl : al.length ≤ 1000000) :
    Calls Tryz.prog 25 #[.slice p1 m1 c1, .slice p2 m2 c2] w fun e w' => e = .returned (.bool true) ∧ Later w w' := by
  by_cases hz : 0 < al.length
  · obtain ⟨g1, rfl, rfl, k1⟩ := own_lead h1 hz
    obtain ⟨g2, rfl, rfl, k2⟩ := own_lead h2 hz
    have K1 : Aside (∀ (j : Nat) (v : Value), (argCells al)[j]? = some v → w.cell? ⟨g1, j, none⟩ = some v) := k1
    have K2 : Aside (∀ (j : Nat) (v : Value), (argCells al)[j]? = some v → w.cell? ⟨g2, j, none⟩ = some v) := k2
    clear h1 h2 k1 k2
    obtain ⟨n, hn⟩ : ∃ n, al.length = n := ⟨_, rfl⟩
    rw [hn] at hl hz ⊢
    have HN : Aside (al.length = n) := hn
    clear hn
    go_enter Tryz.func25, Tryz.ntmps25
    go_wp2
    go_loopg [13] n (fun g i wr => ∃ k : Nat, k + g = n ∧ i = .int .i64 k ∧ Aside (Later w wr))
    case atStart => exact ⟨0, by omega, rfl, Below.refl _ _⟩
    case round =>
      obtain ⟨k, hk, rfl, HL⟩ := hrel
      by_cases hlt : k < n
      · obtain ⟨x, hx⟩ : ∃ x, al[k]? = some x := ⟨_, List.getElem?_eq_getElem (by have := HN.out; omega)⟩
        obtain ⟨a0, a1, a2, a3, a4⟩ := argCells_at hx
        have d0 : wr.cell? ⟨g1, k * 5, none⟩ = some (.int .u8 x.k) := HL.out.cellOf (K1.out _ _ a0)
        have d1 : wr.cell? ⟨g1, k * 5 + 1, none⟩ = some (.int .i64 x.n) := HL.out.cellOf (K1.out _ _ a1)
        have d2 : wr.cell? ⟨g1, k * 5 + 2, none⟩ = some (.string x.s) := HL.out.cellOf (K1.out _ _ a2)
        have d3 : wr.cell? ⟨g1, k * 5 + 3, none⟩ = some (.int .i64 x.h) := HL.out.cellOf (K1.out _ _ a3)
        have d4 : wr.cell? ⟨g1, k * 5 + 4, none⟩ = some (.bool x.is) := HL.out.cellOf (K1.out _ _ a4)
        have f0 : wr.cell? ⟨g2, k * 5, none⟩ = some (.int .u8 x.k) := HL.out.cellOf (K2.out _ _ a0)
        have f1 : wr.cell? ⟨g2, k * 5 + 1, none⟩ = some (.int .i64 x.n) := HL.out.cellOf (K2.out _ _ a1)
        have f2 : wr.cell? ⟨g2, k * 5 + 2, none⟩ = some (.string x.s) := HL.out.cellOf (K2.out _ _ a2)
        have f3 : wr.cell? ⟨g2, k * 5 + 3, none⟩ = some (.int .i64 x.h) := HL.out.cellOf (K2.out _ _ a3)
        have f4 : wr.cell? ⟨g2, k * 5 + 4, none⟩ = some (.bool x.is) := HL.out.cellOf (K2.out _ _ a4)
        clear hx a0 a1 a2 a3 a4
        go_wp2
        go_region
        all_goals go_wp2
        all_goals go_roundg (gk - 1)
        all_goals first
          | omega
          | exact ⟨k + 1, by omega, by go_num, HL.out.drew⟩
      · go_wp2
        go_ret
        exact ⟨rfl, HL.out⟩
  · obtain ⟨q1, d1, e1⟩ := own_len h1
    obtain ⟨q2, d2, e2⟩ := own_len h2
    cases e1
    cases e2
    have hz0 : al.length = 0 := by omega
    rw [hz0]
    clear h1 h2 hz hz0 hl
    go_enter Tryz.func25, Tryz.ntmps25
    go_wp2
    refine wp_loop_rounds 1 ?_
    rw [rounds_succ]
    go_wp2
    go_ret
    exact ⟨rfl, Below.refl _ _⟩
end Go.Proofs.YtgioobgahlcdhaaGreatDoor
end

section
/- palinglaw21.Same's closure on two like commands. -/
namespace Go.Proofs.YtgioobgahlcdhaaGreatDoor
open Go.RowKit Go.Shelf Go.Sort Go.Lib

set_option maxHeartbeats 2000000 in
set_option maxRecDepth 1000000 in
theorem same1 (w : World) (k : Int) (src : ByteArray) (ns : List Int) (al : List Arg) (p1 p2 q1 q2 : Option Addr) (m1 c1 m2 c2 n1 d1 n2 d2 B1 B2 : Nat)
    (h1 : w.ownsRow B1 3 1 (.slice p1 m1 c1) ns.length (ns.map (Value.int .i64))) (h2 : w.ownsRow B2 3 1 (.slice p2 m2 c2) ns.length (ns.map (Value.int .i64)))
    (h3 : w.ownsRow B1 43 5 (.slice q1 n1 d1) al.length (argCells al)) (h4 : w.ownsRow B2 43 5 (.slice q2 n2 d2) al.length (argCells al)) (hl1 : ns.length ≤ 1000000) (hl2 : al.length ≤ 1000000) :
    Calls Tryz.prog 23 #[.agg #[.int .i64 k, .slice p1 m1 c1, .slice q1 n1 d1, .string src], .agg #[.int .i64 k, .slice p2 m2 c2, .slice q2 n2 d2, .string src]] w fun e w' => e = .returned (.bool true) ∧ Later w w' := by
  have H1 : Aside _ := h1
  have H2 : Aside _ := h2
  have H3 : Aside _ := h3
  have H4 : Aside _ := h4
  clear h1 h2 h3 h4
  have B1' : Later w ((w.alloc (.cells #[.int .i64 k, .slice p1 m1 c1, .slice q1 n1 d1, .string src] 38)).alloc (.cells #[.int .i64 k, .slice p2 m2 c2, .slice q2 n2 d2, .string src] 38)) := ((Below.refl _ w).alloc (Nat.le_refl _) _).alloc (by simp) _
  have HB1 : Aside _ := B1'
  have x1 : Four ((w.alloc (.cells #[.int .i64 k, .slice p1 m1 c1, .slice q1 n1 d1, .string src] 38)).alloc (.cells #[.int .i64 k, .slice p2 m2 c2, .slice q2 n2 d2, .string src] 38)) w.heap.size (.int .i64 k) (.slice p1 m1 c1) (.slice q1 n1 d1) (.string src) :=
    (Four.new w _ _ _ _ _).later ((Below.refl _ _).alloc (Nat.le_refl _) _) (by simp)
  have x2 : Four ((w.alloc (.cells #[.int .i64 k, .slice p1 m1 c1, .slice q1 n1 d1, .string src] 38)).alloc (.cells #[.int .i64 k, .slice p2 m2 c2, .slice q2 n2 d2, .string src] 38)) (w.heap.size + 1) (.int .i64 k) (.slice p2 m2 c2) (.slice q2 n2 d2) (.string src) := by
    have := Four.new (w.alloc (.cells #[.int .i64 k, .slice p1 m1 c1, .slice q1 n1 d1, .string src] 38)) (.int .i64 k) (.slice p2 m2 c2) (.slice q2 n2 d2) (.string src) 38
    rw [World.size_alloc] at this
    exact this
  have X1 : Aside _ := x1
  have X2 : Aside _ := x2
  have E1 := equalInts _ p1 p2 m1 c1 m2 c2 B1 B2 ns (owned_later H1.out B1') (owned_later H2.out B1') hl1
  have E2 := fun (w2 : World) (hb : Later w w2) => equalArgs w2 q1 q2 n1 d1 n2 d2 B1 B2 al (owned_later H3.out hb) (owned_later H4.out hb) hl2
  have HE2 : Aside _ := E2
  clear B1' x1 x2 E2
  go_enter Tryz.func23, Tryz.ntmps23
  go_wp2_with (first
    | (go_at_call 24; go_must (refine Calls.mono E1 ?_; rintro e w2 ⟨rfl, hb⟩; have HB2 : Aside (Later w w2) := Later.step HB1.out hb; have y1 := Four.later X1.out hb (by simp; omega); have y2 := Four.later X2.out hb (by simp); obtain ⟨⟨a0, a1, a2, a3⟩, -⟩ := id y1; obtain ⟨⟨b0, b1, b2, b3⟩, -⟩ := id y2; have Y1 : Aside _ := y1; have Y2 : Aside _ := y2; clear hb y1 y2))
    | (go_at_call 25; refine Calls.mono (HE2.out w2 HB2.out) ?_; rintro e w3 ⟨rfl, hb⟩; have HB3 : Aside (Later w2 w3) := hb; have y1 := Four.later Y1.out hb (cell_lt a0); have y2 := Four.later Y2.out hb (cell_lt b0); clear a0 a1 a2 a3 b0 b1 b2 b3; obtain ⟨⟨a0, a1, a2, a3⟩, -⟩ := id y1; obtain ⟨⟨b0, b1, b2, b3⟩, -⟩ := id y2; clear hb y1 y2))
  go_ret
  exact ⟨rfl, Later.step HB2.out HB3.out⟩
end Go.Proofs.YtgioobgahlcdhaaGreatDoor
end

section
/- slices.EqualFunc, palinglaw21.Same on like commands. -/
namespace Go.Proofs.YtgioobgahlcdhaaGreatDoor
open Go.RowKit Go.Shelf Go.Sort Go.Lib

theorem cmds_at {w : World} {B : Nat} : ∀ {l : List Cmd} {xs : List Value} {k : Nat} {c : Cmd}, Cmds w B l xs → l[k]? = some c →
    ∃ p1 n1 c1 p2 n2 c2, xs[k * 4]? = some (.int .i64 c.k) ∧ xs[k * 4 + 1]? = some (.slice p1 n1 c1) ∧ xs[k * 4 + 2]? = some (.slice p2 n2 c2) ∧ xs[k * 4 + 3]? = some (.string c.src) ∧
      w.ownsRow B 3 1 (.slice p1 n1 c1) c.ns.length (c.ns.map (Value.int .i64)) ∧ w.ownsRow B 43 5 (.slice p2 n2 c2) c.al.length (argCells c.al)
  | [], _, k, c, _, h => by simp at h
  | d :: r, xs, 0, c, ⟨a, t, hx, ⟨p1, n1, c1, p2, n2, c2, he, h1, h2⟩, ht⟩, h => by
    simp at h
    subst h
    subst he
    subst hx
    exact ⟨p1, n1, c1, p2, n2, c2, rfl, rfl, rfl, rfl, h1, h2⟩
  | d :: r, xs, k + 1, c, ⟨a, t, hx, ⟨p1, n1, c1, p2, n2, c2, he, h1, h2⟩, ht⟩, h => by
    obtain ⟨u1, v1, w1, u2, v2, w2, e0, e1, e2, e3, g1, g2⟩ := cmds_at (k := k) ht (by simpa using h)
    subst he
    subst hx
    have e : ∀ q, ([Value.int .i64 d.k, .slice p1 n1 c1, .slice p2 n2 c2, .string d.src] ++ t)[(k + 1) * 4 + q]? = t[k * 4 + q]? := fun q => by
      rw [List.getElem?_append_right (by simp; omega)]
      congr 1
      show (k + 1) * 4 + q - 4 = _
      omega
    have e00 := e 0
    simp only [Nat.add_zero] at e00
    exact ⟨u1, v1, w1, u2, v2, w2, e00.trans e0, (e 1).trans e1, (e 2).trans e2, (e 3).trans e3, g1, g2⟩

set_option maxHeartbeats 4000000 in
set_option maxRecDepth 1000000 in
theorem equalCmds (w : World) (l : List Cmd) (p1 p2 : Option Addr) (m1 c1 m2 c2 B1 B2 : Nat) (xs1 xs2 : List Value) (h1 : w.ownsRow B1 38 4 (.slice p1 m1 c1) l.length xs1) (g1 : Cmds w B1 l xs1)
    (h2 : w.ownsRow B2 38 4 (.slice p2 m2 c2) l.length xs2) (g2 : Cmds w B2 l xs2) (hl : l.length ≤ 1000000) (hs : ∀ c ∈ l, c.ns.length ≤ 1000000 ∧ c.al.length ≤ 1000000) :
    Calls Tryz.prog 22 #[.slice p1 m1 c1, .slice p2 m2 c2, .func (.func 23) #[] #[]] w fun e w' => e = .returned (.bool true) ∧ Later w w' := by
  by_cases hz : 0 < l.length
  · obtain ⟨a1, rfl, rfl, k1⟩ := own_lead h1 hz
    obtain ⟨a2, rfl, rfl, k2⟩ := own_lead h2 hz
    have K1 : Aside (∀ (j : Nat) (v : Value), xs1[j]? = some v → w.cell? ⟨a1, j, none⟩ = some v) := k1
    have K2 : Aside (∀ (j : Nat) (v : Value), xs2[j]? = some v → w.cell? ⟨a2, j, none⟩ = some v) := k2
    have G1 : Aside (Cmds w B1 l xs1) := g1
    have G2 : Aside (Cmds w B2 l xs2) := g2
    have HS : Aside (∀ c ∈ l, c.ns.length ≤ 1000000 ∧ c.al.length ≤ 1000000) := hs
    clear h1 h2 k1 k2 g1 g2 hs
    obtain ⟨n, hn⟩ : ∃ n, l.length = n := ⟨_, rfl⟩
    rw [hn] at hl hz ⊢
    have HN : Aside (l.length = n) := hn
    clear hn
    go_enter Tryz.func22, Tryz.ntmps22
    go_wp2
    go_loopg [17] n (fun g i wr => ∃ k : Nat, k + g = n ∧ i = .int .i64 k ∧ Aside (Later w wr))
    case atStart => exact ⟨0, by omega, rfl, Below.refl _ _⟩
    case round =>
      obtain ⟨k, hk, rfl, HL⟩ := hrel
      by_cases hlt : k < n
      · obtain ⟨c, hc⟩ : ∃ c, l[k]? = some c := ⟨_, List.getElem?_eq_getElem (by have := HN.out; omega)⟩
        obtain ⟨hs1, hs2⟩ := HS.out c (List.mem_of_getElem? hc)
        obtain ⟨u1, v1, w1, u2, v2, w2, e0, e1, e2, e3, r1, r2⟩ := cmds_at G1.out hc
        obtain ⟨u3, v3, w3, u4, v4, w4, f0, f1, f2, f3, r3, r4⟩ := cmds_at G2.out hc
        have hlw := HL.out.size
        have d0 : wr.cell? ⟨a1, k * 4, none⟩ = some _ := HL.out.cellOf (K1.out _ _ e0)
        have d1 : wr.cell? ⟨a1, k * 4 + 1, none⟩ = some _ := HL.out.cellOf (K1.out _ _ e1)
        have d2 : wr.cell? ⟨a1, k * 4 + 2, none⟩ = some _ := HL.out.cellOf (K1.out _ _ e2)
        have d3 : wr.cell? ⟨a1, k * 4 + 3, none⟩ = some _ := HL.out.cellOf (K1.out _ _ e3)
        have i0 : wr.cell? ⟨a2, k * 4, none⟩ = some _ := HL.out.cellOf (K2.out _ _ f0)
        have i1 : wr.cell? ⟨a2, k * 4 + 1, none⟩ = some _ := HL.out.cellOf (K2.out _ _ f1)
        have i2 : wr.cell? ⟨a2, k * 4 + 2, none⟩ = some _ := HL.out.cellOf (K2.out _ _ f2)
        have i3 : wr.cell? ⟨a2, k * 4 + 3, none⟩ = some _ := HL.out.cellOf (K2.out _ _ f3)
        have hA2 : a2 < wr.heap.size := cell_lt i0
        have HE : Aside (∀ w', Later w w' → Calls Tryz.prog 23 #[.agg #[.int .i64 c.k, .slice u1 v1 w1, .slice u2 v2 w2, .string c.src], .agg #[.int .i64 c.k, .slice u3 v3 w3, .slice u4 v4 w4, .string c.src]] w' fun e w'' => e = .returned (.bool true) ∧ Later w' w'') := fun w' hb =>
          same1 w' c.k c.src c.ns c.al u1 u3 u2 u4 v1 w1 v3 w3 v2 w2 v4 w4 B1 B2 (owned_later r1 hb) (owned_later r3 hb) (owned_later r2 hb) (owned_later r4 hb) hs1 hs2
        have HL2 : Aside (∀ o o', Later w ((wr.alloc o).alloc o')) := fun o o' => (HL.out.alloc hlw _).alloc (by simp; omega) _
        clear e0 e1 e2 e3 f0 f1 f2 f3 r1 r2 r3 r4 hc
        go_wp2_with (go_at_call 23; go_must (refine Calls.mono (HE.out _ (HL2.out _ _)) ?_; rintro e w5 ⟨rfl, hb⟩; have HB : Aside (Later _ w5) := hb; clear hb))
        go_roundg (gk - 1)
        case measure => omega
        case rel => exact ⟨k + 1, by omega, by go_num, Later.step (HL2.out _ _) HB.out⟩
      · go_wp2
        go_ret
        exact ⟨rfl, HL.out⟩
  · obtain ⟨q1, d1, e1⟩ := own_len h1
    obtain ⟨q2, d2, e2⟩ := own_len h2
    cases e1
    cases e2
    have hz0 : l.length = 0 := by omega
    rw [hz0]
    clear h1 h2 hz hz0 hl g1 g2 hs
    go_enter Tryz.func22, Tryz.ntmps22
    go_wp2
    refine wp_loop_rounds 1 ?_
    rw [rounds_succ]
    go_wp2
    go_ret
    exact ⟨rfl, Below.refl _ _⟩

theorem same_any (w : World) (l : List Cmd) (p1 p2 : Option Addr) (m1 c1 m2 c2 B1 B2 : Nat) (xs1 xs2 : List Value) (h1 : w.ownsRow B1 38 4 (.slice p1 m1 c1) l.length xs1) (g1 : Cmds w B1 l xs1)
    (h2 : w.ownsRow B2 38 4 (.slice p2 m2 c2) l.length xs2) (g2 : Cmds w B2 l xs2) (hl : l.length ≤ 1000000) (hs : ∀ c ∈ l, c.ns.length ≤ 1000000 ∧ c.al.length ≤ 1000000) :
    Calls Tryz.prog 9 #[.slice p1 m1 c1, .slice p2 m2 c2] w fun e w' => e = .returned (.bool true) ∧ Later w w' := by
  have E := equalCmds w l p1 p2 m1 c1 m2 c2 B1 B2 xs1 xs2 h1 g1 h2 g2 hl hs
  clear h1 g1 h2 g2 hl hs
  go_enter Tryz.func9, Tryz.ntmps9
  go_wp2_with (go_at_call 22; refine Calls.mono E ?_; rintro e w2 ⟨rfl, hb⟩)
  go_ret
  exact ⟨rfl, hb⟩
end Go.Proofs.YtgioobgahlcdhaaGreatDoor
end

section
/- Two texts, a line feed between: what script.Parse answers of both; a plain law. -/
namespace Go.Proofs.YtgioobgahlcdhaaGreatDoor
open Go.RowKit Go.Shelf Go.Sort Go.Lib

def lnL : List UInt8 → List (List UInt8)
  | [] => [[]]
  | c :: r => if c = 10 then [] :: lnL r else match lnL r with
    | [] => [[c]]
    | h :: t => (c :: h) :: t
theorem lnL_ne : ∀ l : List UInt8, lnL l ≠ []
  | [] => by simp [lnL]
  | c :: r => by
    unfold lnL
    split
    · simp
    · split <;> simp
theorem lnL_cut (c : UInt8) (r : List UInt8) (h : c ≠ 10) (x : List UInt8) (t : List (List UInt8)) (e : lnL r = x :: t) : lnL (c :: r) = (c :: x) :: t := by
  rw [lnL, if_neg h, e]
theorem lnL_feed (r : List UInt8) : lnL (10 :: r) = [] :: lnL r := by rw [lnL, if_pos rfl]
theorem lnL_join : ∀ a b : List UInt8, lnL (a ++ 10 :: b) = lnL a ++ lnL b
  | [], b => by rw [List.nil_append, lnL_feed]; first | done | rfl
  | c :: r, b => by
    by_cases h : c = 10
    · subst h
      rw [List.cons_append, lnL_feed, lnL_join r b, lnL_feed]
      first | done | rfl
    · obtain ⟨x, t, e⟩ := List.exists_cons_of_ne_nil (lnL_ne r)
      rw [lnL_cut c r h x t e, List.cons_append, lnL_cut c (r ++ 10 :: b) h x (t ++ lnL b) (by rw [lnL_join r b, e]; first | done | rfl)]
      first | done | rfl
theorem lnL_sum : ∀ l : List UInt8, ((lnL l).map fun x => x.length + 1).sum = l.length + 1
  | [] => rfl
  | c :: r => by
    have ih := lnL_sum r
    by_cases h : c = 10
    · subst h
      rw [lnL_feed, List.map_cons, List.sum_cons, ih]
      simp only [List.length_cons, List.length_nil]
      omega
    · obtain ⟨x, t, e⟩ := List.exists_cons_of_ne_nil (lnL_ne r)
      rw [lnL_cut c r h x t e]
      rw [e] at ih
      simp only [List.map_cons, List.sum_cons, List.length_cons] at ih ⊢
      omega
theorem splitK_ln : ∀ s : List UInt8, Lib.splitK [10] 0 (Lib.count s [10]) s = lnL s
  | [] => by rw [Lib.count_miss (by simp [Lib.index])]; first | done | rfl
  | c :: r => by
    have ih := splitK_ln r
    by_cases h : c = 10
    · subst h
      have hix : Lib.index (10 :: r) [10] = ((0 : Nat) : Int) := by rw [Lib.index]; simp [List.isPrefixOf]
      rw [Lib.count_cons_eq, Nat.add_comm, Lib.splitK, hix, lnL_feed, if_neg (by decide), ← ih]
      simp
    · have hp : ([10] : List UInt8).isPrefixOf (c :: r) = false := by simp [List.isPrefixOf, Ne.symm h]
      have hix : Lib.index (c :: r) [10] = if Lib.index r [10] == -1 then -1 else Lib.index r [10] + 1 := by rw [Lib.index, hp]; simp
      rw [Lib.count_cons_ne _ _ _ h]
      by_cases hm : Lib.index r [10] = -1
      · have h0 : Lib.count r [10] = 0 := Lib.count_miss hm
        rw [h0] at ih ⊢
        exact (lnL_cut c r h r [] ih.symm).symm
      · have hge := Lib.index_ge r [10]
        obtain ⟨j, hj⟩ : ∃ j : Nat, Lib.index r [10] = j := ⟨(Lib.index r [10]).toNat, by omega⟩
        have hix' : Lib.index (c :: r) [10] = ((j + 1 : Nat) : Int) := by rw [hix, if_neg (fun e => hm (beq_iff_eq.1 e)), hj]; omega
        rw [Lib.count_hit (by simp) hj, Nat.add_comm] at ih ⊢
        rw [Lib.splitK, hj, if_neg (fun e => by have := beq_iff_eq.1 e; omega)] at ih
        rw [Lib.splitK, hix', if_neg (fun e => by have := beq_iff_eq.1 e; omega)]
        rw [lnL_cut c r h _ _ ih.symm]
        simp

theorem lines_ln (s : ByteArray) : (linesOf s).map (·.data.toList) = lnL s.data.toList := by
  unfold linesOf
  rw [Lib.splitB_data]
  exact splitK_ln s.data.toList
theorem bytes_inj : ∀ (A B : List ByteArray), A.map (·.data.toList) = B.map (·.data.toList) → A = B
  | [], [], _ => rfl
  | [], _ :: _, h => by simp at h
  | _ :: _, [], h => by simp at h
  | ⟨⟨x⟩⟩ :: A, ⟨⟨y⟩⟩ :: B, h => by
    simp only [List.map_cons, List.cons.injEq] at h
    obtain ⟨h1, h2⟩ := h
    subst h1
    rw [bytes_inj A B h2]
theorem lines_join (a b : ByteArray) : linesOf (a ++ ⟨#[10]⟩ ++ b) = linesOf a ++ linesOf b := by
  apply bytes_inj
  rw [List.map_append, lines_ln, lines_ln, lines_ln, ← lnL_join]
  congr 1
  simp
theorem lines_sum (s : ByteArray) : ((linesOf s).map fun x => x.size + 1).sum = s.size + 1 := by
  have h := lnL_sum s.data.toList
  rw [← lines_ln, List.map_map] at h
  rw [Lib.size_eq, ← h]
  congr 1

theorem fieldsGoD_sum : ∀ (f : Nat) (cur l : List UInt8), ((Lib.fieldsGoD f cur l).map List.length).sum ≤ cur.length + l.length
  | 0, cur, l => by
    unfold Lib.fieldsGoD
    split <;> simp
  | f + 1, cur, l => by
    unfold Lib.fieldsGoD
    split
    · split <;> simp
    · split
      · have := fieldsGoD_sum f [] (l.drop (Lib.decodeL l).2)
        rw [List.map_append, List.sum_append]
        simp only [List.length_nil, List.length_drop] at this
        split <;> simp <;> omega
      · have := fieldsGoD_sum f (cur ++ l.take (Lib.decodeL l).2) (l.drop (Lib.decodeL l).2)
        simp only [List.length_append, List.length_take, List.length_drop] at this
        omega
theorem words_sum (s : ByteArray) : ((wordsOf s).map ByteArray.size).sum ≤ s.size := by
  have h := fieldsGoD_sum (s.data.toList.length + 1) [] s.data.toList
  have e : (wordsOf s).map ByteArray.size = (Lib.fieldsD s.data.toList).map List.length := by
    unfold wordsOf
    rw [List.map_map]
    exact List.map_congr_left fun x _ => rfl
  rw [e, Lib.size_eq]
  unfold Lib.fieldsD
  simpa only [List.length_nil, Nat.zero_add] using h

theorem numS_empty (x : ByteArray) (h : x.size = 0) : numS x = none := by
  obtain ⟨⟨l⟩⟩ := x
  cases l with
  | nil => rfl
  | cons _ _ => simp [ByteArray.size] at h
theorem restR_le {k : Int} {ws : List ByteArray} {al : List Arg} (h : restR k ws = some al) : al.length ≤ 20 := by
  unfold restR at h
  split at h
  · cases h
  · rename_i hb
    split at h
    · cases h
    · rename_i al' ha
      have hl := argsR_length _ _ ha
      split at h
      · cases h
      · cases h
        rw [hl]
        unfold restBad at hb
        split at hb
        · simp at hb; omega
        · split at hb
          · simp at hb; omega
          · simp at hb; simp [hb]
theorem line_big (ws : List ByteArray) (c : Cmd) (h : lineR ws = .ok c) : 5 ≤ (ws.map ByteArray.size).sum ∧ c.ns.length ≤ 2 ∧ c.al.length ≤ 20 := by
  cases hf : formTab.findIdx? (fun p => decide (some p.1 = ws.head?)) with
  | none => rw [lineR, hf] at h; cases h
  | some k =>
    have hf' := hf
    rw [List.findIdx?_eq_some_iff_getElem] at hf'
    obtain ⟨hk, hp, _⟩ := hf'
    obtain ⟨W, M, hWM⟩ : ∃ W M, formTab[k]? = some (W, M) := ⟨_, _, List.getElem?_eq_getElem hk⟩
    have hW : some W = ws.head? := by
      have e : formTab[k] = (W, M) := by rw [List.getElem?_eq_getElem hk] at hWM; exact Option.some.inj hWM
      rw [e] at hp
      simpa using hp
    have hM : 4 ≤ W.size ∧ (M = 0 → 7 ≤ W.size) := by
      have : ∀ p ∈ formTab, 4 ≤ p.1.size ∧ (p.2 = 0 → 7 ≤ p.1.size) := by decide
      exact this _ (List.mem_of_getElem? hWM)
    have hM2 := formTab_le hWM
    rw [lineR_some hf hWM] at h
    split at h
    · cases h
    · rename_i hlen
      cases hn : numsR ((ws.drop 1).take M) with
      | none => rw [hn] at h; cases h
      | some ns =>
        rw [hn] at h
        cases hr : restR k (ws.drop (1 + M)) with
        | none => rw [hr] at h; cases h
        | some al =>
          rw [hr] at h
          cases h
          refine ⟨?_, ?_, restR_le hr⟩
          · cases ws with
            | nil => cases hW
            | cons x r =>
              cases hW
              rw [List.map_cons, List.sum_cons]
              by_cases h0 : M = 0
              · have := hM.2 h0
                omega
              · cases r with
                | nil => simp at hlen; omega
                | cons y r =>
                  obtain ⟨M', rfl⟩ : ∃ M', M = M' + 1 := ⟨M - 1, by omega⟩
                  rw [List.map_cons, List.sum_cons]
                  have hy : y.size ≠ 0 := fun hy => by
                    simp [numsR, numS_empty y hy] at hn
                  have := hM.1
                  omega
          · have := numsR_length _ _ hn
            show ns.length ≤ 2
            rw [this, List.length_take]
            omega
theorem lineR_err {ws : List ByteArray} {e : Int} (h : lineR ws = .error e) : e ≠ 0 := by
  cases hf : formTab.findIdx? (fun p => decide (some p.1 = ws.head?)) with
  | none => rw [lineR, hf] at h; cases h; decide
  | some k =>
    have hf' := hf
    rw [List.findIdx?_eq_some_iff_getElem] at hf'
    obtain ⟨hk, _, _⟩ := hf'
    obtain ⟨W, M, hWM⟩ : ∃ W M, formTab[k]? = some (W, M) := ⟨_, _, List.getElem?_eq_getElem hk⟩
    rw [lineR_some hf hWM] at h
    split at h
    · cases h; decide
    · split at h
      · cases h; decide
      · split at h
        · cases h; decide
        · cases h

theorem parseGo_past (ls : List ByteArray) (g i : Nat) (out : List Cmd) (h : ls[i]? = none) : parseGo ls g i out = (out, 0, 0) := by
  cases g with
  | zero => rfl
  | succ g => rw [parseGo, h]
theorem parseGo_fuel (ls : List ByteArray) : ∀ (g g' i : Nat) (out : List Cmd), ls.length ≤ g + i → ls.length ≤ g' + i → parseGo ls g i out = parseGo ls g' i out
  | 0, g', i, out, h, h' => by rw [parseGo_past ls 0 i out (List.getElem?_eq_none (by omega)), parseGo_past ls g' i out (List.getElem?_eq_none (by omega))]
  | g + 1, 0, i, out, h, h' => by rw [parseGo_past ls 0 i out (List.getElem?_eq_none (by omega)), parseGo_past ls (g + 1) i out (List.getElem?_eq_none (by omega))]
  | g + 1, g' + 1, i, out, h, h' => by
    cases hx : ls[i]? with
    | none => rw [parseGo_past _ _ _ _ hx, parseGo_past _ _ _ _ hx]
    | some x =>
      rw [parseGo_step ls g i out x hx, parseGo_step ls g' i out x hx]
      have e1 : ∀ (j : Nat) (o : List Cmd), i < j → parseGo ls g j o = parseGo ls g' j o := fun j o hj => parseGo_fuel ls g g' j o (by omega) (by omega)
      rw [e1 (i + 1) out (by omega)]
      cases lineR (wordsOf x) with
      | error e => rfl
      | ok c =>
        dsimp only
        rw [e1 (i + 1) _ (by omega), e1 (i + 1 + dotN (ls.drop (i + 1)) + 1) _ (by omega)]
def parseP (ls : List ByteArray) (i : Nat) (out : List Cmd) : List Cmd × Int × Int := parseGo ls ls.length i out
theorem parseP_past (ls : List ByteArray) (i : Nat) (out : List Cmd) (h : ls[i]? = none) : parseP ls i out = (out, 0, 0) := parseGo_past ls _ i out h
theorem parseP_step (ls : List ByteArray) (i : Nat) (out : List Cmd) (x : ByteArray) (hx : ls[i]? = some x) : parseP ls i out =
    if blankS x = true then parseP ls (i + 1) out
    else if out.length = 200 then ([], i + 1, 2)
    else match lineR (wordsOf x) with
      | .error e => ([], i + 1, e)
      | .ok c =>
        if c.k = 1 then
          if ls.length ≤ i + 1 + dotN (ls.drop (i + 1)) then ([], i + 1, 1)
          else parseP ls (i + 1 + dotN (ls.drop (i + 1)) + 1) (out ++ [{ c with src := joinS ((ls.drop (i + 1)).take (dotN (ls.drop (i + 1)))) }])
        else parseP ls (i + 1) (out ++ [c]) := by
  have hi : i < ls.length := (List.getElem?_eq_some_iff.1 hx).1
  have e : parseP ls i out = parseGo ls (ls.length + 1) i out := parseGo_fuel ls _ _ i out (by omega) (by omega)
  rw [e, parseGo_step ls _ i out x hx]
  first | done | rfl
theorem dotN_le : ∀ A : List ByteArray, dotN A ≤ A.length
  | [] => by simp [dotN]
  | x :: r => by
    have := dotN_le r
    unfold dotN at this ⊢
    rw [List.takeWhile_cons]
    split <;> simp <;> omega
theorem dotN_more : ∀ A B : List ByteArray, dotN A < A.length → dotN (A ++ B) = dotN A
  | [], _, h => by simp at h
  | x :: r, B, h => by
    have ih := dotN_more r B
    unfold dotN at h ih ⊢
    rw [List.cons_append, List.takeWhile_cons, List.takeWhile_cons]
    rw [List.takeWhile_cons] at h
    split
    · rename_i hx
      rw [if_pos hx] at h
      simp only [List.length_cons] at h ⊢
      rw [ih (by omega)]
    · rfl
theorem blank_size {x : ByteArray} (h : ¬ blankS x = true) : 1 ≤ x.size := by
  rcases Nat.eq_zero_or_pos x.size with h0 | h0
  · exfalso
    apply h
    obtain ⟨⟨l⟩⟩ := x
    cases l with
    | nil => rfl
    | cons _ _ => simp [ByteArray.size] at h0
  · exact h0

theorem parseP_lead (L1 L2 : List ByteArray) : ∀ (n i : Nat) (out : List Cmd), L1.length ≤ n + i → i ≤ L1.length → (parseP L1 i out).2.2 = 0 →
    parseP (L1 ++ L2) i out = parseP (L1 ++ L2) L1.length (parseP L1 i out).1
  | n, i, out, hn, hi, h0 => by
    cases hx : L1[i]? with
    | none =>
      have := List.getElem?_eq_none_iff.1 hx
      rw [parseP_past L1 i out hx, show i = L1.length by omega]
    | some x =>
      have hlt : i < L1.length := (List.getElem?_eq_some_iff.1 hx).1
      cases n with
      | zero => omega
      | succ n =>
        have hx2 : (L1 ++ L2)[i]? = some x := by rw [List.getElem?_append_left hlt, hx]
        rw [parseP_step L1 i out x hx] at h0 ⊢
        rw [parseP_step (L1 ++ L2) i out x hx2]
        by_cases hb : blankS x = true
        · rw [if_pos hb] at h0 ⊢
          rw [if_pos hb]
          exact parseP_lead L1 L2 n (i + 1) out (by omega) (by omega) h0
        · rw [if_neg hb] at h0 ⊢
          rw [if_neg hb]
          by_cases ho : out.length = 200
          · rw [if_pos ho] at h0
            cases h0
          · rw [if_neg ho] at h0 ⊢
            rw [if_neg ho]
            cases hl : lineR (wordsOf x) with
            | error e => rw [hl] at h0; exact absurd h0 (lineR_err hl)
            | ok c =>
              rw [hl] at h0
              dsimp only at h0 ⊢
              by_cases hk : c.k = 1
              · rw [if_pos hk] at h0 ⊢
                rw [if_pos hk]
                by_cases hd : L1.length ≤ i + 1 + dotN (L1.drop (i + 1))
                · rw [if_pos hd] at h0
                  cases h0
                · rw [if_neg hd] at h0 ⊢
                  have e1 : (L1 ++ L2).drop (i + 1) = L1.drop (i + 1) ++ L2 := List.drop_append_of_le_length (by omega)
                  have e2 : dotN ((L1 ++ L2).drop (i + 1)) = dotN (L1.drop (i + 1)) := by
                    rw [e1]
                    exact dotN_more _ _ (by rw [List.length_drop]; omega)
                  rw [e2, if_neg (by rw [List.length_append]; omega), e1, List.take_append_of_le_length (dotN_le _)]
                  exact parseP_lead L1 L2 n _ _ (by omega) (by omega) h0
              · rw [if_neg hk] at h0 ⊢
                rw [if_neg hk]
                exact parseP_lead L1 L2 n (i + 1) _ (by omega) (by omega) h0

/-- The sizes of the first lines, their line feeds with them. -/
def lsum (L : List ByteArray) (i : Nat) : Nat := ((L.take i).map fun x => x.size + 1).sum
theorem lsum_next {L : List ByteArray} {i : Nat} {x : ByteArray} (hx : L[i]? = some x) : lsum L (i + 1) = lsum L i + (x.size + 1) := by
  unfold lsum
  rw [List.take_add_one, hx]
  simp
theorem lsum_up (L : List ByteArray) : ∀ (d i : Nat), lsum L i ≤ lsum L (i + d)
  | 0, i => Nat.le_refl _
  | d + 1, i => by
    refine Nat.le_trans (lsum_up L d i) ?_
    cases hx : L[i + d]? with
    | none =>
      have := List.getElem?_eq_none_iff.1 hx
      unfold lsum
      rw [List.take_of_length_le this, List.take_of_length_le (by omega)]
      exact Nat.le_refl _
    | some x =>
      rw [← Nat.add_assoc, lsum_next hx]
      omega
theorem lsum_all (L : List ByteArray) (i : Nat) : lsum L i ≤ (L.map fun x => x.size + 1).sum := by
  have h := lsum_up L L.length i
  refine Nat.le_trans h ?_
  unfold lsum
  rw [List.take_of_length_le (by omega)]
  exact Nat.le_refl _
theorem line_room {x : ByteArray} {c : Cmd} (h : lineR (wordsOf x) = .ok c) : 5 ≤ x.size := Nat.le_trans (line_big _ _ h).1 (words_sum x)

theorem parseP_small (L : List ByteArray) : ∀ (n i : Nat) (out : List Cmd), L.length ≤ n + i → out.length * 6 ≤ lsum L i → (∀ c ∈ out, c.ns.length ≤ 2 ∧ c.al.length ≤ 20) →
    (parseP L i out).1.length * 6 ≤ (L.map fun x => x.size + 1).sum ∧ ∀ c ∈ (parseP L i out).1, c.ns.length ≤ 2 ∧ c.al.length ≤ 20
  | n, i, out, hn, hs, hq => by
    cases hx : L[i]? with
    | none =>
      rw [parseP_past L i out hx]
      exact ⟨Nat.le_trans hs (lsum_all L i), hq⟩
    | some x =>
      have hlt : i < L.length := (List.getElem?_eq_some_iff.1 hx).1
      cases n with
      | zero => omega
      | succ n =>
        have hnx := lsum_next hx
        have hq2 : ∀ c, lineR (wordsOf x) = .ok c → ∀ s, ∀ d ∈ out ++ [{ c with src := s }], d.ns.length ≤ 2 ∧ d.al.length ≤ 20 := by
          intro c hc s d hd
          rcases List.mem_append.1 hd with hd | hd
          · exact hq d hd
          · rw [List.mem_singleton.1 hd]
            exact (line_big _ _ hc).2
        rw [parseP_step L i out x hx]
        split
        · exact parseP_small L n (i + 1) out (by omega) (by omega) hq
        · split
          · exact ⟨by simp, by simp⟩
          · cases hl : lineR (wordsOf x) with
            | error e => exact ⟨by simp, by simp⟩
            | ok c =>
              have h5 := line_room hl
              dsimp only
              split
              · split
                · exact ⟨by simp, by simp⟩
                · have hup := lsum_up L (dotN (L.drop (i + 1)) + 1) (i + 1)
                  rw [← Nat.add_assoc] at hup
                  exact parseP_small L n _ _ (by omega) (by rw [List.length_append, List.length_singleton]; omega) (hq2 c hl _)
              · exact parseP_small L n (i + 1) _ (by omega) (by rw [List.length_append, List.length_singleton]; omega) (hq2 c hl c.src)

theorem parseP_tail (L1 L2 : List ByteArray) (l1 : List Cmd) (h1 : l1.length ≤ 100) (hT : (L2.map fun x => x.size + 1).sum ≤ 601) : ∀ (n i : Nat) (out : List Cmd), L2.length ≤ n + i → out.length * 6 ≤ lsum L2 i →
    (parseP (L1 ++ L2) (L1.length + i) (l1 ++ out)).2.2 = (parseP L2 i out).2.2 ∧ ((parseP L2 i out).2.2 = 0 → (parseP (L1 ++ L2) (L1.length + i) (l1 ++ out)).1 = l1 ++ (parseP L2 i out).1)
  | n, i, out, hn, hs => by
    have hg : (L1 ++ L2)[L1.length + i]? = L2[i]? := by rw [List.getElem?_append_right (by omega)]; congr 1; omega
    cases hx : L2[i]? with
    | none =>
      rw [parseP_past L2 i out hx, parseP_past (L1 ++ L2) (L1.length + i) _ (hg.trans hx)]
      exact ⟨rfl, fun _ => rfl⟩
    | some x =>
      have hlt : i < L2.length := (List.getElem?_eq_some_iff.1 hx).1
      cases n with
      | zero => omega
      | succ n =>
        have hnx := lsum_next hx
        have hal := Nat.le_trans (lsum_all L2 (i + 1)) hT
        rw [parseP_step L2 i out x hx, parseP_step (L1 ++ L2) (L1.length + i) (l1 ++ out) x (hg.trans hx)]
        by_cases hb : blankS x = true
        · rw [if_pos hb, if_pos hb]
          exact parseP_tail L1 L2 l1 h1 hT n (i + 1) out (by omega) (by omega)
        · have hbs := blank_size hb
          rw [if_neg hb, if_neg hb, if_neg (by rw [List.length_append]; omega), if_neg (by omega)]
          cases hl : lineR (wordsOf x) with
          | error e => exact ⟨rfl, fun h => absurd h (lineR_err hl)⟩
          | ok c =>
            have h5 := line_room hl
            dsimp only
            by_cases hk : c.k = 1
            · rw [if_pos hk, if_pos hk]
              have e1 : (L1 ++ L2).drop (L1.length + i + 1) = L2.drop (i + 1) := by
                rw [show L1.length + i + 1 = L1.length + (i + 1) by omega, List.drop_append]
                simp
              rw [e1]
              by_cases hd : L2.length ≤ i + 1 + dotN (L2.drop (i + 1))
              · rw [if_pos hd, if_pos (by rw [List.length_append]; omega)]
                exact ⟨rfl, fun h => by cases h⟩
              · rw [if_neg hd, if_neg (by rw [List.length_append]; omega)]
                have hup := lsum_up L2 (dotN (L2.drop (i + 1)) + 1) (i + 1)
                rw [← Nat.add_assoc] at hup
                have ih := parseP_tail L1 L2 l1 h1 hT n (i + 1 + dotN (L2.drop (i + 1)) + 1) (out ++ [{ c with src := joinS ((L2.drop (i + 1)).take (dotN (L2.drop (i + 1)))) }]) (by omega) (by rw [List.length_append, List.length_singleton]; omega)
                rw [← List.append_assoc, show L1.length + (i + 1 + dotN (L2.drop (i + 1)) + 1) = L1.length + i + 1 + dotN (L2.drop (i + 1)) + 1 by omega] at ih
                exact ih
            · rw [if_neg hk, if_neg hk]
              have ih := parseP_tail L1 L2 l1 h1 hT n (i + 1) (out ++ [c]) (by omega) (by rw [List.length_append, List.length_singleton]; omega)
              rw [← List.append_assoc] at ih
              exact ih

theorem parseR_small (a : ByteArray) (ha : a.size ≤ 600) : parseR a = parseP (linesOf a) 0 [] := by
  unfold parseR parseP
  rw [if_neg (by omega)]
theorem parse_few (a : ByteArray) (ha : a.size ≤ 600) : (parseR a).1.length ≤ 100 ∧ ∀ c ∈ (parseR a).1, c.ns.length ≤ 2 ∧ c.al.length ≤ 20 := by
  rw [parseR_small a ha]
  have h := parseP_small (linesOf a) (linesOf a).length 0 [] (by omega) (by simp) (by simp)
  rw [lines_sum] at h
  exact ⟨by have := h.1; omega, h.2⟩
theorem parse_join (a b : ByteArray) (ha : a.size ≤ 600) (hb : b.size ≤ 600) (h0 : (parseR a).2.2 = 0) :
    (parseR (a ++ ⟨#[10]⟩ ++ b)).2.2 = (parseR b).2.2 ∧ ((parseR b).2.2 = 0 → (parseR (a ++ ⟨#[10]⟩ ++ b)).1 = (parseR a).1 ++ (parseR b).1) := by
  have hf := (parse_few a ha).1
  have hz : (a ++ ⟨#[10]⟩ ++ b).size ≤ 1201 := by
    rw [ByteArray.size_append, ByteArray.size_append]
    have : (⟨#[10]⟩ : ByteArray).size = 1 := rfl
    omega
  have e : parseR (a ++ ⟨#[10]⟩ ++ b) = parseP (linesOf a ++ linesOf b) 0 [] := by
    unfold parseR parseP
    rw [if_neg (by omega), lines_join]
  rw [parseR_small a ha] at h0 hf ⊢
  rw [e, parseR_small b hb, parseP_lead (linesOf a) (linesOf b) (linesOf a).length 0 [] (by omega) (by omega) h0]
  have h := parseP_tail (linesOf a) (linesOf b) (parseP (linesOf a) 0 []).1 hf (by rw [lines_sum]; omega) (linesOf b).length 0 [] (by omega) (by simp)
  rw [Nat.add_zero, List.append_nil] at h
  exact h
end Go.Proofs.YtgioobgahlcdhaaGreatDoor
end

section
/- script.Parse and the reference's Parse answer alike. -/
namespace Go.Proofs.YtgioobgahlcdhaaGreatDoor
open Go.RowKit Go.Shelf Go.Sort Go.Lib

theorem parseGo_small (ls : List ByteArray) : ∀ (g i : Nat) (out : List Cmd), out.length ≤ 200 → (∀ c ∈ out, c.ns.length ≤ 2 ∧ c.al.length ≤ 20) →
    (parseGo ls g i out).1.length ≤ 200 ∧ ∀ c ∈ (parseGo ls g i out).1, c.ns.length ≤ 2 ∧ c.al.length ≤ 20
  | 0, i, out, h1, h2 => ⟨h1, h2⟩
  | g + 1, i, out, h1, h2 => by
    cases hx : ls[i]? with
    | none =>
      have e : parseGo ls (g + 1) i out = (out, 0, 0) := by rw [parseGo, hx]
      rw [e]
      exact ⟨h1, h2⟩
    | some x =>
      rw [parseGo_step ls g i out x hx]
      split
      · exact parseGo_small ls g _ _ h1 h2
      · split
        · exact ⟨by simp, by simp⟩
        · rename_i hne
          split
          · exact ⟨by simp, by simp⟩
          · rename_i c hc
            obtain ⟨_, hb1, hb2⟩ := line_big _ c hc
            have hs : ∀ d : Cmd, d.ns = c.ns → d.al = c.al → ∀ e ∈ out ++ [d], e.ns.length ≤ 2 ∧ e.al.length ≤ 20 := fun d e1 e2 e he => by
              rcases List.mem_append.1 he with he | he
              · exact h2 e he
              · obtain rfl := List.mem_singleton.1 he
                rw [e1, e2]
                exact ⟨hb1, hb2⟩
            split
            · split
              · exact ⟨by simp, by simp⟩
              · exact parseGo_small ls g _ _ (by simp; omega) (hs _ rfl rfl)
            · exact parseGo_small ls g _ _ (by simp; omega) (hs _ rfl rfl)
theorem parse_bounds (s : ByteArray) : (parseR s).1.length ≤ 1000000 ∧ ∀ c ∈ (parseR s).1, c.ns.length ≤ 1000000 ∧ c.al.length ≤ 1000000 := by
  unfold parseR
  split
  · exact ⟨by simp, by simp⟩
  · obtain ⟨h1, h2⟩ := parseGo_small (linesOf s) (linesOf s).length 0 [] (by simp) (by simp)
    exact ⟨by omega, fun c hc => by have := h2 c hc; omega⟩
/-- script.Parse and the reference's Parse answer alike: what a law that compares them wants. -/
theorem both_parse (s : ByteArray) (hs : s.size ≤ 1000000) (w : World) (hc : Calm w) (hf : w.rangeAt 1 0 formCells.toList) (hf2 : Forms21 w) :
    ∃ (l : List Cmd) (i e : Int), (∀ w', Later w w' → Calls Tryz.prog 7 #[.string s] w' fun en w2 => ∃ p n c xs, en = .returned (.tuple #[.slice p n c, .int .i64 i, .int .i64 e]) ∧ Later w' w2 ∧ w2.ownsRow w'.heap.size 38 4 (.slice p n c) l.length xs ∧ Cmds w2 w'.heap.size l xs) ∧
      (∀ w', Later w w' → Calls Tryz.prog 8 #[.string s] w' fun en w2 => ∃ p n c xs, en = .returned (.tuple #[.slice p n c, .int .i64 i, .int .i64 e]) ∧ Later w' w2 ∧ w2.ownsRow w'.heap.size 38 4 (.slice p n c) l.length xs ∧ Cmds w2 w'.heap.size l xs) ∧
      l.length ≤ 1000000 ∧ ∀ c ∈ l, c.ns.length ≤ 1000000 ∧ c.al.length ≤ 1000000 := by
  rcases hR : parseR s with ⟨l, i, e⟩
  refine ⟨l, i, e, fun w' hl => ?_, fun w' hl => ?_, ?_⟩
  · refine (parse_any s w' (hc.later hl) (range_later hf hl) hs).mono ?_
    rintro en w2 ⟨v, xs, he, hb, ho, hm⟩
    rw [hR] at he ho hm
    obtain ⟨p, c, rfl⟩ := own_len ho
    exact ⟨p, _, c, xs, he, hb, ho, hm⟩
  · refine (parse21_any s w' (hc.later hl) (hf2.later hl) hs).mono ?_
    rintro en w2 ⟨v, xs, he, hb, ho, hm⟩
    rw [hR] at he ho hm
    obtain ⟨p, c, rfl⟩ := own_len ho
    exact ⟨p, _, c, xs, he, hb, ho, hm⟩
  · have := parse_bounds s
    rw [hR] at this
    exact this
end Go.Proofs.YtgioobgahlcdhaaGreatDoor
end
