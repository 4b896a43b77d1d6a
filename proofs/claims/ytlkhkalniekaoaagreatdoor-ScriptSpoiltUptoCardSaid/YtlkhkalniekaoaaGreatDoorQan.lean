/- Parts of the proof: XQ. -/
import Derived.Test.YtlkhkalniekaoaaGreatDoorProg
import Derived.Shelf.SlIter.Collect
import Derived.Test.YtlkhkalniekaoaaGreatDoorQak

set_option linter.unusedVariables false
set_option linter.unusedSimpArgs false

section
/- slices.AppendSeq(nil, maps.Keys(m)), where m has no two entries: its contract in the reckoner. -/
open Go Go.Proofs Go.RowKit Go.Shelf
namespace Go.X

theorem run_getAt {P : Program} {r : Nat} {o : Obj} {w : World} (h : w.heap[r]? = some o) (ho : o.isWalk = true) : (getObj r).run P w = .ok o w := by
  cases o with
  | cells => cases ho
  | _ => simp [getObj, Sem.run, h]
theorem run_setAt {P : Program} {r : Nat} {o o' : Obj} {w : World} (h : w.heap[r]? = some o') (ho : o'.isWalk = true) : (setObj r o).run P w = .ok () (w.putObj r o) := by
  cases o' with
  | cells => cases ho
  | _ => simp [setObj, Sem.run, h, World.putObj]

set_option maxRecDepth 100000 in
set_option maxHeartbeats 1000000 in
theorem keys1_none (n l Bm : Nat) (W : World) (hm : W.cell? ⟨Bm, 0, none⟩ = some (.map none)) :
    CallsIn Fence.wide n Tryz.prog 215 #[.func (.yield l) #[] #[], .pointer (some ⟨Bm, 0, none⟩)] W fun e W' => (∃ v, e = .returned v) ∧ W' = W.alloc (.mapIter none 0 #[] 0) := by
  refine callsIn_of_wp Tryz.func215 rfl trivial ?_ rfl
  simp only [Tryz.ntmps215, List.size_toArray, List.length_cons, List.length_nil, Nat.reduceAdd, Nat.reduceSub, Array.replicate_succ, Array.replicate_zero, List.push_toArray, List.append_toArray, List.nil_append, List.cons_append]
  have hi0 := World.alloc_heap_new W (.mapIter none 0 #[] 0)
  have hR : (Instr.range 191 (.map none)).run Tryz.prog W = .ok (.pointer (some ⟨W.heap.size, 0, none⟩)) (W.alloc (.mapIter none 0 #[] 0)) := by
    simp [Instr.range, run_underlying Tryz.underlying191]
  have hN : (Instr.next (.pointer (some ⟨W.heap.size, 0, none⟩)) false 0).run Tryz.prog (W.alloc (.mapIter none 0 #[] 0)) = .ok (.tuple #[.bool false]) (W.alloc (.mapIter none 0 #[] 0)) := by
    simp [Instr.next, run_getAt hi0 rfl]
  gi_wp2
  refine wpIn_loop_rounds 1 ?_
  rw [roundsIn_succ]
  gi_wp2
  go_end0
  exact ⟨⟨_, rfl⟩, rfl⟩

set_option maxRecDepth 100000 in
set_option maxHeartbeats 1000000 in
theorem keys1_empty (n l Bm b clock : Nat) (W : World) (hm : W.cell? ⟨Bm, 0, none⟩ = some (.map (some b))) (hb : W.heap[b]? = some (.map #[] clock)) :
    CallsIn Fence.wide n Tryz.prog 215 #[.func (.yield l) #[] #[], .pointer (some ⟨Bm, 0, none⟩)] W fun e W' => (∃ v, e = .returned v) ∧ W' = W.alloc (.mapIter (some b) clock #[] clock) := by
  refine callsIn_of_wp Tryz.func215 rfl trivial ?_ rfl
  simp only [Tryz.ntmps215, List.size_toArray, List.length_cons, List.length_nil, Nat.reduceAdd, Nat.reduceSub, Array.replicate_succ, Array.replicate_zero, List.push_toArray, List.append_toArray, List.nil_append, List.cons_append]
  have hblt : b < W.heap.size := (Array.getElem?_eq_some_iff.1 hb).1
  have hb2 : (W.alloc (.mapIter (some b) clock #[] clock)).heap[b]? = some (.map #[] clock) := (Below.heap_alloc _ _ b hblt).trans hb
  have hi0 := World.alloc_heap_new W (.mapIter (some b) clock #[] clock)
  have hR : (Instr.range 191 (.map (some b))).run Tryz.prog W = .ok (.pointer (some ⟨W.heap.size, 0, none⟩)) (W.alloc (.mapIter (some b) clock #[] clock)) := by
    simp [Instr.range, run_underlying Tryz.underlying191, run_getAt hb rfl]
  have hN : (Instr.next (.pointer (some ⟨W.heap.size, 0, none⟩)) false 0).run Tryz.prog (W.alloc (.mapIter (some b) clock #[] clock)) = .ok (.tuple #[.bool false]) (W.alloc (.mapIter (some b) clock #[] clock)) := by
    simp [Instr.next, run_getAt hi0 rfl, run_getAt hb2 rfl, Question.forced]
  gi_wp2
  refine wpIn_loop_rounds 1 ?_
  rw [roundsIn_succ]
  gi_wp2
  go_end0
  exact ⟨⟨_, rfl⟩, rfl⟩

set_option maxRecDepth 100000 in
set_option maxHeartbeats 1000000 in
theorem keys1_one (n l Bm b clock born : Nat) (y1 y2 : Int) (y3 : ByteArray) (v : Value) (hbc : born < clock) (W : World) (hm : W.cell? ⟨Bm, 0, none⟩ = some (.map (some b))) (hb : W.heap[b]? = some (.map #[⟨.agg #[.int .u8 y1, .int .i64 y2, .string y3], v, born⟩] clock))
    (J : World → Prop) (hY : ∀ W1, Below W.heap.size W W1 → YieldAt Fence.wide (n - 1) Tryz.prog l #[.agg #[.int .u8 y1, .int .i64 y2, .string y3]] W1 fun e W' => e = .returned (.bool true) ∧ J W' ∧ KeepsWalks W1 W') :
    CallsIn Fence.wide n Tryz.prog 215 #[.func (.yield l) #[] #[], .pointer (some ⟨Bm, 0, none⟩)] W fun e W' => (∃ v, e = .returned v) ∧ J W' := by
  refine callsIn_of_wp Tryz.func215 rfl trivial ?_ rfl
  simp only [Tryz.ntmps215, List.size_toArray, List.length_cons, List.length_nil, Nat.reduceAdd, Nat.reduceSub, Array.replicate_succ, Array.replicate_zero, List.push_toArray, List.append_toArray, List.nil_append, List.cons_append]
  have hblt : b < W.heap.size := (Array.getElem?_eq_some_iff.1 hb).1
  have hb2 : (W.alloc (.mapIter (some b) clock #[] clock)).heap[b]? = some (.map #[⟨.agg #[.int .u8 y1, .int .i64 y2, .string y3], v, born⟩] clock) := (Below.heap_alloc _ _ b hblt).trans hb
  have hi0 := World.alloc_heap_new W (.mapIter (some b) clock #[] clock)
  have hR : (Instr.range 191 (.map (some b))).run Tryz.prog W = .ok (.pointer (some ⟨W.heap.size, 0, none⟩)) (W.alloc (.mapIter (some b) clock #[] clock)) := by
    simp [Instr.range, run_underlying Tryz.underlying191, run_getAt hb rfl]
  obtain ⟨W2, hW2⟩ : ∃ W2, (W.alloc (.mapIter (some b) clock #[] clock)).putObj W.heap.size (.mapIter (some b) clock #[born] clock) = W2 := ⟨_, rfl⟩
  have hN : (Instr.next (.pointer (some ⟨W.heap.size, 0, none⟩)) false 0).run Tryz.prog (W.alloc (.mapIter (some b) clock #[] clock)) = .ok (.tuple #[.bool true, .agg #[.int .u8 y1, .int .i64 y2, .string y3], v]) W2 := by
    rw [← hW2]
    simp [Instr.next, run_getAt hi0 rfl, run_getAt hb2 rfl, Question.forced, hbc]
    rw [if_neg (by omega)]
    simp [run_setAt hi0 rfl]
  have hi2 : W2.heap[W.heap.size]? = some (.mapIter (some b) clock #[born] clock) := by
    rw [← hW2]; exact World.putObj_heap_same (by simp)
  have hb3 : W2.heap[b]? = some (.map #[⟨.agg #[.int .u8 y1, .int .i64 y2, .string y3], v, born⟩] clock) := by
    rw [← hW2]; exact (World.putObj_heap_other (by omega)).trans hb2
  have hE : (Instr.entry (.pointer (some ⟨W.heap.size, 0, none⟩))).run Tryz.prog W2 = .ok (.tuple #[.agg #[.int .u8 y1, .int .i64 y2, .string y3], v]) W2 := by
    simp [Instr.entry, run_getAt hi2 rfl, run_getAt hb3 rfl]
  have hbel : Below W.heap.size W W2 := by
    rw [← hW2]
    exact ((Below.refl W.heap.size W).alloc (Nat.le_refl _) _).grown (grownBy_putObj_a _ _ _) (by simp) (fun k e => by cases e; exact Nat.le_refl _)
  have hs2 : W2.heap.size = W.heap.size + 1 := by rw [← hW2]; simp
  clear hW2
  obtain ⟨fn, tmps, assign, body, hy, hRd⟩ := hY (W2.alloc (.cells #[.int .u8 y1, .int .i64 y2, .string y3] 47)) (hbel.alloc (by omega) _)
  gi_wp2
  refine wpIn_loop_rounds 2 ?_
  rw [roundsIn_succ]
  gi_wp2
  refine ⟨fun h => absurd h (by simp [Fence.wide]), hRd.mono ?_⟩
  rintro e W3 ⟨rfl, hJ3, hk3⟩
  have hi3 := hk3.same W.heap.size _ ((Below.heap_alloc _ _ _ (by omega)).trans hi2) rfl
  have hb4 := hk3.same b _ ((Below.heap_alloc _ _ _ (by omega)).trans hb3) rfl
  have hN2 : (Instr.next (.pointer (some ⟨W.heap.size, 0, none⟩)) false 0).run Tryz.prog W3 = .ok (.tuple #[.bool false]) W3 := by
    simp [Instr.next, run_getAt hi3 rfl, run_getAt hb4 rfl, Question.forced]
    omega
  gi_wp2
  rw [roundsIn_succ]
  gi_wp2
  go_end0
  exact ⟨⟨_, rfl⟩, hJ3⟩


def apAssign : Code := (Code.region 2
                    #[{ dst := some 5, op := Op.alloc 47, type := 0, pos := "iter.go:51", after := #[], guard := none },
                      { dst := none, op := Op.store 47 (Operand.tmp 5) (Operand.tmp 7), type := 0, pos := "iter.go:51",
                        after := #[{ on := 0, ground := Ground.data }, { on := 0, ground := Ground.phase }],
                        guard := none }]
                    false)
def apBody : Code := (Code.block 1
                    (Code.region 3
                      #[{ dst := some 8, op := Op.load 183 (Operand.tmp 2), type := 183, pos := "iter.go:52",
                          after := #[], guard := none },
                        { dst := some 9, op := Op.load 47 (Operand.tmp 5), type := 47, pos := "iter.go:52",
                          after := #[], guard := none },
                        { dst := some 10, op := Op.buildSlice 183 1 #[(0, Operand.tmp 9)], type := 183,
                          pos := "iter.go:52", after := #[{ on := 1, ground := Ground.data }], guard := none },
                        { dst := some 11,
                          op :=
                            Op.call
                              { callee := Callee.builtin Builtin.append, args := #[Operand.tmp 8, Operand.tmp 10],
                                argTypes := #[183, 183] },
                          type := 183, pos := "iter.go:52",
                          after := #[{ on := 0, ground := Ground.data }, { on := 2, ground := Ground.data }],
                          guard := none },
                        { dst := none, op := Op.store 183 (Operand.tmp 2) (Operand.tmp 11), type := 0,
                          pos := "iter.go:52",
                          after :=
                            #[{ on := 3, ground := Ground.data }, { on := 3, ground := Ground.chain },
                              { on := 0, ground := Ground.phase }, { on := 1, ground := Ground.phase },
                              { on := 2, ground := Ground.phase }, { on := 3, ground := Ground.phase }],
                          guard := none }]
                      false))
def apRec (fn : FuncId) (sv : Value) (Bs D : Nat) (st : LoopState) (pend : Option Code) : Loop :=
  { state := st, pending := pend, fn, tmps := #[.slice none 0 0, sv, .pointer (some ⟨Bs, 0, none⟩), undef, .slice none 0 0, undef, sv, undef, undef, undef, undef, undef, undef], params := #[7], assign := apAssign, body := apBody, defers := D }

/-- Between two rounds. -/
structure ApAt (w0 : World) (fn : FuncId) (sv : Value) (Bs l D : Nat) (v : Value) (W : World) : Prop where
  box : W.heap[Bs]? = some (.cells #[v] 183 (0, 0))
  L : W.heap[l]? = some (.loop (apRec fn sv Bs D .ready none))
  K : W.heap[D]? = some (.deferred (some []))
  below : Below w0.heap.size w0 W

set_option maxRecDepth 100000 in
set_option maxHeartbeats 2000000 in
theorem apYield (m : Nat) (w0 : World) (fn : FuncId) (sv : Value) (Bs l D : Nat) (hBl : Bs ≠ l) (hDl : D ≠ l) (hDB : D ≠ Bs) (h0B : w0.heap.size ≤ Bs) (h0l : w0.heap.size ≤ l)
    (y1 y2 : Int) (y3 : ByteArray) (W : World) (h : ApAt w0 fn sv Bs l D (.slice none 0 0) W) :
    YieldAt Fence.wide m Tryz.prog l #[.agg #[.int .u8 y1, .int .i64 y2, .string y3]] W fun e W' => e = .returned (.bool true) ∧
      (∃ v', ApAt w0 fn sv Bs l D v' W' ∧ W'.ownsRow w0.heap.size 47 3 v' 1 [.int .u8 y1, .int .i64 y2, .string y3]) ∧ KeepsWalks W W' := by
  refine ⟨fn, #[.slice none 0 0, sv, .pointer (some ⟨Bs, 0, none⟩), undef, .slice none 0 0, undef, sv, .agg #[.int .u8 y1, .int .i64 y2, .string y3], undef, undef, undef, undef, undef], apAssign, apBody, by simpa [apRec] using run_yield (P := Tryz.prog) (args := #[.agg #[.int .u8 y1, .int .i64 y2, .string y3]]) h.L rfl, roundIn_of_wpIn trivial ?_⟩
  have hl : l < W.heap.size := (Array.getElem?_eq_some_iff.1 h.L).1
  have hv := h.box
  have hBlt : Bs < W.heap.size := (Array.getElem?_eq_some_iff.1 hv).1
  have hDlt : D < W.heap.size := (Array.getElem?_eq_some_iff.1 h.K).1
  obtain ⟨i0, hi, hz0, hz1, hz2⟩ : ∃ i, Tryz.prog.info? 47 = some i ∧ i.zero = some (.agg #[.int .u8 0, .int .i64 0, .string ⟨#[]⟩]) ∧ i.size = 3 ∧ i.bytes = 32 := ⟨_, rfl, rfl, rfl, rfl⟩
  unfold apAssign
  gi_wp2_with (rw [Oper.semAt_eq _ _ _ (fun c h => by cases h)]; go_simp; try go_bits)
  obtain ⟨V, hV⟩ : ∃ V, W.alloc (.cells #[.int .u8 y1, .int .i64 y2, .string y3] 47) = V := ⟨_, rfl⟩
  rw [hV]
  have hVs : V.heap.size = W.heap.size + 1 := by rw [← hV]; simp
  have hold : ∀ k, k < W.heap.size → V.heap[k]? = W.heap[k]? := fun k hk => by rw [← hV]; exact Below.heap_alloc _ _ k hk
  have hkV : V.heap[W.heap.size]? = some (.cells #[.int .u8 y1, .int .i64 y2, .string y3] 47 (0, 0)) := by rw [← hV]; exact World.alloc_heap_new W _
  have hbV : Below w0.heap.size w0 V := by rw [← hV]; exact h.below.alloc h.below.size _
  have hkwV : KeepsWalks W V := by rw [← hV]; exact KeepsWalks.alloc _ _
  clear hV
  have hLV := (hold l hl).trans h.L
  obtain ⟨W2, hW2⟩ : ∃ W2, V.putObj l (.loop { apRec fn sv Bs D .ready none with state := .busy }) = W2 := ⟨_, rfl⟩
  have hbr := run_beginRound (P := Tryz.prog) hLV rfl
  rw [hW2] at hbr
  refine ⟨W2, hbr, ?_⟩
  have hg2 : V.grownBy W2 (some l) := by rw [← hW2]; exact grownBy_putObj_a _ _ _
  have hk2 : KeepsWalks W W2 := by rw [← hW2]; exact hkwV.trans (KeepsWalks.putObj _ hLV rfl)
  have hv2 : W2.heap[Bs]? = some (.cells #[.slice none 0 0] 183 (0, 0)) := by rw [← hW2]; exact (World.putObj_heap_other hBl).trans ((hold Bs hBlt).trans hv)
  have hK2 : W2.heap[D]? = some (.deferred (some [])) := by rw [← hW2]; exact (World.putObj_heap_other hDl).trans ((hold D hDlt).trans h.K)
  have hL2 : W2.heap[l]? = some (.loop { apRec fn sv Bs D .ready none with state := .busy }) := by rw [← hW2]; exact World.putObj_heap_same (by omega)
  have hkk2 : W2.heap[W.heap.size]? = some (.cells #[.int .u8 y1, .int .i64 y2, .string y3] 47 (0, 0)) := by rw [← hW2]; exact (World.putObj_heap_other (by omega)).trans hkV
  have hs2 : W.heap.size < W2.heap.size := by rw [← hW2]; simp; omega
  have hb2 : Below w0.heap.size w0 W2 := hbV.grown hg2 hbV.size (fun k e => by cases e; exact h0l)
  clear hW2
  obtain ⟨hc2, hf2⟩ := cell_of_box_a hv2
  have c0 : W2.cell? ⟨W.heap.size, 0, none⟩ = some (.int .u8 y1) := by simp [World.cell?, hkk2]
  have c1 : W2.cell? ⟨W.heap.size, 1, none⟩ = some (.int .i64 y2) := by simp [World.cell?, hkk2]
  have c2 : W2.cell? ⟨W.heap.size, 2, none⟩ = some (.string y3) := by simp [World.cell?, hkk2]
  have hcells : ∀ (j : Nat) (u : Value), ([.int .u8 y1, .int .i64 y2, .string y3] : List Value)[j]? = some u → (W2.alloc (.cells #[.int .u8 y1, .int .i64 y2, .string y3] 47)).cell? ((⟨W2.heap.size, 0, none⟩ : Addr).add j) = some u := fun j u hj => by
    have h0 := World.alloc_heap_new W2 (.cells #[.int .u8 y1, .int .i64 y2, .string y3] 47)
    have hadd : (⟨W2.heap.size, 0, none⟩ : Addr).add j = ⟨W2.heap.size, j, none⟩ := by unfold Addr.add; split <;> simp_all
    rw [hadd]
    simp only [World.cell?, h0]
    simpa using hj
  have hbase : w0.heap.size ≤ (W2.alloc (.cells #[.int .u8 y1, .int .i64 y2, .string y3] 47)).heap.size := by have := hb2.size; simp; omega
  have hone : ∀ u ∈ ([.int .u8 y1, .int .i64 y2, .string y3] : List Value), u.oneCell' = true := by simp [Value.oneCell']
  unfold apBody
  gi_wp2_with (first
    | (gi_at_builtin; refine wpListIn_append_own _ rfl _ _ 183 rfl w0.heap.size 47 i0 (.agg #[.int .u8 0, .int .i64 0, .string ⟨#[]⟩]) 3 32 Tryz.underlying183 hi hz0 hz1 hz2 rfl (by decide) (.slice none 0 0) 0 [] rfl ⟨rfl, .inl ⟨rfl, rfl⟩⟩ ⟨W2.heap.size, 0, none⟩ 1 1 [.int .u8 y1, .int .i64 y2, .string y3] rfl rfl hcells hone (by decide) (by decide) hbase ?_
       intro v' w3 hown' hg3 hnil3
       have hv3 : w3.heap[Bs]? = some (.cells #[.slice none 0 0] 183 (0, 0)) := (hg3.block Bs (by simp; omega) (by simp [Value.ownBlock])).trans ((Below.heap_alloc _ _ Bs (by omega)).trans hv2)
       obtain ⟨hc3, hf3⟩ := cell_of_box_a hv3
       obtain ⟨g', cap', cur', rfl, hbase', hgb', hr1, hr2, hr3, hr4⟩ : ∃ g' cap' cur', v' = .slice (some ⟨g', 0, none⟩) 1 cap' ∧ w0.heap.size ≤ g' ∧ w3.heap[g']? = some (.cells cur' 47 (0, 0)) ∧ 1 ≤ cap' ∧ cap' ≤ maxLen ∧ cur'.size = cap' * 3 ∧ cur'.toList.take (1 * 3) = [.int .u8 y1, .int .i64 y2, .string y3] := by
         rcases hown'.2 with ⟨_, h0⟩ | h'
         · exact absurd h0 (by omega)
         · exact h'
       go_frame)
    | (rw [Oper.semAt_eq _ _ _ (fun c h => by cases h)]; go_simp; try go_bits))
  have hL3 : w3.heap[l]? = some (.loop { apRec fn sv Bs D .ready none with state := .busy }) := (hg3.block l (by simp; omega) (by simp [Value.ownBlock])).trans ((Below.heap_alloc _ _ l (by omega)).trans hL2)
  have hK3 : w3.heap[D]? = some (.deferred (some [])) := (hg3.block D (by simp; omega) (by simp [Value.ownBlock])).trans ((Below.heap_alloc _ _ D (by omega)).trans hK2)
  obtain ⟨w4, hw4⟩ : ∃ w4, w3.setCell ⟨Bs, 0, none⟩ (.slice (some ⟨g', 0, none⟩) 1 cap') = w4 := ⟨_, rfl⟩
  rw [hw4]
  have hg4 : w3.grownBy w4 (some Bs) := by rw [← hw4]; exact grownBy_setCell0_a _ _ _
  have hv4 : w4.heap[Bs]? = some (.cells #[.slice (some ⟨g', 0, none⟩) 1 cap'] 183 (0, 0)) := by rw [← hw4]; exact heap_setCell_box_a _ hv3
  have hL4 : w4.heap[l]? = some (.loop { apRec fn sv Bs D .ready none with state := .busy }) := (hg4.block l (Array.getElem?_eq_some_iff.1 hL3).1 (fun e => hBl (by cases e; rfl))).trans hL3
  have hK4 : w4.heap[D]? = some (.deferred (some [])) := (hg4.block D (Array.getElem?_eq_some_iff.1 hK3).1 (fun e => hDB (by cases e; rfl))).trans hK3
  have hrow4 := hown'.kept hg4 (ownsRow_ne_a hown' hv3 (fun cur e => by cases e))
  have hl4 : l < w4.heap.size := (Array.getElem?_eq_some_iff.1 hL4).1
  have hb3 : Below w0.heap.size w0 w3 := (hb2.alloc hb2.size _).grown hg3 (by have := hb2.size; simp; omega) (fun k e => by cases e)
  have hb4 : Below w0.heap.size w0 w4 := hb3.grown hg4 hb3.size (fun k e => by cases e; exact h0B)
  have hk4 : KeepsWalks W w4 := ((hk2.trans (KeepsWalks.alloc _ _)).trans (KeepsWalks.of_grownBy hg3 (fun j o e => by cases e))).trans (by rw [← hw4]; exact KeepsWalks.setCell _ _ _)
  clear hw4
  refine ⟨_, _, run_endRound none hL4, rfl, ⟨_, ⟨(World.putObj_heap_other hBl).trans hv4, World.putObj_heap_same hl4, (World.putObj_heap_other hDl).trans hK4, hb4.grown (grownBy_putObj_a _ _ _) hb4.size (fun k e => by cases e; exact h0l)⟩, ?_⟩, hk4.trans (KeepsWalks.putObj _ hL4 rfl)⟩
  exact hrow4.kept (grownBy_putObj_a w4 l _) (ownsRow_ne_a hrow4 hL4 (fun cur e => by cases e))

set_option maxRecDepth 100000 in
set_option maxHeartbeats 2000000 in
theorem appendSeq (n : Nat) (hn : 2 ≤ n) (Bm : Nat) (w : World) (Rv : Value → World → Prop)
    (hRv : ∀ v W W' j o, Rv v W → W.grownBy W' (some j) → W.heap[j]? = some o → (∀ cur e fr, o ≠ .cells cur e fr) → Rv v W')
    (hseq : ∀ (fn l Bs D : Nat) (sv : Value) (W : World), Below w.heap.size w W → Bs ≠ l → D ≠ l → D ≠ Bs → w.heap.size ≤ Bs → w.heap.size ≤ l → ApAt w fn sv Bs l D (.slice none 0 0) W →
      CallsIn Fence.wide (n - 1) Tryz.prog 215 #[.func (.yield l) #[] #[], .pointer (some ⟨Bm, 0, none⟩)] W fun e W' => (∃ v, e = .returned v) ∧ ∃ v', ApAt w fn sv Bs l D v' W' ∧ Rv v' W' ∧ (v' = .slice none 0 0 ∨ ∃ g c, v' = .slice (some ⟨g, 0, none⟩) 1 c)) :
    CallsIn Fence.wide n Tryz.prog 246 #[.slice none 0 0, .func (.func 215) #[] #[.pointer (some ⟨Bm, 0, none⟩)]] w fun e w' => ∃ v, e = .returned v ∧ Rv v w' ∧ Below w.heap.size w w' := by
  have h1 : 1 ≤ n := by omega
  refine callsIn_of_wp_marks Tryz.func246 rfl trivial ?_ rfl
  simp only [Tryz.ntmps246, List.size_toArray, List.length_cons, List.length_nil, Nat.reduceAdd, Nat.reduceSub, Array.replicate_succ, Array.replicate_zero, List.push_toArray, List.append_toArray, List.nil_append, List.cons_append]
  gi_wp2
  refine wpIn_rangeFunc ?_
  intro fn hfn
  obtain ⟨W0, hW0⟩ : ∃ W0, w.alloc (.cells #[.slice none 0 0] 183) = W0 := ⟨_, rfl⟩
  have hs0 : W0.heap.size = w.heap.size + 1 := by rw [← hW0]; simp
  have hv0 : W0.heap[w.heap.size]? = some (.cells #[.slice none 0 0] 183 (0, 0)) := by rw [← hW0]; exact World.alloc_heap_new w _
  have hb0 : Below w.heap.size w W0 := by rw [← hW0]; exact (Below.refl _ w).alloc (Nat.le_refl _) _
  rw [hW0]
  obtain ⟨sv, hsv⟩ : ∃ sv : Value, .func (.func 215) #[] #[.pointer (some ⟨Bm, 0, none⟩)] = sv := ⟨_, rfl⟩
  obtain ⟨W1, hW1⟩ : ∃ W1, (W0.alloc (.deferred (some []))).alloc (.loop (apRec fn sv w.heap.size W0.heap.size .ready none)) = W1 := ⟨_, rfl⟩
  have hold : ∀ k, k < W0.heap.size → W1.heap[k]? = W0.heap[k]? := fun k hk => by
    rw [← hW1]; exact (Below.heap_alloc _ _ k (by simp; omega)).trans (Below.heap_alloc _ _ k hk)
  have hb1 : Below w.heap.size w W1 := by rw [← hW1]; exact (hb0.alloc hb0.size _).alloc (by have := hb0.size; simp; omega) _
  have hs1 : W1.heap.size = W0.heap.size + 2 := by rw [← hW1]; simp
  have hM : ApAt w fn sv w.heap.size (W0.heap.size + 1) W0.heap.size (.slice none 0 0) W1 :=
    ⟨(hold w.heap.size (by omega)).trans hv0,
     by rw [← hW1]; have := World.alloc_heap_new (W0.alloc (.deferred (some []))) (.loop (apRec fn sv w.heap.size W0.heap.size .ready none)); rwa [World.size_alloc] at this,
     by rw [← hW1]; exact (Below.heap_alloc _ _ _ (by simp)).trans (World.alloc_heap_new W0 _), hb1⟩
  refine ⟨W0.heap.size + 1, [{ target := .collected W0.heap.size, args := #[] }], W1, { target := .fn (.func 215) #[.pointer (some ⟨Bm, 0, none⟩)], args := #[.func (.yield (W0.heap.size + 1)) #[] #[]] }, W1, 215,
    #[.func (.yield (W0.heap.size + 1)) #[] #[], .pointer (some ⟨Bm, 0, none⟩)], W1, ?_, ?_, ?_, ?_, fun _ => h1, ?_⟩
  · rw [← hW1, ← hsv]; exact run_enterLoop_outer _ _ _ _ _
  · simp [resolve, go_sem]
  · intro f' hf'; trivial
  · have eg : ∀ args w, (callFunc 215 args).run Tryz.prog w = .ok (.enter 215 args) w := fun args w => enters_run Tryz.func215 (by kernel_rfl) rfl args w
    simp [invoke, go_sem, eg]
  · refine (hseq fn (W0.heap.size + 1) w.heap.size W0.heap.size sv W1 hb1 (by omega) (by omega) (by omega) (Nat.le_refl _) (by omega) hM).mono ?_
    rintro e W2 ⟨⟨v0, rfl⟩, v, h2, hr2, hsh⟩
    have hend := run_endLoop (P := Tryz.prog) h2.L (by simp [apRec])
    obtain ⟨W3, hW3⟩ : ∃ W3, W2.putObj (W0.heap.size + 1) (.loop { apRec fn sv w.heap.size W0.heap.size .ready none with state := .exhausted }) = W3 := ⟨_, rfl⟩
    rw [hW3] at hend
    have hg3 : W2.grownBy W3 (some (W0.heap.size + 1)) := by rw [← hW3]; exact grownBy_putObj_a _ _ _
    have hv3 : W3.heap[w.heap.size]? = some (.cells #[v] 183 (0, 0)) := by rw [← hW3]; exact (World.putObj_heap_other (by omega)).trans h2.box
    have hK3 : W3.heap[W0.heap.size]? = some (.deferred (some [])) := by rw [← hW3]; exact (World.putObj_heap_other (by omega)).trans h2.K
    have hr3 : Rv v W3 := hRv v W2 W3 _ _ hr2 hg3 h2.L (fun cur e fr h => by cases h)
    have hb3 : Below w.heap.size w W3 := h2.below.grown hg3 h2.below.size (fun k e => by cases e; omega)
    obtain ⟨hc3, hf3⟩ := cell_of_box_a hv3
    clear hW3
    refine ⟨none, W3, hend, ?_⟩
    rcases hsh with rfl | ⟨g, c, rfl⟩
    · gi_wp2
      rw [← hs0]
      refine ⟨by simp, .inl ⟨_, _, rfl, run_takeDeferred hK3, ?_⟩⟩
      exact ⟨_, results_tmp rfl _ _ _, .slice none 0 0, rfl, hRv _ W3 _ _ _ hr3 (grownBy_putObj_a _ _ _) hK3 (fun cur e fr h => by cases h), hb3.grown (grownBy_putObj_a _ _ _) hb3.size (fun k e => by cases e; omega)⟩
    · gi_wp2
      rw [← hs0]
      refine ⟨by simp, .inl ⟨_, _, rfl, run_takeDeferred hK3, ?_⟩⟩
      exact ⟨_, results_tmp rfl _ _ _, .slice (some ⟨g, 0, none⟩) 1 c, rfl, hRv _ W3 _ _ _ hr3 (grownBy_putObj_a _ _ _) hK3 (fun cur e fr h => by cases h), hb3.grown (grownBy_putObj_a _ _ _) hb3.size (fun k e => by cases e; omega)⟩

/-- Nothing has come. -/
theorem seq_none (Bm : Nat) (w : World) (hk : ∀ l W, Below w.heap.size w W → ∃ o : Obj, CallsIn Fence.wide 1 Tryz.prog 215 #[.func (.yield l) #[] #[], .pointer (some ⟨Bm, 0, none⟩)] W fun e W' => (∃ v, e = .returned v) ∧ W' = W.alloc o) :
    Calls Tryz.prog 246 #[.slice none 0 0, .func (.func 215) #[] #[.pointer (some ⟨Bm, 0, none⟩)]] w fun e w' => e = .returned (.slice none 0 0) ∧ Below w.heap.size w w' := by
  have h := appendSeq 2 (by decide) Bm w (fun v _ => v = .slice none 0 0) (fun v W W' j o h _ _ _ => h) (fun fn l Bs D sv W hW h1 h2 h3 h4 h5 hA => by
    obtain ⟨o, ho⟩ := hk l W hW
    refine ho.mono ?_
    rintro e W' ⟨he, rfl⟩
    have hlt : ∀ {k : Nat} {x : Obj}, W.heap[k]? = some x → (W.alloc o).heap[k]? = some x := fun {k x} hx => (Below.heap_alloc _ _ k (Array.getElem?_eq_some_iff.1 hx).1).trans hx
    exact ⟨he, _, ⟨hlt hA.box, hlt hA.L, hlt hA.K, hA.below.alloc hA.below.size _⟩, rfl, .inl rfl⟩)
  refine (h.calls (fun k => room_wide k)).mono ?_
  rintro e w' ⟨v, rfl, rfl, hb⟩
  exact ⟨rfl, hb⟩

/-- One key has come. -/
theorem seq_one (Bm b clock born : Nat) (y1 y2 : Int) (y3 : ByteArray) (v : Value) (hbc : born < clock) (w : World) (hm : w.cell? ⟨Bm, 0, none⟩ = some (.map (some b))) (hb : w.heap[b]? = some (.map #[⟨.agg #[.int .u8 y1, .int .i64 y2, .string y3], v, born⟩] clock)) (hBm : Bm < w.heap.size) :
    Calls Tryz.prog 246 #[.slice none 0 0, .func (.func 215) #[] #[.pointer (some ⟨Bm, 0, none⟩)]] w fun e w' => ∃ v', e = .returned v' ∧ w'.ownsRow w.heap.size 47 3 v' 1 [.int .u8 y1, .int .i64 y2, .string y3] ∧ Below w.heap.size w w' := by
  have hblt : b < w.heap.size := (Array.getElem?_eq_some_iff.1 hb).1
  have h := appendSeq 2 (by decide) Bm w (fun v' W => W.ownsRow w.heap.size 47 3 v' 1 [.int .u8 y1, .int .i64 y2, .string y3]) (fun v' W W' j o hr hg ho hno => hr.kept hg (ownsRow_ne_a hr ho (fun cur => hno cur _ _))) (fun fn l Bs D sv W hW h1 h2 h3 h4 h5 hA => by
    have hm' : W.cell? ⟨Bm, 0, none⟩ = some (.map (some b)) := by
      rw [← hm]; unfold World.cell?; rw [hW.block Bm hBm]
    refine (keys1_one 1 l Bm b clock born y1 y2 y3 v hbc W hm' ((hW.block b hblt).trans hb) (fun W' => ∃ v', ApAt w fn sv Bs l D v' W' ∧ W'.ownsRow w.heap.size 47 3 v' 1 [.int .u8 y1, .int .i64 y2, .string y3]) fun W1 hW1 => ?_).mono ?_
    · have hlt : ∀ {k : Nat} {x : Obj}, W.heap[k]? = some x → W1.heap[k]? = some x := fun {k x} hx => (hW1.block k (Array.getElem?_eq_some_iff.1 hx).1).trans hx
      exact (apYield 0 w fn sv Bs l D h1 h2 h3 h4 h5 y1 y2 y3 W1 ⟨hlt hA.box, hlt hA.L, hlt hA.K, hA.below.trans (hW1.mono hA.below.size)⟩)
    · rintro e W' ⟨he, v', hA', hr'⟩
      refine ⟨he, v', hA', hr', ?_⟩
      rcases hr'.2 with ⟨_, h0⟩ | ⟨g, cap, cur, rfl, _⟩
      · exact absurd h0 (by decide)
      · exact .inr ⟨g, cap, rfl⟩)
  refine (h.calls (fun k => room_wide k)).mono ?_
  rintro e w' ⟨v', rfl, hr, hb'⟩
  exact ⟨v', rfl, hr, hb'⟩

theorem xKeyCells_some {k : V} {l : List V} (h : xKeyCells k = some l) : ∃ a c n s, k = .agg [.int .u8 a, .int .i64 c, .str n s] ∧ l = [.int .u8 a, .int .i64 c, .str n s] := by
  unfold xKeyCells at h
  split at h
  · rename_i j a i c n s
    cases hb : andB (sameKind j .u8) (sameKind i .i64) with
    | false => rw [hb] at h; cases h
    | true =>
      rw [hb, bel_true] at h
      simp only [andB_eq, Bool.and_eq_true] at hb
      have h1 := sameKind_eq hb.1
      have h2 := sameKind_eq hb.2
      subst h1; subst h2
      exact ⟨a, c, n, s, rfl, (Option.some.inj h).symm⟩
  · cases h

theorem ext_append : ∀ (l : List V) (t : Hp) (nx : Nat) (m : Inj) (w : World), xAppendSeq 215 47 l t nx ≠ .fail → 64 ≤ nx → Rel m t nx w → okL m (Lt nx) l →
    CallsF Tryz.prog 246 (gamL m l).toArray w (CPost m t nx w (xAppendSeq 215 47 l t nx)) := by
  intro l t nx m w h h64 hr hl
  unfold xAppendSeq at h ⊢
  split at h
  · rename_i g b
    obtain ⟨hb, e⟩ := cbel_fail h; rw [e] at h ⊢; clear e
    have hg : g = 215 := Nat.eq_of_beq_eq_true hb
    subst hg
    obtain ⟨lv, hlv, e⟩ := crel_fail h; rw [e] at h ⊢; clear e
    obtain ⟨-, -, -, hcells⟩ := loadN_run hr hlv
    left
    refine ⟨enters_run Tryz.func246 (by kernel_rfl) rfl _ w, ?_⟩
    have hargs : (gamL m [V.nils, .fn 215 [] [.ptr b 0]]).toArray = #[.slice none 0 0, .func (.func 215) #[] #[.pointer (some ⟨m.ρ b, 0, none⟩)]] := by simp [gam, gamL]
    rw [hargs]
    unfold xSeqAt at h ⊢
    split at h
    · -- nil
      have h0 : w.cell? ⟨m.ρ b, 0, none⟩ = some (.map none) := (hcells 0 .nilm rfl).trans (by rw [gam])
      have hlt : m.ρ b < w.heap.size := by
        rcases Nat.lt_or_ge (m.ρ b) w.heap.size with h' | h'
        · exact h'
        · simp [World.cell?, Array.getElem?_eq_none h'] at h0
      refine (seq_none (m.ρ b) w fun l W hW => ⟨_, keys1_none 1 l (m.ρ b) W (by rw [← h0]; unfold World.cell?; rw [hW.block _ hlt])⟩).mono fun e w' ⟨h1, h2⟩ => ?_
      subst h1
      exact ⟨m, by rw [gam], goes_below hr h2, trivial⟩
    · rename_i mm
      obtain ⟨es, hes, e⟩ := crel_fail h; rw [e] at h ⊢; clear e
      have hm := mapAt_some hes
      have h0 : w.cell? ⟨m.ρ b, 0, none⟩ = some (.map (some (m.ρ mm))) := (hcells 0 (.map mm) rfl).trans (by rw [gam])
      have hlt : m.ρ b < w.heap.size := by
        rcases Nat.lt_or_ge (m.ρ b) w.heap.size with h' | h'
        · exact h'
        · simp [World.cell?, Array.getElem?_eq_none h'] at h0
      obtain ⟨hmlt, hmb, hmok⟩ := hr.blk mm _ hm
      obtain ⟨el, cl⟩ := es
      have hmb : w.heap[m.ρ mm]? = some (.map (el.map (gamE m)).toArray cl) := hmb
      change xSeqOf 47 el cl t nx ≠ .fail at h
      show Calls Tryz.prog 246 _ w (CPost m t nx w (xSeqOf 47 el cl t nx))
      clear hes hm hmok
      match el, hmb, h with
      | [], hmb, h =>
        have h : CR.ret .nils t nx none ≠ .fail := h
        show Calls Tryz.prog 246 _ w (CPost m t nx w (.ret .nils t nx none))
        have hmlt2 : m.ρ mm < w.heap.size := (Array.getElem?_eq_some_iff.1 hmb).1
        refine (seq_none (m.ρ b) w fun l W hW => ⟨_, keys1_empty 1 l (m.ρ b) (m.ρ mm) cl W (by rw [← h0]; unfold World.cell?; rw [hW.block _ hlt]) ((hW.block _ hmlt2).trans hmb)⟩).mono fun e w' ⟨h1, h2⟩ => ?_
        subst h1
        exact ⟨m, by rw [gam], goes_below hr h2, trivial⟩
      | [ent], hmb, h =>
        change bel (Nat.ble (Nat.succ ent.2.2) cl) (oel (xKeyCells ent.1) (fun l => CR.ofR (rowK 3 47 l fun b => newK t nx b fun t nx => rEnd t nx) (.sl nx 0 1 (.up 0))) .fail) .fail ≠ .fail at h
        show Calls Tryz.prog 246 _ w (CPost m t nx w (bel (Nat.ble (Nat.succ ent.2.2) cl) (oel (xKeyCells ent.1) (fun l => CR.ofR (rowK 3 47 l fun b => newK t nx b fun t nx => rEnd t nx) (.sl nx 0 1 (.up 0))) .fail) .fail))
        obtain ⟨hbc, e⟩ := cbel_fail h; rw [e] at h ⊢; clear e
        obtain ⟨kc, hkc, e⟩ := crel_fail h; rw [e] at h ⊢; clear e
        have hborn : ent.2.2 < cl := Nat.le_of_ble_eq_true hbc
        obtain ⟨a, c, n, s, hk, hkl⟩ := xKeyCells_some hkc
        subst hkl
        have hmb' : w.heap[m.ρ mm]? = some (.map #[⟨.agg #[.int .u8 a, .int .i64 c, .string (toBA n s)], gam m ent.2.1, ent.2.2⟩] cl) := by
          rw [hmb]
          simp [gamE, hk, gam, gamL]
        refine (seq_one (m.ρ b) (m.ρ mm) cl ent.2.2 a c (toBA n s) (gam m ent.2.1) hborn w h0 hmb' hlt).mono fun e w' ⟨v', h1, h2, h3⟩ => ?_
        subst h1
        obtain ⟨g, cap, cur, rfl, hgb, hgh, hc1, hc2, hc3, hc4⟩ : ∃ g cap cur, v' = .slice (some ⟨g, 0, none⟩) 1 cap ∧ w.heap.size ≤ g ∧ w'.heap[g]? = some (.cells cur 47 (0, 0)) ∧ 1 ≤ cap ∧ cap ≤ maxLen ∧ cur.size = cap * 3 ∧ cur.toList.take (1 * 3) = [.int .u8 a, .int .i64 c, .string (toBA n s)] := by
          rcases h2.2 with ⟨_, h0⟩ | h'
          · exact absurd h0 (by decide)
          · exact h'
        rw [rowK_eq, newK_eq]
        have hB : BlkR (m.at nx g cap h64) (Lt (nx + 1)) nx (rowB 3 47 [V.int .u8 a, .int .i64 c, .str n s]) (some (.cells cur 47 (0, 0))) := by
          refine rowB_blk (fun j v hj => ?_) ⟨trivial, trivial, trivial, trivial⟩ (by simp [isCell]) (by simpa using hc1) (by simp [hc3, beqN]) (by simp)
          have h4 : (cur.toList.take 3)[j]? = ([.int .u8 a, .int .i64 c, .string (toBA n s)] : List Value)[j]? := by rw [show (3 : Nat) = 1 * 3 from rfl, hc4]
          have hj3 : j < 3 := (List.getElem?_eq_some_iff.1 hj).1
          rw [List.getElem?_take, if_pos hj3, Array.getElem?_toList] at h4
          rw [h4]
          have hmap : ([.int .u8 a, .int .i64 c, .string (toBA n s)] : List Value) = [V.int .u8 a, .int .i64 c, .str n s].map (gam (m.at nx g cap h64)) := by simp [gam]
          rw [hmap, List.getElem?_map, hj]
          rfl
        refine ⟨m.at nx g cap h64, ?_, goes_below_new hr h3 h64 hgb (by rw [hgh]; exact hB), Nat.lt_succ_self _, ?_⟩
        · simp [gam, capG]
        · rw [Inj.at_κ]; omega
      | _ :: _ :: _, _, h => exact absurd rfl h
    · exact absurd rfl h
  · exact absurd rfl h
end Go.X
end
