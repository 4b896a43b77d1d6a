/- Parts of the proof: XSemS, XSemT, XSemU. -/
import Derived.Laws.Append
import Derived.Test.YtlkhkalniekaoaaGreatDoorQae

set_option linter.unusedVariables false
set_option linter.unusedSimpArgs false

section
/- The reckoner: operations that change memory. -/
namespace Go.X
open Go
variable {P : Program} {s : CallT} {o : Oper} {k : K} {tm : Env} {d : Dx} {t : Hp} {nx : Nat}

/-- An operation's effect. -/
def EffOK (P : Program) (o : Oper) (tm : Env) (t : Hp) (nx : Nat) (v : V) (t' : Hp) (nx' : Nat) : Prop :=
  ∀ (m : Inj) (w : World) (ρ : Operand → Value), 64 ≤ nx → Rel m t nx w → OpsR m (Lt nx) tm o ρ →
    ∃ (m' : Inj) (w' : World) (r : Next), (execOp ρ o).run P w = .ok r w' ∧ (r = .value (gam m' v) ∨ r = .skip ∧ v = undefV) ∧ Goes m t nx w m' t' nx' w' ∧ okV m' (Lt nx') v

theorem PureOK.eff {v : V} (h : PureOK P o tm v) : EffOK P o tm t nx v t nx := fun m w ρ _ hr ho => by
  obtain ⟨h1, h2⟩ := h m (Lt nx) w ρ ho
  exact ⟨m, w, _, h1, .inl rfl, Goes.refl hr, h2⟩
theorem ReadOK.eff {v : V} (h : ReadOK P o tm t v) : EffOK P o tm t nx v t nx := fun m w ρ _ hr ho => by
  obtain ⟨h1, h2⟩ := h m (Lt nx) nx w ρ ho (fun _ h => h) hr
  exact ⟨m, w, _, h1, .inl rfl, Goes.refl hr, h2⟩

/-- One new block. -/
theorem Goes.new {m : Inj} {w w' : World} {obj : Obj} {blk : Blk} {kk : Nat} (h64 : 64 ≤ nx) (hr : Rel m t nx w) (hp : Pushed w w' obj) (hb : BlkR (m.at nx w.heap.size kk h64) (Lt (nx + 1)) nx blk (some obj)) :
    Goes m t nx w (m.at nx w.heap.size kk h64) (t.set nx (some blk)) (nx + 1) w' where
  agree := m.at_agree nx w.heap.size kk h64
  rel := by
    constructor
    · intro b x hbx
      by_cases e : b = nx
      · subst e
        rw [Tr.get_set_self] at hbx
        cases hbx
        refine ⟨Nat.lt_succ_self _, ?_⟩
        rw [Inj.at_ρ, hp.heap]
        simpa using hb
      · rw [Tr.get_set_other _ _ e] at hbx
        obtain ⟨h1, h2⟩ := hr.blk b x hbx
        refine ⟨Nat.lt_succ_of_lt h1, ?_⟩
        have hρ : (m.at nx w.heap.size kk h64).ρ b = m.ρ b := (m.at_agree nx w.heap.size kk h64 b h1).1
        rw [hρ, hp.heap]
        have hlt := hr.lt (b := b) (by rw [hbx]; simp)
        rw [Array.getElem?_push, if_neg (Nat.ne_of_lt hlt)]
        exact h2.ext (m.at_agree nx w.heap.size kk h64) (fun c hc => Nat.lt_succ_of_lt hc) h1
    · intro b b' hb1 hb2 he
      have key : ∀ b, (t.set nx (some blk)).get b ≠ none → b ≠ nx → t.get b ≠ none ∧ (m.at nx w.heap.size kk h64).ρ b = m.ρ b ∧ m.ρ b < w.heap.size := fun b hb hne => by
        rw [Tr.get_set_other _ _ hne] at hb
        exact ⟨hb, (m.at_agree nx w.heap.size kk h64 b (hr.below hb)).1, hr.lt hb⟩
      by_cases e1 : b = nx <;> by_cases e2 : b' = nx
      · rw [e1, e2]
      · obtain ⟨_, h2, h3⟩ := key b' hb2 e2
        rw [e1, Inj.at_ρ, h2] at he
        omega
      · obtain ⟨_, h2, h3⟩ := key b hb1 e1
        rw [e2, Inj.at_ρ, h2] at he
        omega
      · obtain ⟨g1, g2, g3⟩ := key b hb1 e1
        obtain ⟨g4, g5, g6⟩ := key b' hb2 e2
        rw [g2, g5] at he
        exact hr.inj b b' g1 g4 he
  up := Nat.le_succ _
  size := by rw [hp.heap]; simp
  keep := fun c hc _ => by rw [hp.heap, Array.getElem?_push, if_neg (Nat.ne_of_lt hc)]
  live := fun b hb hl => by rwa [Tr.get_set_other _ _ (Nat.ne_of_lt hb)] at hl
  fresh := fun b hb hl => by
    by_cases e : b = nx
    · subst e; exact .inl (by rw [Inj.at_ρ]; exact Nat.le_refl _)
    · rw [Tr.get_set_other _ _ e] at hl
      exact absurd (hr.below hl) (Nat.not_lt.2 hb)
  tape := hp.tape
  os := hp.os
  output := hp.output
  still := Still.same (fun b hb _ => .inl (Tr.get_set_other _ _ (Nat.ne_of_lt hb))) (fun b _ hne _ => by rw [hp.heap, Array.getElem?_push, if_neg (Nat.ne_of_lt (hr.lt hne))])

theorem AllocOK.eff {blk : Blk} {val : Nat → V} (h : AllocOK P o tm blk val) : EffOK P o tm t nx (val nx) (t.set nx (some blk)) (nx + 1) := fun m w ρ h64 hr ho => by
  obtain ⟨kk, obj, w', h1, h2, h3, h4, _⟩ := h m (Lt nx) w ρ nx h64 (Nat.lt_irrefl nx) ho
  have hS : ∀ b, (Lt nx b ∨ b = nx) → Lt (nx + 1) b := fun b hb => by rcases hb with hb | rfl; exact Nat.lt_succ_of_lt hb; exact Nat.lt_succ_self _
  refine ⟨_, w', _, h1, .inl rfl, Goes.new h64 hr h2 ?_, okV_mono hS h4⟩
  exact h3.ext (Inj.agree.refl _ _) hS (.inr rfl)

/-- One object that changed. -/
structure Changed (w w' : World) (r : Nat) (obj : Obj) : Prop where
  heap : w'.heap = w.heap.setIfInBounds r obj
  tape : w'.tape = w.tape
  os : w'.os = w.os
  output : w'.output = w.output

theorem Goes.chg {m : Inj} {w w' : World} {obj : Obj} {b : Nat} {x x' : Blk} (hr : Rel m t nx w) (hx : t.get b = some x) (hp : Changed w w' (m.ρ b) obj) (hb : BlkR m (Lt nx) b x' (some obj))
    (hkl : ∀ es, x ≠ .lmap es) (hkc : ∀ c ty fr, w.heap[m.ρ b]? = some (.cells c ty fr) → ∃ c', obj = .cells c' ty fr ∧ c'.size = c.size) :
    Goes m t nx w m (t.set b (some x')) nx w' where
  agree := Inj.agree.refl _ _
  rel := by
    have hbl : t.get b ≠ none := by rw [hx]; simp
    constructor
    · intro c y hc
      by_cases e : c = b
      · subst e
        rw [Tr.get_set_self] at hc
        cases hc
        refine ⟨hr.below hbl, ?_⟩
        rw [hp.heap, Array.getElem?_setIfInBounds]
        simpa [hr.lt hbl] using hb
      · rw [Tr.get_set_other _ _ e] at hc
        obtain ⟨h1, h2⟩ := hr.blk c y hc
        refine ⟨h1, ?_⟩
        have hne : m.ρ b ≠ m.ρ c := fun h => e (hr.inj b c hbl (by rw [hc]; simp) h).symm
        rw [hp.heap, Array.getElem?_setIfInBounds_ne hne]
        exact h2
    · intro c c' hc hc' he
      have key : ∀ c, (t.set b (some x')).get c ≠ none → t.get c ≠ none := fun c hc => by
        by_cases e : c = b
        · rw [e]; exact hbl
        · rwa [Tr.get_set_other _ _ e] at hc
      exact hr.inj c c' (key c hc) (key c' hc') he
  up := Nat.le_refl _
  size := by rw [hp.heap]; simp
  keep := fun c hc hn => by
    rw [hp.heap, Array.getElem?_setIfInBounds_ne (hn b (by rw [hx]; simp))]
  live := fun c hc hl => by
    by_cases e : c = b
    · rw [e, hx]; simp
    · rwa [Tr.get_set_other _ _ e] at hl
  fresh := fun c hc hl => by
    by_cases e : c = b
    · exact absurd (hr.blk b x hx).1 (by rw [← e]; exact Nat.not_lt.2 hc)
    · rw [Tr.get_set_other _ _ e] at hl
      exact absurd (hr.below hl) (Nat.not_lt.2 hc)
  tape := hp.tape
  os := hp.os
  output := hp.output
  still := fun c y hc hy => by
    have hbl : t.get b ≠ none := by rw [hx]; simp
    by_cases e : c = b
    · subst e
      rw [hx] at hy
      cases hy
      refine .inr ⟨fun es he => absurd he (hkl es), fun es he => absurd he (hkl es), fun cs ty fr ho => ?_⟩
      obtain ⟨c', e1, e2⟩ := hkc cs ty fr ho
      refine ⟨c', ?_, e2⟩
      rw [hp.heap, Array.getElem?_setIfInBounds, if_pos rfl, if_pos (hr.lt hbl), e1]
    · have hne : m.ρ b ≠ m.ρ c := fun h => e (hr.inj b c hbl (by rw [hy]; simp) h).symm
      refine .inr ⟨fun _ _ => by rw [Tr.get_set_other _ _ e]; exact hy, Kept.same ?_⟩
      rw [hp.heap, Array.getElem?_setIfInBounds_ne hne]

/-! ### Stores -/
theorem setRow_changed (w : World) (g : Nat) (cur cs : Array Value) (ty : TypeId) (fr : Nat × Nat) (hg : w.heap[g]? = some (.cells cur ty fr)) : Changed w (w.setRow g cs) g (.cells cs ty fr) := by
  refine ⟨?_, rfl, rfl, rfl⟩
  apply Array.ext_getElem?
  intro i
  rw [Array.getElem?_setIfInBounds]
  by_cases h : g = i
  · subst h
    have hlt : g < w.heap.size := (Array.getElem?_eq_some_iff.1 hg).1
    rw [setRow_heap w g cur cs ty fr hg]
    simp [hlt]
  · rw [if_neg h]; exact setRow_other w g i cs (Ne.symm h)
theorem setRow_self' (w : World) (g : Nat) (cur : Array Value) (t : TypeId) (fr : Nat × Nat) (hg : w.heap[g]? = some (.cells cur t fr)) : w.setRow g cur = w := setRow_self w g cur t fr hg

theorem run_storeCells_fr (g o : Nat) (ty : TypeId) (fr : Nat × Nat) : ∀ (vs : List Value) (i : Nat) (cur : Array Value) (w : World), w.heap[g]? = some (.cells cur ty fr) → o + i + vs.length ≤ cur.size → (∀ v ∈ vs, v.oneCell' = true) →
    (∀ j, o + i ≤ j → j < o + i + vs.length → ¬ (fr.1 ≤ j ∧ j < fr.2)) →
    (storeCells ⟨g, o, none⟩ vs i).run P w = .ok () (w.setRow g (cur.toList.take (o + i) ++ vs ++ cur.toList.drop (o + i + vs.length)).toArray)
  | [], i, cur, w, hg, _, _, _ => by
    simp only [storeCells, List.append_nil, List.length_nil, Nat.add_zero, List.take_append_drop, Array.toArray_toList]
    rw [setRow_self w g cur ty fr hg]
    rfl
  | v :: rest, i, cur, w, hg, hl, h1, hf => by
    have hlt : o + i < cur.size := by simp only [List.length_cons] at hl; omega
    have hcell : w.cell? ⟨g, o + i, none⟩ = some cur[o + i] := by simp [World.cell?, hg, hlt]
    have hfr : w.frozen? ⟨g, o + i, none⟩ = false := by
      have := hf (o + i) (Nat.le_refl _) (by simp only [List.length_cons]; omega)
      simp only [World.frozen?, hg]
      rw [Bool.eq_false_iff]
      simpa using this
    have hv : v.oneCell' = true := h1 v (List.mem_cons_self ..)
    simp only [storeCells, Sem.run_bind, add_none, run_store P w _ v .plain hv, hcell, hfr, Bool.false_eq_true, if_false, Result.andThen_ok]
    rw [setCell_eq_setRow w g (o + i) cur ty fr v hg]
    have hg' := setRow_heap w g cur (cur.setIfInBounds (o + i) v) ty fr hg
    rw [run_storeCells_fr g o ty fr rest (i + 1) (cur.setIfInBounds (o + i) v) _ hg' (by simp only [List.length_cons] at hl; simpa using by omega)
      (fun u hu => h1 u (List.mem_cons_of_mem _ hu)) (fun j h1 h2 => hf j (by omega) (by simp only [List.length_cons]; omega))]
    rw [setRow_setRow]
    congr 3
    have := list_seg_step cur.toList (o + i) v rest (by simp only [List.length_cons] at hl; simpa using hl)
    simp only [Array.toList_setIfInBounds, List.length_cons]
    rw [show o + (i + 1) = o + i + 1 by omega, this]

/-- What storing comes to, on the row of chunks. -/
def Stored (ch n : Nat) (els els' : Tr (List V)) (off : Nat) (vs : List V) : Prop :=
  off + vs.length ≤ n * ch ∧ ∀ j v, cellAt ch n els' j = some v → (off ≤ j ∧ j < off + vs.length ∧ vs[j - off]? = some v) ∨ (¬ (off ≤ j ∧ j < off + vs.length) ∧ cellAt ch n els j = some v)

theorem divmod_lt {i ch : Nat} (hch : 0 < ch) {j : Nat} : j / ch = i ↔ ch * i ≤ j ∧ j < ch * i + ch := by
  constructor
  · rintro rfl
    have := Nat.div_add_mod j ch
    have := Nat.mod_lt j hch
    omega
  · rintro ⟨h1, h2⟩
    exact Nat.div_eq_of_lt_le (by rw [Nat.mul_comm]; exact h1) (by rw [Nat.succ_mul, Nat.mul_comm]; exact h2)

theorem storeRow_fail {ch n : Nat} {els : Tr (List V)} {off : Nat} {vs : List V} {c : Tr (List V) → R} (hch : 0 < ch) (h : storeRow ch n els off vs c ≠ .fail) :
    ∃ els', storeRow ch n els off vs c = c els' ∧ Stored ch n els els' off vs := by
  unfold storeRow at h ⊢
  rw [forceN_eq, forceN_eq, forceN_eq] at h ⊢
  have hoff : ch * (off / ch) + off % ch = off := Nat.div_add_mod off ch
  have hoff' : (Nat.div off ch) = off / ch := rfl
  have hmod' : (Nat.mod off ch) = off % ch := rfl
  rw [hoff', hmod'] at h ⊢
  have hml := Nat.mod_lt off hch
  generalize off / ch = i at *
  generalize off % ch = q at *
  cases hb : Nat.ble (Nat.add q vs.length) ch with
  | true =>
    rw [hb, bel_true] at h
    rw [bel_true]
    have hq : q + vs.length ≤ ch := bleN_true hb
    unfold storeIn at h ⊢
    obtain ⟨h1, e⟩ := bel_fail h; rw [e] at h ⊢; clear e
    obtain ⟨a, h2, e⟩ := oel_fail h; rw [e] at h ⊢; clear e
    obtain ⟨h3, e⟩ := bel_fail h; rw [e] at h ⊢; clear e
    rw [forceL_eq, Tr.setK_eq]
    have hin : i < n := Nat.le_of_ble_eq_true h1
    have hal : q + vs.length ≤ a.length := bleN_true h3
    refine ⟨_, rfl, ?_, fun j v hj => ?_⟩
    · have : ch * i + ch ≤ n * ch := by
        have : (i + 1) * ch ≤ n * ch := Nat.mul_le_mul_right _ hin
        rw [Nat.succ_mul, Nat.mul_comm i] at this
        exact this
      omega
    · unfold cellAt at hj
      split at hj
      · rename_i hjn
        rw [Tr.get_set] at hj
        by_cases hji : j / ch = i
        · rw [if_pos hji] at hj
          simp only [Option.bind_some] at hj
          have hj1 := (divmod_lt hch).1 hji
          have hjm : j % ch = j - ch * i := by have := Nat.div_add_mod j ch; rw [hji] at this; omega
          rw [hjm] at hj
          have hta : (a.take q).length = q := by simp; omega
          by_cases c1 : j - ch * i < q
          · right
            refine ⟨by omega, ?_⟩
            rw [List.getElem?_append_left (by omega), List.getElem?_take, if_pos c1] at hj
            unfold cellAt
            rw [if_pos hjn, hji, h2, hjm]
            exact hj
          · rw [List.getElem?_append_right (by omega), hta] at hj
            by_cases c2 : j - ch * i - q < vs.length
            · left
              rw [List.getElem?_append_left c2] at hj
              refine ⟨by omega, by omega, ?_⟩
              rw [← hj]; congr 1; omega
            · right
              refine ⟨by omega, ?_⟩
              rw [List.getElem?_append_right (by omega), List.getElem?_drop] at hj
              unfold cellAt
              rw [if_pos hjn, hji, h2, hjm]
              rw [← hj]
              show a[j - ch * i]? = a[q + vs.length + (j - ch * i - q - vs.length)]?
              congr 1; omega
        · right
          rw [if_neg hji] at hj
          refine ⟨?_, by unfold cellAt; rw [if_pos hjn]; exact hj⟩
          intro hh
          exact hji ((divmod_lt hch).2 ⟨by omega, by omega⟩)
      · cases hj
  | false =>
    rw [hb, bel_false] at h
    rw [bel_false]
    unfold storeOver at h ⊢
    obtain ⟨h1, e⟩ := bel_fail h; rw [e] at h ⊢; clear e
    obtain ⟨h2, e⟩ := bel_fail h; rw [e] at h ⊢; clear e
    obtain ⟨h3, e⟩ := bel_fail h; rw [e] at h ⊢; clear e
    rw [writeMany_eq]
    have hq := beqN_true h1
    have hk : vs.length % ch = 0 := beqN_true h2
    have hn : i + vs.length / ch ≤ n := bleN_true h3
    have hlen : vs.length = vs.length / ch * ch := by have := Nat.div_add_mod vs.length ch; rw [Nat.mul_comm]; omega
    refine ⟨_, rfl, ?_, fun j v hj => ?_⟩
    · have : (i + vs.length / ch) * ch ≤ n * ch := Nat.mul_le_mul_right _ hn
      rw [Nat.add_mul, Nat.mul_comm i] at this
      omega
    · unfold cellAt at hj
      split at hj
      · rename_i hjn
        rw [wm_get] at hj
        have hjd := Nat.div_add_mod j ch
        have hjm := Nat.mod_lt j hch
        split at hj
        · rename_i hr
          left
          simp only [Option.bind_some] at hj
          rw [List.getElem?_take, if_pos hjm, List.getElem?_drop] at hj
          have hj2 : (j / ch - i) * ch + j % ch = j - off := by
            rw [Nat.sub_mul, Nat.mul_comm, Nat.mul_comm i]
            have : ch * i ≤ ch * (j / ch) := Nat.mul_le_mul_left _ hr.1
            omega
          rw [hj2] at hj
          have hlt := (List.getElem?_eq_some_iff.1 hj).1
          have : ch * i ≤ ch * (j / ch) := Nat.mul_le_mul_left _ hr.1
          exact ⟨by omega, by omega, hj⟩
        · rename_i hr
          right
          refine ⟨?_, by unfold cellAt; rw [if_pos hjn]; exact hj⟩
          intro hh
          apply hr
          constructor
          · apply Classical.byContradiction; intro hc
            have : ch * (j / ch + 1) ≤ ch * i := Nat.mul_le_mul_left _ (by omega)
            rw [Nat.mul_succ] at this
            omega
          · have : j / ch < i + vs.length / ch := by
              rw [Nat.div_lt_iff_lt_mul hch, Nat.add_mul, Nat.mul_comm i]
              omega
            have e : i + (vs.length.div ch) = i + vs.length / ch := rfl
            omega
      · cases hj

/-- Storing cells: what becomes of the world. -/
theorem storeK_ok {b off : Nat} {vs : List V} {c : Hp → R} (h : storeK t b off vs c ≠ .fail) :
    ∃ t', storeK t b off vs c = c t' ∧ ∀ (m : Inj) (w : World), Rel m t nx w → okL m (Lt nx) vs → (∀ v ∈ vs, isCell v = true) →
      ∃ w', (storeCells ⟨m.ρ b, off, none⟩ (gamL m vs)).run P w = .ok () w' ∧ Goes m t nx w m t' nx w' := by
  cases vs with
  | nil => exact ⟨t, rfl, fun m w hr _ _ => ⟨w, by simp [gamL, storeCells], Goes.refl hr⟩⟩
  | cons v0 vs0 =>
    have hdef : storeK t b off (v0 :: vs0) c = oel (t.get b) (fun x => x.sel (fun ty ch n fz els => storeBlk t b off (v0 :: vs0) c ty ch n fz els) (fun _ _ => .fail) (fun _ => .fail) (fun _ _ _ => .fail)) .fail := rfl
    rw [hdef] at h ⊢
    generalize v0 :: vs0 = vs at *
    obtain ⟨x, hx, e⟩ := oel_fail h
    rw [e] at h ⊢
    cases x with
    | cells ty ch n fz els =>
      change storeBlk t b off vs c ty ch n fz els ≠ _ at h
      change ∃ t', storeBlk t b off vs c ty ch n fz els = _ ∧ _
      unfold storeBlk at h ⊢
      obtain ⟨hfz, e⟩ := bel_fail h
      rw [e] at h ⊢
      have hfz' := bleN_true hfz
      rcases Nat.eq_zero_or_pos ch with hc0 | hch
      · -- no such row stands for an object
        by_cases hex : ∃ (m : Inj) (w : World), Rel m t nx w
        · obtain ⟨m, w, hr⟩ := hex
          obtain ⟨_, cs, fr, _, hpos, _⟩ := hr.blk b _ hx
          omega
        · -- then whatever the reckoner says is empty
          have : ∃ t', storeRow ch n els off vs (fun els => t.setK b (some (.cells ty ch n fz els)) c) = c t' := by
            unfold storeRow at h ⊢
            rw [forceN_eq, forceN_eq, forceN_eq] at h ⊢
            cases hb : Nat.ble (Nat.add (Nat.mod off ch) vs.length) ch with
            | true =>
              rw [hb, bel_true] at h
              rw [bel_true]
              unfold storeIn at h ⊢
              obtain ⟨h1, e⟩ := bel_fail h; rw [e] at h ⊢; clear e
              obtain ⟨a, h2, e⟩ := oel_fail h; rw [e] at h ⊢; clear e
              obtain ⟨h3, e⟩ := bel_fail h; rw [e] at h ⊢; clear e
              rw [forceL_eq, Tr.setK_eq, Tr.setK_eq]
              exact ⟨_, rfl⟩
            | false =>
              rw [hb, bel_false] at h
              rw [bel_false]
              unfold storeOver at h ⊢
              obtain ⟨h1, e⟩ := bel_fail h; rw [e] at h ⊢; clear e
              obtain ⟨h2, e⟩ := bel_fail h; rw [e] at h ⊢; clear e
              obtain ⟨h3, e⟩ := bel_fail h; rw [e] at h ⊢; clear e
              rw [writeMany_eq, Tr.setK_eq]
              exact ⟨_, rfl⟩
          obtain ⟨t', ht'⟩ := this
          exact ⟨t', ht', fun m w hr => absurd ⟨m, w, hr⟩ hex⟩
      · obtain ⟨els', e', hst⟩ := storeRow_fail hch h
        rw [e', Tr.setK_eq]
        refine ⟨_, rfl, fun m w hr hok hcell => ?_⟩
        obtain ⟨_, cs, fr, ho, _, hn, hks, hcl, hfr⟩ := hr.blk b _ hx
        have hsize : off + vs.length ≤ cs.size := by
          have : n * ch ≤ m.κ b * ch := Nat.mul_le_mul_right _ hn
          have := hst.1
          omega
        have hrun := run_storeCells_fr (P := P) (m.ρ b) off ty fr (gamL m vs) 0 cs w ho (by simpa using hsize)
          (fun v hv => by
            rw [gamL_eq_map] at hv
            obtain ⟨u, hu, rfl⟩ := List.mem_map.1 hv
            exact isCell_one (hcell u hu) m)
          (fun j h1 h2 => hfr j (by omega) (by simp at h2; omega))
        refine ⟨_, hrun, Goes.chg hr hx (setRow_changed w _ cs _ ty fr ho) ?_ (fun _ hh => by cases hh) (fun _ _ _ hh => by
          rw [ho] at hh
          cases hh
          refine ⟨_, rfl, ?_⟩
          simp only [List.size_toArray, List.length_append, List.length_take, List.length_drop, Array.length_toList, gamL_length]
          omega)⟩
        refine ⟨_, fr, rfl, hch, hn, ?_, fun j v hj => ?_, fun j h1 h2 => ?_⟩
        · simp only [List.size_toArray, List.length_append, List.length_take, List.length_drop, Array.length_toList, gamL_length]
          omega
        · rcases hst.2 j v hj with ⟨h1, h2, h3⟩ | ⟨h1, h2⟩
          · refine ⟨?_, okL_get hok h3, hcell v (List.mem_of_getElem? h3)⟩
            simp only [List.getElem?_toArray, Nat.add_zero]
            rw [List.append_assoc, List.getElem?_append_right (by simp; omega), List.getElem?_append_left (by simp; omega), gamL_get]
            have : j - (cs.toList.take off).length = j - off := by simp; omega
            rw [this, h3]
            rfl
          · obtain ⟨g1, g2, g3⟩ := hcl j v h2
            refine ⟨?_, g2, g3⟩
            have hjs := (Array.getElem?_eq_some_iff.1 g1).1
            simp only [List.getElem?_toArray, Nat.add_zero]
            by_cases hjo : j < off
            · rw [List.append_assoc, List.getElem?_append_left (by simp; omega), List.getElem?_take, if_pos hjo]
              simpa using g1
            · have hlt : off + vs.length ≤ j := by omega
              rw [List.getElem?_append_right (by simp; omega), List.getElem?_drop]
              have : off + (gamL m vs).length + (j - (cs.toList.take off ++ gamL m vs).length) = j := by simp; omega
              rw [this]
              simpa using g1
        · refine hfr j h1 ?_
          simp only [List.size_toArray, List.length_append, List.length_take, List.length_drop, Array.length_toList, gamL_length] at h2
          omega
    | _ => exact absurd rfl h
end Go.X
end

section
/- The reckoner: stores, copies, maps, appends. -/
namespace Go.X
open Go
variable {P : Program} {s : CallT} {o : Oper} {k : K} {tm : Env} {d : Dx} {t : Hp} {nx : Nat}

theorem doStore_ok {ty : TypeId} {a x : Operand} (ho : o.op = .store ty a x) (h : doStore ty a x P s o k tm d t nx ≠ .fail) :
    ∃ t', doStore ty a x P s o k tm d t nx = done o undefV k tm d t' nx ∧ EffOK P o tm t nx undefV t' nx := by
  unfold doStore at h ⊢
  (obtain ⟨va, hva, eqzz⟩ := ev_fail h; rw [eqzz] at h ⊢; clear eqzz; try dsimp only at h ⊢)
  obtain ⟨b, off, rfl⟩ := onPtr_fail h
  simp only [onPtr_ptr] at h ⊢
  (obtain ⟨v, hv, eqzz⟩ := ev_fail h; rw [eqzz] at h ⊢; clear eqzz; try dsimp only at h ⊢)
  (obtain ⟨l, hl, eqzz⟩ := oel_fail h; rw [eqzz] at h ⊢; clear eqzz; try dsimp only at h ⊢)
  (obtain ⟨sz', hs, eqzz⟩ := oel_fail h; rw [eqzz] at h ⊢; clear eqzz; try dsimp only at h ⊢)
  (obtain ⟨hb, eqzz⟩ := bel_fail h; rw [eqzz] at h ⊢; clear eqzz)
  obtain ⟨t', e, hst⟩ := storeK_ok (P := P) (nx := nx) h
  rw [e]
  refine ⟨t', rfl, fun m w ρ h64 hr hops => ?_⟩
  have ha := hops a (by simp [ho, Op.operands]) _ hva
  have hx := hops x (by simp [ho, Op.operands]) _ hv
  obtain ⟨hg, hok, hc⟩ := cellsOf_gam hl hx.2
  obtain ⟨w', hrun, hgo⟩ := hst m w hr hok hc
  obtain ⟨info, hi, hsz⟩ := szO_some hs
  refine ⟨m, w', .skip, ?_, .inr ⟨rfl, rfl⟩, hgo, trivial⟩
  have hn : ¬ (gam m v).cells.size ≠ info.size := by rw [hg, hsz]; simpa using beqN_true hb
  have hl' : (gam m v).cells.toList = gamL m l := by rw [hg]
  simp only [execOp, ho, ha.1, hx.1, gam_ptr, Instr.storeAt, Instr.sureAddr, storeVar, Sem.run_bind, Sem.run_pure, Result.andThen_ok, run_sizeOf' hi, if_neg hn, hl', hrun]

/-! ### What is copied or appended -/
/-- A source: its length, its cells. -/
structure Src (P : Program) (s : Nat) (m : Inj) (nx : Nat) (w : World) (Y : Value) (l : List V) (n : Nat) : Prop where
  len : ∀ w', (Builtin.lenOf Y).run P w' = .ok n w'
  cells : ∀ c, c ≤ n → (Builtin.firstCells s c Y).run P w = .ok (gamL m (l.take (c * s))).toArray w
  llen : l.length = n * s
  ok : okL m (Lt nx) l
  cell : ∀ v ∈ l, isCell v = true
  notnum : ∀ k i, Y ≠ .int k i

theorem run_loadN_take {m : Inj} {w : World} (hr : Rel m t nx w) {b off c : Nat} {l : List V} (h : loadN t b off c = some l) (q : Nat) (hq : q ≤ c) :
    (loadCells ⟨m.ρ b, off, none⟩ q).run P w = .ok (gamL m (l.take q)).toArray w := by
  obtain ⟨_, _, hl, hc⟩ := loadN_run hr h
  have := run_loadCells_list (P := P) w ⟨m.ρ b, off, none⟩ (gamL m (l.take q)) (fun j v hj => by
    rw [gamL_get] at hj
    cases hlj : (l.take q)[j]? with
    | none => rw [hlj] at hj; cases hj
    | some u =>
      rw [hlj] at hj
      cases hj
      rw [add_none]
      rw [List.getElem?_take] at hlj
      split at hlj
      · exact hc j u hlj
      · cases hlj)
  have e : (gamL m (l.take q)).length = q := by simp; omega
  rwa [e] at this

theorem srcCells_fail {sz : Nat} {v : V} {c : List V → Nat → R} (h : srcCells t sz v c ≠ .fail) :
    ∃ l n, srcCells t sz v c = c l n ∧ ∀ (m : Inj) (w : World), Rel m t nx w → Src P sz m nx w (gam m v) l n := by
  unfold srcCells at h ⊢
  cases v with
  | nils =>
    refine ⟨[], 0, rfl, fun m w hr => ⟨fun w' => rfl, fun q hq => ?_, by simp, trivial, (fun _ h => nomatch h), by simp [gam]⟩⟩
    simp [Builtin.firstCells, gam, gamL]
  | sl b off len cp =>
    simp only [onSl_sl] at h ⊢
    obtain ⟨l, hl, e⟩ := oel_fail h
    refine ⟨l, len, e, fun m w hr => ?_⟩
    obtain ⟨h1, h2, h3, h4⟩ := loadN_run hr hl
    refine ⟨fun w' => rfl, fun q hq => ?_, h3, h1, h2, by simp [gam]⟩
    have := run_loadN_take (P := P) hr hl (q * sz) (Nat.mul_le_mul_right _ hq)
    simpa [Builtin.firstCells, gam] using this
  | str l n =>
    simp only [onSl_str, onStr_str] at h ⊢
    obtain ⟨hs, e⟩ := bel_fail h
    have hs1 := beqN_true hs
    subst hs1
    refine ⟨strCells l n, l, e, fun m w hr => ?_⟩
    obtain ⟨o1, o2⟩ := strCells_ok m (Lt nx) l n
    refine ⟨fun w' => by simp [Builtin.lenOf, gam], fun q hq => ?_, by rw [strCells_len]; simp, o1, o2, by simp [gam]⟩
    have : (gamL m ((strCells l n).take (q * 1))).toArray = ((toBA l n).extract 0 q).data.map fun b => Value.int .u8 b.toNat := by
      rw [Nat.mul_one, gamL_eq_map, List.map_take, ← gamL_eq_map, strCells_gam]
      apply Array.ext'
      simp [toBA, List.extract_eq_take_drop]
    rw [this]
    rfl
  | _ => exact absurd rfl h

theorem arr2 {α : Type} {a : Array α} {x y : α} {r : List α} (h : a.toList = x :: y :: r) : a[0]? = some x ∧ a[1]? = some y := by
  constructor
  · rw [← Array.getElem?_toList, h]; rfl
  · rw [← Array.getElem?_toList, h]; rfl

theorem call_args {b : Builtin} {args : Array Operand} {tys : Array TypeId} (ho : o.op = .call ⟨.builtin b, args, tys⟩) {x : Operand} (hx : x ∈ args.toList) : x ∈ o.op.operands := by
  rw [ho]
  simp only [Op.operands, Call.operands]
  simpa using hx

theorem doCopy_ok {args : Array Operand} {tys : Array TypeId} (ho : o.op = .call ⟨.builtin .copy, args, tys⟩) (h : doCopy args tys P s o k tm d t nx ≠ .fail) :
    ∃ v t', doCopy args tys P s o k tm d t nx = done o v k tm d t' nx ∧ EffOK P o tm t nx v t' nx := by
  unfold doCopy at h ⊢
  obtain ⟨x, r, hxr, e⟩ := onList_fail h; rw [e] at h ⊢; clear e
  obtain ⟨y, r', hyr, e⟩ := onList_fail h; rw [e] at h ⊢; clear e
  obtain ⟨ty, rt, hty, e⟩ := onList_fail h; rw [e] at h ⊢; clear e
  subst hyr
  (obtain ⟨e, he, eqzz⟩ := oel_fail h; rw [eqzz] at h ⊢; clear eqzz; try dsimp only at h ⊢)
  (obtain ⟨vx, hvx, eqzz⟩ := ev_fail h; rw [eqzz] at h ⊢; clear eqzz; try dsimp only at h ⊢)
  (obtain ⟨vy, hvy, eqzz⟩ := ev_fail h; rw [eqzz] at h ⊢; clear eqzz; try dsimp only at h ⊢)
  obtain ⟨new, n, e', hsrc⟩ := srcCells_fail (P := P) (nx := nx) h
  rw [e'] at h ⊢; clear e'
  obtain ⟨hu, info, hi, hsz⟩ := slElem_some he
  obtain ⟨a0, a1⟩ := arr2 hxr
  have t0 := arr_of_toList hty
  have prep : ∀ (m : Inj) (w : World) (ρ : Operand → Value), OpsR m (Lt nx) tm o ρ → (args.map ρ)[0]? = some (gam m vx) ∧ (args.map ρ)[1]? = some (gam m vy) ∧ okV m (Lt nx) vx := fun m w ρ hops => by
    have hx := hops x (call_args ho (by rw [hxr]; simp)) _ hvx
    have hy := hops y (call_args ho (by rw [hxr]; simp)) _ hvy
    refine ⟨?_, ?_, hx.2⟩
    · rw [Array.getElem?_map, a0]; simp [hx.1]
    · rw [Array.getElem?_map, a1]; simp [hy.1]
  cases vx with
  | nils =>
    refine ⟨_, _, rfl, fun m w ρ h64 hr hops => ?_⟩
    obtain ⟨p0, p1, _⟩ := prep m w ρ hops
    have src := hsrc m w hr
    have hc := src.cells 0 (Nat.zero_le _)
    refine ⟨m, w, .value (goInt 0), ?_, .inl rfl, Goes.refl hr, trivial⟩
    rw [run_builtin ho]
    simp only [builtin, Sem.run_bind, Builtin.copy_, t0, p0, p1, run_underlying hu, Result.andThen_ok, gam, src.len, Nat.min_def, run_sizeOf' hi, hsz]
    have hm : (if n ≤ 0 then n else 0) = 0 := by split <;> omega
    rw [hm, hc]
    simp [gamL]
  | sl b off len cp =>
    simp only [onSl_sl, forceN_eq] at h ⊢
    obtain ⟨t', e', hst⟩ := storeK_ok (P := P) (nx := nx) h
    rw [e']
    refine ⟨_, _, rfl, fun m w ρ h64 hr hops => ?_⟩
    obtain ⟨p0, p1, hokx⟩ := prep m w ρ hops
    have src := hsrc m w hr
    have hmin : min n len ≤ n := Nat.min_le_left _ _
    have hc := src.cells (min n len) hmin
    obtain ⟨w', hrun, hgo⟩ := hst m w hr ((okL_iff ..).2 fun v hv => (okL_iff ..).1 src.ok v (List.mem_of_mem_take hv)) (fun v hv => src.cell v (List.mem_of_mem_take hv))
    refine ⟨m, w', .value (goInt (min n len : Nat)), ?_, .inl rfl, hgo, trivial⟩
    rw [run_builtin ho]
    have hc' : (Builtin.firstCells e.2 (Nat.min n len) (gam m vy)).run P w = .ok (gamL m (new.take (min n len * e.2))).toArray w := hc
    have hrun' : (storeCells ⟨m.ρ b, off, none⟩ (gamL m (new.take (min n len * e.2)))).run P w = .ok () w' := hrun
    simp only [builtin, Sem.run_bind, Builtin.copy_, t0, p0, p1, run_underlying hu, Result.andThen_ok, gam, src.len, run_sizeOf' hi, hsz, hc', hrun', Sem.run_pure]
  | _ => exact absurd rfl h

/-! ### Maps -/
theorem sameC_eq {v w : V} (h : sameC v w = true) : v = w := by
  cases v <;> cases w <;> first
    | (cases h; done)
    | rfl
    | skip
  · rename_i a b; cases a <;> cases b <;> first | rfl | cases h
  · rename_i j a i b
    have h : andB (sameKind j i) (eqI a b) = true := h
    simp only [andB_eq, Bool.and_eq_true, eqI_eq, beq_iff_eq] at h
    rw [sameKind_true h.1, h.2]
  · rename_i a b c d
    have h : andB (Nat.beq a c) (Nat.beq b d) = true := h
    simp only [andB_eq, Bool.and_eq_true] at h
    rw [beqN_true h.1, beqN_true h.2]
  · rename_i a b c d
    have h : andB (Nat.beq a c) (Nat.beq b d) = true := h
    simp only [andB_eq, Bool.and_eq_true] at h
    rw [beqN_true h.1, beqN_true h.2]
  · rename_i a i m c b j n d
    cases c <;> cases d <;> first
      | (rename_i x y
         have h : andB (Nat.beq a b) (andB (Nat.beq i j) (andB (Nat.beq m n) (Nat.beq x y))) = true := h
         simp only [andB_eq, Bool.and_eq_true] at h
         rw [beqN_true h.1, beqN_true h.2.1, beqN_true h.2.2.1, beqN_true h.2.2.2])
      | (have h : andB (Nat.beq a b) (andB (Nat.beq i j) (andB (Nat.beq m n) false)) = true := h
         simp [andB_eq] at h)
  · rename_i a b
    have h : Nat.beq a b = true := h
    rw [beqN_true h]
theorem sameL_eq : ∀ {l m : List V}, sameL l m = true → l = m
  | [], [], _ => rfl
  | [], _ :: _, h => by cases h
  | _ :: _, [], h => by cases h
  | v :: l, w :: m, h => by
    have h : andB (sameC v w) (sameL l m) = true := h
    simp only [andB_eq, Bool.and_eq_true] at h
    rw [sameC_eq h.1, sameL_eq h.2]
theorem sameV_eq {v w : V} (h : sameV v w = true) : v = w := by
  cases v <;> cases w <;> first
    | exact sameC_eq h
    | skip
  · rename_i f a b g c d
    have h : andB (Nat.beq f g) (andB (sameL a c) (sameL b d)) = true := h
    simp only [andB_eq, Bool.and_eq_true] at h
    rw [beqN_true h.1, sameL_eq h.2.1, sameL_eq h.2.2]
  · rename_i a b c d
    have h : andB (Nat.beq a c) (sameC b d) = true := h
    simp only [andB_eq, Bool.and_eq_true] at h
    rw [beqN_true h.1, sameC_eq h.2]
  · rename_i l m
    have h : sameL l m = true := h
    rw [sameL_eq h]

theorem sameBits_self {v : V} (h : bitsV v = true) (m : Inj) : Instr.sameBits 10000 (gam m v) (gam m v) = true := by
  have one : ∀ (n : Nat) (v : V), bitsC v = true → Instr.sameBits n (gam m v) (gam m v) = true := fun n v h => by
    cases v <;> first
      | (cases h; done)
      | (cases n <;> simp [gam, Instr.sameBits]; done)
      | (cases n <;> simp [gam, Instr.sameBits, (ba_beq _ _).2])
  cases v with
  | agg l =>
    have h : bitsL l = true := h
    have hz : ∀ (n : Nat) (l : List V), bitsL l = true → ((gamL m l).zip (gamL m l)).all (fun (x, y) => Instr.sameBits n x y) = true := fun n l => by
      induction l with
      | nil => intro _; rfl
      | cons v l ih =>
        intro h
        have h : andB (bitsC v) (bitsL l) = true := h
        simp only [andB_eq, Bool.and_eq_true] at h
        simp only [gamL, List.zip_cons_cons, List.all_cons, one n v h.1, ih h.2, Bool.and_self]
    show ((gamL m l).toArray.size == (gamL m l).toArray.size && ((gamL m l).toArray.toList.zip (gamL m l).toArray.toList).all fun (x, y) => Instr.sameBits 9999 x y) = true
    simp [hz 9999 l h]
  | _ => exact one _ _ h

theorem putE_idx {kt : TypeId} {x v : V} {cl : Nat} : ∀ {es : List (V × V × Nat)} {r : List (V × V × Nat) × Nat} (i : Nat), putE P kt x v cl es = some r → ∃ q, idxE P kt x es i = some q ∧
    (q = none → r = (es ++ [(x, v, cl)], cl + 1)) ∧ (∀ a, q = some a → ∃ e, i ≤ a.1 ∧ es[a.1 - i]? = some e ∧ e.1 = x ∧ bitsV x = true ∧ r = (es.set (a.1 - i) (x, v, e.2.2), cl))
  | [], r, i, h => by cases h; exact ⟨none, rfl, fun _ => rfl, fun _ h => nomatch h⟩
  | e :: es, r, i, h => by
    have h : oel (eqT P kt x e.1) (fun b => bel b (bel (sameV x e.1) (bel (bitsV x) (some ((x, v, e.2.2) :: es, cl)) none) none) (oel (putE P kt x v cl es) (fun y => some (e :: y.1, y.2)) none)) none = some r := h
    obtain ⟨b, hb, h⟩ := oelO_some h
    cases b with
    | true =>
      obtain ⟨hs, h⟩ := belO_some h
      obtain ⟨hbits, h⟩ := belO_some h
      cases h
      refine ⟨some (i, e.2.1), by simp [idxE, hb], (fun h => nomatch h), fun a ha => ?_⟩
      cases ha
      exact ⟨e, Nat.le_refl _, by simp, (sameV_eq hs).symm, hbits, by simp⟩
    | false =>
      obtain ⟨y, hy, h⟩ := oelO_some h
      cases h
      obtain ⟨q, h1, h2, h3⟩ := putE_idx (i + 1) hy
      refine ⟨q, by simp [idxE, hb, h1], fun hq => by rw [h2 hq]; rfl, fun a ha => ?_⟩
      obtain ⟨e', g1, g2, g3, g4, g5⟩ := h3 a ha
      have e1 : a.1 - i = (a.1 - (i + 1)) + 1 := by omega
      exact ⟨e', by omega, by rw [e1]; simpa using g2, g3, g4, by rw [g5, e1]; simp⟩

theorem forceEs_eq : ∀ (es : List (V × V × Nat)) (c : List (V × V × Nat) → R), forceEs es c = c es
  | [], _ => rfl
  | e :: es, c => by
    show forceW e.1 (fun a => forceW e.2.1 fun b => forceN e.2.2 fun n => forceEs es fun r => c ((a, b, n) :: r)) = _
    rw [forceW_eq, forceW_eq, forceN_eq, forceEs_eq es]
theorem setMap_eq (b : Nat) (es : List (V × V × Nat)) (cl : Nat) (c : Hp → R) : setMap t b es cl c = c (t.set b (some (.map es cl))) := by
  unfold setMap
  rw [forceEs_eq, forceN_eq, Tr.setK_eq]

theorem run_setMap {w : World} {r : Nat} {es ces : Array MapEntry} {cl cl' : Nat} (h : w.heap[r]? = some (.map ces cl)) : (setObj r (.map es cl')).run P w = .ok () { w with heap := w.heap.setIfInBounds r (.map es cl') } := by
  simp [setObj, Sem.run, h]

theorem doMapPut_ok {ty : TypeId} {a b c : Operand} (ho : o.op = .mapUpdate ty a b c ∨ o.op = .insert ty a b c) (h : doMapPut ty a b c P s o k tm d t nx ≠ .fail) :
    ∃ t', doMapPut ty a b c P s o k tm d t nx = done o undefV k tm d t' nx ∧ EffOK P o tm t nx undefV t' nx := by
  unfold doMapPut at h ⊢
  (obtain ⟨ke, hke, eqzz⟩ := oel_fail h; rw [eqzz] at h ⊢; clear eqzz; try dsimp only at h ⊢)
  (obtain ⟨hpk, eqzz⟩ := bel_fail h; rw [eqzz] at h ⊢; clear eqzz)
  have hkk := plainKey_kind hpk
  have hu : P.underlying ty = some (.map ke.1 ke.2) := und_some (mapOf_some hke) (by simp)
  (obtain ⟨vm, hvm, eqzz⟩ := ev_fail h; rw [eqzz] at h ⊢; clear eqzz; try dsimp only at h ⊢)
  obtain ⟨r, rfl⟩ := onMap_fail h
  simp only [onMap_map] at h ⊢
  (obtain ⟨x, hx, eqzz⟩ := ev_fail h; rw [eqzz] at h ⊢; clear eqzz; try dsimp only at h ⊢)
  (obtain ⟨v, hv, eqzz⟩ := ev_fail h; rw [eqzz] at h ⊢; clear eqzz; try dsimp only at h ⊢)
  (obtain ⟨hs, eqzz⟩ := bel_fail h; rw [eqzz] at h ⊢; clear eqzz)
  (obtain ⟨es, hes, eqzz⟩ := oel_fail h; rw [eqzz] at h ⊢; clear eqzz; try dsimp only at h ⊢)
  (obtain ⟨q, hq, eqzz⟩ := oel_fail h; rw [eqzz] at h ⊢; clear eqzz; try dsimp only at h ⊢)
  rw [setMap_eq]
  refine ⟨_, rfl, fun m w ρ h64 hr hops => ?_⟩
  have ha := hops a (by rcases ho with ho | ho <;> simp [ho, Op.operands]) _ hvm
  have hb := hops b (by rcases ho with ho | ho <;> simp [ho, Op.operands]) _ hx
  have hc := hops c (by rcases ho with ho | ho <;> simp [ho, Op.operands]) _ hv
  have hblk := mapAt_some hes
  obtain ⟨_, hobj, hall⟩ := hr.blk r _ hblk
  have hget := run_getMap (P := P) hr hblk
  have hchk : (Instr.checkKey false 10000 ke.1 (gam m x)).run P w = .ok () w := checkKey_run hkk hs false 9998 m w
  obtain ⟨qi, hidx, hnone, hsome⟩ := putE_idx 0 hq
  have hfind := findKey_run hkk m w hidx
  have main : ∃ w', (Instr.mapUpdate ty (gam m (.map r)) (gam m x) (gam m v)).run P w = .ok () w' ∧ Changed w w' (m.ρ r) (.map (q.1.map (gamE m)).toArray q.2) := by
    refine ⟨{ w with heap := w.heap.setIfInBounds (m.ρ r) (.map (q.1.map (gamE m)).toArray q.2) }, ?_, ⟨rfl, rfl, rfl, rfl⟩⟩
    unfold Instr.mapUpdate
    simp only [Sem.run_bind, run_underlying hu, Result.andThen_ok, gam, hget, hchk]
    rw [hfind]
    cases qi with
    | none =>
      rw [hnone rfl]
      simp only [Result.andThen_ok, gamQ, Option.map_none]
      rw [run_setMap hobj]
      simp [gamE]
    | some a =>
      obtain ⟨e', _, g2, g3, g4, g5⟩ := hsome a rfl
      rw [Nat.sub_zero] at g2 g5
      rw [g5]
      simp only [Result.andThen_ok, gamQ, Option.map_some, Sem.run_bind]
      have hkey : (((es.1.map (gamE m)).toArray[a.1]?).map (·.key)).getD (gam m x) = gam m x := by
        simp [g2, gamE, g3]
      have hstay : (Instr.keyThatStays (gam m x) (gam m x)).run P w = .ok (gam m x) w := by
        unfold Instr.keyThatStays
        rw [if_pos (sameBits_self g4 m)]
        rfl
      rw [hkey, hstay]
      simp only [Result.andThen_ok]
      rw [run_setMap hobj]
      congr 3
      congr 1
      apply Array.ext'
      apply List.ext_getElem?
      intro j
      simp only [Array.toList_modify, List.getElem?_modify, List.getElem?_map, List.getElem?_set]
      by_cases hj : a.1 = j
      · subst hj
        have hlt := (List.getElem?_eq_some_iff.1 g2).1
        have hge : es.1[a.1] = e' := (List.getElem?_eq_some_iff.1 g2).2
        simp [gamE, hlt, hge]
      · simp [hj]
  obtain ⟨w', hrun, hch⟩ := main
  refine ⟨m, w', .skip, ?_, .inr ⟨rfl, rfl⟩, Goes.chg hr hblk hch ⟨rfl, ?_⟩ (fun _ hh => by cases hh) (fun _ _ _ hh => by rw [hobj] at hh; cases hh), trivial⟩
  · rcases ho with ho | ho <;> simp [execOp, ho, ha.1, hb.1, hc.1, hrun]
  · intro e he
    cases qi with
    | none =>
      rw [hnone rfl] at he
      rcases List.mem_append.1 he with he | he
      · exact hall e he
      · simp only [List.mem_singleton] at he
        subst he
        exact ⟨hb.2, hc.2⟩
    | some a =>
      obtain ⟨e', _, g2, g3, g4, g5⟩ := hsome a rfl
      rw [g5] at he
      rcases List.mem_or_eq_of_mem_set he with he | he
      · exact hall e he
      · subst he; exact ⟨hb.2, hc.2⟩
end Go.X
end

section
/- The reckoner: deletions, ranges. -/
namespace Go.X
open Go
variable {P : Program} {s : CallT} {o : Oper} {k : K} {tm : Env} {d : Dx} {t : Hp} {nx : Nat}

theorem map_eraseIdx' {α β : Type} (f : α → β) : ∀ (l : List α) (i : Nat), (l.map f).eraseIdx i = (l.eraseIdx i).map f
  | [], _ => rfl
  | _ :: _, 0 => rfl
  | a :: l, i + 1 => by simp only [List.map_cons, List.eraseIdx_cons_succ, map_eraseIdx' f l i]
theorem delE_idx {kt : TypeId} {x : V} : ∀ {es : List (V × V × Nat)} {r : List (V × V × Nat)} (i : Nat), delE P kt x es = some r → ∃ q, idxE P kt x es i = some q ∧
    (q = none → r = es) ∧ (∀ a, q = some a → i ≤ a.1 ∧ r = es.eraseIdx (a.1 - i) ∧ a.1 - i < es.length)
  | [], r, i, h => by cases h; exact ⟨none, rfl, fun _ => rfl, fun _ h => nomatch h⟩
  | e :: es, r, i, h => by
    have h : oel (eqT P kt x e.1) (fun b => bel b (some es) (oel (delE P kt x es) (fun y => some (e :: y)) none)) none = some r := h
    obtain ⟨b, hb, h⟩ := oelO_some h
    cases b with
    | true =>
      cases h
      refine ⟨some (i, e.2.1), by simp [idxE, hb], (fun h => nomatch h), fun a ha => ?_⟩
      cases ha
      exact ⟨Nat.le_refl _, by simp, by simp⟩
    | false =>
      obtain ⟨y, hy, h⟩ := oelO_some h
      cases h
      obtain ⟨q, h1, h2, h3⟩ := delE_idx (i + 1) hy
      refine ⟨q, by simp [idxE, hb, h1], fun hq => by rw [h2 hq], fun a ha => ?_⟩
      obtain ⟨g1, g2, g3⟩ := h3 a ha
      have e1 : a.1 - i = (a.1 - (i + 1)) + 1 := by omega
      exact ⟨by omega, by rw [g2, e1]; rfl, by rw [e1]; simpa using g3⟩

theorem doDelete_ok {args : Array Operand} {tys : Array TypeId} (ho : o.op = .call ⟨.builtin .delete, args, tys⟩) (h : doDelete args tys P s o k tm d t nx ≠ .fail) :
    ∃ v t', doDelete args tys P s o k tm d t nx = done o v k tm d t' nx ∧ EffOK P o tm t nx v t' nx := by
  unfold doDelete at h ⊢
  obtain ⟨x, r, hxr, e⟩ := onList_fail h; rw [e] at h ⊢; clear e
  obtain ⟨y, r', hyr, e⟩ := onList_fail h; rw [e] at h ⊢; clear e
  obtain ⟨ty, rt, hty, e⟩ := onList_fail h; rw [e] at h ⊢; clear e
  subst hyr
  (obtain ⟨ke, hke, eqzz⟩ := oel_fail h; rw [eqzz] at h ⊢; clear eqzz; try dsimp only at h ⊢)
  (obtain ⟨hpk, eqzz⟩ := bel_fail h; rw [eqzz] at h ⊢; clear eqzz)
  have hkk := plainKey_kind hpk
  have hu : P.underlying ty = some (.map ke.1 ke.2) := und_some (mapOf_some hke) (by simp)
  (obtain ⟨vm, hvm, eqzz⟩ := ev_fail h; rw [eqzz] at h ⊢; clear eqzz; try dsimp only at h ⊢)
  obtain ⟨b, rfl⟩ := onMap_fail h
  simp only [onMap_map] at h ⊢
  (obtain ⟨vy, hvy, eqzz⟩ := ev_fail h; rw [eqzz] at h ⊢; clear eqzz; try dsimp only at h ⊢)
  (obtain ⟨hs, eqzz⟩ := bel_fail h; rw [eqzz] at h ⊢; clear eqzz)
  (obtain ⟨es, hes, eqzz⟩ := oel_fail h; rw [eqzz] at h ⊢; clear eqzz; try dsimp only at h ⊢)
  (obtain ⟨q, hq, eqzz⟩ := oel_fail h; rw [eqzz] at h ⊢; clear eqzz; try dsimp only at h ⊢)
  rw [setMap_eq]
  refine ⟨_, _, rfl, fun m w ρ h64 hr hops => ?_⟩
  obtain ⟨a0, a1⟩ := arr2 hxr
  have t0 := arr_of_toList hty
  have hx := hops x (call_args ho (by rw [hxr]; simp)) _ hvm
  have hy := hops y (call_args ho (by rw [hxr]; simp)) _ hvy
  have p0 : (args.map ρ)[0]? = some (gam m (.map b)) := by rw [Array.getElem?_map, a0]; simp [hx.1]
  have p1 : (args.map ρ)[1]? = some (gam m vy) := by rw [Array.getElem?_map, a1]; simp [hy.1]
  have hblk := mapAt_some hes
  obtain ⟨_, hobj, hall⟩ := hr.blk b _ hblk
  have hget := run_getMap (P := P) hr hblk
  have hchk : ∀ em, (Instr.checkKey em 10000 ke.1 (gam m vy)).run P w = .ok () w := fun em => checkKey_run hkk hs em 9998 m w
  obtain ⟨qi, hidx, hnone, hsome⟩ := delE_idx 0 hq
  have hfind := findKey_run hkk m w hidx
  have main : ∃ w', (Builtin.delete_ tys o.type (args.map ρ)).run P w = .ok (.tuple #[]) w' ∧ Changed w w' (m.ρ b) (.map (q.map (gamE m)).toArray es.2) := by
    refine ⟨{ w with heap := w.heap.setIfInBounds (m.ρ b) (.map (q.map (gamE m)).toArray es.2) }, ?_, ⟨rfl, rfl, rfl, rfl⟩⟩
    unfold Builtin.delete_
    simp only [t0, p0, p1, Sem.run_bind, run_underlying hu, Result.andThen_ok, gam, hget, hchk]
    rw [hfind]
    cases qi with
    | none =>
      rw [hnone rfl]
      simp only [Result.andThen_ok, gamQ, Option.map_none, Sem.run_bind]
      rw [run_setMap hobj]
      rfl
    | some a =>
      obtain ⟨_, g2, g3⟩ := hsome a rfl
      rw [Nat.sub_zero] at g2 g3
      rw [g2]
      simp only [Result.andThen_ok, gamQ, Option.map_some, Sem.run_bind]
      rw [run_setMap hobj]
      simp only [Result.andThen_ok, Sem.run_pure]
      congr 3
      congr 1
      apply Array.ext'
      rw [Array.eraseIdxIfInBounds_eq, dif_pos (by simpa using g3)]
      simp [map_eraseIdx']
  obtain ⟨w', hrun, hch⟩ := main
  refine ⟨m, w', .value (.tuple #[]), ?_, .inl (by simp [gam, gamL]), Goes.chg hr hblk hch ⟨rfl, ?_⟩ (fun _ hh => by cases hh) (fun _ _ _ hh => by rw [hobj] at hh; cases hh), trivial⟩
  · rw [run_builtin ho]
    simp only [builtin, Sem.run_bind, hrun, Result.andThen_ok, Sem.run_pure]
  · intro e he
    cases qi with
    | none => rw [hnone rfl] at he; exact hall e he
    | some a =>
      obtain ⟨_, g2, _⟩ := hsome a rfl
      rw [g2] at he
      exact hall e (List.mem_of_mem_eraseIdx he)

/-! ### Ranging -/
theorem doRange_ok {ty : TypeId} {x : Operand} (ho : o.op = .range ty x) (h : doRange ty x P s o k tm d t nx ≠ .fail) :
    ∃ v t' nx', doRange ty x P s o k tm d t nx = done o v k tm d t' nx' ∧ EffOK P o tm t nx v t' nx' := by
  unfold doRange at h ⊢
  (obtain ⟨hm, eqzz⟩ := bel_fail h; rw [eqzz] at h ⊢; clear eqzz)
  obtain ⟨kt, et, hmd⟩ := isMap_eq hm
  have hu := und_some hmd (by simp)
  (obtain ⟨v, hv, eqzz⟩ := ev_fail h; rw [eqzz] at h ⊢; clear eqzz; try dsimp only at h ⊢)
  cases v with
  | nilm =>
    dsimp only at h ⊢
    rw [newK_eq]
    refine ⟨_, _, _, rfl, fun m w ρ h64 hr hops => ?_⟩
    have hx := hops x (by simp [ho, Op.operands]) _ hv
    refine ⟨m.at nx w.heap.size 0 h64, w.alloc (.mapIter none 0 #[] 0), _, ?_, .inl rfl, Goes.new h64 hr (alloc_pushed w _) ⟨0, rfl, by simp, by simp⟩, Nat.lt_succ_self nx⟩
    simp [execOp, ho, hx.1, gam, Instr.range, run_underlying hu]
  | map mm =>
    dsimp only at h ⊢
    (obtain ⟨es, hes, eqzz⟩ := oel_fail h; rw [eqzz] at h ⊢; clear eqzz; try dsimp only at h ⊢)
    rw [newK_eq]
    refine ⟨_, _, _, rfl, fun m w ρ h64 hr hops => ?_⟩
    have hx := hops x (by simp [ho, Op.operands]) _ hv
    have hblk := mapAt_some hes
    have hget := run_getMap (P := P) hr hblk
    have hlt : mm < nx := (hr.blk mm _ hblk).1
    have hρ : (m.at nx w.heap.size 0 h64).ρ mm = m.ρ mm := (m.at_agree nx w.heap.size 0 h64 mm hlt).1
    refine ⟨m.at nx w.heap.size 0 h64, w.alloc (.mapIter (some (m.ρ mm)) es.2 #[] es.2), _, ?_, .inl rfl, Goes.new h64 hr (alloc_pushed w _) ⟨es.2, ?_, by simp, ?_⟩, Nat.lt_succ_self nx⟩
    · simp [execOp, ho, hx.1, gam, Instr.range, run_underlying hu, hget]
    · simp [hρ]
    · intro c hc; cases hc; exact Nat.lt_succ_of_lt hlt
  | _ => exact absurd rfl h

theorem run_getIter {m : Inj} {w : World} {r : Nat} {mm : Option Nat} {since st : Nat} {seen : Array Nat} (h : w.heap[r]? = some (.mapIter mm since seen st)) : (getObj r).run P w = .ok (.mapIter mm since seen st) w := by
  simp [getObj, Sem.run, h]
theorem run_setIter {w : World} {r : Nat} {mm mm' : Option Nat} {since st since' st' : Nat} {seen seen' : Array Nat} (h : w.heap[r]? = some (.mapIter mm since seen st)) :
    (setObj r (.mapIter mm' since' seen' st')).run P w = .ok () { w with heap := w.heap.setIfInBounds r (.mapIter mm' since' seen' st') } := by
  simp [setObj, Sem.run, h]

theorem doNext_ok {x : Operand} {str : Bool} (ho : o.op = .next x str) (h : doNext x str P s o k tm d t nx ≠ .fail) :
    ∃ v t', doNext x str P s o k tm d t nx = done o v k tm d t' nx ∧ EffOK P o tm t nx v t' nx := by
  unfold doNext at h ⊢
  (obtain ⟨hstr, eqzz⟩ := bel_fail' h; rw [eqzz] at h ⊢; clear eqzz)
  subst hstr
  (obtain ⟨v, hv, eqzz⟩ := ev_fail h; rw [eqzz] at h ⊢; clear eqzz; try dsimp only at h ⊢)
  obtain ⟨b, off, rfl⟩ := onPtr_fail h
  simp only [onPtr_ptr] at h ⊢
  (obtain ⟨hoff, eqzz⟩ := bel_fail h; rw [eqzz] at h ⊢; clear eqzz)
  have hoff := beqN_true hoff
  subst hoff
  (obtain ⟨blk, hblk, eqzz⟩ := oel_fail h; rw [eqzz] at h ⊢; clear eqzz; try dsimp only at h ⊢)
  cases blk with
  | miter mm since seen =>
    change nextAt b o k tm d t nx mm since seen ≠ _ at h
    change ∃ v t', nextAt b o k tm d t nx mm since seen = _ ∧ _
    unfold nextAt at h ⊢
    -- it ends
    have over : ∀ (m : Inj) (w : World) (ρ : Operand → Value), Rel m t nx w → (Instr.next (gam m (.ptr b 0)) false o.type).run P w = .ok (.tuple #[.bool false]) w → ρ x = gam m (.ptr b 0) →
        ∃ (m' : Inj) (w' : World) (r : Next), (execOp ρ o).run P w = .ok r w' ∧ (r = .value (gam m' (.tup [.bool false])) ∨ r = .skip ∧ (.tup [.bool false] : V) = undefV) ∧ Goes m t nx w m' t nx w' ∧ okV m' (Lt nx) (.tup [.bool false]) := fun m w ρ hr hrun hx =>
      ⟨m, w, .value (.tuple #[.bool false]), by simp [execOp, ho, hx, hrun], .inl (by simp [gam, gamL]), Goes.refl hr, trivial, trivial⟩
    cases mm with
    | none =>
      simp only [oel_none] at h ⊢
      refine ⟨_, _, rfl, fun m w ρ h64 hr hops => ?_⟩
      have hx := hops x (by simp [ho, Op.operands]) _ hv
      obtain ⟨_, st, hobj, _⟩ := hr.blk b _ hblk
      refine over m w ρ hr ?_ hx.1
      simp [Instr.next, gam, run_getIter (m := m) hobj]
    | some mm =>
      simp only [oel_some] at h ⊢
      (obtain ⟨es, hes, eqzz⟩ := oel_fail h; rw [eqzz] at h ⊢; clear eqzz; try dsimp only at h ⊢)
      have hm := mapAt_some hes
      have facts : ∀ (m : Inj) (w : World), Rel m t nx w → ∃ st, w.heap[m.ρ b]? = some (.mapIter (some (m.ρ mm)) since seen.toArray st) ∧ (∀ s ∈ seen, s < st) ∧
          (getObj (m.ρ b)).run P w = .ok (.mapIter (some (m.ρ mm)) since seen.toArray st) w ∧ (getObj (m.ρ mm)).run P w = .ok (.map (es.1.map (gamE m)).toArray es.2) w := fun m w hr => by
        obtain ⟨_, st, hobj, hst, _⟩ := hr.blk b _ hblk
        exact ⟨st, hobj, hst, run_getIter (m := m) hobj, run_getMap hr hm⟩
      obtain ⟨el, cl⟩ := es
      unfold nextIn at h ⊢
      match el, seen with
      | [], [] =>
        refine ⟨_, _, rfl, fun m w ρ h64 hr hops => ?_⟩
        have hx := hops x (by simp [ho, Op.operands]) _ hv
        obtain ⟨st, _, _, g1, g2⟩ := facts m w hr
        refine over m w ρ hr ?_ hx.1
        simp [Instr.next, gam, g1, g2, Question.forced]
      | [], [sx] =>
        refine ⟨_, _, rfl, fun m w ρ h64 hr hops => ?_⟩
        have hx := hops x (by simp [ho, Op.operands]) _ hv
        obtain ⟨st, _, _, g1, g2⟩ := facts m w hr
        refine over m w ρ hr ?_ hx.1
        simp [Instr.next, gam, g1, g2, Question.forced]
      | [e], [] =>
        dsimp only at h ⊢
        (obtain ⟨b1, eqzz⟩ := bel_fail h; rw [eqzz] at h ⊢; clear eqzz)
        (obtain ⟨b2, eqzz⟩ := bel_fail h; rw [eqzz] at h ⊢; clear eqzz)
        have h1 : e.2.2 < since := Nat.le_of_ble_eq_true b1
        have h2 : e.2.2 < cl := Nat.le_of_ble_eq_true b2
        rw [Tr.setK_eq]
        refine ⟨_, _, rfl, fun m w ρ h64 hr hops => ?_⟩
        have hx := hops x (by simp [ho, Op.operands]) _ hv
        obtain ⟨st, hobj, _, g1, g2⟩ := facts m w hr
        obtain ⟨_, _, _, _, hlt⟩ := hr.blk b _ hblk
        obtain ⟨_, _, hall⟩ := hr.blk mm _ hm
        have hset := run_setIter (P := P) (mm' := some (m.ρ mm)) (since' := since) (seen' := #[e.2.2]) (st' := cl) hobj
        refine ⟨m, { w with heap := w.heap.setIfInBounds (m.ρ b) (.mapIter (some (m.ρ mm)) since #[e.2.2] cl) }, .value (gam m (.tup [.bool true, e.1, e.2.1])), ?_, .inl rfl, Goes.chg hr hblk (obj := .mapIter (some (m.ρ mm)) since #[e.2.2] cl) ⟨rfl, rfl, rfl, rfl⟩ ⟨cl, rfl, by simpa using h2, hlt⟩ (fun _ hh => by cases hh) (fun _ _ _ hh => by rw [hobj] at hh; cases hh), ?_⟩
        · simp only [execOp, ho, hx.1, Sem.run_bind, Instr.next, gam, g1, g2, Result.andThen_ok]
          simp [Question.forced, gamE, h1, hset, gamL, gam]
        · have := hall e (by simp)
          exact ⟨trivial, this.1, this.2, trivial⟩
      | [e], [sx] =>
        dsimp only at h ⊢
        (obtain ⟨b1, eqzz⟩ := bel_fail h; rw [eqzz] at h ⊢; clear eqzz)
        have h1 := beqN_true b1
        refine ⟨_, _, rfl, fun m w ρ h64 hr hops => ?_⟩
        have hx := hops x (by simp [ho, Op.operands]) _ hv
        obtain ⟨st, _, hst, g1, g2⟩ := facts m w hr
        have hlt : e.2.2 < st := by rw [h1]; exact hst sx (by simp)
        refine over m w ρ hr ?_ hx.1
        have hnl : ¬ st ≤ sx := by rw [← h1]; omega
        simp [Instr.next, gam, g1, g2, Question.forced, gamE, h1, hnl]
      | _ :: _ :: _, _ => exact absurd rfl h
      | [_], _ :: _ :: _ => exact absurd rfl h
      | [], _ :: _ :: _ => exact absurd rfl h
  | _ => exact absurd rfl h
end Go.X
end
