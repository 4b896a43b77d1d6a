/- Parts of the proof: XDrawL, XDrawM, XDrawN, XDrawO. -/
import Derived.Test.YtlkhkalniekaoaaGreatDoorQai

set_option linter.unusedVariables false
set_option linter.unusedSimpArgs false

section
/- The reckoner: drawn regions: the plan goes on; effects. -/
namespace Go.X
open Go
variable {P : Program} {s : CallT} {ops : List Oper} {its : List Item}
variable {n : Nat} {m0 : Inj} {t0 : Hp} {nx0 : Nat} {w0 : World} {L : Nat → Prop} {fut : List Fact} {m : Inj} {tm : Env} {d : Dx} {t : Hp} {nx : Nat} {a : Act} {w : World}

theorem putT_get {tm : Env} {dst : Option Tmp} {v : V} {i : Nat} : (putT tm dst v).get i = if dst = some i then some v else tm.get i := by
  cases dst with
  | none => simp [putT]
  | some d =>
    show (tm.set d (some v)).get i = _
    rw [Tr.get_set]
    by_cases e : i = d
    · subst e; simp
    · rw [if_neg e, if_neg (by simp; exact fun h => e h.symm)]

theorem stepT_get {f : Fact} {t : Hp} {c : Nat} : (stepT f t).get c = if f.blk ≠ none ∧ c = f.nx then f.blk else t.get c := by
  unfold stepT
  cases hb : f.blk with
  | none => simp
  | some b =>
    show (t.set f.nx (some b)).get c = _
    rw [Tr.get_set]
    by_cases e : c = f.nx
    · simp [e]
    · simp [e]

/-- The plan passes an act that is done. -/
theorem SR.adv {f : Fact} (h : SR n m0 t0 nx0 w0 L (f :: fut) m tm d t nx a w) (hL : L f.x.i) (hN : Nms nx (f :: fut)) (hne : ∀ g ∈ fut, g ≠ f) (hnx : f.nx = nx) :
    SR n m0 t0 nx0 w0 L fut m (putT tm f.x.o.dst f.v) d (stepT f t) (stepN f nx) a w := by
  have hmem : f ∈ f :: fut := List.mem_cons_self ..
  have hup : nx ≤ stepN f nx := by unfold stepN; split <;> omega
  obtain ⟨hv1, hv2⟩ := h.val f hmem hL
  rw [hnx] at hv2
  have hS : ∀ lim, stepN f nx ≤ lim → ∀ c, SLn L (f :: fut) nx lim c → SLn L fut (stepN f nx) lim c := fun lim _ c ⟨h1, h2⟩ => by
    refine ⟨h1, ?_⟩
    rcases h2 with h2 | ⟨g, hg, hgL, hgb, e⟩
    · exact .inl (Nat.lt_of_lt_of_le h2 hup)
    · rcases List.mem_cons.1 hg with e' | hg
      · subst e'
        left
        obtain ⟨b, hb⟩ := Option.ne_none_iff_exists'.1 hgb
        unfold stepN
        rw [hb, e, hnx]
        exact Nat.lt_succ_self _
      · exact .inr ⟨g, hg, hgL, hgb, e⟩
  have hlim : ∀ g ∈ fut, stepN f nx ≤ g.nx := fun g hg => by rw [← hnx]; exact (List.pairwise_cons.1 hN.2).1 g hg
  have hgoes : Goes m0 t0 nx0 w0 m (stepT f t) (stepN f nx) w := by
    cases hb : f.blk with
    | none =>
      have e1 : stepT f t = t := by unfold stepT; rw [hb]
      have e2 : stepN f nx = nx := by unfold stepN; rw [hb]
      rw [e1, e2]; exact h.goes
    | some b =>
      obtain ⟨b1, b2, b3, b4⟩ := h.blk f hmem hL b hb
      rw [hnx] at b1 b2 b3 b4
      have e2 : stepN f nx = nx + 1 := by unfold stepN; rw [hb]
      have hget : ∀ c, (stepT f t).get c = if c = nx then some b else t.get c := fun c => by
        rw [stepT_get, hb, hnx]; simp
      have hlive : ∀ c, c ≠ nx → (stepT f t).get c ≠ none → t.get c ≠ none := fun c hc h => by rw [hget, if_neg hc] at h; exact h
      have hrel : Rel m (stepT f t) (stepN f nx) w := by
        constructor
        · intro c x hc
          rw [hget] at hc
          rw [e2]
          by_cases e : c = nx
          · subst e
            rw [if_pos rfl] at hc
            cases hc
            refine ⟨Nat.lt_succ_self _, b3.ext (Inj.agree.refl m _) (fun c hc => hc.1) ⟨Nat.lt_succ_self _, .inr ⟨f, hmem, hL, by rw [hb]; simp, hnx.symm⟩⟩⟩
          · rw [if_neg e] at hc
            obtain ⟨h1, h2⟩ := h.rel.blk c x hc
            exact ⟨Nat.lt_succ_of_lt h1, h2.ext (Inj.agree.refl m _) (fun c hc => Nat.lt_succ_of_lt hc) h1⟩
        · intro c c' hc hc' he
          by_cases e : c = nx
          · by_cases e' : c' = nx
            · rw [e, e']
            · subst e
              exact absurd he.symm (b4 c' (hlive c' e' hc'))
          · by_cases e' : c' = nx
            · subst e'
              exact absurd he (b4 c (hlive c e hc))
            · exact h.rel.inj c c' (hlive c e hc) (hlive c' e' hc') he
      refine ⟨h.goes.agree, hrel, Nat.le_trans h.goes.up hup, h.goes.size, h.goes.keep, fun c hc hl => h.goes.live c hc (hlive c (by have := h.goes.up; omega) hl), fun c hc hl => ?_, h.goes.tape, h.goes.os, h.goes.output, h.goes.still.heap (fun c hc => .inl (by rw [hget, if_neg (by have := h.goes.up; omega)]))⟩
      by_cases e : c = nx
      · subst e; exact .inl b1
      · exact h.goes.fresh c hc (hlive c e hl)
  refine ⟨hgoes, Nat.le_trans h.base hup, ?_, ?_, h.defs.ext (Inj.agree.refl m _) (fun c hc => Nat.lt_of_lt_of_le hc hup), h.size, ?_, ?_, ?_⟩
  · intro i v hi hc
    rw [putT_get] at hi
    by_cases e : f.x.o.dst = some i
    · rw [if_pos e] at hi
      cases hi
      exact hv1 i e
    · rw [if_neg e] at hi
      refine h.env i v hi fun g hg hgL => ?_
      rcases List.mem_cons.1 hg with e' | hg
      · rw [e']; exact e
      · exact hc g hg hgL
  · intro i v hi
    rw [putT_get] at hi
    by_cases e : f.x.o.dst = some i
    · rw [if_pos e] at hi
      cases hi
      exact okV_mono (fun c hc => hc.1) hv2
    · rw [if_neg e] at hi
      exact okV_mono (fun c hc => Nat.lt_of_lt_of_le hc hup) (h.ok i v hi)
  · intro g hg hgL
    obtain ⟨h1, h2⟩ := h.val g (List.mem_cons_of_mem _ hg) hgL
    exact ⟨h1, okV_mono (hS _ (Nat.le_trans (hlim g hg) (stepN_le g))) h2⟩
  · intro g hg hgL b hgb
    obtain ⟨h1, h2, h3, h4⟩ := h.blk g (List.mem_cons_of_mem _ hg) hgL b hgb
    refine ⟨h1, h2, h3.ext (Inj.agree.refl m _) (hS _ (Nat.le_succ_of_le (hlim g hg))) ⟨Nat.lt_succ_self _, .inr ⟨g, List.mem_cons_of_mem _ hg, hgL, by rw [hgb]; simp, rfl⟩⟩, fun c hc => ?_⟩
    rw [stepT_get] at hc
    by_cases e : f.blk ≠ none ∧ c = f.nx
    · rw [e.2]
      exact h.apart f hmem g (List.mem_cons_of_mem _ hg) hL hgL e.1 (by rw [hgb]; simp) (hN.ne hmem (List.mem_cons_of_mem _ hg) (fun e' => hne g hg e'.symm) e.1 (by rw [hgb]; simp))
    · rw [if_neg e] at hc; exact h4 c hc
  · exact fun g hg g' hg' => h.apart g (List.mem_cons_of_mem _ hg) g' (List.mem_cons_of_mem _ hg')

theorem Nms.tail {f : Fact} {nx : Nat} (h : Nms nx (f :: fut)) (hnx : f.nx = nx) : Nms (stepN f nx) fut := by
  obtain ⟨h1, h2⟩ := List.pairwise_cons.1 h.2
  exact ⟨fun g hg => by rw [← hnx]; exact h1 g hg, h2⟩

/-- .. and as many as are done. -/
theorem SR.advs {hist : List Hp} : ∀ {fs : List Fact} {tm : Env} {t : Hp} {nx : Nat} {tm' : Env} {t' : Hp} {nx' : Nat}, Chain P ops hist fs tm t nx tm' t' nx' → SR n m0 t0 nx0 w0 L (fs ++ fut) m tm d t nx a w → (∀ f ∈ fs, L f.x.i) → Nms nx (fs ++ fut) → ((fs ++ fut).Pairwise (· ≠ ·)) →
    SR n m0 t0 nx0 w0 L fut m tm' d t' nx' a w ∧ Nms nx' fut
  | [], _, _, _, _, _, _, ⟨h1, h2, h3⟩, h, _, hN, _ => by subst h1; subst h2; subst h3; exact ⟨h, hN⟩
  | f :: fs, _, _, _, _, _, _, ⟨_, h2, _, _, h5⟩, h, hL, hN, hp => by
    obtain ⟨p1, p2⟩ := List.pairwise_cons.1 hp
    refine SR.advs h5 (SR.adv h (hL f (List.mem_cons_self ..)) hN (fun g hg e => p1 g hg e.symm) h2) (fun g hg => hL g (List.mem_cons_of_mem _ hg)) (hN.tail h2) p2

/-- Where no act done ahead has put anything aside, the frame is as the plan has it. -/
theorem SR.full (h : SR n m0 t0 nx0 w0 L fut m tm d t nx a w) (hf : ∀ f ∈ fut, L f.x.i → ∀ dd, f.x.o.dst = some dd → tm.get dd = none) : StR n m tm d t nx a w where
  rel := h.rel
  env := ⟨fun g hg => Nat.lt_of_lt_of_le hg h.base, fun i v hi => ⟨h.env i v hi fun f hf' hL he => (by have := hf f hf' hL i he; rw [this] at hi; cases hi), h.ok i v hi⟩⟩
  defs := h.defs
  size := h.size

open Classical in
/-- Names as an effect leaves them, but those of early blocks as they were. -/
noncomputable def patch (m m1 : Inj) (S : Nat → Prop) (hS : ∀ g, g < 64 → ¬ S g) : Inj :=
  ⟨fun c => if S c then m.ρ c else m1.ρ c, fun c => if S c then m.κ c else m1.κ c, fun g hg => by rw [if_neg (hS g hg)]; exact m1.fix g hg⟩

/-- An effect (the plan is through with all that comes ahead of it). -/
theorem SR.effect (h : SR n m0 t0 nx0 w0 L fut m tm d t nx a w) {m1 : Inj} {tm1 : Env} {d1 : Dx} {t1 : Hp} {nx1 : Nat} {a1 : Act} {w1 : World} (hg : Goes m t nx w m1 t1 nx1 w1) (hlo : ∀ f ∈ fut, nx1 ≤ f.nx)
    (henv : ∀ i v, tm1.get i = some v → (∀ f ∈ fut, L f.x.i → f.x.o.dst ≠ some i) → a1.tmps.getD i undef = gam m1 v) (hok : ∀ i v, tm1.get i = some v → okV m1 (Lt nx1) v) (hdef : DefsR m1 (Lt nx1) d1.df a1.defers) (hsz : n ≤ a1.tmps.size)
    (hkept : ∀ f ∈ fut, L f.x.i → ∀ dd, f.x.o.dst = some dd → a1.tmps[dd]? = a.tmps[dd]?) {L' : Nat → Prop} (hL' : ∀ f ∈ fut, (L' f.x.i ↔ L f.x.i)) :
    ∃ m2, SR n m0 t0 nx0 w0 L' fut m2 tm1 d1 t1 nx1 a1 w1 := by
  have hge : ∀ c, Early L fut c → nx1 ≤ c := fun c ⟨g, hg', _, _, e⟩ => by rw [e]; exact hlo g hg'
  have hE64 : ∀ g, g < 64 → ¬ Early L fut g := fun g hg' he => by
    have := hge g he; have := hg.up; have := h.base; omega
  have hE : ∀ c, Early L' fut c ↔ Early L fut c := fun c => ⟨fun ⟨g, h1, h2, h3⟩ => ⟨g, h1, (hL' g h1).1 h2, h3⟩, fun ⟨g, h1, h2, h3⟩ => ⟨g, h1, (hL' g h1).2 h2, h3⟩⟩
  have h12 : ∀ c, ¬ Early L fut c → (patch m m1 (Early L fut) hE64).ρ c = m1.ρ c ∧ (patch m m1 (Early L fut) hE64).κ c = m1.κ c := fun c hc => by simp [patch, hc]
  have h02 : ∀ c, Early L fut c → (patch m m1 (Early L fut) hE64).ρ c = m.ρ c ∧ (patch m m1 (Early L fut) hE64).κ c = m.κ c := fun c hc => by simp [patch, hc]
  have a12 : m1.agree (patch m m1 (Early L fut) hE64) (Lt nx1) := fun c hc => h12 c fun he => by have := hge c he; have : c < nx1 := hc; omega
  have a02 : ∀ lim, m.agree (patch m m1 (Early L fut) hE64) (SLn L fut nx lim) := fun lim c ⟨_, hc⟩ => by
    by_cases he : Early L fut c
    · exact h02 c he
    · have hlt : c < nx := hc.resolve_right he
      have h1 := h12 c he
      have h2 := hg.agree c hlt
      exact ⟨h1.1.trans h2.1, h1.2.trans h2.2⟩
  have a0 : m.agree (patch m m1 (Early L fut) hE64) (Lt nx) := fun c hc => by
    have h1 := a12 c (Nat.lt_of_lt_of_le hc hg.up)
    have h2 := hg.agree c hc
    exact ⟨h1.1.trans h2.1, h1.2.trans h2.2⟩
  have hlt1 : ∀ c, t1.get c ≠ none → c < nx1 := fun c hc => hg.rel.below hc
  have hrel : Rel (patch m m1 (Early L fut) hE64) t1 nx1 w1 := by
    constructor
    · intro c x hc
      obtain ⟨h1, h2⟩ := hg.rel.blk c x hc
      refine ⟨h1, ?_⟩
      rw [(a12 c h1).1]
      exact h2.ext a12 (fun _ h => h) h1
    · intro c c' hc hc' he
      rw [(a12 c (hlt1 c hc)).1, (a12 c' (hlt1 c' hc')).1] at he
      exact hg.rel.inj c c' hc hc' he
  have hgo : Goes m t nx w (patch m m1 (Early L fut) hE64) t1 nx1 w1 :=
    ⟨a0, hrel, hg.up, hg.size, hg.keep, hg.live, fun c hc hl => by rw [(a12 c (hlt1 c hl)).1]; exact hg.fresh c hc hl, hg.tape, hg.os, hg.output, hg.still⟩
  have hmono : ∀ lim, ∀ c, SLn L fut nx lim c → SLn L' fut nx1 lim c := fun lim c ⟨h1, h2⟩ => ⟨h1, h2.imp (fun h => Nat.lt_of_lt_of_le h hg.up) (hE c).2⟩
  have hearly : ∀ f ∈ fut, L f.x.i → f.blk ≠ none → Early L fut f.nx := fun f hf hL hb => ⟨f, hf, hL, hb, rfl⟩
  refine ⟨patch m m1 (Early L fut) hE64, h.goes.trans hgo, Nat.le_trans h.base hg.up, ?_, fun i v hi => okV_ext a12 (fun _ h => h) v (hok i v hi), hdef.ext a12 (fun _ h => h), hsz, ?_, ?_, ?_⟩
  · intro i v hi hc
    rw [gam_ext a12 v (hok i v hi)]
    exact henv i v hi fun f hf hL => hc f hf ((hL' f hf).2 hL)
  · intro f hf hL
    have hL := (hL' f hf).1 hL
    obtain ⟨h1, h2⟩ := h.val f hf hL
    refine ⟨fun dd hdd => ?_, okV_ext (a02 _) (hmono _) _ h2⟩
    rw [gam_ext (a02 _) _ h2, ← h1 dd hdd, Array.getD_eq_getD_getElem?, Array.getD_eq_getD_getElem?, hkept f hf hL dd hdd]
  · intro f hf hL b hb
    have hL := (hL' f hf).1 hL
    obtain ⟨h1, h2, h3, h4⟩ := h.blk f hf hL b hb
    have he := hearly f hf hL (by rw [hb]; simp)
    rw [(h02 _ he).1]
    refine ⟨h1, Nat.lt_of_lt_of_le h2 hg.size, ?_, fun c hc => ?_⟩
    · rw [hg.keep _ h2 h4]
      exact h3.ext (a02 _) (hmono _) ⟨Nat.lt_succ_self _, .inr he⟩
    · rw [(a12 c (hlt1 c hc)).1]
      rcases Nat.lt_or_ge c nx with hlt | hge'
      · rw [(hg.agree c hlt).1]
        exact h4 c (hg.live c hlt hc)
      · rcases hg.fresh c hge' hc with hf' | ⟨c0, hc0, e⟩
        · omega
        · rw [← e]; exact h4 c0 hc0
  · intro f hf g hg' hL hL2 hb hb2 hne
    have hL := (hL' f hf).1 hL
    have hL2 := (hL' g hg').1 hL2
    rw [(h02 _ (hearly f hf hL hb)).1, (h02 _ (hearly g hg' hL2 hb2)).1]
    exact h.apart f hf g hg' hL hL2 hb hb2 hne
end Go.X
end

section
/- The reckoner: drawn regions: an act that is done ahead of its turn. -/
namespace Go.X
open Go
variable {P : Program} {s : CallT} {its : List Item}

/-! ### What an operation looks at -/
/-- Some temporaries hold what the plan says. -/
def Holds (m : Inj) (S : Nat → Prop) (tm : Env) (a : Act) (l : List Nat) : Prop := ∀ i ∈ l, ∀ v, tm.get i = some v → a.tmps.getD i undef = gam m v ∧ okV m S v

theorem names_operand {ops : List Oper} {o : Oper} {i : Nat} (h : .tmp i ∈ o.op.operands) : i ∈ Oper.names ops o := by
  unfold Oper.names
  exact List.mem_append_left _ (List.mem_filterMap.2 ⟨.tmp i, Array.mem_toList_iff.2 h, rfl⟩)
theorem names_guard {ops : List Oper} {o g : Oper} {j i : Nat} {b : Bool} (h : o.guard = some (j, b)) (hj : ops[j]? = some g) (hd : g.dst = some i) : i ∈ Oper.names ops o := by
  unfold Oper.names
  refine List.mem_append_right _ ?_
  rw [h]
  simp only [nth_eq, hj, hd]
  simp

theorem ops_of {ops : List Oper} {m : Inj} {S : Nat → Prop} {tm : Env} {a : Act} {o : Oper} (h : Holds m S tm a (Oper.names ops o)) (hS : ∀ g, g < 64 → S g) : OpsR m S tm o a.eval := by
  intro x hx v hv
  cases x with
  | tmp i =>
    have hv' : oel (tm.get i) some none = some v := hv
    cases hg : tm.get i with
    | none => rw [hg] at hv'; cases hv'
    | some u =>
      rw [hg] at hv'; cases hv'
      exact h i (names_operand hx) v hg
  | const c =>
    have h' : oel (ofValue c) some none = some v := hv
    cases hg : ofValue c with
    | none => rw [hg] at h'; cases h'
    | some u =>
      rw [hg] at h'; cases h'
      exact ⟨(ofValue_gam hg m S).1.symm, (ofValue_gam hg m S).2⟩
  | global g =>
    have h' : bel (Nat.ble (Nat.succ g) 64) (some (V.ptr g 0)) none = some v := hv
    cases hg : Nat.ble (Nat.succ g) 64 with
    | false => rw [hg] at h'; cases h'
    | true =>
      rw [hg] at h'; cases h'
      have : g < 64 := Nat.le_of_ble_eq_true hg
      exact ⟨by simp [Act.eval, gam, m.fix g this], hS g this⟩
  | func f =>
    cases hv
    exact ⟨rfl, trivial, trivial⟩

theorem wanted_of {ops : Array Oper} {m : Inj} {S : Nat → Prop} {tm : Env} {a : Act} {o : Oper} (h : Holds m S tm a (Oper.names ops.toList o)) {b : Bool} (hw : wantW ops.toList o.guard tm = some b) : Region.wanted o (yielded ops a.tmps) = b := by
  unfold wantW at hw
  unfold Region.wanted
  cases hg : o.guard with
  | none => rw [hg] at hw; cases hw; rfl
  | some jw =>
    obtain ⟨j, want⟩ := jw
    rw [hg] at hw
    dsimp only at hw ⊢
    have hop : ops.toList[j]? = ops[j]? := Array.getElem?_toList
    rw [hop] at hw
    unfold yielded
    cases ho : ops[j]? with
    | none => rw [ho] at hw; cases hw; rfl
    | some go =>
      rw [ho] at hw
      simp only [Option.bind_some] at hw ⊢
      cases hd : go.dst with
      | none => rw [hd] at hw; cases hw; rfl
      | some dd =>
        rw [hd] at hw
        simp only [Option.bind_some] at hw ⊢
        cases ht : tm.get dd with
        | none => rw [ht] at hw; cases hw
        | some v =>
          rw [ht] at hw
          have hv := (h dd (names_guard hg (by rw [hop]; exact ho) hd) v ht).1
          have hget : ∀ b, v = .bool b → a.tmps[dd]? = some (.bool b) := fun b hb => by
            subst hb
            cases hq : a.tmps[dd]? with
            | none => rw [Array.getD_eq_getD_getElem?, hq] at hv; cases hv
            | some u => rw [Array.getD_eq_getD_getElem?, hq] at hv; exact congrArg some hv
          have hnb : (∀ b, v ≠ .bool b) → ∀ b, a.tmps[dd]? ≠ some (.bool b) := fun hn b hb => by
            rw [Array.getD_eq_getD_getElem?, hb] at hv
            cases v <;> first | exact hn _ rfl | cases hv
          cases v with
          | bool c =>
            rw [hget c rfl]
            dsimp only at hw
            rw [← Option.some.inj hw]
            cases c <;> cases want <;> rfl
          | _ =>
            dsimp only at hw
            rw [← Option.some.inj hw]
            have := hnb (by simp)
            cases hq : a.tmps[dd]? with
            | none => rfl
            | some u =>
              rw [hq] at this
              cases u <;> first | rfl | exact absurd rfl (this _)

/-- Of two that name a temporary, one of which sets it, one comes ahead of the other. -/
theorem Fix.dep {ops : List Oper} (hF : Fix P ops its) {x y : Item} (hx : x ∈ its) (hy : y ∈ its) {i : Nat} (hd : x.o.dst = some i) (hn : i ∈ Oper.names ops y.o) (hne : x.i ≠ y.i) : hasBit y.bef x.i = true ∨ hasBit x.bef y.i = true := by
  have hany : ((Oper.names ops y.o).any fun t => Nat.beq t i) = true := List.any_eq_true.2 ⟨i, hn, Nat.beq_refl i⟩
  rcases Nat.lt_or_gt_of_ne hne with h | h
  · left
    refine hF.temps x hx y hy h ?_
    unfold clash
    rw [hd]
    have : ((Oper.names ops y.o).any fun t => Nat.beq t i) = true := hany
    simp only [this, bel_true]
  · right
    refine hF.temps y hy x hx h ?_
    unfold clash
    rw [hd]
    cases hyd : y.o.dst with
    | none => simp only [hany]
    | some e =>
      simp only [hany]
      cases (Oper.names ops x.o).any fun t => Nat.beq t e <;> cases Nat.beq e i <;> rfl

/-! ### Who set what -/
section
variable {ops : List Oper} {hist : List Hp}

theorem chain_app : ∀ {l1 l2 : List Fact} {tm : Env} {t : Hp} {nx : Nat} {tm' : Env} {t' : Hp} {nx' : Nat}, Chain P ops hist (l1 ++ l2) tm t nx tm' t' nx' → ∃ tm1 t1 nx1, Chain P ops hist l1 tm t nx tm1 t1 nx1 ∧ Chain P ops hist l2 tm1 t1 nx1 tm' t' nx'
  | [], _, tm, t, nx, _, _, _, h => ⟨tm, t, nx, ⟨rfl, rfl, rfl⟩, h⟩
  | f :: l1, l2, tm, t, nx, _, _, _, ⟨h1, h2, h3, h4, h5⟩ => by
    obtain ⟨tm1, t1, nx1, g1, g2⟩ := chain_app h5
    exact ⟨tm1, t1, nx1, ⟨h1, h2, h3, h4, g1⟩, g2⟩
theorem chain_join : ∀ {l1 l2 : List Fact} {tm : Env} {t : Hp} {nx : Nat} {tm1 : Env} {t1 : Hp} {nx1 : Nat} {tm' : Env} {t' : Hp} {nx' : Nat}, Chain P ops hist l1 tm t nx tm1 t1 nx1 → Chain P ops hist l2 tm1 t1 nx1 tm' t' nx' → Chain P ops hist (l1 ++ l2) tm t nx tm' t' nx'
  | [], _, _, _, _, _, _, _, _, _, _, ⟨h1, h2, h3⟩, h => by subst h1; subst h2; subst h3; exact h
  | f :: l1, l2, _, _, _, _, _, _, _, _, _, ⟨h1, h2, h3, h4, h5⟩, h => ⟨h1, h2, h3, h4, chain_join h5 h⟩

theorem chain_set : ∀ {fs : List Fact} {tm : Env} {t : Hp} {nx : Nat} {tm' : Env} {t' : Hp} {nx' : Nat}, Chain P ops hist fs tm t nx tm' t' nx' → ∀ i v, tm'.get i = some v → (tm.get i = some v ∧ ∀ g ∈ fs, g.x.o.dst ≠ some i) ∨ ∃ g ∈ fs, g.x.o.dst = some i ∧ g.v = v
  | [], _, _, _, _, _, _, ⟨h1, _, _⟩, i, v, h => by subst h1; exact .inl ⟨h, by simp⟩
  | f :: fs, tm, _, _, _, _, _, ⟨_, _, _, _, h5⟩, i, v, h => by
    rcases chain_set h5 i v h with ⟨h1, h2⟩ | ⟨g, hg, h1⟩
    · rw [putT_get] at h1
      by_cases e : f.x.o.dst = some i
      · rw [if_pos e] at h1
        cases h1
        exact .inr ⟨f, List.mem_cons_self .., e, rfl⟩
      · rw [if_neg e] at h1
        refine .inl ⟨h1, fun g hg => ?_⟩
        rcases List.mem_cons.1 hg with e' | hg
        · rw [e']; exact e
        · exact h2 g hg
    · exact .inr ⟨g, List.mem_cons_of_mem _ hg, h1⟩

theorem chain_nms : ∀ {fs : List Fact} {tm : Env} {t : Hp} {nx : Nat} {tm' : Env} {t' : Hp} {nx' : Nat}, Chain P ops hist fs tm t nx tm' t' nx' → nx ≤ nx' ∧ (∀ f ∈ fs, nx ≤ f.nx ∧ stepN f f.nx ≤ nx') ∧ fs.Pairwise fun g f => stepN g g.nx ≤ f.nx
  | [], _, _, _, _, _, _, ⟨_, _, h3⟩ => by subst h3; exact ⟨Nat.le_refl _, by simp, .nil⟩
  | f :: fs, _, _, nx, _, _, nx', ⟨_, h2, _, _, h5⟩ => by
    obtain ⟨g1, g2, g3⟩ := chain_nms h5
    have hup : nx ≤ stepN f nx := by unfold stepN; split <;> omega
    refine ⟨Nat.le_trans hup g1, fun g hg => ?_, List.pairwise_cons.2 ⟨fun g hg => ?_, g3⟩⟩
    · rcases List.mem_cons.1 hg with e | hg
      · subst e; rw [h2]; exact ⟨Nat.le_refl _, g1⟩
      · exact ⟨Nat.le_trans hup (g2 g hg).1, (g2 g hg).2⟩
    · rw [h2]; exact (g2 g hg).1

theorem chain_tm {f : Fact} {l2 : List Fact} {tm : Env} {t : Hp} {nx : Nat} {tm' : Env} {t' : Hp} {nx' : Nat} (h : Chain P ops hist (f :: l2) tm t nx tm' t' nx') : f.tm = tm := h.1

theorem PR.nms {tm : Env} {d : Dx} {t : Hp} {nx : Nat} {fut : List Fact} {rem es : List Item} {ts : List TSt} {r : R} (h : PR P ops hist tm d t nx fut rem es ts r) : Nms nx fut := by
  have glue : ∀ {pre fut : List Fact} {nx nx1 nx2 : Nat}, (nx ≤ nx1 ∧ (∀ f ∈ pre, nx ≤ f.nx ∧ stepN f f.nx ≤ nx1) ∧ pre.Pairwise fun g f => stepN g g.nx ≤ f.nx) → nx1 ≤ nx2 → Nms nx2 fut → Nms nx (pre ++ fut) := fun {pre fut nx nx1 nx2} h1 h2 h3 => by
    obtain ⟨a1, a2, a3⟩ := h1
    refine ⟨fun f hf => ?_, List.pairwise_append.2 ⟨a3, h3.2, fun g hg f hf => ?_⟩⟩
    · rcases List.mem_append.1 hf with hf | hf
      · exact (a2 f hf).1
      · exact Nat.le_trans a1 (Nat.le_trans h2 (h3.1 f hf))
    · exact Nat.le_trans (a2 g hg).2 (Nat.le_trans h2 (h3.1 f hf))
  induction h with
  | eff hch _ _ _ _ _ hnx _ ih => exact glue (chain_nms hch) hnx ih
  | skip hch _ _ _ _ _ ih => exact glue (chain_nms hch) (Nat.le_refl _) ih
  | pan hch _ _ _ _ _ hdry _ =>
    obtain ⟨b1, b2, b3⟩ := chain_nms hdry
    exact glue (chain_nms hch) (Nat.le_refl _) ⟨fun f hf => (b2 f hf).1, b3⟩
  | tail h1 h2 _ _ _ _ _ _ _ =>
    obtain ⟨b1, b2, b3⟩ := chain_nms h2
    exact glue (chain_nms h1) (Nat.le_refl _) ⟨fun f hf => (b2 f hf).1, b3⟩

theorem PR.hists {tm : Env} {d : Dx} {t : Hp} {nx : Nat} {fut : List Fact} {rem es : List Item} {ts : List TSt} {r : R} (h : PR P ops hist tm d t nx fut rem es ts r) : ∀ f ∈ fut, ∃ pref, f.hist = pref ++ hist := by
  induction h with
  | eff hch _ _ _ _ _ _ _ ih | skip hch _ _ _ _ _ ih =>
    intro f hf
    rcases List.mem_append.1 hf with hf | hf
    · exact ⟨[], chain_hist hch f hf⟩
    · obtain ⟨pref, e⟩ := ih f hf
      exact ⟨pref ++ [_], by rw [e, List.append_assoc]; rfl⟩
  | pan hch _ _ _ _ _ hdry _ =>
    intro f hf
    rcases List.mem_append.1 hf with hf | hf
    · exact ⟨[], chain_hist hch f hf⟩
    · exact ⟨[], chain_hist hdry f hf⟩
  | tail h1 h2 _ _ _ _ _ _ _ =>
    intro f hf
    rcases List.mem_append.1 hf with hf | hf
    · exact ⟨[], chain_hist h1 f hf⟩
    · exact ⟨[], chain_hist h2 f hf⟩

theorem PR.fact {tm : Env} {d : Dx} {t : Hp} {nx : Nat} {fut : List Fact} {rem es : List Item} {ts : List TSt} {r : R} (h : PR P ops hist tm d t nx fut rem es ts r) : ∀ f ∈ fut, FactOK P ops f := by
  induction h with
  | eff hch _ _ _ _ _ _ _ ih | skip hch _ _ _ _ _ ih =>
    intro f hf
    exact (List.mem_append.1 hf).elim (chain_fact hch f) (ih f)
  | pan hch _ _ _ _ _ hdry _ =>
    intro f hf
    exact (List.mem_append.1 hf).elim (chain_fact hch f) (chain_fact hdry f)
  | tail h1 h2 _ _ _ _ _ _ _ =>
    intro f hf
    exact (List.mem_append.1 hf).elim (chain_fact h1 f) (chain_fact h2 f)

theorem PR.rem {tm : Env} {d : Dx} {t : Hp} {nx : Nat} {fut : List Fact} {rem es : List Item} {ts : List TSt} {r : R} (h : PR P ops hist tm d t nx fut rem es ts r) : ∀ x ∈ rem, (∃ f ∈ fut, f.x = x) ∨ ∃ e ∈ es, hasBit x.bef e.i = true := by
  induction h with
  | eff _ _ _ _ _ _ _ _ ih | skip _ _ _ _ _ _ ih =>
    intro x hx
    rcases List.mem_append.1 hx with hx | hx
    · obtain ⟨f, hf, e⟩ := List.mem_map.1 hx
      exact .inl ⟨f, List.mem_append_left _ hf, e⟩
    · rcases ih x hx with ⟨f, hf, e⟩ | ⟨e, he, h⟩
      · exact .inl ⟨f, List.mem_append_right _ hf, e⟩
      · exact .inr ⟨e, List.mem_cons_of_mem _ he, h⟩
  | pan _ _ _ _ _ _ _ hrem =>
    intro x hx
    rcases hrem x hx with h | h
    · exact .inl h
    · exact .inr ⟨_, List.mem_cons_self .., h⟩
  | tail =>
    intro x hx
    obtain ⟨f, hf, e⟩ := List.mem_map.1 hx
    exact .inl ⟨f, hf, e⟩

/-- Who set what an act looks at. -/
theorem PR.set {tm : Env} {d : Dx} {t : Hp} {nx : Nat} {fut : List Fact} {rem es : List Item} {ts : List TSt} {r : R} (h : PR P ops hist tm d t nx fut rem es ts r) : ∀ (l1 l2 : List Fact) (f : Fact), fut = l1 ++ f :: l2 → ∀ i v, f.tm.get i = some v →
    (tm.get i = some v ∧ ∀ g ∈ l1, g.x.o.dst ≠ some i) ∨ (∃ g ∈ l1, g.x.o.dst = some i ∧ g.v = v) ∨ ∃ e ∈ es, e.o.dst = some i ∧ hasBit e.bef f.x.i = false := by
  have one : ∀ {hist : List Hp} {fs : List Fact} {tm : Env} {t : Hp} {nx : Nat} {tm' : Env} {t' : Hp} {nx' : Nat}, Chain P ops hist fs tm t nx tm' t' nx' → ∀ (l1 l2 : List Fact) (f : Fact), fs = l1 ++ f :: l2 → ∀ i v, f.tm.get i = some v →
      (tm.get i = some v ∧ ∀ g ∈ l1, g.x.o.dst ≠ some i) ∨ (∃ g ∈ l1, g.x.o.dst = some i ∧ g.v = v) := fun hch l1 l2 f e i v hv => by
    rw [e] at hch
    obtain ⟨tm1, t1, nx1, g1, g2⟩ := chain_app hch
    rw [g2.1] at hv
    exact chain_set g1 i v hv
  have two : ∀ {hist : List Hp} {pre fut : List Fact} {tm : Env} {t : Hp} {nx : Nat} {tm1 : Env} {t1 : Hp} {nx1 : Nat} {e : Item} {v1 : V} {es : List Item}, Chain P ops hist pre tm t nx tm1 t1 nx1 → (∀ f ∈ fut, hasBit e.bef f.x.i = false) →
      (∀ (l1 l2 : List Fact) (f : Fact), fut = l1 ++ f :: l2 → ∀ i v, f.tm.get i = some v →
        ((putT tm1 e.o.dst v1).get i = some v ∧ ∀ g ∈ l1, g.x.o.dst ≠ some i) ∨ (∃ g ∈ l1, g.x.o.dst = some i ∧ g.v = v) ∨ ∃ e ∈ es, e.o.dst = some i ∧ hasBit e.bef f.x.i = false) →
      ∀ (l1 l2 : List Fact) (f : Fact), pre ++ fut = l1 ++ f :: l2 → ∀ i v, f.tm.get i = some v →
        (tm.get i = some v ∧ ∀ g ∈ l1, g.x.o.dst ≠ some i) ∨ (∃ g ∈ l1, g.x.o.dst = some i ∧ g.v = v) ∨ ∃ e' ∈ e :: es, e'.o.dst = some i ∧ hasBit e'.bef f.x.i = false := fun {hist pre fut tm t nx tm1 t1 nx1 e v1 es} hch hpost ih l1 l2 f heq i v hv => by
    have late : ∀ as', l1 = pre ++ as' → fut = as' ++ f :: l2 → ((tm.get i = some v ∧ ∀ g ∈ l1, g.x.o.dst ≠ some i) ∨ (∃ g ∈ l1, g.x.o.dst = some i ∧ g.v = v) ∨ ∃ e' ∈ e :: es, e'.o.dst = some i ∧ hasBit e'.bef f.x.i = false) := fun as' e1 e2 => by
      rcases ih as' l2 f e2 i v hv with ⟨h1, h2⟩ | ⟨g, hg, h1⟩ | ⟨e', he', h1⟩
      · rw [putT_get] at h1
        by_cases he : e.o.dst = some i
        · exact .inr (.inr ⟨e, List.mem_cons_self .., he, hpost f (by rw [e2]; simp)⟩)
        · rw [if_neg he] at h1
          rcases chain_set hch i v h1 with ⟨k1, k2⟩ | ⟨g, hg, k1⟩
          · refine .inl ⟨k1, fun g hg => ?_⟩
            rw [e1] at hg
            exact (List.mem_append.1 hg).elim (k2 g) (h2 g)
          · exact .inr (.inl ⟨g, by rw [e1]; exact List.mem_append_left _ hg, k1⟩)
      · exact .inr (.inl ⟨g, by rw [e1]; exact List.mem_append_right _ hg, h1⟩)
      · exact .inr (.inr ⟨e', List.mem_cons_of_mem _ he', h1⟩)
    rcases List.append_eq_append_iff.1 heq with ⟨as', e1, e2⟩ | ⟨cs, e1, e2⟩
    · exact late as' e1 e2
    · cases cs with
      | nil => exact late [] (by rw [e1]; simp) (by simpa using e2.symm)
      | cons c cs =>
        have e3 := List.cons.inj e2
        rw [← e3.1] at e1
        rcases one hch l1 cs f e1 i v hv with h | h
        · exact .inl h
        · exact .inr (.inl h)
  induction h with
  | eff hch _ hpost _ _ _ _ _ ih => exact two hch hpost ih
  | skip hch _ hpost _ _ _ ih => exact two hch hpost ih
  | pan hch _ _ _ _ _ hdry _ =>
    intro l1 l2 f e i v hv
    rcases one (chain_join hch hdry) l1 l2 f e i v hv with h | h
    · exact .inl h
    · exact .inr (.inl h)
  | tail h1 h2 _ _ _ _ _ _ _ =>
    intro l1 l2 f e i v hv
    rcases one (chain_join h1 h2) l1 l2 f e i v hv with h | h
    · exact .inl h
    · exact .inr (.inl h)
end

section
variable {n : Nat} {m0 : Inj} {t0 : Hp} {nx0 : Nat} {w0 : World} {L : Nat → Prop} {fut : List Fact} {m : Inj} {tm : Env} {d : Dx} {t : Hp} {nx : Nat} {a : Act} {w : World}

theorem ord_split {l1 l2 : List Fact} {f : Fact} (h : Ord (l1 ++ f :: l2)) : (∀ g ∈ l1, g.x.i ≠ f.x.i ∧ hasBit g.x.bef f.x.i = false) ∧ ∀ g ∈ l2, f.x.i ≠ g.x.i ∧ hasBit f.x.bef g.x.i = false := by
  obtain ⟨h1, h2, h3⟩ := List.pairwise_append.1 h
  exact ⟨fun g hg => h3 g hg f (List.mem_cons_self ..), fun g hg => (List.pairwise_cons.1 h2).1 g hg⟩
theorem nms_split {l1 l2 : List Fact} {f : Fact} (h : Nms nx (l1 ++ f :: l2)) : ∀ g ∈ l1, stepN g g.nx ≤ f.nx := fun g hg => (List.pairwise_append.1 h.2).2.2 g hg f (List.mem_cons_self ..)

/-- What an act looks at is there, as the plan has it. -/
theorem avail {ops : List Oper} {es : List Item} (hF : Fix P ops its) (hS : SR n m0 t0 nx0 w0 L fut m tm d t nx a w) (hO : Ord fut) (hN : Nms nx fut)
    (hset : ∀ (l1 l2 : List Fact) (f : Fact), fut = l1 ++ f :: l2 → ∀ i v, f.tm.get i = some v → (tm.get i = some v ∧ ∀ g ∈ l1, g.x.o.dst ≠ some i) ∨ (∃ g ∈ l1, g.x.o.dst = some i ∧ g.v = v) ∨ ∃ e ∈ es, e.o.dst = some i ∧ hasBit e.bef f.x.i = false)
    {f : Fact} (hf : f ∈ fut) (hnL : ¬ L f.x.i) (hin : ∀ f ∈ fut, f.x ∈ its ∧ f.x.cl ≠ .e) (hes : ∀ e ∈ es, e ∈ its ∧ e.cl = .e ∧ ¬ L e.i) (hbef : ∀ j, hasBit f.x.bef j = true → L j) (hcl : ∀ x ∈ its, L x.i → ∀ j, hasBit x.bef j = true → L j) :
    Holds m (SLn L fut nx f.nx) f.tm a (Oper.names ops f.x.o) := by
  intro i hi v hv
  obtain ⟨l1, l2, e⟩ := List.append_of_mem hf
  have hO' := hO
  have hN' := hN
  rw [e] at hO' hN'
  obtain ⟨o1, o2⟩ := ord_split hO'
  have hlo := hN.1 f hf
  rcases hset l1 l2 f e i v hv with ⟨h1, h2⟩ | ⟨g, hg, hd, hgv⟩ | ⟨g, hg, hd, hb⟩
  · refine ⟨hS.env i v h1 fun g hg hL hd => ?_, okV_mono (fun c hc => ⟨Nat.lt_of_lt_of_le hc hlo, .inl hc⟩) (hS.ok i v h1)⟩
    have hg' := hg
    rw [e] at hg'
    rcases List.mem_append.1 hg' with hg1 | hg1
    · exact h2 g hg1 hd
    · rcases List.mem_cons.1 hg1 with e' | hg2
      · rw [e'] at hL; exact hnL hL
      · obtain ⟨k1, k2⟩ := o2 g hg2
        rcases hF.dep (hin g hg).1 (hin f hf).1 hd hi (Ne.symm k1) with k | k
        · rw [k2] at k; cases k
        · exact hnL (hcl g.x (hin g hg).1 hL _ k)
  · have hgf : g ∈ fut := by rw [e]; exact List.mem_append_left _ hg
    obtain ⟨k1, k2⟩ := o1 g hg
    have hgL : L g.x.i := by
      rcases hF.dep (hin g hgf).1 (hin f hf).1 hd hi k1 with k | k
      · exact hbef _ k
      · rw [k2] at k; cases k
    obtain ⟨v1, v2⟩ := hS.val g hgf hgL
    rw [← hgv]
    exact ⟨v1 i hd, okV_mono (SLn.mono (fun _ h => h) (nms_split hN' g hg)) v2⟩
  · obtain ⟨g1, g2, g3⟩ := hes g hg
    have hne : g.i ≠ f.x.i := fun e' => (hin f hf).2 (by rw [← hF.inj g g1 f.x (hin f hf).1 e']; exact g2)
    rcases hF.dep g1 (hin f hf).1 hd hi hne with k | k
    · exact absurd (hbef _ k) g3
    · rw [hb] at k; cases k

/-- An act, done ahead of its turn. -/
theorem early_step {ops : Array Oper} (hS : SR n m0 t0 nx0 w0 L fut m tm d t nx a w) {f : Fact} (hf : f ∈ fut) (hnL : ¬ L f.x.i) (hget : ops[f.x.i]? = some f.x.o) (hu : ∀ g ∈ fut, g.x.i = f.x.i → g = f)
    (hd : ∀ g ∈ fut, g ≠ f → ∀ dd, f.x.o.dst = some dd → g.x.o.dst ≠ some dd) (hn : ∀ dd, f.x.o.dst = some dd → dd < n) (hN : Nms nx fut) (hfact : FactOK P ops.toList f) (hH : Holds m (SLn L fut nx f.nx) f.tm a (Oper.names ops.toList f.x.o))
    (hread : f.x.cl = .r → t ∈ f.hist.take (f.back + 1)) {Q : Exit → Act → World → Prop} {K : Act → World → Prop}
    (hK : ∀ a' w' m', SR n m0 t0 nx0 w0 (fun i => L i ∨ i = f.x.i) fut m' tm d t nx a' w' → K a' w') : wpOp P ops Q f.x.i K a w := by
  have hlo := hN.1 f hf
  have h64 : 64 ≤ f.nx := Nat.le_trans hS.base hlo
  have hops : OpsR m (SLn L fut nx f.nx) f.tm f.x.o a.eval := ops_of hH fun g hg => ⟨by omega, .inl (Nat.lt_of_lt_of_le hg hS.base)⟩
  unfold wpOp
  rw [hget]
  dsimp only
  rcases hfact with ⟨hw, hv, hb⟩ | ⟨hw, hfact⟩
  · rw [wanted_of hH hw, if_neg (by simp)]
    have := hS.put hf hu hd hn hb (by rw [hv]; trivial)
    rw [hv] at this
    exact hK _ _ _ this
  · rw [wanted_of hH hw, if_pos rfl]
    left
    unfold Oper.wp
    rcases hfact with ⟨_, hp, hb⟩ | ⟨hc, hr, hb⟩ | ⟨_, b, val, hb, ha, hv⟩
    · obtain ⟨h1, h2⟩ := hp m _ w a.eval hops
      rw [h1]
      exact hK _ _ _ (hS.put hf hu hd hn hb h2)
    · obtain ⟨h1, h2⟩ := hr t (hread hc) m _ nx w a.eval hops (fun c hc => ⟨Nat.lt_of_lt_of_le hc hlo, .inl hc⟩) hS.rel
      rw [h1]
      exact hK _ _ _ (hS.put hf hu hd hn hb h2)
    · have hnot : ¬ SLn L fut nx f.nx f.nx := fun h => Nat.lt_irrefl _ h.1
      obtain ⟨kk, obj, w', h1, h2, h3, h4, _⟩ := ha m _ w a.eval f.nx h64 hnot hops
      rw [h1]
      rw [← hv] at h4 ⊢
      exact hK _ _ _ (hS.alloc hf hnL hu hd hn hN hb h64 h2 h3 h4)
end
end Go.X
end

section
/- The reckoner: drawn regions: what is listed; the stores at the end. -/
namespace Go.X
open Go
variable {P : Program} {s : CallT} {its : List Item}

/-! ### What is listed -/
abbrev Lst (listed : Array Bool) : Nat → Prop := fun i => listed.getD i false = true
theorem lst_set {listed : Array Bool} {i : Nat} (hi : i < listed.size) (j : Nat) : Lst (listed.setIfInBounds i true) j ↔ Lst listed j ∨ j = i := by
  unfold Lst
  by_cases e : i = j
  · subst e; simp [hi]
  · rw [getD_set_ne false e]
    exact ⟨.inl, fun h => h.resolve_right fun h => e h.symm⟩
def unl (listed : Array Bool) : Nat := listed.toList.countP (fun b => !b)
theorem unl_set {listed : Array Bool} {i : Nat} (h : listed.getD i true = false) : unl (listed.setIfInBounds i true) + 1 = unl listed := by
  have hi : i < listed.size := by
    rcases Nat.lt_or_ge i listed.size with h' | h'
    · exact h'
    · simp [Array.getElem?_eq_none h'] at h
  have hv : listed.toList[i]'(by simpa using hi) = false := by
    simp [hi] at h
    simpa using h
  unfold unl
  rw [Array.toList_setIfInBounds, List.countP_set (by simpa using hi), hv]
  have hpos : 0 < listed.toList.countP (fun b => !b) := List.countP_pos_iff.2 ⟨false, by rw [← hv]; exact List.getElem_mem _, rfl⟩
  simp only [Bool.not_false, Bool.not_true, if_true, Bool.false_eq_true, if_false]
  omega
theorem unl_zero {listed : Array Bool} (h : unl listed = 0) (i : Nat) (hi : i < listed.size) : Lst listed i := by
  have := List.countP_eq_zero.1 h (listed[i]) (by simp)
  unfold Lst
  simpa [hi] using this

/-- What holds of the listed ones. -/
structure Lok (ops : Array Oper) (listed : Array Bool) (fuel : Nat) : Prop where
  size : listed.size = ops.size
  cl : ClosedL ops.toList (Lst listed)
  few : unl listed ≤ fuel

variable {ops : Array Oper}

theorem Fix.edge (hF : Fix P ops.toList its) {x : Item} (hx : x ∈ its) {e : Edge} (he : e ∈ x.o.after) (hb : edgeB e = true) : hasBit x.bef e.on = true := by
  have h1 := befs_get ops.toList [] x.i x.o (hF.get x hx)
  simp only [List.length_nil, Nat.zero_add] at h1
  rw [hF.bef x hx] at h1
  rw [Option.some.inj h1]
  exact (befOf_on _ _ e (Array.mem_toList_iff.2 he) hb).1
theorem Fix.lt (hF : Fix P ops.toList its) {x : Item} (hx : x ∈ its) : x.i < ops.size := by
  have := (List.getElem?_eq_some_iff.1 (hF.get x hx)).1
  simpa using this
theorem Lok.bef (hF : Fix P ops.toList its) {listed : Array Bool} {fuel : Nat} (h : Lok ops listed fuel) {x : Item} (hx : x ∈ its) (hL : Lst listed x.i) : ∀ j, hasBit x.bef j = true → Lst listed j :=
  bef_listed h.cl x.i x.o x.bef (hF.get x hx) (hF.bef x hx) fun e he hb => h.cl x.i x.o hL (hF.get x hx) e he hb

/-- One that is ready. -/
theorem ready_item (hF : Fix P ops.toList its) {listed : Array Bool} {fuel : Nat} (h : Lok ops listed (fuel + 1)) {i : Nat} (hi : i ∈ Region.ready .any ops listed) :
    ∃ x ∈ its, x.i = i ∧ ops[x.i]? = some x.o ∧ ¬ Lst listed x.i ∧ (∀ j, hasBit x.bef j = true → Lst listed j) ∧ Lok ops (listed.setIfInBounds i true) fuel ∧ ∀ j, Lst (listed.setIfInBounds i true) j ↔ Lst listed j ∨ j = x.i := by
  obtain ⟨h1, o, ho, h2⟩ := mem_ready.1 hi
  obtain ⟨x, hx, hxi⟩ := hF.all i o (by rw [Array.getElem?_toList]; exact ho)
  have hxo := hF.get x hx
  rw [hxi, Array.getElem?_toList, ho] at hxo
  have hxo := Option.some.inj hxo
  have hlt : i < listed.size := by rw [h.size, ← hxi]; exact hF.lt hx
  refine ⟨x, hx, hxi, by rw [hxi, ho, hxo], ?_, ?_, ⟨by simp [h.size], ?_, ?_⟩, ?_⟩
  · rw [hxi]
    simp [hlt] at h1
    simp [Lst, hlt, h1]
  · exact bef_listed h.cl x.i x.o x.bef (hF.get x hx) (hF.bef x hx) fun e he hb => h2 e (by rw [hxo]; exact he) hb
  · intro j oj hj hoj e he hb
    rw [lst_set hlt] at hj ⊢
    left
    rcases hj with hj | rfl
    · exact h.cl j oj hj hoj e he hb
    · rw [Array.getElem?_toList, ho] at hoj
      cases hoj
      exact h2 e he hb
  · have := unl_set h1
    have := h.few
    omega
  · intro j; rw [lst_set hlt, hxi]

theorem all_listed (hF : Fix P ops.toList its) {listed : Array Bool} {fuel : Nat} (h : Lok ops listed fuel) (hr : Region.ready .any ops listed = []) : ∀ x ∈ its, Lst listed x.i := by
  have key : ∀ i, ∀ x ∈ its, x.i = i → Lst listed x.i := by
    intro i
    induction i using Nat.strongRecOn with
    | _ i ih =>
      intro x hx hxi
      apply Classical.byContradiction
      intro hn
      have hlt : x.i < listed.size := by rw [h.size]; exact hF.lt hx
      have hmem : x.i ∈ Region.ready .any ops listed := mem_ready.2 ⟨by
        unfold Lst at hn
        simp [hlt] at hn
        simp [hlt, hn], x.o, by rw [← Array.getElem?_toList]; exact hF.get x hx, fun e he hb => by
        have hbit := hF.edge hx he hb
        have hlow := hF.low x hx _ hbit
        have hsz := hF.lt hx
        obtain ⟨y, hy, hyi⟩ := hF.all e.on (ops[e.on]'(by omega)) (by rw [Array.getElem?_toList]; exact Array.getElem?_eq_getElem _)
        have := ih e.on (by omega) y hy hyi
        rw [hyi] at this
        exact this⟩
      rw [hr] at hmem
      cases hmem
  exact fun x hx => key x.i x hx rfl

/-! ### The stores at the end -/
section
variable {n : Nat} {m0 : Inj} {t0 : Hp} {nx0 : Nat} {w0 : World} {L : Nat → Prop} {fut : List Fact} {m : Inj} {tm : Env} {d : Dx} {t : Hp} {nx : Nat} {a : Act} {w : World}

theorem Goes.heap {m' : Inj} {t' t2 : Hp} {nx' : Nat} {w' : World} (h : Goes m t nx w m' t' nx' w') (ht : ∀ c, t2.get c = t'.get c) : Goes m t nx w m' t2 nx' w' where
  agree := h.agree
  rel := ⟨fun b x hb => h.rel.blk b x (by rw [← ht]; exact hb), fun b b' h1 h2 => h.rel.inj b b' (by rw [← ht]; exact h1) (by rw [← ht]; exact h2)⟩
  up := h.up
  size := h.size
  keep := h.keep
  live := fun b hb hl => h.live b hb (by rw [← ht]; exact hl)
  fresh := fun b hb hl => h.fresh b hb (by rw [← ht]; exact hl)
  tape := h.tape
  os := h.os
  output := h.output
  still := h.still.heap (fun b _ => .inl (ht b))

theorem chain_other {hist : List Hp} {tA : Hp} : ∀ {fs : List Fact} {tm : Env} {t : Hp} {nx : Nat} {tm' : Env} {t' : Hp} {nx' : Nat}, Chain P ops.toList hist fs tm t nx tm' t' nx' → (∀ f ∈ fs, f.blk = none) → Chain P ops.toList hist fs tm tA nx tm' tA nx'
  | [], _, _, _, _, _, _, ⟨h1, _, h3⟩, _ => ⟨h1, rfl, h3⟩
  | f :: fs, _, _, _, _, _, _, ⟨h1, h2, h3, h4, h5⟩, hb => by
    refine ⟨h1, h2, h3, h4, ?_⟩
    have e : ∀ t, stepT f t = t := fun t => by unfold stepT; rw [hb f (List.mem_cons_self ..)]
    rw [e]
    exact chain_other h5 fun g hg => hb g (List.mem_cons_of_mem _ hg)

theorem updAll_get : ∀ (ts : List TSt) (t : Hp), (ts.Pairwise fun p q => p.2.1 ≠ q.2.1) → (∀ c, (∀ q ∈ ts, q.2.1 ≠ c) → (updAll ts t).get c = t.get c) ∧ ∀ q ∈ ts, (updAll ts t).get q.2.1 = (updT t q.2.1 q.2.2).get q.2.1
  | [], t, _ => ⟨fun _ _ => rfl, by simp⟩
  | p :: ts, t, hp => by
    obtain ⟨h1, h2⟩ := List.pairwise_cons.1 hp
    obtain ⟨g1, g2⟩ := updAll_get ts (updT t p.2.1 p.2.2) h2
    have e0 : updAll (p :: ts) t = updAll ts (updT t p.2.1 p.2.2) := rfl
    rw [e0]
    refine ⟨fun c hc => ?_, fun q hq => ?_⟩
    · rw [g1 c fun q hq => hc q (List.mem_cons_of_mem _ hq)]
      exact updT_ne fun e => hc p (List.mem_cons_self ..) e.symm
    · rcases List.mem_cons.1 hq with e | hq
      · subst e
        exact g1 _ fun r hr e => h1 r hr e.symm
      · rw [g2 q hq]
        have hne : q.2.1 ≠ p.2.1 := fun e => h1 q hq e.symm
        cases q.2.2 with
        | none => exact updT_ne hne
        | some x => simp [updT]

/-- Where some of the stores at the end are done. -/
structure TI (P : Program) (ops : Array Oper) (its : List Item) (n : Nat) (m0 : Inj) (t0 : Hp) (nx0 : Nat) (w0 : World) (late : List Fact) (ts : List TSt) (tm1 : Env) (d : Dx) (t1 : Hp) (nx1 : Nat) (listed : Array Bool) (tA : Hp) (m : Inj) (a : Act) (w : World) : Prop where
  st : SR n m0 t0 nx0 w0 (Lst listed) late m tm1 d tA nx1 a w
  there : ∀ q ∈ ts, Lst listed q.1.i → tA.get q.2.1 = (updT t1 q.2.1 q.2.2).get q.2.1
  yet : ∀ q ∈ ts, ¬ Lst listed q.1.i → tA.get q.2.1 = t1.get q.2.1
  oth : ∀ c, (∀ q ∈ ts, q.2.1 ≠ c) → tA.get c = t1.get c
  cov : ∀ x ∈ its, Lst listed x.i ∨ (∃ f ∈ late, f.x = x) ∨ ∃ q ∈ ts, q.1 = x

/-- What is fixed at the end. -/
structure TF (P : Program) (ops : Array Oper) (its : List Item) (n : Nat) (hist : List Hp) (late : List Fact) (ts : List TSt) (tm1 tm2 : Env) (t1 : Hp) (nx1 : Nat) : Prop where
  fix : Fix P ops.toList its
  dstn : ∀ x ∈ its, ∀ dd, x.o.dst = some dd → dd < n
  ch : Chain P ops.toList hist late tm1 t1 nx1 tm2 t1 nx1
  ord : Ord late
  pure : ∀ f ∈ late, f.x.cl = .p
  inl : ∀ f ∈ late, f.x ∈ its
  ints : ∀ q ∈ ts, q.1 ∈ its ∧ q.1.cl = .e
  out : ∀ f ∈ late, ∀ q ∈ ts, hasBit f.x.bef q.1.i = false
  guard : ∀ q ∈ ts, q.1.o.guard = none
  tsok : ∀ q ∈ ts, TSOK P tm2 nx1 t1 q
  pw : ts.Pairwise fun p q => p.2.1 ≠ q.2.1
  inj : ∀ q ∈ ts, ∀ q' ∈ ts, q.1.i = q'.1.i → q = q'

theorem Ord.inj {fut : List Fact} (h : Ord fut) : ∀ f ∈ fut, ∀ g ∈ fut, g.x.i = f.x.i → g = f := fun f hf g hg e => by
  apply Classical.byContradiction
  intro hne
  rcases pairwise_either h g hg f hf hne with h' | h'
  · exact h'.1 e
  · exact h'.1 e.symm
theorem Ord.ne {fut : List Fact} (h : Ord fut) : fut.Pairwise (· ≠ ·) := List.Pairwise.imp (fun {g f} h e => h.1 (by rw [e])) h

theorem tail_main {hist : List Hp} {late : List Fact} {ts : List TSt} {tm1 tm2 : Env} {t1 : Hp} {nx1 : Nat} (hT : TF P ops its n hist late ts tm1 tm2 t1 nx1) : ∀ (fuel : Nat) (listed : Array Bool) (tA : Hp) (m : Inj) (a : Act) (w : World),
    TI P ops its n m0 t0 nx0 w0 late ts tm1 d t1 nx1 listed tA m a w → Lok ops listed fuel → wpAny P .any ops (Post n m0 d t0 nx0 w0 (.go .normal tm2 d (updAll ts t1) nx1)) fuel listed a w := by
  have hblk : ∀ f ∈ late, f.blk = none := fun f hf => fact_p_blk (chain_fact hT.ch f hf) (hT.pure f hf)
  have hnms : Nms nx1 late := by
    obtain ⟨_, b2, b3⟩ := chain_nms hT.ch
    exact ⟨fun f hf => (b2 f hf).1, b3⟩
  have hdd : ∀ f ∈ late, ∀ g ∈ late, g ≠ f → ∀ dd, f.x.o.dst = some dd → g.x.o.dst ≠ some dd := fun f hf g hg hne dd h1 h2 => by
    have hi : f.x.i ≠ g.x.i := fun e => hne (hT.ord.inj f hf g hg e.symm)
    exact hT.fix.dsts f.x (hT.inl f hf) g.x (hT.inl g hg) hi dd h1 h2
  -- all is done
  have fin : ∀ (listed : Array Bool) (tA : Hp) (m : Inj) (a : Act) (w : World), TI P ops its n m0 t0 nx0 w0 late ts tm1 d t1 nx1 listed tA m a w → (∀ x ∈ its, Lst listed x.i) → Post n m0 d t0 nx0 w0 (.go .normal tm2 d (updAll ts t1) nx1) .normal a w := by
    intro listed tA m a w hI hall
    obtain ⟨g1, g2⟩ := updAll_get ts t1 hT.pw
    have hget : ∀ c, (updAll ts t1).get c = tA.get c := fun c => by
      by_cases hc : ∃ q ∈ ts, q.2.1 = c
      · obtain ⟨q, hq, e⟩ := hc
        rw [← e, g2 q hq, hI.there q hq (hall q.1 (hT.ints q hq).1)]
      · have hc' : ∀ q ∈ ts, q.2.1 ≠ c := fun q hq e => hc ⟨q, hq, e⟩
        rw [g1 c hc', hI.oth c hc']
    have hst := hI.st
    rw [← List.append_nil late] at hst
    obtain ⟨h1, _⟩ := SR.advs (fut := []) (chain_other (tA := tA) hT.ch hblk) hst (fun f hf => hall f.x (hT.inl f hf)) (by rw [List.append_nil]; exact hnms) (by rw [List.append_nil]; exact hT.ord.ne)
    have hgo := h1.goes.heap hget
    have hfull := h1.full (by simp)
    exact ⟨.normal, tm2, d, updAll ts t1, nx1, m, rfl, rfl, trivial, hgo, hgo.rel, hfull.env, hfull.defs, hfull.size⟩
  intro fuel
  induction fuel with
  | zero =>
    intro listed tA m a w hI hL
    have hall : ∀ x ∈ its, Lst listed x.i := fun x hx => unl_zero (Nat.le_zero.1 hL.few) x.i (by rw [hL.size]; exact hT.fix.lt hx)
    refine ⟨?_, fin listed tA m a w hI hall⟩
    cases hr : Region.ready .any ops listed with
    | nil => rfl
    | cons i r =>
      have hi : i ∈ Region.ready .any ops listed := by rw [hr]; exact List.mem_cons_self ..
      obtain ⟨h1, o, ho, _⟩ := mem_ready.1 hi
      have hlt : i < listed.size := by rw [hL.size]; exact (Array.getElem?_eq_some_iff.1 ho).1
      have := unl_zero (Nat.le_zero.1 hL.few) i hlt
      unfold Lst at this
      simp [hlt] at h1 this
      rw [h1] at this; cases this
  | succ fuel ih =>
    intro listed tA m a w hI hL
    refine ⟨fun hr => fin listed tA m a w hI (all_listed hT.fix hL hr), fun i hi => ?_⟩
    obtain ⟨x, hx, hxi, hget, hnL, hbef, hL', hset⟩ := ready_item hT.fix hL hi
    subst hxi
    rcases hI.cov x hx with h | ⟨f, hf, e⟩ | ⟨q, hq, e⟩
    · exact absurd h hnL
    · subst e
      refine early_step hI.st hf hnL hget (fun g hg e => hT.ord.inj f hf g hg e) (hdd f hf) (hT.dstn _ hx) hnms (chain_fact hT.ch f hf) ?_ (fun hr => by rw [hT.pure f hf] at hr; cases hr) fun a' w' m' hst => ?_
      · refine avail (es := []) hT.fix hI.st hT.ord hnms ?_ hf hnL (fun g hg => ⟨hT.inl g hg, by rw [hT.pure g hg]; simp⟩) (by simp) hbef (fun y hy hLy => hL.bef hT.fix hy hLy)
        intro l1 l2 g e i v hv
        have hch := hT.ch
        rw [e] at hch
        obtain ⟨tmx, tx, nxx, k1, k2⟩ := chain_app hch
        rw [k2.1] at hv
        rcases chain_set k1 i v hv with h | h
        · exact .inl h
        · exact .inr (.inl h)
      · have hne : ∀ q ∈ ts, q.1.i ≠ f.x.i := fun q hq e => by
          have := hT.fix.inj q.1 (hT.ints q hq).1 f.x hx e
          have h1 := (hT.ints q hq).2
          rw [this, hT.pure f hf] at h1
          cases h1
        refine ih _ tA m' a' w' ⟨?_, ?_, ?_, hI.oth, ?_⟩ hL'
        · have : Lst (listed.setIfInBounds f.x.i true) = fun i => Lst listed i ∨ i = f.x.i := funext fun j => propext (hset j)
          rw [this]; exact hst
        · exact fun q hq hq' => hI.there q hq (((hset _).1 hq').resolve_right (hne q hq))
        · exact fun q hq hq' => hI.yet q hq fun h => hq' ((hset _).2 (.inl h))
        · exact fun y hy => (hI.cov y hy).imp (fun h => (hset _).2 (.inl h)) id
    · subst e
      obtain ⟨hdst, hdo⟩ := hT.tsok q hq
      have heff := hdo tA (hI.yet q hq hnL)
      have hne : ∀ f ∈ late, f.x.i ≠ q.1.i := fun f hf e => by
        have := hT.fix.inj f.x (hT.inl f hf) q.1 hx e
        have h1 := (hT.ints q hq).2
        rw [← this, hT.pure f hf] at h1
        cases h1
      have hH : Holds m (Lt nx1) tm2 a (Oper.names ops.toList q.1.o) := by
        intro i hi v hv
        rcases chain_set hT.ch i v hv with ⟨k1, k2⟩ | ⟨g, hg, k1, k2⟩
        · exact ⟨hI.st.env i v k1 fun g hg _ => k2 g hg, hI.st.ok i v k1⟩
        · rcases hT.fix.dep (hT.inl g hg) hx k1 hi (hne g hg) with k | k
          · obtain ⟨v1, v2⟩ := hI.st.val g hg (hbef _ k)
            rw [← k2]
            exact ⟨v1 i k1, okV_mono (fun c hc => Nat.lt_of_lt_of_le hc.1 ((chain_nms hT.ch).2.1 g hg).2) v2⟩
          · rw [hT.out g hg q hq] at k; cases k
      have hops : OpsR m (Lt nx1) tm2 q.1.o a.eval := ops_of hH fun g hg => Nat.lt_of_lt_of_le hg hI.st.base
      obtain ⟨m', w', r, hrun, hr, hgo, _⟩ := heff m w a.eval hI.st.base hI.st.rel hops
      have hK : wpAny P .any ops (Post n m0 d t0 nx0 w0 (.go .normal tm2 d (updAll ts t1) nx1)) fuel (listed.setIfInBounds q.1.i true) a w' := by
        obtain ⟨m2, hst2⟩ := hI.st.effect (L' := Lst (listed.setIfInBounds q.1.i true)) hgo hnms.1 (fun i v hi hc => by rw [gam_ext hgo.agree v (hI.st.ok i v hi)]; exact hI.st.env i v hi hc) (fun i v hi => okV_ext hgo.agree (fun _ h => h) v (hI.st.ok i v hi)) (hI.st.defs.ext hgo.agree (fun _ h => h)) hI.st.size (fun _ _ _ _ _ => rfl) (fun f hf => by rw [hset]; exact ⟨fun h => h.resolve_right (hne f hf), .inl⟩)
        have hpw : ∀ q' ∈ ts, q' ≠ q → q'.2.1 ≠ q.2.1 := fun q' hq' hne' => by
          rcases pairwise_either hT.pw q' hq' q hq hne' with h | h
          · exact h
          · exact fun e => h e.symm
        refine ih _ _ m2 a w' ⟨hst2, fun q' hq' h' => ?_, fun q' hq' h' => ?_, fun c hc => ?_, fun y hy => (hI.cov y hy).imp (fun h => (hset _).2 (.inl h)) id⟩ hL'
        · by_cases e : q' = q
          · subst e
            cases hu : q'.2.2 with
            | none => exact hI.yet q' hq hnL
            | some x => simp [updT]
          · rw [updT_ne (hpw q' hq' e)]
            exact hI.there q' hq' (((hset _).1 h').resolve_right fun e' => e (hT.inj q' hq' q hq e'))
        · have e : q' ≠ q := fun e => h' (by rw [e]; exact (hset _).2 (.inr rfl))
          rw [updT_ne (hpw q' hq' e)]
          exact hI.yet q' hq' fun h => h' ((hset _).2 (.inl h))
        · rw [updT_ne fun e => hc q hq e.symm]
          exact hI.oth c hc
      unfold wpOp
      rw [hget]
      dsimp only
      have hwant : Region.wanted q.1.o (yielded ops a.tmps) = true := by
        unfold Region.wanted; rw [hT.guard q hq]
      rw [hwant, if_pos rfl]
      left
      have hput : ∀ v, a.put q.1.o.dst v = a := fun v => by rw [hdst]; rfl
      unfold Oper.wp
      rw [hrun]
      rcases hr with rfl | ⟨rfl, _⟩
      · show wpAny P .any ops _ fuel _ (a.put q.1.o.dst _) w'
        rw [hput]; exact hK
      · show wpAny P .any ops _ fuel _ (a.put q.1.o.dst _) w'
        rw [hput]; exact hK
end
end Go.X
end

section
/- The reckoner: drawn regions: whatever order is drawn, the plan's answer comes out. -/
namespace Go.X
open Go
variable {P : Program} {s : CallT} {its : List Item} {ops : Array Oper}
variable {n : Nat} {m0 : Inj} {t0 : Hp} {nx0 : Nat} {w0 : World} {L : Nat → Prop} {fut : List Fact} {m : Inj} {tm : Env} {d : Dx} {t : Hp} {nx : Nat} {a : Act} {w : World}

/-- The plan is through with all that comes ahead of an effect: the frame is as the plan has it. -/
theorem adv_full {hist : List Hp} {pre : List Fact} {tm1 : Env} {t1 : Hp} {nx1 : Nat} {e : Item} (hF : Fix P ops.toList its) (hS : SR n m0 t0 nx0 w0 L (pre ++ fut) m tm d t nx a w) (hN : Nms nx (pre ++ fut)) (hO : Ord (pre ++ fut)) (hch : Chain P ops.toList hist pre tm t nx tm1 t1 nx1) (hLp : ∀ f ∈ pre, L f.x.i)
    (hin : ∀ f ∈ pre ++ fut, f.x ∈ its ∧ f.x.cl ≠ .e) (hfree : ∀ f ∈ pre ++ fut, ∀ dd, f.x.o.dst = some dd → tm.get dd = none ∨ ∀ y ∈ its, y.i ≠ f.x.i → hasBit f.x.bef y.i = true) (he : e ∈ its) (hec : e.cl = .e) (heL : ¬ L e.i) (hcl : ∀ x ∈ its, L x.i → ∀ j, hasBit x.bef j = true → L j) :
    SR n m0 t0 nx0 w0 L fut m tm1 d t1 nx1 a w ∧ Nms nx1 fut ∧ (∀ f ∈ fut, ∀ dd, f.x.o.dst = some dd → tm1.get dd = none ∨ ∀ y ∈ its, y.i ≠ f.x.i → hasBit f.x.bef y.i = true) ∧ StR n m tm1 d t1 nx1 a w := by
  obtain ⟨h1, h2⟩ := SR.advs hch hS hLp hN hO.ne
  have hfree' : ∀ f ∈ fut, ∀ dd, f.x.o.dst = some dd → tm1.get dd = none ∨ ∀ y ∈ its, y.i ≠ f.x.i → hasBit f.x.bef y.i = true := fun f hf dd hdd => by
    have hf' : f ∈ pre ++ fut := List.mem_append_right _ hf
    refine (hfree f hf' dd hdd).imp (fun hn => ?_) id
    cases hg : tm1.get dd with
    | none => rfl
    | some v =>
      rcases chain_set hch dd v hg with ⟨k, _⟩ | ⟨g, hg', k, _⟩
      · rw [hn] at k; cases k
      · have hgm : g ∈ pre ++ fut := List.mem_append_left _ hg'
        exact absurd hdd (hF.dsts g.x (hin g hgm).1 f.x (hin f hf').1 ((List.pairwise_append.1 hO).2.2 g hg' f hf).1 dd k)
  refine ⟨h1, h2, hfree', h1.full fun f hf hfL dd hdd => ?_⟩
  rcases hfree' f hf dd hdd with h | h
  · exact h
  · have hf' : f ∈ pre ++ fut := List.mem_append_right _ hf
    have hne : e.i ≠ f.x.i := fun e' => (hin f hf').2 (by rw [← hF.inj e he f.x (hin f hf').1 e']; exact hec)
    exact absurd (hcl f.x (hin f hf').1 hfL _ (h e he hne)) heL

/-- What is fixed of a region and its plan. -/
structure MF (P : Program) (ops : Array Oper) (its : List Item) (n : Nat) (all : List Item) (ts : List TSt) : Prop where
  fix : Fix P ops.toList its
  dstn : ∀ x ∈ its, ∀ dd, x.o.dst = some dd → dd < n
  alle : ∀ e ∈ all, e ∈ its ∧ e.cl = .e
  chain : all.Pairwise fun x y => hasBit y.bef x.i = true
  ints : ∀ q ∈ ts, q.1 ∈ its ∧ q.1.cl = .e
  tail : ∀ q ∈ ts, ∀ e ∈ all, hasBit q.1.bef e.i = true
  inj : ∀ q ∈ ts, ∀ q' ∈ ts, q.1.i = q'.1.i → q = q'

/-- A position of the plan, and a frame. -/
structure MI (P : Program) (ops : Array Oper) (its : List Item) (n : Nat) (m0 : Inj) (t0 : Hp) (nx0 : Nat) (w0 : World) (all : List Item) (ts : List TSt) (d : Dx) (r : R) (listed : Array Bool) (hist : List Hp) (tm : Env) (t : Hp) (nx : Nat) (fut : List Fact) (rem es : List Item) (m : Inj) (a : Act) (w : World) : Prop where
  pr : PR P ops.toList hist tm d t nx fut rem es ts r
  hd : ∃ old, hist = t :: old
  done : ∃ dn, all = dn ++ es ∧ hist.length = dn.length + 1
  facts : FactsIn all its fut
  ncl : ∀ f ∈ fut, f.x.cl ≠ .e
  cov : ∀ x ∈ its, Lst listed x.i ∨ x ∈ rem ∨ x ∈ es ∨ ∃ q ∈ ts, q.1 = x
  nes : ∀ e ∈ es, ¬ Lst listed e.i
  nts : ∀ q ∈ ts, ¬ Lst listed q.1.i
  free : ∀ f ∈ fut, ∀ dd, f.x.o.dst = some dd → tm.get dd = none ∨ ∀ y ∈ its, y.i ≠ f.x.i → hasBit f.x.bef y.i = true
  st : SR n m0 t0 nx0 w0 (Lst listed) fut m tm d t nx a w

theorem MI.es_in {all : List Item} {ts : List TSt} {r : R} {listed : Array Bool} {hist : List Hp} {rem es : List Item} (hM : MF P ops its n all ts) (hI : MI P ops its n m0 t0 nx0 w0 all ts d r listed hist tm t nx fut rem es m a w) : (∀ e ∈ es, e ∈ its ∧ e.cl = .e ∧ e ∈ all) ∧ es.Pairwise fun x y => hasBit y.bef x.i = true := by
  obtain ⟨dn, h1, _⟩ := hI.done
  have hc := hM.chain
  rw [h1] at hc
  refine ⟨fun e he => ?_, (List.pairwise_append.1 hc).2.1⟩
  have hm : e ∈ all := by rw [h1]; exact List.mem_append_right _ he
  exact ⟨(hM.alle e hm).1, (hM.alle e hm).2, hm⟩

/-- An effect is done. -/
theorem MI.next {all : List Item} {ts : List TSt} {r : R} {listed : Array Bool} {fuel : Nat} {hist : List Hp} {pre : List Fact} {rem es : List Item} {e : Item} (hM : MF P ops its n all ts) (hI : MI P ops its n m0 t0 nx0 w0 all ts d r listed hist tm t nx (pre ++ fut) (pre.map (·.x) ++ rem) (e :: es) m a w) (hL : Lok ops listed fuel)
    {tm1 : Env} {t1 : Hp} {nx1 : Nat} (hch : Chain P ops.toList hist pre tm t nx tm1 t1 nx1) (hLp : ∀ f ∈ pre, Lst listed f.x.i) {listed' : Array Bool} (hset : ∀ j, Lst listed' j ↔ Lst listed j ∨ j = e.i)
    {v : V} {t' : Hp} {nx' : Nat} (hpr : PR P ops.toList (t' :: hist) (putT tm1 e.o.dst v) d t' nx' fut rem es ts r) {a' : Act} {w' : World} {m' : Inj} (hg : Goes m t1 nx1 w m' t' nx' w') (hst : StR n m' (putT tm1 e.o.dst v) d t' nx' a' w') (hk : KeptT e.o a a') :
    ∃ m2, MI P ops its n m0 t0 nx0 w0 all ts d r listed' (t' :: hist) (putT tm1 e.o.dst v) t' nx' fut rem es m2 a' w' := by
  obtain ⟨hes, hpw⟩ := hI.es_in hM
  obtain ⟨he, hec, heall⟩ := hes e (List.mem_cons_self ..)
  have heL := hI.nes e (List.mem_cons_self ..)
  have hin : ∀ f ∈ pre ++ fut, f.x ∈ its ∧ f.x.cl ≠ .e := fun f hf => ⟨(hI.facts f hf).1, hI.ncl f hf⟩
  obtain ⟨h1, h2, h3, h4⟩ := adv_full hM.fix hI.st hI.pr.nms hI.pr.ord hch hLp hin hI.free he hec heL fun x hx hLx => hL.bef hM.fix hx hLx
  have hne : ∀ f ∈ fut, f.x.i ≠ e.i := fun f hf e' => by
    have hf' : f ∈ pre ++ fut := List.mem_append_right _ hf
    exact (hin f hf').2 (by rw [hM.fix.inj f.x (hin f hf').1 e he e']; exact hec)
  have hdst : ∀ f ∈ fut, ∀ dd, f.x.o.dst = some dd → e.o.dst ≠ some dd := fun f hf dd h => hM.fix.dsts f.x (hin f (List.mem_append_right _ hf)).1 e he (hne f hf) dd h
  obtain ⟨m2, hs⟩ := h1.effect (L' := Lst listed') hg hpr.nms.1 (fun i u hi _ => (hst.env.at_ i u hi).1) (fun i u hi => (hst.env.at_ i u hi).2) hst.defs hst.size (fun f hf _ dd hdd => hk dd (hdst f hf dd hdd)) (fun f hf => by rw [hset]; exact ⟨fun h => h.resolve_right (hne f hf), .inl⟩)
  obtain ⟨dn, d1, d2⟩ := hI.done
  have hlow : ∀ x ∈ its, hasBit x.bef e.i = true → x.i ≠ e.i := fun x hx hb => by
    have := hM.fix.low x hx _ hb; omega
  refine ⟨m2, hpr, ⟨hist, rfl⟩, ⟨dn ++ [e], by rw [d1]; simp, by simp [d2]⟩, fun f hf => hI.facts f (List.mem_append_right _ hf), fun f hf => hI.ncl f (List.mem_append_right _ hf), fun x hx => ?_, fun e' he' h => ?_, fun q hq h => ?_, fun f hf dd hdd => ?_, hs⟩
  · rcases hI.cov x hx with h | h | h | h
    · exact .inl ((hset _).2 (.inl h))
    · rcases List.mem_append.1 h with h | h
      · obtain ⟨f, hf, e1⟩ := List.mem_map.1 h
        exact .inl ((hset _).2 (.inl (by rw [← e1]; exact hLp f hf)))
      · exact .inr (.inl h)
    · rcases List.mem_cons.1 h with h | h
      · exact .inl ((hset _).2 (.inr (by rw [h])))
      · exact .inr (.inr (.inl h))
    · exact .inr (.inr (.inr h))
  · rcases (hset _).1 h with h | h
    · exact hI.nes e' (List.mem_cons_of_mem _ he') h
    · exact hlow e' (hes e' (List.mem_cons_of_mem _ he')).1 ((List.pairwise_cons.1 hpw).1 e' he') h
  · rcases (hset _).1 h with h | h
    · exact hI.nts q hq h
    · exact hlow q.1 (hM.ints q hq).1 (hM.tail q hq e heall) h
  · refine (h3 f hf dd hdd).imp (fun hn => ?_) id
    rw [putT_get, if_neg (hdst f hf dd hdd)]; exact hn

theorem main_ok {all : List Item} {ts : List TSt} {r : R} (hM : MF P ops its n all ts) : ∀ (fuel : Nat) (listed : Array Bool) (hist : List Hp) (tm : Env) (t : Hp) (nx : Nat) (fut : List Fact) (rem es : List Item) (m : Inj) (a : Act) (w : World),
    MI P ops its n m0 t0 nx0 w0 all ts d r listed hist tm t nx fut rem es m a w → Lok ops listed fuel → wpAny P .any ops (Post n m0 d t0 nx0 w0 r) fuel listed a w := by
  -- all is done
  have fin : ∀ (listed : Array Bool) (hist : List Hp) (tm : Env) (t : Hp) (nx : Nat) (fut : List Fact) (rem es : List Item) (m : Inj) (a : Act) (w : World), MI P ops its n m0 t0 nx0 w0 all ts d r listed hist tm t nx fut rem es m a w → (∀ x ∈ its, Lst listed x.i) → Post n m0 d t0 nx0 w0 r .normal a w := by
    intro listed hist tm t nx fut rem es m a w hI hall
    have hes := (hI.es_in hM).1
    have hts : ts = [] := by
      cases ts with
      | nil => rfl
      | cons q ts => exact absurd (hall q.1 (hM.ints q (List.mem_cons_self ..)).1) (hI.nts q (List.mem_cons_self ..))
    have hno : ∀ e ∈ es, False := fun e he => hI.nes e he (hall e (hes e he).1)
    have hf1 := hI.facts
    have hst := hI.st
    have hnm := hI.pr.nms
    have hor := hI.pr.ord
    cases hI.pr with
    | eff => exact (hno _ (List.mem_cons_self ..)).elim
    | skip => exact (hno _ (List.mem_cons_self ..)).elim
    | pan => exact (hno _ (List.mem_cons_self ..)).elim
    | tail h1 h2 =>
      have hch := chain_join h1 h2
      rw [← List.append_nil (_ ++ _)] at hst hnm hor
      obtain ⟨g1, _⟩ := SR.advs (fut := []) hch hst (fun f hf => hall f.x (hf1 f hf).1) hnm hor.ne
      have hfull := g1.full (by simp)
      subst hts
      exact ⟨.normal, _, d, _, _, m, rfl, rfl, trivial, g1.goes, hfull⟩
  intro fuel
  induction fuel with
  | zero =>
    intro listed hist tm t nx fut rem es m a w hI hL
    have hall : ∀ x ∈ its, Lst listed x.i := fun x hx => unl_zero (Nat.le_zero.1 hL.few) x.i (by rw [hL.size]; exact hM.fix.lt hx)
    refine ⟨?_, fin listed hist tm t nx fut rem es m a w hI hall⟩
    cases hr : Region.ready .any ops listed with
    | nil => rfl
    | cons i r =>
      have hi : i ∈ Region.ready .any ops listed := by rw [hr]; exact List.mem_cons_self ..
      obtain ⟨h1, o, ho, _⟩ := mem_ready.1 hi
      have hlt : i < listed.size := by rw [hL.size]; exact (Array.getElem?_eq_some_iff.1 ho).1
      have := unl_zero (Nat.le_zero.1 hL.few) i hlt
      unfold Lst at this
      simp [hlt] at h1 this
      rw [h1] at this; cases this
  | succ fuel ih =>
    intro listed hist tm t nx fut rem es m a w hI hL
    refine ⟨fun hr => fin listed hist tm t nx fut rem es m a w hI (all_listed hM.fix hL hr), fun i hi => ?_⟩
    obtain ⟨x, hx, hxi, hget, hnL, hbef, hL', hset⟩ := ready_item hM.fix hL hi
    subst hxi
    obtain ⟨hes, hpw⟩ := hI.es_in hM
    have hcl : ∀ y ∈ its, Lst listed y.i → ∀ j, hasBit y.bef j = true → Lst listed j := fun y hy hLy => hL.bef hM.fix hy hLy
    rcases hI.cov x hx with h | h | h | h
    · exact absurd h hnL
    · -- an act
      rcases hI.pr.rem x h with ⟨f, hf, e⟩ | ⟨e, he, hb⟩
      · subst e
        have hin : ∀ g ∈ fut, g.x ∈ its ∧ g.x.cl ≠ .e := fun g hg => ⟨(hI.facts g hg).1, hI.ncl g hg⟩
        have hne : ∀ y ∈ its, y.cl = .e → y.i ≠ f.x.i := fun y hy hc e => (hin f hf).2 (by rw [← hM.fix.inj y hy f.x hx e]; exact hc)
        refine early_step hI.st hf hnL hget (fun g hg e => hI.pr.ord.inj f hf g hg e) (fun g hg hne dd h1 h2 => ?_) (hM.dstn _ hx) hI.pr.nms (hI.pr.fact f hf) ?_ (fun hr => ?_) fun a' w' m' hst => ?_
        · have hi : f.x.i ≠ g.x.i := fun e => hne (hI.pr.ord.inj f hf g hg e.symm)
          exact hM.fix.dsts f.x (hin f hf).1 g.x (hin g hg).1 hi dd h1 h2
        · exact avail hM.fix hI.st hI.pr.ord hI.pr.nms hI.pr.set hf hnL hin (fun e he => ⟨(hes e he).1, (hes e he).2.1, hI.nes e he⟩) hbef hcl
        · obtain ⟨pref, hp⟩ := hI.pr.hists f hf
          obtain ⟨old, ho⟩ := hI.hd
          obtain ⟨dn, d1, d2⟩ := hI.done
          have hback := (hI.facts f hf).2
          have hlo : loOf all f.x ≤ dn.length := by
            unfold loOf
            rw [d1, List.filter_append]
            have : es.filter (fun e => hasBit f.x.bef e.i) = [] := List.filter_eq_nil_iff.2 fun e he hb => hI.nes e he (hbef _ hb)
            rw [this, List.append_nil]
            exact List.length_filter_le ..
          rw [hp, List.length_append, d2] at hback
          rw [hp, ho]
          have hlt : pref.length < f.back + 1 := by omega
          refine List.mem_of_getElem? (i := pref.length) ?_
          rw [List.getElem?_take, if_pos hlt, List.getElem?_append_right (Nat.le_refl _), Nat.sub_self]
          rfl
        · have he : Lst (listed.setIfInBounds f.x.i true) = fun i => Lst listed i ∨ i = f.x.i := funext fun j => propext (hset j)
          refine ih _ hist tm t nx fut rem es m' a' w' ⟨hI.pr, hI.hd, hI.done, hI.facts, hI.ncl, fun y hy => (hI.cov y hy).imp (fun h => (hset _).2 (.inl h)) id, fun e he h => ?_, fun q hq h => ?_, hI.free, by rw [he]; exact hst⟩ hL'
          · rcases (hset _).1 h with h | h
            · exact hI.nes e he h
            · exact hne e (hes e he).1 (hes e he).2.1 h
          · rcases (hset _).1 h with h | h
            · exact hI.nts q hq h
            · exact hne q.1 (hM.ints q hq).1 (hM.ints q hq).2 h
      · exact absurd (hbef _ hb) (hI.nes e he)
    · -- an effect
      have hhead : ∀ e es', es = e :: es' → x = e := fun e es' he => by
        subst he
        rcases List.mem_cons.1 h with h | h
        · exact h
        · exact absurd (hbef _ ((List.pairwise_cons.1 hpw).1 x h)) (hI.nes e (List.mem_cons_self ..))
      have hpr := hI.pr
      have hin : ∀ g ∈ fut, g.x ∈ its ∧ g.x.cl ≠ .e := fun g hg => ⟨(hI.facts g hg).1, hI.ncl g hg⟩
      have hkeep := hI
      cases hpr with
      | @eff _ _ _ _ _ pre fut' rem' e es' _ _ v tm1 t1 t' nx1 nx' hch hpre hpost hord hw heff hnx hr =>
        have hxe := hhead e es' rfl
        subst hxe
        have hLp : ∀ f ∈ pre, Lst listed f.x.i := fun f hf => hbef _ (hpre f hf)
        obtain ⟨_, _, _, hfull⟩ := adv_full hM.fix hI.st hI.pr.nms hI.pr.ord hch hLp hin hI.free hx (hes x (List.mem_cons_self ..)).2.1 hnL hcl
        unfold wpOp
        rw [hget]
        dsimp only
        rw [wanted_of (ops := ops) (S := Lt nx1) (fun i _ v hv => hfull.env.at_ i v hv) hw, if_pos rfl]
        left
        refine heff n m a w hfull (hM.dstn x hx) _ _ fun a' w' m' hg hst hk => ?_
        obtain ⟨m2, hI2⟩ := hkeep.next hM hL hch hLp hset hr hg hst hk
        exact ih _ _ _ _ _ _ _ _ m2 a' w' hI2 hL'
      | @skip _ _ _ _ _ pre fut' rem' e es' _ _ tm1 t1 nx1 hch hpre hpost hord hw hr =>
        have hxe := hhead e es' rfl
        subst hxe
        have hLp : ∀ f ∈ pre, Lst listed f.x.i := fun f hf => hbef _ (hpre f hf)
        obtain ⟨_, _, _, hfull⟩ := adv_full hM.fix hI.st hI.pr.nms hI.pr.ord hch hLp hin hI.free hx (hes x (List.mem_cons_self ..)).2.1 hnL hcl
        unfold wpOp
        rw [hget]
        dsimp only
        rw [wanted_of (ops := ops) (S := Lt nx1) (fun i _ v hv => hfull.env.at_ i v hv) hw, if_neg (by simp)]
        have hgo := Goes.refl hfull.rel
        obtain ⟨m2, hI2⟩ := hkeep.next hM hL hch hLp hset hr hgo (hfull.next hgo (v := undefV) (dst := x.o.dst) trivial (hM.dstn x hx)) (kept_put x.o a _)
        exact ih _ _ _ _ _ _ _ _ m2 _ w hI2 hL'
      | @pan _ _ _ _ _ pre dry rem' e es' _ v tm1 tm2 t1 t2 t' nx1 nx2 nx' hch hpre hpost hord hw hpan hdry hrem =>
        have hxe := hhead e es' rfl
        subst hxe
        have hLp : ∀ f ∈ pre, Lst listed f.x.i := fun f hf => hbef _ (hpre f hf)
        obtain ⟨hs1, _, _, hfull⟩ := adv_full hM.fix hI.st hI.pr.nms hI.pr.ord hch hLp hin hI.free hx (hes x (List.mem_cons_self ..)).2.1 hnL hcl
        unfold wpOp
        rw [hget]
        dsimp only
        rw [wanted_of (ops := ops) (S := Lt nx1) (fun i _ v hv => hfull.env.at_ i v hv) hw, if_pos rfl]
        left
        refine hpan n m a w hfull (hM.dstn x hx) _ _ fun w' m' hg hv => ?_
        refine ⟨.panic v, _, d, t', nx', m', rfl, rfl, ⟨rfl, hv⟩, hs1.goes.trans hg, hg.rel, ⟨fun g hg' => ?_, fun i u hu => ?_⟩, hfull.defs.ext hg.agree (Lt.mono hg.up), hfull.size⟩
        · have h1 := hfull.env.base g hg'
          exact Nat.lt_of_lt_of_le h1 hg.up
        · exact (hfull.env.ext hg.agree (Lt.mono hg.up)).at_ i u (unsetAll_get _ _ _ _ hu).1
      | tail => cases h
    · -- a store at the end
      obtain ⟨q, hq, e⟩ := h
      have hes0 : ∀ e ∈ es, False := fun e' he' => hI.nes e' he' (hbef _ (by rw [← e]; exact hM.tail q hq e' (hes e' he').2.2))
      have hpr := hI.pr
      have hst := hI.st
      have hcov := hI.cov
      have hnts := hI.nts
      have hor := hI.pr.ord
      have hnm := hI.pr.nms
      have hfa := hI.facts
      cases hpr with
      | eff => exact (hes0 _ (List.mem_cons_self ..)).elim
      | skip => exact (hes0 _ (List.mem_cons_self ..)).elim
      | pan => exact (hes0 _ (List.mem_cons_self ..)).elim
      | @tail _ _ _ _ _ last late _ tm1 tm2 t1 nx1 h1 h2 hord hp hin hout hg hts hpw' =>
        have hLl : ∀ f ∈ last, Lst listed f.x.i := fun f hf => hbef _ (by rw [← e]; exact hin f hf q hq)
        obtain ⟨hs1, _⟩ := SR.advs h1 hst hLl hnm hor.ne
        have hTF : TF P ops its n hist late ts tm1 tm2 t1 nx1 := ⟨hM.fix, hM.dstn, h2, (List.pairwise_append.1 hord).2.1, hp, fun f hf => (hfa f (List.mem_append_right _ hf)).1, hM.ints, hout, hg, hts, hpw', hM.inj⟩
        have hTI : TI P ops its n m0 t0 nx0 w0 late ts tm1 d t1 nx1 listed t1 m a w := ⟨hs1, fun q hq h => absurd h (hnts q hq), fun _ _ _ => rfl, fun _ _ => rfl, fun y hy => by
          rcases hcov y hy with h | h | h | h
          · exact .inl h
          · obtain ⟨f, hf, e'⟩ := List.mem_map.1 h
            rcases List.mem_append.1 hf with hf | hf
            · exact .inl (by rw [← e']; exact hLl f hf)
            · exact .inr (.inl ⟨f, hf, e'⟩)
          · cases h
          · exact .inr (.inr h)⟩
        exact (tail_main hTF (fuel + 1) listed t1 m a w hTI hL).2 x.i hi
end Go.X
end
