/- Parts of the proof: XDrawC, XDrawD, XDrawH, XDrawG, XDrawI, XDrawJ, XDrawK. -/
import Derived.Test.YtlkhkalniekaoaaGreatDoorQah

set_option linter.unusedVariables false
set_option linter.unusedSimpArgs false

section
/- The reckoner: drawn regions: the plan's run. -/
namespace Go.X
open Go
variable {P : Program} {s : CallT}

/-- What is known of an operation that is no effect: when the plan does it, and what it yields. -/
structure Fact where
  x : Item
  tm : Env
  nx : Nat
  hist : List Hp
  back : Nat
  v : V
  blk : Option Blk
/-- Is it done, as far as the plan's temporaries say? -/
noncomputable def wantW (ops : List Oper) (g : Option (Nat × Bool)) (tm : Env) : Option Bool :=
  match g with
  | none => some true
  | some (j, want) => match (ops[j]?).bind (·.dst) with
    | none => some false
    | some dd => match tm.get dd with
      | none => none
      | some (.bool b) => some (b == want)
      | some _ => some false
noncomputable def stepT (f : Fact) (t : Hp) : Hp := match f.blk with | some b => t.set f.nx (some b) | none => t
def stepN (f : Fact) (nx : Nat) : Nat := match f.blk with | some _ => nx + 1 | none => nx
def FactOK (P : Program) (ops : List Oper) (f : Fact) : Prop :=
  (wantW ops f.x.o.guard f.tm = some false ∧ f.v = undefV ∧ f.blk = none) ∨
  (wantW ops f.x.o.guard f.tm = some true ∧
    ((f.x.cl = .p ∧ PureOK P f.x.o f.tm f.v ∧ f.blk = none) ∨
     (f.x.cl = .r ∧ (∀ H ∈ f.hist.take (f.back + 1), ReadOK P f.x.o f.tm H f.v) ∧ f.blk = none) ∨
     (f.x.cl = .a ∧ ∃ b val, f.blk = some b ∧ AllocOK P f.x.o f.tm b val ∧ f.v = val f.nx)))

theorem guardX_want {ops : List Oper} {g : Option (Nat × Bool)} {tm : Env} {y n : R} (h : guardX ops g tm y n ≠ .fail) : (wantW ops g tm = some true ∧ guardX ops g tm y n = y) ∨ (wantW ops g tm = some false ∧ guardX ops g tm y n = n) := by
  unfold guardX wantW at *
  cases g with
  | none => exact .inl ⟨rfl, rfl⟩
  | some jw =>
    obtain ⟨j, want⟩ := jw
    simp only [oel_some] at h ⊢
    rw [nth_eq] at h ⊢
    cases ho : ops[j]? with
    | none => exact .inr ⟨rfl, rfl⟩
    | some go =>
      rw [ho] at h
      simp only [oel_some, Option.bind_some] at h ⊢
      cases hd : go.dst with
      | none => exact .inr ⟨rfl, rfl⟩
      | some dd =>
        rw [hd] at h
        simp only [oel_some] at h ⊢
        cases ht : tm.get dd with
        | none => rw [ht] at h; exact absurd rfl h
        | some v =>
          simp only [oel_some]
          cases v with
          | bool b => cases b <;> cases want <;> simp [onBool, V.sel, wantIs, boolEq, notB, bel]
          | _ => exact .inr ⟨rfl, rfl⟩

/-- Acts, one behind the other, from a state to a state. -/
def Chain (P : Program) (ops : List Oper) (hist : List Hp) : List Fact → Env → Hp → Nat → Env → Hp → Nat → Prop
  | [], tm, t, nx, tm', t', nx' => tm' = tm ∧ t' = t ∧ nx' = nx
  | f :: fs, tm, t, nx, tm', t', nx' => f.tm = tm ∧ f.nx = nx ∧ f.hist = hist ∧ FactOK P ops f ∧ Chain P ops hist fs (putT tm f.x.o.dst f.v) (stepT f t) (stepN f nx) tm' t' nx'

theorem stable_all {op : Op} {tm : Env} {v : V} : ∀ (n : Nat) (l : List Hp), stable P op tm v n l = true → ∀ H ∈ l.take n, opR P op tm H = some v
  | 0, l, _ => by simp
  | n + 1, [], h => by cases h
  | n + 1, t :: r, h => by
    have h : oel (opR P op tm t) (fun w => andB (sameV v w) (stable P op tm v n r)) false = true := h
    cases ho : opR P op tm t with
    | none => rw [ho] at h; cases h
    | some w =>
      rw [ho] at h
      simp only [oel_some, andB_eq, Bool.and_eq_true] at h
      have hvw := sameV_eq h.1
      subst hvw
      intro H hH
      rw [List.take_succ_cons] at hH
      rcases List.mem_cons.1 hH with rfl | hH
      · exact ho
      · exact stable_all n r h.2 H hH

theorem act_ok {ops : List Oper} {hist : List Hp} {a : Act1} {k : K} {tm : Env} {d : Dx} {t : Hp} {nx : Nat} (hcl : a.x.cl = clOf P a.x.o.op) (hne : a.x.cl ≠ .e) (h : act1X P s ops hist a k tm d t nx ≠ .fail) :
    ∃ f : Fact, f.x = a.x ∧ f.tm = tm ∧ f.nx = nx ∧ f.hist = hist ∧ f.back = a.back ∧ FactOK P ops f ∧ act1X P s ops hist a k tm d t nx = k (putT tm a.x.o.dst f.v) d (stepT f t) (stepN f nx) := by
  unfold act1X at h ⊢
  rcases guardX_want h with ⟨hw, e⟩ | ⟨hw, e⟩
  · rw [e] at h ⊢
    cases hc : a.x.cl with
    | p =>
      rw [hc] at h
      obtain ⟨v, h1, h2⟩ := p_ok (s := s) (hcl.symm.trans hc) h
      refine ⟨⟨a.x, tm, nx, hist, a.back, v, none⟩, rfl, rfl, rfl, rfl, rfl, .inr ⟨hw, .inl ⟨hc, h1, rfl⟩⟩, ?_⟩
      dsimp only
      rw [h2, done_eq]; rfl
    | r =>
      rw [hc] at h
      dsimp only at h ⊢
      unfold doRead at h ⊢
      cases hist with
      | nil => exact absurd rfl h
      | cons h0 old =>
        simp only [onList_cons] at h ⊢
        obtain ⟨v, hv, e2⟩ := oel_fail h; rw [e2] at h ⊢; clear e2
        obtain ⟨hs, e2⟩ := bel_fail h; rw [e2] at h ⊢; clear e2
        have hr := hcl.symm.trans hc
        refine ⟨⟨a.x, tm, nx, h0 :: old, a.back, v, none⟩, rfl, rfl, rfl, rfl, rfl, .inr ⟨hw, .inr (.inl ⟨hc, ?_, rfl⟩)⟩, ?_⟩
        · intro H hH
          rw [List.take_succ_cons] at hH
          rcases List.mem_cons.1 hH with rfl | hH
          · exact r_ok hr hv
          · exact r_ok hr (stable_all _ _ hs H hH)
        · rw [done_eq]; rfl
    | a =>
      rw [hc] at h
      obtain ⟨blk, val, h1, h2⟩ := a_ok (s := s) (hcl.symm.trans hc) h
      refine ⟨⟨a.x, tm, nx, hist, a.back, val nx, some blk⟩, rfl, rfl, rfl, rfl, rfl, .inr ⟨hw, .inr (.inr ⟨hc, blk, val, rfl, h1, rfl⟩)⟩, ?_⟩
      dsimp only
      rw [h2, newK_eq, done_eq]; rfl
    | e => exact absurd hc hne
  · rw [e] at h ⊢
    refine ⟨⟨a.x, tm, nx, hist, a.back, undefV, none⟩, rfl, rfl, rfl, rfl, rfl, .inl ⟨hw, rfl, rfl⟩, ?_⟩
    rw [done_eq]; rfl

theorem acts_ok {ops : List Oper} {hist : List Hp} : ∀ (l : List Act1) (k : K) (tm : Env) (d : Dx) (t : Hp) (nx : Nat), (∀ a ∈ l, a.x.cl = clOf P a.x.o.op ∧ a.x.cl ≠ .e) → actsX P s ops hist l k tm d t nx ≠ .fail →
    ∃ (fs : List Fact) (tm' : Env) (t' : Hp) (nx' : Nat), fs.map (fun f => (⟨f.x, f.back⟩ : Act1)) = l ∧ Chain P ops hist fs tm t nx tm' t' nx' ∧ actsX P s ops hist l k tm d t nx = k tm' d t' nx'
  | [], k, tm, d, t, nx, _, h => ⟨[], tm, t, nx, rfl, ⟨rfl, rfl, rfl⟩, rfl⟩
  | a :: l, k, tm, d, t, nx, hc, h => by
    have e0 : actsX P s ops hist (a :: l) k tm d t nx = act1X P s ops hist a (actsX P s ops hist l k) tm d t nx := rfl
    rw [e0] at h ⊢
    obtain ⟨f, f1, f2, f3, f4, f5, f6, f7⟩ := act_ok (s := s) (hc a (List.mem_cons_self ..)).1 (hc a (List.mem_cons_self ..)).2 h
    rw [f7] at h ⊢
    obtain ⟨fs, tm', t', nx', g1, g2, g3⟩ := acts_ok l k _ d _ _ (fun b hb => hc b (List.mem_cons_of_mem _ hb)) h
    refine ⟨f :: fs, tm', t', nx', ?_, ⟨f2, f3, f4, f6, ?_⟩, g3⟩
    · rw [List.map_cons, g1, f1, f5]
    · rw [f1]; exact g2
end Go.X
end

section
/- The reckoner: drawn regions: effects, panics, the plan as a whole. -/
namespace Go.X
open Go
variable {P : Program} {s : CallT}

/-- What an effect does, where it is done. -/
def EffW (P : Program) (o : Oper) (tm : Env) (d : Dx) (t : Hp) (nx : Nat) (v : V) (t' : Hp) (nx' : Nat) : Prop :=
  ∀ (n : Nat) (m : Inj) (a : Act) (w : World), StR n m tm d t nx a w → (∀ i, o.dst = some i → i < n) → ∀ (Q : Exit → Act → World → Prop) (K : Act → World → Prop),
    (∀ a' w' m', Goes m t nx w m' t' nx' w' → StR n m' (putT tm o.dst v) d t' nx' a' w' → KeptT o a a' → K a' w') → o.wp P a w K Q
/-- What an effect does that panics. -/
def PanW (P : Program) (o : Oper) (tm : Env) (d : Dx) (t : Hp) (nx : Nat) (v : V) (t' : Hp) (nx' : Nat) : Prop :=
  ∀ (n : Nat) (m : Inj) (a : Act) (w : World), StR n m tm d t nx a w → (∀ i, o.dst = some i → i < n) → ∀ (Q : Exit → Act → World → Prop) (K : Act → World → Prop),
    (∀ w' m', Goes m t nx w m' t' nx' w' → okV m' (Lt nx') v → Q (.panic [{ v := gam m' v, recovered := false }]) a w') → o.wp P a w K Q

/-- What is left of the temporaries behind a panic. -/
noncomputable def unsetAll (ops : List Oper) (tm : Env) : Env := ops.foldl (fun e o => oel o.dst (fun x => e.set x none) e) tm
theorem unsetAll_get : ∀ (ops : List Oper) (tm : Env) (i : Nat) (v : V), (unsetAll ops tm).get i = some v → tm.get i = some v ∧ ∀ o ∈ ops, o.dst ≠ some i
  | [], tm, i, v, h => ⟨h, by simp⟩
  | o :: ops, tm, i, v, h => by
    have e0 : unsetAll (o :: ops) tm = unsetAll ops (oel o.dst (fun x => tm.set x none) tm) := rfl
    rw [e0] at h
    obtain ⟨h1, h2⟩ := unsetAll_get ops _ i v h
    cases hd : o.dst with
    | none =>
      rw [hd] at h1
      refine ⟨h1, fun o' ho' => ?_⟩
      rcases List.mem_cons.1 ho' with rfl | hm
      · rw [hd]; simp
      · exact h2 o' hm
    | some x =>
      rw [hd, oel_some, Tr.get_set] at h1
      split at h1
      · cases h1
      · rename_i hne
        refine ⟨h1, fun o' ho' => ?_⟩
        rcases List.mem_cons.1 ho' with rfl | hm
        · rw [hd]; intro e; cases e; exact hne rfl
        · exact h2 o' hm

theorem panicX_ok {ops : List Oper} {hist : List Hp} {dry : List Act1} {tm0 : Env} {d0 : Dx} {t0 : Hp} {nx0 : Nat} {v : V} {t : Hp} {nx : Nat} (hc : ∀ a ∈ dry, a.x.cl = clOf P a.x.o.op ∧ a.x.cl ≠ .e) (h : panicX P s ops hist dry tm0 d0 t0 nx0 v t nx ≠ .fail) :
    ∃ (fs : List Fact) (tm' : Env) (t' : Hp) (nx' : Nat), fs.map (fun f => (⟨f.x, f.back⟩ : Act1)) = dry ∧ Chain P ops hist fs tm0 t0 nx0 tm' t' nx' ∧ panicX P s ops hist dry tm0 d0 t0 nx0 v t nx = .go (.panic v) (unsetAll ops tm0) d0 t nx := by
  unfold panicX at h ⊢
  exact acts_ok (s := s) dry _ tm0 d0 t0 nx0 hc h

theorem op_effW {o : Oper} {k : K} {tm : Env} {d : Dx} {t : Hp} {nx : Nat} (hc : ctl o.op = false) (h : disp o.op P s o k tm d t nx ≠ .fail) :
    ∃ v t' nx', disp o.op P s o k tm d t nx = k (putT tm o.dst v) d t' nx' ∧ EffW P o tm d t nx v t' nx' := by
  obtain ⟨v, t', nx', h1, h2⟩ := disp_ok rfl hc h
  refine ⟨v, t', nx', by rw [h1, done_eq], fun n m a w hst hd Q K hK => ?_⟩
  obtain ⟨m', w', r', hrun, hr, hg, hv⟩ := h2 m w a.eval hst.h64 hst.rel (hst.env.ops o)
  have hk := hK (a.put o.dst (gam m' v)) w' m' hg (hst.next hg hv hd) (kept_put _ _ _)
  unfold Oper.wp
  rw [hrun]
  rcases hr with rfl | ⟨rfl, rfl⟩
  · exact hk
  · exact hk

theorem call_effW {o : Oper} {k : K} {tm : Env} {d : Dx} {t : Hp} {nx : Nat} {x : Operand} {args : Array Operand} {tys : Array TypeId} {kp : V → Hp → Nat → R} (ho : o.op = .call ⟨.value x, args, tys⟩) (hself : SelfOK P s)
    (h : callWith x args s o kp k tm d t nx ≠ .fail) :
    (∃ v t' nx', callWith x args s o kp k tm d t nx = k (putT tm o.dst v) d t' nx' ∧ EffW P o tm d t nx v t' nx') ∨
    (∃ v t' nx', callWith x args s o kp k tm d t nx = kp v t' nx' ∧ PanW P o tm d t nx v t' nx') := by
  unfold callWith at h ⊢
  obtain ⟨vf, hvf, e⟩ := ev_fail h; rw [e] at h ⊢; clear e
  obtain ⟨g, fa, fc, rfl⟩ := onFn_fail h
  simp only [onFn_fn] at h ⊢
  obtain ⟨l, hl, e⟩ := evs_fail h; rw [e] at h ⊢; clear e
  rw [forceUL_eq] at h ⊢
  have hne : s g (fa ++ (l ++ fc)) none t nx ≠ .fail := fun e => by rw [e] at h; exact absurd rfl h
  have hcalls := hself g (fa ++ (l ++ fc)) t nx hne
  have prep : ∀ (n : Nat) (m : Inj) (a : Act) (w : World), StR n m tm d t nx a w → (execOp a.eval o).run P w = (callFunc g (gamL m (fa ++ (l ++ fc))).toArray).run P w ∧ okL m (Lt nx) (fa ++ (l ++ fc)) := fun n m a w hst => by
    have hops := hst.env.ops o
    have hx := hops x (by rw [ho]; simp [Op.operands, Call.operands]) _ hvf
    have hargs := evsO_gam (ρ := a.eval) (fun y hy v hv => hops y (by
      rw [ho]
      simp only [Op.operands, Call.operands, Array.mem_append]
      exact .inr (Array.mem_toList_iff.1 hy)) v hv) hl
    have hA : args.map a.eval = (gamL m l).toArray := Array.ext' (by rw [Array.toList_map, hargs.1])
    refine ⟨?_, okL_app hx.2.1 (okL_app hargs.2 hx.2.2)⟩
    have harr : (gamL m fa).toArray ++ (gamL m l).toArray ++ (gamL m fc).toArray = (gamL m (fa ++ (l ++ fc))).toArray := by
      simp [gamL_append]
    simp only [execOp, ho, resolve, hx.1, gam, Deferred.ofValue, Sem.run_bind, Sem.run_pure, Result.andThen_ok, invoke, hA]
    rw [harr]
  generalize s g (fa ++ (l ++ fc)) none t nx = cr at h hcalls hne
  cases cr with
  | fail => exact absurd rfl hne
  | ret v t' nx' p =>
    left
    change done o v k tm d t' nx' ≠ _ at h
    refine ⟨v, t', nx', done_eq .., fun n m a w hst hd Q K hK => ?_⟩
    obtain ⟨hrun, hok⟩ := prep n m a w hst
    refine (hcalls m w hst.h64 hst.rel hok).wp hrun fun e w' ⟨m', he, hg, hv⟩ => ?_
    subst he
    exact hK _ _ m' hg (hst.next hg hv hd) (kept_put _ _ _)
  | panic v t' nx' =>
    right
    refine ⟨v, t', nx', rfl, fun n m a w hst hd Q K hK => ?_⟩
    obtain ⟨hrun, hok⟩ := prep n m a w hst
    refine (hcalls m w hst.h64 hst.rel hok).wp hrun fun e w' ⟨m', he, hg, hv⟩ => ?_
    subst he
    exact hK w' m' hg hv

theorem pan_effW {o : Oper} {tm : Env} {d : Dx} {t : Hp} {nx : Nat} {x : Operand} {kp : V → R} (ho : o.op = .panic x) (h : ev x tm (fun v => onIf v (kp v)) .fail ≠ .fail) :
    ∃ v, ev x tm (fun v => onIf v (kp v)) .fail = kp v ∧ PanW P o tm d t nx v t nx := by
  obtain ⟨v, hv, e⟩ := ev_fail h
  rw [e] at h
  cases v with
  | iface ty u =>
    refine ⟨.iface ty u, e, fun n m a w hst hd Q K hK => ?_⟩
    have hx := (hst.env.ops o) x (by rw [ho]; simp [Op.operands]) _ hv
    have hrun : (execOp a.eval o).run P w = .halt (.panic (gam m (.iface ty u))) w := by
      simp [execOp, ho, hx.1, gam, Instr.panic]
    unfold Oper.wp
    rw [hrun]
    exact hK w m (Goes.refl hst.rel) hx.2
  | _ => exact absurd rfl h

/-- An effect of the plan, where it is wanted: it goes well, or it panics. -/
theorem effX_ok {ops : List Oper} {hist : List Hp} {st : Stage} {k : K} {tm : Env} {d : Dx} {t : Hp} {nx : Nat} (hself : SelfOK P s) (hc : ∀ a ∈ st.dry, a.x.cl = clOf P a.x.o.op ∧ a.x.cl ≠ .e)
    (h : effX P s ops hist st k tm d t nx ≠ .fail) :
    (∃ v t' nx', effX P s ops hist st k tm d t nx = k (putT tm st.eff.o.dst v) d t' nx' ∧ EffW P st.eff.o tm d t nx v t' nx') ∨
    (∃ v t' nx' fs tm2 t2 nx2, effX P s ops hist st k tm d t nx = .go (.panic v) (unsetAll ops tm) d t' nx' ∧ PanW P st.eff.o tm d t nx v t' nx' ∧ fs.map (fun f => (⟨f.x, f.back⟩ : Act1)) = st.dry ∧ Chain P ops hist fs tm t nx tm2 t2 nx2) := by
  have plain : ctl st.eff.o.op = false → effX P s ops hist st k tm d t nx = disp st.eff.o.op P s st.eff.o k tm d t nx → ∃ v t' nx', effX P s ops hist st k tm d t nx = k (putT tm st.eff.o.dst v) d t' nx' ∧ EffW P st.eff.o tm d t nx v t' nx' := fun h1 h2 => by
    rw [h2] at h ⊢
    exact op_effW h1 h
  cases hop : st.eff.o.op with
  | call c =>
    obtain ⟨callee, args, tys⟩ := c
    cases callee with
    | value x =>
      have e0 : effX P s ops hist st k tm d t nx = callWith x args s st.eff.o (panicX P s ops hist st.dry tm d t nx) k tm d t nx := by
        unfold effX; rw [hop]
      rw [e0] at h ⊢
      rcases call_effW hop hself h with ⟨v, t', nx', h1, h2⟩ | ⟨v, t', nx', h1, h2⟩
      · exact .inl ⟨v, t', nx', h1, h2⟩
      · right
        rw [h1] at h ⊢
        obtain ⟨fs, tm2, t2, nx2, g1, g2, g3⟩ := panicX_ok (s := s) hc h
        exact ⟨v, t', nx', fs, tm2, t2, nx2, g3, h2, g1, g2⟩
    | invoke r m => exact .inl (plain (by rw [hop]; rfl) (by unfold effX; rw [hop]))
    | builtin b => exact .inl (plain (by rw [hop]; rfl) (by unfold effX; rw [hop]))
  | panic x =>
    have e0 : effX P s ops hist st k tm d t nx = ev x tm (fun v => onIf v (panicX P s ops hist st.dry tm d t nx v t nx)) .fail := by
      unfold effX; rw [hop]
    rw [e0] at h ⊢
    obtain ⟨v, h1, h2⟩ := pan_effW (P := P) (d := d) (t := t) (nx := nx) (kp := fun v => panicX P s ops hist st.dry tm d t nx v t nx) hop h
    right
    rw [h1] at h ⊢
    obtain ⟨fs, tm2, t2, nx2, g1, g2, g3⟩ := panicX_ok (s := s) hc h
    exact ⟨v, t, nx, fs, tm2, t2, nx2, g3, h2, g1, g2⟩
  | defer c =>
    have e0 : effX P s ops hist st k tm d t nx = .fail := by unfold effX; rw [hop]
    exact absurd e0 h
  | _ => exact .inl (plain (by rw [hop]; rfl) (by unfold effX; rw [hop]))
end Go.X
end

section
/- The reckoner: drawn regions: what is fixed of a region's operations. -/
namespace Go.X
open Go
variable {P : Program} {ops : List Oper}

theorem befOf_on (acc : List Nat) : ∀ (es : List Edge) (e : Edge), e ∈ es → edgeB e = true → hasBit (befOf acc es) e.on = true ∧ ∀ s, acc[e.on]? = some s → ∀ j, hasBit s j = true → hasBit (befOf acc es) j = true
  | [], e, h, _ => by cases h
  | e' :: es, e, h, hb => by
    have e0 : befOf acc (e' :: es) = bel (edgeB e') (Nat.lor (Nat.lor (Nat.shiftLeft 1 e'.on) (oel (nth acc e'.on) (fun s => s) 0)) (befOf acc es)) (befOf acc es) := rfl
    have hor : ∀ a b j : Nat, hasBit (Nat.lor a b) j = (hasBit a j || hasBit b j) := fun a b j => by
      rw [hasBit_iff, hasBit_iff, hasBit_iff]; exact Nat.testBit_or a b j
    rcases List.mem_cons.1 h with rfl | hm
    · rw [e0, hb, bel_true]
      refine ⟨?_, fun s hs j hj => ?_⟩
      · rw [hor, hor]
        have : hasBit (Nat.shiftLeft 1 e.on) e.on = true := by
          rw [hasBit_iff]
          show (1 <<< e.on).testBit e.on = true
          rw [Nat.testBit_shiftLeft]; simp
        rw [this]; rfl
      · rw [hor, hor, nth_eq, hs, oel_some, hj]; simp
    · obtain ⟨h1, h2⟩ := befOf_on acc es e hm hb
      rw [e0]
      cases hb' : edgeB e' with
      | false => rw [bel_false]; exact ⟨h1, h2⟩
      | true =>
        rw [bel_true]
        refine ⟨?_, fun s hs j hj => ?_⟩
        · rw [hor, h1]; simp
        · rw [hor, h2 s hs j hj]; simp

theorem befs_trans (hlow : ∀ (i s : Nat), (befs ops [])[i]? = some s → ∀ j, hasBit s j = true → j < i) : ∀ (i s : Nat), (befs ops [])[i]? = some s → ∀ (g sg : Nat), hasBit s g = true → (befs ops [])[g]? = some sg → ∀ j, hasBit sg j = true → hasBit s j = true := by
  intro i
  induction i using Nat.strongRecOn with
  | _ i ih =>
    intro s hs g sg hg hsg j hj
    have hlt : i < ops.length := by
      have := (List.getElem?_eq_some_iff.1 hs).1
      rw [befs_len] at this
      simpa using this
    obtain ⟨o, ho⟩ : ∃ o, ops[i]? = some o := ⟨ops[i], List.getElem?_eq_getElem hlt⟩
    have hget := befs_get ops [] i o ho
    simp only [List.length_nil, Nat.zero_add] at hget
    rw [hs] at hget
    have hgi := hlow i s hs g hg
    have hs' := Option.some.inj hget
    rw [hs'] at hg ⊢
    obtain ⟨e, he, hb, hc⟩ := befOf_spec _ _ g hg
    obtain ⟨_, h2⟩ := befOf_on ((befs ops []).take i) o.after.toList e he hb
    rcases hc with rfl | ⟨s', hs1, hg'⟩
    · exact h2 sg (by rw [List.getElem?_take, if_pos hgi]; exact hsg) j hj
    · have hs2 := hs1
      rw [List.getElem?_take] at hs2
      split at hs2
      · rename_i hlt'
        exact h2 s' hs1 j (ih e.on hlt' s' hs2 g sg hg' hsg j hj)
      · cases hs2

/-- What is fixed of a region's operations. -/
structure Fix (P : Program) (ops : List Oper) (its : List Item) : Prop where
  all : ∀ (i : Nat) (o : Oper), ops[i]? = some o → ∃ x ∈ its, x.i = i
  get : ∀ x ∈ its, ops[x.i]? = some x.o
  bef : ∀ x ∈ its, (befs ops [])[x.i]? = some x.bef
  cl : ∀ x ∈ its, x.cl = clOf P x.o.op
  low : ∀ x ∈ its, ∀ j, hasBit x.bef j = true → j < x.i
  inj : ∀ x ∈ its, ∀ y ∈ its, x.i = y.i → x = y
  srt : its.Pairwise fun x y => x.i < y.i
  trans : ∀ x ∈ its, ∀ y ∈ its, hasBit x.bef y.i = true → ∀ j, hasBit y.bef j = true → hasBit x.bef j = true
  temps : ∀ x ∈ its, ∀ y ∈ its, x.i < y.i → clash ops x y = true → hasBit y.bef x.i = true
  dsts : ∀ x ∈ its, ∀ y ∈ its, x.i ≠ y.i → ∀ d, x.o.dst = some d → y.o.dst ≠ some d

theorem pairwise_either {α : Type} {R : α → α → Prop} : ∀ {l : List α}, l.Pairwise R → ∀ x ∈ l, ∀ y ∈ l, x ≠ y → R x y ∨ R y x
  | [], _, x, hx, _, _, _ => by cases hx
  | a :: l, h, x, hx, y, hy, hne => by
    obtain ⟨h1, h2⟩ := List.pairwise_cons.1 h
    rcases List.mem_cons.1 hx with ex | hx'
    · rcases List.mem_cons.1 hy with ey | hy'
      · exact absurd (ex.trans ey.symm) hne
      · exact .inl (by rw [ex]; exact h1 y hy')
    · rcases List.mem_cons.1 hy with ey | hy'
      · exact .inr (by rw [ey]; exact h1 x hx')
      · exact pairwise_either h2 x hx' y hy' hne

theorem all_mem {α : Type} {l : List α} {p : α → Bool} (h : l.all p = true) : ∀ x ∈ l, p x = true := List.all_eq_true.1 h

theorem tempsOk_pw : ∀ {its : List Item}, tempsOk ops its = true → its.Pairwise fun x y => clash ops x y = true → hasBit y.bef x.i = true
  | [], _ => .nil
  | x :: r, h => by
    have h : andB (r.all fun y => bel (clash ops x y) (hasBit y.bef x.i) true) (tempsOk ops r) = true := h
    simp only [andB_eq, Bool.and_eq_true] at h
    refine List.pairwise_cons.2 ⟨fun y hy hc => ?_, tempsOk_pw h.2⟩
    have := all_mem h.1 y hy
    rw [hc] at this
    exact this
theorem dstsOk_pw : ∀ {its : List Item}, dstsOk its = true → its.Pairwise fun x y => ∀ d, x.o.dst = some d → y.o.dst ≠ some d
  | [], _ => .nil
  | x :: r, h => by
    unfold dstsOk at h
    simp only [andB_eq, Bool.and_eq_true] at h
    refine List.pairwise_cons.2 ⟨fun y hy d hd he => ?_, dstsOk_pw h.2⟩
    have h1 := h.1
    rw [hd] at h1
    have h2 := all_mem h1 y hy
    rw [he] at h2
    have h3 : notB (Nat.beq d d) = true := h2
    rw [Nat.beq_refl] at h3
    cases h3

theorem its_mem {x : Item} (h : x ∈ items P (befs ops []) ops 0) : (items P (befs ops []) ops 0)[x.i]? = some x ∧ ops[x.i]? = some x.o ∧ (befs ops [])[x.i]? = some x.bef ∧ x.cl = clOf P x.o.op := by
  obtain ⟨i, hi⟩ := List.getElem?_of_mem h
  obtain ⟨o, b, h1, h2, h3⟩ := items_get P _ _ _ _ _ hi
  have e : x.i = i := by rw [h3]; simp
  rw [e, hi]
  exact ⟨rfl, by rw [h3]; exact h1, by rw [h3]; exact h2, by rw [h3]⟩

theorem fix_of (hb : befsOk (items P (befs ops []) ops 0) = true) (ht : tempsOk ops (items P (befs ops []) ops 0) = true) (hd : dstsOk (items P (befs ops []) ops 0) = true) : Fix P ops (items P (befs ops []) ops 0) := by
  have hlen := items_len P (befs ops []) ops 0 (by rw [befs_len]; simp)
  have hlow : ∀ x ∈ items P (befs ops []) ops 0, ∀ j, hasBit x.bef j = true → j < x.i := fun x hx j hj => by
    have h1 := all_mem hb x hx
    have h2 : x.bef < 2 ^ x.i := Nat.le_of_ble_eq_true h1
    apply Classical.byContradiction
    intro hc
    rw [hasBit_iff, Nat.testBit_lt_two_pow (Nat.lt_of_lt_of_le h2 (Nat.pow_le_pow_right (by omega) (by omega)))] at hj
    cases hj
  have hinj : ∀ x ∈ items P (befs ops []) ops 0, ∀ y ∈ items P (befs ops []) ops 0, x.i = y.i → x = y := fun x hx y hy e => by
    have h1 := (its_mem hx).1
    rw [e, (its_mem hy).1] at h1
    exact (Option.some.inj h1).symm
  have hsrt : (items P (befs ops []) ops 0).Pairwise fun x y => x.i < y.i := by
    rw [List.pairwise_iff_getElem]
    intro i j hi hj hij
    obtain ⟨_, _, _, _, e1⟩ := items_get P _ _ _ i _ (List.getElem?_eq_getElem hi)
    obtain ⟨_, _, _, _, e2⟩ := items_get P _ _ _ j _ (List.getElem?_eq_getElem hj)
    rw [e1, e2]
    simpa using hij
  have hlow' : ∀ (i s : Nat), (befs ops [])[i]? = some s → ∀ j, hasBit s j = true → j < i := fun i s hs j hj => by
    have hlt : i < ops.length := by
      have := (List.getElem?_eq_some_iff.1 hs).1
      rw [befs_len] at this
      simpa using this
    obtain ⟨x, hx⟩ : ∃ x, (items P (befs ops []) ops 0)[i]? = some x := ⟨_, List.getElem?_eq_getElem (by rw [hlen]; exact hlt)⟩
    obtain ⟨o, b, h1, h2, h3⟩ := items_get P _ _ _ _ _ hx
    have e : x.i = i := by rw [h3]; simp
    have e2 : x.bef = s := by rw [h2] at hs; rw [h3]; exact Option.some.inj hs
    rw [← e]
    exact hlow x (List.mem_of_getElem? hx) j (by rw [e2]; exact hj)
  refine ⟨fun i o ho => ?_, fun x hx => (its_mem hx).2.1, fun x hx => (its_mem hx).2.2.1, fun x hx => (its_mem hx).2.2.2, hlow, hinj, hsrt, fun x hx y hy h j hj => ?_, fun x hx y hy hlt hc => ?_, fun x hx y hy hne => ?_⟩
  · obtain ⟨x, hx⟩ : ∃ x, (items P (befs ops []) ops 0)[i]? = some x := ⟨_, List.getElem?_eq_getElem (by rw [hlen]; exact (List.getElem?_eq_some_iff.1 ho).1)⟩
    obtain ⟨o, b, h1, h2, h3⟩ := items_get P _ _ _ _ _ hx
    exact ⟨x, List.mem_of_getElem? hx, by rw [h3]; simp⟩
  · exact befs_trans hlow' x.i x.bef (its_mem hx).2.2.1 y.i y.bef h (its_mem hy).2.2.1 j hj
  · have hp := (tempsOk_pw ht).and hsrt
    rcases pairwise_either hp x hx y hy (fun e => by rw [e] at hlt; exact Nat.lt_irrefl _ hlt) with h | h
    · exact h.1 hc
    · exact absurd h.2 (by omega)
  · rcases pairwise_either (dstsOk_pw hd) x hx y hy (fun e => hne (by rw [e])) with h | h
    · exact h
    · exact fun d hd he => h d he hd
end Go.X
end

section
/- The reckoner: drawn regions: stores at the end. -/
namespace Go.X
open Go
variable {P : Program} {s : CallT}

theorem storeRow_any {ch n : Nat} {els : Tr (List V)} {off : Nat} {vs : List V} {c : Tr (List V) → R} (h : storeRow ch n els off vs c ≠ .fail) : ∃ els', ∀ c2 : Tr (List V) → R, storeRow ch n els off vs c2 = c2 els' := by
  unfold storeRow at h ⊢
  simp only [forceN_eq] at h ⊢
  cases hb : Nat.ble (Nat.add (Nat.mod off ch) vs.length) ch with
  | true =>
    rw [hb, bel_true] at h
    simp only [bel_true]
    unfold storeIn at h ⊢
    obtain ⟨h1, e⟩ := bel_fail h; rw [e] at h; clear e
    obtain ⟨a, h2, e⟩ := oel_fail h; rw [e] at h; clear e
    obtain ⟨h3, e⟩ := bel_fail h; rw [e] at h; clear e
    refine ⟨els.set (Nat.div off ch) (some (a.take (Nat.mod off ch) ++ (vs ++ a.drop (Nat.add (Nat.mod off ch) vs.length)))), fun c2 => ?_⟩
    rw [h1, h2]
    simp only [bel_true, oel_some]
    rw [h3, bel_true, forceL_eq, Tr.setK_eq]
  | false =>
    rw [hb, bel_false] at h
    simp only [bel_false]
    unfold storeOver at h ⊢
    obtain ⟨h1, e⟩ := bel_fail h; rw [e] at h; clear e
    obtain ⟨h2, e⟩ := bel_fail h; rw [e] at h; clear e
    obtain ⟨h3, e⟩ := bel_fail h; rw [e] at h; clear e
    refine ⟨wm ch (Nat.div vs.length ch) els (Nat.div off ch) vs, fun c2 => ?_⟩
    rw [h1, h2, h3]
    simp only [bel_true]
    rw [writeMany_eq]

/-- A store looks at its own block alone. -/
theorem storeK_any {t : Hp} {b off : Nat} {vs : List V} {c : Hp → R} (h : storeK t b off vs c ≠ .fail) :
    (vs = [] ∧ ∀ (t2 : Hp) (c2 : Hp → R), storeK t2 b off vs c2 = c2 t2) ∨
    (∃ x x', t.get b = some x ∧ ∀ (t2 : Hp) (c2 : Hp → R), t2.get b = some x → storeK t2 b off vs c2 = c2 (t2.set b (some x'))) := by
  cases vs with
  | nil => exact .inl ⟨rfl, fun _ _ => rfl⟩
  | cons v0 vs0 =>
    right
    have hdef : ∀ (t : Hp) (c : Hp → R), storeK t b off (v0 :: vs0) c = oel (t.get b) (fun x => x.sel (fun ty ch n fz els => storeBlk t b off (v0 :: vs0) c ty ch n fz els) (fun _ _ => .fail) (fun _ => .fail) (fun _ _ _ => .fail)) .fail := fun _ _ => rfl
    rw [hdef] at h
    obtain ⟨x, hx, e⟩ := oel_fail h
    rw [e] at h
    cases x with
    | cells ty ch n fz els =>
      change storeBlk t b off (v0 :: vs0) c ty ch n fz els ≠ _ at h
      unfold storeBlk at h
      obtain ⟨hfz, e⟩ := bel_fail h
      rw [e] at h
      obtain ⟨els', hels⟩ := storeRow_any h
      refine ⟨_, .cells ty ch n fz els', hx, fun t2 c2 h2 => ?_⟩
      rw [hdef, h2, oel_some]
      show storeBlk t2 b off (v0 :: vs0) c2 ty ch n fz els = _
      unfold storeBlk
      rw [hfz, bel_true, hels, Tr.setK_eq]
    | _ => exact absurd rfl h
end Go.X
end

section
/- The reckoner: drawn regions: the plan's run, stage by stage. -/
namespace Go.X
open Go
variable {P : Program} {s : CallT}

/-! ### Stores at the end, in whatever order -/
noncomputable def updT (t : Hp) (b : Nat) (u : Option Blk) : Hp := match u with | some x => t.set b (some x) | none => t
theorem updT_ne {t : Hp} {b c : Nat} {u : Option Blk} (h : c ≠ b) : (updT t b u).get c = t.get c := by
  cases u with
  | none => rfl
  | some x => show (t.set b (some x)).get c = _; rw [Tr.get_set, if_neg h]
abbrev TSt := Item × Nat × Option Blk
noncomputable def updAll (l : List TSt) (t : Hp) : Hp := l.foldl (fun t q => updT t q.2.1 q.2.2) t
def TSOK (P : Program) (tm : Env) (nx : Nat) (t : Hp) (q : TSt) : Prop :=
  q.1.o.dst = none ∧ ∀ t2 : Hp, t2.get q.2.1 = t.get q.2.1 → EffOK P q.1.o tm t2 nx undefV (updT t2 q.2.1 q.2.2) nx

theorem storeK_upd {t : Hp} {b off : Nat} {vs : List V} {c : Hp → R} (h : storeK t b off vs c ≠ .fail) : ∃ u, ∀ (t2 : Hp) (c2 : Hp → R), t2.get b = t.get b → storeK t2 b off vs c2 = c2 (updT t2 b u) := by
  rcases storeK_any h with ⟨_, h2⟩ | ⟨x, x', h1, h2⟩
  · exact ⟨none, fun t2 c2 _ => h2 t2 c2⟩
  · exact ⟨some x', fun t2 c2 he => h2 t2 c2 (he.trans h1)⟩

theorem tailX_ok {d : Dx} {nx : Nat} {tm : Env} : ∀ (l : List Item) (seen : List Nat) (k : K) (t : Hp), tailX P s l seen k tm d t nx ≠ .fail →
    ∃ ql : List TSt, ql.map (·.1) = l ∧ tailX P s l seen k tm d t nx = k tm d (updAll ql t) nx ∧ (∀ q ∈ ql, TSOK P tm nx t q ∧ q.2.1 ∉ seen) ∧ ql.Pairwise fun p q => p.2.1 ≠ q.2.1
  | [], seen, k, t, _ => ⟨[], rfl, rfl, by simp, .nil⟩
  | x :: l, seen, k, t, h => by
    cases hop : x.o.op with
    | store ty a y =>
      have e0 : tailX P s (x :: l) seen k tm d t nx = oel x.o.dst (fun _ => .fail) (ev a tm (fun a => onPtr a (fun b _ => bel (seen.any fun c => Nat.beq b c) .fail (disp x.o.op P s x.o (tailX P s l (b :: seen) k) tm d t nx)) .fail) .fail) := by
        show (match x.o.op with
          | .store _ a _ => oel x.o.dst (fun _ => R.fail) (ev a tm (fun a => onPtr a (fun b _ => bel (seen.any fun c => Nat.beq b c) .fail (disp x.o.op P s x.o (tailX P s l (b :: seen) k) tm d t nx)) .fail) .fail)
          | _ => .fail) = _
        rw [hop]
      rw [e0] at h ⊢
      cases hd : x.o.dst with
      | some q => rw [hd] at h; exact absurd rfl h
      | none =>
        rw [hd, oel_none] at h
        rw [oel_none]
        obtain ⟨va, hva, e⟩ := ev_fail h; rw [e] at h ⊢; clear e
        obtain ⟨b, off, rfl⟩ := onPtr_fail h
        simp only [onPtr_ptr] at h ⊢
        obtain ⟨hs, e⟩ := bel_fail' h; rw [e] at h ⊢; clear e
        have hns : b ∉ seen := fun hm => by
          have : seen.any (fun c => Nat.beq b c) = true := List.any_eq_true.2 ⟨b, hm, Nat.beq_refl b⟩
          rw [this] at hs; cases hs
        rw [hop] at h ⊢
        have hdef : ∀ (k : K) (t : Hp), disp (.store ty a y) P s x.o k tm d t nx = doStore ty a y P s x.o k tm d t nx := fun _ _ => rfl
        rw [hdef] at h ⊢
        have h' := h
        unfold doStore at h'
        obtain ⟨va', hva', e⟩ := ev_fail h'; rw [e] at h'; clear e
        rw [hva] at hva'; cases hva'
        simp only [onPtr_ptr] at h'
        obtain ⟨vy, hvy, e⟩ := ev_fail h'; rw [e] at h'; clear e
        obtain ⟨cs, hcs, e⟩ := oel_fail h'; rw [e] at h'; clear e
        obtain ⟨sz', hsz, e⟩ := oel_fail h'; rw [e] at h'; clear e
        obtain ⟨hb, e⟩ := bel_fail h'; rw [e] at h'; clear e
        obtain ⟨u, hu⟩ := storeK_upd h'
        have hst : ∀ (k : K) (t2 : Hp), t2.get b = t.get b → doStore ty a y P s x.o k tm d t2 nx = k tm d (updT t2 b u) nx := fun k t2 ht2 => by
          unfold doStore
          rw [ev_eq, hva, oel_some]
          simp only [onPtr_ptr]
          rw [ev_eq, hvy, oel_some, hcs, oel_some, hsz, oel_some, hb, bel_true, hu t2 _ ht2, done_eq, hd]
          rfl
        have hts : TSOK P tm nx t (x, b, u) := by
          refine ⟨hd, fun t2 ht2 => ?_⟩
          have h2 := hst kEnd t2 ht2
          obtain ⟨t3, h3, h4⟩ := doStore_ok (s := s) (k := kEnd) (d := d) (t := t2) (nx := nx) (P := P) (tm := tm) hop (by rw [h2]; intro hc; cases hc)
          rw [h3, done_eq, hd] at h2
          have h5 : (R.go .normal tm d t3 nx) = .go .normal tm d (updT t2 b u) nx := h2
          cases h5
          exact h4
        have e1 := hst (tailX P s l (b :: seen) k) t rfl
        rw [e1] at h ⊢
        obtain ⟨ql, g1, g2, g3, g4⟩ := tailX_ok l (b :: seen) k _ h
        refine ⟨(x, b, u) :: ql, by rw [List.map_cons, g1], by rw [g2]; rfl, fun q hq => ?_, List.pairwise_cons.2 ⟨fun q hq => ?_, g4⟩⟩
        · rcases List.mem_cons.1 hq with rfl | hq
          · exact ⟨hts, hns⟩
          · obtain ⟨⟨k1, k2⟩, k3⟩ := g3 q hq
            have hne : q.2.1 ≠ b := fun e => k3 (by rw [e]; exact List.mem_cons_self ..)
            exact ⟨⟨k1, fun t2 h2 => k2 t2 (h2.trans (updT_ne hne).symm)⟩, fun hm => k3 (List.mem_cons_of_mem _ hm)⟩
        · have := (g3 q hq).2
          exact fun e => this (by rw [← e]; exact List.mem_cons_self ..)
    | _ =>
      exfalso
      apply h
      show (match x.o.op with
        | .store _ a _ => oel x.o.dst (fun _ => R.fail) (ev a tm (fun a => onPtr a (fun b _ => bel (seen.any fun c => Nat.beq b c) .fail (disp x.o.op P s x.o (tailX P s l (b :: seen) k) tm d t nx)) .fail) .fail)
        | _ => .fail) = _
      rw [hop]

/-! ### The plan's run -/
/-- Acts in their order: none comes ahead of an elder one. -/
def Ord (fs : List Fact) : Prop := fs.Pairwise fun g f => g.x.i ≠ f.x.i ∧ hasBit g.x.bef f.x.i = false

inductive PR (P : Program) (ops : List Oper) : List Hp → Env → Dx → Hp → Nat → List Fact → List Item → List Item → List TSt → R → Prop
  | eff {hist : List Hp} {tm : Env} {d : Dx} {t : Hp} {nx : Nat} {pre fut : List Fact} {rem : List Item} {e : Item} {es : List Item} {ts : List TSt} {r : R} {v : V} {tm1 : Env} {t1 t' : Hp} {nx1 nx' : Nat}
      (hch : Chain P ops hist pre tm t nx tm1 t1 nx1) (hpre : ∀ f ∈ pre, hasBit e.bef f.x.i = true) (hpost : ∀ f ∈ fut, hasBit e.bef f.x.i = false) (hord : Ord (pre ++ fut))
      (hw : wantW ops e.o.guard tm1 = some true) (he : EffW P e.o tm1 d t1 nx1 v t' nx') (hnx : nx1 ≤ nx')
      (hr : PR P ops (t' :: hist) (putT tm1 e.o.dst v) d t' nx' fut rem es ts r) : PR P ops hist tm d t nx (pre ++ fut) (pre.map (·.x) ++ rem) (e :: es) ts r
  | skip {hist : List Hp} {tm : Env} {d : Dx} {t : Hp} {nx : Nat} {pre fut : List Fact} {rem : List Item} {e : Item} {es : List Item} {ts : List TSt} {r : R} {tm1 : Env} {t1 : Hp} {nx1 : Nat}
      (hch : Chain P ops hist pre tm t nx tm1 t1 nx1) (hpre : ∀ f ∈ pre, hasBit e.bef f.x.i = true) (hpost : ∀ f ∈ fut, hasBit e.bef f.x.i = false) (hord : Ord (pre ++ fut))
      (hw : wantW ops e.o.guard tm1 = some false)
      (hr : PR P ops (t1 :: hist) (putT tm1 e.o.dst undefV) d t1 nx1 fut rem es ts r) : PR P ops hist tm d t nx (pre ++ fut) (pre.map (·.x) ++ rem) (e :: es) ts r
  | pan {hist : List Hp} {tm : Env} {d : Dx} {t : Hp} {nx : Nat} {pre dry : List Fact} {rem : List Item} {e : Item} {es : List Item} {ts : List TSt} {v : V} {tm1 tm2 : Env} {t1 t2 t' : Hp} {nx1 nx2 nx' : Nat}
      (hch : Chain P ops hist pre tm t nx tm1 t1 nx1) (hpre : ∀ f ∈ pre, hasBit e.bef f.x.i = true) (hpost : ∀ f ∈ dry, hasBit e.bef f.x.i = false) (hord : Ord (pre ++ dry))
      (hw : wantW ops e.o.guard tm1 = some true) (he : PanW P e.o tm1 d t1 nx1 v t' nx') (hdry : Chain P ops hist dry tm1 t1 nx1 tm2 t2 nx2)
      (hrem : ∀ x ∈ rem, (∃ f ∈ pre ++ dry, f.x = x) ∨ hasBit x.bef e.i = true) : PR P ops hist tm d t nx (pre ++ dry) rem (e :: es) ts (.go (.panic v) (unsetAll ops tm1) d t' nx')
  | tail {hist : List Hp} {tm : Env} {d : Dx} {t : Hp} {nx : Nat} {last late : List Fact} {ts : List TSt} {tm1 tm2 : Env} {t1 : Hp} {nx1 : Nat}
      (h1 : Chain P ops hist last tm t nx tm1 t1 nx1) (h2 : Chain P ops hist late tm1 t1 nx1 tm2 t1 nx1) (hord : Ord (last ++ late)) (hp : ∀ f ∈ late, f.x.cl = .p)
      (hin : ∀ f ∈ last, ∀ q ∈ ts, hasBit q.1.bef f.x.i = true) (hout : ∀ f ∈ late, ∀ q ∈ ts, hasBit f.x.bef q.1.i = false) (hg : ∀ q ∈ ts, q.1.o.guard = none)
      (hts : ∀ q ∈ ts, TSOK P tm2 nx1 t1 q) (hpw : ts.Pairwise fun p q => p.2.1 ≠ q.2.1) : PR P ops hist tm d t nx (last ++ late) ((last ++ late).map (·.x)) [] ts (.go .normal tm2 d (updAll ts t1) nx1)

theorem PR.ord {ops : List Oper} {hist : List Hp} {tm : Env} {d : Dx} {t : Hp} {nx : Nat} {fut : List Fact} {rem es : List Item} {ts : List TSt} {r : R} (h : PR P ops hist tm d t nx fut rem es ts r) : Ord fut := by
  cases h with
  | eff _ _ _ hord => exact hord
  | skip _ _ _ hord => exact hord
  | pan _ _ _ hord => exact hord
  | tail _ _ hord => exact hord

noncomputable def planRec (P : Program) (self : CallT) (ops : List Oper) (last late : List Act1) (tail : List Item) (k : K) : List Stage → List Hp → K
  | [], hist => actsX P self ops hist last (actsX P self ops hist late (tailX P self tail [] k))
  | st :: sts, hist => stageX P self ops st (planRec P self ops last late tail k sts) hist

theorem planX_eq {ops : List Oper} {p : Plan} {k : K} {tm : Env} {d : Dx} {t : Hp} {nx : Nat} : planX P s ops p k tm d t nx = unsetK p.uns tm fun tm => planRec P s ops p.last p.late p.tail k p.stages [t] tm d t nx := by
  have e : ∀ (l : List Stage) (hist : List Hp), (List.rec (motive := fun _ => List Hp → K) (fun hist => actsX P s ops hist p.last (actsX P s ops hist p.late (tailX P s p.tail [] k))) (fun st _ ih hist => stageX P s ops st ih hist) l hist : K) = planRec P s ops p.last p.late p.tail k l hist := by
    intro l
    induction l with
    | nil => intro hist; rfl
    | cons st l ih =>
      intro hist
      show stageX P s ops st _ hist = stageX P s ops st (planRec P s ops p.last p.late p.tail k l) hist
      congr 1
      funext hist
      exact ih hist
  unfold planX
  simp only [e]

/-- What is known of the facts of a plan's acts. -/
def FactsIn (all : List Item) (rest : List Item) (fs : List Fact) : Prop := ∀ f ∈ fs, f.x ∈ rest ∧ f.back = f.hist.length - 1 - loOf all f.x

theorem mkActs_facts {all : List Item} {g : Nat} {l : List Item} {fs : List Fact} (h : fs.map (fun f => (⟨f.x, f.back⟩ : Act1)) = mkActs all g l) : fs.map (·.x) = l ∧ ∀ f ∈ fs, f.back = g - loOf all f.x := by
  have h1 : (fs.map (fun f => (⟨f.x, f.back⟩ : Act1))).map (·.x) = l := by rw [h]; simp [mkActs, Function.comp_def]
  refine ⟨by rw [← h1]; simp, fun f hf => ?_⟩
  have : (⟨f.x, f.back⟩ : Act1) ∈ mkActs all g l := by rw [← h]; exact List.mem_map.2 ⟨f, hf, rfl⟩
  obtain ⟨x, _, hx⟩ := List.mem_map.1 this
  have h2 := Act1.mk.inj hx
  rw [← h2.2, h2.1]
  rfl
theorem chain_hist {ops : List Oper} {hist : List Hp} : ∀ {fs : List Fact} {tm : Env} {t : Hp} {nx : Nat} {tm' : Env} {t' : Hp} {nx' : Nat}, Chain P ops hist fs tm t nx tm' t' nx' → ∀ f ∈ fs, f.hist = hist
  | [], _, _, _, _, _, _, _, f, hf => by cases hf
  | g :: fs, _, _, _, _, _, _, ⟨_, _, h3, _, h5⟩, f, hf => by
    rcases List.mem_cons.1 hf with e | hf
    · rw [e]; exact h3
    · exact chain_hist h5 f hf

theorem ord_of_sorted {ops : List Oper} {its : List Item} (hF : Fix P ops its) {fs : List Fact} {l : List Item} (h : fs.map (·.x) = l) (hl : ∀ x ∈ l, x ∈ its) (hs : l.Pairwise fun x y => x.i < y.i) : Ord fs := by
  subst h
  rw [List.pairwise_map] at hs
  refine List.Pairwise.imp_of_mem (fun {g f} hg hf hlt => ⟨Nat.ne_of_lt hlt, ?_⟩) hs
  cases hb : hasBit g.x.bef f.x.i with
  | false => rfl
  | true => exact absurd (hF.low g.x (hl _ (List.mem_map.2 ⟨g, hg, rfl⟩)) _ hb) (by omega)

theorem hasBit_ne {s i j : Nat} (h : hasBit s i = true) (h' : hasBit s j = false) : i ≠ j := fun e => by rw [e, h'] at h; cases h

theorem notB_true {b : Bool} (h : notB b = true) : b = false := by cases b; rfl; cases h
theorem notB_false : notB false = true := rfl
end Go.X
end

section
/- The reckoner: drawn regions: the plan's run, inverted. -/
namespace Go.X
open Go
variable {P : Program} {s : CallT} {ops : List Oper} {its : List Item}

theorem chain_none {hist : List Hp} : ∀ {fs : List Fact} {tm : Env} {t : Hp} {nx : Nat} {tm' : Env} {t' : Hp} {nx' : Nat}, Chain P ops hist fs tm t nx tm' t' nx' → (∀ f ∈ fs, f.blk = none) → t' = t ∧ nx' = nx
  | [], _, _, _, _, _, _, ⟨_, h2, h3⟩, _ => ⟨h2, h3⟩
  | f :: fs, tm, t, nx, _, _, _, ⟨_, _, _, _, h5⟩, hb => by
    obtain ⟨h1, h2⟩ := chain_none h5 (fun g hg => hb g (List.mem_cons_of_mem _ hg))
    have := hb f (List.mem_cons_self ..)
    unfold stepT at h1
    unfold stepN at h2
    rw [this] at h1 h2
    exact ⟨h1, h2⟩
theorem chain_fact {hist : List Hp} : ∀ {fs : List Fact} {tm : Env} {t : Hp} {nx : Nat} {tm' : Env} {t' : Hp} {nx' : Nat}, Chain P ops hist fs tm t nx tm' t' nx' → ∀ f ∈ fs, FactOK P ops f
  | [], _, _, _, _, _, _, _, f, hf => by cases hf
  | g :: fs, _, _, _, _, _, _, ⟨_, _, _, h4, h5⟩, f, hf => by
    rcases List.mem_cons.1 hf with e | hf
    · rw [e]; exact h4
    · exact chain_fact h5 f hf
theorem fact_p_blk {f : Fact} (h : FactOK P ops f) (hp : f.x.cl = .p) : f.blk = none := by
  rcases h with ⟨_, _, h⟩ | ⟨_, h | h | h⟩
  · exact h
  · exact h.2.2
  · exact h.2.2
  · rw [hp] at h; cases h.1

/-- What is asked of the stores at the end. -/
structure TailC (its tail R : List Item) : Prop where
  mem : ∀ q ∈ tail, q ∈ its
  guard : ∀ q ∈ tail, q.o.guard = none
  pure : ∀ x ∈ R, inAll tail x = false → x.cl = .p
  apart : ∀ x ∈ R, ∀ q ∈ tail, hasBit x.bef q.i = false

theorem end_pr (hF : Fix P ops its) {all R tail : List Item} (hT : TailC its tail R) (hR : ∀ x ∈ R, x ∈ its ∧ x.cl ≠ .e) (hs : R.Pairwise fun x y => x.i < y.i) {hist : List Hp} (hh : hist.length = all.length + 1)
    {tm : Env} {d : Dx} {t : Hp} {nx : Nat} (h : actsX P s ops hist (mkActs all all.length (R.filter fun x => inAll tail x)) (actsX P s ops hist (mkActs all all.length (R.filter fun x => notB (inAll tail x))) (tailX P s tail [] kEnd)) tm d t nx ≠ .fail) :
    ∃ fut rem ts, PR P ops hist tm d t nx fut rem [] ts (actsX P s ops hist (mkActs all all.length (R.filter fun x => inAll tail x)) (actsX P s ops hist (mkActs all all.length (R.filter fun x => notB (inAll tail x))) (tailX P s tail [] kEnd)) tm d t nx) ∧
      ts.map (·.1) = tail ∧ FactsIn all R fut ∧ ∀ x ∈ R, x ∈ rem := by
  have hcl : ∀ (p : Item → Bool), ∀ a ∈ mkActs all all.length (R.filter p), a.x.cl = clOf P a.x.o.op ∧ a.x.cl ≠ .e := fun p a ha => by
    obtain ⟨x, hx, e⟩ := List.mem_map.1 ha
    have hx' := hR x (List.mem_filter.1 hx).1
    rw [← e]
    exact ⟨hF.cl x hx'.1, hx'.2⟩
  obtain ⟨last, tm1, t1, nx1, a1, a2, a3⟩ := acts_ok (s := s) _ _ tm d t nx (hcl _) h
  rw [a3] at h ⊢
  obtain ⟨late, tm2, t2, nx2, b1, b2, b3⟩ := acts_ok (s := s) _ _ tm1 d t1 nx1 (hcl _) h
  rw [b3] at h ⊢
  obtain ⟨m1, k1⟩ := mkActs_facts a1
  obtain ⟨m2, k2⟩ := mkActs_facts b1
  have i1 : ∀ f ∈ last, f.x ∈ R ∧ inAll tail f.x = true := fun f hf => by
    have : f.x ∈ R.filter fun x => inAll tail x := by rw [← m1]; exact List.mem_map.2 ⟨f, hf, rfl⟩
    exact List.mem_filter.1 this
  have i2 : ∀ f ∈ late, f.x ∈ R ∧ inAll tail f.x = false := fun f hf => by
    have : f.x ∈ R.filter fun x => notB (inAll tail x) := by rw [← m2]; exact List.mem_map.2 ⟨f, hf, rfl⟩
    have := List.mem_filter.1 this
    exact ⟨this.1, notB_true this.2⟩
  have hblk : ∀ f ∈ late, f.blk = none := fun f hf => fact_p_blk (chain_fact b2 f hf) (hT.pure f.x (i2 f hf).1 (i2 f hf).2)
  obtain ⟨e1, e2⟩ := chain_none b2 hblk
  subst e1; subst e2
  obtain ⟨ql, c1, c2, c3, c4⟩ := tailX_ok tail [] kEnd _ h
  rw [c2]
  have hq : ∀ q ∈ ql, q.1 ∈ tail := fun q hq => by rw [← c1]; exact List.mem_map.2 ⟨q, hq, rfl⟩
  have hmem : ∀ x ∈ R, x ∈ (last ++ late).map (·.x) := fun x hx => by
    rw [List.map_append, m1, m2, List.mem_append, List.mem_filter, List.mem_filter]
    cases hin : inAll tail x with
    | true => exact .inl ⟨hx, rfl⟩
    | false => exact .inr ⟨hx, rfl⟩
  have hord : Ord (last ++ late) := by
    refine List.pairwise_append.2 ⟨ord_of_sorted hF m1 (fun x hx => (hR x (List.mem_filter.1 hx).1).1) (hs.filter _), ord_of_sorted hF m2 (fun x hx => (hR x (List.mem_filter.1 hx).1).1) (hs.filter _), fun g hg f hf => ?_⟩
    obtain ⟨g1, g2⟩ := i1 g hg
    obtain ⟨f1, f2⟩ := i2 f hf
    have hex : ∃ q ∈ tail, hasBit q.bef f.x.i = false := by
      apply Classical.byContradiction
      intro hc
      have : inAll tail f.x = true := List.all_eq_true.2 fun q hq => by
        cases hb : hasBit q.bef f.x.i with
        | true => rfl
        | false => exact absurd ⟨q, hq, hb⟩ hc
      rw [f2] at this; cases this
    obtain ⟨q, hq, hqf⟩ := hex
    have hqg : hasBit q.bef g.x.i = true := all_mem g2 q hq
    refine ⟨hasBit_ne hqg hqf, ?_⟩
    cases hb : hasBit g.x.bef f.x.i with
    | false => rfl
    | true =>
      rw [hF.trans q (hT.mem q hq) g.x (hR _ g1).1 hqg _ hb] at hqf
      cases hqf
  refine ⟨last ++ late, (last ++ late).map (·.x), ql, .tail a2 b2 hord (fun f hf => hT.pure f.x (i2 f hf).1 (i2 f hf).2) (fun f hf q hq' => all_mem (i1 f hf).2 q.1 (hq q hq')) (fun f hf q hq' => hT.apart f.x (i2 f hf).1 q.1 (hq q hq')) (fun q hq' => hT.guard q.1 (hq q hq')) (fun q hq' => (c3 q hq').1) c4, c1, fun f hf => ?_, hmem⟩
  rcases List.mem_append.1 hf with hf | hf
  · exact ⟨(i1 f hf).1, by rw [k1 f hf, chain_hist a2 f hf, hh]; rfl⟩
  · exact ⟨(i2 f hf).1, by rw [k2 f hf, chain_hist b2 f hf, hh]; rfl⟩

theorem stages_pr (hF : Fix P ops its) (hself : SelfOK P s) {all R tail : List Item} (hT : TailC its tail R) : ∀ (es rest : List Item) (g : Nat), lastRest rest es = R → g + es.length = all.length → (∀ e ∈ es, e ∈ its) → (∀ x ∈ rest, x ∈ its ∧ x.cl ≠ .e) → (rest.Pairwise fun x y => x.i < y.i) →
    ∀ (hist : List Hp) (tm : Env) (d : Dx) (t : Hp) (nx : Nat), hist.length = g + 1 →
    planRec P s ops (mkActs all all.length (R.filter fun x => inAll tail x)) (mkActs all all.length (R.filter fun x => notB (inAll tail x))) tail kEnd (mkStages all g rest es) hist tm d t nx ≠ .fail →
    ∃ fut rem ts, PR P ops hist tm d t nx fut rem es ts (planRec P s ops (mkActs all all.length (R.filter fun x => inAll tail x)) (mkActs all all.length (R.filter fun x => notB (inAll tail x))) tail kEnd (mkStages all g rest es) hist tm d t nx) ∧
      ts.map (·.1) = tail ∧ FactsIn all rest fut ∧ ∀ x ∈ rest, x ∈ rem := by
  intro es
  induction es with
  | nil =>
    intro rest g hR hg he hrest hs hist tm d t nx hh h
    have hR : rest = R := hR
    subst hR
    have hg : g = all.length := hg
    subst hg
    exact end_pr hF hT hrest hs hh h
  | cons e es ih =>
    intro rest g hR hg he hrest hs hist tm d t nx hh h
    have hR' : lastRest (rest.filter fun x => notB (hasBit e.bef x.i)) es = R := hR
    have hg' : (g + 1) + es.length = all.length := by rw [← hg, List.length_cons]; omega
    have hrest' : ∀ x ∈ rest.filter (fun x => notB (hasBit e.bef x.i)), x ∈ its ∧ x.cl ≠ .e := fun x hx => hrest x (List.mem_filter.1 hx).1
    have ih' := ih (rest.filter fun x => notB (hasBit e.bef x.i)) (g + 1) hR' hg' (fun e he' => he e (List.mem_cons_of_mem _ he')) hrest' (hs.filter _)
    have heits := he e (List.mem_cons_self ..)
    have e0 : ∀ (hist : List Hp) (tm : Env) (d : Dx) (t : Hp) (nx : Nat), planRec P s ops (mkActs all all.length (R.filter fun x => inAll tail x)) (mkActs all all.length (R.filter fun x => notB (inAll tail x))) tail kEnd (mkStages all g rest (e :: es)) hist tm d t nx =
        stageX P s ops ⟨mkActs all g (rest.filter fun x => hasBit e.bef x.i), e, mkActs all g (rest.filter fun x => bel (hasBit e.bef x.i) false (notB (hasBit x.bef e.i)))⟩
          (planRec P s ops (mkActs all all.length (R.filter fun x => inAll tail x)) (mkActs all all.length (R.filter fun x => notB (inAll tail x))) tail kEnd (mkStages all (g + 1) (rest.filter fun x => notB (hasBit e.bef x.i)) es)) hist tm d t nx := fun _ _ _ _ _ => rfl
    rw [e0] at h ⊢
    generalize planRec P s ops (mkActs all all.length (R.filter fun x => inAll tail x)) (mkActs all all.length (R.filter fun x => notB (inAll tail x))) tail kEnd (mkStages all (g + 1) (rest.filter fun x => notB (hasBit e.bef x.i)) es) = k at h ih' ⊢
    have hcl : ∀ (p : Item → Bool), ∀ a ∈ mkActs all g (rest.filter p), a.x.cl = clOf P a.x.o.op ∧ a.x.cl ≠ .e := fun p a ha => by
      obtain ⟨x, hx, e⟩ := List.mem_map.1 ha
      have hx' := hrest x (List.mem_filter.1 hx).1
      rw [← e]
      exact ⟨hF.cl x hx'.1, hx'.2⟩
    unfold stageX at h ⊢
    dsimp only at h ⊢
    obtain ⟨pre, tm1, t1, nx1, a1, a2, a3⟩ := acts_ok (s := s) _ _ tm d t nx (hcl _) h
    rw [a3] at h ⊢
    obtain ⟨m1, k1⟩ := mkActs_facts a1
    have i1 : ∀ f ∈ pre, f.x ∈ rest ∧ hasBit e.bef f.x.i = true := fun f hf => by
      have : f.x ∈ rest.filter fun x => hasBit e.bef x.i := by rw [← m1]; exact List.mem_map.2 ⟨f, hf, rfl⟩
      exact List.mem_filter.1 this
    have hback1 : ∀ f ∈ pre, f.back = f.hist.length - 1 - loOf all f.x := fun f hf => by rw [k1 f hf, chain_hist a2 f hf, hh]; rfl
    have ordpre : Ord pre := ord_of_sorted hF m1 (fun x hx => (hrest x (List.mem_filter.1 hx).1).1) (hs.filter _)
    have cross : ∀ fut : List Fact, Ord fut → (∀ f ∈ fut, f.x ∈ rest ∧ hasBit e.bef f.x.i = false) → Ord (pre ++ fut) := fun fut ho hf => List.pairwise_append.2 ⟨ordpre, ho, fun g hg f hf' => by
      have hg1 := i1 g hg
      have hf1 := hf f hf'
      refine ⟨hasBit_ne hg1.2 hf1.2, ?_⟩
      cases hb : hasBit g.x.bef f.x.i with
      | false => rfl
      | true =>
        have := hF.trans e heits g.x (hrest _ hg1.1).1 hg1.2 _ hb
        rw [hf1.2] at this
        cases this⟩
    have restin : ∀ fut : List Fact, FactsIn all (rest.filter fun x => notB (hasBit e.bef x.i)) fut → ∀ f ∈ fut, f.x ∈ rest ∧ hasBit e.bef f.x.i = false := fun fut hf f hf' => by
      have := List.mem_filter.1 (hf f hf').1
      exact ⟨this.1, notB_true this.2⟩
    have factsin : ∀ fut : List Fact, FactsIn all (rest.filter fun x => notB (hasBit e.bef x.i)) fut → FactsIn all rest (pre ++ fut) := fun fut hf f hf' => by
      rcases List.mem_append.1 hf' with h1 | h1
      · exact ⟨(i1 f h1).1, hback1 f h1⟩
      · exact ⟨(restin fut hf f h1).1, (hf f h1).2⟩
    have remin : ∀ rem : List Item, (∀ x ∈ rest.filter fun x => notB (hasBit e.bef x.i), x ∈ rem) → ∀ x ∈ rest, x ∈ pre.map (·.x) ++ rem := fun rem hr x hx => by
      rw [List.mem_append]
      cases hb : hasBit e.bef x.i with
      | true => exact .inl (by rw [m1]; exact List.mem_filter.2 ⟨hx, hb⟩)
      | false => exact .inr (hr x (List.mem_filter.2 ⟨hx, by rw [hb]; rfl⟩))
    rcases guardX_want h with ⟨hw, e1⟩ | ⟨hw, e1⟩
    · rw [e1] at h ⊢
      rcases effX_ok hself (hcl _) h with ⟨v, t', nx', h1, h2⟩ | ⟨v, t', nx', dry, tm2, t2, nx2, h1, h2, h3, h4⟩
      · dsimp only at h1 h2
        rw [h1] at h ⊢
        unfold effK at h ⊢
        obtain ⟨hb, e2⟩ := bel_fail h
        rw [e2] at h ⊢
        obtain ⟨fut, rem, ts, q1, q2, q3, q4⟩ := ih' _ _ _ _ _ (by simp [hh]) h
        have ri := restin fut q3
        exact ⟨pre ++ fut, pre.map (·.x) ++ rem, ts, .eff a2 (fun f hf => (i1 f hf).2) (fun f hf => (ri f hf).2) (cross fut q1.ord ri) hw h2 (Nat.le_of_ble_eq_true hb) q1, q2, factsin fut q3, remin rem q4⟩
      · dsimp only at h1 h2
        rw [h1]
        obtain ⟨m2, k2⟩ := mkActs_facts h3
        have i2 : ∀ f ∈ dry, f.x ∈ rest ∧ hasBit e.bef f.x.i = false ∧ hasBit f.x.bef e.i = false := fun f hf => by
          have : f.x ∈ rest.filter fun x => bel (hasBit e.bef x.i) false (notB (hasBit x.bef e.i)) := by rw [← m2]; exact List.mem_map.2 ⟨f, hf, rfl⟩
          have := List.mem_filter.1 this
          refine ⟨this.1, ?_⟩
          cases hb : hasBit e.bef f.x.i with
          | true => rw [hb] at this; cases this.2
          | false => rw [hb] at this; exact ⟨rfl, notB_true this.2⟩
        have orddry : Ord dry := ord_of_sorted hF m2 (fun x hx => (hrest x (List.mem_filter.1 hx).1).1) (hs.filter _)
        refine ⟨pre ++ dry, rest, tail.map fun x => (x, 0, none), .pan a2 (fun f hf => (i1 f hf).2) (fun f hf => (i2 f hf).2.1) (cross dry orddry fun f hf => ⟨(i2 f hf).1, (i2 f hf).2.1⟩) hw h2 h4 (fun x hx => ?_), by simp [Function.comp_def], fun f hf => ?_, fun x hx => hx⟩
        · cases hb : hasBit x.bef e.i with
          | true => exact .inr rfl
          | false =>
            left
            cases hb' : hasBit e.bef x.i with
            | true =>
              have : x ∈ pre.map (·.x) := by rw [m1]; exact List.mem_filter.2 ⟨hx, hb'⟩
              obtain ⟨f, hf, e⟩ := List.mem_map.1 this
              exact ⟨f, List.mem_append_left _ hf, e⟩
            | false =>
              have : x ∈ dry.map (·.x) := by rw [m2]; exact List.mem_filter.2 ⟨hx, by rw [hb', hb]; rfl⟩
              obtain ⟨f, hf, e⟩ := List.mem_map.1 this
              exact ⟨f, List.mem_append_right _ hf, e⟩
        · rcases List.mem_append.1 hf with hf | hf
          · exact ⟨(i1 f hf).1, hback1 f hf⟩
          · exact ⟨(i2 f hf).1, by rw [k2 f hf, chain_hist h4 f hf, hh]; rfl⟩
    · rw [e1] at h ⊢
      rw [done_eq] at h ⊢
      unfold effK at h ⊢
      obtain ⟨hb, e2⟩ := bel_fail h
      rw [e2] at h ⊢
      obtain ⟨fut, rem, ts, q1, q2, q3, q4⟩ := ih' _ _ _ _ _ (by simp [hh]) h
      have ri := restin fut q3
      exact ⟨pre ++ fut, pre.map (·.x) ++ rem, ts, .skip a2 (fun f hf => (i1 f hf).2) (fun f hf => (ri f hf).2) (cross fut q1.ord ri) hw q1, q2, factsin fut q3, remin rem q4⟩
end Go.X
end

section
/- The reckoner: drawn regions: a frame's state where some acts of the plan are done ahead of their turn. -/
namespace Go.X
open Go
variable {P : Program} {s : CallT} {ops : List Oper} {its : List Item}

/-- The names of blocks that were made ahead of their turn. -/
def Early (L : Nat → Prop) (fut : List Fact) (c : Nat) : Prop := ∃ g ∈ fut, L g.x.i ∧ g.blk ≠ none ∧ c = g.nx
/-- The names below a bound that are there. -/
def SLn (L : Nat → Prop) (fut : List Fact) (nx lim : Nat) : Nat → Prop := fun c => c < lim ∧ (c < nx ∨ Early L fut c)

structure SR (n : Nat) (m0 : Inj) (t0 : Hp) (nx0 : Nat) (w0 : World) (L : Nat → Prop) (fut : List Fact) (m : Inj) (tm : Env) (d : Dx) (t : Hp) (nx : Nat) (a : Act) (w : World) : Prop where
  goes : Goes m0 t0 nx0 w0 m t nx w
  base : 64 ≤ nx
  env : ∀ i v, tm.get i = some v → (∀ f ∈ fut, L f.x.i → f.x.o.dst ≠ some i) → a.tmps.getD i undef = gam m v
  ok : ∀ i v, tm.get i = some v → okV m (Lt nx) v
  defs : DefsR m (Lt nx) d.df a.defers
  size : n ≤ a.tmps.size
  val : ∀ f ∈ fut, L f.x.i → (∀ dd, f.x.o.dst = some dd → a.tmps.getD dd undef = gam m f.v) ∧ okV m (SLn L fut nx (stepN f f.nx)) f.v
  blk : ∀ f ∈ fut, L f.x.i → ∀ b, f.blk = some b → w0.heap.size ≤ m.ρ f.nx ∧ m.ρ f.nx < w.heap.size ∧ BlkR m (SLn L fut nx (f.nx + 1)) f.nx b w.heap[m.ρ f.nx]? ∧ ∀ c, t.get c ≠ none → m.ρ c ≠ m.ρ f.nx
  apart : ∀ f ∈ fut, ∀ g ∈ fut, L f.x.i → L g.x.i → f.blk ≠ none → g.blk ≠ none → f.nx ≠ g.nx → m.ρ f.nx ≠ m.ρ g.nx

/-- The names that acts are to give lie apart, in their order. -/
def Nms (nx : Nat) (fut : List Fact) : Prop := (∀ f ∈ fut, nx ≤ f.nx) ∧ fut.Pairwise fun g f => stepN g g.nx ≤ f.nx

theorem Nms.ne {nx : Nat} {fut : List Fact} (h : Nms nx fut) {f g : Fact} (hf : f ∈ fut) (hg : g ∈ fut) (hne : f ≠ g) (h1 : f.blk ≠ none) (h2 : g.blk ≠ none) : f.nx ≠ g.nx := by
  have up : ∀ f : Fact, f.blk ≠ none → f.nx < stepN f f.nx := fun f hb => by
    unfold stepN
    cases hbb : f.blk with
    | none => exact absurd hbb hb
    | some b => exact Nat.lt_succ_self _
  rcases pairwise_either h.2 f hf g hg hne with h' | h'
  · have := up f h1; omega
  · have := up g h2; omega

theorem getD_put_ne {a : Act} {dst : Option Tmp} {v : Value} {i : Nat} (h : dst ≠ some i) : (a.put dst v).tmps.getD i undef = a.tmps.getD i undef := by
  cases dst with
  | none => rfl
  | some d =>
    have hne : d ≠ i := fun e => h (by rw [e])
    simp [Act.put, Array.getD_eq_getD_getElem?, Array.getElem?_setIfInBounds_ne hne]
theorem getD_put {a : Act} {v : Value} {i : Nat} (h : i < a.tmps.size) : (a.put (some i) v).tmps.getD i undef = v := by
  simp [Act.put, h]
theorem put_defers (a : Act) (dst : Option Tmp) (v : Value) : (a.put dst v).defers = a.defers := by cases dst <;> rfl
theorem put_size (a : Act) (dst : Option Tmp) (v : Value) : (a.put dst v).tmps.size = a.tmps.size := by cases dst <;> simp [Act.put]

section
variable {n : Nat} {m0 : Inj} {t0 : Hp} {nx0 : Nat} {w0 : World} {L : Nat → Prop} {fut : List Fact} {m : Inj} {tm : Env} {d : Dx} {t : Hp} {nx : Nat} {a : Act} {w : World}

theorem SR.rel (h : SR n m0 t0 nx0 w0 L fut m tm d t nx a w) : Rel m t nx w := h.goes.rel

theorem SLn.mono {L' : Nat → Prop} {lim lim' : Nat} (h : ∀ i, L i → L' i) (hl : lim ≤ lim') : ∀ c, SLn L fut nx lim c → SLn L' fut nx lim' c := fun _ ⟨h1, h2⟩ =>
  ⟨Nat.lt_of_lt_of_le h1 hl, h2.imp id fun ⟨g, hg, hL, hb, e⟩ => ⟨g, hg, h _ hL, hb, e⟩⟩

theorem stepN_le (f : Fact) : f.nx ≤ stepN f f.nx := by unfold stepN; split <;> omega

/-- An act that makes nothing, done ahead of its turn. -/
theorem SR.put (h : SR n m0 t0 nx0 w0 L fut m tm d t nx a w) {f : Fact} (hf : f ∈ fut) (hu : ∀ g ∈ fut, g.x.i = f.x.i → g = f) (hd : ∀ g ∈ fut, g ≠ f → ∀ dd, f.x.o.dst = some dd → g.x.o.dst ≠ some dd) (hn : ∀ dd, f.x.o.dst = some dd → dd < n)
    (hb : f.blk = none) (hv : okV m (SLn L fut nx f.nx) f.v) : SR n m0 t0 nx0 w0 (fun i => L i ∨ i = f.x.i) fut m tm d t nx (a.put f.x.o.dst (gam m f.v)) w where
  goes := h.goes
  base := h.base
  env := fun i v hi hc => by
    rw [getD_put_ne (hc f hf (.inr rfl))]
    exact h.env i v hi fun g hg hL => hc g hg (.inl hL)
  ok := h.ok
  defs := by rw [put_defers]; exact h.defs
  size := by rw [put_size]; exact h.size
  val := fun g hg hL => by
    by_cases e : g = f
    · subst e
      refine ⟨fun dd hdd => ?_, okV_mono (SLn.mono (fun _ => .inl) (stepN_le g)) hv⟩
      rw [hdd, getD_put (Nat.lt_of_lt_of_le (hn dd hdd) h.size)]
    · have hL' : L g.x.i := hL.resolve_right fun e' => e (hu g hg e')
      obtain ⟨h1, h2⟩ := h.val g hg hL'
      refine ⟨fun dd hdd => ?_, okV_mono (SLn.mono (fun _ => .inl) (Nat.le_refl _)) h2⟩
      rw [getD_put_ne (fun he => hd g hg e dd he hdd)]
      exact h1 dd hdd
  blk := fun g hg hL b hgb => by
    have e : g ≠ f := fun e => by rw [e, hb] at hgb; cases hgb
    have hL' : L g.x.i := hL.resolve_right fun e' => e (hu g hg e')
    obtain ⟨h1, h2, h3, h4⟩ := h.blk g hg hL' b hgb
    refine ⟨h1, h2, BlkR.ext (Inj.agree.refl m _) (SLn.mono (fun _ => .inl) (Nat.le_refl _)) ⟨Nat.lt_succ_self _, .inr ⟨g, hg, hL', by rw [hgb]; simp, rfl⟩⟩ h3, h4⟩
  apart := fun g hg g' hg' hL hL' hgb hgb' hne => by
    have e : g ≠ f := fun e => by rw [e] at hgb; exact hgb hb
    have e' : g' ≠ f := fun e => by rw [e] at hgb'; exact hgb' hb
    exact h.apart g hg g' hg' (hL.resolve_right fun q => e (hu g hg q)) (hL'.resolve_right fun q => e' (hu g' hg' q)) hgb hgb' hne

theorem DefsR.ext' {m m' : Inj} {S S' : Nat → Prop} (h : m.agree m' S) (hn : ∀ b, S b → S' b) {xs : List (FuncId × List V)} {es : List Deferred} (hd : DefsR m S xs es) : DefsR m' S' xs es := hd.ext h hn

/-- An act that makes a block, done ahead of its turn. -/
theorem SR.alloc (h : SR n m0 t0 nx0 w0 L fut m tm d t nx a w) {f : Fact} (hf : f ∈ fut) (hnL : ¬ L f.x.i) (hu : ∀ g ∈ fut, g.x.i = f.x.i → g = f) (hd : ∀ g ∈ fut, g ≠ f → ∀ dd, f.x.o.dst = some dd → g.x.o.dst ≠ some dd) (hn : ∀ dd, f.x.o.dst = some dd → dd < n)
    (hN : Nms nx fut) {b : Blk} (hb : f.blk = some b) {kk : Nat} {obj : Obj} {w' : World} (h64 : 64 ≤ f.nx) (hp : Pushed w w' obj)
    (hB : BlkR (m.at f.nx w.heap.size kk h64) (fun c => SLn L fut nx f.nx c ∨ c = f.nx) f.nx b (some obj)) (hv : okV (m.at f.nx w.heap.size kk h64) (fun c => SLn L fut nx f.nx c ∨ c = f.nx) f.v) :
    SR n m0 t0 nx0 w0 (fun i => L i ∨ i = f.x.i) fut (m.at f.nx w.heap.size kk h64) tm d t nx (a.put f.x.o.dst (gam (m.at f.nx w.heap.size kk h64) f.v)) w' := by
  have hlo : nx ≤ f.nx := hN.1 f hf
  have hnot : ∀ lim, ¬ SLn L fut nx lim f.nx := fun lim ⟨_, h2⟩ => by
    rcases h2 with h2 | ⟨g, hg, hL, hgb, e⟩
    · omega
    · have hne : f ≠ g := fun e => by rw [e] at hnL; exact hnL hL
      exact hN.ne hf hg hne (by rw [hb]; simp) hgb e
  have hag : ∀ lim, m.agree (m.at f.nx w.heap.size kk h64) (SLn L fut nx lim) := fun lim => m.at_agree' _ _ _ _ (hnot lim)
  have hagL : m.agree (m.at f.nx w.heap.size kk h64) (Lt nx) := m.at_agree' _ _ _ _ (by show ¬ f.nx < nx; omega)
  have hsz : w'.heap.size = w.heap.size + 1 := by rw [hp.heap]; simp
  have hget : ∀ c, c < w.heap.size → w'.heap[c]? = w.heap[c]? := fun c hc => by
    rw [hp.heap, Array.getElem?_push_lt hc, Array.getElem?_eq_getElem hc]
  have hrel : Rel (m.at f.nx w.heap.size kk h64) t nx w' := by
    constructor
    · intro c x hc
      obtain ⟨h1, h2⟩ := h.rel.blk c x hc
      have hlt := h.rel.lt (b := c) (by rw [hc]; simp)
      refine ⟨h1, ?_⟩
      rw [(hagL c h1).1, hget _ hlt]
      exact h2.ext hagL (fun _ h => h) h1
    · intro c c' hc hc' he
      rw [(hagL c (h.rel.below hc)).1, (hagL c' (h.rel.below hc')).1] at he
      exact h.rel.inj c c' hc hc' he
  have hgo : Goes m t nx w (m.at f.nx w.heap.size kk h64) t nx w' :=
    ⟨hagL, hrel, Nat.le_refl _, by rw [hsz]; omega, fun c hc _ => hget c hc, fun _ _ h => h, fun c hc hl => absurd (h.rel.below hl) (Nat.not_lt.2 hc), hp.tape, hp.os, hp.output, Still.same (fun _ _ _ => .inl rfl) (fun b _ hne _ => hget _ (h.rel.lt hne))⟩
  have hmo : ∀ g ∈ fut, ∀ lim, ∀ c, SLn L fut nx lim c → SLn (fun i => L i ∨ i = f.x.i) fut nx lim c := fun g _ lim => SLn.mono (fun _ => .inl) (Nat.le_refl _)
  have hfS : ∀ c, (SLn L fut nx f.nx c ∨ c = f.nx) → SLn (fun i => L i ∨ i = f.x.i) fut nx (f.nx + 1) c := fun c hc => by
    rcases hc with ⟨h1, h2⟩ | rfl
    · exact ⟨Nat.lt_succ_of_lt h1, h2.imp id fun ⟨g, hg, hL, hb, e⟩ => ⟨g, hg, .inl hL, hb, e⟩⟩
    · exact ⟨Nat.lt_succ_self _, .inr ⟨f, hf, .inr rfl, by rw [hb]; simp, rfl⟩⟩
  have hstep : stepN f f.nx = f.nx + 1 := by unfold stepN; rw [hb]
  have hρ : ∀ c, c ≠ f.nx → (m.at f.nx w.heap.size kk h64).ρ c = m.ρ c := fun c hc => by simp [Inj.at, hc]
  have hLg : ∀ g ∈ fut, g ≠ f → (L g.x.i ∨ g.x.i = f.x.i) → L g.x.i := fun g hg e hL => hL.resolve_right fun q => e (hu g hg q)
  refine ⟨h.goes.trans hgo, h.base, ?_, ?_, ?_, ?_, ?_, ?_, ?_⟩
  · intro i v hi hc
    rw [getD_put_ne (hc f hf (.inr rfl)), gam_ext hagL v (h.ok i v hi)]
    exact h.env i v hi fun g hg hL => hc g hg (.inl hL)
  · exact fun i v hi => okV_ext hagL (fun _ h => h) v (h.ok i v hi)
  · rw [put_defers]; exact h.defs.ext hagL (fun _ h => h)
  · rw [put_size]; exact h.size
  · intro g hg hL
    by_cases e : g = f
    · subst e
      refine ⟨fun dd hdd => ?_, ?_⟩
      · rw [hdd, getD_put (Nat.lt_of_lt_of_le (hn dd hdd) h.size)]
      · rw [hstep]; exact okV_mono hfS hv
    · obtain ⟨h1, h2⟩ := h.val g hg (hLg g hg e hL)
      refine ⟨fun dd hdd => ?_, okV_ext (hag _) (hmo g hg _) _ h2⟩
      rw [getD_put_ne (fun he => hd g hg e dd he hdd), gam_ext (hag _) _ h2]
      exact h1 dd hdd
  · intro g hg hL b' hgb
    by_cases e : g = f
    · subst e
      rw [hb] at hgb; cases hgb
      rw [Inj.at_ρ]
      refine ⟨h.goes.size, by rw [hsz]; omega, ?_, fun c hc => ?_⟩
      · have e1 : w'.heap[w.heap.size]? = some obj := by rw [hp.heap]; simp
        rw [e1]
        exact hB.ext (Inj.agree.refl _ _) hfS (.inr rfl)
      · have hlt := h.rel.below hc
        rw [(hagL c hlt).1]
        exact Nat.ne_of_lt (h.rel.lt hc)
    · obtain ⟨h1, h2, h3, h4⟩ := h.blk g hg (hLg g hg e hL) b' hgb
      have hne : g.nx ≠ f.nx := hN.ne hg hf e (by rw [hgb]; simp) (by rw [hb]; simp)
      rw [hρ _ hne]
      refine ⟨h1, by rw [hsz]; omega, ?_, fun c hc => ?_⟩
      · rw [hget _ h2]
        exact h3.ext (hag _) (hmo g hg _) ⟨Nat.lt_succ_self _, .inr ⟨g, hg, hLg g hg e hL, by rw [hgb]; simp, rfl⟩⟩
      · rw [(hagL c (h.rel.below hc)).1]; exact h4 c hc
  · intro g hg g' hg' hL hL' hgb hgb' hne
    by_cases e : g = f
    · subst e
      have e' : g' ≠ g := fun e' => hne (by rw [e'])
      obtain ⟨b', hb'⟩ := Option.ne_none_iff_exists'.1 hgb'
      obtain ⟨h1, h2, _, _⟩ := h.blk g' hg' (hLg g' hg' e' hL') b' hb'
      rw [Inj.at_ρ, hρ _ (Ne.symm hne)]
      omega
    · by_cases e' : g' = f
      · subst e'
        obtain ⟨b', hb'⟩ := Option.ne_none_iff_exists'.1 hgb
        obtain ⟨h1, h2, _, _⟩ := h.blk g hg (hLg g hg e hL) b' hb'
        rw [Inj.at_ρ, hρ _ hne]
        omega
      · rw [hρ _ (hN.ne hg hf e hgb (by rw [hb]; simp)), hρ _ (hN.ne hg' hf e' hgb' (by rw [hb]; simp))]
        exact h.apart g hg g' hg' (hLg g hg e hL) (hLg g' hg' e' hL') hgb hgb' hne
end
end Go.X
end
