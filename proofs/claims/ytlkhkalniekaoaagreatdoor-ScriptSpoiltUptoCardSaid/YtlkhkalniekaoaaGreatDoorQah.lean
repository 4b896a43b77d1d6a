/- Parts of the proof: XSemZ, XSemF, XSemI, XExt, XExtA, XLaid, XDrawA, XDrawB. -/
import Derived.Recover
import Derived.Laws.Externs
import Derived.Lib.Bytealg
import Derived.Lib.MakeNoZero
import Derived.Below
import Derived.OpenShut
import Derived.ChangeMaps3
import Derived.Orders
import Derived.Test.YtlkhkalniekaoaaGreatDoorQag
import Derived.Test.YtlkhkalniekaoaaGreatDoorQab

set_option linter.unusedVariables false
set_option linter.unusedSimpArgs false

section
/- The reckoner: what a function answers; what is deferred. -/
namespace Go.X
open Go
variable {P : Program} {s : CallT}

/-! ### Results -/
def resF (tmps : Array Value) (x : ResultVar) : Sem Value := match x with
  | .tmp t => pure (tmps.getD t undef)
  | .cell b ty => do loadVar ty (← asAddr (tmps.getD b undef))
theorem run_resF_tmp (tmps : Array Value) (i : Tmp) (w : World) : (resF tmps (.tmp i)).run P w = .ok (tmps.getD i undef) w := rfl
theorem results_eq (fn : Func) (tmps : Array Value) : results fn tmps = (do let vs ← fn.results.mapM (resF tmps); pure (if h : vs.size = 1 then vs[0] else .tuple vs)) := rfl
theorem res_ok {tm : Env} {t : Hp} {nx : Nat} : ∀ {l : List ResultVar} {c : List V → CR}, resX P tm t l c ≠ .fail → ∃ vs, resX P tm t l c = c vs ∧ ∀ (m : Inj) (a : Act) (w : World), Rel m t nx w → EnvR m (Lt nx) tm a.tmps →
    (l.mapM (resF a.tmps)).run P w = .ok (gamL m vs) w ∧ okL m (Lt nx) vs
  | [], c, h => ⟨[], rfl, fun m a w hr he => ⟨by simp [gamL], trivial⟩⟩
  | .tmp i :: l, c, h => by
    have h : oel (tm.get i) (fun v => resX P tm t l fun l => c (v :: l)) .fail ≠ .fail := h
    have e0 : resX P tm t (.tmp i :: l) c = oel (tm.get i) (fun v => resX P tm t l fun l => c (v :: l)) .fail := rfl
    rw [e0]
    cases hg : tm.get i with
    | none => rw [hg] at h; exact absurd rfl h
    | some v =>
      rw [hg, oel_some] at h
      rw [oel_some]
      obtain ⟨vs, e, hvs⟩ := res_ok (nx := nx) h
      refine ⟨v :: vs, e, fun m a w hr he => ?_⟩
      obtain ⟨h1, h2⟩ := hvs m a w hr he
      have hv := he.at_ i v hg
      refine ⟨?_, hv.2, h2⟩
      simp only [List.mapM_cons, Sem.run_bind, run_resF_tmp, Sem.run_pure, Result.andThen_ok, h1, gamL, hv.1]
  | .cell b ty :: l, c, h => by
    have h : oel (rdLoad P ty (.tmp b) tm t) (fun v => resX P tm t l fun l => c (v :: l)) .fail ≠ .fail := h
    have e0 : resX P tm t (.cell b ty :: l) c = oel (rdLoad P ty (.tmp b) tm t) (fun v => resX P tm t l fun l => c (v :: l)) .fail := rfl
    rw [e0]
    cases hg : rdLoad P ty (.tmp b) tm t with
    | none => rw [hg] at h; exact absurd rfl h
    | some v =>
      rw [hg, oel_some] at h
      rw [oel_some]
      obtain ⟨vs, e, hvs⟩ := res_ok (nx := nx) h
      refine ⟨v :: vs, e, fun m a w hr he => ?_⟩
      obtain ⟨h1, h2⟩ := hvs m a w hr he
      unfold rdLoad at hg
      obtain ⟨u, hu, hg⟩ := evO_some hg
      have hx := evO_gam (a := a) hu he
      cases u with
      | ptr q off =>
        simp only [onPtr_ptr] at hg
        obtain ⟨cl, hcl, hg⟩ := oelO_some hg
        obtain ⟨r1, r2⟩ := run_loadVar hr hcl hg
        refine ⟨?_, r2, h2⟩
        have hev : a.tmps.getD b undef = gam m (.ptr q off) := hx.1
        have hrc : (resF a.tmps (.cell b ty)).run P w = .ok (gam m v) w := by
          simp only [resF, Sem.run_bind, hev, gam_ptr, asAddr, Sem.run_pure, Result.andThen_ok, r1]
        simp only [List.mapM_cons, Sem.run_bind, hrc, Sem.run_pure, Result.andThen_ok, h1, gamL]
      | _ => cases hg

theorem ret_ok {fn : Func} {tm : Env} {t : Hp} {nx : Nat} {pan : Option V} (h : retX P fn tm t nx pan ≠ .fail) : ∃ v, retX P fn tm t nx pan = .ret v t nx pan ∧ ∀ (m : Inj) (a : Act) (w : World), Rel m t nx w → EnvR m (Lt nx) tm a.tmps →
    (results fn a.tmps).run P w = .ok (gam m v) w ∧ okV m (Lt nx) v := by
  unfold retX at h ⊢
  obtain ⟨vs, e, hvs⟩ := res_ok (nx := nx) h
  rw [e] at h ⊢
  have base : ∀ (m : Inj) (a : Act) (w : World), Rel m t nx w → EnvR m (Lt nx) tm a.tmps → (fn.results.mapM (resF a.tmps)).run P w = .ok (gamL m vs).toArray w := fun m a w hr he => by
    rw [Array.mapM_eq_mapM_toList]
    simp only [Sem.run_map, (hvs m a w hr he).1, Result.andThen_ok]
  have key : ∀ (m : Inj) (a : Act) (w : World), Rel m t nx w → EnvR m (Lt nx) tm a.tmps → (results fn a.tmps).run P w = .ok (if h : (gamL m vs).toArray.size = 1 then (gamL m vs).toArray[0] else .tuple (gamL m vs).toArray) w := fun m a w hr he => by
    rw [results_eq]
    simp only [Sem.run_bind, base m a w hr he, Result.andThen_ok, Sem.run_pure]
  cases vs with
  | nil =>
    refine ⟨.tup [], rfl, fun m a w hr he => ⟨?_, trivial⟩⟩
    rw [key m a w hr he]
    simp [gamL, gam]
  | cons v vs =>
    cases vs with
    | nil =>
      refine ⟨v, rfl, fun m a w hr he => ⟨?_, (hvs m a w hr he).2.1⟩⟩
      rw [key m a w hr he]
      simp [gamL]
    | cons u vs =>
      refine ⟨.tup (v :: u :: vs), rfl, fun m a w hr he => ⟨?_, (hvs m a w hr he).2⟩⟩
      rw [key m a w hr he]
      simp [gamL, gam]

/-! ### What is under way behind a deferred call -/
def ModeR (m : Inj) (S : Nat → Prop) (pan : Option V) (u : FrameMode) : Prop := match pan with
  | some x => u = .panicking [{ v := gam m x, recovered := false }] ∧ okV m S x
  | none => u = .returning ∨ ∃ v, u = .panicking [{ v, recovered := true }]
theorem ModeR.ext {m m' : Inj} {S S' : Nat → Prop} (h : m.agree m' S) (hn : ∀ b, S b → S' b) {pan : Option V} {u : FrameMode} (hm : ModeR m S pan u) : ModeR m' S' pan u := by
  cases pan with
  | none => exact hm
  | some x => exact ⟨by rw [gam_ext h x hm.2]; exact hm.1, okV_ext h hn x hm.2⟩
/-- The mode in which what was deferred is begun. -/
def modeOf (m : Inj) (pan : Option V) : FrameMode := match pan with
  | some x => .panicking [{ v := gam m x, recovered := false }]
  | none => .returning
theorem settle_mode {m : Inj} {S : Nat → Prop} {pan : Option V} {u : FrameMode} (h : ModeR m S pan u) : settle u = modeOf m pan := by
  cases pan with
  | some x => rw [h.1]; rfl
  | none =>
    rcases h with rfl | ⟨v, rfl⟩ <;> rfl

/-- Deferred calls. -/
def SelfD (P : Program) (self : CallT) : Prop := ∀ f l pan t nx v t' nx' left, self f l (some pan) t nx = .ret v t' nx' left → Enters P f ∧
  ∀ (m : Inj) (w : World) (u : FrameMode), 64 ≤ nx → Rel m t nx w → okL m (Lt nx) l → ModeR m (Lt nx) pan u →
    CallsD P f (gamL m l).toArray u w fun e u' w' => ∃ m', (∃ r, e = .returned r) ∧ Goes m t nx w m' t' nx' w' ∧ ModeR m' (Lt nx') left u'

theorem defer_ok {fn : Func} (hD : SelfD P s) {n : Nat} : ∀ (df : List (FuncId × List V)) (tm : Env) (pan v : Option V) (t : Hp) (nx : Nat), deferX P s fn df tm pan v t nx ≠ .fail →
    ∀ (m0 : Inj) (t0 : Hp) (nx0 : Nat) (w0 : World) (m : Inj) (a : Act) (ds : List Deferred) (w : World), Goes m0 t0 nx0 w0 m t nx w → EnvR m (Lt nx) tm a.tmps → DefsR m (Lt nx) df ds → (∀ x, v = some x → okV m (Lt nx) x) →
      Leaves P fn a.tmps (CPost m0 t0 nx0 w0 (deferX P s fn df tm pan v t nx)) ds (modeOf m v) w
  | [], tm, pan, v, t, nx, h, m0, t0, nx0, w0, m, a, ds, w, hg, he, hds, hv => by
    cases ds with
    | cons d ds => exact hds.elim
    | nil =>
      have e0 : deferX P s fn [] tm pan v t nx = oel v (fun v => .panic v t nx) (retX P fn tm t nx pan) := rfl
      rw [e0] at h ⊢
      cases v with
      | some x => exact ⟨m, rfl, hg, hv x rfl⟩
      | none =>
        rw [oel_none] at h ⊢
        obtain ⟨r, e, hr⟩ := ret_ok h
        rw [e]
        obtain ⟨h1, h2⟩ := hr m a w hg.rel he
        exact ⟨gam m r, h1, m, rfl, hg, h2⟩
  | x :: df, tm, pan, v, t, nx, h, m0, t0, nx0, w0, m, a, ds, w, hg, he, hds, hv => by
    cases ds with
    | nil => exact hds.elim
    | cons d ds =>
      obtain ⟨⟨cap, hd1, hd2, hd3⟩, hds⟩ := hds
      have e0 : deferX P s fn (x :: df) tm pan v t nx = (s x.1 x.2 (some v) t nx).on (fun _ t nx left => deferX P s fn df tm pan left t nx) (fun _ _ _ => .fail) .fail := rfl
      rw [e0] at h ⊢
      cases hcr : s x.1 x.2 (some v) t nx with
      | fail => rw [hcr] at h; exact absurd rfl h
      | panic _ _ _ => rw [hcr] at h; exact absurd rfl h
      | ret r t' nx' left =>
        rw [hcr] at h
        have h : deferX P s fn df tm pan left t' nx' ≠ .fail := h
        obtain ⟨hent, hcalls⟩ := hD x.1 x.2 v t nx r t' nx' left hcr
        have h64 : 64 ≤ nx := by
          apply Classical.byContradiction; intro hc
          exact Nat.lt_irrefl nx (he.base nx (by omega))
        have hmode : ModeR m (Lt nx) v (modeOf m v) := by
          cases v with
          | none => exact .inl rfl
          | some y => exact ⟨rfl, hv y rfl⟩
        have hc := hcalls m w (modeOf m v) h64 hg.rel hd3 hmode
        refine ⟨by cases v <;> simp [modeOf], .func x.1, cap, x.1, (gamL m x.2).toArray, hd1, ?_, hc.mono fun e u' w' ⟨m', ⟨res, he'⟩, hg', hm'⟩ => ?_⟩
        · rw [hd1]
          simp only [invoke, hd2, run_callFunc hent]
        · subst he'
          show Leaves P fn a.tmps _ ds (settle u') w'
          rw [settle_mode hm']
          exact defer_ok (n := n) hD df tm pan left t' nx' h m0 t0 nx0 w0 m' a ds w' (hg.trans hg') (he.ext hg'.agree (Lt.mono hg'.up)) (hds.ext hg'.agree (Lt.mono hg'.up)) (fun y hy => by subst hy; exact hm'.2)
end Go.X
end

section
/- The reckoner: functions. -/
namespace Go.X
open Go
variable {P : Program} {s : CallT}

/-! ### Code that may recover -/
def PostS (n : Nat) (m : Inj) (t : Hp) (nx : Nat) (w : World) (c₀ : Frame) (cs0 : List Frame) (r : R) : Exit → Act → List Frame → World → Prop := fun e a' cs' w' =>
  ∃ out tm' d' t' nx' m' u', r = .go out tm' d' t' nx' ∧ cs' = { c₀ with mode := u' } :: cs0 ∧ ExitR m' (Lt nx') out e ∧ Goes m t nx w m' t' nx' w' ∧ StR n m' tm' d' t' nx' a' w' ∧ ModeR m' (Lt nx') d'.pan u'
theorem PostS.trans {n : Nat} {m m1 : Inj} {t t1 : Hp} {nx nx1 : Nat} {w w1 : World} {c₀ : Frame} {cs0 : List Frame} {r : R} (h : Goes m t nx w m1 t1 nx1 w1) {e : Exit} {a : Act} {cs : List Frame} {w' : World} (hp : PostS n m1 t1 nx1 w1 c₀ cs0 r e a cs w') :
    PostS n m t nx w c₀ cs0 r e a cs w' := by
  obtain ⟨out, tm', d', t', nx', m', u', h1, h2, h3, h4, h5, h6⟩ := hp
  exact ⟨out, tm', d', t', nx', m', u', h1, h2, h3, h.trans h4, h5, h6⟩

theorem wpS_mono {c : Code} {Q Q' : Exit → Act → List Frame → World → Prop} {a : Act} {cs : List Frame} {w : World} (h : c.wpS P Q a cs w) (hq : ∀ e a cs w, Q e a cs w → Q' e a cs w) : c.wpS P Q' a cs w :=
  fun b k hb hr => let ⟨e, a', cs', w', q, r⟩ := h b k hb hr; ⟨e, a', cs', w', hq _ _ _ _ q, r⟩

theorem recover_some {m : Inj} {S : Nat → Prop} {x : V} {u : FrameMode} (h : ModeR m S (some x) u) (c₀ : Frame) (cs0 : List Frame) :
    recoverD ({ c₀ with mode := u } :: cs0) = some (gam m x, { c₀ with mode := .panicking [{ v := gam m x, recovered := true }] } :: cs0) := by
  rw [h.1]; rfl
theorem recover_none {m : Inj} {S : Nat → Prop} {u : FrameMode} (h : ModeR m S none u) (c₀ : Frame) (cs0 : List Frame) : recoverD ({ c₀ with mode := u } :: cs0) = none := by
  rcases h with rfl | ⟨v, rfl⟩ <;> rfl

theorem isRecover_eq {op : Op} (h : isRecover op = true) : ∃ args tys, op = .call ⟨.builtin .recover, args, tys⟩ := by
  unfold isRecover at h
  split at h
  · exact ⟨_, _, rfl⟩
  · cases h

theorem wpOpsS_mono {ops : Array Oper} {Q Q' : Exit → Act → List Frame → World → Prop} (h : ∀ e a cs w, Q e a cs w → Q' e a cs w) : ∀ (l : List Nat) (a : Act) (cs : List Frame) (w : World), wpOpsS P ops Q l a cs w → wpOpsS P ops Q' l a cs w
  | [], a, cs, w, hh => h _ _ _ _ hh
  | i :: l, a, cs, w, hh => by
    simp only [wpOpsS] at hh ⊢
    cases ho : ops[i]? with
    | none => simp only [ho] at hh ⊢; exact wpOpsS_mono h l _ _ _ hh
    | some o =>
      simp only [ho] at hh ⊢
      split
      · rename_i hw
        simp only [hw, if_true] at hh
        split
        · rename_i w' hr
          simp only [hr] at hh
          split
          · rename_i v cs' hrec
            simp only [hrec] at hh
            exact wpOpsS_mono h l _ _ _ hh
          · rename_i hrec
            simp only [hrec] at hh
            exact wpOpsS_mono h l _ _ _ hh
        · rename_i r hnr
          have hh' : o.upon P a (fun a' w' => wpOpsS P ops Q l a' cs w') (fun e a' w' => Q e a' cs w') ((execOp a.eval o).run P w) := by
            revert hh
            generalize (execOp a.eval o).run P w = rr at hnr ⊢
            intro hh
            split at hh
            · exact absurd rfl (hnr _)
            · exact hh
          have := Oper.wp_monoQ (P := P) (o := o) (a := a) (w := w) (K := fun a' w' => wpOpsS P ops Q l a' cs w') (K' := fun a' w' => wpOpsS P ops Q' l a' cs w') (Q := fun e a' w' => Q e a' cs w') (Q' := fun e a' w' => Q' e a' cs w')
            (fun a' w' hk => wpOpsS_mono h l _ _ _ hk) (fun e a' w' hk => h _ _ _ _ hk) hh'
          exact this
      · rename_i hw
        simp only [hw] at hh
        exact wpOpsS_mono h l _ _ _ hh

theorem seqD_ok {n : Nat} {ops : Array Oper} (hself : SelfOK P s) (c₀ : Frame) (cs0 : List Frame) : ∀ (l : List Oper) (q : Nat), (∀ j, l[j]? = ops[q + j]?) → (∀ o ∈ l, ∀ i, o.dst = some i → i < n) →
    ∀ (tm : Env) (d : Dx) (t : Hp) (nx : Nat) (m : Inj) (a : Act) (w : World) (u : FrameMode), StR n m tm d t nx a w → ModeR m (Lt nx) d.pan u → seqD P s ops.toList l kEnd tm d t nx ≠ .fail →
    wpOpsS P ops (PostS n m t nx w c₀ cs0 (seqD P s ops.toList l kEnd tm d t nx)) (List.range' q l.length) a ({ c₀ with mode := u } :: cs0) w
  | [], q, _, _, tm, d, t, nx, m, a, w, u, hst, hm, h => ⟨.normal, tm, d, t, nx, m, u, rfl, rfl, trivial, Goes.refl hst.rel, hst, hm⟩
  | o :: l, q, hl, hd, tm, d, t, nx, m, a, w, u, hst, hm, h => by
    have h0 : ops[q]? = some o := by simpa using (hl 0).symm
    have hl' : ∀ j, l[j]? = ops[q + 1 + j]? := fun j => by have := hl (j + 1); simpa [Nat.add_assoc, Nat.add_comm 1 j] using this
    have hd0 := hd o (List.mem_cons_self ..)
    have ih := seqD_ok hself c₀ cs0 l (q + 1) hl' fun o ho => hd o (List.mem_cons_of_mem _ ho)
    have e0 : seqD P s ops.toList (o :: l) kEnd tm d t nx = stepD P s ops.toList o (seqD P s ops.toList l kEnd) tm d t nx := rfl
    rw [e0] at h ⊢
    simp only [List.length_cons, List.range'_succ, wpOpsS, h0]
    unfold stepD at h ⊢
    cases hir : isRecover o.op with
    | true =>
      obtain ⟨args, tys, hop⟩ := isRecover_eq hir
      rw [hir, bel_true] at h
      rw [bel_true]
      cases hg : o.guard with
      | some g => rw [hg] at h; exact absurd rfl h
      | none =>
        rw [hg, oel_none] at h
        rw [oel_none]
        have hw : Region.wanted o (yielded ops a.tmps) = true := by unfold Region.wanted; rw [hg]
        have hrun : (execOp a.eval o).run P w = .ok .recover w := by
          rw [run_builtin hop]; rfl
        simp only [hw, if_true, hrun]
        unfold doRecover at h ⊢
        cases hp : d.pan with
        | some x =>
          rw [hp] at h hm
          simp only [oel_some, done_eq] at h ⊢
          rw [recover_some hm]
          have hs := hst.next (Goes.refl hst.rel) (v := x) (dst := o.dst) hm.2 hd0
          have hs' : StR n m (putT tm o.dst x) ⟨d.df, none⟩ t nx (a.put o.dst (gam m x)) w := ⟨hs.rel, hs.env, hs.defs, hs.size⟩
          exact ih _ _ _ _ m _ w _ hs' (.inr ⟨_, rfl⟩) h
        | none =>
          rw [hp] at h hm
          simp only [oel_none, done_eq] at h ⊢
          rw [recover_none hm]
          have hs := hst.next (Goes.refl hst.rel) (v := .nili) (dst := o.dst) trivial hd0
          exact ih _ _ _ _ m _ w u hs (by rw [hp]; exact hm) h
    | false =>
      rw [hir, bel_false] at h
      rw [bel_false, stepX_eq]
      rw [stepX_eq] at h
      rcases guard_ok (o := o) hst.env h with ⟨e1, hw⟩ | ⟨e1, hw⟩
      · rw [e1] at h ⊢
        simp only [hw, if_true]
        have hwp : o.wp P a w (fun a' w' => wpOpsS P ops (PostS n m t nx w c₀ cs0 (disp o.op P s o (seqD P s ops.toList l kEnd) tm d t nx)) (List.range' (q + 1) l.length) a' ({ c₀ with mode := u } :: cs0) w')
            (fun e a' w' => PostS n m t nx w c₀ cs0 (disp o.op P s o (seqD P s ops.toList l kEnd) tm d t nx) e a' ({ c₀ with mode := u } :: cs0) w') := by
          rcases op_ok hself hst hd0 h (fun e a' w' => PostS n m t nx w c₀ cs0 (disp o.op P s o (seqD P s ops.toList l kEnd) tm d t nx) e a' ({ c₀ with mode := u } :: cs0) w') with ⟨v, d', t', nx', h1, h2, h3⟩ | ⟨v, t', nx', h1, h2⟩
          · refine h3 _ fun a' w' m' hg hs' _ => ?_
            have hne : seqD P s ops.toList l kEnd (putT tm o.dst v) d' t' nx' ≠ .fail := h1 ▸ h
            have := ih _ _ _ _ m' a' w' u hs' (by rw [h2]; exact hm.ext hg.agree (Lt.mono hg.up)) hne
            rw [h1]
            exact wpOpsS_mono (fun e a cs w hp => PostS.trans hg hp) _ _ _ _ this
          · refine h2 _ fun w' m' hg hv => ?_
            rw [h1]
            exact ⟨.panic v, tm, d, t', nx', m', u, rfl, rfl, ⟨rfl, hv⟩, hg, ⟨hg.rel, hst.env.ext hg.agree (Lt.mono hg.up), hst.defs.ext hg.agree (Lt.mono hg.up), hst.size⟩, hm.ext hg.agree (Lt.mono hg.up)⟩
        unfold Oper.wp at hwp
        split
        · rename_i w' hr
          rw [hr] at hwp
          exact hwp.elim
        · exact hwp
      · rw [e1] at h ⊢
        simp only [hw, Bool.false_eq_true, if_false]
        rw [done_eq] at h ⊢
        exact ih _ _ _ _ m _ w u (hst.next (Goes.refl hst.rel) (v := undefV) (dst := o.dst) trivial hd0) hm h

theorem codeS_of {n : Nat} {c : Code} {kx : K} (hk : KOK P n c kx) (c₀ : Frame) (cs0 : List Frame) (tm : Env) (d : Dx) (t : Hp) (nx : Nat) (m : Inj) (a : Act) (w : World) (u : FrameMode) (hst : StR n m tm d t nx a w) (hm : ModeR m (Lt nx) d.pan u) (h : kx tm d t nx ≠ .fail) :
    c.wpS P (PostS n m t nx w c₀ cs0 (kx tm d t nx)) a ({ c₀ with mode := u } :: cs0) w :=
  wpS_of_wp (wp_mono (hk tm d t nx m a w hst h) fun e a' w' ⟨out, tm', d', t', nx', m', h1, h2, h3, h4, h5⟩ =>
    ⟨out, tm', d', t', nx', m', u, h1, rfl, h3, h4, h5, by rw [h2]; exact hm.ext h4.agree (Lt.mono h4.up)⟩)

theorem codeD_ok {n : Nat} (hdraw : DrawOK P) (hself : SelfOK P s) (c₀ : Frame) (cs0 : List Frame) : ∀ (c : Code), okCode n c = true → ∀ (tm : Env) (d : Dx) (t : Hp) (nx : Nat) (m : Inj) (a : Act) (w : World) (u : FrameMode), StR n m tm d t nx a w → ModeR m (Lt nx) d.pan u →
    codeD P s c tm d t nx ≠ .fail → c.wpS P (PostS n m t nx w c₀ cs0 (codeD P s c tm d t nx)) a ({ c₀ with mode := u } :: cs0) w
  | .seq x y, hok, tm, d, t, nx, m, a, w, u, hst, hm, h => by
    have hok' : bel (okCode n x) (okCode n y) false = true := hok
    have hx : okCode n x = true := by cases hx : okCode n x <;> rw [hx] at hok' <;> first | rfl | cases hok'
    have hy : okCode n y = true := by rw [hx] at hok'; exact hok'
    have e0 : codeD P s (.seq x y) tm d t nx = goR (codeD P s x tm d t nx) (codeD P s y) := rfl
    rw [e0] at h ⊢
    refine wpS_seq (wpS_mono (codeD_ok hdraw hself c₀ cs0 x hx tm d t nx m a w u hst hm (goR_fail h)) fun e a' cs' w' hp => ?_)
    obtain ⟨out, tm', d', t', nx', m', u', h1, rfl, h3, h4, h5, h6⟩ := hp
    rw [h1] at h ⊢
    cases out with
    | normal =>
      cases e <;> first
        | exact h3.elim
        | skip
      have e1 : goR (.go .normal tm' d' t' nx') (codeD P s y) = codeD P s y tm' d' t' nx' := rfl
      rw [e1] at h ⊢
      exact wpS_mono (codeD_ok hdraw hself c₀ cs0 y hy tm' d' t' nx' m' a' w' u' h5 h6 h) fun e a cs w hp => PostS.trans h4 hp
    | exit i =>
      cases e <;> first
        | exact h3.elim
        | exact ⟨.exit i, tm', d', t', nx', m', u', rfl, rfl, h3, h4, h5, h6⟩
    | ret =>
      cases e <;> first
        | exact h3.elim
        | exact ⟨.ret, tm', d', t', nx', m', u', rfl, rfl, h3, h4, h5, h6⟩
    | panic v =>
      cases e <;> first
        | exact h3.elim
        | exact ⟨.panic v, tm', d', t', nx', m', u', rfl, rfl, h3, h4, h5, h6⟩
  | .region id ops false, hok, tm, d, t, nx, m, a, w, u, hst, hm, h => by
    have hok' : okOps n ops.toList = true := hok
    have e0 : codeD P s (.region id ops false) tm d t nx = bel (ops.toList.any fun o => isRecover o.op) (seqD P s ops.toList ops.toList kEnd) (codeX P s (.region id ops false)) tm d t nx := rfl
    rw [e0] at h ⊢
    cases hany : ops.toList.any fun o => isRecover o.op with
    | true =>
      rw [hany, bel_true] at h
      rw [bel_true]
      refine wpS_region ?_
      have := seqD_ok hself c₀ cs0 ops.toList 0 (by simp) (okOps_mem hok') tm d t nx m a w u hst hm h
      rwa [List.range_eq_range', ← Array.length_toList]
    | false =>
      rw [hany, bel_false] at h
      rw [bel_false]
      exact codeS_of (code_ok hdraw hself _ hok) c₀ cs0 tm d t nx m a w u hst hm h
  | .region id ops true, hok, tm, d, t, nx, m, a, w, u, hst, hm, h => codeS_of (code_ok hdraw hself _ hok) c₀ cs0 tm d t nx m a w u hst hm h
  | .skip, hok, tm, d, t, nx, m, a, w, u, hst, hm, h => codeS_of (code_ok hdraw hself _ hok) c₀ cs0 tm d t nx m a w u hst hm h
  | .cond _ _ _, hok, tm, d, t, nx, m, a, w, u, hst, hm, h => codeS_of (code_ok hdraw hself _ hok) c₀ cs0 tm d t nx m a w u hst hm h
  | .block _ _, hok, tm, d, t, nx, m, a, w, u, hst, hm, h => codeS_of (code_ok hdraw hself _ hok) c₀ cs0 tm d t nx m a w u hst hm h
  | .loop _, hok, tm, d, t, nx, m, a, w, u, hst, hm, h => codeS_of (code_ok hdraw hself _ hok) c₀ cs0 tm d t nx m a w u hst hm h
  | .rangeFunc _ _ _ _, hok, tm, d, t, nx, m, a, w, u, hst, hm, h => codeS_of (code_ok hdraw hself _ hok) c₀ cs0 tm d t nx m a w u hst hm h
  | .exit _, hok, tm, d, t, nx, m, a, w, u, hst, hm, h => codeS_of (code_ok hdraw hself _ hok) c₀ cs0 tm d t nx m a w u hst hm h
  | .scope _, hok, tm, d, t, nx, m, a, w, u, hst, hm, h => codeS_of (code_ok hdraw hself _ hok) c₀ cs0 tm d t nx m a w u hst hm h
  | .label _, hok, tm, d, t, nx, m, a, w, u, hst, hm, h => codeS_of (code_ok hdraw hself _ hok) c₀ cs0 tm d t nx m a w u hst hm h
  | .goto _, hok, tm, d, t, nx, m, a, w, u, hst, hm, h => codeS_of (code_ok hdraw hself _ hok) c₀ cs0 tm d t nx m a w u hst hm h
  | .ret, hok, tm, d, t, nx, m, a, w, u, hst, hm, h => codeS_of (code_ok hdraw hself _ hok) c₀ cs0 tm d t nx m a w u hst hm h
  | .refuse _, hok, tm, d, t, nx, m, a, w, u, hst, hm, h => codeS_of (code_ok hdraw hself _ hok) c₀ cs0 tm d t nx m a w u hst hm h
end Go.X
end

section
/- The reckoner: calls, to whatever depth. -/
namespace Go.X
open Go
variable {P : Program} {s : CallT}

/-! ### Arguments -/
noncomputable def argsE : List V → Nat → Env → Env
  | [], _, e => e
  | v :: l, i, e => argsE l (i + 1) (e.set i (some v))
theorem argsK_eq : ∀ (l : List V) (i : Nat) (e : Env) (c : Env → CR), argsK l i e c = c (argsE l i e)
  | [], _, _, _ => rfl
  | v :: l, i, e, c => by
    show e.setK i (some v) (fun e => argsK l (Nat.succ i) e c) = _
    rw [Tr.setK_eq, argsK_eq l]; rfl
theorem argsE_get : ∀ (l : List V) (i : Nat) (e : Env) (j : Nat), (argsE l i e).get j = if i ≤ j ∧ j < i + l.length then l[j - i]? else e.get j
  | [], i, e, j => by
    rw [if_neg (fun h => Nat.lt_irrefl j (Nat.lt_of_lt_of_le h.2 h.1))]; rfl
  | v :: l, i, e, j => by
    show (argsE l (i + 1) (e.set i (some v))).get j = _
    rw [argsE_get l]
    by_cases h1 : i + 1 ≤ j ∧ j < i + 1 + l.length
    · rw [if_pos h1, if_pos (by simp; omega)]
      have : j - i = (j - (i + 1)) + 1 := by omega
      rw [this]; rfl
    · rw [if_neg h1, Tr.get_set]
      by_cases h2 : j = i
      · subst h2; rw [if_pos rfl, if_pos (by simp)]; simp
      · rw [if_neg h2, if_neg (by simp; omega)]
theorem args_env {m : Inj} {S : Nat → Prop} (hb : ∀ g, g < 64 → S g) {l : List V} (h : okL m S l) (k : Nat) : EnvR m S (argsE l 0 .nil) ((gamL m l).toArray ++ Array.replicate k undef) where
  base := hb
  at_ := fun i v hv => by
    rw [argsE_get] at hv
    split at hv
    · rw [Nat.sub_zero] at hv
      have hlt := (List.getElem?_eq_some_iff.1 hv).1
      refine ⟨?_, okL_get h hv⟩
      rw [Array.getD_eq_getD_getElem?, Array.getElem?_append_left (by simpa using hlt), gamL_arr hv]
      rfl
    · cases hv

/-! ### What calls answer -/
/-- Functions that are not entered, but answered by a contract. -/
def ExtOK (P : Program) (ext : Ext) : Prop := ∀ f g, ext f = some g → ∀ (l : List V) (t : Hp) (nx : Nat) (m : Inj) (w : World), g l t nx ≠ .fail → 64 ≤ nx → Rel m t nx w → okL m (Lt nx) l →
  CallsF P f (gamL m l).toArray w (CPost m t nx w (g l t nx))
/-- No function with a body is the runtime's own counter. -/
def NoCounter (P : Program) : Prop := ∀ (f : FuncId) (fn : Func), P.funcs[f]? = some fn → fn.body.isNone = false → (fn.name == "runtime.NumGoroutine") = false

theorem crel_fail {α : Type} {o : Option α} {f : α → CR} (h : oel o f .fail ≠ .fail) : ∃ a, o = some a ∧ oel o f .fail = f a := by
  cases o with
  | none => exact absurd rfl h
  | some a => exact ⟨a, rfl, rfl⟩
theorem cbel_fail {b : Bool} {x : CR} (h : bel b x .fail ≠ .fail) : b = true ∧ bel b x .fail = x := by
  cases b with
  | false => exact absurd rfl h
  | true => exact ⟨rfl, rfl⟩

theorem fnOk_some {fn : Func} {body : Code} (h : fnOk fn = true) (hb : fn.body = some body) : okCode fn.ntmps body = true := by
  unfold fnOk at h
  rw [hb] at h
  exact h

theorem start_ok {n : Nat} {m : Inj} {t : Hp} {nx : Nat} {w : World} {l : List V} {pan : Option V} (h64 : 64 ≤ nx) (hr : Rel m t nx w) (hl : okL m (Lt nx) l) :
    StR n m (argsE l 0 .nil) ⟨[], pan⟩ t nx { tmps := (gamL m l).toArray ++ Array.replicate (n - (gamL m l).toArray.size) undef, defers := [] } w where
  rel := hr
  env := args_env (fun g hg => Nat.lt_of_lt_of_le hg h64) hl _
  defs := trivial
  size := by simp; omega

/-- A call in the ordinary way. -/
theorem body_call {fn : Func} {body : Code} {f : FuncId} (hdraw : DrawOK P) (hself : SelfOK P s) (hD : SelfD P s) (hf : P.funcs[f]? = some fn) (hb : fn.body = some body) (hok : okCode fn.ntmps body = true) {l : List V} {t : Hp} {nx : Nat}
    (h : bodyX P s fn body l none t nx ≠ .fail) {m : Inj} {w : World} (h64 : 64 ≤ nx) (hr : Rel m t nx w) (hl : okL m (Lt nx) l) : Calls P f (gamL m l).toArray w (CPost m t nx w (bodyX P s fn body l none t nx)) := by
  unfold bodyX at h ⊢
  rw [argsK_eq, oel_none] at h ⊢
  have hst := start_ok (n := fn.ntmps) (pan := none) h64 hr hl
  have hne : codeX P s body (argsE l 0 .nil) ⟨[], none⟩ t nx ≠ .fail := fun e => by rw [e] at h; exact absurd rfl h
  refine calls_of_wp_defers hf hb (wp_mono (code_ok hdraw hself body hok _ _ t nx m _ w hst hne) fun e a' w' hp => ?_)
  obtain ⟨out, tm', d', t', nx', m', h1, h2, h3, h4, h5⟩ := hp
  rw [h1] at h ⊢
  cases out with
  | normal =>
    cases e <;> first
      | exact h3.elim
      | skip
    exact defer_ok (n := fn.ntmps) hD d'.df tm' d'.pan none t' nx' h m t nx w m' a' a'.defers w' h4 h5.env h5.defs (by simp)
  | exit i => exact absurd rfl h
  | ret =>
    cases e <;> first
      | exact h3.elim
      | skip
    exact defer_ok (n := fn.ntmps) hD d'.df tm' d'.pan none t' nx' h m t nx w m' a' a'.defers w' h4 h5.env h5.defs (by simp)
  | panic v =>
    cases e <;> first
      | exact h3.elim
      | skip
    obtain ⟨hch, hv⟩ := h3
    subst hch
    exact defer_ok (n := fn.ntmps) hD d'.df tm' d'.pan (some v) t' nx' h m t nx w m' a' a'.defers w' h4 h5.env h5.defs (fun x hx => by cases hx; exact hv)

theorem chk_ok {fn : Func} {tm : Env} {d : Dx} {t : Hp} {nx : Nat} {v : V} {t' : Hp} {nx' : Nat} {left : Option V} (h : (onList d.df (retX P fn tm t nx d.pan) fun _ _ => .fail) = .ret v t' nx' left) :
    d.df = [] ∧ t' = t ∧ nx' = nx ∧ left = d.pan ∧ ∀ (m : Inj) (a : Act) (w : World), Rel m t nx w → EnvR m (Lt nx) tm a.tmps → ∃ r, (results fn a.tmps).run P w = .ok r w := by
  cases hdf : d.df with
  | cons x l => rw [hdf] at h; cases h
  | nil =>
    rw [hdf] at h
    have h : retX P fn tm t nx d.pan = .ret v t' nx' left := h
    obtain ⟨r, e, hr⟩ := ret_ok (by rw [h]; simp)
    rw [e] at h
    cases h
    exact ⟨rfl, rfl, rfl, rfl, fun m a w h1 h2 => ⟨_, (hr m a w h1 h2).1⟩⟩

/-- A deferred call. -/
theorem body_callD {fn : Func} {body : Code} {f : FuncId} (hdraw : DrawOK P) (hself : SelfOK P s) (hf : P.funcs[f]? = some fn) (hb : fn.body = some body) (hok : okCode fn.ntmps body = true) {l : List V} {t : Hp} {nx : Nat} {pan : Option V} {v : V} {t' : Hp} {nx' : Nat} {left : Option V}
    (h : bodyX P s fn body l (some pan) t nx = .ret v t' nx' left) {m : Inj} {w : World} {u : FrameMode} (h64 : 64 ≤ nx) (hr : Rel m t nx w) (hl : okL m (Lt nx) l) (hm : ModeR m (Lt nx) pan u) :
    CallsD P f (gamL m l).toArray u w fun e u' w' => ∃ m', (∃ r, e = .returned r) ∧ Goes m t nx w m' t' nx' w' ∧ ModeR m' (Lt nx') left u' := by
  unfold bodyX at h
  rw [argsK_eq, oel_some] at h
  have hst := start_ok (n := fn.ntmps) (pan := pan) h64 hr hl
  have hne : codeD P s body (argsE l 0 .nil) ⟨[], pan⟩ t nx ≠ .fail := fun e => by rw [e] at h; cases h
  refine callsD_of_wpS hf hb fun c₀ cs hu => ?_
  have hc0 : ({ c₀ with mode := u } : Frame) = c₀ := by subst hu; rfl
  have := codeD_ok hdraw hself c₀ cs body hok _ _ t nx m _ w u hst hm hne
  rw [hc0] at this
  refine wpS_mono this fun e a' cs' w' hp => ?_
  obtain ⟨out, tm', d', t1, nx1, m', u', h1, rfl, h3, h4, h5, h6⟩ := hp
  rw [h1] at h
  have fin : (onList d'.df (retX P fn tm' t1 nx1 d'.pan) fun _ _ => .fail) = .ret v t' nx' left → a'.defers = [] ∧ ∃ u'', { c₀ with mode := u' } :: cs = { c₀ with mode := u'' } :: cs ∧ ∃ r, (results fn a'.tmps).run P w' = .ok r w' ∧
      ∃ m', (∃ r', (Ending.returned r) = .returned r') ∧ Goes m t nx w m' t' nx' w' ∧ ModeR m' (Lt nx') left u'' := fun hq => by
    obtain ⟨g1, rfl, rfl, rfl, g5⟩ := chk_ok hq
    obtain ⟨r, hr'⟩ := g5 m' a' w' h5.rel h5.env
    have hd := h5.defs
    rw [g1] at hd
    refine ⟨?_, u', rfl, r, hr', m', ⟨r, rfl⟩, h4, h6⟩
    cases hds : a'.defers with
    | nil => rfl
    | cons x y => rw [hds] at hd; exact hd.elim
  cases out with
  | normal =>
    cases e <;> first
      | exact h3.elim
      | exact fin h
  | exit i => cases h
  | ret =>
    cases e <;> first
      | exact h3.elim
      | exact fin h
  | panic v => cases h

theorem funX_some {f : FuncId} {fn : Func} (h : funX P f = some fn) : P.funcs[f]? = some fn := by
  unfold funX at h
  rw [nth_eq] at h
  simpa using h

theorem enters_of {f : FuncId} {fn : Func} {body : Code} (hN : NoCounter P) (hf : P.funcs[f]? = some fn) (hb : fn.body = some body) : Enters P f := by
  have h0 : fn.body.isNone = false := by rw [hb]; rfl
  exact ⟨fn, hf, hN f fn hf h0, h0⟩

/-- The reckoner's calls are the program's. -/
theorem callX_ok (hdraw : DrawOK P) (hN : NoCounter P) {ext : Ext} (hext : ExtOK P ext) : ∀ n, SelfOK P (callX P ext n) ∧ SelfD P (callX P ext n)
  | 0 => ⟨fun f l t nx h => absurd rfl h, fun f l pan t nx v t' nx' left h => nomatch (show CR.fail = CR.ret v t' nx' left from h)⟩
  | n + 1 => by
    obtain ⟨ih1, ih2⟩ := callX_ok hdraw hN hext n
    constructor
    · intro f l t nx h
      have e0 : callX P ext (n + 1) f l none t nx = oel (ext f) (fun g => g l t nx) (oel (funX P f) (fun fn => bel (fnOk fn) (oel fn.body (fun body => bodyX P (callX P ext n) fn body l none t nx) .fail) .fail) .fail) := rfl
      rw [e0] at h ⊢
      cases hx : ext f with
      | some g =>
        rw [hx, oel_some] at h
        rw [oel_some]
        exact fun m w h64 hr hl => hext f g hx l t nx m w h h64 hr hl
      | none =>
        rw [hx, oel_none] at h
        rw [oel_none]
        obtain ⟨fn, hfn, e⟩ := crel_fail h; rw [e] at h ⊢; clear e
        obtain ⟨hok, e⟩ := cbel_fail h; rw [e] at h ⊢; clear e
        obtain ⟨body, hb, e⟩ := crel_fail h; rw [e] at h ⊢; clear e
        have hf := funX_some hfn
        exact fun m w h64 hr hl => .inl ⟨run_callFunc (enters_of hN hf hb) _ w, body_call hdraw ih1 ih2 hf hb (fnOk_some hok hb) h h64 hr hl⟩
    · intro f l pan t nx v t' nx' left h
      have e0 : callX P ext (n + 1) f l (some pan) t nx = oel (ext f) (fun _ => .fail) (oel (funX P f) (fun fn => bel (fnOk fn) (oel fn.body (fun body => bodyX P (callX P ext n) fn body l (some pan) t nx) .fail) .fail) .fail) := rfl
      rw [e0] at h
      cases hx : ext f with
      | some g => rw [hx] at h; cases h
      | none =>
        rw [hx, oel_none] at h
        obtain ⟨fn, hfn, e⟩ := crel_fail (by rw [h]; simp); rw [e] at h; clear e
        obtain ⟨hok, e⟩ := cbel_fail (by rw [h]; simp); rw [e] at h; clear e
        obtain ⟨body, hb, e⟩ := crel_fail (by rw [h]; simp); rw [e] at h; clear e
        have hf := funX_some hfn
        exact ⟨enters_of hN hf hb, fun m w u h64 hr hl hm => body_callD hdraw ih1 hf hb (fnOk_some hok hb) h h64 hr hl hm⟩
end Go.X
end

section
/- Contracts in the reckoner: what some functions of Go's library do. -/
namespace Go.X
noncomputable section

def CR.ofR (r : R) (v : V) : CR := R.rec (motive := fun _ => CR) .fail (fun _ _ _ t nx => .ret v t nx none) r
def rEnd (t : Hp) (nx : Nat) : R := .go .normal .nil ⟨[], none⟩ t nx

/-- strings.Builder's copyCheck, at a Builder (type bt) whose first cell is its own address, or nil. -/
def xCheckAt (b : Nat) (t : Hp) (nx : Nat) (l : List V) : CR :=
  match l with
  | [.nilp] => CR.ofR (storeK t b 0 [.ptr b 0] fun t => rEnd t nx) (.tup [])
  | [.ptr c 0] => bel (Nat.beq c b) (.ret (.tup []) t nx none) .fail
  | _ => .fail
def xCopyCheck (bt : TypeId) (args : List V) (t : Hp) (nx : Nat) : CR :=
  match args with
  | [.ptr b 0] => oel (t.get b) (fun x => x.sel (fun ty ch n _ _ => bel (andB (Nat.beq ty bt) (andB (Nat.beq ch 2) (Nat.ble 1 n))) (oel (loadN t b 0 1) (fun l => xCheckAt b t nx l) .fail) .fail) (fun _ _ => .fail) (fun _ => .fail) (fun _ _ _ => .fail)) .fail
  | _ => .fail
/-- strings.Builder's String: its bytes are frozen: nobody looks at them any more. -/
def xStringOf (u8 : TypeId) (c len : Nat) (t : Hp) (nx : Nat) (r : Nat × Nat) : CR :=
  oel (t.get c) (fun x => x.sel (fun ty ch _ _ _ => bel (andB (Nat.beq ty u8) (Nat.beq ch 1)) (CR.ofR (t.setK c none fun t => rEnd t nx) (.str r.1 r.2)) .fail) (fun _ _ => .fail) (fun _ => .fail) (fun _ _ _ => .fail)) .fail
def xStringAt (u8 : TypeId) (t : Hp) (nx : Nat) (l : List V) : CR :=
  match l with
  | [.nils] => .ret (.str 0 0) t nx none
  | [.sl c 0 len _] => bel (andB (Nat.ble 1 len) (Nat.ble len 1048576)) (oel (loadN t c 0 len) (fun l => oel (bytesOfL l) (fun r => xStringOf u8 c len t nx r) .fail) .fail) .fail
  | _ => .fail
def xBuilderString (u8 : TypeId) (args : List V) (t : Hp) (nx : Nat) : CR :=
  match args with
  | [.ptr b 0] => oel (loadN t b 1 1) (fun l => xStringAt u8 t nx l) .fail
  | _ => .fail
def xNoEscape (args : List V) (t : Hp) (nx : Nat) : CR := match args with | [v] => .ret v t nx none | _ => .fail
def findByte (c : Nat) : Nat → Nat → Nat → Option Nat
  | 0, _, _ => none
  | l + 1, n, i => bel (Nat.beq (Nat.mod n 256) c) (some i) (findByte c l (Nat.div n 256) (Nat.succ i))
def countByte (c : Nat) : Nat → Nat → Nat → Nat
  | 0, _, k => k
  | l + 1, n, k => countByte c l (Nat.div n 256) (bel (Nat.beq (Nat.mod n 256) c) (Nat.succ k) k)
def xIndexByte (args : List V) (t : Hp) (nx : Nat) : CR :=
  match args with
  | [.str l n, .int k (.ofNat c)] => bel (andB (sameKind k .u8) (Nat.ble (Nat.succ c) 256)) (.ret (.int .i64 (oel (findByte c l n 0) (fun i => .ofNat i) (.negSucc 0))) t nx none) .fail
  | _ => .fail
def xCountByte (args : List V) (t : Hp) (nx : Nat) : CR :=
  match args with
  | [.str l n, .int k (.ofNat c)] => bel (andB (sameKind k .u8) (Nat.ble (Nat.succ c) 256)) (.ret (.int .i64 (.ofNat (countByte c l n 0))) t nx none) .fail
  | _ => .fail
def xMakeNoZero (u8 : TypeId) (args : List V) (t : Hp) (nx : Nat) : CR :=
  match args with
  | [.int k (.ofNat n)] => bel (andB (sameKind k .i64) (Nat.ble n 65536)) (CR.ofR (newK t nx (.cells u8 1 0 0 .nil) fun t nx => rEnd t nx) (.sl nx 0 n (.up 0))) .fail
  | _ => .fail
/-- slices.AppendSeq(nil, maps.Keys(m)), where m has no two entries, and keys of three cells. kf: the closure that maps.Keys answers. -/
def xKeyCells (k : V) : Option (List V) :=
  match k with
  | .agg [.int j a, .int i c, .str l n] => bel (andB (sameKind j .u8) (sameKind i .i64)) (some [.int j a, .int i c, .str l n]) none
  | _ => none
def xSeqOf (te : TypeId) (es : List (V × V × Nat)) (cl : Nat) (t : Hp) (nx : Nat) : CR :=
  match es with
  | [] => .ret .nils t nx none
  | [e] => bel (Nat.ble (Nat.succ e.2.2) cl) (oel (xKeyCells e.1) (fun l => CR.ofR (rowK 3 te l fun b => newK t nx b fun t nx => rEnd t nx) (.sl nx 0 1 (.up 0))) .fail) .fail
  | _ => .fail
def xSeqAt (te : TypeId) (t : Hp) (nx : Nat) (l : List V) : CR :=
  match l with
  | [.nilm] => .ret .nils t nx none
  | [.map m] => oel (mapAt t m) (fun es => xSeqOf te es.1 es.2 t nx) .fail
  | _ => .fail
def xAppendSeq (kf : FuncId) (te : TypeId) (args : List V) (t : Hp) (nx : Nat) : CR :=
  match args with
  | [.nils, .fn g [] [.ptr b 0]] => bel (Nat.beq g kf) (oel (loadN t b 0 1) (fun l => xSeqAt te t nx l) .fail) .fail
  | _ => .fail
end
end Go.X
end

section
/- The reckoner: contracts of what answers at once: bytes in texts, new room. -/
namespace Go.X
open Go
variable {P : Program}

/-- A function without a body, and its entry. -/
structure AtOnce (P : Program) (f : FuncId) (e : Array Value → Sem Value) : Prop where
  ex : ∃ fn, P.funcs[f]? = some fn ∧ (fn.name == "runtime.NumGoroutine") = false ∧ fn.body.isNone = true ∧ Extern.findNext fn = none ∧ Extern.find fn = some e
theorem AtOnce.run {f : FuncId} {e : Array Value → Sem Value} (h : AtOnce P f e) (args : Array Value) (w : World) : (callFunc f args).run P w = ((e args).run P w).andThen fun v w' => .ok (.value v) w' := by
  obtain ⟨fn, h1, h2, h3, h4, h5⟩ := h.ex
  exact run_callFunc_extern h1 h2 h3 h4 h5 args w

theorem toBA_bytes (l n : Nat) : (toBA l n).data.toList = bytesL l n := rfl
theorem sameKind_eq {j k : IntKind} (h : sameKind j k = true) : j = k := of_decide_eq_true h
theorem mod_byte (n c : Nat) (hc : c < 256) : (UInt8.ofNat (n % 256) == UInt8.ofNat c) = Nat.beq (Nat.mod n 256) c := by
  rw [Bool.eq_iff_iff]
  constructor
  · intro h
    have h1 := eq_of_beq h
    have h2 := congrArg UInt8.toNat h1
    rw [UInt8.toNat_ofNat', UInt8.toNat_ofNat'] at h2
    have h3 : n % 256 = c := by omega
    show Nat.beq (n % 256) c = true
    rw [h3]; exact Nat.beq_refl c
  · intro h
    have h1 : n % 256 = c := Nat.eq_of_beq_eq_true h
    rw [h1]
    exact beq_self_eq_true _
theorem findByte_eq (c : Nat) (hc : c < 256) : ∀ (l n i : Nat), (oel (findByte c l n i) (fun i => Int.ofNat i) (.negSucc 0)) = if Lib.indexByte (bytesL l n) (UInt8.ofNat c) == -1 then -1 else Lib.indexByte (bytesL l n) (UInt8.ofNat c) + i
  | 0, n, i => rfl
  | l + 1, n, i => by
    have e0 : findByte c (l + 1) n i = bel (Nat.beq (Nat.mod n 256) c) (some i) (findByte c l (Nat.div n 256) (Nat.succ i)) := rfl
    rw [e0]
    simp only [bytesL, Lib.indexByte]
    rw [mod_byte n c hc]
    cases hb : Nat.beq (Nat.mod n 256) c with
    | true => simp
    | false =>
      rw [bel_false, findByte_eq c hc l (Nat.div n 256) (Nat.succ i)]
      show _ = if (if false = true then _ else _) == -1 then _ else _
      have hge := Lib.indexByte_ge (bytesL l (n / 256)) (UInt8.ofNat c)
      show (if Lib.indexByte (bytesL l (n / 256)) (UInt8.ofNat c) == -1 then -1 else Lib.indexByte (bytesL l (n / 256)) (UInt8.ofNat c) + (i + 1 : Nat)) = _
      simp only [Bool.false_eq_true, if_false]
      by_cases h1 : Lib.indexByte (bytesL l (n / 256)) (UInt8.ofNat c) = -1
      · simp [h1]
      · have h2 : ¬ Lib.indexByte (bytesL l (n / 256)) (UInt8.ofNat c) + 1 = -1 := by omega
        simp only [beq_iff_eq, h1, h2, if_false]
        omega
theorem countByte_eq (c : Nat) (hc : c < 256) : ∀ (l n k : Nat), countByte c l n k = k + Lib.countByte (bytesL l n) (UInt8.ofNat c)
  | 0, n, k => rfl
  | l + 1, n, k => by
    have e0 : countByte c (l + 1) n k = countByte c l (Nat.div n 256) (bel (Nat.beq (Nat.mod n 256) c) (Nat.succ k) k) := rfl
    rw [e0, countByte_eq c hc l]
    simp only [bytesL, Lib.countByte, List.count_cons]
    rw [mod_byte n c hc]
    show _ = k + (List.count _ (bytesL l (n / 256)) + _)
    have e1 : bytesL l (Nat.div n 256) = bytesL l (n / 256) := rfl
    rw [e1]
    cases hb : Nat.beq (Nat.mod n 256) c with
    | true => simp; omega
    | false => simp

theorem CPost.here {m : Inj} {t : Hp} {nx : Nat} {w : World} {v : V} (hr : Rel m t nx w) (hv : okV m (Lt nx) v) : CPost m t nx w (.ret v t nx none) (.returned (gam m v)) w := ⟨m, rfl, Goes.refl hr, hv⟩

theorem ext_index {f : FuncId} (hf : AtOnce P f Extern.BytealgIndexByte.indexByte) : ∀ (l : List V) (t : Hp) (nx : Nat) (m : Inj) (w : World), xIndexByte l t nx ≠ .fail → 64 ≤ nx → Rel m t nx w → okL m (Lt nx) l →
    CallsF P f (gamL m l).toArray w (CPost m t nx w (xIndexByte l t nx)) := by
  intro l t nx m w h h64 hr hl
  unfold xIndexByte at h ⊢
  split at h
  · rename_i a n k c
    obtain ⟨hb, e⟩ := cbel_fail h
    rw [e]
    simp only [andB_eq, Bool.and_eq_true] at hb
    have hk := sameKind_eq hb.1
    have hc : c < 256 := Nat.le_of_ble_eq_true hb.2
    subst hk
    right
    refine ⟨_, w, ?_, CPost.here hr trivial⟩
    rw [hf.run]
    show Result.andThen ((Extern.BytealgIndexByte.indexByte #[.string (toBA a n), .int .u8 (c : Int)]).run P w) _ = _
    rw [Lib.run_indexByteString, toBA_bytes]
    simp only [Result.andThen, gam]
    congr 3
    have h1 := findByte_eq c hc a n 0
    have h2 : (c : Int).toNat.toUInt8 = UInt8.ofNat c := by simp
    rw [h2, h1]
    split
    · rename_i h3; rw [eq_of_beq h3]
    · simp
  · exact absurd rfl h

theorem ext_count {f : FuncId} (hf : AtOnce P f Extern.BytealgCount.count) : ∀ (l : List V) (t : Hp) (nx : Nat) (m : Inj) (w : World), xCountByte l t nx ≠ .fail → 64 ≤ nx → Rel m t nx w → okL m (Lt nx) l →
    CallsF P f (gamL m l).toArray w (CPost m t nx w (xCountByte l t nx)) := by
  intro l t nx m w h h64 hr hl
  unfold xCountByte at h ⊢
  split at h
  · rename_i a n k c
    obtain ⟨hb, e⟩ := cbel_fail h
    rw [e]
    simp only [andB_eq, Bool.and_eq_true] at hb
    have hk := sameKind_eq hb.1
    have hc : c < 256 := Nat.le_of_ble_eq_true hb.2
    subst hk
    right
    refine ⟨_, w, ?_, CPost.here hr trivial⟩
    rw [hf.run]
    show Result.andThen ((Extern.BytealgCount.count #[.string (toBA a n), .int .u8 (c : Int)]).run P w) _ = _
    rw [Lib.run_countString, toBA_bytes]
    simp only [Result.andThen, gam]
    have h1 := countByte_eq c hc a n 0
    have h2 : (c : Int).toNat.toUInt8 = UInt8.ofNat c := by simp
    rw [h2, h1, Nat.zero_add]
    rfl
  · exact absurd rfl h

theorem ext_room {f : FuncId} {ps : Array TypeId} {ts e : TypeId} (hf : AtOnce P f (Extern.BytealgMakeNoZero.makeNoZero ps #[ts])) (ht : P.underlying ts = some (.slice e)) : ∀ (l : List V) (t : Hp) (nx : Nat) (m : Inj) (w : World), xMakeNoZero e l t nx ≠ .fail → 64 ≤ nx → Rel m t nx w → okL m (Lt nx) l →
    CallsF P f (gamL m l).toArray w (CPost m t nx w (xMakeNoZero e l t nx)) := by
  intro l t nx m w h h64 hr hl
  unfold xMakeNoZero at h ⊢
  split at h
  · rename_i k n
    obtain ⟨hb, e0⟩ := cbel_fail h
    rw [e0]
    simp only [andB_eq, Bool.and_eq_true] at hb
    have hk := sameKind_eq hb.1
    have hn : n ≤ 65536 := Nat.le_of_ble_eq_true hb.2
    subst hk
    right
    obtain ⟨cs, hrun, hle, _⟩ := Lib.run_makeNoZero (P := P) w ps ts e ht n (by omega)
    refine ⟨.slice (some ⟨w.heap.size, 0, none⟩) n cs.size, w.drew.drew.alloc (.cells cs e), ?_, ?_⟩
    · rw [hf.run]
      show Result.andThen ((Extern.BytealgMakeNoZero.makeNoZero ps #[ts] #[.int .i64 (n : Int)]).run P w) _ = _
      rw [hrun]
      rfl
    · rw [newK_eq]
      have hp : Pushed w (w.drew.drew.alloc (.cells cs e)) (.cells cs e) := ⟨rfl, rfl, rfl, rfl⟩
      have hB : BlkR (m.at nx w.heap.size cs.size h64) (Lt (nx + 1)) nx (.cells e 1 0 0 .nil) (some (.cells cs e)) := by
        refine ⟨cs, (0, 0), rfl, by decide, Nat.zero_le _, by simp, fun off v hv => ?_, fun off _ _ hh => by omega⟩
        unfold cellAt at hv
        rw [if_neg (by omega)] at hv
        cases hv
      refine ⟨m.at nx w.heap.size cs.size h64, ?_, Goes.new h64 hr hp hB, Nat.lt_succ_self _, ?_⟩
      · simp [gam, capG]
      · rw [Inj.at_κ]; omega
  · exact absurd rfl h

open Go.RowKit in
/-- What turns nothing that lay there. -/
theorem goes_below {m : Inj} {t : Hp} {nx : Nat} {w w' : World} (hr : Rel m t nx w) (hb : Below w.heap.size w w') : Goes m t nx w m t nx w' where
  agree := Inj.agree.refl m _
  rel := ⟨fun b x hx => ⟨(hr.blk b x hx).1, by rw [hb.block _ (hr.lt (by rw [hx]; simp))]; exact (hr.blk b x hx).2⟩, hr.inj⟩
  up := Nat.le_refl _
  size := hb.size
  keep := fun c hc _ => hb.block c hc
  live := fun _ _ h => h
  fresh := fun b hb' hl => absurd (hr.below hl) (Nat.not_lt.2 hb')
  tape := hb.tape
  os := hb.os
  output := hb.output
  still := Still.same (fun _ _ _ => .inl rfl) (fun b _ hne _ => hb.block _ (hr.lt hne))
open Go.RowKit in
/-- .. but for one block that has come. -/
theorem goes_below_new {m : Inj} {t : Hp} {nx : Nat} {w w' : World} (hr : Rel m t nx w) (hb : Below w.heap.size w w') {g kk : Nat} {blk : Blk} (h64 : 64 ≤ nx) (hg : w.heap.size ≤ g) (hB : BlkR (m.at nx g kk h64) (Lt (nx + 1)) nx blk w'.heap[g]?) :
    Goes m t nx w (m.at nx g kk h64) (t.set nx (some blk)) (nx + 1) w' := by
  have h0 := goes_below hr hb
  have hlive : ∀ b, (t.set nx (some blk)).get b ≠ none → b ≠ nx → t.get b ≠ none ∧ b < nx ∧ (m.at nx g kk h64).ρ b = m.ρ b ∧ m.ρ b < w.heap.size := fun b hb' hne => by
    rw [Tr.get_set, if_neg hne] at hb'
    have hlt := hr.below hb'
    exact ⟨hb', hlt, (m.at_agree nx g kk h64 b hlt).1, hr.lt hb'⟩
  refine ⟨m.at_agree nx g kk h64, ⟨fun b x hx => ?_, fun b b' h1 h2 he => ?_⟩, Nat.le_succ _, hb.size, fun c hc hl => hb.block c hc, fun b hlt hl => (hlive b hl (by omega)).1, fun b hge hl => ?_, hb.tape, hb.os, hb.output, Still.same (fun b hlt _ => .inl (by rw [Tr.get_set, if_neg (Nat.ne_of_lt hlt)])) (fun b _ hne _ => hb.block _ (hr.lt hne))⟩
  · by_cases e : b = nx
    · subst e
      rw [Tr.get_set, if_pos rfl] at hx
      cases hx
      rw [Inj.at_ρ]
      exact ⟨Nat.lt_succ_self _, hB⟩
    · obtain ⟨g1, g2, g3, g4⟩ := hlive b (by rw [hx]; simp) e
      rw [Tr.get_set, if_neg e] at hx
      rw [g3]
      exact ⟨Nat.lt_succ_of_lt g2, (h0.rel.blk b x hx).2.ext (m.at_agree nx g kk h64) (fun c hc => Nat.lt_succ_of_lt hc) g2⟩
  · by_cases e1 : b = nx <;> by_cases e2 : b' = nx
    · rw [e1, e2]
    · obtain ⟨_, _, g3, g4⟩ := hlive b' h2 e2
      rw [e1, Inj.at_ρ, g3] at he; omega
    · obtain ⟨_, _, g3, g4⟩ := hlive b h1 e1
      rw [e2, Inj.at_ρ, g3] at he; omega
    · obtain ⟨g1, _, g3, _⟩ := hlive b h1 e1
      obtain ⟨k1, _, k3, _⟩ := hlive b' h2 e2
      rw [g3, k3] at he
      exact hr.inj b b' g1 k1 he
  · by_cases e : b = nx
    · subst e; left; rw [Inj.at_ρ]; exact hg
    · exact absurd (hlive b hl e).2.1 (Nat.not_lt.2 hge)
end Go.X
end

section
/- The reckoner: what package-level variables hold at a call's start, as named memory. -/
namespace Go.X
open Go
variable {P : Program}

/-! ### Plain data as cells -/
def fieldsV {H : Type} (g : TypeId → DataW H → Option (List V)) (P : Program) : List Field → Nat → List (DataW H) → Option (List V)
  | [], _, [] => some []
  | f :: fs, off, d :: ds => if f.offset = off then (g f.type d).bind fun l => if l.length = P.cellsOf f.type then (fieldsV g P fs (off + l.length) ds).map fun r => l ++ r else none else none
  | _, _, _ => none
def elemsV {H : Type} (g : DataW H → Option (List V)) (c : Nat) : List (DataW H) → Option (List V)
  | [] => some []
  | d :: ds => (g d).bind fun l => if l.length = c then (elemsV g c ds).map fun r => l ++ r else none
noncomputable def datumV {H : Type} (P : Program) : Nat → TypeId → DataW H → Option (List V)
  | 0, _, _ => none
  | k + 1, t, d =>
    match P.underlying t, d with
    | some (.int q), .lit (.int q' n) => if q' = q then some [.int q n] else none
    | some .string, .lit (.string bs) => some [.str bs.length (packL bs)]
    | some (.struct fs), .agg ds => (fieldsV (datumV P k) P fs.toList 0 ds).bind fun l => if l.length = P.cellsOf t then some l else none
    | some (.array n e), .agg ds => if ds.length = n then (elemsV (datumV P k e) (P.cellsOf e) ds).bind fun l => if l.length = P.cellsOf t then some l else none else none
    | _, _ => none

/-- Cells that stand for a row of values, whatever the names. -/
def Plain (l : List V) (cs : List Value) : Prop := (∀ (m : Inj) (S : Nat → Prop), gamL m l = cs ∧ okL m S l) ∧ ∀ v ∈ l, isCell v = true
theorem Plain.nil : Plain [] [] := ⟨fun _ _ => ⟨rfl, trivial⟩, by simp⟩
theorem Plain.app {l r : List V} {cs ds : List Value} (h : Plain l cs) (k : Plain r ds) : Plain (l ++ r) (cs ++ ds) :=
  ⟨fun m S => ⟨by rw [gamL_append, (h.1 m S).1, (k.1 m S).1], okL_append.2 ⟨(h.1 m S).2, (k.1 m S).2⟩⟩, fun v hv => (List.mem_append.1 hv).elim (h.2 v) (k.2 v)⟩
theorem Plain.length {l : List V} {cs : List Value} (h : Plain l cs) : cs.length = l.length := by
  have := (h.1 ⟨fun g => g, fun _ => 0, fun _ _ => rfl⟩ (fun _ => True)).1
  rw [← this, gamL_length]

section
variable {H : Type} {enc : TypeId × Value → H} {w : World} {base : Nat} {spare : Nat → Bool} {held : Bool}

theorem fieldsV_ok {g : TypeId → DataW H → Option (List V)} {fuel : Nat} (hg : ∀ t d cs p l, DataW.trod enc P w base spare held fuel t cs = some (d, p) → g t d = some l → Plain l cs) (cs : List Value) :
    ∀ (fs : List Field) (off : Nat) (xs : List (DataW H × List MemPlace)) (l : List V), (∀ (i : Nat) (f : Field), fs[i]? = some f → DataW.trod enc P w base spare held fuel f.type ((cs.drop f.offset).take (P.cellsOf f.type)) = xs[i]?) →
      fieldsV g P fs off (xs.map (·.1)) = some l → Plain l ((cs.drop off).take l.length)
  | [], off, [], l, _, h => by
    have h : some [] = some l := h
    cases h
    exact Plain.nil
  | [], _, x :: xs, l, _, h => by cases h
  | f :: fs, _, [], l, _, h => by cases h
  | f :: fs, off, x :: xs, l, hx, h => by
    have h : (if f.offset = off then (g f.type x.1).bind fun l => if l.length = P.cellsOf f.type then (fieldsV g P fs (off + l.length) (xs.map (·.1))).map fun r => l ++ r else none else none) = some l := h
    split at h
    · rename_i hoff
      subst hoff
      obtain ⟨l1, h1, h⟩ := Option.bind_eq_some_iff.1 h
      split at h
      · rename_i hlen
        obtain ⟨r, h2, rfl⟩ := Option.map_eq_some_iff.1 h
        have hp := hg f.type x.1 _ x.2 l1 (hx 0 f rfl) h1
        have ih := fieldsV_ok hg cs fs (f.offset + l1.length) xs r (fun i f' hf => hx (i + 1) f' hf) h2
        have happ := hp.app ih
        have e : (cs.drop f.offset).take (l1 ++ r).length = (cs.drop f.offset).take (P.cellsOf f.type) ++ (cs.drop (f.offset + l1.length)).take r.length := by
          rw [List.length_append, ← hlen, List.take_add, List.drop_drop]
        rw [e]; exact happ
      · cases h
    · cases h

theorem elemsV_ok {g : DataW H → Option (List V)} {fuel : Nat} {e : TypeId} (hg : ∀ d cs p l, DataW.trod enc P w base spare held fuel e cs = some (d, p) → g d = some l → Plain l cs) (cs : List Value) :
    ∀ (k : Nat) (xs : List (DataW H × List MemPlace)) (l : List V), (∀ (i : Nat), i < xs.length → DataW.trod enc P w base spare held fuel e ((cs.drop ((k + i) * P.cellsOf e)).take (P.cellsOf e)) = xs[i]?) →
      elemsV g (P.cellsOf e) (xs.map (·.1)) = some l → Plain l ((cs.drop (k * P.cellsOf e)).take l.length)
  | k, [], l, _, h => by
    have h : some [] = some l := h
    cases h
    exact Plain.nil
  | k, x :: xs, l, hx, h => by
    have h : ((g x.1).bind fun l => if l.length = P.cellsOf e then (elemsV g (P.cellsOf e) (xs.map (·.1))).map fun r => l ++ r else none) = some l := h
    obtain ⟨l1, h1, h⟩ := Option.bind_eq_some_iff.1 h
    split at h
    · rename_i hlen
      obtain ⟨r, h2, rfl⟩ := Option.map_eq_some_iff.1 h
      have hp := hg x.1 _ x.2 l1 (by have := hx 0 (by simp); rw [this]; rfl) h1
      rw [Nat.add_zero] at hp
      have ih := elemsV_ok hg cs (k + 1) xs r (fun i hi => by
        have := hx (i + 1) (by simp; omega)
        rw [show k + 1 + i = k + (i + 1) by omega, this]; rfl) h2
      have happ := hp.app ih
      have e' : (cs.drop (k * P.cellsOf e)).take (l1 ++ r).length = (cs.drop (k * P.cellsOf e)).take (P.cellsOf e) ++ (cs.drop ((k + 1) * P.cellsOf e)).take r.length := by
        rw [List.length_append, ← hlen, List.take_add, List.drop_drop, hlen, Nat.succ_mul]
      rw [e']; exact happ
    · cases h

theorem datumV_ok : ∀ (k fuel : Nat) (t : TypeId) (d : DataW H) (cs : List Value) (p : List MemPlace) (l : List V), DataW.trod enc P w base spare held fuel t cs = some (d, p) → datumV P k t d = some l → Plain l cs
  | 0, _, _, _, _, _, _, _, h => by cases h
  | k + 1, fuel, t, d, cs, p, l, ht, h => by
    unfold datumV at h
    split at h
    · rename_i q q' n hu
      obtain ⟨a, rfl, hx, _⟩ := DataW.trod_int hu ht
      cases hx
      rw [if_pos rfl] at h
      cases h
      exact ⟨fun m S => ⟨rfl, trivial, trivial⟩, by simp [isCell]⟩
    · rename_i bs hu
      obtain ⟨s, rfl, hx, _⟩ := DataW.trod_string hu ht
      cases hx
      cases h
      exact ⟨fun m S => ⟨by simp only [gamL, gam]; rw [toBA_pack], trivial, trivial⟩, by simp [isCell]⟩
    · rename_i fs ds hu
      obtain ⟨xs, n, rfl, hx, hlen, hxl, hf⟩ := DataW.trod_struct hu ht
      cases hx
      obtain ⟨l1, h1, h⟩ := Option.bind_eq_some_iff.1 h
      split at h
      · rename_i hl
        cases h
        have := fieldsV_ok (fun t d cs p l => datumV_ok k n t d cs p l) cs fs.toList 0 xs l (fun i f hf' => hf i f (by simpa using hf')) h1
        rw [hl, ← hlen, List.drop_zero, List.take_length] at this
        exact this
      · cases h
    · rename_i n e ds hu
      obtain ⟨xs, fl, rfl, hx, hlen, hxl, hf⟩ := DataW.trod_array hu ht
      cases hx
      split at h
      · obtain ⟨l1, h1, h⟩ := Option.bind_eq_some_iff.1 h
        split at h
        · rename_i hl
          cases h
          have := elemsV_ok (fun d cs p l => datumV_ok k fl e d cs p l) cs 0 xs l (fun i hi => by rw [Nat.zero_add]; exact hf i (by omega)) h1
          rw [hl, ← hlen, Nat.zero_mul, List.drop_zero, List.take_length] at this
          exact this
        · cases h
      · cases h
    · cases h
end

/-! ### Maps from texts to numbers -/
noncomputable def entV {H : Type} : Lit × DataW H → Option (V × V)
  | (.string bs, .lit (.int q n)) => some (.str bs.length (packL bs), .int q n)
  | _ => none
theorem map_datum {H : Type} {enc : TypeId × Value → H} {w : World} {base : Nat} {spare : Nat → Bool} {held : Bool} {fuel : Nat} {t k e : TypeId} {kd : IntKind} {cs : List Value} {ents : List (Lit × DataW H)} {p : List MemPlace}
    (hu : P.underlying t = some (.map k e)) (hk : P.underlying k = some .string) (he : P.underlying e = some (.int kd)) (h : DataW.trod enc P w base spare held fuel t cs = some (.map ents, p)) {es : List (V × V)} (hes : ents.map entV = es.map some) (m : Inj) :
    ∃ (b : Nat) (ces : Array MapEntry) (cl : Nat), cs = [.map (some b)] ∧ w.heap[b]? = some (.map ces cl) ∧ (ces.toList.map fun e => (e.key, e.val)).Perm (es.map fun e => (gam m e.1, gam m e.2)) := by
  rcases Go.ChangeMaps.open_map hu hk he h with ⟨_, hx⟩ | ⟨b, ces, cl, hcs, hb, _, F, hx⟩
  · cases hx
  · refine ⟨b, ces, cl, hcs, hb, ?_⟩
    have hents : ents = (ces.toList.map (Go.ChangeMaps.rg H P k kd)).foldr DataW.insert [] := by cases hx; rfl
    have hperm : ents.Perm (ces.toList.map (Go.ChangeMaps.rg H P k kd)) := by rw [hents]; exact Go.WideShapes.sorted_perm _
    -- each entry, read
    have hone : ∀ x ∈ ces.toList, (entV (Go.ChangeMaps.rg H P k kd x)).map (fun e => (gam m e.1, gam m e.2)) = some (x.key, x.val) := fun x hx => by
      obtain ⟨y, hy⟩ := F.reads x hx
      rw [Go.ChangeMaps.rg_of hy]
      obtain ⟨s, hs, hy1, _⟩ := Go.ChangeMaps.rd_some hk hy
      unfold Go.ChangeMaps.rd at hy
      simp only [Option.bind_eq_some_iff, Option.map_eq_some_iff] at hy
      obtain ⟨key, _, d, hd, rfl⟩ := hy
      have hval : ∃ n, x.val = .int kd n ∧ d = .lit (.int kd n) := by
        unfold Go.ChangeMaps.rdv at hd
        split at hd <;> simp_all
      obtain ⟨n, hv, hdn⟩ := hval
      subst hdn
      simp only at hy1
      subst hy1
      simp only [entV, Option.map_some, gam]
      rw [toBA_pack, hs, hv]
    have h1 : (ents.map entV).Perm ((ces.toList.map (Go.ChangeMaps.rg H P k kd)).map entV) := hperm.map _
    rw [hes] at h1
    have h2 := h1.map (Option.map fun e : V × V => (gam m e.1, gam m e.2))
    rw [List.map_map, List.map_map, List.map_map] at h2
    have h3 : (ces.toList.map (((Option.map fun e : V × V => (gam m e.1, gam m e.2)) ∘ entV) ∘ Go.ChangeMaps.rg H P k kd)) = ces.toList.map fun x => some (x.key, x.val) := List.map_congr_left fun x hx => hone x hx
    rw [h3] at h2
    have h4 : (es.map ((Option.map fun e : V × V => (gam m e.1, gam m e.2)) ∘ some)) = (es.map fun e => (gam m e.1, gam m e.2)).map some := by rw [List.map_map]; rfl
    have h5 : (ces.toList.map fun x => some (x.key, x.val)) = (ces.toList.map fun x => (x.key, x.val)).map some := by rw [List.map_map]; rfl
    rw [h4, h5] at h2
    have h6 := h2.filterMap id
    rw [List.filterMap_map, List.filterMap_map] at h6
    simpa using h6.symm
end Go.X
end

section
/- The reckoner: what must come ahead of what. -/
namespace Go.X
open Go

theorem hasBit_iff (s i : Nat) : hasBit s i = s.testBit i := by
  unfold hasBit
  rw [Bool.eq_iff_iff]
  constructor
  · intro h
    have h : (s >>> i) % 2 = 1 := Nat.eq_of_beq_eq_true h
    rw [Nat.testBit, Nat.one_and_eq_mod_two, h]; rfl
  · intro h
    rw [Nat.testBit, Nat.one_and_eq_mod_two] at h
    have h' : (s >>> i) % 2 = 1 := by
      rcases Nat.mod_two_eq_zero_or_one (s >>> i) with h0 | h0
      · rw [h0] at h; cases h
      · exact h0
    show Nat.beq ((s >>> i) % 2) 1 = true
    rw [h']; rfl

theorem befOf_spec (acc : List Nat) : ∀ (es : List Edge) (j : Nat), hasBit (befOf acc es) j = true → ∃ e ∈ es, edgeB e = true ∧ (j = e.on ∨ ∃ s, acc[e.on]? = some s ∧ hasBit s j = true)
  | [], j, h => by
    rw [hasBit_iff] at h
    have : (0 : Nat).testBit j = true := h
    simp at this
  | e :: es, j, h => by
    have e0 : befOf acc (e :: es) = bel (edgeB e) (Nat.lor (Nat.lor (Nat.shiftLeft 1 e.on) (oel (nth acc e.on) (fun s => s) 0)) (befOf acc es)) (befOf acc es) := rfl
    rw [e0] at h
    cases hb : edgeB e with
    | false =>
      rw [hb, bel_false] at h
      obtain ⟨e', he', h'⟩ := befOf_spec acc es j h
      exact ⟨e', List.mem_cons_of_mem _ he', h'⟩
    | true =>
      rw [hb, bel_true, hasBit_iff] at h
      have h : ((1 <<< e.on ||| oel (nth acc e.on) (fun s => s) 0) ||| befOf acc es).testBit j = true := h
      rw [Nat.testBit_or, Nat.testBit_or, Bool.or_eq_true, Bool.or_eq_true] at h
      rcases h with (h | h) | h
      · refine ⟨e, List.mem_cons_self .., hb, .inl ?_⟩
        rw [Nat.testBit_shiftLeft] at h
        simp only [Bool.and_eq_true, decide_eq_true_eq] at h
        have h1 := h.2
        have : j - e.on = 0 := by
          rcases Nat.eq_zero_or_pos (j - e.on) with h0 | h0
          · exact h0
          · rw [Nat.testBit_one_eq_true_iff_self_eq_zero] at h1
            exact h1
        omega
      · refine ⟨e, List.mem_cons_self .., hb, .inr ?_⟩
        rw [nth_eq] at h
        cases hg : acc[e.on]? with
        | none => rw [hg] at h; simp at h
        | some s => rw [hg] at h; exact ⟨s, rfl, by rw [hasBit_iff]; exact h⟩
      · obtain ⟨e', he', h'⟩ := befOf_spec acc es j (by rw [hasBit_iff]; exact h)
        exact ⟨e', List.mem_cons_of_mem _ he', h'⟩

theorem befs_cons (o : Oper) (r : List Oper) (acc : List Nat) : befs (o :: r) acc = befs r (acc ++ [befOf acc o.after.toList]) := rfl
theorem befs_len : ∀ (l : List Oper) (acc : List Nat), (befs l acc).length = acc.length + l.length
  | [], acc => rfl
  | o :: l, acc => by rw [befs_cons, befs_len l]; simp; omega
theorem befs_acc : ∀ (l : List Oper) (acc : List Nat) (i : Nat), i < acc.length → (befs l acc)[i]? = acc[i]?
  | [], acc, i, _ => rfl
  | o :: l, acc, i, h => by
    rw [befs_cons, befs_acc l _ i (by simp; omega), List.getElem?_append_left h]
theorem befs_take (l : List Oper) (acc : List Nat) : (befs l acc).take acc.length = acc := by
  apply List.ext_getElem?
  intro j
  rw [List.getElem?_take]
  split
  · rename_i hj
    exact befs_acc l acc j hj
  · rename_i hj
    rw [List.getElem?_eq_none (by omega)]
theorem befs_get (l : List Oper) : ∀ (acc : List Nat) (i : Nat) (o : Oper), l[i]? = some o → (befs l acc)[acc.length + i]? = some (befOf ((befs l acc).take (acc.length + i)) o.after.toList) := by
  induction l with
  | nil => intro acc i o h; simp at h
  | cons o' l ih =>
    intro acc i o h
    rw [befs_cons]
    cases i with
    | zero =>
      have ho : o' = o := by simpa using h
      subst ho
      rw [Nat.add_zero, befs_acc l _ acc.length (by simp)]
      have h2 : (befs l (acc ++ [befOf acc o'.after.toList])).take acc.length = acc := by
        have h3 := befs_take l (acc ++ [befOf acc o'.after.toList])
        have h4 := congrArg (List.take acc.length) h3
        rw [List.take_take, List.take_append_of_le_length (Nat.le_refl _), List.take_length] at h4
        rwa [Nat.min_eq_left (by simp)] at h4
      rw [h2]
      simp
    | succ i =>
      have h' : l[i]? = some o := by simpa using h
      have := ih (acc ++ [befOf acc o'.after.toList]) i o h'
      rw [List.length_append, List.length_singleton] at this
      rw [show acc.length + (i + 1) = acc.length + 1 + i by omega]
      exact this

/-- A set of operations that holds what must come ahead of its own. -/
def ClosedL (ops : List Oper) (L : Nat → Prop) : Prop := ∀ i o, L i → ops[i]? = some o → ∀ e ∈ o.after, edgeB e = true → L e.on
/-- What the numbers say is so. -/
theorem bef_listed {ops : List Oper} {L : Nat → Prop} (hL : ClosedL ops L) : ∀ (i : Nat) (o : Oper) (s : Nat), ops[i]? = some o → (befs ops [])[i]? = some s → (∀ e ∈ o.after, edgeB e = true → L e.on) → ∀ j, hasBit s j = true → L j := by
  intro i
  induction i using Nat.strongRecOn with
  | _ i ih =>
    intro o s ho hs hdir j hj
    have hg := befs_get ops [] i o ho
    simp only [List.length_nil, Nat.zero_add] at hg
    rw [hg] at hs
    cases hs
    obtain ⟨e, he, hb, hc⟩ := befOf_spec _ _ j hj
    have he' : e ∈ o.after := Array.mem_toList_iff.1 he
    rcases hc with rfl | ⟨s', hs', hj'⟩
    · exact hdir e he' hb
    · rw [List.getElem?_take] at hs'
      split at hs'
      · rename_i hlt
        have hLe := hdir e he' hb
        cases ho' : ops[e.on]? with
        | none =>
          have h1 := (List.getElem?_eq_some_iff.1 hs').1
          rw [befs_len] at h1
          have h2 : ops.length ≤ e.on := by
            rcases Nat.lt_or_ge e.on ops.length with h3 | h3
            · rw [List.getElem?_eq_getElem h3] at ho'; cases ho'
            · exact h3
          simp at h1
          omega
        | some o' => exact ih e.on hlt o' s' ho' hs' (fun e2 h2 b2 => hL e.on o' hLe ho' e2 h2 b2) j hj'
      · cases hs'

/-! ### Items -/
theorem items_get (P : Program) : ∀ (bs : List Nat) (l : List Oper) (q i : Nat) (x : Item), (items P bs l q)[i]? = some x → ∃ o b, l[i]? = some o ∧ bs[i]? = some b ∧ x = ⟨q + i, o, b, clOf P o.op⟩
  | [], [], q, i, x, h => by simp [items] at h
  | [], o :: l, q, i, x, h => by simp [items] at h
  | b :: bs, [], q, i, x, h => by simp [items] at h
  | b :: bs, o :: l, q, 0, x, h => by
    simp [items] at h
    exact ⟨o, b, rfl, rfl, h.symm⟩
  | b :: bs, o :: l, q, i + 1, x, h => by
    have h : (items P bs l (q + 1))[i]? = some x := h
    obtain ⟨o', b', h1, h2, h3⟩ := items_get P bs l (q + 1) i x h
    exact ⟨o', b', h1, h2, by rw [h3]; congr 1; omega⟩
theorem items_len (P : Program) : ∀ (bs : List Nat) (l : List Oper) (q : Nat), bs.length = l.length → (items P bs l q).length = l.length
  | [], [], q, _ => rfl
  | b :: bs, o :: l, q, h => by
    show (items P bs l (q + 1)).length + 1 = _
    rw [items_len P bs l (q + 1) (by simpa using h)]; rfl
  | [], o :: l, q, h => by simp at h
  | b :: bs, [], q, h => by simp at h
end Go.X
end

section
/- The reckoner: drawn regions: what each operation is. -/
namespace Go.X
open Go
variable {P : Program} {s : CallT} {o : Oper} {k : K} {tm : Env} {d : Dx} {t : Hp} {nx : Nat}

theorem conv_cl {st dt : TypeId} {x : Operand} : clOf P (.convert st dt x) = bel (andB (isBytes P st) (isStr (und P dt))) .r (bel (andB (isStr (und P st)) (isBytes P dt)) .a .p) := rfl

theorem p_ok (hc : clOf P o.op = .p) (h : disp o.op P s o k tm d t nx ≠ .fail) : ∃ v, PureOK P o tm v ∧ disp o.op P s o k tm d t nx = done o v k tm d t nx := by
  cases hop : o.op with
  | move x => rw [hop] at h; exact doMove_ok (s := s) (.inl hop) h
  | assign x => rw [hop] at h; exact doMove_ok (s := s) (.inr hop) h
  | pick c a b => rw [hop] at h; exact doPick_ok (s := s) hop h
  | build e ps => rw [hop] at h; exact doBuild_ok (s := s) hop h
  | nilCheck x => rw [hop] at h; exact doNil_ok (s := s) hop h
  | binOp op ty x y yt => rw [hop] at h; exact doBin_ok (s := s) hop h
  | unOp op ty x => rw [hop] at h; exact doUn_ok (s := s) hop h
  | convert st dt x =>
    rw [hop] at h hc
    rw [conv_cl] at hc
    cases h1 : andB (isBytes P st) (isStr (und P dt)) with
    | true => rw [h1] at hc; cases hc
    | false =>
      rw [h1, bel_false] at hc
      cases h2 : andB (isStr (und P st)) (isBytes P dt) with
      | true => rw [h2] at hc; cases hc
      | false =>
        cases hb : isBytes P st with
        | true =>
          rw [hb] at h1
          have hs : isStr (und P dt) = false := h1
          have h' : doConv st dt x P s o k tm d t nx ≠ .fail := h
          unfold doConv at h'
          rw [hb, bel_true, hs] at h'
          exact absurd rfl h'
        | false => exact doConv_pure (s := s) hop hb h2 h
  | makeInterface ty x => rw [hop] at h; exact doIface_ok (s := s) hop h
  | makeFunc f a c => rw [hop] at h; exact doFunc_ok (s := s) hop h
  | slice ty x lo hi mx => rw [hop] at h; exact doSlice_ok (s := s) hop h
  | fieldAddr ty x i => rw [hop] at h; exact doFieldAddr_ok (s := s) hop h
  | field ty x i => rw [hop] at h; exact doField_ok (s := s) hop h
  | indexAddr ty x i => rw [hop] at h; exact doIndexAddr_ok (s := s) hop h
  | index ty x i => rw [hop] at h; exact doIndex_ok (s := s) hop h
  | typeAssert x xt ty ok => rw [hop] at h; exact doAssert_ok (s := s) hop h
  | extract x i => rw [hop] at h; exact doExtract_ok (s := s) hop h
  | call c =>
    obtain ⟨callee, args, tys⟩ := c
    rw [hop] at h hc
    cases callee with
    | value x => cases hc
    | invoke r m => cases hc
    | builtin b =>
      cases b with
      | max => exact doMax_ok (s := s) hop h
      | min => exact doMin_ok (s := s) hop h
      | _ => cases hc
  | _ => rw [hop] at hc; cases hc

theorem a_ok (hc : clOf P o.op = .a) (h : disp o.op P s o k tm d t nx ≠ .fail) : ∃ blk val, AllocOK P o tm blk val ∧ disp o.op P s o k tm d t nx = newK t nx blk fun t nx' => done o (val nx) k tm d t nx' := by
  cases hop : o.op with
  | alloc e => rw [hop] at h; exact doAlloc_ok (s := s) hop h
  | box e x => rw [hop] at h; exact doBox_ok (s := s) hop h
  | buildSlice e n ps => rw [hop] at h; exact doBuildSlice_ok (s := s) hop h
  | makeMap ty r => rw [hop] at h; exact doMakeMap_ok (s := s) hop h
  | makeSlice ty a b => rw [hop] at h; exact doMakeSlice_ok (s := s) hop h
  | convert st dt x =>
    rw [hop] at h hc
    rw [conv_cl] at hc
    cases h1 : andB (isBytes P st) (isStr (und P dt)) with
    | true => rw [h1] at hc; cases hc
    | false =>
      rw [h1, bel_false] at hc
      cases h2 : andB (isStr (und P st)) (isBytes P dt) with
      | false => rw [h2] at hc; cases hc
      | true =>
        simp only [andB_eq, Bool.and_eq_true] at h2
        have hdn : isStr (und P dt) = false := by
          obtain ⟨q, _, hu, _⟩ := isBytes_some h2.2
          have : und P dt = .slice q.1 := by unfold und; rw [hu]; rfl
          rw [this]; rfl
        have hbn : isBytes P st = false := by
          cases hb : isBytes P st with
          | false => rfl
          | true =>
            obtain ⟨q, _, hu, _⟩ := isBytes_some hb
            rw [isStr_und h2.1] at hu; cases hu
        have h' : doConv st dt x P s o k tm d t nx ≠ .fail := h
        change ∃ blk val, AllocOK P o tm blk val ∧ doConv st dt x P s o k tm d t nx = _
        unfold doConv at h' ⊢
        rw [hbn, bel_false] at h' ⊢
        obtain ⟨v, hv, e⟩ := ev_fail h'
        rw [e] at h' ⊢; clear e
        obtain ⟨e, _⟩ := someD_fail h'
        rw [e] at h' ⊢; clear e
        cases v with
        | str l n =>
          simp only [onInt_str, onStr_str] at h' ⊢
          rw [hdn, bel_false, h2.1, bel_true, h2.2, bel_true] at h' ⊢
          exact doToBytes_ok hop hv (isStr_und h2.1) h2.2 h'
        | int kk n =>
          simp only [onInt_int] at h'
          obtain ⟨k', hk, e⟩ := oel_fail h'
          have hd := intOf_some hk
          obtain ⟨_, _, hu, _⟩ := isBytes_some h2.2
          rw [und_some hd (by simp)] at hu
          cases hu
        | _ => exact absurd rfl h'
  | call c =>
    obtain ⟨callee, args, tys⟩ := c
    rw [hop] at hc
    cases callee with
    | builtin b => cases b <;> cases hc
    | _ => cases hc
  | _ => rw [hop] at hc; cases hc

theorem r_ok (hc : clOf P o.op = .r) {v : V} (h : opR P o.op tm t = some v) : ReadOK P o tm t v := by
  cases hop : o.op with
  | load ty a => rw [hop] at h; exact rdLoad_ok hop h
  | lookup ty m x ok => rw [hop] at h; exact rdLookup_ok hop h
  | convert st dt x =>
    rw [hop] at h hc
    rw [conv_cl] at hc
    cases h1 : andB (isBytes P st) (isStr (und P dt)) with
    | true =>
      simp only [andB_eq, Bool.and_eq_true] at h1
      exact rdBytes_ok hop h1.1 h1.2 h
    | false =>
      rw [h1, bel_false] at hc
      cases h2 : andB (isStr (und P st)) (isBytes P dt) <;> rw [h2] at hc <;> cases hc
  | call c =>
    obtain ⟨callee, args, tys⟩ := c
    rw [hop] at h hc
    cases callee with
    | builtin b =>
      cases b with
      | len => exact rdLen_ok hop h
      | _ => cases hc
    | _ => cases hc
  | _ => rw [hop] at hc; cases hc
end Go.X
end
