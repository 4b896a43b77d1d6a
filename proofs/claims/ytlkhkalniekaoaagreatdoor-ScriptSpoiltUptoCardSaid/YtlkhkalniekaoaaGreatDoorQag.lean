/- Parts of the proof: XSemV, XSemW, XSemX, XSemY. -/
import Derived.Scope
import Derived.LoopN
import Derived.Defers
import Derived.Test.YtlkhkalniekaoaaGreatDoorQaf

set_option linter.unusedVariables false
set_option linter.unusedSimpArgs false

section
/- The reckoner: append. -/
namespace Go.X
open Go
variable {P : Program} {s : CallT} {o : Oper} {k : K} {tm : Env} {d : Dx} {t : Hp} {nx : Nat}

/-- What 'append' is about. -/
structure App (P : Program) (tys : Array TypeId) (args : Array Value) (e sz : Nat) (i : TypeInfo) (z : Value) (base : Option Addr) (sLen sCap n : Nat) (Y : Value) : Prop where
  ty : ∃ t, tys[0]? = some t ∧ P.underlying t = some (.slice e)
  ty2 : ∃ t dd, tys[1]? = some t ∧ P.underlying t = some dd ∧ ∀ k, dd ≠ .int k
  a0 : args[0]? = some (.slice base sLen sCap)
  a1 : args[1]? = some Y
  info : P.info? e = some i
  size : i.size = sz
  zero : ∀ w, (zeroValue e).run P w = .ok z w
  bytes : i.bytes ≤ 65536
  ylen : ∀ w, (Builtin.lenOf Y).run P w = .ok n w

theorem noint_match {dd : TypeDesc} (h : ∀ k, dd ≠ .int k) : (match dd with | .int _ => true | _ => false) = false := by
  cases dd <;> first | rfl | exact absurd rfl (h _)

theorem run_append_fits {tys : Array TypeId} {args : Array Value} {e sz : Nat} {i : TypeInfo} {z : Value} {a : Addr} {sLen sCap n : Nat} {Y : Value} (h : App P tys args e sz i z (some a) sLen sCap n Y) (rt : TypeId)
    (w : World) (hfit : sLen + n ≤ sCap) {new : Array Value} (hn : (Builtin.firstCells sz n Y).run P w = .ok new w) :
    (Builtin.append_ tys rt args).run P w = ((storeCells (a.add (sLen * sz)) new.toList).run P w).andThen fun _ w' => .ok (.slice (some a) (sLen + n) sCap) w' := by
  obtain ⟨t, h1, h2⟩ := h.ty
  obtain ⟨t2, dd, h3, h4, h5⟩ := h.ty2
  unfold Builtin.append_
  simp only [h1, h.a0, h.a1, Sem.run_bind, run_underlying h2, Result.andThen_ok, run_sizeOf' h.info, h3, run_underlying h4, Sem.run_pure, noint_match h5, Bool.false_eq_true, if_false, h.ylen, Bool.not_false, if_true, if_pos hfit, h.size, hn]

theorem run_append_fits_none {tys : Array TypeId} {args : Array Value} {e sz : Nat} {i : TypeInfo} {z : Value} {sLen sCap n : Nat} {Y : Value} (h : App P tys args e sz i z none sLen sCap n Y) (rt : TypeId)
    (w : World) (hfit : sLen + n ≤ sCap) {new : Array Value} (hn : (Builtin.firstCells sz n Y).run P w = .ok new w) :
    (Builtin.append_ tys rt args).run P w = .ok (.slice none (sLen + n) sCap) w := by
  obtain ⟨t, h1, h2⟩ := h.ty
  obtain ⟨t2, dd, h3, h4, h5⟩ := h.ty2
  unfold Builtin.append_
  simp only [h1, h.a0, h.a1, Sem.run_bind, run_underlying h2, Result.andThen_ok, run_sizeOf' h.info, h3, run_underlying h4, Sem.run_pure, noint_match h5, Bool.false_eq_true, if_false, h.ylen, Bool.not_false, if_true, if_pos hfit, h.size, hn]

theorem run_append_grows {tys : Array TypeId} {args : Array Value} {e sz : Nat} {i : TypeInfo} {z : Value} {base : Option Addr} {sLen sCap n : Nat} {Y : Value} (h : App P tys args e sz i z base sLen sCap n Y) (rt : TypeId)
    (w : World) (hno : ¬ sLen + n ≤ sCap) (hle : sLen + n ≤ 1048576) {old new : Array Value} (ho : (Builtin.firstCells sz sLen (.slice base sLen sCap)).run P w.drew = .ok old w.drew) (hn : (Builtin.firstCells sz n Y).run P w.drew = .ok new w.drew) :
    ∃ cap cs, sLen + n ≤ cap ∧ (Builtin.append_ tys rt args).run P w = .ok (.slice (some ⟨w.heap.size, 0, none⟩) (sLen + n) cap) (w.drew.alloc (.cells cs e)) ∧
      cs = old ++ new ++ Builtin.zeroCells z.cells (cap - (sLen + n)) := by
  obtain ⟨t, h1, h2⟩ := h.ty
  obtain ⟨t2, dd, h3, h4, h5⟩ := h.ty2
  refine ⟨grownCap w (sLen + n) sCap e, _, Nat.le_add_right _ _, ?_, rfl⟩
  have hmax : IntKind.i64.max = 9223372036854775807 := by decide
  have c1 : ¬ (((sLen + n : Nat) : Int) > IntKind.i64.max ∧ (false = true ∨ i.bytes = 0)) := by rw [hmax]; omega
  have c2 : ¬ (Builtin.nextslicecap (sLen + n) sCap * i.bytes > 2 ^ 48) := by
    have g1 := nextslicecap_le (need := sLen + n) (old := sCap) (by omega)
    have g2 : Builtin.nextslicecap (sLen + n) sCap * i.bytes ≤ 2097152 * 65536 := Nat.mul_le_mul (by omega) h.bytes
    omega
  unfold Builtin.append_
  simp only [h1, h.a0, h.a1, Sem.run_bind, run_underlying h2, Result.andThen_ok, run_sizeOf' h.info, h3, run_underlying h4, Sem.run_pure, noint_match h5, Bool.false_eq_true, if_false, h.ylen, Bool.not_false, if_true, if_neg hno,
    run_typeInfo w h.info, Sem.run_ite, c1, c2, h.size]
  have hnf : (Question.appendCap (sLen + n) sCap e).forced = false := rfl
  simp only [run_choose, hnf, Bool.false_eq_true, if_false, Result.andThen_ok, World.drew_eq, run_typeInfo w.drew h.info, run_askRoom, ho, hn, h.zero, run_newRow]
  rw [if_neg (by rw [hmax]; omega)]
  rfl

theorem rowOk_some {ty : TypeId} {q : Nat} (h : rowOk P ty q = true) : 0 < q ∧ (∀ i, P.info? ty = some i → i.bytes ≤ 65536) ∧ ∃ z l, zeroV P ty = some z ∧ cellsOf z = some l ∧ l.length = q := by
  unfold rowOk at h
  cases h0 : Nat.beq q 0 with
  | true => rw [h0] at h; cases h
  | false =>
    rw [h0, bel_false] at h
    cases hb : bytesOk P ty with
    | false => rw [hb] at h; cases h
    | true =>
      rw [hb, bel_true] at h
      cases hz : zeroV P ty with
      | none => rw [hz] at h; cases h
      | some z =>
        rw [hz, oel_some] at h
        cases hc : cellsOf z with
        | none => rw [hc] at h; cases h
        | some l =>
          rw [hc] at h
          refine ⟨?_, fun i hi => bytesOk_some hb hi, z, l, rfl, hc, beqN_true h⟩
          rcases Nat.eq_zero_or_pos q with e | e
          · rw [e] at h0; cases h0
          · exact e

theorem drew_pushed (w : World) (obj : Obj) : Pushed w (w.drew.alloc obj) obj := ⟨rfl, rfl, rfl, rfl⟩

theorem Rel.congr {m : Inj} {t t' : Hp} {nx : Nat} {w : World} (h : ∀ c, t'.get c = t.get c) (hr : Rel m t nx w) : Rel m t' nx w :=
  ⟨fun b x hb => hr.blk b x (by rw [← h]; exact hb), fun b b' h1 h2 => hr.inj b b' (by rw [← h]; exact h1) (by rw [← h]; exact h2)⟩
theorem Goes.congr {m m' : Inj} {t t' t'' : Hp} {nx nx' : Nat} {w w' : World} (h : ∀ c, t''.get c = t'.get c) (hg : Goes m t nx w m' t' nx' w') : Goes m t nx w m' t'' nx' w' :=
  ⟨hg.agree, hg.rel.congr h, hg.up, hg.size, hg.keep, fun b hb hl => hg.live b hb (by rw [← h]; exact hl), fun b hb hl => hg.fresh b hb (by rw [← h]; exact hl), hg.tape, hg.os, hg.output, hg.still.heap (fun b _ => .inl (h b))⟩
theorem Goes.kill {m m' : Inj} {t t' : Hp} {nx nx' : Nat} {w w' : World} (hg : Goes m t nx w m' t' nx' w') (b : Nat) : Goes m t nx w m' (t'.set b none) nx' w' := by
  have key : ∀ c, (t'.set b none).get c ≠ none → t'.get c ≠ none := fun c hc => by
    by_cases e : c = b
    · rw [e, Tr.get_set_self] at hc; exact absurd rfl hc
    · rwa [Tr.get_set_other _ _ e] at hc
  refine ⟨hg.agree, ⟨fun c x hc => ?_, fun c c' h1 h2 => hg.rel.inj c c' (key c h1) (key c' h2)⟩, hg.up, hg.size, hg.keep, fun c hb hl => hg.live c hb (key c hl), fun c hb hl => hg.fresh c hb (key c hl), hg.tape, hg.os, hg.output, hg.still.heap (fun c _ => by
    by_cases e : c = b
    · rw [e]; exact .inr (Tr.get_set_self ..)
    · exact .inl (Tr.get_set_other _ _ e))⟩
  by_cases e : c = b
  · rw [e, Tr.get_set_self] at hc; cases hc
  · rw [Tr.get_set_other _ _ e] at hc; exact hg.rel.blk c x hc

/-- A block under another name. -/
theorem Goes.rename {m : Inj} {t t1 : Hp} {nx b : Nat} {w w' : World} {x : Blk} (h64 : 64 ≤ nx) (hg : Goes m t nx w m t1 nx w') (hb : t1.get b = some x) (hcells : ∃ ty ch n fz els, x = .cells ty ch n fz els) :
    Goes m t nx w (m.at nx (m.ρ b) (m.κ b) h64) ((t1.set b none).set nx (some x)) (nx + 1) w' := by
  have hbl := (hg.rel.blk b x hb).1
  have hagree := m.at_agree nx (m.ρ b) (m.κ b) h64
  have key : ∀ c, ((t1.set b none).set nx (some x)).get c ≠ none → c ≠ nx → c ≠ b ∧ t1.get c ≠ none := fun c hc hne => by
    rw [Tr.get_set_other _ _ hne] at hc
    by_cases e : c = b
    · rw [e, Tr.get_set_self] at hc; exact absurd rfl hc
    · rw [Tr.get_set_other _ _ e] at hc; exact ⟨e, hc⟩
  have hbne : t1.get b ≠ none := by rw [hb]; simp
  refine ⟨hagree, ⟨fun c y hc => ?_, fun c c' h1 h2 he => ?_⟩, Nat.le_succ _, hg.size, hg.keep, fun c hc hl => ?_, fun c hc hl => ?_, hg.tape, hg.os, hg.output, hg.still.heap (fun c hc => by
    rw [Tr.get_set_other _ _ (Nat.ne_of_lt hc)]
    by_cases e : c = b
    · rw [e]; exact .inr (Tr.get_set_self ..)
    · exact .inl (Tr.get_set_other _ _ e))⟩
  · by_cases e : c = nx
    · subst e
      rw [Tr.get_set_self] at hc
      cases hc
      refine ⟨Nat.lt_succ_self _, ?_⟩
      rw [Inj.at_ρ]
      have h0 := (hg.rel.blk b x hb).2
      obtain ⟨ty, ch, n, fz, els, rfl⟩ := hcells
      obtain ⟨cs, fr, ho, hch, hk, hs, hcl, hf⟩ := h0
      refine ⟨cs, fr, ho, hch, by rw [Inj.at_κ]; exact hk, by rw [Inj.at_κ]; exact hs, fun off v hv => ?_, hf⟩
      obtain ⟨g1, g2, g3⟩ := hcl off v hv
      exact ⟨by rw [gam_ext hagree v g2]; exact g1, okV_ext hagree (Lt.mono (Nat.le_succ _)) v g2, g3⟩
    · obtain ⟨hcb, hcn⟩ := key c (by rw [hc]; simp) e
      rw [Tr.get_set_other _ _ e, Tr.get_set_other _ _ hcb] at hc
      obtain ⟨h1, h2⟩ := hg.rel.blk c y hc
      refine ⟨Nat.lt_succ_of_lt h1, ?_⟩
      rw [(hagree c h1).1]
      exact h2.ext hagree (Lt.mono (Nat.le_succ _)) h1
  · by_cases e1 : c = nx <;> by_cases e2 : c' = nx
    · rw [e1, e2]
    · obtain ⟨hcb, hcn⟩ := key c' h2 e2
      rw [e1, Inj.at_ρ, (hagree c' (hg.rel.below hcn)).1] at he
      exact absurd (hg.rel.inj b c' hbne hcn he).symm hcb
    · obtain ⟨hcb, hcn⟩ := key c h1 e1
      rw [e2, Inj.at_ρ, (hagree c (hg.rel.below hcn)).1] at he
      exact absurd (hg.rel.inj c b hcn hbne he) hcb
    · obtain ⟨_, hcn⟩ := key c h1 e1
      obtain ⟨_, hcn'⟩ := key c' h2 e2
      rw [(hagree c (hg.rel.below hcn)).1, (hagree c' (hg.rel.below hcn')).1] at he
      exact hg.rel.inj c c' hcn hcn' he
  · have hne : c ≠ nx := Nat.ne_of_lt hc
    exact hg.live c hc (key c hl hne).2
  · by_cases e : c = nx
    · subst e
      right
      exact ⟨b, hg.live b hbl hbne, by rw [Inj.at_ρ]⟩
    · have := hg.rel.below (key c hl e).2
      exact absurd this (Nat.not_lt.2 hc)

/-- A row that has grown. -/
theorem moved_row {e sz bn fz len n : Nat} {els : Tr (List V)} {new : List V} {m : Inj} {S : Nat → Prop} {b b' : Nat} {cs cs' : Array Value} {fr fr' : Nat × Nat}
    (hx : BlkR m S b (.cells e sz bn fz els) (some (.cells cs e fr))) (hlen : len ≤ bn) (hn : new.length = n * sz) (hok : okL m S new) (hc : ∀ v ∈ new, isCell v = true)
    (hold : ∀ j, j < len * sz → cs'[j]? = cs[j]?) (hnew : ∀ (j : Nat) (v : V), new[j]? = some v → cs'[len * sz + j]? = some (gam m v))
    (hk : len + n ≤ m.κ b') (hks : m.κ b' * sz ≤ cs'.size) (hf : ∀ off, fz ≤ off → off < cs'.size → ¬ (fr'.1 ≤ off ∧ off < fr'.2)) :
    BlkR m S b' (.cells e sz (len + n) fz (wm sz n els len new)) (some (.cells cs' e fr')) := by
  obtain ⟨cs0, fr0, h0, hch, hbk, hbs, hcl, hfr⟩ := hx
  cases h0
  refine ⟨cs', fr', rfl, hch, hk, hks, fun off v hv => ?_, hf⟩
  unfold cellAt at hv
  split at hv
  · rename_i hlt
    rw [wm_get] at hv
    have hd := Nat.div_add_mod off sz
    have hm := Nat.mod_lt off hch
    split at hv
    · rename_i hr
      simp only [Option.bind_some] at hv
      rw [List.getElem?_take, if_pos hm, List.getElem?_drop] at hv
      have e1 : len * sz + ((off / sz - len) * sz + off % sz) = off := by
        rw [Nat.sub_mul, Nat.mul_comm (off / sz), Nat.mul_comm len]
        have : sz * len ≤ sz * (off / sz) := Nat.mul_le_mul_left _ hr.1
        omega
      have := hnew _ v hv
      rw [e1] at this
      exact ⟨this, okL_get hok hv, hc v (List.mem_of_getElem? hv)⟩
    · rename_i hr
      have hlt' : off / sz < len := by omega
      have hoff : off < len * sz := by rw [← Nat.div_lt_iff_lt_mul hch]; exact hlt'
      obtain ⟨g1, g2, g3⟩ := hcl off v (by unfold cellAt; rw [if_pos (by omega)]; exact hv)
      exact ⟨by rw [hold off hoff]; exact g1, g2, g3⟩
  · cases hv

theorem zeroCells_size (z : Array Value) (n : Nat) : (Builtin.zeroCells z n).size = n * z.size := by simp [Builtin.zeroCells]

/-- A grown row. -/
theorem grown_row {e sz : Nat} {l : List V} {m : Inj} {S : Nat → Prop} {nx r : Nat} (h64 : 64 ≤ nx) (hS : ¬ S nx) (hok : okL m S l) (hc : ∀ v ∈ l, isCell v = true) (hsz : 0 < sz) {need cap : Nat} (hl : l.length = need * sz) (hcap : need ≤ cap)
    {cs : Array Value} (hcs : ∀ (j : Nat) (v : V), l[j]? = some v → cs[j]? = some (gam m v)) (hsize : cs.size = cap * sz) :
    BlkR (m.at nx r cap h64) (fun b => S b ∨ b = nx) nx (rowB sz e l) (some (.cells cs e)) := by
  have h2 := okL_ext (m.at_agree' nx r cap h64 hS) (n' := fun b => S b ∨ b = nx) (fun _ hb => Or.inl hb) l hok
  have hnz : Nat.beq sz 0 = false := by rw [beqN, decide_eq_false (by omega)]
  refine rowB_blk (fun j v hj => ?_) h2 hc ?_ ?_ (by simp)
  · rw [hcs j v hj, gam_ext (m.at_agree' nx r cap h64 hS) v (okL_get hok hj)]
  · rw [Inj.at_κ, hl, Nat.mul_div_cancel _ hsz]; exact hcap
  · rw [hnz, Inj.at_κ, hsize]; exact Nat.le_refl _

theorem gamL_getA {m : Inj} {l : List V} {extra : Array Value} {j : Nat} {v : V} (h : l[j]? = some v) : ((gamL m l).toArray ++ extra)[j]? = some (gam m v) := by
  have hlt := (List.getElem?_eq_some_iff.1 h).1
  rw [Array.getElem?_append_left (by simpa using hlt)]
  exact gamL_arr h

theorem okL_app {m : Inj} {S : Nat → Prop} {l r : List V} (h : okL m S l) (h' : okL m S r) : okL m S (l ++ r) := okL_append.2 ⟨h, h'⟩
theorem isCell_app {l r : List V} (h : ∀ v ∈ l, isCell v = true) (h' : ∀ v ∈ r, isCell v = true) : ∀ v ∈ l ++ r, isCell v = true := fun v hv => by
  rcases List.mem_append.1 hv with hv | hv
  · exact h v hv
  · exact h' v hv

set_option maxHeartbeats 1000000 in
theorem doAppend_ok {args : Array Operand} {tys : Array TypeId} (ho : o.op = .call ⟨.builtin .append, args, tys⟩) (h : doAppend args tys P s o k tm d t nx ≠ .fail) :
    ∃ v t' nx', doAppend args tys P s o k tm d t nx = done o v k tm d t' nx' ∧ EffOK P o tm t nx v t' nx' := by
  unfold doAppend at h ⊢
  obtain ⟨x, r, hxr, e⟩ := onList_fail h; rw [e] at h ⊢; clear e
  obtain ⟨y, r', hyr, e⟩ := onList_fail h; rw [e] at h ⊢; clear e
  obtain ⟨ty, rt, hty, e⟩ := onList_fail h; rw [e] at h ⊢; clear e
  obtain ⟨ty2, rt', hty2, e⟩ := onList_fail h; rw [e] at h ⊢; clear e
  subst hyr; subst hty2
  obtain ⟨e, hn1, hn2⟩ := nointD_fail h; rw [e] at h ⊢; clear e
  (obtain ⟨e, he, eqzz⟩ := oel_fail h; rw [eqzz] at h ⊢; clear eqzz; try dsimp only at h ⊢)
  (obtain ⟨hrow, eqzz⟩ := bel_fail h; rw [eqzz] at h ⊢; clear eqzz)
  (obtain ⟨vx, hvx, eqzz⟩ := ev_fail h; rw [eqzz] at h ⊢; clear eqzz; try dsimp only at h ⊢)
  (obtain ⟨vy, hvy, eqzz⟩ := ev_fail h; rw [eqzz] at h ⊢; clear eqzz; try dsimp only at h ⊢)
  obtain ⟨new, n, e', hsrc⟩ := srcCells_fail (P := P) (nx := nx) h
  rw [e'] at h ⊢; clear e'
  obtain ⟨hu, info, hi, hsz⟩ := slElem_some he
  obtain ⟨hpos, hbytes, z, zl, hz, hzl, hzlen⟩ := rowOk_some hrow
  obtain ⟨a0, a1⟩ := arr2 hxr
  obtain ⟨t0, t1⟩ := arr2 hty
  -- in any world: what the model's 'append' is about
  have app : ∀ (m : Inj) (w : World) (ρ : Operand → Value), Rel m t nx w → OpsR m (Lt nx) tm o ρ → ∀ base sLen sCap, gam m vx = .slice base sLen sCap →
      App P tys (args.map ρ) e.1 e.2 info (gam m z) base sLen sCap n (gam m vy) ∧ okV m (Lt nx) vx ∧ (gam m z).cells.size = e.2 := fun m w ρ hr hops base sLen sCap hb => by
    have hx := hops x (call_args ho (by rw [hxr]; simp)) _ hvx
    have hy := hops y (call_args ho (by rw [hxr]; simp)) _ hvy
    obtain ⟨hzr, hzo⟩ := zeroV_some hz m (Lt nx)
    refine ⟨⟨⟨ty, t0, hu⟩, ⟨ty2, _, t1, und_some rfl hn1, hn2⟩, ?_, ?_, hi, hsz, hzr, hbytes info hi, (hsrc m w hr).len⟩, hx.2, ?_⟩
    · rw [Array.getElem?_map, a0]; simp [hx.1, hb]
    · rw [Array.getElem?_map, a1]; simp [hy.1]
    · rw [(cellsOf_gam hzl hzo).1]; simp [hzlen]
  -- what it yields, as the model has it
  have fin : ∀ (m m' : Inj) (w w' : World) (ρ : Operand → Value) (v : V), (Builtin.append_ tys o.type (args.map ρ)).run P w = .ok (gam m' v) w' → (execOp ρ o).run P w = .ok (.value (gam m' v)) w' := fun m m' w w' ρ v hrun => by
    rw [run_builtin ho]
    simp only [builtin, Sem.run_bind, hrun, Result.andThen_ok, Sem.run_pure]
  have srcD : ∀ (m : Inj) (w : World), Rel m t nx w → Src P e.2 m nx w.drew (gam m vy) new n := fun m w hr => hsrc m w.drew ⟨hr.blk, hr.inj⟩
  unfold appTo at h ⊢
  cases vx with
  | nils =>
    simp only [onSl_nils] at h ⊢
    cases hb : Nat.beq n 0 with
    | true =>
      rw [hb, bel_true] at h
      rw [bel_true]
      have hn0 := beqN_true hb
      refine ⟨_, _, _, rfl, fun m w ρ h64 hr hops => ?_⟩
      obtain ⟨ha, _, _⟩ := app m w ρ hr hops none 0 0 rfl
      have hc := (hsrc m w hr).cells n (Nat.le_refl _)
      refine ⟨m, w, _, fin m m w w ρ .nils ?_, .inl rfl, Goes.refl hr, trivial⟩
      rw [run_append_fits_none ha o.type w (by omega) hc, hn0]
      rfl
    | false =>
      rw [hb, bel_false] at h
      rw [bel_false]
      (obtain ⟨hle, eqzz⟩ := bel_fail h; rw [eqzz] at h ⊢; clear eqzz)
      have hle' : n ≤ 1048576 := bleN_true hle
      have hn0 : n ≠ 0 := fun e0 => by rw [beqN, decide_eq_true e0] at hb; cases hb
      rw [mkRow_eq, newK_eq]
      refine ⟨_, _, _, rfl, fun m w ρ h64 hr hops => ?_⟩
      obtain ⟨ha, _, hzs⟩ := app m w ρ hr hops none 0 0 rfl
      have src := srcD m w hr
      have hc := src.cells n (Nat.le_refl _)
      rw [← src.llen, List.take_length] at hc
      obtain ⟨cap, cs, hcap, hrun, hcs⟩ := run_append_grows (old := #[]) ha o.type w (by omega) (by omega) (by simp [Builtin.firstCells]) hc
      rw [Nat.zero_add] at hcap hrun hcs
      refine ⟨m.at nx w.heap.size cap h64, _, _, fin m _ w _ ρ _ ?_, .inl rfl, Goes.new h64 hr (drew_pushed w (.cells cs e.1)) ?_, Nat.lt_succ_self nx, by rw [Inj.at_κ]; omega⟩
      · rw [hrun]
        simp [slUp0, gam, capG]
      · refine BlkR.ext (Inj.agree.refl _ _) (nx := fun b => Lt nx b ∨ b = nx) (fun b hb => ?_) (.inr rfl) (grown_row (S := Lt nx) h64 (Nat.lt_irrefl nx) src.ok src.cell hpos src.llen hcap (fun j v hj => ?_) ?_)
        · rcases hb with hb | rfl
          · exact Nat.lt_succ_of_lt hb
          · exact Nat.lt_succ_self _
        · rw [hcs, Array.empty_append]; exact gamL_getA hj
        · simp only [hcs, Array.size_append, List.size_toArray, gamL_length, zeroCells_size, hzs, src.llen, Array.size_empty]
          rw [List.length_nil, Nat.zero_add, ← Nat.add_mul]; congr 1; omega
  | sl b off len cp =>
    simp only [onSl_sl] at h ⊢
    cases cp with
    | ex cap0 =>
      simp only [onCap_ex] at h ⊢
      unfold appEx at h ⊢
      cases hfit : Nat.ble (Nat.add len n) cap0 with
      | true =>
        rw [hfit, bel_true] at h
        rw [bel_true]
        have hfit' : len + n ≤ cap0 := bleN_true hfit
        obtain ⟨t', e', hst⟩ := storeK_ok (P := P) (nx := nx) h
        rw [e']
        refine ⟨_, _, _, rfl, fun m w ρ h64 hr hops => ?_⟩
        obtain ⟨ha, hokx, _⟩ := app m w ρ hr hops (some ⟨m.ρ b, off, none⟩) len cap0 rfl
        have src := hsrc m w hr
        have hc := src.cells n (Nat.le_refl _)
        rw [← src.llen, List.take_length] at hc
        obtain ⟨w', hrun, hgo⟩ := hst m w hr src.ok src.cell
        refine ⟨m, w', _, fin m m w w' ρ (.sl b off (len + n) (.ex cap0)) ?_, .inl rfl, hgo, hokx.1, hfit'⟩
        rw [run_append_fits ha o.type w hfit' hc, add_none]
        have hrun' : (storeCells ⟨m.ρ b, off + len * e.2, none⟩ (gamL m new)).run P w = .ok () w' := hrun
        simp only [hrun', Result.andThen_ok]
        rfl
      | false =>
        rw [hfit, bel_false] at h
        rw [bel_false]
        have hfit' : ¬ len + n ≤ cap0 := fun hc => by
          have : Nat.ble (Nat.add len n) cap0 = true := Nat.ble_eq_true_of_le hc
          rw [this] at hfit; cases hfit
        (obtain ⟨hle, eqzz⟩ := bel_fail h; rw [eqzz] at h ⊢; clear eqzz)
        have hle' : len + n ≤ 1048576 := bleN_true hle
        (obtain ⟨old, hold, eqzz⟩ := oel_fail h; rw [eqzz] at h ⊢; clear eqzz; try dsimp only at h ⊢)
        rw [mkRow_eq, newK_eq]
        refine ⟨_, _, _, rfl, fun m w ρ h64 hr hops => ?_⟩
        obtain ⟨ha, _, hzs⟩ := app m w ρ hr hops (some ⟨m.ρ b, off, none⟩) len cap0 rfl
        have src := srcD m w hr
        have hc := src.cells n (Nat.le_refl _)
        rw [← src.llen, List.take_length] at hc
        have hrD : Rel m t nx w.drew := ⟨hr.blk, hr.inj⟩
        obtain ⟨o1, o2, o3, _⟩ := loadN_run hrD hold
        have holdr := run_loadN (P := P) hrD hold
        obtain ⟨cap, cs, hcap, hrun, hcs⟩ := run_append_grows (old := (gamL m old).toArray) ha o.type w hfit' hle' (by simpa [Builtin.firstCells] using holdr) hc
        have hlen : (old ++ new).length = (len + n) * e.2 := by
          rw [List.length_append, o3, src.llen]
          show len * e.2 + n * e.2 = _
          rw [Nat.add_mul]
        refine ⟨m.at nx w.heap.size cap h64, _, _, fin m _ w _ ρ _ ?_, .inl rfl, Goes.new h64 hr (drew_pushed w (.cells cs e.1)) ?_, Nat.lt_succ_self nx, by rw [Inj.at_κ]; show 0 + (len + n) ≤ cap; omega⟩
        · rw [hrun]
          simp [slUp0, gam, capG]
        · refine BlkR.ext (Inj.agree.refl _ _) (nx := fun b => Lt nx b ∨ b = nx) (fun b hb => ?_) (.inr rfl) (grown_row (S := Lt nx) h64 (Nat.lt_irrefl nx) (okL_app o1 src.ok) (isCell_app o2 src.cell) hpos hlen hcap (fun j v hj => ?_) ?_)
          · rcases hb with hb | rfl
            · exact Nat.lt_succ_of_lt hb
            · exact Nat.lt_succ_self _
          · have := gamL_getA (m := m) (extra := Builtin.zeroCells (gam m z).cells (cap - (len + n))) hj
            rw [gamL_append] at this
            rw [hcs]
            simpa using this
          · simp only [hcs, Array.size_append, List.size_toArray, gamL_length, zeroCells_size, hzs]
            rw [← List.length_append, hlen, ← Nat.add_mul]; congr 1; omega
    | up e0 =>
      simp only [onCap_up] at h ⊢
      (obtain ⟨blk, hblk, eqzz⟩ := oel_fail h; rw [eqzz] at h ⊢; clear eqzz; try dsimp only at h ⊢)
      cases blk with
      | cells bty ch bn fz els =>
        change appUp e.1 e.2 b off len e0 new n o k tm d t nx bty ch bn fz els ≠ _ at h
        change ∃ v t' nx', appUp e.1 e.2 b off len e0 new n o k tm d t nx bty ch bn fz els = _ ∧ _
        unfold appUp at h ⊢
        (obtain ⟨h1, eqzz⟩ := bel_fail h; rw [eqzz] at h ⊢; clear eqzz)
        (obtain ⟨h2, eqzz⟩ := bel_fail h; rw [eqzz] at h ⊢; clear eqzz)
        have hch := beqN_true h1
        have hbty := beqN_true h2
        subst hch; subst hbty
        cases hfit : Nat.ble (Nat.add e0 (Nat.add len n)) bn with
        | true =>
          rw [hfit, bel_true] at h
          rw [bel_true]
          have hfit' : e0 + (len + n) ≤ bn := bleN_true hfit
          obtain ⟨t', e', hst⟩ := storeK_ok (P := P) (nx := nx) h
          rw [e']
          refine ⟨_, _, _, rfl, fun m w ρ h64 hr hops => ?_⟩
          obtain ⟨ha, hokx, _⟩ := app m w ρ hr hops (some ⟨m.ρ b, off, none⟩) len (m.κ b - e0) rfl
          have src := hsrc m w hr
          have hc := src.cells n (Nat.le_refl _)
          rw [← src.llen, List.take_length] at hc
          obtain ⟨w', hrun, hgo⟩ := hst m w hr src.ok src.cell
          obtain ⟨_, cs, fr, _, _, hbn, _⟩ := hr.blk b _ hblk
          refine ⟨m, w', _, fin m m w w' ρ (.sl b off (len + n) (.up e0)) ?_, .inl rfl, hgo, hokx.1, by show e0 + (len + n) ≤ m.κ b; omega⟩
          rw [run_append_fits ha o.type w (by omega) hc, add_none]
          have hrun' : (storeCells ⟨m.ρ b, off + len * e.2, none⟩ (gamL m new)).run P w = .ok () w' := hrun
          simp only [hrun', Result.andThen_ok]
          rfl
        | false =>
          rw [hfit, bel_false] at h
          rw [bel_false]
          (obtain ⟨g1, eqzz⟩ := bel_fail h; rw [eqzz] at h ⊢; clear eqzz)
          (obtain ⟨g2, eqzz⟩ := bel_fail h; rw [eqzz] at h ⊢; clear eqzz)
          (obtain ⟨g3, eqzz⟩ := bel_fail h; rw [eqzz] at h ⊢; clear eqzz)
          (obtain ⟨g4, eqzz⟩ := bel_fail h; rw [eqzz] at h ⊢; clear eqzz)
          (obtain ⟨g5, eqzz⟩ := bel_fail h; rw [eqzz] at h ⊢; clear eqzz)
          have hoff := beqN_true g1
          have he0 := beqN_true g2
          have hlen : len ≤ bn := bleN_true g3
          have hle' : len + n ≤ 1048576 := bleN_true g4
          have hfz : fz ≤ len * e.2 := bleN_true g5
          subst hoff; subst he0
          rw [writeMany_eq, forceN_eq, Tr.setK_eq, newK_eq]
          refine ⟨_, _, _, rfl, fun m w ρ h64 hr hops => ?_⟩
          obtain ⟨ha, hokx, hzs⟩ := app m w ρ hr hops (some ⟨m.ρ b, 0, none⟩) len (m.κ b - 0) rfl
          rw [Nat.sub_zero] at ha
          obtain ⟨hblt, hbr⟩ := hr.blk b _ hblk
          obtain ⟨cs, fr, hobj, hchp, hbk, hbs, hcl, hfr⟩ := hbr
          have src := hsrc m w hr
          by_cases hfit2 : len + n ≤ m.κ b
          · -- it stays where it is
            have hc := src.cells n (Nat.le_refl _)
            rw [← src.llen, List.take_length] at hc
            have hsize : len * e.2 + n * e.2 ≤ cs.size := by
              have := Nat.mul_le_mul_right e.2 hfit2
              rw [Nat.add_mul] at this
              omega
            have hst := run_storeCells_fr (P := P) (m.ρ b) (len * e.2) e.1 fr (gamL m new) 0 cs w hobj (by simp [src.llen]; omega)
              (fun v hv => by
                rw [gamL_eq_map] at hv
                obtain ⟨u, hu, rfl⟩ := List.mem_map.1 hv
                exact isCell_one (src.cell u hu) m)
              (fun j h1 h2 => hfr j (by omega) (by simp [src.llen] at h2; omega))
            generalize hcs' : (cs.toList.take (len * e.2 + 0) ++ gamL m new ++ cs.toList.drop (len * e.2 + 0 + (gamL m new).length)).toArray = cs' at hst
            have hcs'size : cs'.size = cs.size := by rw [← hcs']; simp [src.llen]; omega
            have hblk' : BlkR m (Lt nx) b (.cells e.1 e.2 (len + n) fz (wm e.2 n els len new)) (some (.cells cs' e.1 fr)) := by
              refine moved_row ⟨cs, fr, rfl, hchp, hbk, hbs, hcl, hfr⟩ hlen src.llen src.ok src.cell (fun j hj => ?_) (fun j v hj => ?_) hfit2 (by rw [hcs'size]; exact hbs) (fun off h1 h2 => hfr off h1 (by rw [← hcs'size]; exact h2))
              · rw [← hcs']
                simp only [List.getElem?_toArray, Nat.add_zero]
                rw [List.append_assoc, List.getElem?_append_left (by simp; omega), List.getElem?_take, if_pos hj]
                simp
              · rw [← hcs']
                have hlt := (List.getElem?_eq_some_iff.1 hj).1
                simp only [List.getElem?_toArray, Nat.add_zero]
                have htk : (cs.toList.take (len * e.2)).length = len * e.2 := by simp; omega
                rw [List.append_assoc, List.getElem?_append_right (by omega), htk, Nat.add_sub_cancel_left, List.getElem?_append_left (by simpa using hlt), gamL_get, hj]
                rfl
            have hgo := Goes.rename h64 (Goes.chg hr hblk (setRow_changed w (m.ρ b) cs cs' e.1 fr hobj) hblk' (fun _ hh => by cases hh) (fun _ _ _ hh => by rw [hobj] at hh; cases hh; exact ⟨_, rfl, hcs'size⟩)) (by rw [Tr.get_set_self]) ⟨_, _, _, _, _, rfl⟩
            refine ⟨m.at nx (m.ρ b) (m.κ b) h64, w.setRow (m.ρ b) cs', _, fin m _ w _ ρ _ ?_, .inl rfl, hgo.congr (fun c => ?_), Nat.lt_succ_self nx, by rw [Inj.at_κ]; show 0 + (len + n) ≤ m.κ b; omega⟩
            · rw [run_append_fits ha o.type w hfit2 hc, add_none, Nat.zero_add]
              have hst' : (storeCells ⟨m.ρ b, len * e.2, none⟩ (gamL m new)).run P w = .ok () (w.setRow (m.ρ b) cs') := hst
              simp only [hst', Result.andThen_ok]
              simp [gam, capG]
            · by_cases e1 : c = nx
              · subst e1; rw [Tr.get_set_self, Tr.get_set_self]; rfl
              · rw [Tr.get_set_other _ _ e1, Tr.get_set_other _ _ e1]
                by_cases e2 : c = b
                · subst e2; rw [Tr.get_set_self, Tr.get_set_self]
                · rw [Tr.get_set_other _ _ e2, Tr.get_set_other _ _ e2, Tr.get_set_other _ _ e2]
          · -- it moves
            have srcd := srcD m w hr
            have hc := srcd.cells n (Nat.le_refl _)
            rw [← srcd.llen, List.take_length] at hc
            have hlenk : len * e.2 ≤ cs.size := by
              have := Nat.mul_le_mul_right e.2 (Nat.le_trans hlen hbk)
              omega
            have hold : (Builtin.firstCells e.2 len (.slice (some ⟨m.ρ b, 0, none⟩) len (m.κ b))).run P w.drew = .ok (cs.toList.take (len * e.2)).toArray w.drew := by
              have := run_loadCells_list (P := P) w.drew ⟨m.ρ b, 0, none⟩ (cs.toList.take (len * e.2)) (fun j v hj => by
                rw [add_none, Nat.zero_add, World.cell?_drew]
                rw [List.getElem?_take] at hj
                split at hj
                · simp only [World.cell?, hobj]; simpa using hj
                · cases hj)
              have hl : (cs.toList.take (len * e.2)).length = len * e.2 := by simp; omega
              rw [hl] at this
              simpa [Builtin.firstCells] using this
            obtain ⟨cap, cs', hcap, hrun, hcs'⟩ := run_append_grows ha o.type w hfit2 hle' hold hc
            replace hcs' := hcs'.symm
            have htk : (cs.toList.take (len * e.2)).length = len * e.2 := by simp; omega
            have hcs'size : cs'.size = cap * e.2 := by
              rw [← hcs']
              simp only [Array.size_append, List.size_toArray, htk, gamL_length, zeroCells_size, hzs, src.llen]
              rw [← Nat.add_mul, ← Nat.add_mul]; congr 1; omega
            have hagree := m.at_agree nx w.heap.size cap h64
            have hb0 : BlkR (m.at nx w.heap.size cap h64) (Lt (nx + 1)) b (.cells e.1 e.2 bn fz els) (some (.cells cs e.1 fr)) :=
              BlkR.ext hagree (Lt.mono (Nat.le_succ _)) hblt ⟨cs, fr, rfl, hchp, hbk, hbs, hcl, hfr⟩
            have hblk' : BlkR (m.at nx w.heap.size cap h64) (Lt (nx + 1)) nx (.cells e.1 e.2 (len + n) fz (wm e.2 n els len new)) (some (.cells cs' e.1)) := by
              refine moved_row hb0 hlen src.llen (okL_ext hagree (Lt.mono (Nat.le_succ _)) _ src.ok) src.cell (fun j hj => ?_) (fun j v hj => ?_) (by rw [Inj.at_κ]; exact hcap) (by rw [Inj.at_κ, hcs'size]; exact Nat.le_refl _) (by simp)
              · rw [← hcs', Array.append_assoc, Array.getElem?_append_left (by simp; omega)]
                simp only [List.getElem?_toArray, List.getElem?_take, if_pos hj]
                simp
              · have hlt := (List.getElem?_eq_some_iff.1 hj).1
                rw [← hcs', Array.append_assoc, Array.getElem?_append_right (by simp; omega), gam_ext hagree v (okL_get src.ok hj)]
                have : len * e.2 + j - (cs.toList.take (len * e.2)).toArray.size = j := by simp; omega
                rw [this]
                exact gamL_getA hj
            have hgo := (Goes.new h64 hr (drew_pushed w (.cells cs' e.1)) hblk').kill b
            refine ⟨m.at nx w.heap.size cap h64, _, _, fin m _ w _ ρ _ ?_, .inl rfl, hgo.congr (fun c => ?_), Nat.lt_succ_self nx, by rw [Inj.at_κ]; show 0 + (len + n) ≤ cap; omega⟩
            · rw [hrun]
              simp [gam, capG]
            · have hbn : b ≠ nx := Nat.ne_of_lt hblt
              by_cases e1 : c = nx
              · subst e1; rw [Tr.get_set_self, Tr.get_set_other _ _ (Ne.symm hbn), Tr.get_set_self]; rfl
              · rw [Tr.get_set_other _ _ e1]
                by_cases e2 : c = b
                · subst e2; rw [Tr.get_set_self, Tr.get_set_self]
                · rw [Tr.get_set_other _ _ e2, Tr.get_set_other _ _ e2, Tr.get_set_other _ _ e1]
      | _ => exact absurd rfl h
  | _ => exact absurd rfl h
end Go.X
end

section
/- The reckoner: each operation but calls, panics and what is deferred. -/
namespace Go.X
open Go
variable {P : Program} {s : CallT} {o : Oper} {k : K} {tm : Env} {d : Dx} {t : Hp} {nx : Nat}

/-- What an operation comes to. -/
def Does (P : Program) (o : Oper) (k : K) (tm : Env) (d : Dx) (t : Hp) (nx : Nat) (r : R) : Prop := ∃ v t' nx', r = done o v k tm d t' nx' ∧ EffOK P o tm t nx v t' nx'

theorem does_pure {r : R} (h : ∃ v, PureOK P o tm v ∧ r = done o v k tm d t nx) : Does P o k tm d t nx r := by
  obtain ⟨v, h1, h2⟩ := h; exact ⟨v, t, nx, h2, h1.eff⟩
theorem does_alloc {r : R} (h : ∃ blk val, AllocOK P o tm blk val ∧ r = newK t nx blk fun t nx' => done o (val nx) k tm d t nx') : Does P o k tm d t nx r := by
  obtain ⟨blk, val, h1, h2⟩ := h
  rw [newK_eq] at h2
  exact ⟨_, _, _, h2, h1.eff⟩
theorem does_read {r : R} {x : Option V} (hr : r = oel x (fun v => done o v k tm d t nx) .fail) (h : r ≠ .fail) (hv : ∀ v, x = some v → ReadOK P o tm t v) : Does P o k tm d t nx r := by
  subst hr
  obtain ⟨v, hx, e⟩ := oel_fail h
  exact ⟨v, t, nx, e, (hv v hx).eff⟩
theorem does_one {r : R} (h : ∃ v t', r = done o v k tm d t' nx ∧ EffOK P o tm t nx v t' nx) : Does P o k tm d t nx r := by
  obtain ⟨v, t', h1, h2⟩ := h; exact ⟨v, t', nx, h1, h2⟩
theorem does_unit {r : R} (h : ∃ t', r = done o undefV k tm d t' nx ∧ EffOK P o tm t nx undefV t' nx) : Does P o k tm d t nx r := by
  obtain ⟨t', h1, h2⟩ := h; exact ⟨_, t', nx, h1, h2⟩

/-! ### The least and the greatest -/
theorem evsO_two {l : List Operand} {v w : V} {tm : Env} (h : evsO l tm = some [v, w]) : ∃ x y, l = [x, y] ∧ evO x tm = some v ∧ evO y tm = some w := by
  cases l with
  | nil => cases h
  | cons x l =>
    unfold evsO at h
    split at h
    · rename_i a r ha hr
      cases h
      cases l with
      | nil => cases hr
      | cons y l =>
        unfold evsO at hr
        split at hr
        · rename_i b r' hb hr'
          cases hr
          cases l with
          | nil => exact ⟨x, y, rfl, ha, hb⟩
          | cons z l =>
            unfold evsO at hr'
            split at hr' <;> cases hr'
        · cases hr
    · cases h

theorem doMax_ok {args : Array Operand} {tys : Array TypeId} (ho : o.op = .call ⟨.builtin .max, args, tys⟩) (h : doBuiltin .max args tys P s o k tm d t nx ≠ .fail) :
    ∃ v, PureOK P o tm v ∧ doBuiltin .max args tys P s o k tm d t nx = done o v k tm d t nx := by
  unfold doBuiltin at h ⊢
  dsimp only at h ⊢
  (obtain ⟨l, hl, eqzz⟩ := evs_fail h; rw [eqzz] at h ⊢; clear eqzz; try dsimp only at h ⊢)
  split at h
  · rename_i j a i b
    (obtain ⟨hk, eqzz⟩ := bel_fail h; rw [eqzz] at h ⊢; clear eqzz)
    have := sameKind_true hk
    subst this
    obtain ⟨x, y, hxy, hx, hy⟩ := evsO_two hl
    refine ⟨_, fun m S w ρ hr => ?_, rfl⟩
    have gx := hr x (call_args ho (by rw [hxy]; simp)) _ hx
    have gy := hr y (call_args ho (by rw [hxy]; simp)) _ hy
    refine ⟨?_, trivial⟩
    have hargs : (args.map ρ).toList = [.int j a, .int j b] := by rw [Array.toList_map, hxy]; simp [gx.1, gy.1, gam]
    rw [run_builtin ho]
    simp only [builtin, Sem.run_bind, Builtin.max_, hargs]
    have e : (bel (leI b a) a b) = if b > a then b else a := by
      rw [leI_eq]
      by_cases hab : b ≤ a
      · rw [decide_eq_true hab, if_neg (by omega)]; rfl
      · rw [decide_eq_false hab, if_pos (by omega)]; rfl
    simp [Builtin.max2, gam, e]
  · exact absurd rfl h
theorem doMin_ok {args : Array Operand} {tys : Array TypeId} (ho : o.op = .call ⟨.builtin .min, args, tys⟩) (h : doBuiltin .min args tys P s o k tm d t nx ≠ .fail) :
    ∃ v, PureOK P o tm v ∧ doBuiltin .min args tys P s o k tm d t nx = done o v k tm d t nx := by
  unfold doBuiltin at h ⊢
  dsimp only at h ⊢
  (obtain ⟨l, hl, eqzz⟩ := evs_fail h; rw [eqzz] at h ⊢; clear eqzz; try dsimp only at h ⊢)
  split at h
  · rename_i j a i b
    (obtain ⟨hk, eqzz⟩ := bel_fail h; rw [eqzz] at h ⊢; clear eqzz)
    have := sameKind_true hk
    subst this
    obtain ⟨x, y, hxy, hx, hy⟩ := evsO_two hl
    refine ⟨_, fun m S w ρ hr => ?_, rfl⟩
    have gx := hr x (call_args ho (by rw [hxy]; simp)) _ hx
    have gy := hr y (call_args ho (by rw [hxy]; simp)) _ hy
    refine ⟨?_, trivial⟩
    have hargs : (args.map ρ).toList = [.int j a, .int j b] := by rw [Array.toList_map, hxy]; simp [gx.1, gy.1, gam]
    rw [run_builtin ho]
    simp only [builtin, Sem.run_bind, Builtin.min_, hargs]
    have e : (bel (leI a b) a b) = if b < a then b else a := by
      rw [leI_eq]
      by_cases hab : a ≤ b
      · rw [decide_eq_true hab, if_neg (by omega)]; rfl
      · rw [decide_eq_false hab, if_pos (by omega)]; rfl
    simp [Builtin.min2, gam, e]
  · exact absurd rfl h

theorem doConv_split {st dt : TypeId} {x : Operand} (ho : o.op = .convert st dt x) (h : doConv st dt x P s o k tm d t nx ≠ .fail) : Does P o k tm d t nx (doConv st dt x P s o k tm d t nx) := by
  cases hb : isBytes P st with
  | true =>
    have h' := h
    unfold doConv at h' ⊢
    rw [hb, bel_true] at h' ⊢
    obtain ⟨hs, e⟩ := bel_fail h'
    rw [e] at h' ⊢
    exact does_read rfl h' fun v hv => rdBytes_ok ho hb hs hv
  | false =>
    cases hs : andB (isStr (und P st)) (isBytes P dt) with
    | false => exact does_pure (doConv_pure ho hb hs h)
    | true =>
      simp only [andB_eq, Bool.and_eq_true] at hs
      have hdn : isStr (und P dt) = false := by
        obtain ⟨q, _, hu, _⟩ := isBytes_some hs.2
        have : und P dt = .slice q.1 := by unfold und; rw [hu]; rfl
        rw [this]; rfl
      have h' := h
      unfold doConv at h' ⊢
      rw [hb, bel_false] at h' ⊢
      obtain ⟨v, hv, e⟩ := ev_fail h'
      rw [e] at h' ⊢; clear e
      obtain ⟨e, _⟩ := someD_fail h'
      rw [e] at h' ⊢; clear e
      cases v with
      | str l n =>
        simp only [onInt_str, onStr_str] at h' ⊢
        rw [hdn, bel_false, hs.1, bel_true, hs.2, bel_true] at h' ⊢
        exact does_alloc (doToBytes_ok ho hv (isStr_und hs.1) hs.2 h')
      | int kk n =>
        simp only [onInt_int] at h'
        obtain ⟨k', hk, e⟩ := oel_fail h'
        have hd := intOf_some hk
        obtain ⟨_, _, hu, _⟩ := isBytes_some hs.2
        rw [und_some hd (by simp)] at hu
        cases hu
      | _ => exact absurd rfl h'

/-- Calls, panics, what is deferred. -/
def ctl (op : Op) : Bool := match op with
  | .call ⟨.value _, _, _⟩ => true
  | .panic _ => true
  | .defer _ => true
  | _ => false

theorem disp_ok {op : Op} (ho : o.op = op) (hc : ctl op = false) (h : disp op P s o k tm d t nx ≠ .fail) : Does P o k tm d t nx (disp op P s o k tm d t nx) := by
  cases op with
  | move x => exact does_pure (doMove_ok (s := s) (.inl ho) h)
  | assign x => exact does_pure (doMove_ok (s := s) (.inr ho) h)
  | pick c a b => exact does_pure (doPick_ok (s := s) ho h)
  | alloc e => exact does_alloc (doAlloc_ok (s := s) ho h)
  | box e x => exact does_alloc (doBox_ok (s := s) ho h)
  | build e ps => exact does_pure (doBuild_ok (s := s) ho h)
  | buildSlice e n ps => exact does_alloc (doBuildSlice_ok (s := s) ho h)
  | insert ty a b c => exact does_unit (doMapPut_ok (s := s) (.inr ho) h)
  | load ty a => exact does_read rfl h fun v hv => rdLoad_ok ho hv
  | store ty a x => exact does_unit (doStore_ok (s := s) ho h)
  | nilCheck x => exact does_pure (doNil_ok (s := s) ho h)
  | binOp op ty x y yt => exact does_pure (doBin_ok (s := s) ho h)
  | unOp op ty x => exact does_pure (doUn_ok (s := s) ho h)
  | convert st dt x => exact doConv_split (s := s) ho h
  | makeInterface ty x => exact does_pure (doIface_ok (s := s) ho h)
  | makeFunc f a c => exact does_pure (doFunc_ok (s := s) ho h)
  | makeMap ty r => exact does_alloc (doMakeMap_ok (s := s) ho h)
  | makeSlice ty a b => exact does_alloc (doMakeSlice_ok (s := s) ho h)
  | slice ty x lo hi mx => exact does_pure (doSlice_ok (s := s) ho h)
  | fieldAddr ty x i => exact does_pure (doFieldAddr_ok (s := s) ho h)
  | field ty x i => exact does_pure (doField_ok (s := s) ho h)
  | indexAddr ty x i => exact does_pure (doIndexAddr_ok (s := s) ho h)
  | index ty x i => exact does_pure (doIndex_ok (s := s) ho h)
  | lookup ty m x ok => exact does_read rfl h fun v hv => rdLookup_ok ho hv
  | mapUpdate ty a b c => exact does_unit (doMapPut_ok (s := s) (.inl ho) h)
  | range ty x => exact doRange_ok (s := s) ho h
  | next x str => exact does_one (doNext_ok (s := s) ho h)
  | typeAssert x xt ty ok => exact does_pure (doAssert_ok (s := s) ho h)
  | extract x i => exact does_pure (doExtract_ok (s := s) ho h)
  | call c =>
    obtain ⟨callee, args, tys⟩ := c
    cases callee with
    | value x => cases hc
    | invoke r m => exact absurd rfl h
    | builtin b =>
      cases b with
      | len => exact does_read rfl h fun v hv => rdLen_ok ho hv
      | append => exact doAppend_ok (s := s) ho h
      | copy => exact does_one (doCopy_ok (s := s) ho h)
      | delete => exact does_one (doDelete_ok (s := s) ho h)
      | max => exact does_pure (doMax_ok (s := s) ho h)
      | min => exact does_pure (doMin_ok (s := s) ho h)
      | _ => exact absurd rfl h
  | panic x => cases hc
  | defer c => cases hc
  | _ => exact absurd rfl h
end Go.X
end

section
/- The reckoner: calls, panics, regions in their own order, code. -/
namespace Go.X
open Go
variable {P : Program} {s : CallT} {o : Oper} {k : K} {tm : Env} {d : Dx} {t : Hp} {nx : Nat}

/-! ### What is deferred; how code ends -/
def DefR (m : Inj) (S : Nat → Prop) (x : FuncId × List V) (e : Deferred) : Prop := ∃ cap, e.target = .fn (.func x.1) cap ∧ e.args ++ cap = (gamL m x.2).toArray ∧ okL m S x.2
def DefsR (m : Inj) (S : Nat → Prop) : List (FuncId × List V) → List Deferred → Prop
  | [], [] => True
  | x :: xs, e :: es => DefR m S x e ∧ DefsR m S xs es
  | _, _ => False
theorem DefsR.ext {m m' : Inj} {S S' : Nat → Prop} (h : m.agree m' S) (hn : ∀ b, S b → S' b) : ∀ {xs : List (FuncId × List V)} {es : List Deferred}, DefsR m S xs es → DefsR m' S' xs es
  | [], [], _ => trivial
  | x :: xs, e :: es, ⟨⟨cap, h1, h2, h3⟩, hr⟩ => ⟨⟨cap, h1, by rw [gamL_ext h x.2 h3]; exact h2, okL_ext h hn x.2 h3⟩, hr.ext h hn⟩
  | [], _ :: _, h => h.elim
  | _ :: _, [], h => h.elim
def ExitR (m : Inj) (S : Nat → Prop) : Out → Exit → Prop
  | .normal, .normal => True
  | .exit i, .exit j => i = j
  | .ret, .ret => True
  | .panic v, .panic ch => ch = [{ v := gam m v, recovered := false }] ∧ okV m S v
  | _, _ => False

/-- A frame's state. -/
structure StR (n : Nat) (m : Inj) (tm : Env) (d : Dx) (t : Hp) (nx : Nat) (a : Act) (w : World) : Prop where
  rel : Rel m t nx w
  env : EnvR m (Lt nx) tm a.tmps
  defs : DefsR m (Lt nx) d.df a.defers
  size : n ≤ a.tmps.size

theorem StR.h64 {n : Nat} {m : Inj} {a : Act} {w : World} (h : StR n m tm d t nx a w) : 64 ≤ nx := by
  apply Classical.byContradiction
  intro hc
  have := h.env.base nx (by omega)
  exact Nat.lt_irrefl nx this

/-- What code comes to. -/
def Post (n : Nat) (m : Inj) (d : Dx) (t : Hp) (nx : Nat) (w : World) (r : R) : Exit → Act → World → Prop := fun e a' w' =>
  ∃ out tm' d' t' nx' m', r = .go out tm' d' t' nx' ∧ d'.pan = d.pan ∧ ExitR m' (Lt nx') out e ∧ Goes m t nx w m' t' nx' w' ∧ StR n m' tm' d' t' nx' a' w'
theorem Post.trans {n : Nat} {m m1 : Inj} {d d1 : Dx} {t t1 : Hp} {nx nx1 : Nat} {w w1 : World} {r : R} (h : Goes m t nx w m1 t1 nx1 w1) (hd : d1.pan = d.pan) {e : Exit} {a : Act} {w' : World} (hp : Post n m1 d1 t1 nx1 w1 r e a w') :
    Post n m d t nx w r e a w' := by
  obtain ⟨out, tm', d', t', nx', m', h1, h2, h3, h4, h5⟩ := hp
  exact ⟨out, tm', d', t', nx', m', h1, h2.trans hd, h3, h.trans h4, h5⟩

/-! ### Calls -/
def CPost (m : Inj) (t : Hp) (nx : Nat) (w : World) (cr : CR) : Ending → World → Prop := fun e w' => ∃ m', match cr with
  | .ret v t' nx' _ => e = .returned (gam m' v) ∧ Goes m t nx w m' t' nx' w' ∧ okV m' (Lt nx') v
  | .panic v t' nx' => e = .panicked [{ v := gam m' v, recovered := false }] ∧ Goes m t nx w m' t' nx' w' ∧ okV m' (Lt nx') v
  | .fail => False
/-- A function that can be entered. -/
def Enters (P : Program) (f : FuncId) : Prop := ∃ fn, P.funcs[f]? = some fn ∧ (fn.name == "runtime.NumGoroutine") = false ∧ fn.body.isNone = false
theorem run_callFunc {f : FuncId} (h : Enters P f) (args : Array Value) (w : World) : (callFunc f args).run P w = .ok (.enter f args) w := by
  obtain ⟨fn, h1, h2, h3⟩ := h
  unfold callFunc
  simp only [Sem.run_bind, run_program, Result.andThen_ok, h1, h2, h3, Bool.false_eq_true, if_false, Sem.run_pure]
/-- A function is called: it is entered, or it answers at once. -/
def CallsF (P : Program) (f : FuncId) (args : Array Value) (w : World) (R : Ending → World → Prop) : Prop :=
  ((callFunc f args).run P w = .ok (.enter f args) w ∧ Calls P f args w R) ∨ ∃ v w', (callFunc f args).run P w = .ok (.value v) w' ∧ R (.returned v) w'
theorem CallsF.mono {f : FuncId} {args : Array Value} {w : World} {R R' : Ending → World → Prop} (h : CallsF P f args w R) (hr : ∀ e w', R e w' → R' e w') : CallsF P f args w R' :=
  h.imp (fun ⟨h1, h2⟩ => ⟨h1, h2.mono hr⟩) fun ⟨v, w', h1, h2⟩ => ⟨v, w', h1, hr _ _ h2⟩
theorem CallsF.wp {f : FuncId} {args : Array Value} {w : World} {R : Ending → World → Prop} {a : Act} {K : Act → World → Prop} {Q : Exit → Act → World → Prop} (hrun : (execOp a.eval o).run P w = (callFunc f args).run P w) (h : CallsF P f args w R)
    (hR : ∀ e w', R e w' → match e with
      | .returned v => K (a.put o.dst v) w'
      | .panicked chain => Q (.panic chain) a w'
      | .outgrown => LetsOut Q) : o.wp P a w K Q := by
  unfold Oper.wp
  rw [hrun]
  rcases h with ⟨h1, h2⟩ | ⟨v, w', h1, h2⟩
  · rw [h1]
    refine h2.mono fun e w' he => ?_
    have := hR e w' he
    cases e <;> exact this
  · rw [h1]
    exact hR _ _ h2
def SelfOK (P : Program) (self : CallT) : Prop := ∀ f l t nx, self f l none t nx ≠ .fail →
  ∀ (m : Inj) (w : World), 64 ≤ nx → Rel m t nx w → okL m (Lt nx) l → CallsF P f (gamL m l).toArray w (CPost m t nx w (self f l none t nx))

theorem CR.on_ret {β : Type} (v : V) (t : Hp) (nx : Nat) (p : Option V) (a : V → Hp → Nat → Option V → β) (b : V → Hp → Nat → β) (f : β) : (CR.ret v t nx p).on a b f = a v t nx p := rfl

/-- An operation, done: the next one is on. -/
def NextP (n : Nat) (m : Inj) (d : Dx) (t : Hp) (nx : Nat) (w : World) (tm' : Env) (d' : Dx) (t' : Hp) (nx' : Nat) : Act → World → Prop := fun a' w' =>
  ∃ m', Goes m t nx w m' t' nx' w' ∧ StR n m' tm' d' t' nx' a' w'

theorem StR.next {n : Nat} {m m' : Inj} {t' : Hp} {nx' : Nat} {a : Act} {w w' : World} {v : V} {dst : Option Tmp} (h : StR n m tm d t nx a w) (hg : Goes m t nx w m' t' nx' w') (hv : okV m' (Lt nx') v) (hd : ∀ i, dst = some i → i < n) :
    StR n m' (putT tm dst v) d t' nx' (a.put dst (gam m' v)) w' where
  rel := hg.rel
  env := (h.env.ext hg.agree (Lt.mono hg.up)).put (fun i hi => Nat.lt_of_lt_of_le (hd i hi) h.size) hv
  defs := by cases dst <;> exact h.defs.ext hg.agree (Lt.mono hg.up)
  size := by cases dst <;> simp [Act.put, h.size]

theorem put_undef (a : Act) (m : Inj) (dst : Option Tmp) : a.put dst undef = a.put dst (gam m undefV) := rfl

/-- No other temporary is set. -/
def KeptT (o : Oper) (a a' : Act) : Prop := ∀ i, o.dst ≠ some i → a'.tmps[i]? = a.tmps[i]?
theorem kept_put (o : Oper) (a : Act) (v : Value) : KeptT o a (a.put o.dst v) := fun i hi => by
  cases hd : o.dst with
  | none => rfl
  | some dd =>
    have hne : dd ≠ i := fun e => hi (by rw [hd, e])
    simp [Act.put, Array.getElem?_setIfInBounds_ne hne]
theorem kept_put' (o : Oper) (a : Act) (ds : List Deferred) (v : Value) : KeptT o a (({ a with defers := ds } : Act).put o.dst v) := fun i hi => by
  cases hd : o.dst with
  | none => rfl
  | some dd =>
    have hne : dd ≠ i := fun e => hi (by rw [hd, e])
    simp [Act.put, Array.getElem?_setIfInBounds_ne hne]
theorem Does.wp {n : Nat} {m : Inj} {a : Act} {w : World} {r : R} (hst : StR n m tm d t nx a w) (hd : ∀ i, o.dst = some i → i < n) (h : Does P o k tm d t nx r) (Q : Exit → Act → World → Prop) :
    ∃ v t' nx', r = k (putT tm o.dst v) d t' nx' ∧ ∀ K : Act → World → Prop, (∀ a' w' m', Goes m t nx w m' t' nx' w' → StR n m' (putT tm o.dst v) d t' nx' a' w' → KeptT o a a' → K a' w') → o.wp P a w K Q := by
  obtain ⟨v, t', nx', h1, h2⟩ := h
  refine ⟨v, t', nx', by rw [h1, done_eq], fun K hK => ?_⟩
  obtain ⟨m', w', r', hrun, hr, hg, hv⟩ := h2 m w a.eval hst.h64 hst.rel (hst.env.ops o)
  have hk := hK (a.put o.dst (gam m' v)) w' m' hg (hst.next hg hv hd) (kept_put _ _ _)
  unfold Oper.wp
  rw [hrun]
  rcases hr with rfl | ⟨rfl, rfl⟩
  · exact hk
  · exact hk

/-- A call. -/
theorem callWith_ok {n : Nat} {x : Operand} {args : Array Operand} {tys : Array TypeId} {kp : V → Hp → Nat → R} {m : Inj} {a : Act} {w : World} (ho : o.op = .call ⟨.value x, args, tys⟩) (hself : SelfOK P s) (hst : StR n m tm d t nx a w) (hd : ∀ i, o.dst = some i → i < n)
    (h : callWith x args s o kp k tm d t nx ≠ .fail) (Q : Exit → Act → World → Prop) :
    (∃ v t' nx', callWith x args s o kp k tm d t nx = k (putT tm o.dst v) d t' nx' ∧ ∀ K : Act → World → Prop, (∀ a' w' m', Goes m t nx w m' t' nx' w' → StR n m' (putT tm o.dst v) d t' nx' a' w' → KeptT o a a' → K a' w') → o.wp P a w K Q) ∨
    (∃ v t' nx', callWith x args s o kp k tm d t nx = kp v t' nx' ∧ ∀ K : Act → World → Prop, (∀ w' m', Goes m t nx w m' t' nx' w' → okV m' (Lt nx') v → Q (.panic [{ v := gam m' v, recovered := false }]) a w') → o.wp P a w K Q) := by
  unfold callWith at h ⊢
  obtain ⟨vf, hvf, e⟩ := ev_fail h; rw [e] at h ⊢; clear e
  obtain ⟨g, fa, fc, rfl⟩ := onFn_fail h
  simp only [onFn_fn] at h ⊢
  obtain ⟨l, hl, e⟩ := evs_fail h; rw [e] at h ⊢; clear e
  rw [forceUL_eq] at h ⊢
  have hops := hst.env.ops o
  have hx := hops x (by rw [ho]; simp [Op.operands, Call.operands]) _ hvf
  have hargs := evsO_gam (ρ := a.eval) (fun y hy v hv => hops y (by
    rw [ho]
    simp only [Op.operands, Call.operands, Array.mem_append]
    exact .inr (Array.mem_toList_iff.1 hy)) v hv) hl
  have hA : args.map a.eval = (gamL m l).toArray := Array.ext' (by rw [Array.toList_map, hargs.1])
  have hne : s g (fa ++ (l ++ fc)) none t nx ≠ .fail := fun e => by rw [e] at h; exact absurd rfl h
  have hcalls := hself g (fa ++ (l ++ fc)) t nx hne
  have hok : okL m (Lt nx) (fa ++ (l ++ fc)) := okL_app hx.2.1 (okL_app hargs.2 hx.2.2)
  have hc := hcalls m w hst.h64 hst.rel hok
  have hrun : (execOp a.eval o).run P w = (callFunc g (gamL m (fa ++ (l ++ fc))).toArray).run P w := by
    have harr : (gamL m fa).toArray ++ (gamL m l).toArray ++ (gamL m fc).toArray = (gamL m (fa ++ (l ++ fc))).toArray := by
      simp [gamL_append]
    simp only [execOp, ho, resolve, hx.1, gam, Deferred.ofValue, Sem.run_bind, Sem.run_pure, Result.andThen_ok, invoke, hA]
    rw [harr]
  generalize s g (fa ++ (l ++ fc)) none t nx = cr at h hc hne
  cases cr with
  | fail => exact absurd rfl hne
  | ret v t' nx' p =>
    left
    change done o v k tm d t' nx' ≠ _ at h
    refine ⟨v, t', nx', done_eq .., fun K hK => ?_⟩
    refine hc.wp hrun fun e w' ⟨m', he, hg, hv⟩ => ?_
    subst he
    exact hK _ _ m' hg (hst.next hg hv hd) (kept_put _ _ _)
  | panic v t' nx' =>
    right
    refine ⟨v, t', nx', rfl, fun K hK => ?_⟩
    refine hc.wp hrun fun e w' ⟨m', he, hg, hv⟩ => ?_
    subst he
    exact hK w' m' hg hv

/-! ### Guards -/
theorem guard_ok {ops : Array Oper} {y nn : R} {m : Inj} {S : Nat → Prop} {tmps : Array Value} (henv : EnvR m S tm tmps) (h : guardX ops.toList o.guard tm y nn ≠ .fail) :
    (guardX ops.toList o.guard tm y nn = y ∧ Region.wanted o (yielded ops tmps) = true) ∨ (guardX ops.toList o.guard tm y nn = nn ∧ Region.wanted o (yielded ops tmps) = false) := by
  unfold guardX Region.wanted at *
  cases hg : o.guard with
  | none => exact .inl ⟨rfl, rfl⟩
  | some jw =>
    obtain ⟨j, want⟩ := jw
    rw [hg] at h
    simp only [oel_some] at h ⊢
    rw [nth_eq] at h ⊢
    have hop : ops.toList[j]? = ops[j]? := Array.getElem?_toList
    rw [hop] at h ⊢
    unfold yielded
    cases ho : ops[j]? with
    | none => exact .inr ⟨rfl, rfl⟩
    | some go =>
      rw [ho] at h
      simp only [oel_some, Option.bind_some] at h ⊢
      cases hdst : go.dst with
      | none => exact .inr ⟨rfl, rfl⟩
      | some dd =>
        rw [hdst] at h
        simp only [oel_some, Option.bind_some] at h ⊢
        cases htm : tm.get dd with
        | none => rw [htm] at h; exact absurd rfl h
        | some v =>
          simp only [oel_some]
          have hv := (henv.at_ dd v htm).1
          have hget : ∀ b, v = .bool b → tmps[dd]? = some (.bool b) := fun b hb => by
            subst hb
            cases hq : tmps[dd]? with
            | none => rw [Array.getD_eq_getD_getElem?, hq] at hv; cases hv
            | some u => rw [Array.getD_eq_getD_getElem?, hq] at hv; exact congrArg some hv
          have hnb : (∀ b, v ≠ .bool b) → ∀ b, tmps[dd]? ≠ some (.bool b) := fun hn b hb => by
            rw [Array.getD_eq_getD_getElem?, hb] at hv
            cases v <;> first | exact hn _ rfl | cases hv
          cases v with
          | bool b =>
            rw [hget b rfl]
            cases b <;> cases want <;> simp [onBool, V.sel, wantIs, boolEq, notB, bel]
          | _ =>
            right
            refine ⟨rfl, ?_⟩
            have := hnb (by simp)
            cases hq : tmps[dd]? with
            | none => rfl
            | some u =>
              rw [hq] at this
              cases u <;> first | rfl | exact absurd rfl (this _)

/-! ### A region in its own order -/
theorem okOps_mem {n : Nat} : ∀ {l : List Oper}, okOps n l = true → ∀ o ∈ l, ∀ i, o.dst = some i → i < n
  | [], _, o, ho => by cases ho
  | o :: l, h, o', ho' => by
    have h' : oel o.dst (fun d => bel (Nat.ble (Nat.succ d) n) (okOps n l) false) (okOps n l) = true := h
    intro i hi
    cases hd : o.dst with
    | none =>
      rw [hd] at h'
      rcases List.mem_cons.1 ho' with e | hm
      · rw [e, hd] at hi; cases hi
      · exact okOps_mem h' o' hm i hi
    | some q =>
      rw [hd, oel_some] at h'
      cases hb : Nat.ble (Nat.succ q) n with
      | false => rw [hb] at h'; cases h'
      | true =>
        rw [hb, bel_true] at h'
        rcases List.mem_cons.1 ho' with e | hm
        · rw [e, hd] at hi; cases hi; exact Nat.le_of_ble_eq_true hb
        · exact okOps_mem h' o' hm i hi

theorem stepX_eq {all : List Oper} : stepX P s all o k tm d t nx = guardX all o.guard tm (disp o.op P s o k tm d t nx) (done o undefV k tm d t nx) := rfl

theorem run_defer {x : Operand} {args : Array Operand} {tys : Array TypeId} {a : Act} {w : World} {m : Inj} {g : FuncId} {fa fc l : List V} (ho : o.op = .defer ⟨.value x, args, tys⟩) (hx : a.eval x = gam m (.fn g fa fc)) (hA : args.map a.eval = (gamL m l).toArray) :
    (execOp a.eval o).run P w = .ok (.defer { target := .fn (.func g) (gamL m fc).toArray, args := (gamL m fa).toArray ++ (gamL m l).toArray }) w := by
  simp only [execOp, ho, resolve, hx, gam, Deferred.ofValue, Sem.run_bind, Sem.run_pure, Result.andThen_ok, hA]

/-- One operation of a region: what is next, or a panic. -/
theorem op_ok {n : Nat} {m : Inj} {a : Act} {w : World} (hself : SelfOK P s) (hst : StR n m tm d t nx a w) (hd : ∀ i, o.dst = some i → i < n) (h : disp o.op P s o k tm d t nx ≠ .fail) (Q : Exit → Act → World → Prop) :
    (∃ v d' t' nx', disp o.op P s o k tm d t nx = k (putT tm o.dst v) d' t' nx' ∧ d'.pan = d.pan ∧ ∀ K : Act → World → Prop, (∀ a' w' m', Goes m t nx w m' t' nx' w' → StR n m' (putT tm o.dst v) d' t' nx' a' w' → KeptT o a a' → K a' w') → o.wp P a w K Q) ∨
    (∃ v t' nx', disp o.op P s o k tm d t nx = .go (.panic v) tm d t' nx' ∧ ∀ K : Act → World → Prop, (∀ w' m', Goes m t nx w m' t' nx' w' → okV m' (Lt nx') v → Q (.panic [{ v := gam m' v, recovered := false }]) a w') → o.wp P a w K Q) := by
  cases hc : ctl o.op with
  | false =>
    left
    obtain ⟨v, t', nx', h1, h2⟩ := (disp_ok rfl hc h).wp hst hd Q
    exact ⟨v, d, t', nx', h1, rfl, h2⟩
  | true =>
    cases hop : o.op with
    | call c =>
      obtain ⟨callee, args, tys⟩ := c
      cases callee with
      | value x =>
        rw [hop] at h
        have h' : callWith x args s o (fun v t nx => .go (.panic v) tm d t nx) k tm d t nx ≠ .fail := h
        rcases callWith_ok hop hself hst hd h' Q with ⟨v, t', nx', h1, h2⟩ | ⟨v, t', nx', h1, h2⟩
        · exact .inl ⟨v, d, t', nx', h1, rfl, h2⟩
        · exact .inr ⟨v, t', nx', h1, h2⟩
      | invoke r m => rw [hop] at hc; cases hc
      | builtin b => rw [hop] at hc; cases hc
    | panic x =>
      right
      rw [hop] at h
      have h' : ev x tm (fun v => onIf v (.go (.panic v) tm d t nx)) .fail ≠ .fail := h
      obtain ⟨v, hv, e⟩ := ev_fail h'
      rw [e] at h'
      have hx := (hst.env.ops o) x (by rw [hop]; simp [Op.operands]) _ hv
      cases v with
      | iface ty u =>
        refine ⟨.iface ty u, t, nx, e, fun K hK => ?_⟩
        have hrun : (execOp a.eval o).run P w = .halt (.panic (gam m (.iface ty u))) w := by
          simp [execOp, hop, hx.1, gam, Instr.panic]
        unfold Oper.wp
        rw [hrun]
        exact hK w m (Goes.refl hst.rel) hx.2
      | _ => exact absurd rfl h'
    | defer c =>
      left
      obtain ⟨callee, args, tys⟩ := c
      rw [hop] at h
      cases callee with
      | value x =>
        have h' : ev x tm (fun f => onFn f (fun g a cp => evs args.toList tm (fun l => done o undefV (fun tm d t nx => k tm ⟨(g, a ++ (l ++ cp)) :: d.df, d.pan⟩ t nx) tm d t nx) .fail) .fail) .fail ≠ .fail := h
        obtain ⟨vf, hvf, e⟩ := ev_fail h'
        rw [e] at h'
        obtain ⟨g, fa, fc, rfl⟩ := onFn_fail h'
        simp only [onFn_fn] at h' e
        obtain ⟨l, hl, e2⟩ := evs_fail h'
        have hops := hst.env.ops o
        have hx := hops x (by rw [hop]; simp [Op.operands, Call.operands]) _ hvf
        have hargs := evsO_gam (ρ := a.eval) (fun y hy v hv => hops y (by
          rw [hop]
          simp only [Op.operands, Call.operands, Array.mem_append]
          exact .inr (Array.mem_toList_iff.1 hy)) v hv) hl
        have hA : args.map a.eval = (gamL m l).toArray := Array.ext' (by rw [Array.toList_map, hargs.1])
        refine ⟨undefV, ⟨(g, fa ++ (l ++ fc)) :: d.df, d.pan⟩, t, nx, (e.trans e2).trans (done_eq ..), rfl, fun K hK => ?_⟩
        unfold Oper.wp
        rw [run_defer hop hx.1 hA, Oper.upon_defer]
        refine hK _ w m (Goes.refl hst.rel) ?_ (kept_put' _ _ _ _)
        have hs := hst.next (Goes.refl hst.rel) (v := undefV) (dst := o.dst) trivial hd
        refine ⟨hs.rel, ?_, ?_, ?_⟩
        · have := hs.env
          cases hdst : o.dst <;> rw [hdst] at this <;> exact this
        · have hdd : DefsR m (Lt nx) ((g, fa ++ (l ++ fc)) :: d.df) ({ target := .fn (.func g) (gamL m fc).toArray, args := (gamL m fa).toArray ++ (gamL m l).toArray } :: a.defers) :=
            ⟨⟨_, rfl, by simp [gamL_append], okL_app hx.2.1 (okL_app hargs.2 hx.2.2)⟩, hst.defs⟩
          cases o.dst <;> exact hdd
        · have := hs.size
          cases hdst : o.dst <;> rw [hdst] at this <;> exact this
      | _ => exact absurd rfl h
    | _ => rw [hop] at hc; cases hc

theorem Oper.wp_monoQ {o : Oper} {a : Act} {w : World} {K K' : Act → World → Prop} {Q Q' : Exit → Act → World → Prop} (h : ∀ a w, K a w → K' a w) (hq : ∀ e a w, Q e a w → Q' e a w) (hh : o.wp P a w K Q) : o.wp P a w K' Q' := by
  unfold Oper.wp at *
  generalize (execOp a.eval o).run P w = r at *
  cases r with
  | ok n w' =>
    cases n <;> simp only [Oper.upon] at hh ⊢ <;>
      first
        | exact h _ _ hh
        | exact Calls.mono hh (fun e w'' he => by cases e <;> first | exact h _ _ he | exact hq _ _ _ he | exact he.imp fun a ha => ha.imp fun w hw => hq _ _ _ hw)
        | exact Rows.mono hh (fun _ _ he => h _ _ he)
  | halt x w' => cases x <;> simp only [Oper.upon] at hh ⊢ <;> exact hq _ _ _ hh
theorem wpList_mono' {ops : Array Oper} {Q Q' : Exit → Act → World → Prop} (h : ∀ e a w, Q e a w → Q' e a w) : ∀ (l : List Oper) (a : Act) (w : World), wpList P ops Q l a w → wpList P ops Q' l a w
  | [], a, w, hh => h _ _ _ hh
  | o :: l, a, w, hh => by
    simp only [wpList] at hh ⊢
    split
    · rename_i hw
      simp only [hw, if_true] at hh
      rcases hh with hh | ⟨h1, h2⟩
      · exact .inl (Oper.wp_monoQ (fun a w => wpList_mono' h l a w) h hh)
      · exact .inr ⟨h1, h2.imp fun a ha => ha.imp fun w hw => h _ _ _ hw⟩
    · rename_i hw
      simp only [hw, if_false] at hh
      exact wpList_mono' h l _ _ hh

theorem seq_ok {n : Nat} {ops : Array Oper} (hself : SelfOK P s) : ∀ (l : List Oper), (∀ o ∈ l, ∀ i, o.dst = some i → i < n) → ∀ (tm : Env) (d : Dx) (t : Hp) (nx : Nat) (m : Inj) (a : Act) (w : World), StR n m tm d t nx a w →
    seqX P s ops.toList l kEnd tm d t nx ≠ .fail → wpList P ops (Post n m d t nx w (seqX P s ops.toList l kEnd tm d t nx)) l a w
  | [], _, tm, d, t, nx, m, a, w, hst, h => ⟨.normal, tm, d, t, nx, m, rfl, rfl, trivial, Goes.refl hst.rel, hst⟩
  | o :: l, hd, tm, d, t, nx, m, a, w, hst, h => by
    have hd0 := hd o (List.mem_cons_self ..)
    have ih := seq_ok (ops := ops) hself l fun o ho => hd o (List.mem_cons_of_mem _ ho)
    have e0 : seqX P s ops.toList (o :: l) kEnd tm d t nx = guardX ops.toList o.guard tm (disp o.op P s o (seqX P s ops.toList l kEnd) tm d t nx) (done o undefV (seqX P s ops.toList l kEnd) tm d t nx) := rfl
    rw [e0] at h ⊢
    rcases guard_ok (o := o) hst.env h with ⟨e1, hw⟩ | ⟨e1, hw⟩
    · rw [e1] at h ⊢
      simp only [wpList, hw, if_true]
      left
      rcases op_ok hself hst hd0 h (Post n m d t nx w (disp o.op P s o (seqX P s ops.toList l kEnd) tm d t nx)) with ⟨v, d', t', nx', h1, h2, h3⟩ | ⟨v, t', nx', h1, h2⟩
      · refine h3 _ fun a' w' m' hg hs' _ => ?_
        have hne : seqX P s ops.toList l kEnd (putT tm o.dst v) d' t' nx' ≠ .fail := h1 ▸ h
        have := ih _ _ _ _ m' a' w' hs' hne
        rw [h1]
        exact wpList_mono' (fun e a w hp => Post.trans hg h2 hp) l _ _ this
      · refine h2 _ fun w' m' hg hv => ?_
        rw [h1]
        exact ⟨.panic v, tm, d, t', nx', m', rfl, rfl, ⟨rfl, hv⟩, hg, hg.rel, hst.env.ext hg.agree (Lt.mono hg.up), hst.defs.ext hg.agree (Lt.mono hg.up), hst.size⟩
    · rw [e1] at h ⊢
      simp only [wpList, hw, Bool.false_eq_true, if_false]
      rw [done_eq] at h ⊢
      exact ih _ _ _ _ m _ w (hst.next (Goes.refl hst.rel) (v := undefV) (dst := o.dst) trivial hd0) h
end Go.X
end

section
/- The reckoner: code. -/
namespace Go.X
open Go
variable {P : Program} {s : CallT}

/-- Regions whose order is drawn do what the reckoner says. -/
def DrawOK (P : Program) : Prop := ∀ (n : Nat) (self : CallT) (id : Nat) (ops : Array Oper) (tm : Env) (d : Dx) (t : Hp) (nx : Nat) (m : Inj) (a : Act) (w : World), SelfOK P self → okOps n ops.toList = true →
  StR n m tm d t nx a w → drawX P self ops.toList kEnd tm d t nx ≠ .fail → (Code.region id ops true).wp P (Post n m d t nx w (drawX P self ops.toList kEnd tm d t nx)) a w

/-- What code comes to, wherever it is begun. -/
def KOK (P : Program) (n : Nat) (c : Code) (kx : K) : Prop := ∀ (tm : Env) (d : Dx) (t : Hp) (nx : Nat) (m : Inj) (a : Act) (w : World), StR n m tm d t nx a w → kx tm d t nx ≠ .fail → c.wp P (Post n m d t nx w (kx tm d t nx)) a w

theorem post_here {n : Nat} {m : Inj} {tm : Env} {d : Dx} {t : Hp} {nx : Nat} {a : Act} {w : World} {out : Out} {e : Exit} (hst : StR n m tm d t nx a w) (he : ExitR m (Lt nx) out e) : Post n m d t nx w (.go out tm d t nx) e a w :=
  ⟨out, tm, d, t, nx, m, rfl, rfl, he, Goes.refl hst.rel, hst⟩

theorem goR_fail {r : R} {kx : K} (h : goR r kx ≠ .fail) : r ≠ .fail := fun e => by rw [e] at h; exact absurd rfl h

/-- What follows, follows. -/
theorem goR_then {n : Nat} {m : Inj} {d : Dx} {t : Hp} {nx : Nat} {w : World} {r : R} {kx : K} {Kp : Act → World → Prop} (h : goR r kx ≠ .fail)
    (hK : ∀ (tm' : Env) (d' : Dx) (t' : Hp) (nx' : Nat) (m' : Inj) (a' : Act) (w' : World), r = .go .normal tm' d' t' nx' → goR r kx = kx tm' d' t' nx' → d'.pan = d.pan → Goes m t nx w m' t' nx' w' → StR n m' tm' d' t' nx' a' w' → Kp a' w')
    {e : Exit} {a' : Act} {w' : World} (hp : Post n m d t nx w r e a' w') : Exit.then Kp (Post n m d t nx w (goR r kx)) e a' w' := by
  obtain ⟨out, tm', d', t', nx', m', rfl, h2, h3, h4, h5⟩ := hp
  cases out with
  | normal =>
    cases e <;> first
      | exact h3.elim
      | exact hK tm' d' t' nx' m' a' w' rfl rfl h2 h4 h5
  | exit i =>
    cases e <;> first
      | exact h3.elim
      | exact ⟨.exit i, tm', d', t', nx', m', rfl, h2, h3, h4, h5⟩
  | ret =>
    cases e <;> first
      | exact h3.elim
      | exact ⟨.ret, tm', d', t', nx', m', rfl, h2, h3, h4, h5⟩
  | panic v =>
    cases e <;> first
      | exact h3.elim
      | exact ⟨.panic v, tm', d', t', nx', m', rfl, h2, h3, h4, h5⟩

theorem block_post {n : Nat} {m : Inj} {d : Dx} {t : Hp} {nx : Nat} {w : World} {r : R} {id : Nat} {e : Exit} {a' : Act} {w' : World} (hp : Post n m d t nx w r e a' w') : Exit.inBlock id (Post n m d t nx w (blockR id r)) e a' w' := by
  obtain ⟨out, tm', d', t', nx', m', rfl, h2, h3, h4, h5⟩ := hp
  cases out with
  | normal =>
    cases e <;> first
      | exact h3.elim
      | exact ⟨.normal, tm', d', t', nx', m', rfl, h2, trivial, h4, h5⟩
  | exit i =>
    cases e <;> first
      | exact h3.elim
      | skip
    rename_i j
    have hij : i = j := h3
    subst hij
    simp only [Exit.inBlock]
    have hb : blockR id (.go (.exit i) tm' d' t' nx') = bel (Nat.beq i id) (.go .normal tm' d' t' nx') (.go (.exit i) tm' d' t' nx') := rfl
    rw [hb]
    by_cases hi : i = id
    · rw [if_pos hi, beqN, decide_eq_true hi]
      exact ⟨.normal, tm', d', t', nx', m', rfl, h2, trivial, h4, h5⟩
    · rw [if_neg hi, beqN, decide_eq_false hi]
      exact ⟨.exit i, tm', d', t', nx', m', rfl, h2, rfl, h4, h5⟩
  | ret =>
    cases e <;> first
      | exact h3.elim
      | exact ⟨.ret, tm', d', t', nx', m', rfl, h2, h3, h4, h5⟩
  | panic v =>
    cases e <;> first
      | exact h3.elim
      | exact ⟨.panic v, tm', d', t', nx', m', rfl, h2, h3, h4, h5⟩

theorem loop_rounds {n : Nat} {b : Code} {kx : K} (hb : KOK P n b kx) : ∀ (j : Nat) (tm : Env) (d : Dx) (t : Hp) (nx : Nat) (m : Inj) (a : Act) (w : World), StR n m tm d t nx a w → loopR kx j tm d t nx ≠ .fail →
    ∀ (Q : Exit → Act → World → Prop), (∀ e a' w', Post n m d t nx w (loopR kx j tm d t nx) e a' w' → Q e a' w') → Code.rounds P b Q j a w
  | 0, _, _, _, _, _, _, _, _, h, _, _ => absurd rfl h
  | j + 1, tm, d, t, nx, m, a, w, hst, h, Q, hQ => by
    have e0 : loopR kx (j + 1) tm d t nx = goR (kx tm d t nx) (loopR kx j) := rfl
    rw [e0] at h hQ
    rw [rounds_succ]
    refine wp_mono (hb tm d t nx m a w hst (goR_fail h)) fun e a' w' hp => ?_
    have := goR_then (Kp := Code.rounds P b Q j) h (fun tm' d' t' nx' m' a' w' _ heq hpan hg hs' => by
      refine loop_rounds hb j tm' d' t' nx' m' a' w' hs' (heq ▸ h) Q fun e a'' w'' hp => hQ e a'' w'' ?_
      rw [heq]
      exact Post.trans hg hpan hp) hp
    cases e <;> first
      | exact this
      | exact hQ _ _ _ this

theorem code_ok {n : Nat} (hdraw : DrawOK P) (hself : SelfOK P s) : ∀ (c : Code), okCode n c = true → KOK P n c (codeX P s c)
  | .skip, _ => fun tm d t nx m a w hst h => wp_skip (post_here hst trivial)
  | .region id ops draw, hok => fun tm d t nx m a w hst h => by
    have hok' : okOps n ops.toList = true := hok
    have e0 : codeX P s (.region id ops draw) tm d t nx = bel draw (drawX P s ops.toList kEnd tm d t nx) (seqX P s ops.toList ops.toList kEnd tm d t nx) := by
      cases draw <;> rfl
    rw [e0] at h ⊢
    cases draw with
    | true => exact hdraw n s id ops tm d t nx m a w hself hok' hst h
    | false => exact wp_region_list (seq_ok hself ops.toList (okOps_mem hok') tm d t nx m a w hst h)
  | .seq x y, hok => fun tm d t nx m a w hst h => by
    have hok' : bel (okCode n x) (okCode n y) false = true := hok
    have hx : okCode n x = true := by cases hx : okCode n x <;> rw [hx] at hok' <;> first | rfl | cases hok'
    have hy : okCode n y = true := by rw [hx] at hok'; exact hok'
    have e0 : codeX P s (.seq x y) tm d t nx = goR (codeX P s x tm d t nx) (codeX P s y) := rfl
    rw [e0] at h ⊢
    refine wp_seq (wp_mono (code_ok hdraw hself x hx tm d t nx m a w hst (goR_fail h)) fun e a' w' hp => ?_)
    refine goR_then h (fun tm' d' t' nx' m' a' w' _ heq hpan hg hs' => ?_) hp
    rw [heq] at h ⊢
    exact wp_mono (code_ok hdraw hself y hy tm' d' t' nx' m' a' w' hs' h) fun e a'' w'' hp => Post.trans hg hpan hp
  | .cond c x y, hok => fun tm d t nx m a w hst h => by
    have hok' : bel (okCode n x) (okCode n y) false = true := hok
    have hx : okCode n x = true := by cases hx : okCode n x <;> rw [hx] at hok' <;> first | rfl | cases hok'
    have hy : okCode n y = true := by rw [hx] at hok'; exact hok'
    have e0 : codeX P s (.cond c x y) tm d t nx = ev c tm (fun v => onBool v (codeX P s x tm d t nx) (codeX P s y tm d t nx) .fail) .fail := rfl
    rw [e0] at h ⊢
    obtain ⟨v, hv, e⟩ := ev_fail h; rw [e] at h ⊢; clear e
    obtain ⟨b, rfl⟩ := onBool_fail h
    simp only [onBool_bool] at h ⊢
    have hc := (evO_gam hv hst.env).1
    cases b with
    | true => exact wp_cond_true hc (code_ok hdraw hself x hx tm d t nx m a w hst h)
    | false => exact wp_cond_false hc (code_ok hdraw hself y hy tm d t nx m a w hst h)
  | .block id b, hok => fun tm d t nx m a w hst h => by
    have e0 : codeX P s (.block id b) tm d t nx = blockR id (codeX P s b tm d t nx) := rfl
    rw [e0] at h ⊢
    have hne : codeX P s b tm d t nx ≠ .fail := fun e => by rw [e] at h; exact absurd rfl h
    exact wp_block (wp_mono (code_ok hdraw hself b hok tm d t nx m a w hst hne) fun e a' w' hp => block_post hp)
  | .loop b, hok => fun tm d t nx m a w hst h => by
    have e0 : codeX P s (.loop b) tm d t nx = loopR (codeX P s b) 100000 tm d t nx := rfl
    rw [e0] at h ⊢
    exact wp_loop_rounds 100000 (loop_rounds (code_ok hdraw hself b hok) 100000 tm d t nx m a w hst h _ fun _ _ _ hp => hp)
  | .rangeFunc _ _ _ _, _ => fun tm d t nx m a w hst h => absurd rfl h
  | .exit id, _ => fun tm d t nx m a w hst h => wp_exit (post_here hst rfl)
  | .scope b, hok => fun tm d t nx m a w hst h => by
    have e0 : codeX P s (.scope b) tm d t nx = codeX P s b tm d t nx := rfl
    rw [e0] at h ⊢
    refine wp_scope_straight (wp_mono (code_ok hdraw hself b hok tm d t nx m a w hst h) fun e a' w' hp => ?_)
    cases e with
    | goto l =>
      obtain ⟨out, tm', d', t', nx', m', _, _, h3, _, _⟩ := hp
      cases out <;> exact h3.elim
    | _ => exact hp
  | .label _, _ => fun tm d t nx m a w hst h => wp_label (post_here hst trivial)
  | .goto _, _ => fun tm d t nx m a w hst h => absurd rfl h
  | .ret, _ => fun tm d t nx m a w hst h => wp_ret (post_here hst trivial)
  | .refuse _, _ => fun tm d t nx m a w hst h => absurd rfl h
end Go.X
end
