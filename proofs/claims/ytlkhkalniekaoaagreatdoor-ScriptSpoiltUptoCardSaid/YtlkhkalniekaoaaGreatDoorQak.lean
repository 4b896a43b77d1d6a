/- Parts of the proof: XDrawP, XAwake, XStart, XSlice, XExtB, XRowU. -/
import Derived.Lib.LaidU8
import Derived.Shelf.Strings.Builder1
import Derived.Deep.DeepHandedRow
import Derived.LaidLaws
import Derived.Test.YtlkhkalniekaoaaGreatDoorQaj
import Derived.Test.YtlkhkalniekaoaaGreatDoorQah

set_option linter.unusedVariables false
set_option linter.unusedSimpArgs false

section
/- The reckoner: regions whose order is drawn do what it says. -/
namespace Go.X
open Go
variable {P : Program} {s : CallT}

theorem unsetK_ok : ∀ (l : List Item) (tm : Env), ∃ tm' : Env, (∀ c : Env → R, unsetK l tm c = c tm') ∧ (∀ i v, tm'.get i = some v → tm.get i = some v) ∧ (∀ z ∈ l, ∀ dd, z.o.dst = some dd → tm'.get dd = none)
  | [], tm => ⟨tm, fun _ => rfl, fun _ _ h => h, by simp⟩
  | z :: l, tm => by
    have e0 : ∀ c : Env → R, unsetK (z :: l) tm c = oel z.o.dst (fun d => tm.setK d none fun tm => unsetK l tm c) (unsetK l tm c) := fun _ => rfl
    cases hd : z.o.dst with
    | none =>
      obtain ⟨tm', h1, h2, h3⟩ := unsetK_ok l tm
      refine ⟨tm', fun c => by rw [e0, hd, oel_none, h1], h2, fun y hy dd hdd => ?_⟩
      rcases List.mem_cons.1 hy with e | hy
      · rw [e, hd] at hdd; cases hdd
      · exact h3 y hy dd hdd
    | some q =>
      obtain ⟨tm', h1, h2, h3⟩ := unsetK_ok l (tm.set q none)
      have hq : tm'.get q = none := by
        cases hg : tm'.get q with
        | none => rfl
        | some v =>
          have := h2 q v hg
          rw [Tr.get_set, if_pos rfl] at this
          cases this
      refine ⟨tm', fun c => by rw [e0, hd, oel_some, Tr.setK_eq]; exact h1 c, fun i v hi => ?_, fun y hy dd hdd => ?_⟩
      · have := h2 i v hi
        rw [Tr.get_set] at this
        split at this
        · cases this
        · exact this
      · rcases List.mem_cons.1 hy with e | hy
        · rw [e, hd] at hdd; cases hdd; exact hq
        · exact h3 y hy dd hdd

theorem chainOk_pw : ∀ {l : List Item}, chainOk l = true → l.Pairwise fun x y => hasBit y.bef x.i = true
  | [], _ => .nil
  | x :: r, h => by
    have h : andB (r.all fun y => hasBit y.bef x.i) (chainOk r) = true := h
    simp only [andB_eq, Bool.and_eq_true] at h
    exact List.pairwise_cons.2 ⟨all_mem h.1, chainOk_pw h.2⟩

/-- What is asked of a tail. -/
structure SplitOK (rest es : List Item) (et : List Item × List Item) : Prop where
  app : et.1 ++ et.2 = es
  chain : et.1.Pairwise fun x y => hasBit y.bef x.i = true
  guard : ∀ q ∈ et.2, q.o.guard = none
  bef : ∀ q ∈ et.2, ∀ e ∈ et.1, hasBit q.bef e.i = true
  pure : ∀ x ∈ rest, inAll et.2 x = false → x.cl = .p
  apart : ∀ x ∈ rest, ∀ q ∈ et.2, hasBit x.bef q.i = false

theorem isP_cl {x : Item} (h : x.isP = true) : x.cl = .p := by
  unfold Item.isP at h
  cases hc : x.cl <;> rw [hc] at h <;> first | rfl | cases h
theorem isE_cl {x : Item} : x.isE = true ↔ x.cl = .e := by
  unfold Item.isE
  cases x.cl <;> simp

theorem split_take {rest es : List Item} {k : Nat} (h1 : chainOk (es.take k) = true) (h2 : tailOk rest (es.take k) (es.drop k) = true) : SplitOK rest es (es.take k, es.drop k) := by
  unfold tailOk at h2
  simp only [andB_eq, Bool.and_eq_true] at h2
  obtain ⟨h3, h4⟩ := h2
  refine ⟨List.take_append_drop k es, chainOk_pw h1, fun q hq => ?_, fun q hq => ?_, fun x hx hi => ?_, fun x hx q hq => ?_⟩
  · have := all_mem h3 q hq
    simp only [Bool.and_eq_true] at this
    cases hg : q.o.guard with
    | none => rfl
    | some g => rw [hg] at this; exact absurd this.2.1 (by simp [notB, bel])
  · have := all_mem h3 q hq
    simp only [Bool.and_eq_true] at this
    exact all_mem this.2.2
  · have := all_mem h4 x hx
    simp only [Bool.and_eq_true] at this
    have h5 := this.1
    have hi : inAll (es.drop k) x = false := hi
    rw [hi, bel_false] at h5
    exact isP_cl h5
  · have := all_mem h4 x hx
    simp only [Bool.and_eq_true] at this
    exact notB_true (all_mem this.2 q hq)

theorem split_ok {rest es : List Item} {et : List Item × List Item} (h : splitTail rest es = some et) : SplitOK rest es et := by
  unfold splitTail at h
  cases h1 : chainOk es with
  | true =>
    rw [h1, bel_true] at h
    cases h
    refine ⟨List.append_nil es, chainOk_pw h1, fun q hq => ?_, fun q hq => ?_, fun x _ hi => ?_, fun x _ q hq => ?_⟩
    · cases hq
    · cases hq
    · cases hi
    · cases hq
  | false =>
    rw [h1, bel_false] at h
    cases h2 : andB (chainOk (es.take (es.length - 2))) (tailOk rest (es.take (es.length - 2)) (es.drop (es.length - 2))) with
    | true =>
      rw [h2, bel_true] at h
      cases h
      simp only [andB_eq, Bool.and_eq_true] at h2
      exact split_take h2.1 h2.2
    | false =>
      rw [h2, bel_false] at h
      cases h3 : andB (chainOk (es.take (es.length - 3))) (tailOk rest (es.take (es.length - 3)) (es.drop (es.length - 3))) with
      | true =>
        rw [h3, bel_true] at h
        cases h
        simp only [andB_eq, Bool.and_eq_true] at h3
        exact split_take h3.1 h3.2
      | false => rw [h3, bel_false] at h; cases h

theorem lastRest_sub : ∀ {es rest : List Item}, ∀ x ∈ lastRest rest es, x ∈ rest
  | [], _, _, h => h
  | _ :: es, _, x, h => (List.mem_filter.1 (lastRest_sub (es := es) x h)).1

theorem lst_none (k : Nat) (j : Nat) : ¬ Lst (Array.replicate k false) j := by
  unfold Lst
  rw [Array.getD_eq_getD_getElem?]
  rcases Nat.lt_or_ge j k with h | h
  · simp [h]
  · simp [Nat.not_lt.2 h]

theorem draw_ok (hm : P.follows .mixedOrders = true) : DrawOK P := by
  intro n self id ops tm d t nx m a w hself hok hst h
  refine wp_region_any hm ?_
  generalize hr : drawX P self ops.toList kEnd tm d t nx = r at h ⊢
  subst hr
  unfold drawX at h ⊢
  obtain ⟨p, hp, e⟩ := oel_fail h
  rw [e] at h ⊢
  clear e
  unfold planOf at hp
  dsimp only at hp
  cases hb : andB (befsOk (items P (befs ops.toList []) ops.toList 0)) (andB (tempsOk ops.toList (items P (befs ops.toList []) ops.toList 0)) (dstsOk (items P (befs ops.toList []) ops.toList 0))) with
  | false => rw [hb, bel_false] at hp; cases hp
  | true =>
    rw [hb, bel_true] at hp
    simp only [andB_eq, Bool.and_eq_true] at hb
    have hF := fix_of hb.1 hb.2.1 hb.2.2
    generalize items P (befs ops.toList []) ops.toList 0 = its at hp hF
    cases hs : splitTail (its.filter fun x => notB x.isE) (its.filter Item.isE) with
    | none => rw [hs] at hp; cases hp
    | some et =>
      rw [hs, oel_some] at hp
      have hp := (Option.some.inj hp).symm
      subst hp
      rw [planX_eq] at h ⊢
      dsimp only at h ⊢
      have hS := split_ok hs
      obtain ⟨tm', u1, u2, u3⟩ := unsetK_ok (its.filter fun z => notB (lastOne its z)) tm
      rw [u1] at h ⊢
      have hesin : ∀ e ∈ et.1 ++ et.2, e ∈ its ∧ e.cl = .e := fun e he => by
        rw [hS.app] at he
        exact ⟨(List.mem_filter.1 he).1, isE_cl.1 (List.mem_filter.1 he).2⟩
      have hrest : ∀ x ∈ its.filter (fun x => notB x.isE), x ∈ its ∧ x.cl ≠ .e := fun x hx => by
        obtain ⟨h1, h2⟩ := List.mem_filter.1 hx
        exact ⟨h1, fun hc => by rw [isE_cl.2 hc] at h2; cases h2⟩
      have hT : TailC its et.2 (lastRest (its.filter fun x => notB x.isE) et.1) :=
        ⟨fun q hq => (hesin q (List.mem_append_right _ hq)).1, hS.guard, fun x hx => hS.pure x (lastRest_sub x hx), fun x hx => hS.apart x (lastRest_sub x hx)⟩
      obtain ⟨fut, rem, ts, hpr, hts, hfa, hrem⟩ := stages_pr hF hself hT et.1 (its.filter fun x => notB x.isE) 0 rfl (by simp) (fun e he => (hesin e (List.mem_append_left _ he)).1) hrest (hF.srt.filter _) [t] tm' d t nx rfl h
      have hq : ∀ q ∈ ts, q.1 ∈ et.2 := fun q hq => by rw [← hts]; exact List.mem_map.2 ⟨q, hq, rfl⟩
      have hdstn : ∀ x ∈ its, ∀ dd, x.o.dst = some dd → dd < n := fun x hx dd hdd => okOps_mem hok x.o (List.mem_of_getElem? (hF.get x hx)) dd hdd
      have htsort : ts.Pairwise fun p q => p.1.i < q.1.i := by
        have h1 : et.2.Pairwise fun x y => x.i < y.i := by
          have h2 : (et.1 ++ et.2).Pairwise fun x y => x.i < y.i := by rw [hS.app]; exact hF.srt.filter _
          exact (List.pairwise_append.1 h2).2.1
        rw [← hts, List.pairwise_map] at h1
        exact h1
      have hM : MF P ops its n et.1 ts := ⟨hF, hdstn, fun e he => hesin e (List.mem_append_left _ he), hS.chain, fun q hq' => hesin q.1 (List.mem_append_right _ (hq q hq')), fun q hq' e he => hS.bef q.1 (hq q hq') e he, fun q hq q' hq' e => by
        apply Classical.byContradiction
        intro hne
        rcases pairwise_either htsort q hq q' hq' hne with h | h <;> omega⟩
      have hgo : Goes m t nx w m t nx { w with drawn := w.drawn + 1 } :=
        ⟨Inj.agree.refl m _, ⟨hst.rel.blk, hst.rel.inj⟩, Nat.le_refl _, Nat.le_refl _, fun _ _ _ => rfl, fun _ _ h => h, fun b hb' hl => absurd (hst.rel.below hl) (Nat.not_lt.2 hb'), rfl, rfl, rfl, Still.same (fun _ _ _ => .inl rfl) (fun _ _ _ _ => rfl)⟩
      refine main_ok hM ops.size (Array.replicate ops.size false) [t] tm' t nx fut rem et.1 m a _ ⟨hpr, ⟨[], rfl⟩, ⟨[], rfl, rfl⟩, fun f hf => ⟨(hrest _ (hfa f hf).1).1, (hfa f hf).2⟩, fun f hf => (hrest _ (hfa f hf).1).2, fun x hx => ?_, fun e _ => lst_none _ _, fun q _ => lst_none _ _, fun f hf dd hdd => ?_, ?_⟩ ⟨by simp, fun i o hi => absurd hi (lst_none _ _), ?_⟩
      · right
        cases hE : x.isE with
        | true =>
          have : x ∈ et.1 ++ et.2 := by rw [hS.app]; exact List.mem_filter.2 ⟨hx, hE⟩
          rcases List.mem_append.1 this with h | h
          · exact .inr (.inl h)
          · rw [← hts] at h
            obtain ⟨q, hq, e⟩ := List.mem_map.1 h
            exact .inr (.inr ⟨q, hq, e⟩)
        | false => exact .inl (hrem x (List.mem_filter.2 ⟨hx, by rw [hE]; rfl⟩))
      · cases hl : lastOne its f.x with
        | false => exact .inl (u3 f.x (List.mem_filter.2 ⟨(hrest _ (hfa f hf).1).1, by rw [hl]; rfl⟩) dd hdd)
        | true =>
          right
          intro y hy hne
          have := all_mem hl y hy
          cases hbq : Nat.beq y.i f.x.i with
          | true => exact absurd (Nat.eq_of_beq_eq_true hbq) hne
          | false => rw [hbq, bel_false] at this; exact this
      · exact ⟨hgo, hst.h64, fun i v hi _ => (hst.env.at_ i v (u2 i v hi)).1, fun i v hi => (hst.env.at_ i v (u2 i v hi)).2, hst.defs, hst.size, fun f _ hL => absurd hL (lst_none _ _), fun f _ hL => absurd hL (lst_none _ _), fun f _ g _ hL => absurd hL (lst_none _ _)⟩
      · have := List.countP_le_length (p := fun b : Bool => !b) (l := (Array.replicate ops.size false).toList)
        unfold unl
        simpa using this
end Go.X
end

section
/- The reckoner: fixed runs over the heap of package-level variables. -/
namespace Go.X
open Go
variable {P : Program}

/-! ### Heaps held against each other -/
noncomputable section
def trEq {α : Type} (f : α → α → Bool) : Tr α → Tr α → Bool
  | .nil, .nil => true
  | .node a x b, .node c y d => andB (trEq f a c) (andB (trEq f b d) (match x, y with | none, none => true | some x, some y => f x y | _, _ => false))
  | _, _ => false
def pairsEq : List (V × V) → List (V × V) → Bool
  | [], [] => true
  | x :: l, y :: m => andB (sameC x.1 y.1) (andB (sameC x.2 y.2) (pairsEq l m))
  | _, _ => false
def blkEq : Blk → Blk → Bool
  | .cells ty ch n fz els, .cells ty' ch' n' fz' els' => andB (Nat.beq ty ty') (andB (Nat.beq ch ch') (andB (Nat.beq n n') (andB (Nat.beq fz fz') (trEq sameL els els'))))
  | .lmap a, .lmap b => pairsEq a b
  | _, _ => false
def hpEq : Hp → Hp → Bool := trEq blkEq
end

theorem trEq_eq {α : Type} {f : α → α → Bool} (hf : ∀ x y, f x y = true → x = y) : ∀ {s t : Tr α}, trEq f s t = true → s = t
  | .nil, .nil, _ => rfl
  | .node a x b, .node c y d, h => by
    unfold trEq at h
    simp only [andB_eq, Bool.and_eq_true] at h
    rw [trEq_eq hf h.1, trEq_eq hf h.2.1]
    have h3 := h.2.2
    cases x <;> cases y <;> first
      | rfl
      | cases h3
      | rw [hf _ _ h3]
  | .nil, .node .., h => by cases h
  | .node .., .nil, h => by cases h
theorem pairsEq_eq : ∀ {l m : List (V × V)}, pairsEq l m = true → l = m
  | [], [], _ => rfl
  | x :: l, y :: m, h => by
    unfold pairsEq at h
    simp only [andB_eq, Bool.and_eq_true] at h
    have h1 := sameC_eq h.1
    have h2 := sameC_eq h.2.1
    obtain ⟨a, b⟩ := x
    obtain ⟨c, d⟩ := y
    simp only at h1 h2
    rw [h1, h2, pairsEq_eq h.2.2]
  | [], _ :: _, h => by cases h
  | _ :: _, [], h => by cases h
theorem blkEq_eq {x y : Blk} (h : blkEq x y = true) : x = y := by
  cases x <;> cases y <;> first
    | cases h
    | skip
  · unfold blkEq at h
    simp only [andB_eq, Bool.and_eq_true] at h
    obtain ⟨h1, h2, h3, h4, h5⟩ := h
    rw [Nat.eq_of_beq_eq_true h1, Nat.eq_of_beq_eq_true h2, Nat.eq_of_beq_eq_true h3, Nat.eq_of_beq_eq_true h4, trEq_eq (fun _ _ => sameL_eq) h5]
  · exact congrArg Blk.lmap (pairsEq_eq h)
theorem hpEq_eq {s t : Hp} (h : hpEq s t = true) : s = t := trEq_eq (fun _ _ => blkEq_eq) h

/-! ### The names of a heap -/
/-- The names below n that a heap holds. -/
noncomputable def heldB (n : Nat) (t : Hp) : List Nat := (List.range n).filter fun b => (t.get b).isSome
/-- A heap's values name nothing but what is below n. -/
noncomputable def lowV (n : Nat) (v : V) : Bool := match v with
  | .bool _ => true | .int _ _ => true | .str _ _ => true | .nilp => true | .nils => true | .nilm => true | .nilf => true | .nili => true
  | .map b => Nat.ble (Nat.succ b) n
  | _ => false
theorem lowV_ok {n : Nat} {v : V} (h : lowV n v = true) (m : Inj) : okV m (Lt n) v := by
  cases v <;> first
    | trivial
    | exact Nat.le_of_ble_eq_true h
    | cases h
def Low (N : Nat) (T : Hp) : Prop := ∀ b x, T.get b = some x → b < N ∧ ∀ m, okB m (Lt N) x

/-- The heap of the package-level variables stands for the world, whatever else there is. -/
theorem Rel.low {m : Inj} {T : Hp} {N nx : Nat} {w : World} (hT : Low N T) (h : Rel m T nx w) : Rel m T N w :=
  ⟨fun b x hx => ⟨(hT b x hx).1, (h.blk b x hx).2.of_okB ((hT b x hx).2 m)⟩, h.inj⟩

/-- What a run leaves of the variables' heap. -/
theorem goes_back {m m' : Inj} {T t' : Hp} {N nx nx' : Nat} {w w' : World} (hT : Low N T) (hr : Rel m T nx w) (hg : Goes m T N w m' t' nx' w') (hsub : ∀ b x, T.get b = some x → t'.get b = some x) : Goes m T nx w m T nx w' := by
  have hrel : Rel m T nx w' := by
    refine ⟨fun b x hx => ⟨(hr.blk b x hx).1, ?_⟩, hr.inj⟩
    obtain ⟨h1, h2⟩ := hT b x hx
    obtain ⟨_, k2⟩ := hg.rel.blk b x (hsub b x hx)
    rw [(hg.agree b h1).1] at k2
    have hlt : ∀ c, c < N → m'.ρ c = m.ρ c ∧ m'.κ c = m.κ c := fun c hc => hg.agree c hc
    have back : m'.agree m (Lt N) := fun c hc => ⟨(hlt c hc).1.symm, (hlt c hc).2.symm⟩
    have k3 : BlkR m (Lt N) b x w'.heap[m.ρ b]? := (k2.of_okB (h2 m')).ext back (fun _ h => h) h1
    have k4 := (hr.blk b x hx).2
    -- what the old one named is there
    cases x with
    | cells ty ch n fz els =>
      obtain ⟨c, fr, o, a1, a2, a3, a4, a5⟩ := k3
      obtain ⟨_, _, _, _, _, _, b4, _⟩ := k4
      exact ⟨c, fr, o, a1, a2, a3, fun off v hv => ⟨(a4 off v hv).1, (b4 off v hv).2.1, (a4 off v hv).2.2⟩, a5⟩
    | map es cl => exact ⟨k3.1, k4.2⟩
    | lmap es =>
      obtain ⟨ces, cl, o, a1, a2, a3⟩ := k3
      obtain ⟨_, _, _, _, _, b3⟩ := k4
      exact ⟨ces, cl, o, a1, a2, b3⟩
    | miter mm since seen =>
      obtain ⟨st, o, a1, _⟩ := k3
      obtain ⟨_, _, _, b2⟩ := k4
      exact ⟨st, o, a1, b2⟩
  exact ⟨Inj.agree.refl m _, hrel, Nat.le_refl _, hg.size, hg.keep, fun _ _ h => h, fun b hb hl => absurd (hr.below hl) (Nat.not_lt.2 hb), hg.tape, hg.os, hg.output, fun b x _ hx => by
    rcases hg.still b x (hT b x hx).1 hx with h | ⟨_, h⟩
    · rw [hsub b x hx] at h; cases h
    · exact .inr ⟨fun _ _ => hx, h⟩⟩

/-! ### A fixed fact: a function that says true -/
def SaysTrue (P : Program) (T : Hp) (f : FuncId) : Prop := ∀ (m : Inj) (w : World) (nx : Nat), 64 ≤ nx → Rel m T nx w → CallsF P f #[] w fun e w' => e = .returned (.bool true) ∧ Goes m T nx w m T nx w'

noncomputable def saidTrue (T : Hp) (names : List Nat) (cr : CR) : Bool := match cr with
  | .ret (.bool true) t' _ _ => names.all fun b => match T.get b, t'.get b with | some x, some y => blkEq x y | _, _ => false
  | _ => false

theorem says_of {T : Hp} {N : Nat} {names : List Nat} (h64 : 64 ≤ N) (hT : Low N T) (hn : ∀ b x, T.get b = some x → b ∈ names) (hm : P.follows .mixedOrders = true) (hN : NoCounter P) {ext : Ext} (hext : ExtOK P ext) {k : Nat} {f : FuncId}
    (h : saidTrue T names (callX P ext k f [] none T N) = true) : SaysTrue P T f := by
  intro m w nx hnx hr
  have hself := (callX_ok (draw_ok hm) hN hext k).1
  unfold saidTrue at h
  split at h
  · rename_i t' nx' pan hcr
    have hne : callX P ext k f [] none T N ≠ .fail := by rw [hcr]; simp
    have := hself f [] T N hne m w h64 (hr.low hT) trivial
    rw [hcr] at this
    refine this.mono fun e w' ⟨m', he, hg, _⟩ => ⟨by rw [he]; rfl, goes_back hT hr hg fun b x hx => ?_⟩
    have hb := all_mem h b (hn b x hx)
    rw [hx] at hb
    cases hy : t'.get b with
    | none => rw [hy] at hb; cases hb
    | some y => rw [hy] at hb; rw [blkEq_eq hb]
  · cases h

/-- It, as a contract in the reckoner. -/
noncomputable def xSays (T : Hp) (args : List V) (t : Hp) (nx : Nat) : CR :=
  match args with
  | [] => bel (hpEq t T) (.ret (.bool true) t nx none) .fail
  | _ => .fail
theorem xSays_ok {T : Hp} {f : FuncId} (hf : SaysTrue P T f) : ∀ (l : List V) (t : Hp) (nx : Nat) (m : Inj) (w : World), xSays T l t nx ≠ .fail → 64 ≤ nx → Rel m t nx w → okL m (Lt nx) l → CallsF P f (gamL m l).toArray w (CPost m t nx w (xSays T l t nx)) := by
  intro l t nx m w h h64 hr _
  unfold xSays at h ⊢
  split at h
  · obtain ⟨hb, e⟩ := cbel_fail h
    rw [e]
    have := hpEq_eq hb
    subst this
    refine (hf m w nx h64 hr).mono fun e w' ⟨h1, h2⟩ => ?_
    subst h1
    exact ⟨m, by rw [gam], h2, trivial⟩
  · exact absurd rfl h

/-- One contract more. -/
noncomputable def addExt (f : FuncId) (g : List V → Hp → Nat → CR) (e : Ext) : Ext := fun k => bel (Nat.beq k f) (some g) (e k)
theorem addExt_ok {f : FuncId} {g : List V → Hp → Nat → CR} {e : Ext} (he : ExtOK P e)
    (hg : ∀ (l : List V) (t : Hp) (nx : Nat) (m : Inj) (w : World), g l t nx ≠ .fail → 64 ≤ nx → Rel m t nx w → okL m (Lt nx) l → CallsF P f (gamL m l).toArray w (CPost m t nx w (g l t nx))) : ExtOK P (addExt f g e) := by
  intro k g' h
  unfold addExt at h
  cases hb : Nat.beq k f with
  | true =>
    rw [hb, bel_true] at h
    have := Nat.eq_of_beq_eq_true hb
    subst this
    cases h
    exact hg
  | false =>
    rw [hb, bel_false] at h
    exact he k g' h
theorem noExt_ok : ExtOK P (fun _ => none) := fun _ _ h => by cases h

end Go.X
end

section
/- The reckoner: the package-level variables' heap at a call's start. -/
namespace Go.X
open Go
variable {P : Program} {W : World}

theorem laidVars_mem : ∀ {laid : List (String × DataW Unit)} {ps : List MemPlace}, DataW.LaidVars P W laid ps → ∀ {n : String} {d : DataW Unit}, (n, d) ∈ laid →
    ∃ g t cs fuel p, P.globalNamed n = some g ∧ (P.globals[g]?).map (·.type) = some t ∧ W.var? P n = some cs ∧ DataW.trod (fun _ => ()) P W 0 (fun _ => true) false fuel t cs.toList = some (d, p)
  | [], _, _, _, _, h => by cases h
  | (n', d') :: r, ps, ⟨g, t, cs, fuel, p, q, h1, h2, h3, h4, h5, _⟩, n, d, h => by
    rcases List.mem_cons.1 h with e | h
    · cases e
      exact ⟨g, t, cs, fuel, p, h1, h2, h3, h4⟩
    · exact laidVars_mem h5 h

/-- A variable's cells, as the heap has them. -/
theorem var_cells (hsh : W.ShapedOpen P) {n : String} {g t : Nat} {cs : Array Value} (hg : P.globalNamed n = some g) (hlt : g < P.globals.size) (hz : (((begin P (fun _ _ => 0) default).world.heap[g]?).bind Obj.row?).map (·.2) = some t) (hv : W.var? P n = some cs) : W.heap[g]? = some (.cells cs t (0, 0)) := by
  obtain ⟨⟨zero, t'⟩, h1, h2⟩ := Option.map_eq_some_iff.1 hz
  cases h2
  obtain ⟨cs', h3, _, _⟩ := hsh.1 g zero t' hlt h1
  unfold World.var? at hv
  rw [hg] at hv
  simp only [Option.bind_some, h3] at hv
  cases hv
  exact h3

theorem blk_flat (hsh : W.ShapedOpen P) {laid : List (String × DataW Unit)} {ps : List MemPlace} (hL : DataW.LaidVars P W laid ps) {n : String} {d : DataW Unit} (hmem : (n, d) ∈ laid) {g t : Nat} (hg : P.globalNamed n = some g) (hlt : g < P.globals.size) (ht : (P.globals[g]?).map (·.type) = some t)
    (hz : (((begin P (fun _ _ => 0) default).world.heap[g]?).bind Obj.row?).map (·.2) = some t) {k : Nat} {l : List V} (hd : datumV P k t d = some l) {B : Blk} {ch : Nat} (hB : B = rowB ch t l) (hch : 0 < ch) {nn : Nat} (hk : l.length / ch = nn) (hk2 : nn * ch = l.length) :
    ∀ (m : Inj) (S : Nat → Prop), m.κ g = nn → BlkR m S g B W.heap[g]? := by
  obtain ⟨g', t', cs, fuel, p, h1, h2, h3, h4⟩ := laidVars_mem hL hmem
  obtain rfl := Option.some.inj (hg.symm.trans h1)
  obtain rfl := Option.some.inj (ht.symm.trans h2)
  have hc := var_cells hsh hg hlt hz h3
  have hp := datumV_ok k fuel t d _ p l h4 hd
  intro m S hκ
  rw [hc, hB]
  have hlen : cs.size = l.length := by have := hp.length; simpa using this
  have hb : Nat.beq ch 0 = false := by cases h : Nat.beq ch 0; rfl; exact absurd (Nat.eq_of_beq_eq_true h) (by omega)
  refine rowB_blk (fun j v hj => ?_) (hp.1 m S).2 hp.2 (by rw [hκ, hk]; exact Nat.le_refl _) ?_ (by simp)
  · have := (hp.1 m S).1
    have h5 : cs.toList[j]? = some (gam m v) := by rw [← this, gamL_get, hj]; rfl
    rwa [Array.getElem?_toList] at h5
  · rw [hb, bel_false, hκ, hk2, hlen]; exact Nat.le_refl _

theorem maps_datum {H : Type} {enc : TypeId × Value → H} {base : Nat} {spare : Nat → Bool} {held : Bool} {fuel n : Nat} {t e k ei : TypeId} {kd : IntKind} {cs : List Value} {entss : List (List (Lit × DataW H))} {p : List MemPlace}
    (hu : P.underlying t = some (.array n e)) (he : P.underlying e = some (.map k ei)) (hk : P.underlying k = some .string) (hi : P.underlying ei = some (.int kd)) (hc1 : P.cellsOf e = 1) (hct : P.cellsOf t = n)
    (h : DataW.trod enc P W base spare held fuel t cs = some (.agg (entss.map .map), p)) {ess : List (List (V × V))} (hes : entss.map (fun ents => ents.map entV) = ess.map fun es => es.map some) :
    ∃ bs : List Nat, cs = bs.map (fun b => .map (some b)) ∧ bs.length = ess.length ∧ ∀ (i : Nat) (es : List (V × V)), ess[i]? = some es → ∃ b ces cl, bs[i]? = some b ∧ W.heap[b]? = some (.map ces cl) ∧ ∀ m : Inj, (ces.toList.map fun e => (e.key, e.val)).Perm (es.map fun e => (gam m e.1, gam m e.2)) := by
  obtain ⟨xs, fl, rfl, hx, hlen, hxl, hf⟩ := DataW.trod_array hu h
  have hx1 : entss.map .map = xs.map (·.1) := DataW.agg.inj (congrArg Prod.fst hx)
  have hn : entss.length = n := by have := congrArg List.length hx1; simpa [hxl] using this
  have hess : ess.length = n := by have := congrArg List.length hes; simp at this; omega
  have hcl : cs.length = n := by rw [hlen, hct]
  have each : ∀ (i : Nat), i < n → ∃ b, cs[i]? = some (.map (some b)) ∧ ∀ es, ess[i]? = some es → ∃ ces cl, W.heap[b]? = some (.map ces cl) ∧ ∀ m : Inj, (ces.toList.map fun e => (e.key, e.val)).Perm (es.map fun e => (gam m e.1, gam m e.2)) := fun i hin => by
    have h1 := hf i hin
    rw [hc1, Nat.mul_one] at h1
    obtain ⟨x, hxi⟩ : ∃ x, xs[i]? = some x := ⟨xs[i]'(by omega), List.getElem?_eq_getElem _⟩
    obtain ⟨ents, hei⟩ : ∃ ents, entss[i]? = some ents := ⟨entss[i]'(by omega), List.getElem?_eq_getElem _⟩
    obtain ⟨es, hsi⟩ : ∃ es, ess[i]? = some es := ⟨ess[i]'(by omega), List.getElem?_eq_getElem _⟩
    have h2 : x.1 = .map ents := by
      have := congrArg (·[i]?) hx1
      simp only [List.getElem?_map, hxi, hei, Option.map_some] at this
      exact (Option.some.inj this).symm
    have h3 : ents.map entV = es.map some := by
      have := congrArg (·[i]?) hes
      simp only [List.getElem?_map, hei, hsi, Option.map_some] at this
      exact Option.some.inj this
    rw [hxi] at h1
    obtain ⟨d, q⟩ := x
    simp only at h2
    subst h2
    obtain ⟨b, ces, cl, g1, g2, g3⟩ := map_datum he hk hi h1 h3 ⟨fun g => g, fun _ => 0, fun _ _ => rfl⟩
    have hci : cs[i]? = some (.map (some b)) := by
      have := congrArg (·[0]?) g1
      simpa [List.getElem?_take, List.getElem?_drop] using this
    refine ⟨b, hci, fun es' hes' => ?_⟩
    rw [hsi] at hes'
    cases hes'
    obtain ⟨_, ces', cl', g1', g2', _⟩ := map_datum he hk hi h1 h3 ⟨fun g => g, fun _ => 0, fun _ _ => rfl⟩
    refine ⟨ces, cl, g2, fun m => ?_⟩
    obtain ⟨b2, ces2, cl2, k1, k2, k3⟩ := map_datum he hk hi h1 h3 m
    rw [g1] at k1
    have hbb : b = b2 := by simpa using k1
    subst hbb
    rw [g2] at k2
    cases k2
    exact k3
  -- all of them
  have build : ∀ (j : Nat), j ≤ n → ∃ bs : List Nat, cs.take j = bs.map (fun b => .map (some b)) ∧ bs.length = j := by
    intro j
    induction j with
    | zero => exact fun _ => ⟨[], by simp, rfl⟩
    | succ j ih =>
      intro hj
      obtain ⟨bs, h1, h2⟩ := ih (by omega)
      obtain ⟨b, hb, _⟩ := each j (by omega)
      exact ⟨bs ++ [b], by rw [List.take_add_one, h1, hb]; simp, by simp [h2]⟩
  obtain ⟨bs, h1, h2⟩ := build n (Nat.le_refl _)
  rw [← hcl, List.take_length] at h1
  refine ⟨bs, h1, by omega, fun i es hi' => ?_⟩
  have hin : i < n := by have := (List.getElem?_eq_some_iff.1 hi').1; omega
  obtain ⟨b, hb, hall⟩ := each i hin
  obtain ⟨ces, cl, g1, g2⟩ := hall es hi'
  refine ⟨b, ces, cl, ?_, g1, g2⟩
  have := hb
  rw [h1, List.getElem?_map] at this
  cases hbi : bs[i]? with
  | none => rw [hbi] at this; cases this
  | some b' =>
    rw [hbi] at this
    have e : Value.map (some b') = .map (some b) := Option.some.inj this
    cases e; rfl

/-- How many elements a block has. -/
noncomputable def kapOf (x : Option Blk) : Nat := match x with | some (.cells _ _ n _ _) => n | _ => 0
/-- Where the names lie: the variables' own at their numbers, the maps where they are. -/
noncomputable def startInj (T : Hp) (bs : List Nat) : Inj := ⟨fun c => if c < 64 then c else bs.getD (c - 64) 0, fun c => kapOf (T.get c), fun g hg => by simp [hg]⟩

theorem rel_start {T : Hp} {N : Nat} {flats : List (Nat × Blk)} {gm : Nat} {Bm : Blk} {bs : List Nat} {ess : List (List (V × V))} (hN : 64 + ess.length ≤ N)
    (hT : ∀ b x, T.get b = some x → (b, x) ∈ flats ∨ (b = gm ∧ x = Bm) ∨ ∃ i es, ess[i]? = some es ∧ b = 64 + i ∧ x = .lmap es)
    (hlt : ∀ q ∈ flats, q.1 < 64) (hgm : gm < 64)
    (hflat : ∀ q ∈ flats, BlkR (startInj T bs) (Lt N) q.1 q.2 W.heap[q.1]? ∧ ∃ c t f, W.heap[q.1]? = some (.cells c t f)) (hbm : BlkR (startInj T bs) (Lt N) gm Bm W.heap[gm]? ∧ ∃ c t f, W.heap[gm]? = some (.cells c t f))
    (hbs : ∀ (i : Nat) (es : List (V × V)), ess[i]? = some es → ∃ b ces cl, bs[i]? = some b ∧ W.heap[b]? = some (.map ces cl) ∧ ∀ m : Inj, (ces.toList.map fun e => (e.key, e.val)).Perm (es.map fun e => (gam m e.1, gam m e.2)))
    (hkeys : ∀ es ∈ ess, (es.Pairwise fun v w => ∀ l n l' n', v.1 = .str l n → w.1 = .str l' n' → toBA l n ≠ toBA l' n') ∧ ∀ e ∈ es, (∃ l n, e.1 = .str l n) ∧ ∀ m S, okV m S e.1 ∧ okV m S e.2)
    (hlen : ∀ (i j : Nat) (es es' : List (V × V)), ess[i]? = some es → ess[j]? = some es' → es.length = es'.length → i = j) : Rel (startInj T bs) T N W := by
  have hρ : ∀ g, g < 64 → (startInj T bs).ρ g = g := fun g hg => by simp [startInj, hg]
  have hρm : ∀ i b, bs[i]? = some b → (startInj T bs).ρ (64 + i) = b := fun i b hb => by
    show (if 64 + i < 64 then 64 + i else bs.getD (64 + i - 64) 0) = b
    rw [if_neg (by omega), show 64 + i - 64 = i by omega, List.getD_eq_getElem?_getD, hb]; rfl
  -- what each live name is
  have hkind : ∀ b x, T.get b = some x → (b < 64 ∧ ∃ c t f, W.heap[(startInj T bs).ρ b]? = some (.cells c t f)) ∨ ∃ i es, ess[i]? = some es ∧ b = 64 + i ∧ ∃ ces cl, W.heap[(startInj T bs).ρ b]? = some (.map ces cl) ∧ ces.size = es.length := fun b x hx => by
    rcases hT b x hx with h | ⟨rfl, _⟩ | ⟨i, es, h1, rfl, _⟩
    · exact .inl ⟨hlt _ h, by rw [hρ _ (hlt _ h)]; exact (hflat _ h).2⟩
    · exact .inl ⟨hgm, by rw [hρ _ hgm]; exact hbm.2⟩
    · obtain ⟨b, ces, cl, g1, g2, g3⟩ := hbs i es h1
      refine .inr ⟨i, es, h1, rfl, ces, cl, by rw [hρm i b g1]; exact g2, ?_⟩
      have := (g3 (startInj T bs)).length_eq
      simpa using this
  constructor
  · intro b x hx
    rcases hT b x hx with h | ⟨rfl, rfl⟩ | ⟨i, es, h1, rfl, rfl⟩
    · exact ⟨by have := hlt _ h; simp only at this; omega, by rw [hρ _ (hlt _ h)]; exact (hflat _ h).1⟩
    · exact ⟨by omega, by rw [hρ _ hgm]; exact hbm.1⟩
    · have hi := (List.getElem?_eq_some_iff.1 h1).1
      obtain ⟨b, ces, cl, g1, g2, g3⟩ := hbs i es h1
      obtain ⟨k1, k2⟩ := hkeys es (List.mem_of_getElem? h1)
      exact ⟨by omega, ces, cl, by rw [hρm i b g1]; exact g2, g3 _, k1, fun e he => ⟨(k2 e he).1, ((k2 e he).2 _ _).1, ((k2 e he).2 _ _).2⟩⟩
  · intro b b' hb hb' he
    obtain ⟨x, hx⟩ := Option.ne_none_iff_exists'.1 hb
    obtain ⟨x', hx'⟩ := Option.ne_none_iff_exists'.1 hb'
    rcases hkind b x hx with ⟨h1, c, t, f, h2⟩ | ⟨i, es, h1, rfl, ces, cl, h2, h3⟩ <;> rcases hkind b' x' hx' with ⟨k1, c', t', f', k2⟩ | ⟨j, es', k1, rfl, ces', cl', k2, k3⟩
    · rw [hρ _ h1, hρ _ k1] at he; exact he
    · rw [he, k2] at h2; cases h2
    · rw [he, k2] at h2; cases h2
    · rw [he, k2] at h2
      cases h2
      rw [hlen i j es es' h1 k1 (by omega)]

/-! ### What a trie holds -/
def Tr.list {α : Type} : Tr α → List (Nat × α)
  | .nil => []
  | .node l x r => (x.toList.map fun v => (0, v)) ++ ((Tr.list l).map fun q => (2 * q.1 + 1, q.2)) ++ (Tr.list r).map fun q => (2 * q.1 + 2, q.2)
theorem Tr.mem_list {α : Type} : ∀ {t : Tr α} {k : Nat} {x : α}, t.get k = some x → (k, x) ∈ Tr.list t
  | .nil, k, x, h => by cases h
  | .node l y r, 0, x, h => by
    have h : y = some x := h
    subst h
    simp [Tr.list]
  | .node l y r, k + 1, x, h => by
    rw [Tr.get_node_succ] at h
    split at h
    · rename_i hk
      have := Tr.mem_list h
      refine List.mem_append_left _ (List.mem_append_right _ (List.mem_map.2 ⟨_, this, ?_⟩))
      simp; omega
    · rename_i hk
      have := Tr.mem_list h
      refine List.mem_append_right _ (List.mem_map.2 ⟨_, this, ?_⟩)
      simp; omega
noncomputable def lowB (n : Nat) (x : Blk) : Bool := match x with
  | .cells _ _ _ _ els => (Tr.list els).all fun q => q.2.all (lowV n)
  | .lmap es => es.all fun e => andB (lowV n e.1) (lowV n e.2)
  | _ => false
theorem lowB_ok {n : Nat} {x : Blk} (h : lowB n x = true) (m : Inj) : okB m (Lt n) x := by
  cases x with
  | cells ty ch k fz els =>
    have h : ((Tr.list els).all fun q => q.2.all (lowV n)) = true := h
    intro off v hv
    unfold cellAt at hv
    split at hv
    · obtain ⟨l, h1, h2⟩ := Option.bind_eq_some_iff.1 hv
      exact lowV_ok (all_mem (all_mem h _ (Tr.mem_list h1)) v (List.mem_of_getElem? h2)) m
    · cases hv
  | lmap es =>
    have h : (es.all fun e => andB (lowV n e.1) (lowV n e.2)) = true := h
    intro e he
    have := all_mem h e he
    simp only [andB_eq, Bool.and_eq_true] at this
    exact ⟨lowV_ok this.1 m, lowV_ok this.2 m⟩
  | _ => cases h
theorem low_of {N : Nat} {T : Hp} (h : ((Tr.list T).all fun q => andB (Nat.ble (Nat.succ q.1) N) (lowB N q.2)) = true) : Low N T := fun b x hx => by
  have := all_mem h _ (Tr.mem_list hx)
  simp only [andB_eq, Bool.and_eq_true] at this
  exact ⟨Nat.le_of_ble_eq_true this.1, lowB_ok this.2⟩

/-! ### Keys that differ -/
noncomputable def keysB : List (V × V) → Bool
  | [] => true
  | e :: r => andB (r.all fun f => match e.1, f.1 with | .str l n, .str l' n' => notB (decide (bytesL l n = bytesL l' n')) | _, _ => true) (andB (match e.1, e.2 with | .str _ _, .int _ _ => true | _, _ => false) (keysB r))
theorem keysB_ok : ∀ {es : List (V × V)}, keysB es = true → (es.Pairwise fun v w => ∀ l n l' n', v.1 = .str l n → w.1 = .str l' n' → toBA l n ≠ toBA l' n') ∧ ∀ e ∈ es, (∃ l n, e.1 = .str l n) ∧ ∀ m S, okV m S e.1 ∧ okV m S e.2
  | [], _ => ⟨.nil, fun e he => by cases he⟩
  | e :: r, h => by
    unfold keysB at h
    simp only [andB_eq, Bool.and_eq_true] at h
    obtain ⟨h1, h2, h3⟩ := h
    obtain ⟨k1, k2⟩ := keysB_ok h3
    refine ⟨List.pairwise_cons.2 ⟨fun f hf l n l' n' e1 e2 hh => ?_, k1⟩, fun f hf => ?_⟩
    · have := all_mem h1 f hf
      rw [e1, e2] at this
      have h4 := notB_true this
      have h5 : bytesL l n = bytesL l' n' := by
        have := congrArg (fun x : ByteArray => x.data.toList) hh
        exact this
      rw [decide_eq_true h5] at h4
      cases h4
    · rcases List.mem_cons.1 hf with rfl | hf
      · obtain ⟨a, b⟩ := f
        cases a <;> cases b <;> first
          | exact ⟨⟨_, _, rfl⟩, fun _ _ => ⟨trivial, trivial⟩⟩
          | cases h2
      · exact k2 f hf
/-! ### A run that leaves the variables' heap as it was, leaves the world's blocks as they were -/
noncomputable def fullB (P : Program) (T : Hp) : Bool := (Tr.list T).all fun q => match q.2 with
  | .cells _ ch n _ els => decide (q.1 < 64) && (decide (q.1 < P.globals.size) && (((((begin P (fun _ _ => 0) default).world.heap[q.1]?).bind Obj.row?).map (fun z => decide (z.1.size ≤ n * ch)) == some true) && (List.range (n * ch)).all fun off => (cellAt ch n els off).isSome))
  | .lmap _ => true
  | _ => false
/-- The world's blocks are no greater than the heap says, and the heap says each cell. -/
def Full (T : Hp) (m : Inj) (w : World) : Prop := ∀ b x, T.get b = some x → (∃ es, x = .lmap es) ∨ ∃ ty ch n fz els, x = .cells ty ch n fz els ∧ ∀ c ty' fr, w.heap[m.ρ b]? = some (.cells c ty' fr) → c.size ≤ n * ch ∧ ∀ off, off < n * ch → ∃ v, cellAt ch n els off = some v
theorem full_of_shape {T : Hp} {W : World} (hsh : W.ShapedOpen P) (hB : fullB P T = true) (m : Inj) : Full T m W := by
  intro b x hx
  have h := List.all_eq_true.1 hB _ (Tr.mem_list hx)
  cases x with
  | cells ty ch n fz els =>
    right
    refine ⟨ty, ch, n, fz, els, rfl, fun c ty' fr hc => ?_⟩
    simp only [Bool.and_eq_true, decide_eq_true_eq, beq_iff_eq, Option.map_eq_some_iff] at h
    obtain ⟨h1, h2, ⟨⟨zero, t⟩, h3, h4⟩, h5⟩ := h
    obtain ⟨cs, k1, k2, _⟩ := hsh.1 b zero t h2 h3
    rw [m.fix b h1, k1] at hc
    cases hc
    have h4 : zero.size ≤ n * ch := by simpa using h4
    refine ⟨by omega, fun off ho => ?_⟩
    exact Option.isSome_iff_exists.1 (List.all_eq_true.1 h5 off (List.mem_range.2 ho))
  | lmap es => exact .inl ⟨es, rfl⟩
  | map es cl => cases h
  | miter mm since seen => cases h
open Go.RowKit in
theorem Full.below {T : Hp} {m : Inj} {w w' : World} {nx : Nat} (h : Full T m w) (hr : Rel m T nx w) (hb : Below w.heap.size w w') : Full T m w' := by
  intro b x hx
  rcases h b x hx with he | ⟨ty, ch, n, fz, els, rfl, hf⟩
  · exact .inl he
  · exact .inr ⟨ty, ch, n, fz, els, rfl, fun c ty' fr hc => hf c ty' fr (by rw [← hb.block _ (hr.lt (by rw [hx]; simp))]; exact hc)⟩
open Go.RowKit in
theorem goes_later {T : Hp} {m : Inj} {nx : Nat} {w w' : World} (hr : Rel m T nx w) (hF : Full T m w) (hg : Goes m T nx w m T nx w') : Below w.heap.size w w' := by
  refine ⟨hg.os, hg.tape, hg.output, hg.size, fun k hk => ?_⟩
  by_cases hex : ∃ b, T.get b ≠ none ∧ m.ρ b = k
  · obtain ⟨b, hb, rfl⟩ := hex
    cases hx : T.get b with
    | none => exact absurd hx hb
    | some x =>
      obtain ⟨hlt, h1⟩ := hr.blk b x hx
      obtain ⟨_, h2⟩ := hg.rel.blk b x hx
      rcases hg.still b x hlt hx with h3 | ⟨_, h3, h4⟩
      · rw [hx] at h3; cases h3
      rcases hF b x hx with ⟨es, rfl⟩ | ⟨ty, ch, n, fz, els, rfl, hf⟩
      · exact h3 es rfl
      · obtain ⟨c, fr, o1, _, _, _, a4, _⟩ := h1
        obtain ⟨c2, fr2, o2, _, _, _, b4, _⟩ := h2
        obtain ⟨c', e1, e2⟩ := h4 c ty fr o1
        obtain ⟨f1, f2⟩ := hf c ty fr o1
        rw [e1] at o2
        cases o2
        rw [o1, e1]
        have : c2 = c := by
          apply Array.ext e2
          intro i hi1 hi2
          obtain ⟨v, hv⟩ := f2 i (by omega)
          have g1 := (a4 i v hv).1
          have g2 := (b4 i v hv).1
          rw [Array.getElem?_eq_getElem hi2] at g1
          rw [Array.getElem?_eq_getElem hi1] at g2
          exact (Option.some.inj g2).trans (Option.some.inj g1).symm
        rw [this]
  · exact hg.keep k hk fun b hb he => hex ⟨b, hb, he⟩
end Go.X
end

section
/- A listed slice of plain rows: what its cells hold. -/
namespace Go.X
open Go Go.Lib
variable {P : Program} {W : World}

abbrev noInj : Inj := ⟨fun g => g, fun _ => 0, fun _ _ => rfl⟩
theorem slice_cells {n : String} {ds rest : List (DataW Unit)} (h : VarReads P W n (.slice ds rest)) {g t e : Nat} (hg : P.globalNamed n = some g) (ht : (P.globals[g]?).map (·.type) = some t) (hu : P.underlying t = some (.slice e)) {c : Nat} (hc : P.cellsOf e = c) (hc0 : 0 < c)
    (hd0 : 0 < ds.length) {k : Nat} {ls : List (List V)} (hd : ds.map (datumV P k e) = ls.map some) (hl : ∀ l ∈ ls, l.length = c) :
    ∃ R o cap, W.cell? ⟨g, 0, none⟩ = some (.slice (some ⟨R, o, none⟩) ds.length cap) ∧
      ∀ (i j : Nat) (l : List V) (v : V), ls[i]? = some l → l[j]? = some v → W.cell? ⟨R, o + i * c + j, none⟩ = some (gam noInj v) := by
  obtain ⟨g', t', cs, fuel, p, h1, h2, h3, h4⟩ := h
  obtain rfl := Option.some.inj (hg.symm.trans h1)
  obtain rfl := Option.some.inj (ht.symm.trans h2)
  rcases DataW.trod_slice hu h4 with ⟨_, hx⟩ | ⟨a, len, cap, elems, rst, m, rfl, hcs, hx, _, hlc, _, hlen, hel, _⟩
  · simp at hx
  · simp only [Prod.mk.injEq, DataW.slice.injEq] at hx
    obtain ⟨⟨hds, _⟩, _⟩ := hx
    have hlen' : ds.length = len := by rw [hds]; simpa using hlen
    have hls : ls.length = ds.length := by have := congrArg List.length hd; simpa using this.symm
    have each : ∀ (i j : Nat) (l : List V) (v : V), ls[i]? = some l → l[j]? = some v → W.cell? ((a.add (i * c)).add j) = some (gam noInj v) := by
      intro i j l v hi hj
      have hil : i < ls.length := (List.getElem?_eq_some_iff.1 hi).1
      have hin : i < len := by omega
      have h5 := hel i hin
      rw [hc] at h5
      obtain ⟨b, hb⟩ : ∃ b, elems[i]? = some b := ⟨_, List.getElem?_eq_getElem (by omega)⟩
      rw [hb] at h5
      obtain ⟨ce, hce, hte⟩ := Option.bind_eq_some_iff.1 h5
      have hdi : datumV P k e b.1 = some l := by
        have h6 := congrArg (·[i]?) hd
        simp only [List.getElem?_map] at h6
        rw [hds, List.getElem?_map, hb, hi] at h6
        simpa using h6
      have hp := datumV_ok k m e b.1 ce b.2 l hte hdi
      have hg' := (hp.1 noInj (fun _ => True)).1
      obtain ⟨_, _, hcc⟩ := World.cells?_some hce
      have hjc : j < c := by
        have h7 := hl l (List.mem_of_getElem? hi)
        have h8 := (List.getElem?_eq_some_iff.1 hj).1
        omega
      rw [hcc j hjc, ← hg', gamL_get, hj]
      rfl
    obtain ⟨R, o, sR⟩ := a
    obtain rfl : sR = none := by
      obtain ⟨l0, hl0⟩ : ∃ l, ls[0]? = some l := ⟨_, List.getElem?_eq_getElem (by omega)⟩
      have h7 := hl l0 (List.mem_of_getElem? hl0)
      obtain ⟨v0, hv0⟩ : ∃ v, l0[0]? = some v := ⟨_, List.getElem?_eq_getElem (by omega)⟩
      have h8 := each 0 0 l0 v0 hl0 hv0
      have h9 : (Addr.add (Addr.add ⟨R, o, sR⟩ (0 * c)) 0) = ⟨R, o, sR⟩ := by simp [Addr.add]
      rw [h9] at h8
      exact Go.Proofs.cell_spot h8
    refine ⟨R, o, cap, ?_, fun i j l v hi hj => ?_⟩
    · rw [World.var?_cell hg h3 0, ← Array.getElem?_toList, hcs, hlen']
      rfl
    · have h8 := each i j l v hi hj
      rw [Addr.add_lit, Addr.add_lit] at h8
      exact h8
end Go.X
end

section
/- The reckoner: contracts of strings.Builder's copyCheck and String. -/
namespace Go.X
open Go Go.Shelf Go.RowKit Go.Proofs
variable {P : Program} {ρ : Ren}

theorem rowAt_mono {fits : TypeId → Bool} : ∀ (d : Nat) (e : TypeId) (c c' off n : Nat), c ≤ c' → rowAt P fits d e c off n = true → rowAt P fits d e c' off n = true
  | 0, _, _, _, _, _, _, h => by cases h
  | d + 1, e, c, c', off, n, hc, h => by
    unfold rowAt at h ⊢
    dsimp only at h ⊢
    split at h
    · cases h
    · rename_i hs
      rw [if_neg hs]
      rw [Bool.or_eq_true] at h ⊢
      rcases h with h | h
      · left
        simp only [Bool.and_eq_true, decide_eq_true_eq] at h ⊢
        exact ⟨⟨h.1.1, by omega⟩, h.2⟩
      · right
        simp only [Bool.and_eq_true, decide_eq_true_eq] at h ⊢
        exact ⟨by omega, h.2⟩
theorem liesAt_mono : ∀ (d : Nat) (e : TypeId) (c c' off : Nat) (u : TypeId) (n : Nat), c ≤ c' → liesAt P d e c off u n = true → liesAt P d e c' off u n = true
  | 0, _, _, _, _, _, _, _, h => by cases h
  | d + 1, e, c, c', off, u, n, hc, h => by
    unfold liesAt at h ⊢
    rw [Bool.or_eq_true] at h ⊢
    rcases h with h | h
    · exact .inl (rowAt_mono _ _ _ _ _ _ hc h)
    · right
      split at h
      · exact liesAt_mono d e c c' off _ _ hc h
      · cases h

set_option maxHeartbeats 1000000 in
set_option maxRecDepth 100000 in
theorem check_fresh (L : Lays.n240 P ρ) (X : Builder.X72 P ρ) (b k : Nat) (w : World) (h0 : w.cell? ⟨b, 0, none⟩ = some (.pointer none)) (hsh : w.shape? b = some ((ρ.t 72), k)) (hk : 2 ≤ k) (hfz : w.frozen? ⟨b, 0, none⟩ = false) :
    Calls P (ρ.f 240) #[.pointer (some ⟨b, 0, none⟩)] w fun e w' => e = .returned (.tuple #[]) ∧ w' = w.setCell ⟨b, 0, none⟩ (.pointer (some ⟨b, 0, none⟩)) := by
  obtain ⟨j, hj, hjs⟩ := Option.map_eq_some_iff.1 X.sizeBuilder
  have mixed := L.mixed
  have t72 := L.t72; have a72 := L.a72; have z72 := L.z72; have v72 := L.v72; have u72 := run_underlying L.t72
  have t70 := L.t70; have a70 := L.a70; have z70 := L.z70; have v70 := L.v70; have u70 := run_underlying L.t70
  have t9 := L.t9; have a9 := L.a9; have z9 := L.z9; have v9 := L.v9; have u9 := run_underlying L.t9
  have t4 := L.t4; have a4 := L.a4; have z4 := L.z4; have v4 := L.v4; have u4 := run_underlying L.t4
  have t164 := L.t164; have a164 := L.a164; have z164 := L.z164; have v164 := L.v164; have u164 := run_underlying L.t164
  go_enter L.f240, Body.n240_ntmps ρ
  go_wp2
  rw [Lib.run_to_unsafe w ⟨b, 0, none⟩ L.t70 L.t164 hj (by rw [hjs]; decide) hsh (by show 0 < k; omega)]
  simp only [Result.andThen]
  rw [Oper.upon_value]
  go_wp2
  rw [run_callFunc_extern L.f276 (by kernel_rfl) (by kernel_rfl) (by kernel_rfl) (e := Extern.AbiNoEscape.same) (by kernel_rfl)]
  rw [Lib.run_noEscape]
  simp only [Result.andThen]
  rw [Oper.upon_value]
  go_wp2
  rw [Lib.run_from_unsafe w ⟨b, 0, none⟩ L.t164 L.t70 hj hsh (liesAt_mono _ _ _ _ _ _ _ (Nat.div_le_div_right hk) X.liesBuilder)]
  simp only [Result.andThen]
  rw [Oper.upon_value]
  go_wp2
  go_end0
  exact ⟨rfl, rfl⟩

theorem store_cells_one {a : Addr} {v : Value} {w w' : World} (hc : (w.cell? a).isSome = true) (hv : v.oneCell' = true) (h : (storeCells a [v]).run P w = .ok () w') : w.frozen? a = false ∧ w' = w.setCell a v := by
  have e : a.add 0 = a := by obtain ⟨b, o, s⟩ := a; cases s <;> simp [Addr.add]
  unfold storeCells at h
  rw [e] at h
  simp only [Sem.run_bind] at h
  rw [run_store P w a v .plain hv] at h
  obtain ⟨u, hu⟩ := Option.isSome_iff_exists.1 hc
  rw [hu] at h
  dsimp only at h
  cases hf : w.frozen? a with
  | true => rw [hf, if_pos rfl] at h; cases h
  | false =>
    rw [hf] at h
    simp only [Bool.false_eq_true, if_false, Result.andThen_ok, storeCells, Sem.run_pure] at h
    cases h
    exact ⟨rfl, rfl⟩

theorem enters_run {f : FuncId} {fn : Func} (hf : P.funcs[f]? = some fn) (h1 : (fn.name == "runtime.NumGoroutine") = false) (h2 : fn.body.isNone = false) (args : Array Value) (w : World) : (callFunc f args).run P w = .ok (.enter f args) w :=
  run_callFunc ⟨fn, hf, h1, h2⟩ args w

theorem ext_check (L : Lays.n240 P ρ) (X : Builder.X72 P ρ) : ∀ (l : List V) (t : Hp) (nx : Nat) (m : Inj) (w : World), xCopyCheck (ρ.t 72) l t nx ≠ .fail → 64 ≤ nx → Rel m t nx w → okL m (Lt nx) l →
    CallsF P (ρ.f 240) (gamL m l).toArray w (CPost m t nx w (xCopyCheck (ρ.t 72) l t nx)) := by
  intro l t nx m w h h64 hr hl
  unfold xCopyCheck at h ⊢
  split at h
  · rename_i b
    obtain ⟨x, hx, e⟩ := crel_fail h
    rw [e] at h ⊢; clear e
    cases x with
    | cells ty ch n fz els =>
      change bel (andB (Nat.beq ty (ρ.t 72)) (andB (Nat.beq ch 2) (Nat.ble 1 n))) (oel (loadN t b 0 1) (fun l => xCheckAt b t nx l) .fail) .fail ≠ .fail at h
      show CallsF P (ρ.f 240) _ w (CPost m t nx w (bel (andB (Nat.beq ty (ρ.t 72)) (andB (Nat.beq ch 2) (Nat.ble 1 n))) (oel (loadN t b 0 1) (fun l => xCheckAt b t nx l) .fail) .fail))
      obtain ⟨hb, e⟩ := cbel_fail h; rw [e] at h ⊢; clear e
      obtain ⟨lv, hlv, e⟩ := crel_fail h; rw [e] at h ⊢; clear e
      simp only [andB_eq, Bool.and_eq_true] at hb
      have hty : ty = ρ.t 72 := Nat.eq_of_beq_eq_true hb.1
      have hch : ch = 2 := Nat.eq_of_beq_eq_true hb.2.1
      have hn : 1 ≤ n := Nat.le_of_ble_eq_true hb.2.2
      subst hty; subst hch
      obtain ⟨hlt, c, fr, ho, _, hk1, hk2, _, _⟩ := hr.blk b _ hx
      have hsh : w.shape? (m.ρ b) = some (ρ.t 72, c.size) := by simp [World.shape?, ho]
      have hsz : 2 ≤ c.size := by
        have : 1 * 2 ≤ m.κ b * 2 := Nat.mul_le_mul_right 2 (Nat.le_trans hn hk1)
        omega
      obtain ⟨-, -, -, hcells⟩ := loadN_run hr hlv
      left
      have hfn := L.f240
      refine ⟨enters_run L.f240 (by kernel_rfl) rfl _ w, ?_⟩
      unfold xCheckAt at h ⊢
      split at h
      · -- fresh
        have h0 := hcells 0 .nilp rfl
        have hne : storeK t b 0 [.ptr b 0] (fun t => rEnd t nx) ≠ .fail := fun e => by rw [e] at h; exact absurd rfl h
        obtain ⟨t', e, hst⟩ := storeK_ok (P := P) (nx := nx) hne
        obtain ⟨w', hrun, hgo⟩ := hst m w hr ⟨hlt, trivial⟩ (by simp [isCell])
        obtain ⟨hfz, hw'⟩ := store_cells_one (P := P) (by rw [h0]; rfl) rfl hrun
        have hcall := check_fresh L X (m.ρ b) c.size w (h0.trans (by rw [gam])) hsh hsz hfz
        refine hcall.mono fun e' w2 ⟨h1, h2⟩ => ?_
        subst h1; subst h2
        rw [e]
        refine ⟨m, rfl, ?_, trivial⟩
        rw [hw'] at hgo
        exact hgo
      · rename_i c2
        obtain ⟨hb2, e⟩ := cbel_fail h
        rw [e]
        have hcb : c2 = b := Nat.eq_of_beq_eq_true hb2
        subst hcb
        have h0 := hcells 0 (.ptr c2 0) rfl
        refine (Any.Builder_copyCheck_used L X (m.ρ c2) w (h0.trans (by rw [gam]))).mono fun e' w2 ⟨h1, h2⟩ => ?_
        subst h1; subst h2
        exact ⟨m, rfl, Goes.refl hr, trivial⟩
      · exact absurd rfl h
    | _ => exact absurd rfl h
  · exact absurd rfl h
set_option maxHeartbeats 1000000 in
set_option maxRecDepth 100000 in
theorem str_row (L : Lays.n169 P ρ) (X : Builder.Extra P ρ) (b g cap k : Nat) (l : List UInt8) (w : World) (h1 : w.cell? ⟨b, 1, none⟩ = some (.slice (some ⟨g, 0, none⟩) l.length cap)) (hc : cap ≠ 0) (hsh : w.shape? g = some (ρ.t 5, k)) (hk : l.length ≤ k) (h63 : l.length ≤ 9223372036854775807)
    (hcell : ∀ (j : Nat) (x : UInt8), l[j]? = some x → w.cell? ((⟨g, 0, none⟩ : Addr).add j) = some (.int .u8 x.toNat)) (h0 : l ≠ []) :
    Calls P (ρ.f 169) #[.pointer (some ⟨b, 0, none⟩)] w fun e w' => e = .returned (.string ⟨l.toArray⟩) ∧ w' = w.drew.freeze ⟨g, 0, none⟩ l.length := by
  have c1 : w.drew.cell? ⟨b, 1, none⟩ = some (.slice (some ⟨g, 0, none⟩) l.length cap) := h1
  have hSD : (Builtin.unsafeSliceData_ #[(ρ.t 37)] (ρ.t 127) #[.slice (some ⟨g, 0, none⟩) l.length cap]).run P w.drew = .ok (.pointer (some ⟨g, 0, none⟩)) w.drew :=
    Lib.run_unsafeSliceData_row _ _ _ _ _ _ hc
  have hUS : (Builtin.unsafeString_ #[(ρ.t 127), (ρ.t 3)] (ρ.t 9) #[.pointer (some ⟨g, 0, none⟩), .int .i64 l.length]).run P w.drew = .ok (.string ⟨l.toArray⟩) (w.drew.freeze ⟨g, 0, none⟩ l.length) :=
    Lib.run_unsafeString_row w.drew (ρ.t 127) (ρ.t 3) (ρ.t 9) (ρ.t 5) L.t127 X.cellsByte g k hsh l h0 hk h63 hcell
  have mixed := L.mixed
  have t72 := L.t72; have a72 := L.a72; have z72 := L.z72; have v72 := L.v72; have u72 := run_underlying L.t72
  have t70 := L.t70; have a70 := L.a70; have z70 := L.z70; have v70 := L.v70; have u70 := run_underlying L.t70
  have t37 := L.t37; have a37 := L.a37; have z37 := L.z37; have v37 := L.v37; have u37 := run_underlying L.t37
  have t127 := L.t127; have a127 := L.a127; have z127 := L.z127; have v127 := L.v127; have u127 := run_underlying L.t127
  have t3 := L.t3; have a3 := L.a3; have z3 := L.z3; have v3 := L.v3; have u3 := run_underlying L.t3
  have t9 := L.t9; have a9 := L.a9; have z9 := L.z9; have v9 := L.v9; have u9 := run_underlying L.t9
  have t5 := X.t5; have a5 := X.a5; have z5 := X.z5; have v5 := X.v5; have u5 := run_underlying X.t5
  go_enter L.f169, Body.n169_ntmps ρ
  go_wp2
  go_region_o
  all_goals (go_wp2; go_ret; exact ⟨rfl, rfl⟩)

set_option maxHeartbeats 1000000 in
set_option maxRecDepth 100000 in
theorem str_nil (L : Lays.n169 P ρ) (X : Builder.Extra P ρ) (b : Nat) (w : World) (h1 : w.cell? ⟨b, 1, none⟩ = some (.slice none 0 0)) :
    Calls P (ρ.f 169) #[.pointer (some ⟨b, 0, none⟩)] w fun e w' => e = .returned (.string .empty) ∧ w' = w.drew := by
  have c1 : w.drew.cell? ⟨b, 1, none⟩ = some (.slice none 0 0) := h1
  have hSD : (Builtin.unsafeSliceData_ #[(ρ.t 37)] (ρ.t 127) #[.slice none 0 0]).run P w.drew = .ok (.pointer none) w.drew := rfl
  have hUS : (Builtin.unsafeString_ #[(ρ.t 127), (ρ.t 3)] (ρ.t 9) #[.pointer none, .int .i64 0]).run P w.drew = .ok (.string .empty) w.drew := Any.unsafeString_none L X w.drew none
  have mixed := L.mixed
  have t72 := L.t72; have a72 := L.a72; have z72 := L.z72; have v72 := L.v72; have u72 := run_underlying L.t72
  have t70 := L.t70; have a70 := L.a70; have z70 := L.z70; have v70 := L.v70; have u70 := run_underlying L.t70
  have t37 := L.t37; have a37 := L.a37; have z37 := L.z37; have v37 := L.v37; have u37 := run_underlying L.t37
  have t127 := L.t127; have a127 := L.a127; have z127 := L.z127; have v127 := L.v127; have u127 := run_underlying L.t127
  have t3 := L.t3; have a3 := L.a3; have z3 := L.z3; have v3 := L.v3; have u3 := run_underlying L.t3
  have t9 := L.t9; have a9 := L.a9; have z9 := L.z9; have v9 := L.v9; have u9 := run_underlying L.t9
  have t5 := X.t5; have a5 := X.a5; have z5 := X.z5; have v5 := X.v5; have u5 := run_underlying X.t5
  go_enter L.f169, Body.n169_ntmps ρ
  go_wp2
  go_region_o
  all_goals (go_wp2; go_ret; exact ⟨rfl, rfl⟩)

/-- A block turned whose name is given up. -/
theorem goes_frozen {m : Inj} {t : Hp} {nx : Nat} {w : World} (hr : Rel m t nx w) {c : Nat} (hc : t.get c ≠ none) (n : Nat) : Goes m t nx w m (t.set c none) nx (w.drew.freeze ⟨m.ρ c, 0, none⟩ n) := by
  have hheap : ∀ k, k ≠ m.ρ c → (w.drew.freeze ⟨m.ρ c, 0, none⟩ n).heap[k]? = w.heap[k]? := fun k hk => by
    unfold World.freeze
    split
    · rfl
    · show (w.heap.modify (m.ρ c) _)[k]? = _
      rw [Array.getElem?_modify, if_neg (Ne.symm hk)]
  have hsz : (w.drew.freeze ⟨m.ρ c, 0, none⟩ n).heap.size = w.heap.size := by
    unfold World.freeze
    split
    · rfl
    · show (w.heap.modify (m.ρ c) _).size = _
      simp
  have hget : ∀ b, (t.set c none).get b ≠ none → b ≠ c ∧ t.get b ≠ none := fun b hb => by
    rw [Tr.get_set] at hb
    split at hb
    · exact absurd rfl hb
    · rename_i h; exact ⟨h, hb⟩
  refine ⟨Inj.agree.refl m _, ⟨fun b x hb => ?_, fun b b' h1 h2 => hr.inj b b' (hget b h1).2 (hget b' h2).2⟩, Nat.le_refl _, Nat.le_of_eq hsz.symm, fun k hk hl => hheap k (fun e => hl c hc e.symm), fun b hb h => (hget b h).2, fun b hb h => absurd (hr.below (hget b h).2) (Nat.not_lt.2 hb), ?_, ?_, ?_, Still.same (fun b _ _ => by
    by_cases e : b = c
    · exact .inr (by rw [Tr.get_set, if_pos e])
    · exact .inl (by rw [Tr.get_set, if_neg e])) (fun b _ hne hne' => hheap _ fun e => by
      have := hr.inj b c hne hc e
      exact hne' (by rw [Tr.get_set, if_pos this]))⟩
  · obtain ⟨h1, h2⟩ := hget b (by rw [hb]; simp)
    rw [Tr.get_set, if_neg h1] at hb
    obtain ⟨g1, g2⟩ := hr.blk b x hb
    refine ⟨g1, ?_⟩
    rw [hheap _ fun e => h1 (hr.inj b c h2 hc e)]
    exact g2
  all_goals
    unfold World.freeze
    split <;> rfl

theorem ext_string (L : Lays.n169 P ρ) (X : Builder.Extra P ρ) : ∀ (l : List V) (t : Hp) (nx : Nat) (m : Inj) (w : World), xBuilderString (ρ.t 5) l t nx ≠ .fail → 64 ≤ nx → Rel m t nx w → okL m (Lt nx) l →
    CallsF P (ρ.f 169) (gamL m l).toArray w (CPost m t nx w (xBuilderString (ρ.t 5) l t nx)) := by
  intro l t nx m w h h64 hr hl
  unfold xBuilderString at h ⊢
  split at h
  · rename_i b
    obtain ⟨lv, hlv, e⟩ := crel_fail h; rw [e] at h ⊢; clear e
    obtain ⟨hokl, -, -, hcells⟩ := loadN_run hr hlv
    left
    refine ⟨enters_run L.f169 (by kernel_rfl) rfl _ w, ?_⟩
    unfold xStringAt at h ⊢
    split at h
    · have h0 := hcells 0 .nils rfl
      refine (str_nil L X (m.ρ b) w (h0.trans (by rw [gam]))).mono fun e' w2 ⟨h1, h2⟩ => ?_
      subst h1; subst h2
      exact ⟨m, rfl, ⟨Inj.agree.refl m _, ⟨hr.blk, hr.inj⟩, Nat.le_refl _, Nat.le_refl _, fun _ _ _ => rfl, fun _ _ h => h, fun b hb hl => absurd (hr.below hl) (Nat.not_lt.2 hb), rfl, rfl, rfl, Still.same (fun _ _ _ => .inl rfl) (fun _ _ _ _ => rfl)⟩, trivial⟩
    · rename_i c len cp
      obtain ⟨hb, e⟩ := cbel_fail h; rw [e] at h ⊢; clear e
      obtain ⟨bl, hbl, e⟩ := crel_fail h; rw [e] at h ⊢; clear e
      obtain ⟨r, hbytes, e⟩ := crel_fail h; rw [e] at h ⊢; clear e
      simp only [andB_eq, Bool.and_eq_true] at hb
      have hlen1 : 1 ≤ len := Nat.le_of_ble_eq_true hb.1
      have hlen2 : len ≤ 1048576 := Nat.le_of_ble_eq_true hb.2
      unfold xStringOf at h ⊢
      obtain ⟨x, hx, e⟩ := crel_fail h; rw [e] at h ⊢; clear e
      cases x with
      | cells ty ch n fz els =>
        change bel (andB (Nat.beq ty (ρ.t 5)) (Nat.beq ch 1)) (CR.ofR (t.setK c none fun t => rEnd t nx) (.str r.1 r.2)) .fail ≠ .fail at h
        show Calls P (ρ.f 169) _ w (CPost m t nx w (bel (andB (Nat.beq ty (ρ.t 5)) (Nat.beq ch 1)) (CR.ofR (t.setK c none fun t => rEnd t nx) (.str r.1 r.2)) .fail))
        obtain ⟨hb2, e⟩ := cbel_fail h; rw [e]; clear e
        simp only [andB_eq, Bool.and_eq_true] at hb2
        have hty : ty = ρ.t 5 := Nat.eq_of_beq_eq_true hb2.1
        subst hty
        obtain ⟨hlt, cs, fr, ho, _, _, _, _, _⟩ := hr.blk c _ hx
        obtain ⟨-, -, hbll, hbc⟩ := loadN_run hr hbl
        obtain ⟨ns, n1, n2, n3, n4⟩ := bytesOfL_gam hbytes
        have hns : ns.length = len := by
          have := congrArg List.length (n2 m)
          rw [gamL_length, List.length_map] at this
          omega
        have hll : (bytesL r.1 r.2).length = len := by rw [bytesL_length, n3, hns]
        have hcell : ∀ (j : Nat) (x : UInt8), (bytesL r.1 r.2)[j]? = some x → w.cell? ((⟨m.ρ c, 0, none⟩ : Addr).add j) = some (.int .u8 x.toNat) := fun j x hj => by
          have hadd : (⟨m.ρ c, 0, none⟩ : Addr).add j = ⟨m.ρ c, 0 + j, none⟩ := add_none _ _ _
          rw [hadd]
          rw [n4, List.getElem?_map] at hj
          cases hnj : ns[j]? with
          | none => rw [hnj] at hj; cases hj
          | some nj =>
            rw [hnj] at hj
            have hxj : UInt8.ofNat nj = x := Option.some.inj hj
            have hlt2 : nj < 256 := n1 nj (List.mem_of_getElem? hnj)
            have hgl : (gamL m bl)[j]? = some (.int .u8 (nj : Int)) := by rw [n2 m, List.getElem?_map, hnj]; rfl
            rw [gamL_get] at hgl
            cases hbj : bl[j]? with
            | none => rw [hbj] at hgl; cases hgl
            | some vj =>
              rw [hbj] at hgl
              rw [hbc j vj hbj]
              have e1 := Option.some.inj hgl
              rw [e1, ← hxj, UInt8.toNat_ofNat', Nat.mod_eq_of_lt hlt2]
        have hcsz : len ≤ cs.size := by
          have hlast := hbc (len - 1) (bl[len - 1]'(by omega)) (List.getElem?_eq_getElem _)
          simp only [Nat.zero_add, World.cell?, ho] at hlast
          have := (Array.getElem?_eq_some_iff.1 hlast).1
          omega
        have hsh : w.shape? (m.ρ c) = some (ρ.t 5, cs.size) := by simp [World.shape?, ho]
        have hv := hcells 0 (.sl c 0 len cp) rfl
        have hok2 := hokl.1
        have hcap : capG m c cp ≠ 0 := by
          have := hok2.2
          cases cp with
          | ex q => have : len ≤ q := this; show q ≠ 0; omega
          | up q => have : q + len ≤ m.κ c := this; show m.κ c - q ≠ 0; omega
        have hv' : w.cell? ⟨m.ρ b, 1, none⟩ = some (.slice (some ⟨m.ρ c, 0, none⟩) (bytesL r.1 r.2).length (capG m c cp)) := by
          rw [hll]
          exact hv.trans (by rw [gam])
        refine (str_row L X (m.ρ b) (m.ρ c) (capG m c cp) cs.size (bytesL r.1 r.2) w hv' hcap hsh (by omega) (by omega) hcell (fun e => by rw [e] at hll; simp at hll; omega)).mono fun e' w2 ⟨h1, h2⟩ => ?_
        subst h1; subst h2
        rw [Tr.setK_eq]
        exact ⟨m, rfl, goes_frozen hr (by rw [hx]; simp) _, trivial⟩
      | _ => exact absurd rfl h
    · exact absurd rfl h
  · exact absurd rfl h
end Go.X
end

section
/- A row with a condition of its own: there is an input that fits, at a world of a shape that is shown. -/
namespace Go.X
open Go

theorem witness_row_shaped {H : Type} {enc : TypeId × Value → H} {C : Checked} {os : Os} {f : FuncId} {fn : Func} {s : OpenSpec} {conds : List PathCond} {apart : Bool} {laid : List (String × DataW Unit)} (modest : Bool) (w0 : World) (args : Array Value) (hos : w0.os = os)
    (hsh : (w0.forCall (fun _ _ => 0) ⟨#[], args, []⟩).Shaped C.prog)
    (hok : Input.okWideB C.prog (w0.forCall (fun _ _ => 0) ⟨#[], args, []⟩) f ⟨#[], args, []⟩ = true)
    (hrow : s.preRow enc C.prog fn conds apart laid (w0.forCall (fun _ _ => 0) ⟨#[], args, []⟩).memory args) :
    ∃ (w : World) (tape : Tape) (i : Input), w.os = os ∧ (w.forCall tape i).Shaped C.prog ∧ i.vars = [] ∧ Input.okWide C.prog (w.forCall tape i) .any w.heap.size f i ∧
      s.preRow enc C.prog fn conds apart laid (w.forCall tape i).memory i.args ∧ ({ modest := modest } : Assume).holds C.prog (lone (Frame.enter C.prog f i.args .normal) [] (w.forCall tape i)) :=
  ⟨w0, fun _ _ => 0, ⟨#[], args, []⟩, hos, hsh, (Input.okWide_of_okWideB (base := 0) hok).1, (Input.okWide_of_okWideB hok).2, hrow, by
    simp only [Assume.holds]
    exact ⟨by simp, by simp, fun _ => Modest.zero, by simp, by simp⟩⟩
end Go.X
end
