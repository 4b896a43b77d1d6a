/- Parts of the proof: XSemR, XSemM, XSemL, XSemC. -/
import Derived.Laws.BytesString
import Derived.Laws.Alloc2
import Derived.Test.YtlkhkalniekaoaaGreatDoorQad

set_option linter.unusedVariables false
set_option linter.unusedSimpArgs false

section
/- The reckoner: operations that read memory, as the model has them. -/
namespace Go.X
open Go
variable {P : Program} {s : CallT} {o : Oper} {k : K} {tm : Env} {d : Dx} {t : Hp} {nx : Nat}

/-- An operation that reads: what it yields. -/
def ReadOK (P : Program) (o : Oper) (tm : Env) (t : Hp) (v : V) : Prop :=
  ∀ (m : Inj) (S : Nat → Prop) (nx : Nat) (w : World) (ρ : Operand → Value), OpsR m S tm o ρ → (∀ b, b < nx → S b) → Rel m t nx w → (execOp ρ o).run P w = .ok (.value (gam m v)) w ∧ okV m S v

theorem okV_mono {m : Inj} {S S' : Nat → Prop} (h : ∀ b, S b → S' b) {v : V} (hv : okV m S v) : okV m S' v := okV_ext (Inj.agree.refl m S) h v hv
theorem okL_mono {m : Inj} {S S' : Nat → Prop} (h : ∀ b, S b → S' b) {l : List V} (hv : okL m S l) : okL m S' l := okL_ext (Inj.agree.refl m S) h l hv

/-! ### Loads -/
theorem readMany_get {ch : Nat} {els : Tr (List V)} (hch : 0 < ch) : ∀ {c i : Nat} {l : List V}, readMany ch els c i = some l → l.length = c * ch ∧ ∀ j v, l[j]? = some v → ∃ r, els.get (i + j / ch) = some r ∧ r[j % ch]? = some v ∧ j / ch < c
  | 0, i, l, h => by
    cases h
    exact ⟨by simp, fun j v hj => by simp at hj⟩
  | c + 1, i, l, h => by
    have h : oel (els.get i) (fun l => bel (Nat.beq l.length ch) (oel (readMany ch els c (i + 1)) (fun r => some (l ++ r)) none) none) none = some l := h
    cases hg : els.get i with
    | none => rw [hg] at h; cases h
    | some a =>
      rw [hg, oel_some] at h
      cases hb : Nat.beq a.length ch with
      | false => rw [hb] at h; cases h
      | true =>
        rw [hb, bel_true] at h
        have ha := beqN_true hb
        cases hr : readMany ch els c (i + 1) with
        | none => rw [hr] at h; cases h
        | some r =>
          rw [hr] at h
          cases h
          obtain ⟨hl, hget⟩ := readMany_get hch hr
          refine ⟨by rw [List.length_append, ha, hl, Nat.succ_mul, Nat.add_comm], fun j v hj => ?_⟩
          by_cases hjc : j < ch
          · rw [List.getElem?_append_left (by omega)] at hj
            refine ⟨a, ?_, ?_, ?_⟩
            · rw [Nat.div_eq_of_lt hjc]; exact hg
            · rw [Nat.mod_eq_of_lt hjc]; exact hj
            · rw [Nat.div_eq_of_lt hjc]; omega
          · rw [List.getElem?_append_right (by omega), ha] at hj
            obtain ⟨q, h1, h2, h3⟩ := hget (j - ch) v hj
            have hd : j / ch = (j - ch) / ch + 1 := by
              conv => lhs; rw [show j = (j - ch) + ch by omega]
              exact Nat.add_div_right _ hch
            have hm : j % ch = (j - ch) % ch := by
              conv => lhs; rw [show j = (j - ch) + ch by omega]
              exact Nat.add_mod_right _ _
            refine ⟨q, ?_, ?_, by omega⟩
            · rw [hd, show i + ((j - ch) / ch + 1) = i + 1 + (j - ch) / ch by omega]; exact h1
            · rw [hm]; exact h2

theorem readRow_get {ch n : Nat} {els : Tr (List V)} (hch : 0 < ch) {off c : Nat} {l : List V} (h : readRow ch n els off c = some l) :
    ∀ j v, l[j]? = some v → cellAt ch n els (off + j) = some v := by
  intro j v hj
  unfold readRow at h
  cases h1 : Nat.ble (Nat.add (Nat.mod off ch) c) ch with
  | true =>
    rw [h1, bel_true] at h
    have h1' : off % ch + c ≤ ch := bleN_true h1
    cases h2 : Nat.ble (Nat.succ (Nat.div off ch)) n with
    | false => rw [h2] at h; cases h
    | true =>
      rw [h2, bel_true] at h
      have h2' : off / ch < n := Nat.le_of_ble_eq_true h2
      cases hg : els.get (Nat.div off ch) with
      | none => rw [hg] at h; cases h
      | some a =>
        rw [hg] at h
        cases h
        rw [List.getElem?_take] at hj
        split at hj
        · rename_i hjc
          rw [List.getElem?_drop] at hj
          have hlt : off % ch + j < ch := by omega
          have hd : (off + j) / ch = off / ch := by
            conv => lhs; rw [← Nat.div_add_mod off ch, Nat.add_assoc, Nat.mul_add_div hch, Nat.div_eq_of_lt hlt, Nat.add_zero]
          have hm : (off + j) % ch = off % ch + j := by
            conv => lhs; rw [← Nat.div_add_mod off ch, Nat.add_assoc, Nat.mul_add_mod, Nat.mod_eq_of_lt hlt]
          unfold cellAt
          rw [hd, hm, if_pos h2']
          have hg' : els.get (off / ch) = some a := hg
          rw [hg']
          exact hj
        · cases hj
  | false =>
    rw [h1, bel_false] at h
    cases h2 : Nat.beq (Nat.mod off ch) 0 with
    | false => rw [h2] at h; cases h
    | true =>
      rw [h2, bel_true] at h
      cases h3 : Nat.beq (Nat.mod c ch) 0 with
      | false => rw [h3] at h; cases h
      | true =>
        rw [h3, bel_true] at h
        cases h4 : Nat.ble (Nat.add (Nat.div off ch) (Nat.div c ch)) n with
        | false => rw [h4] at h; cases h
        | true =>
          rw [h4, bel_true] at h
          have h2' : off % ch = 0 := beqN_true h2
          have h4' : off / ch + c / ch ≤ n := bleN_true h4
          obtain ⟨_, hget⟩ := readMany_get hch h
          obtain ⟨r, g1, g2, g3⟩ := hget j v hj
          have hoff : off = ch * (off / ch) := by have := Nat.div_add_mod off ch; omega
          have hd : (off + j) / ch = off / ch + j / ch := by
            conv => lhs; rw [hoff, Nat.mul_add_div hch]
          have hm : (off + j) % ch = j % ch := by
            conv => lhs; rw [hoff, Nat.mul_add_mod]
          have g3' : j / ch < c / ch := g3
          have g1' : els.get (off / ch + j / ch) = some r := g1
          unfold cellAt
          rw [hd, hm, if_pos (by omega), g1']
          exact g2

theorem loadN_run {m : Inj} {w : World} (hr : Rel m t nx w) {b off c : Nat} {l : List V} (h : loadN t b off c = some l) :
    okL m (Lt nx) l ∧ (∀ v ∈ l, isCell v = true) ∧ l.length = c ∧ ∀ j v, l[j]? = some v → w.cell? ⟨m.ρ b, off + j, none⟩ = some (gam m v) := by
  cases c with
  | zero => cases h; exact ⟨trivial, by simp, rfl, by simp⟩
  | succ c =>
    have h : oel (t.get b) (fun x => x.sel (fun _ ch n _ els => oel (readRow ch n els off (c + 1)) (fun l => bel (Nat.beq l.length (c + 1)) (some l) none) none) (fun _ _ => none) (fun _ => none) (fun _ _ _ => none)) none = some l := h
    cases hg : t.get b with
    | none => rw [hg] at h; cases h
    | some x =>
      rw [hg, oel_some] at h
      cases x with
      | cells ty ch n fz els =>
        have h : oel (readRow ch n els off (c + 1)) (fun l => bel (Nat.beq l.length (c + 1)) (some l) none) none = some l := h
        cases hrow : readRow ch n els off (c + 1) with
        | none => rw [hrow] at h; cases h
        | some l' =>
          rw [hrow, oel_some] at h
          cases hb : Nat.beq l'.length (c + 1) with
          | false => rw [hb] at h; cases h
          | true =>
            rw [hb] at h
            cases h
            obtain ⟨_, cs, fr, ho, hch, _, _, hcell, _⟩ := hr.blk b _ hg
            have hget := readRow_get hch hrow
            have all : ∀ j v, l[j]? = some v → cs[off + j]? = some (gam m v) ∧ okV m (Lt nx) v ∧ isCell v = true := fun j v hj => hcell _ _ (hget j v hj)
            refine ⟨(okL_iff ..).2 fun v hv => ?_, fun v hv => ?_, beqN_true hb, fun j v hj => ?_⟩
            · obtain ⟨j, hj⟩ := List.getElem?_of_mem hv; exact (all j v hj).2.1
            · obtain ⟨j, hj⟩ := List.getElem?_of_mem hv; exact (all j v hj).2.2
            · simp only [World.cell?, ho]
              exact (all j v hj).1
      | _ => cases h

theorem run_loadN {m : Inj} {w : World} (hr : Rel m t nx w) {b off c : Nat} {l : List V} (h : loadN t b off c = some l) :
    (loadCells ⟨m.ρ b, off, none⟩ c).run P w = .ok (gamL m l).toArray w := by
  obtain ⟨_, _, hl, hc⟩ := loadN_run hr h
  have := run_loadCells_list (P := P) w ⟨m.ρ b, off, none⟩ (gamL m l) (fun j v hj => by
    rw [gamL_get] at hj
    cases hlj : l[j]? with
    | none => rw [hlj] at hj; cases hj
    | some u =>
      rw [hlj] at hj
      cases hj
      rw [add_none]
      exact hc j u hlj)
  rwa [gamL_length, hl] at this

theorem run_loadVar {m : Inj} {w : World} (hr : Rel m t nx w) {b off : Nat} {ty : TypeId} {l : List V} {v : V} (h : loadN t b off (sz P ty) = some l) (hv : mkV P ty l some none = some v) :
    (loadVar ty ⟨m.ρ b, off, none⟩).run P w = .ok (gam m v) w ∧ okV m (Lt nx) v := by
  obtain ⟨h1, h2, h3, h4⟩ := loadN_run hr h
  have hl := run_loadN (P := P) hr h
  unfold mkV at hv
  have agg : ∀ dd, P.underlying ty = some dd → isAggB dd = true → v = .agg l → (loadVar ty ⟨m.ρ b, off, none⟩).run P w = .ok (gam m v) w ∧ okV m (Lt nx) v := fun dd hd ha e => by
    subst e
    obtain ⟨info, hi⟩ := info_of_und hd
    rw [sz_info hi] at hl
    refine ⟨?_, h1, h2⟩
    unfold loadVar
    simp [isAgg_run hd, ha, run_sizeOf' hi, hl, gam]
  have one : ∀ dd, P.underlying ty = some dd → isAggB dd = false → oneV l some none = some v → (loadVar ty ⟨m.ρ b, off, none⟩).run P w = .ok (gam m v) w ∧ okV m (Lt nx) v := fun dd hd ha e => by
    cases l with
    | nil => cases e
    | cons u r =>
      cases r with
      | cons x r => cases e
      | nil =>
        cases e
        refine ⟨?_, h1.1⟩
        have hc := h4 0 v rfl
        rw [Nat.add_zero] at hc
        unfold loadVar
        simp [isAgg_run hd, ha, hc]
  cases hd : und P ty with
  | invalid => rw [hd] at hv; cases hv
  | struct fs => rw [hd] at hv; exact agg _ (und_some hd (by simp)) rfl (Option.some.inj hv).symm
  | array n e => rw [hd] at hv; exact agg _ (und_some hd (by simp)) rfl (Option.some.inj hv).symm
  | _ => rw [hd] at hv; exact one _ (und_some hd (by simp)) rfl hv

theorem evO_some {α : Type} {x : Operand} {tm : Env} {c : V → Option α} {v : α} (h : ev x tm c none = some v) : ∃ u, evO x tm = some u ∧ c u = some v := by
  rw [ev_eq] at h
  cases hx : evO x tm with
  | none => rw [hx] at h; cases h
  | some u => rw [hx] at h; exact ⟨u, rfl, h⟩
theorem oelO_some {α β : Type} {x : Option α} {c : α → Option β} {v : β} (h : oel x c none = some v) : ∃ u, x = some u ∧ c u = some v := by
  cases x with
  | none => cases h
  | some u => exact ⟨u, rfl, h⟩
theorem belO_some {α : Type} {b : Bool} {x : Option α} {v : α} (h : bel b x none = some v) : b = true ∧ x = some v := by
  cases b with
  | false => cases h
  | true => exact ⟨rfl, h⟩

theorem rdLoad_ok {ty : TypeId} {x : Operand} {v : V} (ho : o.op = .load ty x) (h : rdLoad P ty x tm t = some v) : ReadOK P o tm t v := by
  unfold rdLoad at h
  obtain ⟨u, hu, h⟩ := evO_some h
  cases u with
  | ptr b off =>
    simp only [onPtr_ptr] at h
    obtain ⟨l, hl, h⟩ := oelO_some h
    intro m S nx w ρ hr hS hrel
    have hx := hr x (by simp [ho, Op.operands]) _ hu
    obtain ⟨r1, r2⟩ := run_loadVar hrel hl h
    refine ⟨?_, okV_mono hS r2⟩
    simp [execOp, ho, hx.1, gam_ptr, Instr.loadAt, Instr.sureAddr, r1]
  | _ => cases h

/-! ### Lengths -/
theorem mapAt_some {b : Nat} {es : List (V × V × Nat) × Nat} (h : mapAt t b = some es) : t.get b = some (.map es.1 es.2) := by
  unfold mapAt at h
  obtain ⟨x, hx, h⟩ := oelO_some h
  cases x with
  | map e c => cases h; exact hx
  | _ => cases h
theorem run_getMap {m : Inj} {w : World} (hr : Rel m t nx w) {b : Nat} {es : List (V × V × Nat)} {cl : Nat} (h : t.get b = some (.map es cl)) :
    (getObj (m.ρ b)).run P w = .ok (.map (es.map (gamE m)).toArray cl) w := by
  obtain ⟨_, ho, _⟩ := hr.blk b _ h
  simp [getObj, Sem.run, ho]

theorem isSl_eq {dd : TypeDesc} (h : isSl dd = true) : ∃ e, dd = .slice e := by cases dd <;> first | (cases h; done) | exact ⟨_, rfl⟩
theorem isMap_eq {dd : TypeDesc} (h : isMap dd = true) : ∃ a e, dd = .map a e := by cases dd <;> first | (cases h; done) | exact ⟨_, _, rfl⟩

theorem run_builtin {ρ : Operand → Value} {b : Builtin} {args : Array Operand} {tys : Array TypeId} (ho : o.op = .call ⟨.builtin b, args, tys⟩) (w : World) :
    (execOp ρ o).run P w = (builtin b tys o.type (args.map fun | .const _ => true | _ => false) (args.map ρ)).run P w := by
  simp only [execOp, ho, resolve, Sem.run_bind, Sem.run_pure, Result.andThen_ok, invoke]
  rfl

theorem arr_of_toList {α : Type} {a : Array α} {x : α} {r : List α} (h : a.toList = x :: r) : a[0]? = some x := by
  rw [← Array.getElem?_toList, h]; rfl

theorem rdLen_ok {args : Array Operand} {tys : Array TypeId} {v : V} (ho : o.op = .call ⟨.builtin .len, args, tys⟩) (h : rdLen P args tys tm t = some v) : ReadOK P o tm t v := by
  unfold rdLen at h
  cases ha : args.toList with
  | nil => rw [ha] at h; cases h
  | cons x ra =>
    cases hty : tys.toList with
    | nil => rw [ha, hty] at h; cases h
    | cons ty rt =>
      rw [ha, hty] at h
      simp only [onList_cons] at h
      obtain ⟨u, hu, h⟩ := evO_some h
      intro m S nx w ρ hr hS hrel
      have hmem : x ∈ args := by rw [← Array.mem_toList_iff, ha]; exact List.mem_cons_self ..
      have hx := hr x (by simp only [ho, Op.operands, Call.operands]; simpa using hmem) _ hu
      have h0 : (args.map ρ)[0]? = some (gam m u) := by rw [Array.getElem?_map, arr_of_toList ha]; simp [hx.1]
      have t0 := arr_of_toList hty
      rw [run_builtin ho]
      simp only [builtin, Sem.run_bind, Builtin.len_, t0, h0]
      unfold lenV at h
      cases u with
      | str l n =>
        obtain ⟨hb, h⟩ := belO_some h
        cases h
        refine ⟨?_, trivial⟩
        simp [run_underlying (isStr_und hb), gam, goInt]
      | sl b off n c =>
        obtain ⟨hb, h⟩ := belO_some h
        cases h
        obtain ⟨e, he⟩ := isSl_eq hb
        refine ⟨?_, trivial⟩
        simp [run_underlying (und_some he (by simp)), gam, goInt]
      | nils =>
        obtain ⟨hb, h⟩ := belO_some h
        cases h
        obtain ⟨e, he⟩ := isSl_eq hb
        refine ⟨?_, trivial⟩
        simp [run_underlying (und_some he (by simp)), gam, goInt]
      | nilm =>
        obtain ⟨hb, h⟩ := belO_some h
        cases h
        obtain ⟨a, e, he⟩ := isMap_eq hb
        refine ⟨?_, trivial⟩
        simp [run_underlying (und_some he (by simp)), gam, goInt]
      | map b =>
        obtain ⟨hb, h⟩ := belO_some h
        obtain ⟨es, hes, h⟩ := oelO_some h
        cases h
        obtain ⟨a, e, he⟩ := isMap_eq hb
        refine ⟨?_, trivial⟩
        have hg := run_getMap (P := P) hrel (mapAt_some hes)
        simp [run_underlying (und_some he (by simp)), gam, goInt, hg]
      | _ => cases h

/-! ### []byte as a string -/
theorem isBytes_some {ty : TypeId} (h : isBytes P ty = true) : ∃ e, slElem P ty = some e ∧ P.underlying ty = some (.slice e.1) ∧ P.underlying e.1 = some (.int .u8) := by
  unfold isBytes at h
  cases hs : slElem P ty with
  | none => rw [hs] at h; cases h
  | some e =>
    rw [hs, oel_some] at h
    refine ⟨e, rfl, (slElem_some hs).1, ?_⟩
    cases hd : und P e.1 with
    | int kk =>
      rw [hd] at h
      have := sameKind_true h
      subst this
      exact und_some hd (by simp)
    | _ => rw [hd] at h; cases h

theorem bytesOfL_gam : ∀ {l : List V} {r : Nat × Nat}, bytesOfL l = some r → ∃ ns : List Nat, (∀ n ∈ ns, n < 256) ∧ (∀ m, gamL m l = ns.map fun (n : Nat) => Value.int .u8 (n : Int)) ∧ r.1 = ns.length ∧ bytesL r.1 r.2 = ns.map UInt8.ofNat
  | [], r, h => by cases h; exact ⟨[], by simp, fun _ => rfl, rfl, rfl⟩
  | v :: l, r, h => by
    cases v with
    | int kk n =>
      have h : bel (sameKind kk .u8) (Int.rec (motive := fun _ => Option (Nat × Nat)) (fun c => bel (Nat.ble (Nat.succ c) 256) (oel (bytesOfL l) (fun x => some (Nat.succ x.1, Nat.add c (Nat.mul 256 x.2))) none) none) (fun _ => none) n) none = some r := h
      obtain ⟨hk, h⟩ := belO_some h
      have := sameKind_true hk
      subst this
      cases n with
      | negSucc n => cases h
      | ofNat c =>
        have h : bel (Nat.ble (Nat.succ c) 256) (oel (bytesOfL l) (fun x => some (Nat.succ x.1, Nat.add c (Nat.mul 256 x.2))) none) none = some r := h
        obtain ⟨hc, h⟩ := belO_some h
        obtain ⟨x, hx, h⟩ := oelO_some h
        cases h
        have hc' : c < 256 := Nat.le_of_ble_eq_true hc
        obtain ⟨ns, h1, h2, h3, h4⟩ := bytesOfL_gam hx
        refine ⟨c :: ns, by simpa using ⟨hc', h1⟩, fun m => by simp [gamL, gam, h2 m], by simp [h3], ?_⟩
        show bytesL (x.1 + 1) (c + 256 * x.2) = _
        simp only [bytesL, List.map_cons]
        rw [show (c + 256 * x.2) % 256 = c by omega, show (c + 256 * x.2) / 256 = x.2 by omega, h4]
    | _ => cases h

theorem foldl_push : ∀ (ns : List Nat) (s : ByteArray), ((ns.map fun (n : Nat) => (n : Int)).foldl (fun r n => r.push (UInt8.ofNat n.toNat)) s) = ⟨s.data ++ (ns.map UInt8.ofNat).toArray⟩
  | [], s => by simp
  | n :: ns, s => by
    simp only [List.map_cons, List.foldl_cons]
    rw [foldl_push ns]
    apply ByteArray.ext
    apply Array.ext'
    simp [ByteArray.push]

theorem rdBytes_ok {st dt : TypeId} {x : Operand} {v : V} (ho : o.op = .convert st dt x) (hb : isBytes P st = true) (hs : isStr (und P dt) = true) (h : rdBytes x tm t = some v) : ReadOK P o tm t v := by
  obtain ⟨e, _, hu1, hu2⟩ := isBytes_some hb
  have hd := isStr_und hs
  unfold rdBytes at h
  obtain ⟨u, hu, h⟩ := evO_some h
  intro m S nx w ρ hr hS hrel
  have hx := hr x (by simp [ho, Op.operands]) _ hu
  cases u with
  | nils =>
    cases h
    refine ⟨?_, trivial⟩
    have : (convert st dt (ρ x)).run P w = .ok (.string .empty) w := by
      rw [hx.1]
      simp [convert, run_underlying hu1, run_underlying hd, run_underlying hu2, gam, Conv.bytesToString]
    simp [execOp, ho, this, gam, toBA, bytesL]
    rfl
  | sl b off len c =>
    simp only [onSl_sl] at h
    obtain ⟨l, hl, h⟩ := oelO_some h
    obtain ⟨r, hr', h⟩ := oelO_some h
    cases h
    refine ⟨?_, trivial⟩
    obtain ⟨ns, h1, h2, h3, h4⟩ := bytesOfL_gam hr'
    have hload := run_loadN (P := P) hrel hl
    have hload' : (loadCells ⟨m.ρ b, off, none⟩ len).run P w = .ok ((ns.map fun (n : Nat) => (n : Int)).map (Value.int .u8)).toArray w := by
      rw [hload, h2 m]; simp [List.map_map, Function.comp_def]
    have hconv := run_bytesToString (P := P) w ⟨m.ρ b, off, none⟩ len (capG m b c) _ hload'
    rw [foldl_push] at hconv
    have : (convert st dt (ρ x)).run P w = .ok (.string (toBA r.1 r.2)) w := by
      rw [hx.1, show gam m (.sl b off len c) = .slice (some ⟨m.ρ b, off, none⟩) len (capG m b c) from rfl, run_convert_bytes_string w st dt e.1 _ _ _ hu1 hu2 hd, hconv]
      congr 2
      unfold toBA
      rw [h4]
      apply ByteArray.ext
      simp
    simp [execOp, ho, this, gam]
  | _ => cases h
end Go.X
end

section
/- The reckoner: maps. -/
namespace Go.X
open Go
variable {P : Program} {s : CallT} {o : Oper} {k : K} {tm : Env} {d : Dx} {t : Hp} {nx : Nat}

/-! ### Which entry -/
noncomputable def idxE (P : Program) (t : TypeId) (k : V) : List (V × V × Nat) → Nat → Option (Option (Nat × V))
  | [], _ => some none
  | e :: r, i => oel (eqT P t k e.1) (fun b => bel b (some (some (i, e.2.1))) (idxE P t k r (i + 1))) none

theorem findE_idx {kt : TypeId} {x : V} : ∀ {es : List (V × V × Nat)} {r : Option V} (i : Nat), findE P kt x es = some r → ∃ q, idxE P kt x es i = some q ∧ r = q.map (·.2)
  | [], r, i, h => by cases h; exact ⟨none, rfl, rfl⟩
  | e :: es, r, i, h => by
    have h : oel (eqT P kt x e.1) (fun b => bel b (some (some e.2.1)) (findE P kt x es)) none = some r := h
    obtain ⟨b, hb, h⟩ := oelO_some h
    cases b with
    | true => cases h; exact ⟨some (i, e.2.1), by simp [idxE, hb], rfl⟩
    | false =>
      obtain ⟨q, hq, hr⟩ := findE_idx (i + 1) h
      exact ⟨q, by simp [idxE, hb, hq], hr⟩

/-! ### Keys -/
def keyD (d : TypeDesc) : Bool := match d with | .int _ => true | .string => true | .bool => true | _ => false
theorem keyD_one {d : TypeDesc} (h : keyD d = true) : isAggB d = false ∧ d ≠ .invalid := by cases d <;> first | (cases h; done) | exact ⟨rfl, by simp⟩

/-- The kinds of a key's type. -/
inductive KeyKind (P : Program) (t : TypeId) : Prop
  | one (d : TypeDesc) (hd : und P t = d) (hk : keyD d = true)
  | arr (n : Nat) (e : TypeId) (k : IntKind) (hd : und P t = .array n e) (he : und P e = .int k)
  | str (fs : Array Field) (hd : und P t = .struct fs) (hp : plainStruct P t = true) (hf : ∀ f ∈ fs.toList, keyD (und P f.type) = true)
theorem plainKey_kind {ty : TypeId} (h : plainKey P ty = true) : KeyKind P ty := by
  unfold plainKey at h
  cases hd : und P ty with
  | int kk => exact .one _ hd rfl
  | string => exact .one _ hd rfl
  | bool => exact .one _ hd rfl
  | array n e =>
    rw [hd] at h
    cases he : und P e with
    | int kk => exact .arr n e kk hd he
    | _ => simp [he] at h
  | struct fs =>
    rw [hd] at h
    simp only [andB_eq, Bool.and_eq_true] at h
    refine .str fs hd h.1 fun f hf => ?_
    have := List.all_eq_true.1 h.2 f hf
    unfold keyD
    exact this
  | _ => rw [hd] at h; cases h

theorem checkKey_one {ty : TypeId} {dd : TypeDesc} (hu : P.underlying ty = some dd) (hk : keyD dd = true) (em : Bool) (n : Nat) (v : Value) (w : World) : (Instr.checkKey em (n + 1) ty v).run P w = .ok () w := by
  cases dd <;> first | (cases hk; done) | simp [Instr.checkKey, run_underlying hu]

theorem eqFields_self (m : Inj) (L : List V) : ∀ (fs : List Field) (i : Nat) (l : List V), L.drop i = l → eqFields P fs i l l = some true → ∀ f ∈ fs, f.name ≠ "_" →
    ∃ v, (gamL m L).toArray[f.offset]? = some (gam m v) ∧ aggB P f.type = false ∧ P.underlying f.type = some (und P f.type)
  | [], _, _, _, _ => by simp
  | g :: fs, i, [], _, h => by cases h
  | g :: fs, i, v :: l, hl, h => by
    have h : bel (andB (Nat.beq g.offset i) (andB (Nat.beq (sz P g.type) 1) (notB (aggB P g.type))))
      (bel (decide (g.name = "_")) (eqFields P fs (Nat.succ i) l l) (oel (eqBy P (und P g.type) v v) (fun b => bel b (eqFields P fs (Nat.succ i) l l) (some false)) none)) none = some true := h
    obtain ⟨hc, h⟩ := belO_some h
    simp only [andB_eq, Bool.and_eq_true, notB_eq, Bool.not_eq_true'] at hc
    have hoff := beqN_true hc.1
    obtain ⟨hlv, hl'⟩ := drop_get hl
    intro f hf hn
    by_cases hg : g.name = "_"
    · rw [decide_eq_true hg, bel_true] at h
      rcases List.mem_cons.1 hf with rfl | hf
      · exact absurd hg hn
      · exact eqFields_self m L fs _ l hl' h f hf hn
    · rw [decide_eq_false hg, bel_false] at h
      obtain ⟨b, hb, h⟩ := oelO_some h
      cases b with
      | false => cases h
      | true =>
        rw [bel_true] at h
        rcases List.mem_cons.1 hf with rfl | hf
        · obtain ⟨dd, hd, e⟩ := eqBy_und hb
          rw [hoff]
          exact ⟨v, gamL_arr hlv, hc.2.2, by rw [hd, e]⟩
        · exact eqFields_self m L fs _ l hl' h f hf hn

theorem eqElems_self (L : List V) (dd : TypeDesc) : ∀ (c i : Nat) (l : List V), L.drop i = l → eqElems P dd c l l = some true → ∀ j, i ≤ j → j < i + c → ∃ v, L[j]? = some v
  | 0, i, l, _, _, j, h1, h2 => by omega
  | c + 1, i, [], _, h, _, _, _ => by cases h
  | c + 1, i, v :: l, hl, h, j, h1, h2 => by
    have h : oel (eqBy P dd v v) (fun b => bel b (eqElems P dd c l l) (some false)) none = some true := h
    obtain ⟨b, hb, h⟩ := oelO_some h
    obtain ⟨hlv, hl'⟩ := drop_get hl
    cases b with
    | false => cases h
    | true =>
      rw [bel_true] at h
      by_cases e : j = i
      · subst e; exact ⟨v, hlv⟩
      · exact eqElems_self L dd c (i + 1) l hl' h j (by omega) (by omega)

theorem run_forIn_same {α β : Type} (f : α → β → Sem (ForInStep β)) (w : World) : ∀ (l : List α) (r : β), (∀ a ∈ l, ∀ r, (f a r).run P w = .ok (.yield r) w) → (forIn l r f).run P w = .ok r w
  | [], r, _ => by simp
  | a :: l, r, h => by
    simp only [List.forIn_cons, Sem.run_bind, h a (List.mem_cons_self ..), Result.andThen_ok]
    exact run_forIn_same f w l r fun b hb => h b (List.mem_cons_of_mem _ hb)

theorem checkKey_run {ty : TypeId} {x : V} (hk : KeyKind P ty) (hs : selfOk P ty x = true) (em : Bool) (n : Nat) (m : Inj) (w : World) : (Instr.checkKey em (n + 2) ty (gam m x)).run P w = .ok () w := by
  have hself : eqT P ty x x = some true := by
    unfold selfOk at hs
    cases he : eqT P ty x x with
    | none => rw [he] at hs; cases hs
    | some b => rw [he] at hs; exact congrArg some hs
  cases hk with
  | one dd hd hkd => exact checkKey_one (und_some hd (keyD_one hkd).2) hkd em (n + 1) _ w
  | arr c e kk hd he =>
    have hu := und_some hd (by simp)
    have hue := und_some he (by simp)
    unfold eqT at hself
    rw [hd] at hself
    simp only [isStruct, bel_false, elemOfArr, oel_some] at hself
    unfold eqArr at hself
    obtain ⟨hc, hself⟩ := belO_some hself
    simp only [andB_eq, Bool.and_eq_true, notB_eq, Bool.not_eq_true'] at hc
    cases x with
    | agg L =>
      simp only [onAgg_agg] at hself
      have hg := eqElems_self L _ c 0 L rfl hself
      have h1 := beqN_true hc.1
      obtain ⟨info, hi, hsz⟩ := sz_pos (P := P) (t := e) (by omega)
      have hagg : isAggB (und P e) = false := hc.2.1
      rw [he] at hagg
      obtain ⟨N, hN⟩ : ∃ N, n + 1 = N := ⟨_, rfl⟩
      have hone : ∀ v, (Instr.checkKey em N e v).run P w = .ok () w := fun v => hN ▸ checkKey_one hue rfl em n v w
      rw [show n + 2 = N + 1 by omega]
      simp only [gam, Instr.checkKey, Sem.run_bind, run_underlying hu, Result.andThen_ok]
      simp only [Std.Legacy.Range.forIn_eq_forIn_range', Std.Legacy.Range.size, Nat.sub_zero, Nat.add_one_sub_one, Nat.div_one]
      rw [run_forIn_same _ w _ _ ?_]
      · rfl
      · intro j hj r
        rw [List.mem_range'_1] at hj
        obtain ⟨v, hv⟩ := hg j (Nat.zero_le _) hj.2
        have hp := part_one (P := P) hue hagg (gamL_arr (m := m) hv) w
        have hs1 : info.size = 1 := by rw [hsz, h1]
        simp only [Sem.run_bind, run_sizeOf' hi, Result.andThen_ok, hs1, Nat.mul_one, hp, hone, Sem.run_pure]
    | _ => cases hself
  | str fs hd hp hf =>
    have hu := und_some hd (by simp)
    unfold eqT at hself
    rw [hd] at hself
    simp only [isStruct, bel_true, hp] at hself
    cases x with
    | agg L =>
      simp only [onAgg_agg, fieldsOf] at hself
      have hg := eqFields_self (P := P) m L fs.toList 0 L rfl hself
      obtain ⟨N, hN⟩ : ∃ N, n + 1 = N := ⟨_, rfl⟩
      rw [show n + 2 = N + 1 by omega]
      simp only [gam, Instr.checkKey, Sem.run_bind, run_underlying hu, Result.andThen_ok]
      rw [← Array.forIn_toList, run_forIn_same _ w _ _ ?_]
      · rfl
      · intro f hf' r
        by_cases hn : f.name = "_"
        · simp [hn]
        · obtain ⟨v, hv, hag, hue⟩ := hg f hf' hn
          have hpp := part_one (P := P) hue hag hv w
          have hone : (Instr.checkKey em N f.type (gam m v)).run P w = .ok () w := hN ▸ checkKey_one hue (hf f hf') em n _ w
          simp [hn, hpp, hone]
    | _ => cases hself

/-! ### Finding -/
theorem sameNow_run {ty : TypeId} {dd : TypeDesc} (hd : und P ty = dd) (hk : keyD dd = true) {v u : V} {b : Bool} (h : eqT P ty v u = some b) (m : Inj) : Instr.sameNow dd (gam m v) (gam m u) = some b := by
  subst hd
  unfold eqT at h
  cases hd : und P ty with
  | int kk =>
    rw [hd] at h
    cases v <;> first
      | (cases h; done)
      | (rename_i j x
         cases u <;> first
          | (cases h; done)
          | (rename_i i y
             have h' : bel (sameKind j i) (some (eqI x y)) none = some b := h
             clear h
             obtain ⟨hk', h3⟩ := belO_some h'
             have := sameKind_true hk'
             subst this
             have h'' := Option.some.inj h3
             subst h''
             simp [Instr.sameNow, gam, eqI_eq]))
  | string =>
    rw [hd] at h
    cases v <;> first
      | (cases h; done)
      | (cases u <;> first
          | (cases h; done)
          | (cases h; simp [Instr.sameNow, gam, toListBeq]))
  | bool =>
    rw [hd] at h
    cases v with
    | bool x =>
      cases x <;> (cases u <;> first
        | (cases h; done)
        | (rename_i y; cases y <;> (cases h; simp [Instr.sameNow, gam])))
    | _ => cases h
  | _ => rw [hd] at hk; cases hk

def gamQ (m : Inj) (q : Option (Nat × V)) : Option (Nat × Value) := q.map fun x => (x.1, gam m x.2)

theorem findNow_run {ty : TypeId} {dd : TypeDesc} (hd : und P ty = dd) (hk : keyD dd = true) {x : V} (m : Inj) : ∀ {es : List (V × V × Nat)} {i : Nat} {q : Option (Nat × V)}, idxE P ty x es i = some q →
    Instr.findNow dd (gam m x) (es.map (gamE m)) i = some (gamQ m q)
  | [], i, q, h => by cases h; rfl
  | e :: es, i, q, h => by
    have h : oel (eqT P ty x e.1) (fun b => bel b (some (some (i, e.2.1))) (idxE P ty x es (i + 1))) none = some q := h
    obtain ⟨b, hb, h⟩ := oelO_some h
    have hs := sameNow_run hd hk hb m
    simp only [List.map_cons, Instr.findNow]
    have hs' : Instr.sameNow dd (gam m x) (gamE m e).key = some b := hs
    rw [hs']
    cases b with
    | true => cases h; rfl
    | false => exact findNow_run hd hk m h
theorem findAsking_run {ty : TypeId} {x : V} (m : Inj) (w : World) : ∀ {es : List (V × V × Nat)} {i : Nat} {q : Option (Nat × V)}, idxE P ty x es i = some q →
    (Instr.findAsking ty (gam m x) (es.map (gamE m)) i).run P w = .ok (gamQ m q) w
  | [], i, q, h => by cases h; rfl
  | e :: es, i, q, h => by
    have h : oel (eqT P ty x e.1) (fun b => bel b (some (some (i, e.2.1))) (idxE P ty x es (i + 1))) none = some q := h
    obtain ⟨b, hb, h⟩ := oelO_some h
    have hs : (Op.equal ty (gam m x) (gamE m e).key).run P w = .ok b w := eqT_run hb 9998 w m
    simp only [List.map_cons, Instr.findAsking, Sem.run_bind, hs, Result.andThen_ok]
    cases b with
    | true => cases h; rfl
    | false => exact findAsking_run m w h
theorem findNow_none {dd : TypeDesc} (hk : keyD dd = false) (x : Value) (e : MapEntry) (es : List MapEntry) (i : Nat) : Instr.findNow dd x (e :: es) i = none := by
  have : Instr.sameNow dd x e.key = none := by
    cases dd <;> first | (cases hk; done) | rfl
  simp only [Instr.findNow, this]
theorem findKey_run {ty : TypeId} {x : V} (hk : KeyKind P ty) (m : Inj) (w : World) {es : List (V × V × Nat)} {q : Option (Nat × V)} (h : idxE P ty x es 0 = some q) :
    (Instr.findKey ty (gam m x) (es.map (gamE m))).run P w = .ok (gamQ m q) w := by
  have main : ∀ dd, P.underlying ty = some dd → und P ty = dd → (Instr.findKey ty (gam m x) (es.map (gamE m))).run P w = .ok (gamQ m q) w := fun dd hu hd => by
    unfold Instr.findKey
    simp only [Sem.run_bind, run_underlying hu, Result.andThen_ok]
    cases hkd : keyD dd with
    | true => rw [findNow_run hd hkd m h]; rfl
    | false =>
      cases es with
      | nil => cases h; rfl
      | cons e es => rw [List.map_cons, findNow_none hkd]; exact findAsking_run m w h
  cases hk with
  | one dd hd hkd => exact main dd (und_some hd (keyD_one hkd).2) hd
  | arr c e kk hd he => exact main _ (und_some hd (by simp)) hd
  | str fs hd hp hf => exact main _ (und_some hd (by simp)) hd

theorem mapOf_some {dd : TypeDesc} {ke : TypeId × TypeId} (h : mapOf dd = some ke) : dd = .map ke.1 ke.2 := by cases dd <;> first | (cases h; done) | (cases h; rfl)

/-- What a lookup in a row of entries comes to. -/
theorem lookIn_run {ty : TypeId} {ke : TypeId × TypeId} {ok : Bool} {x : V} {es : List (V × V × Nat)} {v : V} (hkk : KeyKind P ke.1) (hs : selfOk P ke.1 x = true) (h : lookIn P ke.1 ke.2 ok x es = some v)
    (m : Inj) (S : Nat → Prop) (w : World) (hes : ∀ e ∈ es, okV m S e.2.1) (em : Bool) :
    (do Instr.checkKey em 10000 ke.1 (gam m x)
        let (v, b) ← match ← Instr.findKey ke.1 (gam m x) (es.map (gamE m)) with
          | some (_, v) => pure (v, true)
          | none => pure (← zeroValue ke.2, false)
        pure (if ok then .tuple #[v, .bool b] else v) : Sem Value).run P w = .ok (gam m v) w ∧ okV m S v := by
  unfold lookIn at h
  obtain ⟨r, hr, h⟩ := oelO_some h
  obtain ⟨q, hq, rfl⟩ := findE_idx 0 hr
  have hf := findKey_run hkk m w hq
  have hc := checkKey_run hkk hs em 9998 m w
  have hc' : (Instr.checkKey em 10000 ke.1 (gam m x)).run P w = .ok () w := hc
  have hin : ∀ (es : List (V × V × Nat)) (i : Nat) (a : Nat × V), idxE P ke.1 x es i = some (some a) → ∃ e ∈ es, e.2.1 = a.2 := by
    intro es
    induction es with
    | nil => intro i a h; cases h
    | cons e es ih =>
      intro i a h
      have h : oel (eqT P ke.1 x e.1) (fun b => bel b (some (some (i, e.2.1))) (idxE P ke.1 x es (i + 1))) none = some (some a) := h
      obtain ⟨b, hb, h⟩ := oelO_some h
      cases b with
      | true => cases h; exact ⟨e, List.mem_cons_self .., rfl⟩
      | false => obtain ⟨e', he', h'⟩ := ih _ _ h; exact ⟨e', List.mem_cons_of_mem _ he', h'⟩
  cases q with
  | none =>
    simp only [Option.map_none, oel_none] at h
    obtain ⟨z, hz, h⟩ := oelO_some h
    cases h
    obtain ⟨hzr, hzo⟩ := zeroV_some hz m S
    refine ⟨?_, ?_⟩
    · simp only [Sem.run_bind, hc', hf, Result.andThen_ok, gamQ, Option.map_none, hzr, Sem.run_pure]
      cases ok <;> rfl
    · cases ok
      · exact hzo
      · exact ⟨hzo, trivial, trivial⟩
  | some a =>
    simp only [Option.map_some, oel_some] at h
    cases h
    obtain ⟨e, he, hev⟩ := hin es 0 a hq
    have hok : okV m S a.2 := hev ▸ hes e he
    refine ⟨?_, ?_⟩
    · simp only [Sem.run_bind, hc', hf, Result.andThen_ok, gamQ, Option.map_some, Sem.run_pure]
      cases ok <;> rfl
    · cases ok
      · exact hok
      · exact ⟨hok, trivial, trivial⟩
end Go.X
end

section
/- The reckoner: lookups. -/
namespace Go.X
open Go
variable {P : Program} {s : CallT} {o : Oper} {k : K} {tm : Env} {d : Dx} {t : Hp} {nx : Nat}

theorem idxE_mem {kt : TypeId} {x : V} : ∀ {es : List (V × V × Nat)} {i : Nat} {a : Nat × V}, idxE P kt x es i = some (some a) → ∃ e ∈ es, e.2.1 = a.2
  | [], i, a, h => by cases h
  | e :: es, i, a, h => by
    have h : oel (eqT P kt x e.1) (fun b => bel b (some (some (i, e.2.1))) (idxE P kt x es (i + 1))) none = some (some a) := h
    obtain ⟨b, hb, h⟩ := oelO_some h
    cases b with
    | true => cases h; exact ⟨e, List.mem_cons_self .., rfl⟩
    | false => obtain ⟨e', he', h'⟩ := idxE_mem h; exact ⟨e', List.mem_cons_of_mem _ he', h'⟩

/-- What is looked up: a value that was found, or nought. -/
theorem lookup_run {ty : TypeId} {ke : TypeId × TypeId} {ok : Bool} {x : V} {es : List (V × V × Nat)} {v : V} (hu : P.underlying ty = some (.map ke.1 ke.2)) (hkk : KeyKind P ke.1) (hs : selfOk P ke.1 x = true)
    (h : lookIn P ke.1 ke.2 ok x es = some v) (m : Inj) (S : Nat → Prop) (w : World) (hes : ∀ e ∈ es, okV m S e.2.1) (X : Value) (ces : Array MapEntry)
    (hX : X = .map none ∧ ces = #[] ∨ ∃ r cl, X = .map (some r) ∧ (getObj r).run P w = .ok (.map ces cl) w)
    (hfind : ∀ q, idxE P ke.1 x es 0 = some q → ∃ q', (Instr.findKey ke.1 (gam m x) ces.toList).run P w = .ok q' w ∧ q'.map (·.2) = q.map (fun a => gam m a.2)) :
    (Instr.lookup ty X (gam m x) ok).run P w = .ok (gam m v) w ∧ okV m S v := by
  unfold lookIn at h
  obtain ⟨r, hr, h⟩ := oelO_some h
  obtain ⟨q, hq, rfl⟩ := findE_idx 0 hr
  obtain ⟨q', hf, hqq⟩ := hfind q hq
  have hc := fun em => checkKey_run hkk hs em 9998 m w
  have hc' : ∀ em, (Instr.checkKey em 10000 ke.1 (gam m x)).run P w = .ok () w := hc
  have core : (Instr.lookup ty X (gam m x) ok).run P w = match q' with
      | some a => .ok (if ok then .tuple #[a.2, .bool true] else a.2) w
      | none => (do let z ← zeroValue ke.2; pure (if ok then .tuple #[z, .bool false] else z) : Sem Value).run P w := by
    unfold Instr.lookup
    rcases hX with ⟨rfl, rfl⟩ | ⟨r', cl, rfl, hg⟩
    · simp only [Sem.run_bind, run_underlying hu, Result.andThen_ok, Sem.run_pure, hc', hf]
      cases q' <;> simp
    · simp only [Sem.run_bind, run_underlying hu, Result.andThen_ok, Sem.run_pure, hg, hc', hf]
      cases q' <;> simp
  rw [core]
  cases q with
  | none =>
    cases q' with
    | some a => cases hqq
    | none =>
      simp only [Option.map_none, oel_none] at h
      obtain ⟨z, hz, h⟩ := oelO_some h
      cases h
      obtain ⟨hzr, hzo⟩ := zeroV_some hz m S
      refine ⟨?_, ?_⟩
      · simp only [Sem.run_bind, hzr, Result.andThen_ok, Sem.run_pure]
        cases ok <;> rfl
      · cases ok
        · exact hzo
        · exact ⟨hzo, trivial, trivial⟩
  | some a =>
    cases q' with
    | none => cases hqq
    | some a' =>
      simp only [Option.map_some, oel_some] at h
      cases h
      obtain ⟨e, he, hev⟩ := idxE_mem hq
      have hok : okV m S a.2 := hev ▸ hes e he
      have ha : a'.2 = gam m a.2 := Option.some.inj hqq
      refine ⟨?_, ?_⟩
      · simp only [ha]
        cases ok <;> rfl
      · cases ok
        · exact hok
        · exact ⟨hok, trivial, trivial⟩

/-! ### A map of texts, in whatever order -/
theorem ba_beq (a b : ByteArray) : (a == b) = true ↔ a = b := by
  rw [beq_toListBytes, beq_iff_eq, ByteArray.toList_eq, ByteArray.toList_eq]
  exact ⟨fun h => ByteArray.ext (Array.ext' h), fun h => by rw [h]⟩
theorem pw_unique : ∀ {es : List (V × V)}, es.Pairwise (fun v w => ∀ l n l' n', v.1 = .str l n → w.1 = .str l' n' → toBA l n ≠ toBA l' n') → ∀ {p q : V × V}, p ∈ es → q ∈ es →
    ∀ {l n l' n' : Nat}, p.1 = .str l n → q.1 = .str l' n' → toBA l n = toBA l' n' → p = q
  | [], _, p, q, hp, _, _, _, _, _, _, _, _ => by cases hp
  | e :: es, hd, p, q, hp, hq, l, n, l', n', h1, h2, h3 => by
    rw [List.pairwise_cons] at hd
    rcases List.mem_cons.1 hp with e1 | hp2
    · rcases List.mem_cons.1 hq with e2 | hq2
      · rw [e1, e2]
      · subst e1; exact absurd h3 (hd.1 q hq2 l n l' n' h1 h2)
    · rcases List.mem_cons.1 hq with e2 | hq2
      · subst e2; exact absurd h3.symm (hd.1 p hp2 l' n' l n h2 h1)
      · exact pw_unique hd.2 hp2 hq2 h1 h2 h3
theorem findNow_str (sx : ByteArray) : ∀ (ces : List MapEntry) (i : Nat), (∀ e ∈ ces, ∃ s', e.key = .string s') →
    ∃ q, Instr.findNow .string (.string sx) ces i = some q ∧ (q = none → ∀ e ∈ ces, e.key ≠ .string sx) ∧ ∀ a, q = some a → ∃ e ∈ ces, e.key = .string sx ∧ a.2 = e.val
  | [], i, _ => ⟨none, rfl, by simp, by simp⟩
  | e :: ces, i, h => by
    obtain ⟨s', hs'⟩ := h e (List.mem_cons_self ..)
    have hsn : Instr.sameNow .string (.string sx) e.key = some (sx == s') := by rw [hs']; rfl
    cases hb : sx == s' with
    | true =>
      have : sx = s' := (ba_beq _ _).1 hb
      subst this
      exact ⟨some (i, e.val), by simp [Instr.findNow, hsn, hb], by simp, fun a ha => ⟨e, List.mem_cons_self .., hs', by cases ha; rfl⟩⟩
    | false =>
      have hne : sx ≠ s' := fun e => by rw [(ba_beq _ _).2 e] at hb; cases hb
      obtain ⟨q, h1, h2, h3⟩ := findNow_str sx ces (i + 1) fun e he => h e (List.mem_cons_of_mem _ he)
      refine ⟨q, by simp [Instr.findNow, hsn, hb, h1], fun hq e' he' => ?_, fun a ha => ?_⟩
      · rcases List.mem_cons.1 he' with rfl | he'
        · rw [hs']; intro e; cases e; exact hne rfl
        · exact h2 hq e' he'
      · obtain ⟨e', he', h'⟩ := h3 a ha; exact ⟨e', List.mem_cons_of_mem _ he', h'⟩

theorem eqT_str {ty : TypeId} {x : V} {l n : Nat} {b : Bool} (hkk : KeyKind P ty) (h : eqT P ty x (.str l n) = some b) : und P ty = .string ∧ ∃ l' n', x = .str l' n' := by
  unfold eqT at h
  cases hkk with
  | one dd hd hk =>
    rw [hd] at h ⊢
    cases dd with
    | int kk => cases x <;> cases h
    | string => cases x <;> first | (cases h; done) | exact ⟨rfl, _, _, rfl⟩
    | bool => cases x with
      | bool y => cases y <;> cases h
      | _ => cases h
    | _ => cases hk
  | arr c e kk hd he =>
    rw [hd] at h
    simp only [isStruct, bel_false, elemOfArr, oel_some] at h
    unfold eqArr at h
    obtain ⟨_, h⟩ := belO_some h
    cases x <;> cases h
  | str fs hd hp hf =>
    rw [hd] at h
    simp only [isStruct, bel_true, hp] at h
    cases x <;> cases h

theorem find_lmap {kt : TypeId} (hkk : KeyKind P kt) {x : V} {es : List (V × V)} {ces : Array MapEntry} {m : Inj} (w : World)
    (hp : (ces.toList.map fun e => (e.key, e.val)).Perm (es.map fun e => (gam m e.1, gam m e.2)))
    (hd : es.Pairwise (fun v w => ∀ l n l' n', v.1 = .str l n → w.1 = .str l' n' → toBA l n ≠ toBA l' n')) (hs : ∀ e ∈ es, ∃ l n, e.1 = .str l n) :
    ∀ q, idxE P kt x (es.map fun e => (e.1, e.2, 0)) 0 = some q → ∃ q', (Instr.findKey kt (gam m x) ces.toList).run P w = .ok q' w ∧ q'.map (·.2) = q.map (fun a => gam m a.2) := by
  intro q hq
  cases es with
  | nil =>
    have hn : ces.toList = [] := by
      have := hp.length_eq
      simp at this
      simp [this]
    rw [hn]
    cases hq
    exact ⟨none, findKey_run (es := []) hkk m w rfl, rfl⟩
  | cons e es =>
    obtain ⟨l, n, he⟩ := hs e (List.mem_cons_self ..)
    have h1 : ∃ b, eqT P kt x (.str l n) = some b := by
      have h : oel (eqT P kt x e.1) (fun b => bel b (some (some (0, e.2))) (idxE P kt x (es.map fun e => (e.1, e.2, 0)) 1)) none = some q := hq
      obtain ⟨b, hb, _⟩ := oelO_some h
      exact ⟨b, he ▸ hb⟩
    obtain ⟨b, hb⟩ := h1
    obtain ⟨hstr, lx, nx', rfl⟩ := eqT_str hkk hb
    have hu := und_some hstr (by simp)
    -- the abstract row
    have ha := findNow_run hstr rfl m hq
    have hx : gam m (.str lx nx') = .string (toBA lx nx') := rfl
    rw [hx] at ha ⊢
    have memA : ∀ (kx vx : Value), (∃ e' ∈ ((e :: es).map fun e => (e.1, e.2, 0)).map (gamE m), e'.key = kx ∧ e'.val = vx) ↔ (kx, vx) ∈ (e :: es).map fun e => (gam m e.1, gam m e.2) := by
      intro kx vx
      simp only [List.mem_map]
      constructor
      · rintro ⟨_, ⟨_, ⟨a, ha, rfl⟩, rfl⟩, rfl, rfl⟩; exact ⟨a, ha, rfl⟩
      · rintro ⟨a, ha, he⟩; exact ⟨_, ⟨_, ⟨a, ha, rfl⟩, rfl⟩, (Prod.mk.inj he).1, (Prod.mk.inj he).2⟩
    have memC : ∀ (kx vx : Value), (∃ e' ∈ ces.toList, e'.key = kx ∧ e'.val = vx) ↔ (kx, vx) ∈ (e :: es).map fun e => (gam m e.1, gam m e.2) := by
      intro kx vx
      rw [← hp.mem_iff]
      simp only [List.mem_map]
      constructor
      · rintro ⟨a, ha, rfl, rfl⟩; exact ⟨a, ha, rfl⟩
      · rintro ⟨a, ha, he⟩; exact ⟨a, ha, (Prod.mk.inj he).1, (Prod.mk.inj he).2⟩
    have keysA : ∀ e' ∈ ((e :: es).map fun e => (e.1, e.2, 0)).map (gamE m), ∃ s', e'.key = .string s' := by
      intro e' he'
      have := (memA e'.key e'.val).1 ⟨e', he', rfl, rfl⟩
      obtain ⟨a, ha, hpair⟩ := List.mem_map.1 this
      obtain ⟨l, n, hl⟩ := hs a ha
      exact ⟨toBA l n, by rw [← (Prod.mk.inj hpair).1, hl]; rfl⟩
    have keysC : ∀ e' ∈ ces.toList, ∃ s', e'.key = .string s' := by
      intro e' he'
      have := (memC e'.key e'.val).1 ⟨e', he', rfl, rfl⟩
      obtain ⟨a, ha, hpair⟩ := List.mem_map.1 this
      obtain ⟨l, n, hl⟩ := hs a ha
      exact ⟨toBA l n, by rw [← (Prod.mk.inj hpair).1, hl]; rfl⟩
    obtain ⟨qa, a1, a2, a3⟩ := findNow_str (toBA lx nx') _ 0 keysA
    obtain ⟨qc, c1, c2, c3⟩ := findNow_str (toBA lx nx') _ 0 keysC
    have hqa : qa = gamQ m q := by
      have := a1.symm.trans ha
      exact Option.some.inj this
    refine ⟨qc, ?_, ?_⟩
    · unfold Instr.findKey
      simp only [Sem.run_bind, run_underlying hu, Result.andThen_ok, c1, Sem.run_pure]
    · have hgoal : qc.map (·.2) = qa.map (·.2) := by
        cases qa with
        | none =>
          cases qc with
          | none => rfl
          | some b =>
            obtain ⟨e', he', hk, hv⟩ := c3 b rfl
            have := (memC e'.key e'.val).1 ⟨e', he', rfl, rfl⟩
            obtain ⟨e'', he'', hk'', _⟩ := (memA _ _).2 this
            exact absurd (hk''.trans hk) (a2 rfl e'' he'')
        | some a =>
          obtain ⟨e', he', hk, hv⟩ := a3 a rfl
          have m1 := (memA e'.key e'.val).1 ⟨e', he', rfl, rfl⟩
          cases qc with
          | none =>
            obtain ⟨e'', he'', hk'', _⟩ := (memC _ _).2 m1
            exact absurd (hk''.trans hk) (c2 rfl e'' he'')
          | some b =>
            obtain ⟨e'', he'', hk'', hv''⟩ := c3 b rfl
            have m2 := (memC e''.key e''.val).1 ⟨e'', he'', rfl, rfl⟩
            obtain ⟨p1, hp1, q1⟩ := List.mem_map.1 m1
            obtain ⟨p2, hp2, q2⟩ := List.mem_map.1 m2
            obtain ⟨l1, n1, hl1⟩ := hs p1 hp1
            obtain ⟨l2, n2, hl2⟩ := hs p2 hp2
            have k1 : toBA l1 n1 = toBA lx nx' := by
              have := (Prod.mk.inj q1).1
              rw [hl1, hk] at this
              exact Value.string.inj this
            have k2 : toBA l2 n2 = toBA lx nx' := by
              have := (Prod.mk.inj q2).1
              rw [hl2, hk''] at this
              exact Value.string.inj this
            have hpp : p1 = p2 := pw_unique hd hp1 hp2 hl1 hl2 (k1.trans k2.symm)
            subst hpp
            have : e'.val = e''.val := (Prod.mk.inj (q1.symm.trans q2)).2
            simp [hv, hv'', this]
      rw [hgoal, hqa]
      cases q <;> rfl

theorem rdLookup_ok {ty : TypeId} {a b : Operand} {ok : Bool} {v : V} (ho : o.op = .lookup ty a b ok) (h : rdLookup P ty a b ok tm t = some v) : ReadOK P o tm t v := by
  unfold rdLookup at h
  obtain ⟨ke, hke, h⟩ := oelO_some h
  obtain ⟨hpk, h⟩ := belO_some h
  have hkk := plainKey_kind hpk
  have hu : P.underlying ty = some (.map ke.1 ke.2) := und_some (mapOf_some hke) (by simp)
  obtain ⟨u, hu1, h⟩ := evO_some h
  obtain ⟨x, hx1, h⟩ := evO_some h
  obtain ⟨hs, h⟩ := belO_some h
  intro m S nx w ρ hr hS hrel
  have ha := hr a (by simp [ho, Op.operands]) _ hu1
  have hb := hr b (by simp [ho, Op.operands]) _ hx1
  have fin : (Instr.lookup ty (gam m u) (gam m x) ok).run P w = .ok (gam m v) w ∧ okV m S v → (execOp ρ o).run P w = .ok (.value (gam m v)) w ∧ okV m S v := fun h => by
    refine ⟨?_, h.2⟩
    simp [execOp, ho, ha.1, hb.1, h.1]
  apply fin
  cases u with
  | nilm => exact lookup_run hu hkk hs h m S w (by simp) _ #[] (.inl ⟨rfl, rfl⟩) fun q hq => ⟨gamQ m q, findKey_run (es := []) hkk m w hq, by cases q <;> rfl⟩
  | map r =>
    obtain ⟨blk, hblk, h⟩ := oelO_some h
    cases blk with
    | map es cl =>
      obtain ⟨_, _, hes⟩ := hrel.blk r _ hblk
      exact lookup_run hu hkk hs h m S w (fun e he => okV_mono hS (hes e he).2) _ (es.map (gamE m)).toArray (.inr ⟨_, cl, rfl, run_getMap hrel hblk⟩)
        fun q hq => ⟨gamQ m q, findKey_run hkk m w hq, by cases q <;> rfl⟩
    | lmap es =>
      obtain ⟨_, ces, cl, hoo, hp, hd, hes⟩ := hrel.blk r _ hblk
      exact lookup_run hu hkk hs h m S w (fun e he => by
        obtain ⟨e', he', rfl⟩ := List.mem_map.1 he
        exact okV_mono hS (hes e' he').2.2) _ ces (.inr ⟨_, cl, rfl, by simp [getObj, Sem.run, hoo]⟩) (find_lmap hkk w hp hd fun e he => (hes e he).1)
    | _ => cases h
  | _ => cases h
end Go.X
end

section
/- The reckoner: operations that make memory. -/
namespace Go.X
open Go
variable {P : Program} {s : CallT} {o : Oper} {k : K} {tm : Env} {d : Dx} {t : Hp} {nx : Nat}

/-! ### Rows -/
noncomputable def wm (ch : Nat) : Nat → Tr (List V) → Nat → List V → Tr (List V)
  | 0, els, _, _ => els
  | k + 1, els, i, l => wm ch k (els.set i (some (l.take ch))) (i + 1) (l.drop ch)
theorem writeMany_eq (ch : Nat) : ∀ (k : Nat) (els : Tr (List V)) (i : Nat) (l : List V) (c : Tr (List V) → R), writeMany ch k els i l c = c (wm ch k els i l)
  | 0, _, _, _, _ => rfl
  | k + 1, els, i, l, c => by
    show forceL (l.take ch) (fun x => els.setK i (some x) fun els => forceL (l.drop ch) fun l => writeMany ch k els (Nat.succ i) l c) = _
    rw [forceL_eq, Tr.setK_eq, forceL_eq, writeMany_eq ch k]
    rfl
theorem wm_get (ch : Nat) : ∀ (k : Nat) (els : Tr (List V)) (i : Nat) (l : List V) (j : Nat), (wm ch k els i l).get j = if i ≤ j ∧ j < i + k then some ((l.drop ((j - i) * ch)).take ch) else els.get j
  | 0, els, i, l, j => by rw [if_neg (by omega)]; rfl
  | k + 1, els, i, l, j => by
    show (wm ch k _ (i + 1) (l.drop ch)).get j = _
    rw [wm_get ch k]
    by_cases h1 : i + 1 ≤ j ∧ j < i + 1 + k
    · rw [if_pos h1, if_pos (by omega), List.drop_drop]
      congr 3
      have : j - i = (j - (i + 1)) + 1 := by omega
      rw [this, Nat.succ_mul]; omega
    · rw [if_neg h1, Tr.get_set]
      by_cases h2 : j = i
      · subst h2
        rw [if_pos rfl, if_pos (by omega)]
        simp
      · rw [if_neg h2, if_neg (by omega)]

noncomputable def rowB (ch : Nat) (t : TypeId) (l : List V) : Blk := bel (Nat.beq ch 0) (.cells t 1 0 0 .nil) (.cells t ch (l.length / ch) 0 (wm ch (l.length / ch) .nil 0 l))
theorem rowK_eq (ch : Nat) (ty : TypeId) (l : List V) (c : Blk → R) : rowK ch ty l c = c (rowB ch ty l) := by
  unfold rowK rowB
  rw [forceN_eq]
  cases Nat.beq (ch) 0 with
  | true => rfl
  | false =>
    simp only [bel_false]
    rw [forceN_eq, writeMany_eq]
    rfl
theorem newK_eq (t : Hp) (nx : Nat) (b : Blk) (c : Hp → Nat → R) : newK t nx b c = c (t.set nx (some b)) (nx + 1) := by
  unfold newK; rw [Tr.setK_eq, forceN_eq]
theorem mkRow_eq (ch : Nat) (ty : TypeId) (l : List V) (val : Nat → V) : mkRow ch ty l val o k tm d t nx = newK t nx (rowB ch ty l) fun t nx' => done o (val nx) k tm d t nx' := by
  unfold mkRow; rw [rowK_eq]

theorem rowB_blk {ch : Nat} {ty : TypeId} {l : List V} {m : Inj} {S : Nat → Prop} {b : Nat} {cs : Array Value} {fr : Nat × Nat}
    (hl : ∀ (j : Nat) (v : V), l[j]? = some v → cs[j]? = some (gam m v)) (hok : okL m S l) (hc : ∀ v ∈ l, isCell v = true)
    (hk : l.length / ch ≤ m.κ b) (hk2 : m.κ b * (bel (Nat.beq (ch) 0) 1 (ch)) ≤ cs.size) (hf : ∀ off, off < cs.size → ¬ (fr.1 ≤ off ∧ off < fr.2)) :
    BlkR m S b (rowB ch ty l) (some (.cells cs ty fr)) := by
  unfold rowB
  cases hz : Nat.beq (ch) 0 with
  | true =>
    rw [hz] at hk2
    refine ⟨cs, fr, rfl, by omega, Nat.zero_le _, hk2, fun off v h => ?_, fun off _ h => hf off h⟩
    unfold cellAt at h
    rw [if_neg (by omega)] at h
    cases h
  | false =>
    rw [hz] at hk2
    have hch : 0 < ch := by
      rcases Nat.eq_zero_or_pos (ch) with h0 | h0
      · rw [h0] at hz; cases hz
      · exact h0
    refine ⟨cs, fr, rfl, hch, hk, hk2, fun off v h => ?_, fun off _ h => hf off h⟩
    unfold cellAt at h
    split at h
    · rename_i hlt
      rw [wm_get, if_pos ⟨Nat.zero_le _, by omega⟩] at h
      simp only [Option.bind_some, Nat.sub_zero] at h
      rw [List.getElem?_take] at h
      split at h
      · rw [List.getElem?_drop] at h
        have e : off / ch * ch + off % ch = off := by rw [Nat.mul_comm]; exact Nat.div_add_mod _ _
        rw [e] at h
        exact ⟨hl off v h, okL_get hok h, hc v (List.mem_of_getElem? h)⟩
      · cases h
    · cases h

/-- A block whose values name nothing but what is in S. -/
def okB (m : Inj) (S : Nat → Prop) : Blk → Prop
  | .cells _ ch n _ els => ∀ off v, cellAt ch n els off = some v → okV m S v
  | .map es _ => ∀ e ∈ es, okV m S e.1 ∧ okV m S e.2.1
  | .lmap es => ∀ e ∈ es, okV m S e.1 ∧ okV m S e.2
  | .miter mm _ _ => ∀ c, mm = some c → S c
theorem BlkR.of_okB {m : Inj} {S S' : Nat → Prop} {b : Nat} {x : Blk} {ob : Option Obj} (h : BlkR m S b x ob) (hb : okB m S' x) : BlkR m S' b x ob := by
  cases x with
  | cells ty ch n fz els =>
    obtain ⟨c, fr, h1, h2, h3, h4, h5, h6⟩ := h
    exact ⟨c, fr, h1, h2, h3, h4, fun off v hv => ⟨(h5 off v hv).1, hb off v hv, (h5 off v hv).2.2⟩, h6⟩
  | map es cl => exact ⟨h.1, hb⟩
  | lmap es =>
    obtain ⟨ces, cl, h1, h2, h3, h4⟩ := h
    exact ⟨ces, cl, h1, h2, h3, fun e he => ⟨(h4 e he).1, hb e he⟩⟩
  | miter mm since seen =>
    obtain ⟨st, h1, h2, h3⟩ := h
    exact ⟨st, h1, h2, hb⟩
theorem rowB_okB {ch : Nat} {ty : TypeId} {l : List V} {m : Inj} {S : Nat → Prop} (h : okL m S l) : okB m S (rowB ch ty l) := by
  unfold rowB
  cases hz : Nat.beq ch 0 with
  | true =>
    intro off v hv
    unfold cellAt at hv
    rw [if_neg (by omega)] at hv
    cases hv
  | false =>
    intro off v hv
    unfold cellAt at hv
    split at hv
    · rename_i hlt
      rw [wm_get, if_pos ⟨Nat.zero_le _, by omega⟩] at hv
      simp only [Option.bind_some, Nat.sub_zero] at hv
      have := List.mem_of_getElem? hv
      exact (okL_iff ..).1 h v (List.mem_of_mem_drop (List.mem_of_mem_take this))
    · cases hv

/-- A new object, at the end. -/
structure Pushed (w w' : World) (obj : Obj) : Prop where
  heap : w'.heap = w.heap.push obj
  tape : w'.tape = w.tape
  os : w'.os = w.os
  output : w'.output = w.output

/-- An operation that makes one block: what it yields, and what the block is. -/
def AllocOK (P : Program) (o : Oper) (tm : Env) (blk : Blk) (val : Nat → V) : Prop :=
  ∀ (m : Inj) (S : Nat → Prop) (w : World) (ρ : Operand → Value) (nx : Nat) (h64 : 64 ≤ nx), ¬ S nx → OpsR m S tm o ρ →
    ∃ (kk : Nat) (obj : Obj) (w' : World), (execOp ρ o).run P w = .ok (.value (gam (m.at nx w.heap.size kk h64) (val nx))) w' ∧ Pushed w w' obj ∧
      BlkR (m.at nx w.heap.size kk h64) (fun b => S b ∨ b = nx) nx blk (some obj) ∧ okV (m.at nx w.heap.size kk h64) (fun b => S b ∨ b = nx) (val nx) ∧ okB m S blk

theorem alloc_pushed (w : World) (o : Obj) : Pushed w (w.alloc o) o := ⟨rfl, rfl, rfl, rfl⟩
theorem run_newRow (w : World) (ty : TypeId) (cs : Array Value) : (newRow ty cs).run P w = .ok ⟨w.heap.size, 0, none⟩ (w.alloc (.cells cs ty)) := by
  simp [newRow]

theorem gamL_at {m : Inj} {S : Nat → Prop} {nx r kk : Nat} (h64 : 64 ≤ nx) (hS : ¬ S nx) {l : List V} (h : okL m S l) :
    gamL (m.at nx r kk h64) l = gamL m l ∧ okL (m.at nx r kk h64) (fun b => S b ∨ b = nx) l :=
  ⟨gamL_ext (m.at_agree' nx r kk h64 hS) l h, okL_ext (m.at_agree' nx r kk h64 hS) (fun _ hb => .inl hb) l h⟩

/-- A row of just these cells. -/
theorem exact_row {ch : Nat} {ty : TypeId} {l : List V} {m : Inj} {S : Nat → Prop} {nx : Nat} (h64 : 64 ≤ nx) (hS : ¬ S nx) (hok : okL m S l) (hc : ∀ v ∈ l, isCell v = true) (w : World) (kk : Nat)
    (hk : l.length / ch ≤ kk) (hk2 : kk * (bel (Nat.beq (ch) 0) 1 (ch)) ≤ l.length) :
    BlkR (m.at nx w.heap.size kk h64) (fun b => S b ∨ b = nx) nx (rowB ch ty l) (some (.cells (gamL m l).toArray ty)) := by
  obtain ⟨h1, h2⟩ := gamL_at (r := w.heap.size) (kk := kk) h64 hS hok
  refine rowB_blk (fun j v hj => ?_) h2 hc (by simpa using hk) (by simpa using hk2) (by simp)
  rw [← h1]
  exact gamL_arr hj
theorem kk_row (ch n : Nat) : ∃ kk, n / ch ≤ kk ∧ kk * (bel (Nat.beq (ch) 0) 1 (ch)) ≤ n := by
  cases hz : Nat.beq (ch) 0 with
  | true => exact ⟨0, by rw [beqN_true hz]; simp, by simp⟩
  | false => exact ⟨n / ch, Nat.le_refl _, Nat.div_mul_le_self _ _⟩

theorem doAlloc_ok {ty : TypeId} (ho : o.op = .alloc ty) (h : doAlloc ty P s o k tm d t nx ≠ .fail) :
    ∃ blk val, AllocOK P o tm blk val ∧ doAlloc ty P s o k tm d t nx = newK t nx blk fun t nx' => done o (val nx) k tm d t nx' := by
  unfold doAlloc at h ⊢
  (obtain ⟨z, hz, eqzz⟩ := oel_fail h; rw [eqzz] at h ⊢; clear eqzz; try dsimp only at h ⊢)
  (obtain ⟨l, hl, eqzz⟩ := oel_fail h; rw [eqzz] at h ⊢; clear eqzz; try dsimp only at h ⊢)
  refine ⟨rowB (chunk P ty) ty l, ptr0, fun m S w ρ nx h64 hS hr => ?_, mkRow_eq ..⟩
  obtain ⟨hzr, hzo⟩ := zeroV_some hz m S
  obtain ⟨hg, hok, hc⟩ := cellsOf_gam hl hzo
  obtain ⟨kk, k1, k2⟩ := kk_row (chunk P ty) l.length
  refine ⟨kk, _, _, ?_, alloc_pushed w (.cells (gamL m l).toArray ty), exact_row h64 hS hok hc w kk k1 k2, .inr rfl, rowB_okB hok⟩
  simp [execOp, ho, Instr.alloc, hzr, newVar, run_newRow, hg, ptr0, gam]

theorem doBox_ok {ty : TypeId} {x : Operand} (ho : o.op = .box ty x) (h : doBox ty x P s o k tm d t nx ≠ .fail) :
    ∃ blk val, AllocOK P o tm blk val ∧ doBox ty x P s o k tm d t nx = newK t nx blk fun t nx' => done o (val nx) k tm d t nx' := by
  unfold doBox at h ⊢
  (obtain ⟨v, hv, eqzz⟩ := ev_fail h; rw [eqzz] at h ⊢; clear eqzz; try dsimp only at h ⊢)
  (obtain ⟨l, hl, eqzz⟩ := oel_fail h; rw [eqzz] at h ⊢; clear eqzz; try dsimp only at h ⊢)
  refine ⟨rowB (chunk P ty) ty l, ptr0, fun m S w ρ nx h64 hS hr => ?_, mkRow_eq ..⟩
  have hx := hr x (by simp [ho, Op.operands]) _ hv
  obtain ⟨hg, hok, hc⟩ := cellsOf_gam hl hx.2
  obtain ⟨kk, k1, k2⟩ := kk_row (chunk P ty) l.length
  refine ⟨kk, _, _, ?_, alloc_pushed w (.cells (gamL m l).toArray ty), exact_row h64 hS hok hc w kk k1 k2, .inr rfl, rowB_okB hok⟩
  simp [execOp, ho, Instr.box, newVar, run_newRow, hx.1, hg, ptr0, gam]

theorem doMakeMap_ok {ty : TypeId} {r : Option Operand} (ho : o.op = .makeMap ty r) (h : doMakeMap ty r P s o k tm d t nx ≠ .fail) :
    ∃ blk val, AllocOK P o tm blk val ∧ doMakeMap ty r P s o k tm d t nx = newK t nx blk fun t nx' => done o (val nx) k tm d t nx' := by
  unfold doMakeMap at h ⊢
  cases r with
  | some x => exact absurd rfl h
  | none =>
    refine ⟨.map [] 0, fun nx => .map nx, fun m S w ρ nx h64 hS hr => ?_, rfl⟩
    refine ⟨0, _, _, ?_, alloc_pushed w (.map #[] 0), ⟨rfl, by simp⟩, .inr rfl, fun _ h => nomatch h⟩
    simp [execOp, ho, Instr.makeMap, gam]

/-! ### Slices of nought -/
theorem reps_length (z : List V) : ∀ n, (reps n z).length = n * z.length
  | 0 => by simp only [Nat.zero_mul]; rfl
  | n + 1 => by show (z ++ reps n z).length = _; rw [List.length_append, reps_length z n, Nat.succ_mul, Nat.add_comm]
theorem reps_mem (z : List V) : ∀ n, ∀ v ∈ reps n z, v ∈ z
  | 0, v, h => by cases h
  | n + 1, v, h => by
    have h : v ∈ z ++ reps n z := h
    rcases List.mem_append.1 h with h | h
    · exact h
    · exact reps_mem z n v h
theorem reps_get (z : List V) : ∀ n j, j < n * z.length → (reps n z)[j]? = z[j % z.length]?
  | 0, j, h => by simp at h
  | n + 1, j, h => by
    show (z ++ reps n z)[j]? = _
    by_cases hj : j < z.length
    · rw [List.getElem?_append_left hj, Nat.mod_eq_of_lt hj]
    · rw [List.getElem?_append_right (by omega), reps_get z n _ (by rw [Nat.succ_mul] at h; omega)]
      congr 1
      conv => rhs; rw [show j = (j - z.length) + z.length by omega]
      exact (Nat.add_mod_right _ _).symm
theorem zeros_eq (m : Inj) (z : List V) (n : Nat) (hz : n * z.length ≠ 0) : (Array.range (n * z.length)).map (fun i => (gamL m z).toArray[i % (gamL m z).toArray.size]!) = (gamL m (reps n z)).toArray := by
  have hpos : 0 < z.length := Nat.pos_of_ne_zero fun e => by rw [e] at hz; simp at hz
  apply Array.ext'
  apply List.ext_getElem?
  intro j
  simp only [Array.toList_map, Array.toList_range, List.getElem?_map, List.getElem?_range]
  by_cases hj : j < n * z.length
  · rw [List.getElem?_eq_getElem (by simpa using hj)]
    have hm : j % z.length < z.length := Nat.mod_lt _ hpos
    rw [gamL_get, reps_get z n j hj, List.getElem?_eq_getElem hm]
    simp [gamL_eq_map, hm]
  · rw [List.getElem?_eq_none (by simpa using hj), List.getElem?_eq_none (by simp [reps_length]; omega)]
    rfl

theorem doBuildSlice_ok {ty : TypeId} {n : Nat} {ps : Array (Nat × Operand)} (ho : o.op = .buildSlice ty n ps) (h : doBuildSlice ty n ps P s o k tm d t nx ≠ .fail) :
    ∃ blk val, AllocOK P o tm blk val ∧ doBuildSlice ty n ps P s o k tm d t nx = newK t nx blk fun t nx' => done o (val nx) k tm d t nx' := by
  unfold doBuildSlice at h ⊢
  (obtain ⟨l, hl, eqzz⟩ := evp_fail h; rw [eqzz] at h ⊢; clear eqzz; try dsimp only at h ⊢)
  (obtain ⟨e, he, eqzz⟩ := oel_fail h; rw [eqzz] at h ⊢; clear eqzz; try dsimp only at h ⊢)
  (obtain ⟨z, hz, eqzz⟩ := oel_fail h; rw [eqzz] at h ⊢; clear eqzz; try dsimp only at h ⊢)
  (obtain ⟨zl, hzl, eqzz⟩ := oel_fail h; rw [eqzz] at h ⊢; clear eqzz; try dsimp only at h ⊢)
  (obtain ⟨b1, eqzz⟩ := bel_fail h; rw [eqzz] at h ⊢; clear eqzz)
  (obtain ⟨b2, eqzz⟩ := bel_fail h; rw [eqzz] at h ⊢; clear eqzz)
  (obtain ⟨cs, hcs, eqzz⟩ := oel_fail h; rw [eqzz] at h ⊢; clear eqzz; try dsimp only at h ⊢)
  have h1 := beqN_true b1
  have h2 : n * e.2 ≤ 16777216 := bleN_true b2
  obtain ⟨hu, info, hi, hsz⟩ := slElem_some he
  refine ⟨rowB e.2 e.1 cs, slEx0 n, fun m S w ρ nx h64 hS hr => ?_, mkRow_eq ..⟩
  have hps := evpO_gam (ρ := ρ) (fun x hx v hv => hr x.2 (by
    simp only [ho, Op.operands, List.mem_toArray, List.mem_map]
    exact ⟨x, by simpa using hx, rfl⟩) v hv) hl
  obtain ⟨hzr, hzo⟩ := zeroV_some hz m S
  obtain ⟨hg, hok, hc⟩ := cellsOf_gam hzl hzo
  have hokr : okL m S (reps n zl) := (okL_iff ..).2 fun v hv => (okL_iff ..).1 hok v (reps_mem zl n v hv)
  have hcr : ∀ v ∈ reps n zl, isCell v = true := fun v hv => hc v (reps_mem zl n v hv)
  obtain ⟨r1, r2, r3, r4⟩ := fillL_ok (place' := fun i => some (i * info.size, info.size)) (fun i x hx => by rw [hsz]; exact hx) hcs hps.2 hokr hcr
  obtain ⟨kk, k1, k2⟩ := kk_row e.2 cs.length
  refine ⟨kk, _, _, ?_, alloc_pushed w (.cells (gamL m cs).toArray e.1), exact_row h64 hS r2 r3 w kk k1 k2, ⟨.inr rfl, Nat.le_refl _⟩, rowB_okB r2⟩
  have hparts : (ps.map fun x => (x.1, ρ x.2)).toList = l.map fun x => (x.1, gam m x.2) := by rw [Array.toList_map]; exact hps.1
  have hn24 : ¬ n * info.size > 2 ^ 24 := by rw [hsz]; simpa using h2
  have hpos : n * info.size = 0 → (Array.range (n * info.size)).map (fun i => (#[] : Array Value)[i % (#[] : Array Value).size]!) = (gamL m (reps n zl)).toArray := fun h0 => by
    have : reps n zl = [] := List.length_eq_zero_iff.1 (by rw [reps_length, h1, ← hsz]; exact h0)
    rw [this, h0]; simp [gamL]
  have hneg : ¬ n * info.size = 0 → (Array.range (n * info.size)).map (fun i => (gamL m zl).toArray[i % (gamL m zl).toArray.size]!) = (gamL m (reps n zl)).toArray := fun h0 => by
    have := zeros_eq m zl n (by rw [h1, ← hsz]; exact h0)
    rw [h1, ← hsz] at this
    exact this
  have hrun : (Instr.buildSlice ty n (ps.map fun x => (x.1, ρ x.2))).run P w = .ok (.slice (some ⟨w.heap.size, 0, none⟩) n n) (w.alloc (.cells (gamL m cs).toArray e.1)) := by
    unfold Instr.buildSlice
    simp only [Sem.run_bind, run_underlying hu, Result.andThen_ok, run_sizeOf' hi, if_neg hn24, Sem.run_pure]
    by_cases h0 : n * info.size = 0
    · rw [if_pos h0]
      simp only [Sem.run_bind, Sem.run_pure, Result.andThen_ok, hpos h0, hparts, r1, run_newRow]
    · rw [if_neg h0]
      simp only [Sem.run_bind, Sem.run_pure, Result.andThen_ok, hzr, hg, hneg h0, hparts, r1, run_newRow]
  simp only [execOp, ho, Sem.run_bind, hrun, Result.andThen_ok, Sem.run_pure]
  simp [slEx0, gam, capG]

theorem bytesOk_some {ty : TypeId} (h : bytesOk P ty = true) {i : TypeInfo} (hi : P.info? ty = some i) : i.bytes ≤ 65536 := by
  unfold bytesOk at h
  rw [hi] at h
  exact bleN_true h

theorem doMakeSlice_ok {ty : TypeId} {a b : Operand} (ho : o.op = .makeSlice ty a b) (h : doMakeSlice ty a b P s o k tm d t nx ≠ .fail) :
    ∃ blk val, AllocOK P o tm blk val ∧ doMakeSlice ty a b P s o k tm d t nx = newK t nx blk fun t nx' => done o (val nx) k tm d t nx' := by
  unfold doMakeSlice at h ⊢
  (obtain ⟨vl, hvl, eqzz⟩ := ev_fail h; rw [eqzz] at h ⊢; clear eqzz; try dsimp only at h ⊢)
  obtain ⟨kl, l, rfl⟩ := onNat_fail h
  simp only [onNat_nat] at h ⊢
  (obtain ⟨vc, hvc, eqzz⟩ := ev_fail h; rw [eqzz] at h ⊢; clear eqzz; try dsimp only at h ⊢)
  obtain ⟨kc, c, rfl⟩ := onNat_fail h
  simp only [onNat_nat] at h ⊢
  (obtain ⟨e, he, eqzz⟩ := oel_fail h; rw [eqzz] at h ⊢; clear eqzz; try dsimp only at h ⊢)
  (obtain ⟨z, hz, eqzz⟩ := oel_fail h; rw [eqzz] at h ⊢; clear eqzz; try dsimp only at h ⊢)
  (obtain ⟨zl, hzl, eqzz⟩ := oel_fail h; rw [eqzz] at h ⊢; clear eqzz; try dsimp only at h ⊢)
  (obtain ⟨b1, eqzz⟩ := bel_fail h; rw [eqzz] at h ⊢; clear eqzz)
  (obtain ⟨b2, eqzz⟩ := bel_fail h; rw [eqzz] at h ⊢; clear eqzz)
  (obtain ⟨b3, eqzz⟩ := bel_fail h; rw [eqzz] at h ⊢; clear eqzz)
  (obtain ⟨b4, eqzz⟩ := bel_fail h; rw [eqzz] at h ⊢; clear eqzz)
  have h1 := beqN_true b1
  have h2 := bleN_true b2
  have h3 := bleN_true b3
  obtain ⟨hu, info, hi, hsz⟩ := slElem_some he
  have h4 := bytesOk_some b4 hi
  refine ⟨rowB e.2 e.1 (reps c zl), slEx1 l c, fun m S w ρ nx h64 hS hr => ?_, mkRow_eq ..⟩
  have hxl := hr a (by simp [ho, Op.operands]) _ hvl
  have hxc := hr b (by simp [ho, Op.operands]) _ hvc
  obtain ⟨hzr, hzo⟩ := zeroV_some hz m S
  obtain ⟨hg, hok, hc⟩ := cellsOf_gam hzl hzo
  have hokr : okL m S (reps c zl) := (okL_iff ..).2 fun v hv => (okL_iff ..).1 hok v (reps_mem zl c v hv)
  have hcr : ∀ v ∈ reps c zl, isCell v = true := fun v hv => hc v (reps_mem zl c v hv)
  obtain ⟨kk, k1, k2⟩ := kk_row e.2 (reps c zl).length
  refine ⟨kk, _, _, ?_, alloc_pushed w (.cells (gamL m (reps c zl)).toArray e.1), exact_row h64 hS hokr hcr w kk k1 k2, ⟨.inr rfl, h2⟩, rowB_okB hokr⟩
  have wl : IntKind.i64.wrap (l : Int) = l := wrap_small (Nat.lt_of_le_of_lt (by omega : _ ≤ 65536) (by decide))
  have wc : IntKind.i64.wrap (c : Int) = c := wrap_small (Nat.lt_of_le_of_lt (by omega : _ ≤ 65536) (by decide))
  have hbytes : ¬ ((info.bytes : Int) * (c : Int) > 2 ^ 48) := by
    have : info.bytes * c ≤ 65536 * 65536 := Nat.mul_le_mul h4 h3
    have h' : ((info.bytes * c : Nat) : Int) ≤ 4294967296 := by omega
    rw [Int.natCast_mul] at h'
    omega
  have hpos : c * info.size = 0 → (Array.range (c * info.size)).map (fun i => (#[] : Array Value)[i % (#[] : Array Value).size]!) = (gamL m (reps c zl)).toArray := fun h0 => by
    have : reps c zl = [] := List.length_eq_zero_iff.1 (by rw [reps_length, h1, ← hsz]; exact h0)
    rw [this, h0]; simp [gamL]
  have hneg : ¬ c * info.size = 0 → (Array.range (c * info.size)).map (fun i => (gamL m zl).toArray[i % (gamL m zl).toArray.size]!) = (gamL m (reps c zl)).toArray := fun h0 => by
    have := zeros_eq m zl c (by rw [h1, ← hsz]; exact h0)
    rw [h1, ← hsz] at this
    exact this
  have hrun : (Instr.makeSlice ty (ρ a) (ρ b)).run P w = .ok (.slice (some ⟨w.heap.size, 0, none⟩) l c) (w.alloc (.cells (gamL m (reps c zl)).toArray e.1)) := by
    rw [hxl.1, hxc.1]
    unfold Instr.makeSlice
    simp only [gam, asInt, asIntOf, Sem.run_bind, run_underlying hu, Result.andThen_ok, Sem.run_pure, run_typeInfo w hi, Int.ofNat_eq_natCast, wl, wc]
    rw [if_neg]
    · simp only [Sem.run_bind, run_askRoom, Result.andThen_ok, run_sizeOf' hi, Int.toNat_natCast]
      by_cases h0 : c * info.size = 0
      · rw [if_pos h0]
        simp only [Sem.run_bind, Sem.run_pure, Result.andThen_ok, hpos h0, run_newRow]
      · rw [if_neg h0]
        simp only [Sem.run_bind, Sem.run_pure, Result.andThen_ok, hzr, hg, hneg h0, run_newRow]
    · have e1 : ¬ ((c : Int) < 0) := by omega
      have e2 : ¬ ((l : Int) < 0) := by omega
      have e3 : ¬ ((l : Int) > c) := by omega
      simp [e1, e2, e3]
      omega
  simp only [execOp, ho, Sem.run_bind, hrun, Result.andThen_ok, Sem.run_pure]
  simp [slEx1, gam, capG]

/-! ### A text as bytes -/
theorem strCells_gam (m : Inj) : ∀ (l n : Nat), gamL m (strCells l n) = (bytesL l n).map fun b => Value.int .u8 b.toNat
  | 0, _ => rfl
  | l + 1, n => by
    show gam m (.int .u8 (.ofNat (Nat.mod n 256))) :: gamL m (strCells l (Nat.div n 256)) = _
    rw [strCells_gam m l]
    simp only [bytesL, List.map_cons, ofNat_mod]
    rfl
theorem strCells_len : ∀ (l n : Nat), (strCells l n).length = l
  | 0, _ => rfl
  | l + 1, n => by
    show (strCells l (Nat.div n 256)).length + 1 = _
    rw [strCells_len l]
theorem strCells_ok (m : Inj) (S : Nat → Prop) : ∀ (l n : Nat), okL m S (strCells l n) ∧ ∀ v ∈ strCells l n, isCell v = true
  | 0, _ => ⟨trivial, fun _ h => nomatch h⟩
  | l + 1, n => by
    obtain ⟨h1, h2⟩ := strCells_ok m S l (Nat.div n 256)
    refine ⟨⟨trivial, h1⟩, fun v hv => ?_⟩
    rcases List.mem_cons.1 hv with rfl | hv
    · rfl
    · exact h2 v hv

theorem run_markStringish (w : World) (b : Nat) (cs : Array Value) (ty : TypeId) (hb : w.heap[b]? = some (.cells cs ty)) :
    (markStringish ⟨b, 0, none⟩).run P w = .ok () { w with heap := w.heap.setIfInBounds b (.cells cs ty (cs.size, cs.size + 1)) } := by
  have hs : w.shape? b = some (ty, cs.size) := by simp [World.shape?, hb]
  unfold markStringish
  simp only [Sem.run_bind, run_shape, hs, Result.andThen_ok, run_freeze]
  congr 1
  unfold World.freeze
  rw [if_neg (by decide)]
  congr 1
  apply Array.ext_getElem?
  intro i
  rw [Array.getElem?_modify, Array.getElem?_setIfInBounds]
  by_cases h : b = i
  · subst h
    have hlt : b < w.heap.size := (Array.getElem?_eq_some_iff.1 hb).1
    rw [hb]
    simp [hlt]
  · simp [h]

theorem doToBytes_ok {st dt : TypeId} {x : Operand} {l n : Nat} (ho : o.op = .convert st dt x) (hx : evO x tm = some (.str l n)) (hs : P.underlying st = some .string) (hb : isBytes P dt = true)
    (h : doToBytes P dt l n o k tm d t nx ≠ .fail) :
    ∃ blk val, AllocOK P o tm blk val ∧ doToBytes P dt l n o k tm d t nx = newK t nx blk fun t nx' => done o (val nx) k tm d t nx' := by
  unfold doToBytes at h ⊢
  obtain ⟨e', he', hu1, hu2⟩ := isBytes_some hb
  (obtain ⟨e, he, eqzz⟩ := oel_fail h; rw [eqzz] at h ⊢; clear eqzz; try dsimp only at h ⊢)
  have : e = e' := Option.some.inj (he.symm.trans he')
  subst this
  (obtain ⟨b1, eqzz⟩ := bel_fail h; rw [eqzz] at h ⊢; clear eqzz)
  have h1 := beqN_true b1
  obtain ⟨_, info, hi, hsz⟩ := slElem_some he
  have hch := h1
  refine ⟨rowB e.2 e.1 (strCells l n), slUp0 l, fun m S w ρ nx h64 hS hr => ?_, mkRow_eq ..⟩
  have hxx := hr x (by simp [ho, Op.operands]) _ hx
  -- the room
  generalize hcap : (Question.appendCap (toBA l n).size 0 e.1).cut (w.tape w.drawn (.appendCap (toBA l n).size 0 e.1)) = cap
  have hge : l ≤ cap := by
    rw [← hcap, toBA_size]
    exact Nat.le_add_right _ _
  let cs : Array Value := (toBA l n).data.map (fun b => .int .u8 b.toNat) ++ Array.replicate (cap - (toBA l n).size) (.int .u8 0)
  have hcs : cs.size = cap := by
    have : (toBA l n).data.size = l := toBA_size l n
    simp [cs, this]; omega
  let w1 : World := w.drew.alloc (.cells cs e.1)
  have hw1 : w1.heap[w.heap.size]? = some (.cells cs e.1) := by
    show (w.heap.push _)[w.heap.size]? = _
    simp
  refine ⟨cap, .cells cs e.1 (cs.size, cs.size + 1), { w1 with heap := w1.heap.setIfInBounds w.heap.size (.cells cs e.1 (cs.size, cs.size + 1)) }, ?_, ⟨?_, rfl, rfl, rfl⟩, ?_, ⟨.inr rfl, ?_⟩, rowB_okB (strCells_ok m S l n).1⟩
  · have hconv : (convert st dt (ρ x)).run P w = .ok (.slice (some ⟨w.heap.size, 0, none⟩) l cap) { w1 with heap := w1.heap.setIfInBounds w.heap.size (.cells cs e.1 (cs.size, cs.size + 1)) } := by
      rw [hxx.1]
      have hnf : (Question.appendCap (toBA l n).size 0 e.1).forced = false := rfl
      have hrow : (newRow e.1 cs).run P w.drew = .ok ⟨w.heap.size, 0, none⟩ w1 := run_newRow w.drew e.1 cs
      have hmark := run_markStringish (P := P) w1 w.heap.size cs e.1 hw1
      have hstr : (Conv.stringToBytes e.1 (toBA l n)).run P w = .ok (.slice (some ⟨w.heap.size, 0, none⟩) l cap) { w1 with heap := w1.heap.setIfInBounds w.heap.size (.cells cs e.1 (cs.size, cs.size + 1)) } := by
        unfold Conv.stringToBytes
        simp only [Sem.run_bind, run_choose, hnf, Bool.false_eq_true, if_false, Result.andThen_ok, hcap, World.drew_eq]
        rw [hrow]
        simp only [Result.andThen_ok, hmark, Sem.run_pure, toBA_size]
      simp only [convert, Sem.run_bind, run_underlying hs, run_underlying hu1, run_underlying hu2, Result.andThen_ok, gam]
      exact hstr
    simp only [execOp, ho, Sem.run_bind, hconv, Result.andThen_ok, Sem.run_pure]
    simp [slUp0, gam, capG]
  · show ((w.heap.push _).setIfInBounds w.heap.size _) = w.heap.push _
    apply Array.ext_getElem?
    intro i
    rw [Array.getElem?_setIfInBounds, Array.getElem?_push, Array.getElem?_push]
    by_cases hi' : w.heap.size = i
    · subst hi'; simp
    · rw [if_neg hi', if_neg (Ne.symm hi'), if_neg (Ne.symm hi')]
  · obtain ⟨o1, o2⟩ := strCells_ok (m.at nx w.heap.size cap h64) (fun b => S b ∨ b = nx) l n
    refine rowB_blk (fun j v hj => ?_) o1 o2 ?_ ?_ ?_
    · have hlt : j < l := by
        have := (List.getElem?_eq_some_iff.1 hj).1
        rwa [strCells_len] at this
      have hg : (gamL (m.at nx w.heap.size cap h64) (strCells l n))[j]? = some (gam (m.at nx w.heap.size cap h64) v) := by rw [gamL_get, hj]; rfl
      rw [strCells_gam] at hg
      have hsize : (toBA l n).data.size = l := toBA_size l n
      rw [Array.getElem?_append_left (by simpa [hsize] using hlt)]
      simp only [Array.getElem?_map]
      have e : (toBA l n).data[j]? = (bytesL l n)[j]? := by simp [toBA]
      rw [e, ← List.getElem?_map]
      exact hg
    · rw [strCells_len, hch]; simpa using hge
    · rw [hch, hcs, Inj.at_κ]; exact Nat.le_of_eq (Nat.mul_one cap)
    · intro off hoff; show ¬ (cs.size ≤ off ∧ _); omega
  · simpa using hge
end Go.X
end
