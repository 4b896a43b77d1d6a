/- Parts of the proof: XSemQ, XSemB, XSemE, XSemG. -/
import Derived.Laws.CopyRow
import Derived.Test.YtlkhkalniekaoaaGreatDoorQac

set_option linter.unusedVariables false
set_option linter.unusedSimpArgs false

section
/- The reckoner: indices, slices, assertions. -/
namespace Go.X
open Go
variable {P : Program} {s : CallT} {o : Oper} {k : K} {tm : Env} {d : Dx} {t : Hp} {nx : Nat}

theorem gam_int {m : Inj} {kk : IntKind} {i : Int} : gam m (.int kk i) = .int kk i := by simp [gam]
theorem asIntOf_int (kk : IntKind) (i : Int) : asIntOf (.int kk i) = pure (kk, i) := rfl

theorem doIndexAddr_ok {ty : TypeId} {x i : Operand} (ho : o.op = .indexAddr ty x i) (h : doIndexAddr ty x i P s o k tm d t nx ≠ .fail) :
    ∃ v, PureOK P o tm v ∧ doIndexAddr ty x i P s o k tm d t nx = done o v k tm d t nx := by
  unfold doIndexAddr at h ⊢
  (obtain ⟨v, hv, eqzz⟩ := ev_fail h; rw [eqzz] at h ⊢; clear eqzz; try dsimp only at h ⊢)
  (obtain ⟨u, hu, eqzz⟩ := ev_fail h; rw [eqzz] at h ⊢; clear eqzz; try dsimp only at h ⊢)
  obtain ⟨ki, n, rfl⟩ := onNat_fail h
  simp only [onNat_nat] at h ⊢
  cases v with
  | ptr b off =>
    simp only [onPtr_ptr] at h ⊢
    unfold ixArr at h ⊢
    (obtain ⟨e, he, eqzz⟩ := oel_fail h; rw [eqzz] at h ⊢; clear eqzz; try dsimp only at h ⊢)
    (obtain ⟨hb, eqzz⟩ := bel_fail h; rw [eqzz] at h ⊢; clear eqzz)
    have hlt : n < e.1 := Nat.le_of_ble_eq_true hb
    obtain ⟨hu', i', hi, hs⟩ := arrElem_some he
    refine ⟨_, fun m S w ρ hr => ?_, rfl⟩
    have hx := hr x (by simp [ho, Op.operands]) _ hv
    have hy := hr i (by simp [ho, Op.operands]) _ hu
    refine ⟨?_, hx.2⟩
    simp [execOp, ho, hx.1, hy.1, gam, Instr.indexAt, asIntOf, run_underlying hu', Instr.sureAddr, run_sizeOf' hi, hs, add_none, hlt]
  | sl b off len cp =>
    simp only [onPtr_sl, onSl_sl] at h ⊢
    unfold ixSl at h ⊢
    (obtain ⟨e, he, eqzz⟩ := oel_fail h; rw [eqzz] at h ⊢; clear eqzz; try dsimp only at h ⊢)
    (obtain ⟨hb, eqzz⟩ := bel_fail h; rw [eqzz] at h ⊢; clear eqzz)
    have hlt : n < len := Nat.le_of_ble_eq_true hb
    obtain ⟨hu', i', hi, hs⟩ := slElem_some he
    refine ⟨_, fun m S w ρ hr => ?_, rfl⟩
    have hx := hr x (by simp [ho, Op.operands]) _ hv
    have hy := hr i (by simp [ho, Op.operands]) _ hu
    refine ⟨?_, hx.2.1⟩
    simp [execOp, ho, hx.1, hy.1, gam, Instr.indexAt, asIntOf, run_underlying hu', run_sizeOf' hi, hs, add_none, hlt]
  | _ => exact absurd rfl h

theorem isStr_eq {dd : TypeDesc} (h : isStr dd = true) : dd = .string := by cases dd <;> first | rfl | cases h
theorem isStr_und {ty : TypeId} (h : isStr (und P ty) = true) : P.underlying ty = some .string := und_some (isStr_eq h) (by simp)

theorem doIndex_ok {ty : TypeId} {x i : Operand} (ho : o.op = .index ty x i) (h : doIndex ty x i P s o k tm d t nx ≠ .fail) :
    ∃ v, PureOK P o tm v ∧ doIndex ty x i P s o k tm d t nx = done o v k tm d t nx := by
  unfold doIndex at h ⊢
  (obtain ⟨v, hv, eqzz⟩ := ev_fail h; rw [eqzz] at h ⊢; clear eqzz; try dsimp only at h ⊢)
  (obtain ⟨u, hu, eqzz⟩ := ev_fail h; rw [eqzz] at h ⊢; clear eqzz; try dsimp only at h ⊢)
  obtain ⟨ki, n, rfl⟩ := onNat_fail h
  simp only [onNat_nat] at h ⊢
  cases v with
  | str l c =>
    simp only [onStr_str] at h ⊢
    (obtain ⟨hs, eqzz⟩ := bel_fail h; rw [eqzz] at h ⊢; clear eqzz)
    (obtain ⟨hb, eqzz⟩ := bel_fail h; rw [eqzz] at h ⊢; clear eqzz)
    have hlt : n < l := Nat.le_of_ble_eq_true hb
    refine ⟨_, fun m S w ρ hr => ?_, rfl⟩
    have hx := hr x (by simp [ho, Op.operands]) _ hv
    have hy := hr i (by simp [ho, Op.operands]) _ hu
    refine ⟨?_, trivial⟩
    have hg : (toBA l c)[n]? = some (UInt8.ofNat (byteAt c n)) := toBA_get l c n hlt
    have hb : (byteAt c n : Int) % 256 = (byteAt c n : Int) := by
      have := byteAt_lt c n
      omega
    simp [execOp, ho, hx.1, hy.1, gam, Instr.index, asIntOf, run_underlying (isStr_und hs), hg, hb]
  | agg l =>
    simp only [onStr_agg, onAgg_agg] at h ⊢
    (obtain ⟨e, he, eqzz⟩ := oel_fail h; rw [eqzz] at h ⊢; clear eqzz; try dsimp only at h ⊢)
    (obtain ⟨hb, eqzz⟩ := bel_fail h; rw [eqzz] at h ⊢; clear eqzz)
    have hlt : n < e.1 := Nat.le_of_ble_eq_true hb
    obtain ⟨hu', i', hi, hs⟩ := arrElem_some he
    have hsz : sz P e.2.1 = e.2.2 := by rw [sz_info hi, hs]
    rw [← hsz] at h ⊢
    obtain ⟨v, ev, hrun⟩ := run_part h
    rw [ev]
    refine ⟨_, fun m S w ρ hr => ?_, rfl⟩
    have hx := hr x (by simp [ho, Op.operands]) _ hv
    have hy := hr i (by simp [ho, Op.operands]) _ hu
    have hp := hrun m S w hx.2
    refine ⟨?_, hp.2⟩
    have hp' : (part e.2.1 (gamL m l).toArray (n * sz P e.2.1)).run P w = .ok (gam m v) w := hp.1
    simp [execOp, ho, hx.1, hy.1, gam, Instr.index, asIntOf, run_underlying hu', run_sizeOf' hi, hs, ← hsz, hlt, hp']
  | _ => exact absurd rfl h

/-! ### Slices -/
/-- What a bound is. -/
def Bnd (x : Option Operand) (tm : Env) (dd i : Nat) : Prop := (x = none ∧ i = dd) ∨ ∃ y kk, x = some y ∧ evO y tm = some (.int kk (.ofNat i))
theorem bnd_fail {x : Option Operand} {dd : Nat} {c : Nat → R} (h : bnd x tm dd c .fail ≠ .fail) : ∃ i, Bnd x tm dd i ∧ bnd x tm dd c .fail = c i := by
  cases x with
  | none => exact ⟨dd, .inl ⟨rfl, rfl⟩, rfl⟩
  | some y =>
    have h' : ev y tm (fun v => onNat v c .fail) .fail ≠ .fail := h
    obtain ⟨v, hv, e⟩ := ev_fail h'
    have h2 : onNat v c .fail ≠ .fail := e ▸ h'
    obtain ⟨kk, n, rfl⟩ := onNat_fail h2
    exact ⟨n, .inr ⟨y, kk, rfl, hv⟩, e⟩

theorem run_sliceBound (w : World) (kk : IntKind) (i y : Nat) (code : BoundsCode) (h : i ≤ y) : (Instr.sliceBound (.int kk (.ofNat i)) y code).run P w = .ok i w := by
  have h2 : (i : Int) ≤ (y : Int) := by omega
  simp [Instr.sliceBound, asIntOf, h2]
theorem run_bounds {m : Inj} {S : Nat → Prop} {ρ : Operand → Value} {lo hi mx : Option Operand} {len cap i j q : Nat}
    (hr : ∀ y, lo = some y ∨ hi = some y ∨ mx = some y → ∀ v, evO y tm = some v → ρ y = gam m v ∧ okV m S v)
    (hlo : Bnd lo tm 0 i) (hhi : Bnd hi tm len j) (hmx : Bnd mx tm cap q) (hm : mx ≠ none → hi ≠ none) (h1 : i ≤ j) (h2 : j ≤ q) (h3 : q ≤ cap) (isS : Bool) (w : World) :
    (Instr.sliceBounds isS len cap (lo.map ρ) (hi.map ρ) (mx.map ρ)).run P w = .ok (i, j, q) w := by
  unfold Instr.sliceBounds
  rcases hlo with ⟨rfl, rfl⟩ | ⟨yl, kl, rfl, hl⟩ <;> rcases hhi with ⟨rfl, rfl⟩ | ⟨yh, kh, rfl, hh⟩ <;> rcases hmx with ⟨rfl, rfl⟩ | ⟨ym, km, rfl, hmm⟩
  all_goals first
    | exact absurd rfl (hm (Option.some_ne_none _))
    | skip
  all_goals (try have el := (hr _ (.inl rfl) _ hl).1)
  all_goals (try have eh := (hr _ (.inr (.inl rfl)) _ hh).1)
  all_goals (try have em := (hr _ (.inr (.inr rfl)) _ hmm).1)
  all_goals simp only [Option.map_some, Option.map_none, Sem.run_bind, Sem.run_pure, Result.andThen_ok, gam_int, run_sliceBound, *]

theorem mxOk_fail {hi mx : Option Operand} {r : R} (h : mxOk hi mx r ≠ .fail) : mxOk hi mx r = r ∧ (mx ≠ none → hi ≠ none) := by
  cases mx with
  | none => exact ⟨rfl, by simp⟩
  | some y => cases hi with
    | none => exact absurd rfl h
    | some z => exact ⟨rfl, by simp⟩

theorem gam_slEx (m : Inj) (b off i j q sz : Nat) : gam m (.sl b (slOff q i off sz) (Nat.sub j i) (.ex (Nat.sub q i))) = .slice (some (if q = i then ⟨m.ρ b, off, none⟩ else ⟨m.ρ b, off + i * sz, none⟩)) (j - i) (q - i) := by
  unfold slOff
  by_cases h : q = i
  · rw [beqN, decide_eq_true h, if_pos h]; rfl
  · rw [beqN, decide_eq_false h, if_neg h]; rfl

theorem slEx_fail {b off len cap sz : Nat} {lo hi mx : Option Operand} {c : V → R} (h : slEx b off len cap sz lo hi mx tm c ≠ .fail) :
    ∃ i j q, slEx b off len cap sz lo hi mx tm c = c (.sl b (slOff q i off sz) (Nat.sub j i) (.ex (Nat.sub q i))) ∧ Bnd lo tm 0 i ∧ Bnd hi tm len j ∧ Bnd mx tm cap q ∧ i ≤ j ∧ j ≤ q ∧ q ≤ cap := by
  unfold slEx at h ⊢
  obtain ⟨q, hq, e⟩ := bnd_fail h; rw [e] at h ⊢; clear e
  obtain ⟨j, hj, e⟩ := bnd_fail h; rw [e] at h ⊢; clear e
  obtain ⟨i, hi', e⟩ := bnd_fail h; rw [e] at h ⊢; clear e
  obtain ⟨b1, e⟩ := bel_fail h; rw [e] at h ⊢; clear e
  obtain ⟨b2, e⟩ := bel_fail h; rw [e] at h ⊢; clear e
  obtain ⟨b3, e⟩ := bel_fail h; rw [e] at h ⊢; clear e
  exact ⟨i, j, q, rfl, hi', hj, hq, bleN_true b1, bleN_true b2, bleN_true b3⟩

theorem slice_ops {ty : TypeId} {x : Operand} {lo hi mx : Option Operand} (ho : o.op = .slice ty x lo hi mx) {m : Inj} {S : Nat → Prop} {ρ : Operand → Value} (hr : OpsR m S tm o ρ) :
    ∀ y, lo = some y ∨ hi = some y ∨ mx = some y → ∀ v, evO y tm = some v → ρ y = gam m v ∧ okV m S v := by
  intro y hy v hv
  refine hr y ?_ v hv
  rw [ho]
  rcases hy with rfl | rfl | rfl <;> simp [Op.operands]

theorem doSlice_ok {ty : TypeId} {x : Operand} {lo hi mx : Option Operand} (ho : o.op = .slice ty x lo hi mx) (h : doSlice ty x lo hi mx P s o k tm d t nx ≠ .fail) :
    ∃ v, PureOK P o tm v ∧ doSlice ty x lo hi mx P s o k tm d t nx = done o v k tm d t nx := by
  unfold doSlice at h ⊢
  obtain ⟨e, hm⟩ := mxOk_fail h
  rw [e] at h ⊢; clear e
  (obtain ⟨v, hv, eqzz⟩ := ev_fail h; rw [eqzz] at h ⊢; clear eqzz; try dsimp only at h ⊢)
  cases v with
  | str l n =>
    simp only [onStr_str] at h ⊢
    (obtain ⟨hs, eqzz⟩ := bel_fail h; rw [eqzz] at h ⊢; clear eqzz)
    unfold slStr at h ⊢
    cases mx with
    | some y => exact absurd rfl h
    | none =>
      simp only [oel_none] at h ⊢
      (obtain ⟨i, hi', eqzz⟩ := bnd_fail h; rw [eqzz] at h ⊢; clear eqzz; try dsimp only at h ⊢)
      (obtain ⟨j, hj, eqzz⟩ := bnd_fail h; rw [eqzz] at h ⊢; clear eqzz; try dsimp only at h ⊢)
      (obtain ⟨b1, eqzz⟩ := bel_fail h; rw [eqzz] at h ⊢; clear eqzz)
      (obtain ⟨b2, eqzz⟩ := bel_fail h; rw [eqzz] at h ⊢; clear eqzz)
      have h1 := bleN_true b1
      have h2 := bleN_true b2
      refine ⟨_, fun m S w ρ hr => ?_, rfl⟩
      have hx := hr x (by simp [ho, Op.operands]) _ hv
      have hb := run_bounds (P := P) (slice_ops ho hr) hi' hj (.inl ⟨rfl, rfl⟩) hm h1 h2 (Nat.le_refl l) false w
      refine ⟨?_, trivial⟩
      simp only [Option.map_none] at hb
      have hne : ∀ n e, TypeDesc.string ≠ .array n e := by simp
      simp [execOp, ho, hx.1, gam, Instr.sliceAt, Instr.slice, run_underlying (isStr_und hs), hb, toBA_extract l n i j h1 h2]
  | ptr b off =>
    simp only [onStr_ptr, onPtr_ptr] at h ⊢
    (obtain ⟨e, he, eqzz⟩ := oel_fail h; rw [eqzz] at h ⊢; clear eqzz; try dsimp only at h ⊢)
    obtain ⟨hu', i', hi1, hs⟩ := arrElem_some he
    unfold slArr at h ⊢
    obtain ⟨i, j, q, e', hlo, hhi, hmx, h1, h2, h3⟩ := slEx_fail h
    rw [e']
    refine ⟨_, fun m S w ρ hr => ?_, rfl⟩
    have hx := hr x (by simp [ho, Op.operands]) _ hv
    have hb := run_bounds (P := P) (slice_ops ho hr) hlo hhi hmx hm h1 h2 h3 false w
    refine ⟨?_, hx.2, Nat.sub_le_sub_right h2 i⟩
    rw [gam_slEx]
    simp [execOp, ho, hx.1, gam, Instr.sliceAt, run_underlying hu', Instr.sureAddr, hb, run_sizeOf' hi1, hs, add_none]
  | nils =>
    simp only [onStr_nils, onPtr_nils] at h ⊢
    (obtain ⟨e, he, eqzz⟩ := oel_fail h; rw [eqzz] at h ⊢; clear eqzz; try dsimp only at h ⊢)
    obtain ⟨hu', i', hi1, hs⟩ := slElem_some he
    simp only [onSl_nils] at h ⊢
    unfold slNil at h ⊢
    (obtain ⟨i, hlo, eqzz⟩ := bnd_fail h; rw [eqzz] at h ⊢; clear eqzz; try dsimp only at h ⊢)
    (obtain ⟨j, hhi, eqzz⟩ := bnd_fail h; rw [eqzz] at h ⊢; clear eqzz; try dsimp only at h ⊢)
    (obtain ⟨q, hmx, eqzz⟩ := bnd_fail h; rw [eqzz] at h ⊢; clear eqzz; try dsimp only at h ⊢)
    (obtain ⟨b1, eqzz⟩ := bel_fail h; rw [eqzz] at h ⊢; clear eqzz)
    (obtain ⟨b2, eqzz⟩ := bel_fail h; rw [eqzz] at h ⊢; clear eqzz)
    (obtain ⟨b3, eqzz⟩ := bel_fail h; rw [eqzz] at h ⊢; clear eqzz)
    have h1 := beqN_true b1; have h2 := beqN_true b2; have h3 := beqN_true b3
    subst h1; subst h2; subst h3
    refine ⟨_, fun m S w ρ hr => ?_, rfl⟩
    have hx := hr x (by simp [ho, Op.operands]) _ hv
    have hb := run_bounds (P := P) (slice_ops ho hr) hlo hhi hmx hm (Nat.le_refl 0) (Nat.le_refl 0) (Nat.le_refl 0) true w
    refine ⟨?_, trivial⟩
    simp [execOp, ho, hx.1, gam, Instr.sliceAt, Instr.slice, run_underlying hu', hb, run_sizeOf' hi1]
  | sl b off len cp =>
    simp only [onStr_sl, onPtr_sl] at h ⊢
    (obtain ⟨e, he, eqzz⟩ := oel_fail h; rw [eqzz] at h ⊢; clear eqzz; try dsimp only at h ⊢)
    obtain ⟨hu', i', hi1, hs⟩ := slElem_some he
    simp only [onSl_sl] at h ⊢
    cases cp with
    | ex cap =>
      simp only [onCap_ex] at h ⊢
      obtain ⟨i, j, q, e', hlo, hhi, hmx, h1, h2, h3⟩ := slEx_fail h
      rw [e']
      refine ⟨_, fun m S w ρ hr => ?_, rfl⟩
      have hx := hr x (by simp [ho, Op.operands]) _ hv
      have hb := run_bounds (P := P) (slice_ops ho hr) hlo hhi hmx hm h1 h2 h3 true w
      refine ⟨?_, hx.2.1, Nat.sub_le_sub_right h2 i⟩
      rw [gam_slEx]
      simp only [execOp, ho, hx.1, gam, capG, Instr.sliceAt, Instr.slice, Sem.run_bind, run_underlying hu', Result.andThen_ok, hb, run_sizeOf' hi1, hs, Sem.run_pure, Option.map_some, add_none]
      by_cases hq : q = i <;> simp [hq]
    | up e0 =>
      simp only [onCap_up] at h ⊢
      unfold slUp at h ⊢
      (obtain ⟨j, hhi, eqzz⟩ := bnd_fail h; rw [eqzz] at h ⊢; clear eqzz; try dsimp only at h ⊢)
      (obtain ⟨i, hlo, eqzz⟩ := bnd_fail h; rw [eqzz] at h ⊢; clear eqzz; try dsimp only at h ⊢)
      (obtain ⟨b1, eqzz⟩ := bel_fail h; rw [eqzz] at h ⊢; clear eqzz)
      have h1 := bleN_true b1
      cases mx with
      | some y =>
        simp only [oel_some] at h ⊢
        (obtain ⟨q, hmx, eqzz⟩ := bnd_fail h; rw [eqzz] at h ⊢; clear eqzz; try dsimp only at h ⊢)
        (obtain ⟨b2, eqzz⟩ := bel_fail h; rw [eqzz] at h ⊢; clear eqzz)
        (obtain ⟨b3, eqzz⟩ := bel_fail h; rw [eqzz] at h ⊢; clear eqzz)
        have h2 := bleN_true b2; have h3 := bleN_true b3
        refine ⟨_, fun m S w ρ hr => ?_, rfl⟩
        have hx := hr x (by simp [ho, Op.operands]) _ hv
        have hk : e0 + len ≤ m.κ b := hx.2.2
        have hmx' : Bnd (some y) tm (m.κ b - e0) q := by
          rcases hmx with ⟨hc, _⟩ | hc
          · cases hc
          · exact .inr hc
        have hb := run_bounds (P := P) (slice_ops ho hr) hlo hhi hmx' hm h1 h2 (by omega) true w
        simp only [Option.map_some] at hb
        refine ⟨?_, hx.2.1, Nat.sub_le_sub_right h2 i⟩
        rw [gam_slEx]
        simp only [execOp, ho, hx.1, gam, capG, Instr.sliceAt, Instr.slice, Sem.run_bind, run_underlying hu', Result.andThen_ok, hb, run_sizeOf' hi1, hs, Sem.run_pure, Option.map_some, add_none]
        by_cases hq : q = i <;> simp [hq]
      | none =>
        simp only [oel_none] at h ⊢
        (obtain ⟨b2, eqzz⟩ := bel_fail h; rw [eqzz] at h ⊢; clear eqzz)
        have h2 := bleN_true b2
        by_cases hi0 : i = 0
        · subst hi0
          have eb : Nat.beq 0 0 = true := rfl
          rw [eb, bel_true] at h ⊢
          refine ⟨_, fun m S w ρ hr => ?_, rfl⟩
          have hx := hr x (by simp [ho, Op.operands]) _ hv
          have hk : e0 + len ≤ m.κ b := hx.2.2
          have hb := run_bounds (P := P) (slice_ops ho hr) hlo hhi (.inl ⟨rfl, rfl⟩ : Bnd none tm (m.κ b - e0) (m.κ b - e0)) hm h1 (by omega) (Nat.le_refl _) true w
          refine ⟨?_, hx.2.1, by show e0 + j ≤ _; omega⟩
          simp only [Option.map_none] at hb
          simp only [execOp, ho, hx.1, gam, capG, Instr.sliceAt, Instr.slice, Sem.run_bind, run_underlying hu', Result.andThen_ok, Option.map_none, hb, run_sizeOf' hi1, hs, Sem.run_pure, Option.map_some, add_none]
          by_cases hq : m.κ b - e0 = 0 <;> simp [hq]
        · rw [beqN, decide_eq_false hi0, bel_false] at h ⊢
          (obtain ⟨b3, eqzz⟩ := bel_fail h; rw [eqzz] at h ⊢; clear eqzz)
          have h3 := bleN_true b3
          refine ⟨_, fun m S w ρ hr => ?_, rfl⟩
          have hx := hr x (by simp [ho, Op.operands]) _ hv
          have hk : e0 + len ≤ m.κ b := hx.2.2
          have hb := run_bounds (P := P) (slice_ops ho hr) hlo hhi (.inl ⟨rfl, rfl⟩ : Bnd none tm (m.κ b - e0) (m.κ b - e0)) hm h1 (by omega) (Nat.le_refl _) true w
          refine ⟨?_, hx.2.1, by show (e0 + i) + (j - i) ≤ _; omega⟩
          simp only [Option.map_none] at hb
          have hne : ¬ m.κ b - e0 = i := by omega
          have hc : m.κ b - e0 - i = m.κ b - Nat.add e0 i := by show _ = m.κ b - (e0 + i); omega
          simp only [execOp, ho, hx.1, gam, capG, Instr.sliceAt, Instr.slice, Sem.run_bind, run_underlying hu', Result.andThen_ok, Option.map_none, hb, run_sizeOf' hi1, hs, Sem.run_pure, Option.map_some, add_none, hne, if_false, hc]
          rfl
  | _ =>
    simp only [onStr_bool, onPtr_bool, onStr_int, onPtr_int, onStr_nilp, onPtr_nilp, onStr_map, onPtr_map, onStr_nilm, onPtr_nilm, onStr_fn, onPtr_fn, onStr_nilf, onPtr_nilf, onStr_iface, onPtr_iface, onStr_nili, onPtr_nili, onStr_agg, onPtr_agg, onStr_tup, onPtr_tup] at h
    obtain ⟨e, he, e'⟩ := oel_fail h
    rw [e'] at h
    exact absurd rfl h

theorem doAssert_ok {x : Operand} {xt ty : TypeId} {ok : Bool} (ho : o.op = .typeAssert x xt ty ok) (h : doAssert x xt ty ok P s o k tm d t nx ≠ .fail) :
    ∃ v, PureOK P o tm v ∧ doAssert x xt ty ok P s o k tm d t nx = done o v k tm d t nx := by
  unfold doAssert at h ⊢
  (obtain ⟨hok, eqzz⟩ := bel_fail h; rw [eqzz] at h ⊢; clear eqzz)
  subst hok
  obtain ⟨e, hn, hni⟩ := concD_fail h
  rw [e] at h ⊢; clear e
  have hd := und_some rfl hn
  (obtain ⟨v, hv, eqzz⟩ := ev_fail h; rw [eqzz] at h ⊢; clear eqzz; try dsimp only at h ⊢)
  cases v with
  | iface u w' =>
    dsimp only at h ⊢
    by_cases hut : u = ty
    · rw [beqN, decide_eq_true hut, bel_true] at h ⊢
      subst hut
      refine ⟨_, fun m S w ρ hr => ?_, rfl⟩
      have hx := hr x (by simp [ho, Op.operands]) _ hv
      refine ⟨?_, hx.2, trivial, trivial⟩
      have : (Instr.typeAssert (ρ x) xt u true).run P w = .ok (.tuple #[gam m w', .bool true]) w := by
        rw [hx.1]
        generalize und P u = dd at hd hn hni
        cases dd <;> first | exact absurd rfl (hni _) | simp [Instr.typeAssert, run_underlying hd, gam]
      simp [execOp, ho, this, gam, gamL]
    · rw [beqN, decide_eq_false hut, bel_false] at h ⊢
      (obtain ⟨z, hz, eqzz⟩ := oel_fail h; rw [eqzz] at h ⊢; clear eqzz; try dsimp only at h ⊢)
      refine ⟨_, fun m S w ρ hr => ?_, rfl⟩
      have hx := hr x (by simp [ho, Op.operands]) _ hv
      obtain ⟨hzr, hzo⟩ := zeroV_some hz m S
      refine ⟨?_, hzo, trivial, trivial⟩
      have : (Instr.typeAssert (ρ x) xt ty true).run P w = .ok (.tuple #[gam m z, .bool false]) w := by
        rw [hx.1]
        generalize und P ty = dd at hd hn hni
        cases dd <;> first | exact absurd rfl (hni _) | simp [Instr.typeAssert, run_underlying hd, gam, hut, hzr]
      simp [execOp, ho, this, gam, gamL]
  | _ => exact absurd rfl h
end Go.X
end

section
/- The reckoner: operators, conversions, composites. -/
namespace Go.X
open Go
variable {P : Program} {s : CallT} {o : Oper} {k : K} {tm : Env} {d : Dx} {t : Hp} {nx : Nat}

theorem doUn_ok {op : UnOp} {ty : TypeId} {x : Operand} (ho : o.op = .unOp op ty x) (h : doUn op ty x P s o k tm d t nx ≠ .fail) :
    ∃ v, PureOK P o tm v ∧ doUn op ty x P s o k tm d t nx = done o v k tm d t nx := by
  unfold doUn at h ⊢
  (obtain ⟨v, hv, eqzz⟩ := ev_fail h; rw [eqzz] at h ⊢; clear eqzz; try dsimp only at h ⊢)
  cases op with
  | neg =>
    change unNeg v _ ≠ _ at h
    change ∃ v', PureOK P o tm v' ∧ unNeg v _ = _
    unfold unNeg at h ⊢
    obtain ⟨kk, n, rfl⟩ := onInt_fail h
    simp only [onInt_int] at h ⊢
    refine ⟨_, fun m S w ρ hr => ?_, rfl⟩
    have hx := hr x (by simp [ho, Op.operands]) _ hv
    exact ⟨by simp [execOp, ho, hx.1, gam, Op.unary, Op.intArith, wrapV_eq, subI_eq], trivial⟩
  | xor =>
    change unXor v _ ≠ _ at h
    change ∃ v', PureOK P o tm v' ∧ unXor v _ = _
    unfold unXor at h ⊢
    obtain ⟨kk, n, rfl⟩ := onInt_fail h
    simp only [onInt_int] at h ⊢
    refine ⟨_, fun m S w ρ hr => ?_, rfl⟩
    have hx := hr x (by simp [ho, Op.operands]) _ hv
    refine ⟨?_, trivial⟩
    have e : (bel kk.signed (Int.negSucc 0) kk.max) = if kk.signed then -1 else kk.max := by cases kk.signed <;> rfl
    rw [e]
    simp [execOp, ho, hx.1, gam, Op.unary, Op.intBits]
  | not =>
    have e : ∀ c, unOp UnOp.not v c = unNot v c := fun _ => rfl
    rw [e] at h ⊢
    unfold unNot at h ⊢
    obtain ⟨b, rfl⟩ := onBool_fail h
    simp only [onBool_bool] at h ⊢
    refine ⟨.bool (!b), fun m S w ρ hr => ?_, by cases b <;> rfl⟩
    have hx := hr x (by simp [ho, Op.operands]) _ hv
    exact ⟨by simp [execOp, ho, hx.1, gam, Op.unary], trivial⟩
  | _ => exact absurd rfl h

/-! ### Conversions -/
theorem intOf_some {dd : TypeDesc} {kk : IntKind} (h : intOf? dd = some kk) : dd = .int kk := by
  cases dd <;> first | (cases h; done) | (cases h; rfl)
theorem doConv_pure {st dt : TypeId} {x : Operand} (ho : o.op = .convert st dt x) (hb : isBytes P st = false) (hs : andB (isStr (und P st)) (isBytes P dt) = false) (h : doConv st dt x P s o k tm d t nx ≠ .fail) :
    ∃ v, PureOK P o tm v ∧ doConv st dt x P s o k tm d t nx = done o v k tm d t nx := by
  unfold doConv at h ⊢
  rw [hb, bel_false] at h ⊢
  (obtain ⟨v, hv, eqzz⟩ := ev_fail h; rw [eqzz] at h ⊢; clear eqzz; try dsimp only at h ⊢)
  obtain ⟨e, hn⟩ := someD_fail h
  rw [e] at h ⊢; clear e
  have hsd := und_some (P := P) (t := st) rfl hn
  cases v with
  | int kk n =>
    simp only [onInt_int] at h ⊢
    (obtain ⟨k', hk, eqzz⟩ := oel_fail h; rw [eqzz] at h ⊢; clear eqzz; try dsimp only at h ⊢)
    have hd := und_some (intOf_some hk) (by simp)
    refine ⟨_, fun m S w ρ hr => ?_, rfl⟩
    have hx := hr x (by simp [ho, Op.operands]) _ hv
    refine ⟨?_, trivial⟩
    have : (convert st dt (ρ x)).run P w = .ok (.int k' (k'.wrap n)) w := by
      rw [hx.1]
      simp [convert, run_underlying hsd, run_underlying hd, gam, Conv.intToInt]
    simp [execOp, ho, this, gam, wrapV_eq]
  | str l n =>
    simp only [onInt_str, onStr_str] at h ⊢
    cases hst : isStr (und P dt) with
    | true =>
      rw [hst, bel_true] at h
      rw [bel_true]
      refine ⟨_, fun m S w ρ hr => ?_, rfl⟩
      have hx := hr x (by simp [ho, Op.operands]) _ hv
      refine ⟨?_, trivial⟩
      have : (convert st dt (ρ x)).run P w = .ok (.string (toBA l n)) w := by
        rw [hx.1]
        simp [convert, run_underlying hsd, run_underlying (isStr_und hst), gam]
      simp [execOp, ho, this, gam]
    | false =>
      rw [hst, bel_false] at h
      obtain ⟨e1, e2⟩ := bel_fail h
      rw [e2] at h
      obtain ⟨e3, e4⟩ := bel_fail h
      rw [e1, e3] at hs
      cases hs
  | _ => exact absurd rfl h

/-! ### Composites -/
theorem foldl_fill (off : Nat) : ∀ (c : List Value) (j : Nat) (cells : Array Value), off + j + c.length ≤ cells.size →
    ((c.zipIdx j).foldl (fun cs (x : Value × Nat) => cs.setIfInBounds (off + x.2) x.1) cells) = (cells.toList.take (off + j) ++ c ++ cells.toList.drop (off + j + c.length)).toArray
  | [], j, cells, _ => by simp
  | v :: c, j, cells, h => by
    simp only [List.zipIdx_cons, List.foldl_cons]
    rw [foldl_fill off c (j + 1) _ (by simpa [Nat.add_assoc, Nat.add_comm 1] using h)]
    simp only [Array.toList_setIfInBounds]
    have := list_seg_step cells.toList (off + j) v c (by simp only [List.length_cons] at h; simpa [Nat.add_assoc] using h)
    congr 1

theorem fillL_ok {place place' : Nat → Option (Nat × Nat)} (hp : ∀ i x, place i = some x → place' i = some x) {m : Inj} {S : Nat → Prop} :
    ∀ {l : List (Nat × V)} {z cs : List V}, fillL place l z = some cs → (∀ x ∈ l, okV m S x.2) → okL m S z → (∀ v ∈ z, isCell v = true) →
      Instr.fill place' (gamL m z).toArray (l.map fun x => (x.1, gam m x.2)) = some (gamL m cs).toArray ∧ okL m S cs ∧ (∀ v ∈ cs, isCell v = true) ∧ cs.length = z.length
  | [], z, cs, h, _, hz, hc => by cases h; exact ⟨rfl, hz, hc, rfl⟩
  | (i, v) :: l, z, cs, h, hl, hz, hc => by
    unfold fillL at h
    cases hpl : place i with
    | none => rw [hpl] at h; cases h
    | some os =>
      rw [hpl] at h
      simp only [oel_some] at h
      cases hcv : cellsOf v with
      | none => rw [hcv] at h; cases h
      | some c =>
        rw [hcv] at h
        simp only [oel_some] at h
        cases hb1 : Nat.beq c.length os.2 with
        | false => rw [hb1] at h; cases h
        | true =>
          cases hb2 : Nat.ble (Nat.add os.1 os.2) z.length with
          | false => rw [hb1, hb2] at h; cases h
          | true =>
            rw [hb1, hb2] at h
            simp only [bel_true] at h
            have h1 := beqN_true hb1
            have h2 : os.1 + os.2 ≤ z.length := bleN_true hb2
            obtain ⟨hg, hok, hcc⟩ := cellsOf_gam hcv (hl _ (List.mem_cons_self ..))
            have hz' : okL m S (z.take os.1 ++ (c ++ z.drop (os.1 + os.2))) := by
              rw [okL_append, okL_append]
              rw [okL_iff] at hz
              exact ⟨(okL_iff ..).2 fun v hv => hz v (List.mem_of_mem_take hv), hok, (okL_iff ..).2 fun v hv => hz v (List.mem_of_mem_drop hv)⟩
            have hc' : ∀ v ∈ z.take os.1 ++ (c ++ z.drop (os.1 + os.2)), isCell v = true := by
              intro v hv
              rcases List.mem_append.1 hv with hv | hv
              · exact hc v (List.mem_of_mem_take hv)
              · rcases List.mem_append.1 hv with hv | hv
                · exact hcc v hv
                · exact hc v (List.mem_of_mem_drop hv)
            obtain ⟨r1, r2, r3, r4⟩ := fillL_ok hp h (fun x hx => hl x (List.mem_cons_of_mem _ hx)) hz' hc'
            refine ⟨?_, r2, r3, ?_⟩
            · simp only [List.map_cons, Instr.fill, hp i os hpl, hg]
              have hs1 : (gamL m c).toArray.size = os.2 := by simp [h1]
              have hs2 : (gamL m z).toArray.size = z.length := by simp
              rw [hs1, hs2]
              rw [if_neg (by simp only [ne_eq, not_true_eq_false, decide_false, Bool.false_or, decide_eq_true_eq]; omega)]
              have hfold := foldl_fill os.1 (gamL m c) 0 (gamL m z).toArray (by simp; omega)
              have e : ((gamL m c).toArray.zipIdx.foldl (fun cs (c, j) => cs.setIfInBounds (os.1 + j) c) (gamL m z).toArray) = (gamL m (z.take os.1 ++ (c ++ z.drop (os.1 + os.2)))).toArray := by
                rw [← Array.foldl_toList, Array.toList_zipIdx]
                refine hfold.trans ?_
                simp [gamL_eq_map, h1]
              rw [e]
              exact r1
            · rw [r4]; simp; omega

theorem placesOk_some : ∀ {fs : List Field}, placesOk P fs = true → ∃ places, fs.mapM (fun f => (P.info? f.type).map fun i => (f.offset, i.size)) = some places ∧ ∀ i x, placeS P fs i = some x → places[i]? = some x
  | [], _ => ⟨[], rfl, fun i x h => by unfold placeS at h; rw [nth_eq] at h; simp at h⟩
  | f :: fs, h => by
    have h' : oel (szO P f.type) (fun _ => placesOk P fs) false = true := h
    cases hs : szO P f.type with
    | none => rw [hs] at h'; cases h'
    | some sf =>
      rw [hs] at h'
      obtain ⟨places, h1, h2⟩ := placesOk_some (fs := fs) h'
      obtain ⟨info, hi, hsz⟩ := szO_some hs
      refine ⟨(f.offset, info.size) :: places, by simp [hi, h1], fun i x hx => ?_⟩
      cases i with
      | zero =>
        unfold placeS at hx
        rw [nth_eq] at hx
        simp only [List.getElem?_cons_zero, oel_some, hs] at hx
        cases hx
        simp [hsz]
      | succ i =>
        have : placeS P fs i = some x := by
          unfold placeS at hx ⊢
          rw [nth_eq] at hx ⊢
          simpa using hx
        simpa using h2 i x this

theorem doBuild_ok {ty : TypeId} {ps : Array (Nat × Operand)} (ho : o.op = .build ty ps) (h : doBuild ty ps P s o k tm d t nx ≠ .fail) :
    ∃ v, PureOK P o tm v ∧ doBuild ty ps P s o k tm d t nx = done o v k tm d t nx := by
  unfold doBuild at h ⊢
  (obtain ⟨l, hl, eqzz⟩ := evp_fail h; rw [eqzz] at h ⊢; clear eqzz; try dsimp only at h ⊢)
  (obtain ⟨z, hz, eqzz⟩ := oel_fail h; rw [eqzz] at h ⊢; clear eqzz; try dsimp only at h ⊢)
  obtain ⟨zl, rfl⟩ := onAgg_fail h
  simp only [onAgg_agg] at h ⊢
  (obtain ⟨pl, hpl, eqzz⟩ := oel_fail h; rw [eqzz] at h ⊢; clear eqzz; try dsimp only at h ⊢)
  (obtain ⟨cs, hcs, eqzz⟩ := oel_fail h; rw [eqzz] at h ⊢; clear eqzz; try dsimp only at h ⊢)
  refine ⟨_, fun m S w ρ hr => ?_, rfl⟩
  have hps := evpO_gam (ρ := ρ) (fun x hx v hv => hr x.2 (by
    simp only [ho, Op.operands, List.mem_toArray, List.mem_map]
    exact ⟨x, by simpa using hx, rfl⟩) v hv) hl
  obtain ⟨hzr, hzo⟩ := zeroV_some hz m S
  have hparts : (ps.map fun x => (x.1, ρ x.2)).toList = l.map fun x => (x.1, gam m x.2) := by rw [Array.toList_map]; exact hps.1
  -- the zero value as the tables have it
  obtain ⟨info, hinfo, hzero⟩ : ∃ info, P.info? ty = some info ∧ info.zero = some (gam m (.agg zl)) := by
    unfold zeroV at hz
    cases hi : P.info? ty with
    | none => rw [hi] at hz; cases hz
    | some info =>
      rw [hi] at hz
      simp only [oel_some] at hz
      cases hz0 : info.zero with
      | none => rw [hz0] at hz; cases hz
      | some v => rw [hz0] at hz; exact ⟨info, rfl, by rw [hz0, (ofValue_gam hz m S).1]⟩
  have key : ∀ place', (∀ i x, pl i = some x → place' i = some x) → Instr.fill place' (gam m (.agg zl)).cells (ps.map fun x => (x.1, ρ x.2)).toList = some (gamL m cs).toArray ∧ okV m S (.agg cs) := fun place' hp => by
    obtain ⟨r1, r2, r3, _⟩ := fillL_ok hp hcs hps.2 hzo.1 hzo.2
    rw [hparts]
    exact ⟨r1, r2, r3⟩
  suffices hsuf : P.built ty (ps.map fun x => (x.1, ρ x.2)).toList = some (gamL m cs).toArray ∧ okV m S (.agg cs) by
    refine ⟨?_, hsuf.2⟩
    simp only [execOp, ho, Sem.run_bind, run_build w ty _ _ hsuf.1, Result.andThen_ok, Sem.run_pure, gam]
  unfold buildPlace at hpl
  cases hd : und P ty with
  | struct fs =>
    rw [hd] at hpl
    have hu := und_some hd (by simp)
    simp only [isStruct, bel_true, fieldsOf] at hpl
    cases hok : placesOk P fs.toList with
    | false => rw [hok] at hpl; cases hpl
    | true =>
      rw [hok] at hpl
      cases hpl
      obtain ⟨places, h1, h2⟩ := placesOk_some hok
      have := key (places.toArray[·]?) (fun i x hx => by simpa using h2 i x hx)
      refine ⟨?_, this.2⟩
      unfold Program.built
      simp only [hinfo, hu, hzero, h1]
      exact this.1
  | array n e =>
    rw [hd] at hpl
    have hu := und_some hd (by simp)
    simp only [isStruct, bel_false] at hpl
    cases he : arrElem P ty with
    | none => rw [he] at hpl; cases hpl
    | some e' =>
      rw [he] at hpl
      cases hpl
      obtain ⟨hu2, i', hi', hs'⟩ := arrElem_some he
      rw [hu] at hu2
      cases hu2
      have := key (fun i => some (i * i'.size, i'.size)) (fun i x hx => by rw [hs']; exact hx)
      refine ⟨?_, this.2⟩
      unfold Program.built
      simp only [hinfo, hu, hzero, hi']
      exact this.1
  | _ =>
    rw [hd] at hpl
    simp only [isStruct, bel_false] at hpl
    have : arrElem P ty = none := by unfold arrElem; rw [hd]; rfl
    rw [this] at hpl; cases hpl

end Go.X
end

section
/- The reckoner: what is equal; operators. -/
namespace Go.X
open Go
variable {P : Program} {s : CallT} {o : Oper} {k : K} {tm : Env} {d : Dx} {t : Hp} {nx : Nat}

theorem gam_ptr (m : Inj) (b i : Nat) : gam m (.ptr b i) = .pointer (some ⟨m.ρ b, i, none⟩) := rfl
theorem addr_beq (r i j : Nat) : ((⟨r, i, none⟩ : Addr) == ⟨r, j, none⟩) = Nat.beq i j := by
  rw [beqN, Bool.eq_iff_iff]; simp
theorem toListBeq (la a lb b : Nat) : (toBA la a == toBA lb b) = strEq la a lb b := by rw [strEq_eq, beq_toListBytes]

set_option maxHeartbeats 4000000 in
theorem eqBy_run {ty : TypeId} {v u : V} {b : Bool} (h : eqBy P (und P ty) v u = some b) (n : Nat) (w : World) (m : Inj) :
    (Op.equalIn (n + 1) ty (gam m v) (gam m u)).run P w = .ok b w := by
  cases hd : und P ty with
  | bool =>
    rw [hd] at h
    have hu := und_some hd (by simp)
    cases v with
    | bool x =>
      cases x <;> (cases u <;> first
        | (cases h; done)
        | (rename_i y; cases y <;> (cases h; simp [Op.equalIn, run_underlying hu, gam])))
    | _ => cases h
  | int kk =>
    rw [hd] at h
    have hu := und_some hd (by simp)
    cases v <;> cases u <;> first
      | (cases h; done)
      | (rename_i j x i y
         cases hk : sameKind j i with
         | false =>
           have h' : bel (sameKind j i) (some (eqI x y)) none = some b := h
           rw [hk] at h'; cases h'
         | true =>
           have h' : bel (sameKind j i) (some (eqI x y)) none = some b := h
           rw [hk] at h'
           have := sameKind_true hk
           subst this
           cases h'
           simp [Op.equalIn, run_underlying hu, gam, eqI_eq])
  | string =>
    rw [hd] at h
    have hu := und_some hd (by simp)
    cases v <;> cases u <;> first
      | (cases h; done)
      | (cases h; simp [Op.equalIn, run_underlying hu, gam, toListBeq])
  | pointer e =>
    rw [hd] at h
    have hu := und_some hd (by simp)
    simp only [eqBy] at h
    cases hz : Nat.beq (sz P e) 0 with
    | true => rw [hz] at h; cases h
    | false =>
      rw [hz, bel_false] at h
      have hz' : sz P e ≠ 0 := fun e0 => by rw [beqN, decide_eq_true e0] at hz; cases hz
      obtain ⟨info, hi, hs⟩ := sz_pos hz'
      cases v <;> cases u <;> first
        | (cases h; done)
        | (cases h; simp [Op.equalIn, run_underlying hu, gam]; done)
        | (rename_i b1 i1 b2 i2
           have h' : bel (Nat.beq b1 b2) (some (Nat.beq i1 i2)) none = some b := h
           cases hb : Nat.beq b1 b2 with
           | false => rw [hb] at h'; cases h'
           | true =>
             rw [hb] at h'
             have := beqN_true hb
             subst this
             cases h'
             have hne : info.size ≠ 0 := by rw [hs]; exact hz'
             simp only [Op.equalIn, Sem.run_bind, run_underlying hu, Result.andThen_ok, gam, run_sizeOf' hi, ne_eq, hne, not_false_eq_true, if_true, sameAddr, beq_self_eq_true, Sem.run_pure, addr_beq])
  | slice e =>
    rw [hd] at h
    have hu := und_some hd (by simp)
    cases v <;> cases u <;> first
      | (cases h; done)
      | (cases h; simp [Op.equalIn, run_underlying hu, gam]; done)
  | map k e =>
    rw [hd] at h
    have hu := und_some hd (by simp)
    cases v <;> cases u <;> first
      | (cases h; done)
      | (cases h; simp [Op.equalIn, run_underlying hu, gam]; done)
  | func a r vv =>
    rw [hd] at h
    have hu := und_some hd (by simp)
    cases v <;> cases u <;> first
      | (cases h; done)
      | (cases h; simp [Op.equalIn, run_underlying hu, gam]; done)
  | interface ms =>
    rw [hd] at h
    have hu := und_some hd (by simp)
    cases v <;> cases u <;> first
      | (cases h; done)
      | (cases h; simp [Op.equalIn, run_underlying hu, gam]; done)
  | _ => rw [hd] at h; cases h

theorem eqBy_und {ty : TypeId} {v u : V} {b : Bool} (h : eqBy P (und P ty) v u = some b) : ∃ dd, P.underlying ty = some dd ∧ dd = und P ty := by
  refine ⟨_, und_some rfl ?_, rfl⟩
  intro e
  rw [e] at h
  cases h

theorem part_one {ty : TypeId} {dd : TypeDesc} (hd : P.underlying ty = some dd) (ha : isAggB dd = false) {xs : Array Value} {off : Nat} {v : Value} (hx : xs[off]? = some v) (w : World) :
    (part ty xs off).run P w = .ok v w := by
  unfold part
  simp [isAgg_run hd, ha, hx]
theorem drop_get {α : Type} {L l : List α} {v : α} {i : Nat} (h : L.drop i = v :: l) : L[i]? = some v ∧ L.drop (i + 1) = l := by
  constructor
  · have : (L.drop i)[0]? = some v := by rw [h]; rfl
    simpa using this
  · rw [← List.drop_drop, h]; rfl
theorem gamL_arr {m : Inj} {L : List V} {i : Nat} {v : V} (h : L[i]? = some v) : (gamL m L).toArray[i]? = some (gam m v) := by
  simp [gamL_get, h]

theorem eqFields_run (n : Nat) (m : Inj) (L U : List V) (w : World) : ∀ (fs : List Field) (i : Nat) (l u : List V) (b : Bool), L.drop i = l → U.drop i = u → eqFields P fs i l u = some b →
    (Op.eqFields (n + 1) (gamL m L).toArray (gamL m U).toArray fs).run P w = .ok b w
  | [], i, l, u, b, _, _, h => by
    cases l <;> cases u <;> (cases h; simp [Op.eqFields])
  | f :: fs, i, [], u, b, _, _, h => by cases u <;> cases h
  | f :: fs, i, v :: l, [], b, _, _, h => by cases h
  | f :: fs, i, v :: l, x :: u, b, hl, hu, h => by
    have h : bel (andB (Nat.beq f.offset i) (andB (Nat.beq (sz P f.type) 1) (notB (aggB P f.type))))
      (bel (decide (f.name = "_")) (eqFields P fs (Nat.succ i) l u) (oel (eqBy P (und P f.type) v x) (fun b => bel b (eqFields P fs (Nat.succ i) l u) (some false)) none)) none = some b := h
    cases hc : andB (Nat.beq f.offset i) (andB (Nat.beq (sz P f.type) 1) (notB (aggB P f.type))) with
    | false => rw [hc] at h; cases h
    | true =>
      rw [hc, bel_true] at h
      simp only [andB_eq, Bool.and_eq_true, notB_eq, Bool.not_eq_true'] at hc
      obtain ⟨h1, _, h3⟩ := hc
      have hoff := beqN_true h1
      subst hoff
      obtain ⟨hlv, hl'⟩ := drop_get hl
      obtain ⟨hux, hu'⟩ := drop_get hu
      simp only [Op.eqFields]
      by_cases hn : f.name = "_"
      · rw [decide_eq_true hn, bel_true] at h
        rw [if_neg (by simpa using hn)]
        exact eqFields_run n m L U w fs _ l u b hl' hu' h
      · rw [decide_eq_false hn, bel_false] at h
        rw [if_pos (by simpa using hn)]
        cases hb : eqBy P (und P f.type) v x with
        | none => rw [hb] at h; cases h
        | some q =>
          rw [hb] at h
          simp only [oel_some] at h
          obtain ⟨dd, hd, rfl⟩ := eqBy_und hb
          have hr := eqBy_run hb n w m
          have p1 := part_one hd h3 (gamL_arr (m := m) hlv) w
          have p2 := part_one hd h3 (gamL_arr (m := m) hux) w
          simp only [Sem.run_bind, p1, p2, hr, Result.andThen_ok]
          cases q with
          | false => cases h; simp
          | true => simp only [bel_true] at h; simp only [Bool.not_true, Bool.false_eq_true, if_false]; exact eqFields_run n m L U w fs _ l u b hl' hu' h

theorem eqElems_run (n : Nat) (m : Inj) (L U : List V) (w : World) (e : TypeId) (hag : aggB P e = false) (hsz : P.cellsOf e = 1) : ∀ (c i : Nat) (l u : List V) (b : Bool), L.drop i = l → U.drop i = u → eqElems P (und P e) c l u = some b →
    (Op.eqItems (n + 1) e (P.cellsOf e) (gamL m L).toArray (gamL m U).toArray (List.range' i c)).run P w = .ok b w
  | 0, i, l, u, b, _, _, h => by
    cases l <;> cases u <;> (cases h; simp [Op.eqItems])
  | c + 1, i, [], u, b, _, _, h => by cases u <;> cases h
  | c + 1, i, v :: l, [], b, _, _, h => by cases h
  | c + 1, i, v :: l, x :: u, b, hl, hu, h => by
    have h : oel (eqBy P (und P e) v x) (fun b => bel b (eqElems P (und P e) c l u) (some false)) none = some b := h
    obtain ⟨hlv, hl'⟩ := drop_get hl
    obtain ⟨hux, hu'⟩ := drop_get hu
    cases hb : eqBy P (und P e) v x with
    | none => rw [hb] at h; cases h
    | some q =>
      rw [hb] at h
      simp only [oel_some] at h
      obtain ⟨dd, hd, rfl⟩ := eqBy_und hb
      have hr := eqBy_run hb n w m
      have p1 := part_one hd hag (gamL_arr (m := m) hlv) w
      have p2 := part_one hd hag (gamL_arr (m := m) hux) w
      rw [List.range'_succ]
      simp only [Op.eqItems, hsz, Nat.mul_one, Sem.run_bind, p1, p2, hr, Result.andThen_ok]
      cases q with
      | false => cases h; simp
      | true =>
        simp only [bel_true] at h
        simp only [Bool.not_true, Bool.false_eq_true, if_false]
        have := eqElems_run n m L U w e hag hsz c (i + 1) l u b hl' hu' h
        rw [hsz] at this
        exact this

theorem isStruct_eq {dd : TypeDesc} (h : isStruct dd = true) : ∃ fs, dd = .struct fs := by cases dd <;> first | (cases h; done) | exact ⟨_, rfl⟩
/-- '==' by a type. -/
theorem eqT_run {ty : TypeId} {v u : V} {b : Bool} (h : eqT P ty v u = some b) (n : Nat) (w : World) (m : Inj) :
    (Op.equalIn (n + 2) ty (gam m v) (gam m u)).run P w = .ok b w := by
  unfold eqT at h
  cases hst : isStruct (und P ty) with
  | true =>
    rw [hst, bel_true] at h
    obtain ⟨fs, hfs⟩ := isStruct_eq hst
    have hu := und_some hfs (by simp)
    cases hp : plainStruct P ty with
    | false => rw [hp] at h; cases h
    | true =>
      rw [hp, bel_true] at h
      unfold plainStruct at hp
      simp only [andB_eq, Bool.and_eq_true, notB_eq, Bool.not_eq_true'] at hp
      cases v <;> cases u <;> first
        | (cases h; done)
        | (rename_i L U
           simp only [onAgg_agg, hfs, fieldsOf] at h
           have hf : P.fieldsOf ty = fs := by unfold Program.fieldsOf; rw [hu]
           rw [show gam m (.agg L) = .agg (gamL m L).toArray from rfl, show gam m (.agg U) = .agg (gamL m U).toArray from rfl,
             run_equalIn_struct w (n + 1) ty _ _ (by rw [hf]; exact hu) hp.2.1, hf]
           exact eqFields_run n m L U w fs.toList 0 L U b rfl rfl h)
  | false =>
    rw [hst, bel_false] at h
    cases hd : und P ty with
    | array c e =>
      rw [hd] at h
      simp only [elemOfArr, oel_some] at h
      unfold eqArr at h
      have hu := und_some hd (by simp)
      cases hc : andB (Nat.beq (sz P e) 1) (andB (notB (aggB P e)) (notB (P.eqGuardType P.depth ty))) with
      | false => rw [hc] at h; cases h
      | true =>
        rw [hc, bel_true] at h
        simp only [andB_eq, Bool.and_eq_true, notB_eq, Bool.not_eq_true'] at hc
        have h1 := beqN_true hc.1
        obtain ⟨info, hi, hs⟩ := sz_pos (P := P) (t := e) (by omega)
        have hcell : P.cellsOf e = 1 := by simp [Program.cellsOf, hi]; omega
        cases v <;> cases u <;> first
          | (cases h; done)
          | (rename_i L U
             simp only [onAgg_agg] at h
             rw [show gam m (.agg L) = .agg (gamL m L).toArray from rfl, show gam m (.agg U) = .agg (gamL m U).toArray from rfl,
               run_equalIn_array w (n + 1) _ _ hu hi, List.range_eq_range']
             exact eqElems_run n m L U w e hc.2.1 hcell c 0 L U b rfl rfl h)
    | _ =>
      rw [hd] at h
      simp only [elemOfArr, oel_none] at h
      rw [← hd] at h
      exact eqBy_run h (n + 1) w m
end Go.X
end

section
/- The reckoner: operators on two values. -/
namespace Go.X
open Go
variable {P : Program} {s : CallT} {o : Oper} {k : K} {tm : Env} {d : Dx} {t : Hp} {nx : Nat}

/-- What an operator yields. -/
def OpOK (P : Program) (op : BinOp) (a b : Value) (r : V) : Prop := (∀ (m : Inj) (S : Nat → Prop), okV m S r) ∧ ∀ (m : Inj) (w : World) (xt : TypeId), (binOp op xt a b).run P w = .ok (gam m r) w

theorem land_wrap {kk : IntKind} {x y : Nat} (hx : x < 2 ^ kk.bits) (hy : y < 2 ^ kk.bits) : kk.wrap ((BitVec.ofInt kk.bits (Int.ofNat x) &&& BitVec.ofInt kk.bits (Int.ofNat y)).toNat : Int) = wrapV kk (.ofNat (Nat.land x y)) := by
  rw [land_bits hx hy, wrapV_eq]; rfl

theorem kind_same {op : BinOp} {j i : IntKind} (h : kindOk op j i = true) (hs : isShift op = false) : j = i := by
  unfold kindOk at h
  rw [hs] at h
  exact sameKind_true h

theorem biBits_ok {op : BinOp} {f : (k : IntKind) → BitVec k.bits → BitVec k.bits → BitVec k.bits} {kk : IntKind} {a b : Int}
    (hf : Op.intBits op kk a b = pure (.int kk (kk.wrap (f kk (BitVec.ofInt kk.bits a) (BitVec.ofInt kk.bits b)).toNat)))
    (hb : ∀ xt, binOp op xt (.int kk a) (.int kk b) = Op.intBits op kk a b) :
    OpOK P op (.int kk a) (.int kk b) (.int kk (kk.wrap (f kk (BitVec.ofInt kk.bits a) (BitVec.ofInt kk.bits b)).toNat)) :=
  ⟨fun _ _ => trivial, fun m w xt => by rw [hb, hf]; rfl⟩

theorem biOp_ok {op : BinOp} {j i : IntKind} {a b : Int} {c : V → R} (hk : kindOk op j i = true) (h : biOp op j a b c .fail ≠ .fail) :
    ∃ r, biOp op j a b c .fail = c r ∧ OpOK P op (.int j a) (.int i b) r := by
  cases op with
  | add =>
    have := kind_same hk rfl; subst this
    exact ⟨_, rfl, fun _ _ => trivial, fun m w xt => by simp [binOp, Op.intArith, gam, wrapV_eq, addI_eq]⟩
  | sub =>
    have := kind_same hk rfl; subst this
    exact ⟨_, rfl, fun _ _ => trivial, fun m w xt => by simp [binOp, Op.intArith, gam, wrapV_eq, subI_eq]⟩
  | mul =>
    have := kind_same hk rfl; subst this
    exact ⟨_, rfl, fun _ _ => trivial, fun m w xt => by simp [binOp, Op.intArith, gam, wrapV_eq]⟩
  | quo =>
    have := kind_same hk rfl; subst this
    have h' : bel (eqI b 0) .fail (c (.int j (wrapV j (Int.tdiv a b)))) ≠ .fail := h
    obtain ⟨hz, e⟩ := bel_fail' h'
    rw [eqI_eq] at hz
    have hne : ¬ b = 0 := by simpa using hz
    exact ⟨_, e, fun _ _ => trivial, fun m w xt => by simp [binOp, Op.intDiv, gam, wrapV_eq, hne]⟩
  | rem =>
    have := kind_same hk rfl; subst this
    have h' : bel (eqI b 0) .fail (c (.int j (Int.tmod a b))) ≠ .fail := h
    obtain ⟨hz, e⟩ := bel_fail' h'
    rw [eqI_eq] at hz
    have hne : ¬ b = 0 := by simpa using hz
    exact ⟨_, e, fun _ _ => trivial, fun m w xt => by simp [binOp, Op.intDiv, gam, hne]⟩
  | and =>
    have := kind_same hk rfl; subst this
    have gen : ∀ a b, OpOK P .and (.int j a) (.int j b) (.int j (j.wrap ((BitVec.ofInt j.bits a) &&& (BitVec.ofInt j.bits b)).toNat)) := fun a b =>
      ⟨fun _ _ => trivial, fun m w xt => by simp [binOp, Op.intBits, gam]⟩
    cases a with
    | ofNat x => cases b with
      | ofNat y =>
        have h' : bel (Nat.ble (Nat.succ x) (Nat.pow 2 j.bits)) (bel (Nat.ble (Nat.succ y) (Nat.pow 2 j.bits)) (c (.int j (wrapV j (.ofNat (Nat.land x y))))) .fail) .fail ≠ .fail := h
        obtain ⟨h1, e1⟩ := bel_fail h'
        rw [e1] at h'
        obtain ⟨h2, e2⟩ := bel_fail h'
        refine ⟨_, e1.trans e2, fun _ _ => trivial, fun m w xt => ?_⟩
        rw [(gen _ _).2 m w xt, land_wrap (Nat.le_of_ble_eq_true h1) (Nat.le_of_ble_eq_true h2)]
      | negSucc y => exact ⟨_, rfl, gen _ _⟩
    | negSucc x => exact ⟨_, rfl, gen _ _⟩
  | or =>
    have := kind_same hk rfl; subst this
    exact ⟨_, rfl, fun _ _ => trivial, fun m w xt => by simp [binOp, Op.intBits, gam]⟩
  | xor =>
    have := kind_same hk rfl; subst this
    exact ⟨_, rfl, fun _ _ => trivial, fun m w xt => by simp [binOp, Op.intBits, gam]⟩
  | andNot =>
    have := kind_same hk rfl; subst this
    exact ⟨_, rfl, fun _ _ => trivial, fun m w xt => by simp [binOp, Op.intBits, gam]⟩
  | shl =>
    cases b with
    | negSucc y => exact absurd rfl h
    | ofNat y =>
      refine ⟨.int j (wrapV j (Int.mul a (.ofNat (Nat.pow 2 (min y j.bits))))), rfl, fun _ _ => trivial, fun m w xt => ?_⟩
      have hn : ¬ (Int.ofNat y) < 0 := by simp
      have e : Int.mul a (.ofNat (Nat.pow 2 (min y j.bits))) = a * 2 ^ (min y j.bits) := by
        show a * ((2 ^ (min y j.bits) : Nat) : Int) = _
        rw [Int.natCast_pow]; rfl
      simp only [binOp, Op.shift, if_neg hn, Sem.run_pure, gam, wrapV_eq, e]
      rfl
  | shr =>
    cases b with
    | negSucc y => exact absurd rfl h
    | ofNat y =>
      have hn : ¬ (Int.ofNat y) < 0 := by simp
      cases a with
      | ofNat x =>
        refine ⟨.int j (.ofNat (Nat.shiftRight x (min y j.bits))), rfl, fun _ _ => trivial, fun m w xt => ?_⟩
        have e : Int.fdiv (Int.ofNat x) (2 ^ (min y j.bits)) = Int.ofNat (Nat.shiftRight x (min y j.bits)) := by
          show Int.fdiv (x : Int) (2 ^ (min y j.bits)) = ((x >>> (min y j.bits) : Nat) : Int)
          rw [Nat.shiftRight_eq_div_pow, Int.natCast_ediv, Int.fdiv_eq_ediv_of_nonneg _ (Int.le_of_lt (Int.pow_pos (by decide))), Int.natCast_pow]
          rfl
        rw [← e]
        simp only [binOp, Op.shift, if_neg hn, Sem.run_pure, gam]
        rfl
      | negSucc x =>
        refine ⟨.int j (Int.fdiv (.negSucc x) (.ofNat (Nat.pow 2 (min y j.bits)))), rfl, fun _ _ => trivial, fun m w xt => ?_⟩
        have e : (Int.ofNat (Nat.pow 2 (min y j.bits))) = (2 : Int) ^ (min y j.bits) := by
          show ((2 ^ (min y j.bits) : Nat) : Int) = _
          rw [Int.natCast_pow]; rfl
        simp only [binOp, Op.shift, if_neg hn, Sem.run_pure, gam, e]
        rfl
  | eql =>
    have := kind_same hk rfl; subst this
    exact ⟨_, rfl, fun _ _ => trivial, fun m w xt => by simp [binOp, Op.intCmp, gam, eqI_eq]⟩
  | neq =>
    have := kind_same hk rfl; subst this
    exact ⟨_, rfl, fun _ _ => trivial, fun m w xt => by simp [binOp, Op.intCmp, gam, eqI_eq, bne]⟩
  | lss =>
    have := kind_same hk rfl; subst this
    exact ⟨_, rfl, fun _ _ => trivial, fun m w xt => by simp [binOp, Op.intCmp, gam, leI_eq, ← Int.not_le]⟩
  | leq =>
    have := kind_same hk rfl; subst this
    exact ⟨_, rfl, fun _ _ => trivial, fun m w xt => by simp [binOp, Op.intCmp, gam, leI_eq]⟩
  | gtr =>
    have := kind_same hk rfl; subst this
    exact ⟨_, rfl, fun _ _ => trivial, fun m w xt => by simp [binOp, Op.intCmp, gam, leI_eq, ← Int.not_le]⟩
  | geq =>
    have := kind_same hk rfl; subst this
    exact ⟨_, rfl, fun _ _ => trivial, fun m w xt => by simp [binOp, Op.intCmp, gam, leI_eq]⟩

theorem bsOp_ok {op : BinOp} {la a lb b : Nat} {c : V → R} (h : bsOp op la a lb b c .fail ≠ .fail) :
    ∃ r, bsOp op la a lb b c .fail = c r ∧ OpOK P op (.string (toBA la a)) (.string (toBA lb b)) r := by
  cases op with
  | add =>
    have h' : bel (Nat.ble (Nat.add la lb) 9223372036854775807) (c (.str (Nat.add la lb) (Nat.add (Nat.mod a (Nat.pow 2 (Nat.mul 8 la))) (Nat.shiftLeft b (Nat.mul 8 la))))) .fail ≠ .fail := h
    obtain ⟨h1, e⟩ := bel_fail h'
    have h2 : la + lb ≤ 9223372036854775807 := bleN_true h1
    refine ⟨_, e, fun _ _ => trivial, fun m w xt => ?_⟩
    have hm : ¬ (((toBA la a).size + (toBA lb b).size : Nat) : Int) > IntKind.i64.max := by
      have hmax : IntKind.i64.max = 9223372036854775807 := by decide
      rw [hmax, toBA_size, toBA_size]; omega
    simp only [binOp, Op.stringOp, if_neg hm, Sem.run_pure, gam, toBA_append]
    rfl
  | eql => exact ⟨_, rfl, fun _ _ => trivial, fun m w xt => by simp [binOp, Op.stringOp, gam, strEq_eq]⟩
  | neq => exact ⟨_, rfl, fun _ _ => trivial, fun m w xt => by simp [binOp, Op.stringOp, gam, strEq_eq]⟩
  | lss => exact ⟨_, rfl, fun _ _ => trivial, fun m w xt => by simp [binOp, Op.stringOp, gam, strLt_eq, toBA_data]⟩
  | geq => exact ⟨_, rfl, fun _ _ => trivial, fun m w xt => by simp [binOp, Op.stringOp, gam, strLt_eq, toBA_data]⟩
  | _ => exact absurd rfl h

theorem eqGuard_int (op : BinOp) (ty : TypeId) (x y : Operand) (j i : IntKind) (a b : Int) (w : World) : (eqGuard op ty x y (.int j a) (.int i b)).run P w = .ok () w := by
  cases op <;> simp [eqGuard]
theorem eqGuard_str (op : BinOp) (ty : TypeId) (x y : Operand) (a b : ByteArray) (w : World) : (eqGuard op ty x y (.string a) (.string b)).run P w = .ok () w := by
  cases op <;> simp [eqGuard]

theorem eqGuard_any (op : BinOp) (ty : TypeId) (x y : Operand) (a b : Value) (w : World) (h1 : ¬ (a = .nilIface ∧ b = .nilIface)) (h2 : ∀ l m, ¬ (a = .agg l ∧ b = .agg m)) : (eqGuard op ty x y a b).run P w = .ok () w := by
  unfold eqGuard
  simp only [Sem.run_ite, Sem.run_pure]
  rw [ite_eq_left_iff]
  intro _
  split
  · exact absurd ⟨rfl, rfl⟩ h1
  · exact absurd ⟨rfl, rfl⟩ (h2 _ _)
  · rfl
theorem gam_nili {m : Inj} {v : V} (h : gam m v = .nilIface) : v = .nili := by cases v <;> first | rfl | cases h
theorem gam_agg {m : Inj} {v : V} {l : Array Value} (h : gam m v = .agg l) : ∃ L, v = .agg L := by cases v <;> first | exact ⟨_, rfl⟩ | cases h

theorem isConst_eq {x : Operand} (h : isConst x = true) : ∃ c, x = .const c := by cases x <;> first | (cases h; done) | exact ⟨_, rfl⟩

theorem nil_equal {ty : TypeId} {ms : Array (String × TypeId)} (hu : P.underlying ty = some (.interface ms)) (n : Nat) (w : World) : (Op.equalIn (n + 1) ty .nilIface .nilIface).run P w = .ok true w := by
  simp [Op.equalIn, run_underlying hu]

/-- The guard, and '==', at what the reckoner can tell. -/
theorem eqX_run {ty : TypeId} {x y : Operand} {v u : V} {b : Bool} (h : eqX P ty x y v u = some b) (op : BinOp) (w : World) (m : Inj) :
    (eqGuard op ty x y (gam m v) (gam m u)).run P w = .ok () w ∧ (Op.equal ty (gam m v) (gam m u)).run P w = .ok b w := by
  unfold eqX at h
  cases hnn : nilNil P ty x y v u with
  | some q =>
    rw [hnn] at h
    cases h
    unfold nilNil at hnn
    split at hnn
    · cases hi : isIface (und P ty) with
      | false => rw [hi] at hnn; cases hnn
      | true =>
        rw [hi, bel_true] at hnn
        have hif : ∃ ms, und P ty = .interface ms := by
          cases hd : und P ty <;> rw [hd] at hi <;> first | (cases hi; done) | exact ⟨_, rfl⟩
        obtain ⟨ms, hms⟩ := hif
        have hu := und_some hms (by simp)
        have hc : (∃ c, x = .const c) ∨ ∃ c, y = .const c := by
          cases hx : isConst x with
          | true => exact .inl (isConst_eq hx)
          | false =>
            rw [hx, bel_false] at hnn
            cases hy : isConst y with
            | true => exact .inr (isConst_eq hy)
            | false => rw [hy] at hnn; cases hnn
        have hb : b = true := by
          cases hx : isConst x with
          | true => rw [hx] at hnn; exact (Option.some.inj hnn).symm
          | false =>
            rw [hx, bel_false] at hnn
            cases hy : isConst y with
            | true => rw [hy] at hnn; exact (Option.some.inj hnn).symm
            | false => rw [hy] at hnn; cases hnn
        subst hb
        constructor
        · rcases hc with ⟨c, rfl⟩ | ⟨c, rfl⟩ <;> cases op <;> simp [eqGuard, gam]
        · exact nil_equal hu 9999 w
    · cases hnn
  | none =>
    rw [hnn, oel_none] at h
    refine ⟨?_, eqT_run h 9998 w m⟩
    -- the guard: at structs and arrays the type says it
    have hag : ∀ L U, v = .agg L → u = .agg U → P.eqGuardType P.depth ty = false := by
      intro L U hv hu'
      subst hv; subst hu'
      unfold eqT at h
      cases hst : isStruct (und P ty) with
      | true =>
        rw [hst, bel_true] at h
        cases hp : plainStruct P ty with
        | false => rw [hp] at h; cases h
        | true =>
          unfold plainStruct at hp
          simp only [andB_eq, Bool.and_eq_true, notB_eq, Bool.not_eq_true'] at hp
          exact hp.2.2
      | false =>
        rw [hst, bel_false] at h
        cases hd : und P ty with
        | array c e =>
          rw [hd] at h
          simp only [elemOfArr, oel_some] at h
          unfold eqArr at h
          cases hc : andB (Nat.beq (sz P e) 1) (andB (notB (aggB P e)) (notB (P.eqGuardType P.depth ty))) with
          | false => rw [hc] at h; cases h
          | true =>
            simp only [andB_eq, Bool.and_eq_true, notB_eq, Bool.not_eq_true'] at hc
            exact hc.2.2
        | pointer e =>
          rw [hd] at h
          have h' : bel (Nat.beq (sz P e) 0) none none = some b := h
          cases hz : Nat.beq (sz P e) 0 <;> rw [hz] at h' <;> cases h'
        | _ => rw [hd] at h; cases h
    have hni : ¬ (v = .nili ∧ u = .nili) := by
      rintro ⟨rfl, rfl⟩
      unfold eqT at h
      cases hst : isStruct (und P ty) with
      | true => rw [hst, bel_true] at h; cases hp : plainStruct P ty <;> rw [hp] at h <;> cases h
      | false =>
        rw [hst, bel_false] at h
        cases hd : und P ty with
        | array c e =>
          rw [hd] at h
          simp only [elemOfArr, oel_some] at h
          unfold eqArr at h
          cases hc : andB (Nat.beq (sz P e) 1) (andB (notB (aggB P e)) (notB (P.eqGuardType P.depth ty))) <;> rw [hc] at h <;> cases h
        | pointer e =>
          rw [hd] at h
          have h' : bel (Nat.beq (sz P e) 0) none none = some b := h
          cases hz : Nat.beq (sz P e) 0 <;> rw [hz] at h' <;> cases h'
        | _ => rw [hd] at h; cases h
    by_cases hA : ∃ L U, v = .agg L ∧ u = .agg U
    · obtain ⟨L, U, rfl, rfl⟩ := hA
      exact run_eqGuard_agg w op ty x y _ _ (hag _ _ rfl rfl)
    · refine eqGuard_any op ty x y _ _ w ?_ ?_
      · rintro ⟨h1, h2⟩
        exact hni ⟨gam_nili h1, gam_nili h2⟩
      · rintro l m' ⟨h1, h2⟩
        obtain ⟨L, hL⟩ := gam_agg h1
        obtain ⟨U, hU⟩ := gam_agg h2
        exact hA ⟨L, U, hL, hU⟩

set_option maxHeartbeats 1000000 in
theorem doBin_ok {op : BinOp} {ty yt : TypeId} {x y : Operand} (ho : o.op = .binOp op ty x y yt) (h : doBin op ty x y yt P s o k tm d t nx ≠ .fail) :
    ∃ v, PureOK P o tm v ∧ doBin op ty x y yt P s o k tm d t nx = done o v k tm d t nx := by
  unfold doBin at h ⊢
  (obtain ⟨v, hv, eqzz⟩ := ev_fail h; rw [eqzz] at h ⊢; clear eqzz; try dsimp only at h ⊢)
  (obtain ⟨u, hu, eqzz⟩ := ev_fail h; rw [eqzz] at h ⊢; clear eqzz; try dsimp only at h ⊢)
  -- whatever is left: it is told by eqX
  have other : (∀ m j n, gam m v ≠ .int j n) → (∀ m a, gam m v ≠ .string a) → bgOp op P ty x y v u (fun r => done o r k tm d t nx) ≠ .fail →
      ∃ r, PureOK P o tm r ∧ bgOp op P ty x y v u (fun r => done o r k tm d t nx) = done o r k tm d t nx := fun n1 n2 h => by
    cases op with
    | eql =>
      have h' : oel (eqX P ty x y v u) (fun b => done o (.bool b) k tm d t nx) .fail ≠ .fail := h
      obtain ⟨b, hb, e⟩ := oel_fail h'
      refine ⟨.bool b, fun m S w ρ hr => ?_, e⟩
      have hx := hr x (by simp [ho, Op.operands]) _ hv
      have hy := hr y (by simp [ho, Op.operands]) _ hu
      obtain ⟨r1, r2⟩ := eqX_run hb .eql w m
      refine ⟨?_, trivial⟩
      have hbin : (binOp .eql ty (gam m v) (gam m u)).run P w = .ok (.bool b) w := by
        have e : (binOp .eql ty (gam m v) (gam m u)).run P w = (do pure (Value.bool (← Op.equal ty (gam m v) (gam m u))) : Sem Value).run P w := by
          have q2 := n2 m
          cases v <;> first | exact absurd rfl (q2 _) | exact absurd rfl (n1 m _ _) | rfl
        rw [e]
        simp [r2]
      simp [execOp, ho, hx.1, hy.1, r1, hbin, gam]
    | neq =>
      have h' : oel (eqX P ty x y v u) (fun b => done o (.bool (notB b)) k tm d t nx) .fail ≠ .fail := h
      obtain ⟨b, hb, e⟩ := oel_fail h'
      refine ⟨.bool (notB b), fun m S w ρ hr => ?_, e⟩
      have hx := hr x (by simp [ho, Op.operands]) _ hv
      have hy := hr y (by simp [ho, Op.operands]) _ hu
      obtain ⟨r1, r2⟩ := eqX_run hb .neq w m
      refine ⟨?_, trivial⟩
      have hbin : (binOp .neq ty (gam m v) (gam m u)).run P w = .ok (.bool (!b)) w := by
        have e : (binOp .neq ty (gam m v) (gam m u)).run P w = (do pure (Value.bool (!(← Op.equal ty (gam m v) (gam m u)))) : Sem Value).run P w := by
          have q2 := n2 m
          cases v <;> first | exact absurd rfl (q2 _) | exact absurd rfl (n1 m _ _) | rfl
        rw [e]
        simp [r2]
      simp [execOp, ho, hx.1, hy.1, r1, hbin, gam]
    | _ => exact absurd rfl h
  unfold binAll at h ⊢
  cases v with
  | int j a =>
    simp only [onInt_int] at h ⊢
    obtain ⟨i, b, rfl⟩ := onInt_fail h
    simp only [onInt_int] at h ⊢
    (obtain ⟨hk, eqzz⟩ := bel_fail h; rw [eqzz] at h ⊢; clear eqzz)
    obtain ⟨r, e, hok⟩ := biOp_ok (P := P) hk h
    rw [e]
    refine ⟨r, fun m S w ρ hr => ?_, rfl⟩
    have hx := hr x (by simp [ho, Op.operands]) _ hv
    have hy := hr y (by simp [ho, Op.operands]) _ hu
    refine ⟨?_, hok.1 m S⟩
    have hb := hok.2 m w ty
    simp only [execOp, ho, hx.1, hy.1, gam_int, Sem.run_bind, eqGuard_int, Result.andThen_ok, hb, Sem.run_pure]
  | str la a =>
    simp only [onInt_str, onStr_str] at h ⊢
    obtain ⟨lb, b, rfl⟩ := onStr_fail h
    simp only [onStr_str] at h ⊢
    obtain ⟨r, e, hok⟩ := bsOp_ok (P := P) h
    rw [e]
    refine ⟨r, fun m S w ρ hr => ?_, rfl⟩
    have hx := hr x (by simp [ho, Op.operands]) _ hv
    have hy := hr y (by simp [ho, Op.operands]) _ hu
    refine ⟨?_, hok.1 m S⟩
    have hb := hok.2 m w ty
    simp only [execOp, ho, hx.1, hy.1, gam, Sem.run_bind, eqGuard_str, Result.andThen_ok, hb, Sem.run_pure]
  | _ => exact other (fun m j n => by simp [gam]) (fun m a => by simp [gam]) h
end Go.X
end
