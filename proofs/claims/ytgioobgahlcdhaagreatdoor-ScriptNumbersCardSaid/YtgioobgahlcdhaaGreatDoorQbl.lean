/- ScriptNumbers: any digits as a quota, as a handle, as a value, are answered as the reference says. The card, tied: the listed variables hold what the program's text lays. -/
import Derived.Test.YtgioobgahlcdhaaGreatDoorTie
import Derived.Test.YtgioobgahlcdhaaGreatDoorCards
import Derived.OpenVars
import Derived.Lay
import Derived.SevenTiedAt
import Derived.Test.YtgioobgahlcdhaaGreatDoorQbj
import Derived.Test.YtgioobgahlcdhaaGreatDoorQbe
import Derived.Test.YtgioobgahlcdhaaGreatDoorQau
import Derived.Test.YtgioobgahlcdhaaGreatDoorQbf
import Derived.Test.YtgioobgahlcdhaaGreatDoorQbk
import Derived.Test.YtgioobgahlcdhaaGreatDoorQak

set_option linter.unusedVariables false
set_option linter.unusedSimpArgs false

section
/- ScriptNumbers: any digits as a quota, as a handle, as a value, are answered as the reference says. The card, tied: the listed variables hold what the program's text lays. -/
namespace Go.Proofs.YtgioobgahlcdhaaGreatDoor
open Go.RowKit Go.Shelf Go.Sort Go.Lib Go.ChangeShapes Go.WideShapes Go.ChangeAt
open Go.ChangeMaps (open_string shut_string)

theorem own : ownKnob Tryz.prog.godebug = none := by kernel_rfl
theorem awake_any (W : World) (hsh : W.ShapedOpen Tryz.prog) {ps : List MemPlace} (hL : DataW.LaidVars Tryz.prog W Rows.scriptNumbersRow.laid ps) :
    Calls Tryz.prog 5 #[] W fun e w' => e = .returned (.bool true) ∧ Later W w' := by
  obtain ⟨m, hr⟩ := Go.X.rel_laid hsh hL
  have h := Go.X.says21 m W _ (by decide) hr
  have hF := Go.X.laid_full hsh m
  rcases h with ⟨_, h⟩ | ⟨v, w', h1, _⟩
  · exact h.mono fun e w' ⟨he, hg⟩ => ⟨he, Go.X.laid_later hr hF hg⟩
  · rw [Go.X.enters_run Tryz.func5 (by kernel_rfl) rfl _ W] at h1
    cases h1
theorem reads (W : World) {ps : List MemPlace} (hL : DataW.LaidVars Tryz.prog W Rows.scriptNumbersRow.laid ps) : Read W ∧ Lib.VarReads Tryz.prog W "paling/script.forms" Rows.laid_paling_script_forms ∧ Lib.VarReads Tryz.prog W "paling/palinglaw21.forms" Rows.laid_paling_palinglaw21_forms := by
  have h := fun n d hm => Lib.LaidVars_reads hL n d hm
  exact ⟨⟨h _ _ (by simp [Rows.scriptNumbersRow]), h _ _ (by simp [Rows.scriptNumbersRow]), h _ _ (by simp [Rows.scriptNumbersRow]), h _ _ (by simp [Rows.scriptNumbersRow]), h _ _ (by simp [Rows.scriptNumbersRow]), h _ _ (by simp [Rows.scriptNumbersRow]), h _ _ (by simp [Rows.scriptNumbersRow])⟩, h _ _ (by simp [Rows.scriptNumbersRow]), h _ _ (by simp [Rows.scriptNumbersRow])⟩
set_option maxRecDepth 100000 in
theorem lifted (os : Os) (started : os.Started) (H : Type) (enc : TypeId × Value → H) :
    ReturnsInHanded {} Tryz.checked os 4 .any (fun w args => (Rows.scriptNumbersSpec.pre enc Tryz.prog Tryz.f4 [] false w args ∧ laidMetH Tryz.prog Rows.scriptNumbersRow.laid w) ∧ sizedMet enc Tryz.prog Tryz.f4 (OpenSpec.ofChange Rows.scriptNumbersSpec) false w args)
      (Rows.scriptNumbersSpec.post enc Tryz.prog Tryz.f4 false true false false) := by
  refine Go.X.row_lifted (C := Tryz.checked) (X := fun w _ => laidMetH Tryz.prog Rows.scriptNumbersRow.laid w) (fun _ _ _ hh h => h.of_heap hh) own started (by kernel_rfl) Tryz.func4
    (ChangeSpec.witness_shaped (enc := enc) (C := Tryz.checked) (os := os) (X := fun w _ => laidMetH Tryz.prog Rows.scriptNumbersRow.laid w) false (wit os) #[.int .u64 0, .int .u8 0, .bool false] 8 (wit_os os)
      (World.shaped_of_ZipB (wit_zip os _) (wit_rest os _)) (by as_aux_lemma => kernel_rfl) (by as_aux_lemma => kernel_rfl) (by as_aux_lemma => kernel_rfl)
      (by rw [MakeChecks.laidMetH_plain _ _ _ (by as_aux_lemma => kernel_rfl)]; exact wit_met os _)) ?_
  intro W base args ds gs before hval0 hW _ _ hL hsh
  have hval : ∀ (j : Nat) t v, Tryz.f4.params[j]? = some t → args[j]? = some v → Value.okWide Tryz.prog W .any base t v := hval0
  have hW' := hW
  obtain ⟨p, q, hA0, hV, rfl, _, _⟩ := hW
  have hA : DataW.TrodAll enc Tryz.prog W 0 (fun _ => true) true Tryz.f4.params.toList args.toList ds p := hA0
  rw [Tryz.params4] at hA hval
  obtain ⟨v0, v1, v2, d0, d1, d2, p0, p1, p2, rfl, rfl, rfl, h0, h1, h2⟩ := trodAll_three hA
  obtain ⟨rfl, rfl⟩ := trodVars_none hV
  obtain ⟨n0, rfl, rfl, rfl, wn⟩ := open_int Tryz.underlying30 (hval 0 30 v0 rfl rfl) h0
  obtain ⟨z, rfl, rfl, rfl, wz⟩ := open_int Tryz.underlying5 (hval 1 5 v1 rfl rfl) h1
  obtain ⟨m, rfl, rfl, rfl⟩ := open_bool Tryz.underlying4 (hval 2 4 v2 rfl rfl) h2
  have hn : 0 ≤ n0 ∧ n0 ≤ 18446744073709551615 := by simpa [Lit.wf, IntKind.min, IntKind.max, IntKind.signed, IntKind.bits] using wn
  have hz : 0 ≤ z ∧ z ≤ 255 := by simpa [Lit.wf, IntKind.min, IntKind.max, IntKind.signed, IntKind.bits] using wz
  obtain ⟨n, rfl⟩ := Int.eq_ofNat_of_zero_le hn.1
  simp only [List.append_nil] at hW'
  rw [MakeChecks.laidMetH_plain _ _ _ (by kernel_rfl)] at hL
  obtain ⟨ps, hLV, _, _⟩ := hL
  obtain ⟨R, RF, RF2⟩ := reads W hLV
  refine (numbers_any W n (by omega) z hz.1 hz.2 m (start_calm hsh R) (start_forms RF) (start_forms21 RF2) (awake_any W hsh hLV)).mono fun e W' ⟨he, hb⟩ => ?_
  subst he
  exact ⟨_, rfl, _, _, _, [], [], [], hW', trodAll_mk1 (shut_bool Tryz.underlying4 _), trodAll_mk3 (shut_int Tryz.underlying30 wn) (shut_int Tryz.underlying5 wz) (shut_bool Tryz.underlying4 _), rfl, hb.frame _, fun h => by cases h⟩

theorem holds : Rows.ScriptNumbersSaid :=
  OpenClaim.holds_of_wide 4 Tryz.f4 rfl rfl rfl rfl rfl rfl rfl ⟨rfl, rfl, rfl, rfl, rfl⟩ rfl rfl rfl rfl rfl (by as_aux_lemma => kernel_rfl) Tryz.func4 closed
    (of_decide_eq_true (by kernel_rfl)) (by unfold Func.isWrapper; first | (rw [if_pos (by decide +kernel)]; kernel_rfl) | (rw [if_neg (by decide +kernel)]; exact ⟨rfl, rfl⟩))
    (fun os started H enc _ => lifted os started H enc)
theorem card_holds : Rows.ScriptNumbersCardSaid :=
  Claim7.holds_tied_plain_at .later [] Rows.scriptNumbersCard.laidKinds true Rows.scriptNumbersCard.stood.harness true holds (fun _ h => by cases h) (by kernel_rfl) (fun _ h => by cases h) scriptNumbers_row_tie rfl ⟨rfl, rfl⟩ (by kernel_rfl) rfl
    (fun f fn hf hfn => by
      obtain rfl : f = 4 := Option.some.inj ((show Tryz.prog.funcNamed "paling/palinglaw21.ScriptNumbers" = some 4 by kernel_rfl).symm.trans hf) |>.symm
      obtain rfl : fn = Tryz.f4 := (Option.some.inj (Tryz.func4.symm.trans hfn)).symm
      exact ⟨by kernel_rfl, fun j t ht => by
        rw [Tryz.params4] at ht
        have hm : t ∈ [30, 5, 4] := by
          have := Array.mem_of_getElem? ht
          simp at this
          simp [this]
        have hall : ([30, 5, 4].all fun u => !Tryz.prog.wantsStandIn u) = true := by kernel_rfl
        exact (show Tryz.prog.wantsStandIn t = false by simpa using List.all_eq_true.1 hall t hm)⟩)
    (by kernel_rfl)
end Go.Proofs.YtgioobgahlcdhaaGreatDoor
end
