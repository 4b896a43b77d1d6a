/- ScriptWords: any word as a command, with any word behind it, is answered as the reference says. The card, tied: the listed variables hold what the program's text lays. -/
import Derived.Test.YtgioobgahlcdhaaGreatDoorTie
import Derived.Test.YtgioobgahlcdhaaGreatDoorCards
import Derived.OpenVars
import Derived.Lay
import Derived.SevenTiedAt
import Derived.Test.YtgioobgahlcdhaaGreatDoorQbd
import Derived.Test.YtgioobgahlcdhaaGreatDoorQbe
import Derived.Test.YtgioobgahlcdhaaGreatDoorQau
import Derived.Test.YtgioobgahlcdhaaGreatDoorQbf
import Derived.Test.YtgioobgahlcdhaaGreatDoorQbg
import Derived.Test.YtgioobgahlcdhaaGreatDoorQak

set_option linter.unusedVariables false
set_option linter.unusedSimpArgs false

section
/- ScriptWords: any word as a command, with any word behind it, is answered as the reference says. The card, tied: the listed variables hold what the program's text lays. -/
namespace Go.Proofs.YtgioobgahlcdhaaGreatDoor
open Go.RowKit Go.Shelf Go.Sort Go.Lib Go.ChangeShapes Go.WideShapes Go.ChangeAt
open Go.ChangeMaps (open_string shut_string)

theorem own : ownKnob Tryz.prog.godebug = none := by kernel_rfl
theorem awake_any (W : World) (hsh : W.ShapedOpen Tryz.prog) {ps : List MemPlace} (hL : DataW.LaidVars Tryz.prog W Rows.scriptWordsRow.laid ps) :
    Calls Tryz.prog 5 #[] W fun e w' => e = .returned (.bool true) ∧ Later W w' := by
  obtain ⟨m, hr⟩ := Go.X.rel_laid hsh hL
  have h := Go.X.says21 m W _ (by decide) hr
  have hF := Go.X.laid_full hsh m
  rcases h with ⟨_, h⟩ | ⟨v, w', h1, _⟩
  · exact h.mono fun e w' ⟨he, hg⟩ => ⟨he, Go.X.laid_later hr hF hg⟩
  · rw [Go.X.enters_run Tryz.func5 (by kernel_rfl) rfl _ W] at h1
    cases h1
theorem reads (W : World) {ps : List MemPlace} (hL : DataW.LaidVars Tryz.prog W Rows.scriptWordsRow.laid ps) : Read W ∧ Lib.VarReads Tryz.prog W "paling/script.forms" Rows.laid_paling_script_forms ∧ Lib.VarReads Tryz.prog W "paling/palinglaw21.forms" Rows.laid_paling_palinglaw21_forms := by
  have h := fun n d hm => Lib.LaidVars_reads hL n d hm
  exact ⟨⟨h _ _ (by simp [Rows.scriptWordsRow]), h _ _ (by simp [Rows.scriptWordsRow]), h _ _ (by simp [Rows.scriptWordsRow]), h _ _ (by simp [Rows.scriptWordsRow]), h _ _ (by simp [Rows.scriptWordsRow]), h _ _ (by simp [Rows.scriptWordsRow]), h _ _ (by simp [Rows.scriptWordsRow])⟩, h _ _ (by simp [Rows.scriptWordsRow]), h _ _ (by simp [Rows.scriptWordsRow])⟩
set_option maxRecDepth 100000 in
theorem lifted (os : Os) (started : os.Started) (H : Type) (enc : TypeId × Value → H) :
    ReturnsInHanded {} Tryz.checked os 3 .any (fun w args => (Rows.scriptWordsSpec.pre enc Tryz.prog Tryz.f3 [] false w args ∧ laidMetH Tryz.prog Rows.scriptWordsRow.laid w) ∧ sizedMet enc Tryz.prog Tryz.f3 (OpenSpec.ofChange Rows.scriptWordsSpec) false w args)
      (Rows.scriptWordsSpec.post enc Tryz.prog Tryz.f3 false true false false) := by
  refine Go.X.row_lifted (C := Tryz.checked) (X := fun w _ => laidMetH Tryz.prog Rows.scriptWordsRow.laid w) (fun _ _ _ hh h => h.of_heap hh) own started (by kernel_rfl) Tryz.func3
    (ChangeSpec.witness_shaped (enc := enc) (C := Tryz.checked) (os := os) (X := fun w _ => laidMetH Tryz.prog Rows.scriptWordsRow.laid w) false (wit os) #[.string ⟨#[]⟩, .string ⟨#[]⟩] 8 (wit_os os)
      (World.shaped_of_ZipB (wit_zip os _) (wit_rest os _)) (by as_aux_lemma => kernel_rfl) (by as_aux_lemma => kernel_rfl) (by as_aux_lemma => kernel_rfl)
      (by rw [MakeChecks.laidMetH_plain _ _ _ (by as_aux_lemma => kernel_rfl)]; exact wit_met os _)) ?_
  intro W base args ds gs before hval0 hW _ hsz hL hsh
  have hval : ∀ (j : Nat) t v, Tryz.f3.params[j]? = some t → args[j]? = some v → Value.okWide Tryz.prog W .any base t v := hval0
  have hW' := hW
  obtain ⟨p, q, hA0, hV, rfl, _, _⟩ := hW
  have hA : DataW.TrodAll enc Tryz.prog W 0 (fun _ => true) true Tryz.f3.params.toList args.toList ds p := hA0
  rw [Tryz.params3] at hA hval
  obtain ⟨v0, v1, d0, d1, p0, p1, rfl, rfl, rfl, h0, h1⟩ := trodAll_two hA
  obtain ⟨rfl, rfl⟩ := trodVars_none hV
  obtain ⟨a, rfl, rfl, rfl, wa⟩ := open_string Tryz.underlying9 (hval 0 9 v0 rfl rfl) h0
  obtain ⟨b, rfl, rfl, rfl, wb⟩ := open_string Tryz.underlying9 (hval 1 9 v1 rfl rfl) h1
  have za : a.data.toList.length ≤ reachBytes := sized_string hsz (j := 0) (t := 9) (by kernel_rfl) rfl
  have zb : b.data.toList.length ≤ reachBytes := sized_string hsz (j := 1) (t := 9) (by kernel_rfl) rfl
  simp only [List.append_nil] at hW'
  rw [MakeChecks.laidMetH_plain _ _ _ (by kernel_rfl)] at hL
  obtain ⟨ps, hLV, _, _⟩ := hL
  obtain ⟨R, RF, RF2⟩ := reads W hLV
  refine (words_any W a b (by rw [Lib.size_eq]; exact za) (by rw [Lib.size_eq]; exact zb) (start_calm hsh R) (start_forms RF) (start_forms21 RF2) (awake_any W hsh hLV)).mono fun e W' ⟨he, hb⟩ => ?_
  subst he
  exact ⟨_, rfl, _, _, _, [], [], [], hW', trodAll_mk1 (shut_bool Tryz.underlying4 _), trodAll_mk2 (shut_string Tryz.underlying9 wa) (shut_string Tryz.underlying9 wb), rfl, hb.frame _, fun h => by cases h⟩

theorem holds : Rows.ScriptWordsSaid :=
  OpenClaim.holds_of_wide 3 Tryz.f3 rfl rfl rfl rfl rfl rfl rfl ⟨rfl, rfl, rfl, rfl, rfl⟩ rfl rfl rfl rfl rfl (by as_aux_lemma => kernel_rfl) Tryz.func3 closed
    (of_decide_eq_true (by kernel_rfl)) (by unfold Func.isWrapper; first | (rw [if_pos (by decide +kernel)]; kernel_rfl) | (rw [if_neg (by decide +kernel)]; exact ⟨rfl, rfl⟩))
    (fun os started H enc _ => lifted os started H enc)
theorem card_holds : Rows.ScriptWordsCardSaid :=
  Claim7.holds_tied_plain_at .later [] Rows.scriptWordsCard.laidKinds true Rows.scriptWordsCard.stood.harness true holds (fun _ h => by cases h) (by kernel_rfl) (fun _ h => by cases h) scriptWords_row_tie rfl ⟨rfl, rfl⟩ (by kernel_rfl) rfl
    (fun f fn hf hfn => by
      obtain rfl : f = 3 := Option.some.inj ((show Tryz.prog.funcNamed "paling/palinglaw21.ScriptWords" = some 3 by kernel_rfl).symm.trans hf) |>.symm
      obtain rfl : fn = Tryz.f3 := (Option.some.inj (Tryz.func3.symm.trans hfn)).symm
      exact ⟨by kernel_rfl, fun j t ht => by
        rw [Tryz.params3] at ht
        have hm : t ∈ [9] := by
          have := Array.mem_of_getElem? ht
          simp at this
          simp [this]
        have hall : ([9].all fun u => !Tryz.prog.wantsStandIn u) = true := by kernel_rfl
        exact (show Tryz.prog.wantsStandIn t = false by simpa using List.all_eq_true.1 hall t hm)⟩)
    (by kernel_rfl)
end Go.Proofs.YtgioobgahlcdhaaGreatDoor
end
