/- The law of ScriptLines over its row. -/
import Derived.WideKeyArgs
import Derived.OpenVars
import Derived.Lay
import Derived.JoinedCond
import Derived.Test.YtlkhkalniekaoaaGreatDoorQbh
import Derived.Test.YtlkhkalniekaoaaGreatDoorQbi
import Derived.Test.YtlkhkalniekaoaaGreatDoorQau
import Derived.Test.YtlkhkalniekaoaaGreatDoorQbj
import Derived.Test.YtlkhkalniekaoaaGreatDoorQbk
import Derived.Test.YtlkhkalniekaoaaGreatDoorQak

set_option linter.unusedVariables false
set_option linter.unusedSimpArgs false

section
/- The law of ScriptLines over its row. -/
namespace Go.Proofs.YtlkhkalniekaoaaGreatDoor
open Go.RowKit Go.Shelf Go.Sort Go.Lib Go.ChangeShapes Go.WideShapes Go.ChangeAt
open Go.ChangeMaps (open_string shut_string)

theorem own : ownKnob Tryz.prog.godebug = none := by kernel_rfl
theorem awake_any (W : World) (hsh : W.ShapedOpen Tryz.prog) {ps : List MemPlace} (hL : DataW.LaidVars Tryz.prog W Rows.scriptLinesUptoRow.laid ps) :
    Calls Tryz.prog 5 #[] W fun e w' => e = .returned (.bool true) ∧ Later W w' := by
  obtain ⟨m, hr⟩ := Go.X.rel_laid hsh hL
  have h := Go.X.says21 m W _ (by decide) hr
  have hF := Go.X.laid_full hsh m
  rcases h with ⟨_, h⟩ | ⟨v, w', h1, _⟩
  · exact h.mono fun e w' ⟨he, hg⟩ => ⟨he, Go.X.laid_later hr hF hg⟩
  · rw [Go.X.enters_run Tryz.func5 (by kernel_rfl) rfl _ W] at h1
    cases h1
theorem reads (W : World) {ps : List MemPlace} (hL : DataW.LaidVars Tryz.prog W Rows.scriptLinesUptoRow.laid ps) : Read W ∧ Lib.VarReads Tryz.prog W "paling/script.forms" Rows.laid_paling_script_forms ∧ Lib.VarReads Tryz.prog W "paling/palinglaw21.forms" Rows.laid_paling_palinglaw21_forms := by
  have h := fun n d hm => Lib.LaidVars_reads hL n d hm
  exact ⟨⟨h _ _ (by simp [Rows.scriptLinesUptoRow]), h _ _ (by simp [Rows.scriptLinesUptoRow]), h _ _ (by simp [Rows.scriptLinesUptoRow]), h _ _ (by simp [Rows.scriptLinesUptoRow]), h _ _ (by simp [Rows.scriptLinesUptoRow]), h _ _ (by simp [Rows.scriptLinesUptoRow]), h _ _ (by simp [Rows.scriptLinesUptoRow])⟩, h _ _ (by simp [Rows.scriptLinesUptoRow]), h _ _ (by simp [Rows.scriptLinesUptoRow])⟩
theorem laidOut : laidOutB Tryz.prog = true := by kernel_rfl
set_option maxRecDepth 100000 in
theorem lifted (os : Os) (started : os.Started) (H : Type) (enc : TypeId × Value → H) (F : Stop.Interp) :
    ReturnsInHanded {} Tryz.checked os 3 .any ((Rows.OpenSpec.upto Rows.scriptLinesSpec).preRow enc Tryz.prog Tryz.f3 Rows.scriptLinesUptoRow.domain false Rows.scriptLinesUptoRow.laid) (((Rows.OpenSpec.upto Rows.scriptLinesSpec).at F).post enc Tryz.prog Tryz.f3 false true false false) := by
  refine returnsInHanded_of_row (C := Tryz.checked) (s := Rows.OpenSpec.upto Rows.scriptLinesSpec) own started (by kernel_rfl) Tryz.func3
    (Go.X.witness_row_shaped (enc := enc) (C := Tryz.checked) false (wit os) #[.slice none 0 0] (wit_os os)
      (World.shaped_of_ZipB (wit_zip os _) (wit_rest os _)) (by as_aux_lemma => kernel_rfl)
      (OpenSpec.preRow_of_cond (x := ([.nil], [], [])) 8 (by as_aux_lemma => kernel_rfl) (by as_aux_lemma => kernel_rfl) (fun k hk => by cases hk; rfl) (by as_aux_lemma => kernel_rfl)
        (by rw [MakeChecks.laidMetH_plain _ _ _ (by as_aux_lemma => kernel_rfl)]; exact wit_met os _))) ?_
  intro W base args ds gs before hval0 hW _ hcond _ hL hsh _
  have hval : ∀ (j : Nat) t v, Tryz.f3.params[j]? = some t → args[j]? = some v → Value.okWide Tryz.prog W .any base t v := hval0
  have hbulk := hcond _ rfl
  clear hcond
  have hW' := hW
  obtain ⟨p, q, hA0, hV, rfl, _, _⟩ := hW
  have hA : DataW.TrodAll enc Tryz.prog W 0 (fun _ => true) true Tryz.f3.params.toList args.toList ds p := hA0
  rw [Tryz.params3] at hA hval
  obtain ⟨v0, d0, rfl, rfl, h0⟩ := trodAll_one hA
  obtain ⟨rfl, rfl⟩ := trodVars_none hV
  have hlt : ∀ x ∈ p, x.block < W.heap.size := fun x hx => hW'.lt x (List.mem_append_left _ hx)
  simp only [List.append_nil] at hW'
  have hb0 : Rows.uptoBulk d0 ≤ 1048576 := by
    have h := of_decide_eq_true hbulk
    simp only [List.append_nil, Rows.uptoBulkAll, Nat.add_zero] at h
    exact h
  clear hbulk hA0
  have hs : ∃ a n c, v0 = .slice a n c := okWide_slice Tryz.underlying22 (hval 0 22 v0 rfl rfl)
  obtain ⟨ls, hls, hll⟩ := open_L hb0 hs h0
  rw [MakeChecks.laidMetH_plain _ _ _ (by kernel_rfl)] at hL
  obtain ⟨ps, hLV, _, _⟩ := hL
  obtain ⟨R, RF, RF2⟩ := reads W hLV
  refine (lines_any W v0 ls hls hll (start_calm hsh R) (start_forms RF) (start_forms21 RF2) (awake_any W hsh hLV)).mono fun e W' ⟨he, hb⟩ => ?_
  subst he
  exact ⟨_, rfl, _, _, _, [], p, [], hW', trodAll_mk1 (shut_bool Tryz.underlying4 _),
    trodAll_mk1 (WideElems.Trod_stays (P := Tryz.prog) laidOut (by as_aux_lemma => kernel_rfl) (of_decide_eq_true (by as_aux_lemma => kernel_rfl)) h0 (fun x hx => hb.same (hlt x hx)) (fun x hx => by simpa using hlt x hx)), rfl, hb.frame _, fun h => by cases h⟩

set_option maxRecDepth 1000000 in
theorem holds : Rows.ScriptLinesUptoSaid :=
  OpenClaim.holds_of_cond 3 Tryz.f3 rfl rfl rfl rfl rfl rfl rfl ⟨rfl, rfl, rfl, rfl, rfl⟩ rfl rfl rfl rfl rfl (by as_aux_lemma => kernel_rfl) Tryz.func3 closed
    (of_decide_eq_true (by kernel_rfl)) (by unfold Func.isWrapper; first | (rw [if_pos (by decide +kernel)]; kernel_rfl) | (rw [if_neg (by decide +kernel)]; exact ⟨rfl, rfl⟩))
    (fun os started H enc _ F => by rw [OpenClaim.pre_eq_preRow]; exact lifted os started H enc F)
end Go.Proofs.YtlkhkalniekaoaaGreatDoor
end
