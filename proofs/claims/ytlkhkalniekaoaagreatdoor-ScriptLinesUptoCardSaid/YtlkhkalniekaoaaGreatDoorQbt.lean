/- ScriptLines: any commands as lines, with notes and blank lines between, are read as what they are; what is read, of bulk at most 1048576. The card, tied: the listed variables hold what the program's text lays. -/
import Derived.Test.YtlkhkalniekaoaaGreatDoorTie
import Derived.Test.YtlkhkalniekaoaaGreatDoorCards
import Derived.SevenTiedAt
import Derived.ProofKit
import Derived.Test.YtlkhkalniekaoaaGreatDoorQbl

set_option linter.unusedVariables false
set_option linter.unusedSimpArgs false

section
/- ScriptLines: any commands as lines, with notes and blank lines between, are read as what they are; what is read, of bulk at most 1048576. The card, tied: the listed variables hold what the program's text lays. -/
namespace Go.Proofs.YtlkhkalniekaoaaGreatDoor
open Go
theorem card_holds : Rows.ScriptLinesUptoCardSaid :=
  Claim7.holds_tied_plain_at .later [] Rows.scriptLinesUptoCard.laidKinds true Rows.scriptLinesUptoCard.stood.harness true holds (fun _ h => by cases h) (by as_aux_lemma => kernel_rfl) (fun _ h => by cases h) scriptLinesUpto_row_tie rfl ⟨rfl, rfl⟩ (by as_aux_lemma => kernel_rfl) rfl
    (fun f fn hf hfn => by
      obtain rfl : f = 3 := Option.some.inj ((show Tryz.prog.funcNamed "paling/palinglaw21.ScriptLines" = some 3 by as_aux_lemma => kernel_rfl).symm.trans hf) |>.symm
      obtain rfl : fn = Tryz.f3 := (Option.some.inj (Tryz.func3.symm.trans hfn)).symm
      exact ⟨by as_aux_lemma => kernel_rfl, fun j t ht => by
        rw [Tryz.params3] at ht
        have hm : t ∈ [22] := by
          have := Array.mem_of_getElem? ht
          simp at this
          simp [this]
        have hall : ([22].all fun u => !Tryz.prog.wantsStandIn u) = true := by as_aux_lemma => kernel_rfl
        exact (show Tryz.prog.wantsStandIn t = false by simpa using List.all_eq_true.1 hall t hm)⟩)
    (by as_aux_lemma => kernel_rfl)
end Go.Proofs.YtlkhkalniekaoaaGreatDoor
end
