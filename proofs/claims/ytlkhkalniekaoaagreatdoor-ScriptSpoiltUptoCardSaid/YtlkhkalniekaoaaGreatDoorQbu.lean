/- ScriptSpoilt: commands' lines, in which something stands in the place of something else, are answered as the reference says; what is read, of bulk at most 1048576. The card, tied: the listed variables hold what the program's text lays. -/
import Derived.Test.YtlkhkalniekaoaaGreatDoorTie
import Derived.Test.YtlkhkalniekaoaaGreatDoorCards
import Derived.SevenTiedAt
import Derived.ProofKit
import Derived.Test.YtlkhkalniekaoaaGreatDoorQbs

set_option linter.unusedVariables false
set_option linter.unusedSimpArgs false

section
/- ScriptSpoilt: commands' lines, in which something stands in the place of something else, are answered as the reference says; what is read, of bulk at most 1048576. The card, tied: the listed variables hold what the program's text lays. -/
namespace Go.Proofs.YtlkhkalniekaoaaGreatDoor
open Go
theorem card_holds : Rows.ScriptSpoiltUptoCardSaid :=
  Claim7.holds_tied_plain_at .later [] Rows.scriptSpoiltUptoCard.laidKinds true Rows.scriptSpoiltUptoCard.stood.harness true holds (fun _ h => by cases h) (by as_aux_lemma => kernel_rfl) (fun _ h => by cases h) scriptSpoiltUpto_row_tie rfl ⟨rfl, rfl⟩ (by as_aux_lemma => kernel_rfl) rfl
    (fun f fn hf hfn => by
      obtain rfl : f = 4 := Option.some.inj ((show Tryz.prog.funcNamed "paling/palinglaw21.ScriptSpoilt" = some 4 by as_aux_lemma => kernel_rfl).symm.trans hf) |>.symm
      obtain rfl : fn = Tryz.f4 := (Option.some.inj (Tryz.func4.symm.trans hfn)).symm
      exact ⟨by as_aux_lemma => kernel_rfl, fun j t ht => by
        rw [Tryz.params4] at ht
        have hm : t ∈ [22, 43, 5, 9] := by
          have := Array.mem_of_getElem? ht
          simp at this
          rcases this with h | h | h | h <;> simp [h]
        have hall : ([22, 43, 5, 9].all fun u => !Tryz.prog.wantsStandIn u) = true := by as_aux_lemma => kernel_rfl
        exact (show Tryz.prog.wantsStandIn t = false by simpa using List.all_eq_true.1 hall t hm)⟩)
    (by as_aux_lemma => kernel_rfl)
end Go.Proofs.YtlkhkalniekaoaaGreatDoor
end
