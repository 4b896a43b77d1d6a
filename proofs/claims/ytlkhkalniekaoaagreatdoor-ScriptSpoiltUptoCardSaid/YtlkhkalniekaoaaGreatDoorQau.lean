/- Parts of the proof: XA21. -/
import Derived.Test.YtlkhkalniekaoaaGreatDoorQat

set_option linter.unusedVariables false
set_option linter.unusedSimpArgs false

section
/- A fixed fact of the program: palinglaw21.Awake says true, on every tape. -/
namespace Go.X
open Go Go.Proofs
noncomputable def exts21 : Ext := addExt 11 (xSays laidT) exts20
theorem exts21_ok : ExtOK Tryz.prog exts21 := addExt_ok exts20_ok (xSays_ok says20)
set_option maxRecDepth 1000000 in
theorem says21 : SaysTrue Tryz.prog laidT 5 := says_of (N := 67) (names := laidNames) (by decide) laidT_low laidT_names Tryz.mixed Tryz.noCounter exts21_ok (k := 1000) (by kernel_rfl)
end Go.X
end
