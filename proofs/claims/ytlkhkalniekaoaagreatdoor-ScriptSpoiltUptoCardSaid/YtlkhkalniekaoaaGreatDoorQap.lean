/- Parts of the proof: XA01, XA02, XA03, XA04. -/
import Derived.Test.YtlkhkalniekaoaaGreatDoorQao

set_option linter.unusedVariables false
set_option linter.unusedSimpArgs false

section
/- A fixed fact of the program: palinglaw01.Awake says true, on every tape. -/
namespace Go.X
open Go Go.Proofs
noncomputable def exts1 : Ext := exts0
theorem exts1_ok : ExtOK Tryz.prog exts1 := exts0_ok
set_option maxRecDepth 1000000 in
theorem says1 : SaysTrue Tryz.prog laidT 320 := says_of (N := 67) (names := laidNames) (by decide) laidT_low laidT_names Tryz.mixed Tryz.noCounter exts1_ok (k := 1000) (by kernel_rfl)
end Go.X
end

section
/- A fixed fact of the program: palinglaw02.Awake says true, on every tape. -/
namespace Go.X
open Go Go.Proofs
noncomputable def exts2 : Ext := addExt 320 (xSays laidT) exts1
theorem exts2_ok : ExtOK Tryz.prog exts2 := addExt_ok exts1_ok (xSays_ok says1)
set_option maxRecDepth 1000000 in
theorem says2 : SaysTrue Tryz.prog laidT 319 := says_of (N := 67) (names := laidNames) (by decide) laidT_low laidT_names Tryz.mixed Tryz.noCounter exts2_ok (k := 1000) (by kernel_rfl)
end Go.X
end

section
/- A fixed fact of the program: palinglaw03.Awake says true, on every tape. -/
namespace Go.X
open Go Go.Proofs
noncomputable def exts3 : Ext := addExt 319 (xSays laidT) exts2
theorem exts3_ok : ExtOK Tryz.prog exts3 := addExt_ok exts2_ok (xSays_ok says2)
set_option maxRecDepth 1000000 in
theorem says3 : SaysTrue Tryz.prog laidT 314 := says_of (N := 67) (names := laidNames) (by decide) laidT_low laidT_names Tryz.mixed Tryz.noCounter exts3_ok (k := 1000) (by kernel_rfl)
end Go.X
end

section
/- A fixed fact of the program: palinglaw04.Awake says true, on every tape. -/
namespace Go.X
open Go Go.Proofs
noncomputable def exts4 : Ext := addExt 314 (xSays laidT) exts3
theorem exts4_ok : ExtOK Tryz.prog exts4 := addExt_ok exts3_ok (xSays_ok says3)
set_option maxRecDepth 1000000 in
theorem says4 : SaysTrue Tryz.prog laidT 311 := says_of (N := 67) (names := laidNames) (by decide) laidT_low laidT_names Tryz.mixed Tryz.noCounter exts4_ok (k := 1000) (by kernel_rfl)
end Go.X
end
