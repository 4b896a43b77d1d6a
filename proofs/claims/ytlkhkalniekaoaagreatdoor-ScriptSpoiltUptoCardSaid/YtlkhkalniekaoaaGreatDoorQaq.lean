/- Parts of the proof: XA05, XA06, XA07, XA08. -/
import Derived.Test.YtlkhkalniekaoaaGreatDoorQap

set_option linter.unusedVariables false
set_option linter.unusedSimpArgs false

section
/- A fixed fact of the program: palinglaw05.Awake says true, on every tape. -/
namespace Go.X
open Go Go.Proofs
noncomputable def exts5 : Ext := addExt 311 (xSays laidT) exts4
theorem exts5_ok : ExtOK Tryz.prog exts5 := addExt_ok exts4_ok (xSays_ok says4)
set_option maxRecDepth 1000000 in
theorem says5 : SaysTrue Tryz.prog laidT 309 := says_of (N := 67) (names := laidNames) (by decide) laidT_low laidT_names Tryz.mixed Tryz.noCounter exts5_ok (k := 1000) (by kernel_rfl)
end Go.X
end

section
/- A fixed fact of the program: palinglaw06.Awake says true, on every tape. -/
namespace Go.X
open Go Go.Proofs
noncomputable def exts6 : Ext := addExt 309 (xSays laidT) exts5
theorem exts6_ok : ExtOK Tryz.prog exts6 := addExt_ok exts5_ok (xSays_ok says5)
set_option maxRecDepth 1000000 in
theorem says6 : SaysTrue Tryz.prog laidT 308 := says_of (N := 67) (names := laidNames) (by decide) laidT_low laidT_names Tryz.mixed Tryz.noCounter exts6_ok (k := 1000) (by kernel_rfl)
end Go.X
end

section
/- A fixed fact of the program: palinglaw07.Awake says true, on every tape. -/
namespace Go.X
open Go Go.Proofs
noncomputable def exts7 : Ext := addExt 308 (xSays laidT) exts6
theorem exts7_ok : ExtOK Tryz.prog exts7 := addExt_ok exts6_ok (xSays_ok says6)
set_option maxRecDepth 1000000 in
theorem says7 : SaysTrue Tryz.prog laidT 306 := says_of (N := 67) (names := laidNames) (by decide) laidT_low laidT_names Tryz.mixed Tryz.noCounter exts7_ok (k := 1000) (by kernel_rfl)
end Go.X
end

section
/- A fixed fact of the program: palinglaw08.Awake says true, on every tape. -/
namespace Go.X
open Go Go.Proofs
noncomputable def exts8 : Ext := addExt 306 (xSays laidT) exts7
theorem exts8_ok : ExtOK Tryz.prog exts8 := addExt_ok exts7_ok (xSays_ok says7)
set_option maxRecDepth 1000000 in
theorem says8 : SaysTrue Tryz.prog laidT 301 := says_of (N := 67) (names := laidNames) (by decide) laidT_low laidT_names Tryz.mixed Tryz.noCounter exts8_ok (k := 1000) (by kernel_rfl)
end Go.X
end
