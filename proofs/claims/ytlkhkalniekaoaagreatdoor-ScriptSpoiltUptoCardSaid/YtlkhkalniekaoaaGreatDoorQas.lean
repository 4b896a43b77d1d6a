/- Parts of the proof: XA13, XA14, XA15, XA16. -/
import Derived.Test.YtlkhkalniekaoaaGreatDoorQar

set_option linter.unusedVariables false
set_option linter.unusedSimpArgs false

section
/- A fixed fact of the program: palinglaw13.Awake says true, on every tape. -/
namespace Go.X
open Go Go.Proofs
noncomputable def exts13 : Ext := addExt 261 (xSays laidT) exts12
theorem exts13_ok : ExtOK Tryz.prog exts13 := addExt_ok exts12_ok (xSays_ok says12)
set_option maxRecDepth 1000000 in
theorem says13 : SaysTrue Tryz.prog laidT 244 := says_of (N := 67) (names := laidNames) (by decide) laidT_low laidT_names Tryz.mixed Tryz.noCounter exts13_ok (k := 1000) (by kernel_rfl)
end Go.X
end

section
/- A fixed fact of the program: palinglaw14.Awake says true, on every tape. -/
namespace Go.X
open Go Go.Proofs
noncomputable def exts14 : Ext := addExt 244 (xSays laidT) exts13
theorem exts14_ok : ExtOK Tryz.prog exts14 := addExt_ok exts13_ok (xSays_ok says13)
set_option maxRecDepth 1000000 in
theorem says14 : SaysTrue Tryz.prog laidT 208 := says_of (N := 67) (names := laidNames) (by decide) laidT_low laidT_names Tryz.mixed Tryz.noCounter exts14_ok (k := 1000) (by kernel_rfl)
end Go.X
end

section
/- A fixed fact of the program: palinglaw15.Awake says true, on every tape. -/
namespace Go.X
open Go Go.Proofs
noncomputable def exts15 : Ext := addExt 208 (xSays laidT) exts14
theorem exts15_ok : ExtOK Tryz.prog exts15 := addExt_ok exts14_ok (xSays_ok says14)
set_option maxRecDepth 1000000 in
theorem says15 : SaysTrue Tryz.prog laidT 154 := says_of (N := 67) (names := laidNames) (by decide) laidT_low laidT_names Tryz.mixed Tryz.noCounter exts15_ok (k := 1000) (by kernel_rfl)
end Go.X
end

section
/- A fixed fact of the program: palinglaw16.Awake says true, on every tape. -/
namespace Go.X
open Go Go.Proofs
noncomputable def exts16 : Ext := addExt 154 (xSays laidT) exts15
theorem exts16_ok : ExtOK Tryz.prog exts16 := addExt_ok exts15_ok (xSays_ok says15)
set_option maxRecDepth 1000000 in
theorem says16 : SaysTrue Tryz.prog laidT 109 := says_of (N := 67) (names := laidNames) (by decide) laidT_low laidT_names Tryz.mixed Tryz.noCounter exts16_ok (k := 1000) (by kernel_rfl)
end Go.X
end
