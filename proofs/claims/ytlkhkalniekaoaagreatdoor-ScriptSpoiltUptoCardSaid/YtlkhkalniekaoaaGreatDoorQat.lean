/- Parts of the proof: XA17, XA18, XA19, XA20. -/
import Derived.Test.YtlkhkalniekaoaaGreatDoorQas

set_option linter.unusedVariables false
set_option linter.unusedSimpArgs false

section
/- A fixed fact of the program: palinglaw17.Awake says true, on every tape. -/
namespace Go.X
open Go Go.Proofs
noncomputable def exts17 : Ext := addExt 109 (xSays laidT) exts16
theorem exts17_ok : ExtOK Tryz.prog exts17 := addExt_ok exts16_ok (xSays_ok says16)
set_option maxRecDepth 1000000 in
theorem says17 : SaysTrue Tryz.prog laidT 74 := says_of (N := 67) (names := laidNames) (by decide) laidT_low laidT_names Tryz.mixed Tryz.noCounter exts17_ok (k := 1000) (by kernel_rfl)
end Go.X
end

section
/- A fixed fact of the program: palinglaw18.Awake says true, on every tape. -/
namespace Go.X
open Go Go.Proofs
noncomputable def exts18 : Ext := addExt 74 (xSays laidT) exts17
theorem exts18_ok : ExtOK Tryz.prog exts18 := addExt_ok exts17_ok (xSays_ok says17)
set_option maxRecDepth 1000000 in
theorem says18 : SaysTrue Tryz.prog laidT 48 := says_of (N := 67) (names := laidNames) (by decide) laidT_low laidT_names Tryz.mixed Tryz.noCounter exts18_ok (k := 1000) (by kernel_rfl)
end Go.X
end

section
/- A fixed fact of the program: palinglaw19.Awake says true, on every tape. -/
namespace Go.X
open Go Go.Proofs
noncomputable def exts19 : Ext := addExt 48 (xSays laidT) exts18
theorem exts19_ok : ExtOK Tryz.prog exts19 := addExt_ok exts18_ok (xSays_ok says18)
set_option maxRecDepth 1000000 in
theorem says19 : SaysTrue Tryz.prog laidT 30 := says_of (N := 67) (names := laidNames) (by decide) laidT_low laidT_names Tryz.mixed Tryz.noCounter exts19_ok (k := 1000) (by kernel_rfl)
end Go.X
end

section
/- A fixed fact of the program: palinglaw20.Awake says true, on every tape. -/
namespace Go.X
open Go Go.Proofs
noncomputable def exts20 : Ext := addExt 30 (xSays laidT) exts19
theorem exts20_ok : ExtOK Tryz.prog exts20 := addExt_ok exts19_ok (xSays_ok says19)
set_option maxRecDepth 1000000 in
theorem says20 : SaysTrue Tryz.prog laidT 11 := says_of (N := 67) (names := laidNames) (by decide) laidT_low laidT_names Tryz.mixed Tryz.noCounter exts20_ok (k := 1000) (by kernel_rfl)
end Go.X
end
