/- Parts of the proof: XA09, XA10, XA11, XA12. -/
import Derived.Test.YtlkhkalniekaoaaGreatDoorQaq

set_option linter.unusedVariables false
set_option linter.unusedSimpArgs false

section
/- A fixed fact of the program: palinglaw09.Awake says true, on every tape. -/
namespace Go.X
open Go Go.Proofs
noncomputable def exts9 : Ext := addExt 301 (xSays laidT) exts8
theorem exts9_ok : ExtOK Tryz.prog exts9 := addExt_ok exts8_ok (xSays_ok says8)
set_option maxRecDepth 1000000 in
theorem says9 : SaysTrue Tryz.prog laidT 298 := says_of (N := 67) (names := laidNames) (by decide) laidT_low laidT_names Tryz.mixed Tryz.noCounter exts9_ok (k := 1000) (by kernel_rfl)
end Go.X
end

section
/- A fixed fact of the program: palinglaw10.Awake says true, on every tape. -/
namespace Go.X
open Go Go.Proofs
noncomputable def exts10 : Ext := addExt 298 (xSays laidT) exts9
theorem exts10_ok : ExtOK Tryz.prog exts10 := addExt_ok exts9_ok (xSays_ok says9)
set_option maxRecDepth 1000000 in
theorem says10 : SaysTrue Tryz.prog laidT 293 := says_of (N := 67) (names := laidNames) (by decide) laidT_low laidT_names Tryz.mixed Tryz.noCounter exts10_ok (k := 1000) (by kernel_rfl)
end Go.X
end

section
/- A fixed fact of the program: palinglaw11.Awake says true, on every tape. -/
namespace Go.X
open Go Go.Proofs
noncomputable def exts11 : Ext := addExt 293 (xSays laidT) exts10
theorem exts11_ok : ExtOK Tryz.prog exts11 := addExt_ok exts10_ok (xSays_ok says10)
set_option maxRecDepth 1000000 in
theorem says11 : SaysTrue Tryz.prog laidT 283 := says_of (N := 67) (names := laidNames) (by decide) laidT_low laidT_names Tryz.mixed Tryz.noCounter exts11_ok (k := 1000) (by kernel_rfl)
end Go.X
end

section
/- A fixed fact of the program: palinglaw12.Awake says true, on every tape. -/
namespace Go.X
open Go Go.Proofs
noncomputable def exts12 : Ext := addExt 283 (xSays laidT) exts11
theorem exts12_ok : ExtOK Tryz.prog exts12 := addExt_ok exts11_ok (xSays_ok says11)
set_option maxRecDepth 1000000 in
theorem says12 : SaysTrue Tryz.prog laidT 261 := says_of (N := 67) (names := laidNames) (by decide) laidT_low laidT_names Tryz.mixed Tryz.noCounter exts12_ok (k := 1000) (by kernel_rfl)
end Go.X
end
