/- Parts of the proof: XE. -/
import Derived.Test.YtlkhkalniekaoaaGreatDoorChecked
import Derived.Test.YtlkhkalniekaoaaGreatDoorQam
import Derived.Test.YtlkhkalniekaoaaGreatDoorQan
import Derived.Test.YtlkhkalniekaoaaGreatDoorQal

set_option linter.unusedVariables false
set_option linter.unusedSimpArgs false

section
/- The contracts that the reckoner leans on, at this program. -/
namespace Go.X
open Go Go.Proofs Go.Shelf
theorem Tryz.mixed : Tryz.prog.follows .mixedOrders = true := by kernel_rfl
theorem Tryz.noCounter : NoCounter Tryz.prog := fun f fn hf hb => by
  have h : (Tryz.prog.funcs.all fun fn => fn.body.isNone || !(fn.name == "runtime.NumGoroutine")) = true := by kernel_rfl
  have := Array.all_eq_true_iff_forall_mem.1 h fn (Array.mem_of_getElem? hf)
  rw [hb] at this
  simpa using this
theorem Tryz.At_index : AtOnce Tryz.prog 197 Extern.BytealgIndexByte.indexByte := ⟨_, Tryz.func197, by kernel_rfl, rfl, by kernel_rfl, by kernel_rfl⟩
theorem Tryz.At_count : AtOnce Tryz.prog 94 Extern.BytealgCount.count := ⟨_, Tryz.func94, by kernel_rfl, rfl, by kernel_rfl, by kernel_rfl⟩
theorem Tryz.At_room : AtOnce Tryz.prog 59 (Extern.BytealgMakeNoZero.makeNoZero #[3] #[52]) := ⟨_, Tryz.func59, by kernel_rfl, rfl, by kernel_rfl, by kernel_rfl⟩
noncomputable def exts0 : Ext := addExt 246 (xAppendSeq 215 47) (addExt 34 (xCopyCheck 54) (addExt 15 (xBuilderString 5) (addExt 197 xIndexByte (addExt 94 xCountByte (addExt 59 (xMakeNoZero 5) fun _ => none)))))
theorem exts0_ok : ExtOK Tryz.prog exts0 :=
  addExt_ok (addExt_ok (addExt_ok (addExt_ok (addExt_ok (addExt_ok noExt_ok (ext_room Tryz.At_room Tryz.underlying52)) (ext_count Tryz.At_count)) (ext_index Tryz.At_index))
    (ext_string Tryz.lays169 Tryz.Builder_Extra_169)) (ext_check (ρ := Tryz.lays165_ren) { Tryz.lays165 with } Tryz.Builder_Extra_165.toX72)) ext_append
end Go.X
end
