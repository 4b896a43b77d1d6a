/- Parts of the proof: XE. -/
import Derived.Test.YtgioobgahlcdhaaGreatDoorChecked
import Derived.Test.YtgioobgahlcdhaaGreatDoorQam
import Derived.Test.YtgioobgahlcdhaaGreatDoorQan
import Derived.Test.YtgioobgahlcdhaaGreatDoorQal

set_option linter.unusedVariables false
set_option linter.unusedSimpArgs false

section
/- The contracts that the reckoner leans on, at this program. -/
namespace Go.X
open Go Go.Proofs Go.Shelf
theorem Tryz.mixed : Tryz.prog.follows .mixedOrders = true := by kernel_rfl
theorem Tryz.noCounter : NoCounter Tryz.prog := fun f fn hf hb => by
  have h : (Tryz.prog.funcs.all fun fn => fn.body.isNone || !(fn.name == "runtime.NumGoroutine")) = true := by kernel_rfl
  have := Array.all_eq_true_iff_forall_mem.1 h fn (Array.mem_of_getElem? hf)
  rw [hb] at this
  simpa using this
theorem Tryz.At_index : AtOnce Tryz.prog 105 Extern.BytealgIndexByte.indexByte := ⟨_, Tryz.func105, by kernel_rfl, rfl, by kernel_rfl, by kernel_rfl⟩
theorem Tryz.At_count : AtOnce Tryz.prog 108 Extern.BytealgCount.count := ⟨_, Tryz.func108, by kernel_rfl, rfl, by kernel_rfl, by kernel_rfl⟩
theorem Tryz.At_room : AtOnce Tryz.prog 84 (Extern.BytealgMakeNoZero.makeNoZero #[3] #[62]) := ⟨_, Tryz.func84, by kernel_rfl, rfl, by kernel_rfl, by kernel_rfl⟩
noncomputable def exts0 : Ext := addExt 249 (xAppendSeq 218 41) (addExt 50 (xCopyCheck 64) (addExt 31 (xBuilderString 5) (addExt 105 xIndexByte (addExt 108 xCountByte (addExt 84 (xMakeNoZero 5) fun _ => none)))))
theorem exts0_ok : ExtOK Tryz.prog exts0 :=
  addExt_ok (addExt_ok (addExt_ok (addExt_ok (addExt_ok (addExt_ok noExt_ok (ext_room Tryz.At_room Tryz.underlying62)) (ext_count Tryz.At_count)) (ext_index Tryz.At_index))
    (ext_string Tryz.lays169 Tryz.Builder_Extra_169)) (ext_check (ρ := Tryz.lays165_ren) { Tryz.lays165 with } Tryz.Builder_Extra_165.toX72)) ext_append
end Go.X
end
