/- Parts of the proof: XV. -/
import Derived.Test.YtlkhkalniekaoaaGreatDoorRows
import Derived.Lay
import Derived.ProofKit
import Derived.LaidMore
import Derived.OpenShut
import Derived.Stop.Joined

set_option linter.unusedVariables false
set_option linter.unusedSimpArgs false

section
/- A world in which the listed variables lie as the program lays them: the witness that the statement speaks of something. Printed by gen.py. -/
namespace Go.Proofs.YtlkhkalniekaoaaGreatDoor
open Go
noncomputable def witMaps : Array Obj := #[.map #[⟨.string ⟨#[33, 61]⟩, .int .i64 12, 0⟩, ⟨.string ⟨#[60]⟩, .int .i64 13, 1⟩, ⟨.string ⟨#[61, 61]⟩, .int .i64 11, 2⟩] 3, .map #[⟨.string ⟨#[43]⟩, .int .i64 8, 0⟩, ⟨.string ⟨#[45]⟩, .int .i64 9, 1⟩] 2, .map #[⟨.string ⟨#[42]⟩, .int .i64 10, 0⟩] 1]
noncomputable def witBase (os : Os) : World := { World.holding Tryz.prog os ⟨witMaps, #[], []⟩ with heap := (World.holding Tryz.prog os ⟨witMaps, #[], []⟩).heap.setIfInBounds 15 (.cells #[.map (some 26), .map (some 27), .map (some 28)] 407) }
def witGreat : List String := ["math/bits.deBruijn32tab", "math/bits.deBruijn64tab", "internal/strconv.uint64pow10", "unicode/utf8.acceptRanges", "strconv.ErrRange", "strconv.ErrSyntax", "unicode.White_Space", "strings.asciiSpace", "paling/code.words", "paling/machine.kinds", "paling/machine.objects", "paling/tree.signs", "paling/parse.reserved", "paling/parse.simple", "paling/scope.words", "paling/script.forms", "paling/palinglaw21.forms", "unicode/utf8.first"]
noncomputable def wit (os : Os) : World := (witBase os).layVars Tryz.prog (Rows.scriptLinesRow.laid.filter fun x => witGreat.contains x.1)
theorem wit_os (os : Os) : (wit os).os = os := World.layVars_os _ _ _
theorem wit_fits (os : Os) : (witBase os).layFits Tryz.prog (Rows.scriptLinesRow.laid.filter fun x => witGreat.contains x.1) [15, 26, 27, 28] = true := by kernel_rfl
theorem wit_ifaces (os : Os) (args : Array Value) : (witBase os).layIfaces Tryz.prog (Rows.scriptLinesRow.laid.filter fun x => witGreat.contains x.1) ((wit os).forCall (fun _ _ => 0) ⟨#[], args, []⟩).memory = true := by kernel_rfl
theorem wit_left : (Rows.scriptLinesRow.laid.filter fun x => !witGreat.contains x.1) = [("paling/parse.levels", Rows.laid_paling_parse_levels)] := by kernel_rfl
theorem wit_run1 (os : Os) (args : Array Value) : (DataW.laidRun Tryz.prog ((wit os).forCall (fun _ _ => 0) ⟨#[], args, []⟩).memory 8 ["paling/parse.levels"]).map (·.1) = some [("paling/parse.levels", Rows.laid_paling_parse_levels)] := by kernel_rfl
theorem wit_run2 (os : Os) (args : Array Value) : (DataW.laidRun Tryz.prog ((wit os).forCall (fun _ _ => 0) ⟨#[], args, []⟩).memory 8 ["paling/parse.levels"]).map (fun x => nodupB (x.2.map MemPlace.codeOf)) = some true := by kernel_rfl
theorem wit_run3 (os : Os) (args : Array Value) : (DataW.laidRun Tryz.prog ((wit os).forCall (fun _ _ => 0) ⟨#[], args, []⟩).memory 8 ["paling/parse.levels"]).map (fun x => laidRowsB Tryz.prog ((wit os).forCall (fun _ _ => 0) ⟨#[], args, []⟩).memory x.2) = some true := by kernel_rfl
theorem wit_run4 (os : Os) (args : Array Value) : (DataW.laidRun Tryz.prog ((wit os).forCall (fun _ _ => 0) ⟨#[], args, []⟩).memory 8 ["paling/parse.levels"]).map (fun x => x.2.all fun p => ([15, 26, 27, 28] : List Nat).contains p.block) = some true := by kernel_rfl
theorem wit_in (os : Os) (args : Array Value) : LaidIn Tryz.prog ((wit os).forCall (fun _ _ => 0) ⟨#[], args, []⟩).memory (Rows.scriptLinesRow.laid.filter fun x => !witGreat.contains x.1) [15, 26, 27, 28] := by
  rw [wit_left]
  exact LaidIn.of_run [15, 26, 27, 28] 8 (wit_run1 os args) (wit_run2 os args) (wit_run3 os args) (wit_run4 os args)
theorem wit_met (os : Os) (args : Array Value) : laidMet Tryz.prog Rows.scriptLinesRow.laid ((wit os).forCall (fun _ _ => 0) ⟨#[], args, []⟩).memory :=
  laidMet_layVars (w0 := witBase os) witGreat [15, 26, 27, 28] (by simp [World.memory, World.forCall, Input.heap, wit]) (wit_fits os) (wit_ifaces os args) (wit_in os args)
theorem wit_zip (os : Os) (args : Array Value) : ((wit os).forCall (fun _ _ => 0) ⟨#[], args, []⟩).variablesZipB Tryz.prog = true := by kernel_rfl
theorem wit_rest (os : Os) (args : Array Value) : (((wit os).forCall (fun _ _ => 0) ⟨#[], args, []⟩).heap.toList.drop Tryz.prog.globals.size).take ((begin Tryz.prog (fun _ _ => 0) default).world.heap.size - Tryz.prog.globals.size) = (begin Tryz.prog (fun _ _ => 0) default).world.heap.toList.drop Tryz.prog.globals.size := by kernel_rfl
end Go.Proofs.YtlkhkalniekaoaaGreatDoor
end
