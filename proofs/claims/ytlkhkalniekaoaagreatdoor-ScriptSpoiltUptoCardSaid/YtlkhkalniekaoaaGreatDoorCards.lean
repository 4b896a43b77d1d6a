/-
  DERIVED. GIVEN WITH THE SEED: THE CARDS: each row of YtlkhkalniekaoaaGreatDoorRows.lean that lists a variable, with what it lists TIED to the program's text (the seventh form; the later family's looks); each row that meets fmt, with fmt's text TOLD by the authors' own Lean function (tested against real Go, not proved from fmt's source: count such statements apart). THE CARD IS WHAT COUNTS. Prove the row's statement (the work); the ties are given (YtlkhkalniekaoaaGreatDoorTie.lean); close each card by the builder's one call (the guide's Derived/Test/ToyasCard.lean, 'card_holds'). Laid BY PROGRAM, IN A SANDBOX (cutbox-door.mjs). By AI agents, Wed Nov 11 2026. No macro, syntax, notation, axiom, sorry.
-/
import Derived.Test.YtlkhkalniekaoaaGreatDoorRows
import GoSem.ClaimSeven
namespace Go.Proofs.YtlkhkalniekaoaaGreatDoor
namespace Rows

/-- THE TIED CARD OF 'palinglaw21.ScriptLines'. -/
def scriptLinesCard : Claim7 := { stood := { row := scriptLinesRow, standIns := [], harness := (true, "62259c4e8fb0fbb821d589992ed419911735ac476cb550434d58ed55d9bcdaa8"), looks := true }, kinds := [], alts := [], laidByText := true, laidKinds := [.data, .data, .data, .data, .sentinel, .sentinel, .listed, .data, .data, .data, .data, .data, .data, .mapped, .data, .widerDeep, .data, .data, .pinned], laidTests := true, laidLooks := .later }
def ScriptLinesCardSaid : Prop := Claim7.holds Tryz.pinned (.plain (OpenSpec.ofChange scriptLinesSpec)) scriptLinesCard

/-- THE TIED CARD OF 'palinglaw21.ScriptSpoilt'. -/
def scriptSpoiltCard : Claim7 := { stood := { row := scriptSpoiltRow, standIns := [], harness := (true, "62259c4e8fb0fbb821d589992ed419911735ac476cb550434d58ed55d9bcdaa8"), looks := true }, kinds := [], alts := [], laidByText := true, laidKinds := [.data, .data, .data, .data, .sentinel, .sentinel, .listed, .data, .data, .data, .data, .data, .data, .mapped, .data, .widerDeep, .data, .data, .pinned], laidTests := true, laidLooks := .later }
def ScriptSpoiltCardSaid : Prop := Claim7.holds Tryz.pinned (.plain (OpenSpec.ofChange scriptSpoiltSpec)) scriptSpoiltCard

/-- THE SECOND FORM's CARD OF 'palinglaw21.ScriptLines'. -/
def scriptLinesUptoCard : Claim7 := { stood := { row := scriptLinesUptoRow, standIns := [], harness := (true, "62259c4e8fb0fbb821d589992ed419911735ac476cb550434d58ed55d9bcdaa8"), looks := true }, kinds := [], alts := [], laidByText := true, laidKinds := [.data, .data, .data, .data, .sentinel, .sentinel, .listed, .data, .data, .data, .data, .data, .data, .mapped, .data, .widerDeep, .data, .data, .pinned], laidTests := true, laidLooks := .later }
def ScriptLinesUptoCardSaid : Prop := Claim7.holds Tryz.pinned (.plain (OpenSpec.upto scriptLinesSpec)) scriptLinesUptoCard

/-- THE SECOND FORM's CARD OF 'palinglaw21.ScriptSpoilt'. -/
def scriptSpoiltUptoCard : Claim7 := { stood := { row := scriptSpoiltUptoRow, standIns := [], harness := (true, "62259c4e8fb0fbb821d589992ed419911735ac476cb550434d58ed55d9bcdaa8"), looks := true }, kinds := [], alts := [], laidByText := true, laidKinds := [.data, .data, .data, .data, .sentinel, .sentinel, .listed, .data, .data, .data, .data, .data, .data, .mapped, .data, .widerDeep, .data, .data, .pinned], laidTests := true, laidLooks := .later }
def ScriptSpoiltUptoCardSaid : Prop := Claim7.holds Tryz.pinned (.plain (OpenSpec.upto scriptSpoiltSpec)) scriptSpoiltUptoCard
end Rows
end Go.Proofs.YtlkhkalniekaoaaGreatDoor
