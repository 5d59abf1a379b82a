/-
  DERIVED. GIVEN WITH THE SEED: THE CARDS: each row of YthbanbnmomcohaaGreatDoorRows.lean that lists a variable, with what it lists TIED to the program's text (the seventh form; the later family's looks); each row that meets fmt, with fmt's text TOLD by the authors' own Lean function (tested against real Go, not proved from fmt's source: count such statements apart). THE CARD IS WHAT COUNTS. Prove the row's statement (the work); the ties are given (YthbanbnmomcohaaGreatDoorTie.lean); close each card by the builder's one call (the guide's Derived/Test/ToyasCard.lean, 'card_holds'). Laid BY PROGRAM, IN A SANDBOX (cutbox-door.mjs). By AI agents, Wed Nov 11 2026. No macro, syntax, notation, axiom, sorry.
-/
import Derived.Test.YthbanbnmomcohaaGreatDoorRows
import GoSem.ClaimSeven
namespace Go.Proofs.YthbanbnmomcohaaGreatDoor
namespace Rows

/-- THE TIED CARD OF 'selvedgelaw10.DirsAll'. -/
def dirsAllCard : Claim7 := { stood := { row := dirsAllRow, standIns := [], harness := (true, "8c40230cd839658fc8934723b563267a6dd1ea2e511643a5b0cdde49090a6888"), looks := false }, kinds := [], alts := [], laidByText := true, laidKinds := [.data, .widerDeep, .data, .pinned], laidTests := true, laidLooks := .later }
def DirsAllCardSaid : Prop := Claim7.holds Tryz.pinned (.plain (OpenSpec.ofChange dirsAllSpec)) dirsAllCard

/-- THE TIED CARD OF 'selvedgelaw10.DirsSays'. -/
def dirsSaysCard : Claim7 := { stood := { row := dirsSaysRow, standIns := [], harness := (true, "8c40230cd839658fc8934723b563267a6dd1ea2e511643a5b0cdde49090a6888"), looks := false }, kinds := [], alts := [], laidByText := true, laidKinds := [.data, .widerDeep, .data, .pinned], laidTests := true, laidLooks := .later }
def DirsSaysCardSaid : Prop := Claim7.holds Tryz.pinned (.plain (OpenSpec.ofChange dirsSaysSpec)) dirsSaysCard

/-- THE TIED CARD OF 'selvedgelaw10.DirsFirst'. -/
def dirsFirstCard : Claim7 := { stood := { row := dirsFirstRow, standIns := [], harness := (true, "8c40230cd839658fc8934723b563267a6dd1ea2e511643a5b0cdde49090a6888"), looks := false }, kinds := [], alts := [], laidByText := true, laidKinds := [.data, .widerDeep, .data, .pinned], laidTests := true, laidLooks := .later }
def DirsFirstCardSaid : Prop := Claim7.holds Tryz.pinned (.plain (OpenSpec.ofChange dirsFirstSpec)) dirsFirstCard

/-- THE TIED CARD OF 'selvedgelaw10.DirsTells'. -/
def dirsTellsCard : Claim7 := { stood := { row := dirsTellsRow, standIns := [], harness := (true, "8c40230cd839658fc8934723b563267a6dd1ea2e511643a5b0cdde49090a6888"), looks := false }, kinds := [], alts := [], laidByText := true, laidKinds := [.data, .widerDeep, .data, .pinned], laidTests := true, laidLooks := .later }
def DirsTellsCardSaid : Prop := Claim7.holds Tryz.pinned (.plain (OpenSpec.ofChange dirsTellsSpec)) dirsTellsCard

/-- THE TIED CARD OF 'selvedgelaw10.DirsIsolated'. -/
def dirsIsolatedCard : Claim7 := { stood := { row := dirsIsolatedRow, standIns := [], harness := (true, "8c40230cd839658fc8934723b563267a6dd1ea2e511643a5b0cdde49090a6888"), looks := false }, kinds := [], alts := [], laidByText := true, laidKinds := [.data, .widerDeep, .data, .pinned], laidTests := true, laidLooks := .later }
def DirsIsolatedCardSaid : Prop := Claim7.holds Tryz.pinned (.plain (OpenSpec.ofChange dirsIsolatedSpec)) dirsIsolatedCard

/-- THE TIED CARD OF 'selvedgelaw10.DirsKnown'. -/
def dirsKnownCard : Claim7 := { stood := { row := dirsKnownRow, standIns := [], harness := (true, "8c40230cd839658fc8934723b563267a6dd1ea2e511643a5b0cdde49090a6888"), looks := false }, kinds := [], alts := [], laidByText := true, laidKinds := [.data, .widerDeep, .data, .pinned], laidTests := true, laidLooks := .later }
def DirsKnownCardSaid : Prop := Claim7.holds Tryz.pinned (.plain (OpenSpec.ofChange dirsKnownSpec)) dirsKnownCard

/-- THE SECOND FORM's CARD OF 'selvedgelaw10.DirsAll'. -/
def dirsAllUptoCard : Claim7 := { stood := { row := dirsAllUptoRow, standIns := [], harness := (true, "8c40230cd839658fc8934723b563267a6dd1ea2e511643a5b0cdde49090a6888"), looks := false }, kinds := [], alts := [], laidByText := true, laidKinds := [.data, .widerDeep, .data, .pinned], laidTests := true, laidLooks := .later }
def DirsAllUptoCardSaid : Prop := Claim7.holds Tryz.pinned (.plain (OpenSpec.upto dirsAllSpec)) dirsAllUptoCard

/-- THE SECOND FORM's CARD OF 'selvedgelaw10.DirsSays'. -/
def dirsSaysUptoCard : Claim7 := { stood := { row := dirsSaysUptoRow, standIns := [], harness := (true, "8c40230cd839658fc8934723b563267a6dd1ea2e511643a5b0cdde49090a6888"), looks := false }, kinds := [], alts := [], laidByText := true, laidKinds := [.data, .widerDeep, .data, .pinned], laidTests := true, laidLooks := .later }
def DirsSaysUptoCardSaid : Prop := Claim7.holds Tryz.pinned (.plain (OpenSpec.upto dirsSaysSpec)) dirsSaysUptoCard

/-- THE SECOND FORM's CARD OF 'selvedgelaw10.DirsFirst'. -/
def dirsFirstUptoCard : Claim7 := { stood := { row := dirsFirstUptoRow, standIns := [], harness := (true, "8c40230cd839658fc8934723b563267a6dd1ea2e511643a5b0cdde49090a6888"), looks := false }, kinds := [], alts := [], laidByText := true, laidKinds := [.data, .widerDeep, .data, .pinned], laidTests := true, laidLooks := .later }
def DirsFirstUptoCardSaid : Prop := Claim7.holds Tryz.pinned (.plain (OpenSpec.upto dirsFirstSpec)) dirsFirstUptoCard

/-- THE SECOND FORM's CARD OF 'selvedgelaw10.DirsTells'. -/
def dirsTellsUptoCard : Claim7 := { stood := { row := dirsTellsUptoRow, standIns := [], harness := (true, "8c40230cd839658fc8934723b563267a6dd1ea2e511643a5b0cdde49090a6888"), looks := false }, kinds := [], alts := [], laidByText := true, laidKinds := [.data, .widerDeep, .data, .pinned], laidTests := true, laidLooks := .later }
def DirsTellsUptoCardSaid : Prop := Claim7.holds Tryz.pinned (.plain (OpenSpec.upto dirsTellsSpec)) dirsTellsUptoCard

/-- THE SECOND FORM's CARD OF 'selvedgelaw10.DirsIsolated'. -/
def dirsIsolatedUptoCard : Claim7 := { stood := { row := dirsIsolatedUptoRow, standIns := [], harness := (true, "8c40230cd839658fc8934723b563267a6dd1ea2e511643a5b0cdde49090a6888"), looks := false }, kinds := [], alts := [], laidByText := true, laidKinds := [.data, .widerDeep, .data, .pinned], laidTests := true, laidLooks := .later }
def DirsIsolatedUptoCardSaid : Prop := Claim7.holds Tryz.pinned (.plain (OpenSpec.upto dirsIsolatedSpec)) dirsIsolatedUptoCard

/-- THE SECOND FORM's CARD OF 'selvedgelaw10.DirsKnown'. -/
def dirsKnownUptoCard : Claim7 := { stood := { row := dirsKnownUptoRow, standIns := [], harness := (true, "8c40230cd839658fc8934723b563267a6dd1ea2e511643a5b0cdde49090a6888"), looks := false }, kinds := [], alts := [], laidByText := true, laidKinds := [.data, .widerDeep, .data, .pinned], laidTests := true, laidLooks := .later }
def DirsKnownUptoCardSaid : Prop := Claim7.holds Tryz.pinned (.plain (OpenSpec.upto dirsKnownSpec)) dirsKnownUptoCard
end Rows
end Go.Proofs.YthbanbnmomcohaaGreatDoor
