/-
  DERIVED. GIVEN WITH THE SEED: THE CARDS: each row of YtehbmooelcjfoaaDoorRows.lean that lists a variable, with what it lists TIED to the program's text (the seventh form; the later family's looks); each row that meets fmt, with fmt's text TOLD by the authors' own Lean function (tested against real Go, not proved from fmt's source: count such statements apart). THE CARD IS WHAT COUNTS. Prove the row's statement (the work); the ties are given (YtehbmooelcjfoaaDoorTie.lean); close each card by the builder's one call (the guide's Derived/Test/ToyasCard.lean, 'card_holds'). Laid BY PROGRAM, IN A SANDBOX (cutbox-door.mjs). By AI agents, Wed Nov 11 2026. No macro, syntax, notation, axiom, sorry.
-/
import Derived.Test.YtehbmooelcjfoaaDoorRows
import GoSem.ClaimSeven
namespace Go.Proofs.YtehbmooelcjfoaaDoor
namespace Rows

/-- THE TIED CARD OF 'opalinelaw29.OracleRenames'. -/
def oracleRenamesCard : Claim7 := { stood := { row := oracleRenamesRow, standIns := [], harness := (true, "3d4777225a5d56b001cf55a21f9aac0e0464368e8e20cc607f323c5de40a7d05"), looks := false }, kinds := [], alts := [], laidByText := true, laidKinds := [.data, .data, .data], laidTests := true, laidLooks := .later }
def OracleRenamesCardSaid : Prop := Claim7.holds Tryd.pinned (.plain (OpenSpec.ofChange oracleRenamesSpec)) oracleRenamesCard

/-- THE TIED CARD OF 'opalinelaw29.OracleAsks'. -/
def oracleAsksCard : Claim7 := { stood := { row := oracleAsksRow, standIns := [], harness := (true, "3d4777225a5d56b001cf55a21f9aac0e0464368e8e20cc607f323c5de40a7d05"), looks := false }, kinds := [], alts := [], laidByText := true, laidKinds := [.data, .data, .data], laidTests := true, laidLooks := .later }
def OracleAsksCardSaid : Prop := Claim7.holds Tryd.pinned (.plain (OpenSpec.ofChange oracleAsksSpec)) oracleAsksCard

/-- THE SECOND FORM's CARD OF 'opalinelaw29.OracleRenames'. -/
def oracleRenamesUptoCard : Claim7 := { stood := { row := oracleRenamesUptoRow, standIns := [], harness := (true, "3d4777225a5d56b001cf55a21f9aac0e0464368e8e20cc607f323c5de40a7d05"), looks := false }, kinds := [], alts := [], laidByText := true, laidKinds := [.data, .data, .data], laidTests := true, laidLooks := .later }
def OracleRenamesUptoCardSaid : Prop := Claim7.holds Tryd.pinned (.plain (OpenSpec.upto oracleRenamesSpec)) oracleRenamesUptoCard

/-- THE SECOND FORM's CARD OF 'opalinelaw29.OracleAsks'. -/
def oracleAsksUptoCard : Claim7 := { stood := { row := oracleAsksUptoRow, standIns := [], harness := (true, "3d4777225a5d56b001cf55a21f9aac0e0464368e8e20cc607f323c5de40a7d05"), looks := false }, kinds := [], alts := [], laidByText := true, laidKinds := [.data, .data, .data], laidTests := true, laidLooks := .later }
def OracleAsksUptoCardSaid : Prop := Claim7.holds Tryd.pinned (.plain (OpenSpec.upto oracleAsksSpec)) oracleAsksUptoCard
end Rows
end Go.Proofs.YtehbmooelcjfoaaDoor
