/-
  DERIVED. GIVEN WITH THE SEED: THE CARDS: each row of YtejpoojgbnppoaaDoorRows.lean that lists a variable, with what it lists TIED to the program's text (the seventh form; the later family's looks); each row that meets fmt, with fmt's text TOLD by the authors' own Lean function (tested against real Go, not proved from fmt's source: count such statements apart). THE CARD IS WHAT COUNTS. Prove the row's statement (the work); the ties are given (YtejpoojgbnppoaaDoorTie.lean); close each card by the builder's one call (the guide's Derived/Test/ToyasCard.lean, 'card_holds'). Laid BY PROGRAM, IN A SANDBOX (cutbox-door.mjs). By AI agents, Wed Nov 11 2026. No macro, syntax, notation, axiom, sorry.
-/
import Derived.Test.YtejpoojgbnppoaaDoorRows
import GoSem.ClaimSeven
namespace Go.Proofs.YtejpoojgbnppoaaDoor
namespace Rows

/-- THE TIED CARD OF 'opalinelaw28.TermRaises'. -/
def termRaisesCard : Claim7 := { stood := { row := termRaisesRow, standIns := [], harness := (true, "345aae0dff5efe43879dfbd22c58009ff6dde9a7f4e3fca42df3e5cdb7eb142f"), looks := false }, kinds := [], alts := [], laidByText := true, laidKinds := [.data, .data, .data], laidTests := true, laidLooks := .later }
def TermRaisesCardSaid : Prop := Claim7.holds Tryd.pinned (.plain (OpenSpec.ofChange termRaisesSpec)) termRaisesCard

/-- THE TIED CARD OF 'opalinelaw28.TermTexts'. -/
def termTextsCard : Claim7 := { stood := { row := termTextsRow, standIns := [], harness := (true, "345aae0dff5efe43879dfbd22c58009ff6dde9a7f4e3fca42df3e5cdb7eb142f"), looks := false }, kinds := [], alts := [], laidByText := true, laidKinds := [.data, .data, .data], laidTests := true, laidLooks := .later }
def TermTextsCardSaid : Prop := Claim7.holds Tryd.pinned (.plain (OpenSpec.ofChange termTextsSpec)) termTextsCard

/-- THE TIED CARD OF 'opalinelaw28.TermNormal'. -/
def termNormalCard : Claim7 := { stood := { row := termNormalRow, standIns := [], harness := (true, "345aae0dff5efe43879dfbd22c58009ff6dde9a7f4e3fca42df3e5cdb7eb142f"), looks := false }, kinds := [], alts := [], laidByText := true, laidKinds := [.data, .data, .data], laidTests := true, laidLooks := .later }
def TermNormalCardSaid : Prop := Claim7.holds Tryd.pinned (.plain (OpenSpec.ofChange termNormalSpec)) termNormalCard

/-- THE TIED CARD OF 'opalinelaw28.TermRenames'. -/
def termRenamesCard : Claim7 := { stood := { row := termRenamesRow, standIns := [], harness := (true, "345aae0dff5efe43879dfbd22c58009ff6dde9a7f4e3fca42df3e5cdb7eb142f"), looks := false }, kinds := [], alts := [], laidByText := true, laidKinds := [.data, .data, .data], laidTests := true, laidLooks := .later }
def TermRenamesCardSaid : Prop := Claim7.holds Tryd.pinned (.plain (OpenSpec.ofChange termRenamesSpec)) termRenamesCard

/-- THE SECOND FORM's CARD OF 'opalinelaw28.TermRaises'. -/
def termRaisesUptoCard : Claim7 := { stood := { row := termRaisesUptoRow, standIns := [], harness := (true, "345aae0dff5efe43879dfbd22c58009ff6dde9a7f4e3fca42df3e5cdb7eb142f"), looks := false }, kinds := [], alts := [], laidByText := true, laidKinds := [.data, .data, .data], laidTests := true, laidLooks := .later }
def TermRaisesUptoCardSaid : Prop := Claim7.holds Tryd.pinned (.plain (OpenSpec.upto termRaisesSpec)) termRaisesUptoCard

/-- THE SECOND FORM's CARD OF 'opalinelaw28.TermTexts'. -/
def termTextsUptoCard : Claim7 := { stood := { row := termTextsUptoRow, standIns := [], harness := (true, "345aae0dff5efe43879dfbd22c58009ff6dde9a7f4e3fca42df3e5cdb7eb142f"), looks := false }, kinds := [], alts := [], laidByText := true, laidKinds := [.data, .data, .data], laidTests := true, laidLooks := .later }
def TermTextsUptoCardSaid : Prop := Claim7.holds Tryd.pinned (.plain (OpenSpec.upto termTextsSpec)) termTextsUptoCard

/-- THE SECOND FORM's CARD OF 'opalinelaw28.TermNormal'. -/
def termNormalUptoCard : Claim7 := { stood := { row := termNormalUptoRow, standIns := [], harness := (true, "345aae0dff5efe43879dfbd22c58009ff6dde9a7f4e3fca42df3e5cdb7eb142f"), looks := false }, kinds := [], alts := [], laidByText := true, laidKinds := [.data, .data, .data], laidTests := true, laidLooks := .later }
def TermNormalUptoCardSaid : Prop := Claim7.holds Tryd.pinned (.plain (OpenSpec.upto termNormalSpec)) termNormalUptoCard

/-- THE SECOND FORM's CARD OF 'opalinelaw28.TermRenames'. -/
def termRenamesUptoCard : Claim7 := { stood := { row := termRenamesUptoRow, standIns := [], harness := (true, "345aae0dff5efe43879dfbd22c58009ff6dde9a7f4e3fca42df3e5cdb7eb142f"), looks := false }, kinds := [], alts := [], laidByText := true, laidKinds := [.data, .data, .data], laidTests := true, laidLooks := .later }
def TermRenamesUptoCardSaid : Prop := Claim7.holds Tryd.pinned (.plain (OpenSpec.upto termRenamesSpec)) termRenamesUptoCard
end Rows
end Go.Proofs.YtejpoojgbnppoaaDoor
