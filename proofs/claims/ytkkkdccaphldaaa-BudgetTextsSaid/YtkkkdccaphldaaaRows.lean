/-
  No cell of these rows narrows 'for every input' (looked for: loops, veiled, ifaces, maps, wideKeys, modest, calm, conditions, laid).
  DERIVED. THE GIVEN ROWS OF THIS SEAT. 4 by the template 'for every input the law returns true; each argument reads behind the call as it read before'; 0 by the template 'total and deterministic' (their statements: YtkkkdccaphldaaaTotals.lean).
  GIVEN WITH THE SEED: the statements are not yours to turn. If you find one false, say at which input.
  Laid BY PROGRAM, IN A SANDBOX (cutbox-rows.mjs): the forced cells as the released guide's own fill.sh prints them over the translation 5d0de437285c538a… (all of the seat's roots in one cut). By AI agents, Wed Nov 11 2026. No macro, syntax, notation, axiom, sorry.
-/
import Derived.Test.YtkkkdccaphldaaaChecked
import GoSem.Claim
import GoSem.ClaimJoined
import GoSem.ClaimMapViews
import Derived.JoinedTies
import Derived.KernelRfl
namespace Go.Proofs.Ytkkkdccaphldaaa
/- THE CELL 'sum', in the pinned program and in every row, IS THE sha256 OF THE DUMP (.gsa) THAT YtkkkdccaphldaaaProg.lean LOADS. Nothing in Lean hashes anything: it is a label: what it is worth is what the hold of that sum in a sandbox is worth. -/
noncomputable def Try.pinned : Pinned := { name := "ytkkkdccaphldaaa", sum := "5d0de437285c538a82cc6ea6f1ccd3727db6c844929ddeb161788fbf704a1503", checked := Try.checked }
namespace Rows
def none {H : Type} : Left H := { results := [], args := [] }

/-- 'opalinelaw20.BudgetLater': WHATEVER THE INPUT: true; the input reads as it did. -/
def budgetLaterSpec : ChangeSpec := { name := "budgetLater", fn := fun _ => fun
  | [d1, d2, d3, d4, d5] => { results := [.lit (.bool true)], args := [d1, d2, d3, d4, d5] }
  | _ => none }
def budgetLaterRow : OpenClaim := { program := "ytkkkdccaphldaaa", sum := "5d0de437285c538a82cc6ea6f1ccd3727db6c844929ddeb161788fbf704a1503", func := "opaline/opalinelaw20.BudgetLater", spec := "budgetLater", apart := false }
def BudgetLaterSaid : Prop := budgetLaterRow.holds Try.pinned (OpenSpec.ofChange budgetLaterSpec)

/-- ITS FALSE NEIGHBOUR: 'it returns false'. Refute it at one input. -/
def budgetLaterWrong : ChangeSpec := { name := "budgetLater", fn := fun _ => fun
  | [d1, d2, d3, d4, d5] => { results := [.lit (.bool false)], args := [d1, d2, d3, d4, d5] }
  | _ => none }
def BudgetLaterWrongFalsely : Prop := budgetLaterRow.holds Try.pinned (OpenSpec.ofChange budgetLaterWrong)

/-- 'opalinelaw20.BudgetHolds': WHATEVER THE INPUT: true; the input reads as it did. -/
def budgetHoldsSpec : ChangeSpec := { name := "budgetHolds", fn := fun _ => fun
  | [d1, d2, d3] => { results := [.lit (.bool true)], args := [d1, d2, d3] }
  | _ => none }
def budgetHoldsRow : OpenClaim := { program := "ytkkkdccaphldaaa", sum := "5d0de437285c538a82cc6ea6f1ccd3727db6c844929ddeb161788fbf704a1503", func := "opaline/opalinelaw20.BudgetHolds", spec := "budgetHolds", apart := false }
def BudgetHoldsSaid : Prop := budgetHoldsRow.holds Try.pinned (OpenSpec.ofChange budgetHoldsSpec)

/-- ITS FALSE NEIGHBOUR: 'it returns false'. Refute it at one input. -/
def budgetHoldsWrong : ChangeSpec := { name := "budgetHolds", fn := fun _ => fun
  | [d1, d2, d3] => { results := [.lit (.bool false)], args := [d1, d2, d3] }
  | _ => none }
def BudgetHoldsWrongFalsely : Prop := budgetHoldsRow.holds Try.pinned (OpenSpec.ofChange budgetHoldsWrong)

/-- 'opalinelaw20.BudgetSteps': WHATEVER THE INPUT: true; the input reads as it did. -/
def budgetStepsSpec : ChangeSpec := { name := "budgetSteps", fn := fun _ => fun
  | [d1, d2, d3, d4] => { results := [.lit (.bool true)], args := [d1, d2, d3, d4] }
  | _ => none }
def budgetStepsRow : OpenClaim := { program := "ytkkkdccaphldaaa", sum := "5d0de437285c538a82cc6ea6f1ccd3727db6c844929ddeb161788fbf704a1503", func := "opaline/opalinelaw20.BudgetSteps", spec := "budgetSteps", unfollowed := true, recurses := true, apart := false }
def BudgetStepsSaid : Prop := budgetStepsRow.holds Try.pinned (OpenSpec.ofChange budgetStepsSpec)

/-- ITS FALSE NEIGHBOUR: 'it returns false'. Refute it at one input. -/
def budgetStepsWrong : ChangeSpec := { name := "budgetSteps", fn := fun _ => fun
  | [d1, d2, d3, d4] => { results := [.lit (.bool false)], args := [d1, d2, d3, d4] }
  | _ => none }
def BudgetStepsWrongFalsely : Prop := budgetStepsRow.holds Try.pinned (OpenSpec.ofChange budgetStepsWrong)

/-- 'opalinelaw20.BudgetTexts': WHATEVER THE INPUT: true; the input reads as it did. -/
def budgetTextsSpec : ChangeSpec := { name := "budgetTexts", fn := fun _ => fun
  | [d1, d2] => { results := [.lit (.bool true)], args := [d1, d2] }
  | _ => none }
def budgetTextsRow : OpenClaim := { program := "ytkkkdccaphldaaa", sum := "5d0de437285c538a82cc6ea6f1ccd3727db6c844929ddeb161788fbf704a1503", func := "opaline/opalinelaw20.BudgetTexts", spec := "budgetTexts", apart := false }
def BudgetTextsSaid : Prop := budgetTextsRow.holds Try.pinned (OpenSpec.ofChange budgetTextsSpec)

/-- ITS FALSE NEIGHBOUR: 'it returns false'. Refute it at one input. -/
def budgetTextsWrong : ChangeSpec := { name := "budgetTexts", fn := fun _ => fun
  | [d1, d2] => { results := [.lit (.bool false)], args := [d1, d2] }
  | _ => none }
def BudgetTextsWrongFalsely : Prop := budgetTextsRow.holds Try.pinned (OpenSpec.ofChange budgetTextsWrong)

/- THE SECOND FORM. 'bulk': how many values and letters a reading holds, each counted each time it is reached (what is shared counts as often as it is met; a slice's spare places count too). A statement '..UptoSaid' is the law's where the arguments, and the package variables that the reading takes, are together of bulk at most 1048576: NARROWER than '..Said'. Prove '..Said' where nothing that the law and all that it calls make is longer than what came in: it says more and counts as full. Else prove '..UptoSaid'. A law counts once. -/
mutual
def uptoBulk {H : Type} : DataW H → Nat
  | .lit (.string bytes) => bytes.length + 1
  | .lit _ => 1
  | .nil => 1
  | .ptr d => uptoBulk d + 1
  | .slice elems spare => uptoBulkAll elems + uptoBulkAll spare + 1
  | .agg parts => uptoBulkAll parts + 1
  | .iface _ d => uptoBulk d + 1
  | .map entries => uptoBulkEntries entries + 1
  | .held _ => 1
def uptoBulkAll {H : Type} : List (DataW H) → Nat
  | [] => 0
  | d :: r => uptoBulk d + uptoBulkAll r
def uptoBulkEntries {H : Type} : List (Lit × DataW H) → Nat
  | [] => 0
  | x :: r => uptoBulkEntry x + uptoBulkEntries r
def uptoBulkEntry {H : Type} : Lit × DataW H → Nat
  | (.string bytes, d) => bytes.length + uptoBulk d + 1
  | (_, d) => uptoBulk d + 1
 end
def uptoSmall : (H : Type) → List (DataW H) → Bool := fun _ ds => decide (uptoBulkAll ds ≤ 1048576)
def OpenSpec.upto (s : _root_.Go.ChangeSpec) : _root_.Go.OpenSpec := { _root_.Go.OpenSpec.ofChange s with cond := some uptoSmall }

/-- 'opalinelaw20.BudgetLater', WHERE WHAT IT READS IS OF BULK AT MOST 1048576: true; the input reads as it did. -/
def budgetLaterUptoRow : OpenClaim := { program := "ytkkkdccaphldaaa", sum := "5d0de437285c538a82cc6ea6f1ccd3727db6c844929ddeb161788fbf704a1503", func := "opaline/opalinelaw20.BudgetLater", spec := "budgetLater", apart := false, narrowed := true }
def BudgetLaterUptoSaid : Prop := budgetLaterUptoRow.holds Try.pinned (OpenSpec.upto budgetLaterSpec)

/-- 'opalinelaw20.BudgetHolds', WHERE WHAT IT READS IS OF BULK AT MOST 1048576: true; the input reads as it did. -/
def budgetHoldsUptoRow : OpenClaim := { program := "ytkkkdccaphldaaa", sum := "5d0de437285c538a82cc6ea6f1ccd3727db6c844929ddeb161788fbf704a1503", func := "opaline/opalinelaw20.BudgetHolds", spec := "budgetHolds", apart := false, narrowed := true }
def BudgetHoldsUptoSaid : Prop := budgetHoldsUptoRow.holds Try.pinned (OpenSpec.upto budgetHoldsSpec)

/-- 'opalinelaw20.BudgetSteps', WHERE WHAT IT READS IS OF BULK AT MOST 1048576: true; the input reads as it did. -/
def budgetStepsUptoRow : OpenClaim := { program := "ytkkkdccaphldaaa", sum := "5d0de437285c538a82cc6ea6f1ccd3727db6c844929ddeb161788fbf704a1503", func := "opaline/opalinelaw20.BudgetSteps", spec := "budgetSteps", unfollowed := true, recurses := true, apart := false, narrowed := true }
def BudgetStepsUptoSaid : Prop := budgetStepsUptoRow.holds Try.pinned (OpenSpec.upto budgetStepsSpec)

/-- 'opalinelaw20.BudgetTexts', WHERE WHAT IT READS IS OF BULK AT MOST 1048576: true; the input reads as it did. -/
def budgetTextsUptoRow : OpenClaim := { program := "ytkkkdccaphldaaa", sum := "5d0de437285c538a82cc6ea6f1ccd3727db6c844929ddeb161788fbf704a1503", func := "opaline/opalinelaw20.BudgetTexts", spec := "budgetTexts", apart := false, narrowed := true }
def BudgetTextsUptoSaid : Prop := budgetTextsUptoRow.holds Try.pinned (OpenSpec.upto budgetTextsSpec)

end Rows
end Go.Proofs.Ytkkkdccaphldaaa
