/-
  DERIVED. GIVEN WITH THE SEED: THE CARDS: each row of YtjdfmhjgboomcaaDoorRows.lean that lists a variable, with what it lists TIED to the program's text (the seventh form; the later family's looks); each row that meets fmt, with fmt's text TOLD by the authors' own Lean function (tested against real Go, not proved from fmt's source: count such statements apart). THE CARD IS WHAT COUNTS. Prove the row's statement (the work); the ties are given (YtjdfmhjgboomcaaDoorTie.lean); close each card by the builder's one call (the guide's Derived/Test/ToyasCard.lean, 'card_holds'). Laid BY PROGRAM, IN A SANDBOX (cutbox-door.mjs). By AI agents, Wed Nov 11 2026. No macro, syntax, notation, axiom, sorry.
-/
import Derived.Test.YtjdfmhjgboomcaaDoorRows
import GoSem.ClaimSeven
namespace Go.Proofs.YtjdfmhjgboomcaaDoor
namespace Rows

/-- THE TIED CARD OF 'laws.FnExactWeekLine'. -/
def fnExactWeekLineCard : Claim7 := { stood := { row := fnExactWeekLineRow, standIns := [], harness := (true, "9185c4620d0816eac9bc0d8e7b98c977a66f61180d8e2fc53856f9e914620b99"), looks := false }, kinds := [], alts := [], laidByText := true, laidKinds := [.data, .data, .data], laidTests := true, laidLooks := .later }
def FnExactWeekLineCardSaid : Prop := Claim7.holds Tryd.pinned (.plain (OpenSpec.ofChange fnExactWeekLineSpec)) fnExactWeekLineCard

/-- THE TIED CARD OF 'laws.FnExactQuakeLine'. -/
def fnExactQuakeLineCard : Claim7 := { stood := { row := fnExactQuakeLineRow, standIns := [], harness := (true, "9185c4620d0816eac9bc0d8e7b98c977a66f61180d8e2fc53856f9e914620b99"), looks := false }, kinds := [], alts := [], laidByText := true, laidKinds := [.data, .data, .data], laidTests := true, laidLooks := .later }
def FnExactQuakeLineCardSaid : Prop := Claim7.holds Tryd.pinned (.plain (OpenSpec.ofChange fnExactQuakeLineSpec)) fnExactQuakeLineCard

/-- THE TIED CARD OF 'laws.FnExactWeekReport'. -/
def fnExactWeekReportCard : Claim7 := { stood := { row := fnExactWeekReportRow, standIns := [], harness := (true, "9185c4620d0816eac9bc0d8e7b98c977a66f61180d8e2fc53856f9e914620b99"), looks := false }, kinds := [], alts := [], laidByText := true, laidKinds := [.data, .data, .data], laidTests := true, laidLooks := .later }
def FnExactWeekReportCardSaid : Prop := Claim7.holds Tryd.pinned (.plain (OpenSpec.ofChange fnExactWeekReportSpec)) fnExactWeekReportCard

/-- THE SECOND FORM's CARD OF 'laws.FnExactWeekLine'. -/
def fnExactWeekLineUptoCard : Claim7 := { stood := { row := fnExactWeekLineUptoRow, standIns := [], harness := (true, "9185c4620d0816eac9bc0d8e7b98c977a66f61180d8e2fc53856f9e914620b99"), looks := false }, kinds := [], alts := [], laidByText := true, laidKinds := [.data, .data, .data], laidTests := true, laidLooks := .later }
def FnExactWeekLineUptoCardSaid : Prop := Claim7.holds Tryd.pinned (.plain (OpenSpec.upto fnExactWeekLineSpec)) fnExactWeekLineUptoCard

/-- THE SECOND FORM's CARD OF 'laws.FnExactQuakeLine'. -/
def fnExactQuakeLineUptoCard : Claim7 := { stood := { row := fnExactQuakeLineUptoRow, standIns := [], harness := (true, "9185c4620d0816eac9bc0d8e7b98c977a66f61180d8e2fc53856f9e914620b99"), looks := false }, kinds := [], alts := [], laidByText := true, laidKinds := [.data, .data, .data], laidTests := true, laidLooks := .later }
def FnExactQuakeLineUptoCardSaid : Prop := Claim7.holds Tryd.pinned (.plain (OpenSpec.upto fnExactQuakeLineSpec)) fnExactQuakeLineUptoCard

/-- THE SECOND FORM's CARD OF 'laws.FnExactWeekReport'. -/
def fnExactWeekReportUptoCard : Claim7 := { stood := { row := fnExactWeekReportUptoRow, standIns := [], harness := (true, "9185c4620d0816eac9bc0d8e7b98c977a66f61180d8e2fc53856f9e914620b99"), looks := false }, kinds := [], alts := [], laidByText := true, laidKinds := [.data, .data, .data], laidTests := true, laidLooks := .later }
def FnExactWeekReportUptoCardSaid : Prop := Claim7.holds Tryd.pinned (.plain (OpenSpec.upto fnExactWeekReportSpec)) fnExactWeekReportUptoCard
end Rows
end Go.Proofs.YtjdfmhjgboomcaaDoor
