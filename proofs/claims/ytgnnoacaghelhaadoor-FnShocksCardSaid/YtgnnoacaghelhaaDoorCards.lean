/-
  DERIVED. GIVEN WITH THE SEED: THE CARDS: each row of YtgnnoacaghelhaaDoorRows.lean that lists a variable, with what it lists TIED to the program's text (the seventh form; the later family's looks); each row that meets fmt, with fmt's text TOLD by the authors' own Lean function (tested against real Go, not proved from fmt's source: count such statements apart). THE CARD IS WHAT COUNTS. Prove the row's statement (the work); the ties are given (YtgnnoacaghelhaaDoorTie.lean); close each card by the builder's one call (the guide's Derived/Test/ToyasCard.lean, 'card_holds'). Laid BY PROGRAM, IN A SANDBOX (cutbox-door.mjs). By AI agents, Wed Nov 11 2026. No macro, syntax, notation, axiom, sorry.
-/
import Derived.Test.YtgnnoacaghelhaaDoorRows
import GoSem.ClaimSeven
namespace Go.Proofs.YtgnnoacaghelhaaDoor
namespace Rows

/-- THE TIED CARD OF 'laws.FnWeeks'. -/
def fnWeeksCard : Claim7 := { stood := { row := fnWeeksRow, standIns := [], harness := (true, "437dd5dc7f170e1900d5c5239933cdc1a28a38e17def66d644bd3e65b0b2e4d5"), looks := true }, kinds := [], alts := [], laidByText := true, laidKinds := [.data, .data, .data], laidTests := true, laidLooks := .later }
def FnWeeksCardSaid : Prop := Claim7.holds Tryd.pinned (.plain (OpenSpec.ofChange fnWeeksSpec)) fnWeeksCard

/-- THE TIED CARD OF 'laws.FnShocks'. -/
def fnShocksCard : Claim7 := { stood := { row := fnShocksRow, standIns := [], harness := (true, "437dd5dc7f170e1900d5c5239933cdc1a28a38e17def66d644bd3e65b0b2e4d5"), looks := true }, kinds := [], alts := [], laidByText := true, laidKinds := [.data, .data, .data], laidTests := true, laidLooks := .later }
def FnShocksCardSaid : Prop := Claim7.holds Tryd.pinned (.plain (OpenSpec.ofChange fnShocksSpec)) fnShocksCard

/-- THE TIED CARD OF 'laws.FnExactParseQuake'. -/
def fnExactParseQuakeCard : Claim7 := { stood := { row := fnExactParseQuakeRow, standIns := [], harness := (true, "437dd5dc7f170e1900d5c5239933cdc1a28a38e17def66d644bd3e65b0b2e4d5"), looks := true }, kinds := [], alts := [], laidByText := true, laidKinds := [.data, .data, .data, .data, .sentinel, .sentinel, .pinned], laidTests := true, laidLooks := .later }
def FnExactParseQuakeCardSaid : Prop := Claim7.holds Tryd.pinned (.plain (OpenSpec.ofChange fnExactParseQuakeSpec)) fnExactParseQuakeCard

/-- THE TIED CARD OF 'laws.FnForgetting'. -/
def fnForgettingCard : Claim7 := { stood := { row := fnForgettingRow, standIns := [], harness := (true, "437dd5dc7f170e1900d5c5239933cdc1a28a38e17def66d644bd3e65b0b2e4d5"), looks := true }, kinds := [], alts := [], laidByText := true, laidKinds := [.data, .data, .data], laidTests := true, laidLooks := .later }
def FnForgettingCardSaid : Prop := Claim7.holds Tryd.pinned (.plain (OpenSpec.ofChange fnForgettingSpec)) fnForgettingCard

/-- THE SECOND FORM's CARD OF 'laws.FnWeeks'. -/
def fnWeeksUptoCard : Claim7 := { stood := { row := fnWeeksUptoRow, standIns := [], harness := (true, "437dd5dc7f170e1900d5c5239933cdc1a28a38e17def66d644bd3e65b0b2e4d5"), looks := true }, kinds := [], alts := [], laidByText := true, laidKinds := [.data, .data, .data], laidTests := true, laidLooks := .later }
def FnWeeksUptoCardSaid : Prop := Claim7.holds Tryd.pinned (.plain (OpenSpec.upto fnWeeksSpec)) fnWeeksUptoCard

/-- THE SECOND FORM's CARD OF 'laws.FnShocks'. -/
def fnShocksUptoCard : Claim7 := { stood := { row := fnShocksUptoRow, standIns := [], harness := (true, "437dd5dc7f170e1900d5c5239933cdc1a28a38e17def66d644bd3e65b0b2e4d5"), looks := true }, kinds := [], alts := [], laidByText := true, laidKinds := [.data, .data, .data], laidTests := true, laidLooks := .later }
def FnShocksUptoCardSaid : Prop := Claim7.holds Tryd.pinned (.plain (OpenSpec.upto fnShocksSpec)) fnShocksUptoCard

/-- THE SECOND FORM's CARD OF 'laws.FnExactParseQuake'. -/
def fnExactParseQuakeUptoCard : Claim7 := { stood := { row := fnExactParseQuakeUptoRow, standIns := [], harness := (true, "437dd5dc7f170e1900d5c5239933cdc1a28a38e17def66d644bd3e65b0b2e4d5"), looks := true }, kinds := [], alts := [], laidByText := true, laidKinds := [.data, .data, .data, .data, .sentinel, .sentinel, .pinned], laidTests := true, laidLooks := .later }
def FnExactParseQuakeUptoCardSaid : Prop := Claim7.holds Tryd.pinned (.plain (OpenSpec.upto fnExactParseQuakeSpec)) fnExactParseQuakeUptoCard

/-- THE SECOND FORM's CARD OF 'laws.FnForgetting'. -/
def fnForgettingUptoCard : Claim7 := { stood := { row := fnForgettingUptoRow, standIns := [], harness := (true, "437dd5dc7f170e1900d5c5239933cdc1a28a38e17def66d644bd3e65b0b2e4d5"), looks := true }, kinds := [], alts := [], laidByText := true, laidKinds := [.data, .data, .data], laidTests := true, laidLooks := .later }
def FnForgettingUptoCardSaid : Prop := Claim7.holds Tryd.pinned (.plain (OpenSpec.upto fnForgettingSpec)) fnForgettingUptoCard
end Rows
end Go.Proofs.YtgnnoacaghelhaaDoor
