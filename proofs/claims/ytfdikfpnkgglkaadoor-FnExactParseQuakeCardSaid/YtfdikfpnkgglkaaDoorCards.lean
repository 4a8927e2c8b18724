/-
  DERIVED. GIVEN WITH THE SEED: THE CARDS: each row of YtfdikfpnkgglkaaDoorRows.lean that lists a variable, with what it lists TIED to the program's text (the seventh form; the later family's looks); each row that meets fmt, with fmt's text TOLD by the authors' own Lean function (tested against real Go, not proved from fmt's source: count such statements apart). THE CARD IS WHAT COUNTS. Prove the row's statement (the work); the ties are given (YtfdikfpnkgglkaaDoorTie.lean); close each card by the builder's one call (the guide's Derived/Test/ToyasCard.lean, 'card_holds'). Laid BY PROGRAM, IN A SANDBOX (cutbox-door.mjs). By AI agents, Wed Nov 11 2026. No macro, syntax, notation, axiom, sorry.
-/
import Derived.Test.YtfdikfpnkgglkaaDoorRows
import GoSem.ClaimSeven
namespace Go.Proofs.YtfdikfpnkgglkaaDoor
namespace Rows

/-- THE TIED CARD OF 'laws.FnExactParseQuake'. -/
def fnExactParseQuakeCard : Claim7 := { stood := { row := fnExactParseQuakeRow, standIns := [], harness := (true, "efdd2841d9399f604a6e8517f554ec0c55e1e1f897e900cfa6d7b1ad5b84f503"), looks := true }, kinds := [], alts := [], laidByText := true, laidKinds := [.data, .data, .data, .data, .sentinel, .sentinel, .pinned], laidTests := true, laidLooks := .later }
def FnExactParseQuakeCardSaid : Prop := Claim7.holds Tryd.pinned (.plain (OpenSpec.ofChange fnExactParseQuakeSpec)) fnExactParseQuakeCard

/-- THE SECOND FORM's CARD OF 'laws.FnExactParseQuake'. -/
def fnExactParseQuakeUptoCard : Claim7 := { stood := { row := fnExactParseQuakeUptoRow, standIns := [], harness := (true, "efdd2841d9399f604a6e8517f554ec0c55e1e1f897e900cfa6d7b1ad5b84f503"), looks := true }, kinds := [], alts := [], laidByText := true, laidKinds := [.data, .data, .data, .data, .sentinel, .sentinel, .pinned], laidTests := true, laidLooks := .later }
def FnExactParseQuakeUptoCardSaid : Prop := Claim7.holds Tryd.pinned (.plain (OpenSpec.upto fnExactParseQuakeSpec)) fnExactParseQuakeUptoCard
end Rows
end Go.Proofs.YtfdikfpnkgglkaaDoor
