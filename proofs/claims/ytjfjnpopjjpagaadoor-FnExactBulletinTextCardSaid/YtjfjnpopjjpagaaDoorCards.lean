/-
  DERIVED. GIVEN WITH THE SEED: THE CARDS: each row of YtjfjnpopjjpagaaDoorRows.lean that lists a variable, with what it lists TIED to the program's text (the seventh form; the later family's looks); each row that meets fmt, with fmt's text TOLD by the authors' own Lean function (tested against real Go, not proved from fmt's source: count such statements apart). THE CARD IS WHAT COUNTS. Prove the row's statement (the work); the ties are given (YtjfjnpopjjpagaaDoorTie.lean); close each card by the builder's one call (the guide's Derived/Test/ToyasCard.lean, 'card_holds'). Laid BY PROGRAM, IN A SANDBOX (cutbox-door.mjs). By AI agents, Wed Nov 11 2026. No macro, syntax, notation, axiom, sorry.
-/
import Derived.Test.YtjfjnpopjjpagaaDoorRows
import GoSem.ClaimSeven
namespace Go.Proofs.YtjfjnpopjjpagaaDoor
namespace Rows

/-- THE TIED CARD OF 'laws.FnExactBulletinText'. -/
def fnExactBulletinTextCard : Claim7 := { stood := { row := fnExactBulletinTextRow, standIns := [], harness := (true, "a48ff66f3a032f7a712e0f9abc8b5b1b2c5b94ee3b08ebe771fa9e3a3ff8e4db"), looks := false }, kinds := [], alts := [], laidByText := true, laidKinds := [.data, .data, .data], laidTests := true, laidLooks := .later }
def FnExactBulletinTextCardSaid : Prop := Claim7.holds Tryd.pinned (.plain (OpenSpec.ofChange fnExactBulletinTextSpec)) fnExactBulletinTextCard

/-- THE TIED CARD OF 'laws.FnExactShockText'. -/
def fnExactShockTextCard : Claim7 := { stood := { row := fnExactShockTextRow, standIns := [], harness := (true, "a48ff66f3a032f7a712e0f9abc8b5b1b2c5b94ee3b08ebe771fa9e3a3ff8e4db"), looks := false }, kinds := [], alts := [], laidByText := true, laidKinds := [.data, .data, .data], laidTests := true, laidLooks := .later }
def FnExactShockTextCardSaid : Prop := Claim7.holds Tryd.pinned (.plain (OpenSpec.ofChange fnExactShockTextSpec)) fnExactShockTextCard

/-- THE SECOND FORM's CARD OF 'laws.FnExactBulletinText'. -/
def fnExactBulletinTextUptoCard : Claim7 := { stood := { row := fnExactBulletinTextUptoRow, standIns := [], harness := (true, "a48ff66f3a032f7a712e0f9abc8b5b1b2c5b94ee3b08ebe771fa9e3a3ff8e4db"), looks := false }, kinds := [], alts := [], laidByText := true, laidKinds := [.data, .data, .data], laidTests := true, laidLooks := .later }
def FnExactBulletinTextUptoCardSaid : Prop := Claim7.holds Tryd.pinned (.plain (OpenSpec.upto fnExactBulletinTextSpec)) fnExactBulletinTextUptoCard

/-- THE SECOND FORM's CARD OF 'laws.FnExactShockText'. -/
def fnExactShockTextUptoCard : Claim7 := { stood := { row := fnExactShockTextUptoRow, standIns := [], harness := (true, "a48ff66f3a032f7a712e0f9abc8b5b1b2c5b94ee3b08ebe771fa9e3a3ff8e4db"), looks := false }, kinds := [], alts := [], laidByText := true, laidKinds := [.data, .data, .data], laidTests := true, laidLooks := .later }
def FnExactShockTextUptoCardSaid : Prop := Claim7.holds Tryd.pinned (.plain (OpenSpec.upto fnExactShockTextSpec)) fnExactShockTextUptoCard
end Rows
end Go.Proofs.YtjfjnpopjjpagaaDoor
