/-
  DERIVED. GIVEN WITH THE SEED: THE CARDS: each row of YtfdikfpnkgglkaaGreatDoorRows.lean that lists a variable, with what it lists TIED to the program's text (the seventh form; the later family's looks); each row that meets fmt, with fmt's text TOLD by the authors' own Lean function (tested against real Go, not proved from fmt's source: count such statements apart). THE CARD IS WHAT COUNTS. Prove the row's statement (the work); the ties are given (YtfdikfpnkgglkaaGreatDoorTie.lean); close each card by the builder's one call (the guide's Derived/Test/ToyasCard.lean, 'card_holds'). Laid BY PROGRAM, IN A SANDBOX (cutbox-door.mjs). By AI agents, Wed Nov 11 2026. No macro, syntax, notation, axiom, sorry.
-/
import Derived.Test.YtfdikfpnkgglkaaGreatDoorRows
import GoSem.ClaimSeven
namespace Go.Proofs.YtfdikfpnkgglkaaGreatDoor
namespace Rows

/-- THE TIED CARD OF 'laws.FnBulletins'. -/
def fnBulletinsCard : Claim7 := { stood := { row := fnBulletinsRow, standIns := [], harness := (true, "5fc2498816ccac07bb51dbdb094292016eb251f5876e438c5713bd02a5bf4447"), looks := true }, kinds := [], alts := [], laidByText := true, laidKinds := [.data, .data, .data, .data, .sentinel, .sentinel, .pinned], laidTests := true, laidLooks := .later }
def FnBulletinsCardSaid : Prop := Claim7.holds Tryz.pinned (.plain (OpenSpec.ofChange fnBulletinsSpec)) fnBulletinsCard

/-- THE SECOND FORM's CARD OF 'laws.FnBulletins'. -/
def fnBulletinsUptoCard : Claim7 := { stood := { row := fnBulletinsUptoRow, standIns := [], harness := (true, "5fc2498816ccac07bb51dbdb094292016eb251f5876e438c5713bd02a5bf4447"), looks := true }, kinds := [], alts := [], laidByText := true, laidKinds := [.data, .data, .data, .data, .sentinel, .sentinel, .pinned], laidTests := true, laidLooks := .later }
def FnBulletinsUptoCardSaid : Prop := Claim7.holds Tryz.pinned (.plain (OpenSpec.upto fnBulletinsSpec)) fnBulletinsUptoCard
end Rows
end Go.Proofs.YtfdikfpnkgglkaaGreatDoor
