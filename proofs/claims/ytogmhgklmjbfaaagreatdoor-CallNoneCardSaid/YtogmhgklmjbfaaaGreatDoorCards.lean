/-
  DERIVED. GIVEN WITH THE SEED: THE CARDS: each row of YtogmhgklmjbfaaaGreatDoorRows.lean that lists a variable, with what it lists TIED to the program's text (the seventh form; the later family's looks); each row that meets fmt, with fmt's text TOLD by the authors' own Lean function (tested against real Go, not proved from fmt's source: count such statements apart). THE CARD IS WHAT COUNTS. Prove the row's statement (the work); the ties are given (YtogmhgklmjbfaaaGreatDoorTie.lean); close each card by the builder's one call (the guide's Derived/Test/ToyasCard.lean, 'card_holds'). Laid BY PROGRAM, IN A SANDBOX (cutbox-door.mjs). By AI agents, Wed Nov 11 2026. No macro, syntax, notation, axiom, sorry.
-/
import Derived.Test.YtogmhgklmjbfaaaGreatDoorRows
import GoSem.ClaimSeven
namespace Go.Proofs.YtogmhgklmjbfaaaGreatDoor
namespace Rows

/-- THE TIED CARD OF 'keystonelaw25.CallNone'. -/
def callNoneCard : Claim7 := { stood := { row := callNoneRow, standIns := [], harness := (true, "6a611dbc56a61ba31e4011d67e32905c2255d5ca23354f2a303a8fc23f4425c4"), looks := true }, kinds := [], alts := [], laidByText := true, laidKinds := [.data, .pinned], laidTests := true, laidLooks := .later }
def CallNoneCardSaid : Prop := Claim7.holds Tryz.pinned (.plain (OpenSpec.ofChange callNoneSpec)) callNoneCard

/-- THE SECOND FORM's CARD OF 'keystonelaw25.CallNone'. -/
def callNoneUptoCard : Claim7 := { stood := { row := callNoneUptoRow, standIns := [], harness := (true, "6a611dbc56a61ba31e4011d67e32905c2255d5ca23354f2a303a8fc23f4425c4"), looks := true }, kinds := [], alts := [], laidByText := true, laidKinds := [.data, .pinned], laidTests := true, laidLooks := .later }
def CallNoneUptoCardSaid : Prop := Claim7.holds Tryz.pinned (.plain (OpenSpec.upto callNoneSpec)) callNoneUptoCard
end Rows
end Go.Proofs.YtogmhgklmjbfaaaGreatDoor
