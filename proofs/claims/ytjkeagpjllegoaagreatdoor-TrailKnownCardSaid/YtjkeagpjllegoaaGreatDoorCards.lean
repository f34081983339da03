/-
  DERIVED. GIVEN WITH THE SEED: THE CARDS: each row of YtjkeagpjllegoaaGreatDoorRows.lean that lists a variable, with what it lists TIED to the program's text (the seventh form; the later family's looks); each row that meets fmt, with fmt's text TOLD by the authors' own Lean function (tested against real Go, not proved from fmt's source: count such statements apart). THE CARD IS WHAT COUNTS. Prove the row's statement (the work); the ties are given (YtjkeagpjllegoaaGreatDoorTie.lean); close each card by the builder's one call (the guide's Derived/Test/ToyasCard.lean, 'card_holds'). Laid BY PROGRAM, IN A SANDBOX (cutbox-door.mjs). By AI agents, Wed Nov 11 2026. No macro, syntax, notation, axiom, sorry.
-/
import Derived.Test.YtjkeagpjllegoaaGreatDoorRows
import GoSem.ClaimSeven
namespace Go.Proofs.YtjkeagpjllegoaaGreatDoor
namespace Rows

/-- THE TIED CARD OF 'louverlaw30.TrailKnown'. -/
def trailKnownCard : Claim7 := { stood := { row := trailKnownRow, standIns := [], harness := (true, "f78941bbdf42e4b28655fe6aedb30b3423ef2764f3cd36a19f9569f09e86ec25"), looks := false }, kinds := [], alts := [], laidByText := true, laidKinds := [.data], laidTests := true, laidLooks := .later }
def TrailKnownCardSaid : Prop := Claim7.holds Tryz.pinned (.plain (OpenSpec.ofChange trailKnownSpec)) trailKnownCard

/-- THE SECOND FORM's CARD OF 'louverlaw30.TrailKnown'. -/
def trailKnownUptoCard : Claim7 := { stood := { row := trailKnownUptoRow, standIns := [], harness := (true, "f78941bbdf42e4b28655fe6aedb30b3423ef2764f3cd36a19f9569f09e86ec25"), looks := false }, kinds := [], alts := [], laidByText := true, laidKinds := [.data], laidTests := true, laidLooks := .later }
def TrailKnownUptoCardSaid : Prop := Claim7.holds Tryz.pinned (.plain (OpenSpec.upto trailKnownSpec)) trailKnownUptoCard
end Rows
end Go.Proofs.YtjkeagpjllegoaaGreatDoor
