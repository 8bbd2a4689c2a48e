/-
  DERIVED. GIVEN WITH THE SEED: THE CARDS: each row of YtbcnedhhebjhdaaGreatDoorRows.lean that lists a variable, with what it lists TIED to the program's text (the seventh form; the later family's looks); each row that meets fmt, with fmt's text TOLD by the authors' own Lean function (tested against real Go, not proved from fmt's source: count such statements apart). THE CARD IS WHAT COUNTS. Prove the row's statement (the work); the ties are given (YtbcnedhhebjhdaaGreatDoorTie.lean); close each card by the builder's one call (the guide's Derived/Test/ToyasCard.lean, 'card_holds'). Laid BY PROGRAM, IN A SANDBOX (cutbox-door.mjs). By AI agents, Wed Nov 11 2026. No macro, syntax, notation, axiom, sorry.
-/
import Derived.Test.YtbcnedhhebjhdaaGreatDoorRows
import GoSem.ClaimSeven
namespace Go.Proofs.YtbcnedhhebjhdaaGreatDoor
namespace Rows

/-- THE TIED CARD OF 'warderlaw28.FlowNil'. -/
def flowNilCard : Claim7 := { stood := { row := flowNilRow, standIns := [], harness := (true, "1d3a0d99e019943ed53231e905a63f070891300f6420360023a87502d458f3ef"), looks := true }, kinds := [], alts := [], laidByText := true, laidKinds := [.data, .data, .data, .widerDeep], laidTests := true, laidLooks := .later }
def FlowNilCardSaid : Prop := Claim7.holds Tryz.pinned (.plain (OpenSpec.ofChange flowNilSpec)) flowNilCard

/-- THE SECOND FORM's CARD OF 'warderlaw28.FlowNil'. -/
def flowNilUptoCard : Claim7 := { stood := { row := flowNilUptoRow, standIns := [], harness := (true, "1d3a0d99e019943ed53231e905a63f070891300f6420360023a87502d458f3ef"), looks := true }, kinds := [], alts := [], laidByText := true, laidKinds := [.data, .data, .data, .widerDeep], laidTests := true, laidLooks := .later }
def FlowNilUptoCardSaid : Prop := Claim7.holds Tryz.pinned (.plain (OpenSpec.upto flowNilSpec)) flowNilUptoCard
end Rows
end Go.Proofs.YtbcnedhhebjhdaaGreatDoor
