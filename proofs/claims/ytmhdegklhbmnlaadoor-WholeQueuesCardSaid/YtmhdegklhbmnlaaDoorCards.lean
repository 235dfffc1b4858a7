/-
  DERIVED. GIVEN WITH THE SEED: THE CARDS: each row of YtmhdegklhbmnlaaDoorRows.lean that lists a variable, with what it lists TIED to the program's text (the seventh form; the later family's looks); each row that meets fmt, with fmt's text TOLD by the authors' own Lean function (tested against real Go, not proved from fmt's source: count such statements apart). THE CARD IS WHAT COUNTS. Prove the row's statement (the work); the ties are given (YtmhdegklhbmnlaaDoorTie.lean); close each card by the builder's one call (the guide's Derived/Test/ToyasCard.lean, 'card_holds'). Laid BY PROGRAM, IN A SANDBOX (cutbox-door.mjs). By AI agents, Wed Nov 11 2026. No macro, syntax, notation, axiom, sorry.
-/
import Derived.Test.YtmhdegklhbmnlaaDoorRows
import GoSem.ClaimSeven
namespace Go.Proofs.YtmhdegklhbmnlaaDoor
namespace Rows

/-- THE TIED CARD OF 'workflowtop.WholeQueues'. -/
def wholeQueuesCard : Claim7 := { stood := { row := wholeQueuesRow, standIns := [], harness := (true, "d76089715c2ab298d3af4689d2b2d19a3f3189fb8313761069e9992aece405ef"), looks := false }, kinds := [], alts := [], laidByText := true, laidKinds := [.data, .data, .data], laidTests := true, laidLooks := .later }
def WholeQueuesCardSaid : Prop := Claim7.holds Tryd.pinned (.plain (OpenSpec.ofChange wholeQueuesSpec)) wholeQueuesCard

/-- THE SECOND FORM's CARD OF 'workflowtop.WholeQueues'. -/
def wholeQueuesUptoCard : Claim7 := { stood := { row := wholeQueuesUptoRow, standIns := [], harness := (true, "d76089715c2ab298d3af4689d2b2d19a3f3189fb8313761069e9992aece405ef"), looks := false }, kinds := [], alts := [], laidByText := true, laidKinds := [.data, .data, .data], laidTests := true, laidLooks := .later }
def WholeQueuesUptoCardSaid : Prop := Claim7.holds Tryd.pinned (.plain (OpenSpec.upto wholeQueuesSpec)) wholeQueuesUptoCard
end Rows
end Go.Proofs.YtmhdegklhbmnlaaDoor
