/-
  DERIVED. GIVEN WITH THE SEED: THE CARDS: each row of YtmopbdalpkcffaaDoorRows.lean that lists a variable, with what it lists TIED to the program's text (the seventh form; the later family's looks); each row that meets fmt, with fmt's text TOLD by the authors' own Lean function (tested against real Go, not proved from fmt's source: count such statements apart). THE CARD IS WHAT COUNTS. Prove the row's statement (the work); the ties are given (YtmopbdalpkcffaaDoorTie.lean); close each card by the builder's one call (the guide's Derived/Test/ToyasCard.lean, 'card_holds'). Laid BY PROGRAM, IN A SANDBOX (cutbox-door.mjs). By AI agents, Wed Nov 11 2026. No macro, syntax, notation, axiom, sorry.
-/
import Derived.Test.YtmopbdalpkcffaaDoorRows
import GoSem.ClaimSeven
namespace Go.Proofs.YtmopbdalpkcffaaDoor
namespace Rows

/-- THE TIED CARD OF 'lunettelaw40.CountSums'. -/
def countSumsCard : Claim7 := { stood := { row := countSumsRow, standIns := [], harness := (true, "402897aa00efee9f0a066fc9dee0f51cc6d1592b712b871cef867ddc9e6475ab"), looks := false }, kinds := [], alts := [], laidByText := true, laidKinds := [.data, .data, .data], laidTests := true, laidLooks := .later }
def CountSumsCardSaid : Prop := Claim7.holds Tryd.pinned (.plain (OpenSpec.ofChange countSumsSpec)) countSumsCard

/-- THE SECOND FORM's CARD OF 'lunettelaw40.CountSums'. -/
def countSumsUptoCard : Claim7 := { stood := { row := countSumsUptoRow, standIns := [], harness := (true, "402897aa00efee9f0a066fc9dee0f51cc6d1592b712b871cef867ddc9e6475ab"), looks := false }, kinds := [], alts := [], laidByText := true, laidKinds := [.data, .data, .data], laidTests := true, laidLooks := .later }
def CountSumsUptoCardSaid : Prop := Claim7.holds Tryd.pinned (.plain (OpenSpec.upto countSumsSpec)) countSumsUptoCard
end Rows
end Go.Proofs.YtmopbdalpkcffaaDoor
