/-
  DERIVED. GIVEN WITH THE SEED: THE CARDS: each row of YtmkoadgphhkfgaaDoorRows.lean that lists a variable, with what it lists TIED to the program's text (the seventh form; the later family's looks); each row that meets fmt, with fmt's text TOLD by the authors' own Lean function (tested against real Go, not proved from fmt's source: count such statements apart). THE CARD IS WHAT COUNTS. Prove the row's statement (the work); the ties are given (YtmkoadgphhkfgaaDoorTie.lean); close each card by the builder's one call (the guide's Derived/Test/ToyasCard.lean, 'card_holds'). Laid BY PROGRAM, IN A SANDBOX (cutbox-door.mjs). By AI agents, Wed Nov 11 2026. No macro, syntax, notation, axiom, sorry.
-/
import Derived.Test.YtmkoadgphhkfgaaDoorRows
import GoSem.ClaimSeven
namespace Go.Proofs.YtmkoadgphhkfgaaDoor
namespace Rows

/-- THE TIED CARD OF 'swagetop.TopMelted'. -/
def topMeltedCard : Claim7 := { stood := { row := topMeltedRow, standIns := [], harness := (true, "89e20bbb8128a4b91f20a368cbfefff4709939861db6bea3d4a03824b2275c8c"), looks := false }, kinds := [], alts := [], laidByText := true, laidKinds := [.data, .data], laidTests := true, laidLooks := .later }
def TopMeltedCardSaid : Prop := Claim7.holds Tryd.pinned (.plain (OpenSpec.ofChange topMeltedSpec)) topMeltedCard

/-- THE TIED CARD OF 'swagetop.TopPacked'. -/
def topPackedCard : Claim7 := { stood := { row := topPackedRow, standIns := [], harness := (true, "89e20bbb8128a4b91f20a368cbfefff4709939861db6bea3d4a03824b2275c8c"), looks := false }, kinds := [], alts := [], laidByText := true, laidKinds := [.data, .data], laidTests := true, laidLooks := .later }
def TopPackedCardSaid : Prop := Claim7.holds Tryd.pinned (.plain (OpenSpec.ofChange topPackedSpec)) topPackedCard

/-- THE SECOND FORM's CARD OF 'swagetop.TopMelted'. -/
def topMeltedUptoCard : Claim7 := { stood := { row := topMeltedUptoRow, standIns := [], harness := (true, "89e20bbb8128a4b91f20a368cbfefff4709939861db6bea3d4a03824b2275c8c"), looks := false }, kinds := [], alts := [], laidByText := true, laidKinds := [.data, .data], laidTests := true, laidLooks := .later }
def TopMeltedUptoCardSaid : Prop := Claim7.holds Tryd.pinned (.plain (OpenSpec.upto topMeltedSpec)) topMeltedUptoCard

/-- THE SECOND FORM's CARD OF 'swagetop.TopPacked'. -/
def topPackedUptoCard : Claim7 := { stood := { row := topPackedUptoRow, standIns := [], harness := (true, "89e20bbb8128a4b91f20a368cbfefff4709939861db6bea3d4a03824b2275c8c"), looks := false }, kinds := [], alts := [], laidByText := true, laidKinds := [.data, .data], laidTests := true, laidLooks := .later }
def TopPackedUptoCardSaid : Prop := Claim7.holds Tryd.pinned (.plain (OpenSpec.upto topPackedSpec)) topPackedUptoCard
end Rows
end Go.Proofs.YtmkoadgphhkfgaaDoor
