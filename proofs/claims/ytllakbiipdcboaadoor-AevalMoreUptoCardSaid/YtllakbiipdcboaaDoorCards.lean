/-
  DERIVED. GIVEN WITH THE SEED: THE CARDS: each row of YtllakbiipdcboaaDoorRows.lean that lists a variable, with what it lists TIED to the program's text (the seventh form; the later family's looks); each row that meets fmt, with fmt's text TOLD by the authors' own Lean function (tested against real Go, not proved from fmt's source: count such statements apart). THE CARD IS WHAT COUNTS. Prove the row's statement (the work); the ties are given (YtllakbiipdcboaaDoorTie.lean); close each card by the builder's one call (the guide's Derived/Test/ToyasCard.lean, 'card_holds'). Laid BY PROGRAM, IN A SANDBOX (cutbox-door.mjs). By AI agents, Wed Nov 11 2026. No macro, syntax, notation, axiom, sorry.
-/
import Derived.Test.YtllakbiipdcboaaDoorRows
import GoSem.ClaimSeven
namespace Go.Proofs.YtllakbiipdcboaaDoor
namespace Rows

/-- THE TIED CARD OF 'camletlaw24.AevalMore'. -/
def aevalMoreCard : Claim7 := { stood := { row := aevalMoreRow, standIns := [], harness := (true, "046ff4054491b1f0fa9bc5cb433fcbe23c06e304d7f7e2cb38f6aa21dda2b767"), looks := true }, kinds := [], alts := [], laidByText := true, laidKinds := [.data], laidTests := true, laidLooks := .later }
def AevalMoreCardSaid : Prop := Claim7.holds Tryd.pinned (.plain (OpenSpec.ofChange aevalMoreSpec)) aevalMoreCard

/-- THE SECOND FORM's CARD OF 'camletlaw24.AevalMore'. -/
def aevalMoreUptoCard : Claim7 := { stood := { row := aevalMoreUptoRow, standIns := [], harness := (true, "046ff4054491b1f0fa9bc5cb433fcbe23c06e304d7f7e2cb38f6aa21dda2b767"), looks := true }, kinds := [], alts := [], laidByText := true, laidKinds := [.data], laidTests := true, laidLooks := .later }
def AevalMoreUptoCardSaid : Prop := Claim7.holds Tryd.pinned (.plain (OpenSpec.upto aevalMoreSpec)) aevalMoreUptoCard
end Rows
end Go.Proofs.YtllakbiipdcboaaDoor
