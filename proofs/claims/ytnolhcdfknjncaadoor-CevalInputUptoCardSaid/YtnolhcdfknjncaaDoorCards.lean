/-
  DERIVED. GIVEN WITH THE SEED: THE CARDS: each row of YtnolhcdfknjncaaDoorRows.lean that lists a variable, with what it lists TIED to the program's text (the seventh form; the later family's looks); each row that meets fmt, with fmt's text TOLD by the authors' own Lean function (tested against real Go, not proved from fmt's source: count such statements apart). THE CARD IS WHAT COUNTS. Prove the row's statement (the work); the ties are given (YtnolhcdfknjncaaDoorTie.lean); close each card by the builder's one call (the guide's Derived/Test/ToyasCard.lean, 'card_holds'). Laid BY PROGRAM, IN A SANDBOX (cutbox-door.mjs). By AI agents, Wed Nov 11 2026. No macro, syntax, notation, axiom, sorry.
-/
import Derived.Test.YtnolhcdfknjncaaDoorRows
import GoSem.ClaimSeven
namespace Go.Proofs.YtnolhcdfknjncaaDoor
namespace Rows

/-- THE TIED CARD OF 'camletlaw21.CevalRuns'. -/
def cevalRunsCard : Claim7 := { stood := { row := cevalRunsRow, standIns := [], harness := (true, "9f0fe6d2bd5b9fac584d4b657c264dd982c3a0a6dec21c8a1a0ab7d97ae29d86"), looks := true }, kinds := [], alts := [], laidByText := true, laidKinds := [.data], laidTests := true, laidLooks := .later }
def CevalRunsCardSaid : Prop := Claim7.holds Tryd.pinned (.plain (OpenSpec.ofChange cevalRunsSpec)) cevalRunsCard

/-- THE TIED CARD OF 'camletlaw21.CevalMore'. -/
def cevalMoreCard : Claim7 := { stood := { row := cevalMoreRow, standIns := [], harness := (true, "9f0fe6d2bd5b9fac584d4b657c264dd982c3a0a6dec21c8a1a0ab7d97ae29d86"), looks := true }, kinds := [], alts := [], laidByText := true, laidKinds := [.data], laidTests := true, laidLooks := .later }
def CevalMoreCardSaid : Prop := Claim7.holds Tryd.pinned (.plain (OpenSpec.ofChange cevalMoreSpec)) cevalMoreCard

/-- THE TIED CARD OF 'camletlaw21.CevalLet'. -/
def cevalLetCard : Claim7 := { stood := { row := cevalLetRow, standIns := [], harness := (true, "9f0fe6d2bd5b9fac584d4b657c264dd982c3a0a6dec21c8a1a0ab7d97ae29d86"), looks := true }, kinds := [], alts := [], laidByText := true, laidKinds := [.data], laidTests := true, laidLooks := .later }
def CevalLetCardSaid : Prop := Claim7.holds Tryd.pinned (.plain (OpenSpec.ofChange cevalLetSpec)) cevalLetCard

/-- THE TIED CARD OF 'camletlaw21.CevalInput'. -/
def cevalInputCard : Claim7 := { stood := { row := cevalInputRow, standIns := [], harness := (true, "9f0fe6d2bd5b9fac584d4b657c264dd982c3a0a6dec21c8a1a0ab7d97ae29d86"), looks := true }, kinds := [], alts := [], laidByText := true, laidKinds := [.data], laidTests := true, laidLooks := .later }
def CevalInputCardSaid : Prop := Claim7.holds Tryd.pinned (.plain (OpenSpec.ofChange cevalInputSpec)) cevalInputCard

/-- THE SECOND FORM's CARD OF 'camletlaw21.CevalRuns'. -/
def cevalRunsUptoCard : Claim7 := { stood := { row := cevalRunsUptoRow, standIns := [], harness := (true, "9f0fe6d2bd5b9fac584d4b657c264dd982c3a0a6dec21c8a1a0ab7d97ae29d86"), looks := true }, kinds := [], alts := [], laidByText := true, laidKinds := [.data], laidTests := true, laidLooks := .later }
def CevalRunsUptoCardSaid : Prop := Claim7.holds Tryd.pinned (.plain (OpenSpec.upto cevalRunsSpec)) cevalRunsUptoCard

/-- THE SECOND FORM's CARD OF 'camletlaw21.CevalMore'. -/
def cevalMoreUptoCard : Claim7 := { stood := { row := cevalMoreUptoRow, standIns := [], harness := (true, "9f0fe6d2bd5b9fac584d4b657c264dd982c3a0a6dec21c8a1a0ab7d97ae29d86"), looks := true }, kinds := [], alts := [], laidByText := true, laidKinds := [.data], laidTests := true, laidLooks := .later }
def CevalMoreUptoCardSaid : Prop := Claim7.holds Tryd.pinned (.plain (OpenSpec.upto cevalMoreSpec)) cevalMoreUptoCard

/-- THE SECOND FORM's CARD OF 'camletlaw21.CevalLet'. -/
def cevalLetUptoCard : Claim7 := { stood := { row := cevalLetUptoRow, standIns := [], harness := (true, "9f0fe6d2bd5b9fac584d4b657c264dd982c3a0a6dec21c8a1a0ab7d97ae29d86"), looks := true }, kinds := [], alts := [], laidByText := true, laidKinds := [.data], laidTests := true, laidLooks := .later }
def CevalLetUptoCardSaid : Prop := Claim7.holds Tryd.pinned (.plain (OpenSpec.upto cevalLetSpec)) cevalLetUptoCard

/-- THE SECOND FORM's CARD OF 'camletlaw21.CevalInput'. -/
def cevalInputUptoCard : Claim7 := { stood := { row := cevalInputUptoRow, standIns := [], harness := (true, "9f0fe6d2bd5b9fac584d4b657c264dd982c3a0a6dec21c8a1a0ab7d97ae29d86"), looks := true }, kinds := [], alts := [], laidByText := true, laidKinds := [.data], laidTests := true, laidLooks := .later }
def CevalInputUptoCardSaid : Prop := Claim7.holds Tryd.pinned (.plain (OpenSpec.upto cevalInputSpec)) cevalInputUptoCard
end Rows
end Go.Proofs.YtnolhcdfknjncaaDoor
