/-
  NARROWER THAN 'FOR EVERY INPUT', by the rows' own cells (each row's printed sentence says how): CevalRuns: loops, laid · CevalMore: loops, laid · CevalLet: loops, laid · CevalInput: loops, laid.
  DERIVED. THE GIVEN ROWS OF THIS SEAT. 4 by the template 'for every input the law returns true; each argument reads behind the call as it read before'; 0 by the template 'total and deterministic' (their statements: YtnolhcdfknjncaaDoorTotals.lean).
  GIVEN WITH THE SEED: the statements are not yours to turn. If you find one false, say at which input.
  Laid BY PROGRAM, IN A SANDBOX (cutbox-rows.mjs): the forced cells as the released guide's own fill.sh prints them over the translation eb019a7c274c25d8… (all of the seat's roots in one cut). By AI agents, Wed Nov 11 2026. No macro, syntax, notation, axiom, sorry.
-/
import Derived.Test.YtnolhcdfknjncaaDoorChecked
import GoSem.Claim
import GoSem.ClaimJoined
import GoSem.ClaimMapViews
import Derived.JoinedTies
import Derived.KernelRfl
namespace Go.Proofs.YtnolhcdfknjncaaDoor
/- THE CELL 'sum', in the pinned program and in every row, IS THE sha256 OF THE DUMP (.gsa) THAT YtnolhcdfknjncaaDoorProg.lean LOADS. Nothing in Lean hashes anything: it is a label: what it is worth is what the hold of that sum in a sandbox is worth. -/
noncomputable def Tryd.pinned : Pinned := { name := "ytnolhcdfknjncaadoor", sum := "eb019a7c274c25d86aedaa978bcae9802d741893c04512eec61fc941632fa00c", checked := Tryd.checked }
namespace Rows
def none {H : Type} : Left H := { results := [], args := [] }

/- WHAT THE LISTED PACKAGE-LEVEL VARIABLES READ AS WHEN THE CALL BEGINS. Each datum BY PROGRAM (the guide's laid-datum.mjs) off the statement by which the dump's own 'gosem.cut.vars' lays the variable. In a bare row this is a premise. The card (YtnolhcdfknjncaaDoorCards.lean) ties it to the program's text. -/
def laid_camlet_core_kids {H : Type} : DataW H := .agg [.lit (.int .i64 0), .lit (.int .i64 0), .lit (.int .i64 0), .lit (.int .i64 1), .lit (.int .i64 2), .lit (.int .i64 2), .lit (.int .i64 (-1)), .lit (.int .i64 (-1)), .lit (.int .i64 1), .lit (.int .i64 (-1)), .lit (.int .i64 (-1))]

/-- 'camletlaw21.CevalRuns': WHATEVER THE INPUT: true; the input reads as it did. -/
def cevalRunsSpec : ChangeSpec := { name := "cevalRuns", fn := fun _ => fun
  | [d1, d2, d3] => { results := [.lit (.bool true)], args := [d1, d2, d3] }
  | _ => none }
def cevalRunsRow : OpenClaim := { program := "ytnolhcdfknjncaadoor", sum := "eb019a7c274c25d86aedaa978bcae9802d741893c04512eec61fc941632fa00c", func := "camlet/camletlaw21.CevalRuns", spec := "cevalRuns", unfollowed := true, recurses := true, named := ["camlet/core.kids"], loops := true, apart := false, laid := [("camlet/core.kids", laid_camlet_core_kids)] }
def CevalRunsSaid : Prop := cevalRunsRow.holds Tryd.pinned (OpenSpec.ofChange cevalRunsSpec)

/-- ITS FALSE NEIGHBOUR: 'it returns false'. Refute it at one input. -/
def cevalRunsWrong : ChangeSpec := { name := "cevalRuns", fn := fun _ => fun
  | [d1, d2, d3] => { results := [.lit (.bool false)], args := [d1, d2, d3] }
  | _ => none }
def CevalRunsWrongFalsely : Prop := cevalRunsRow.holds Tryd.pinned (OpenSpec.ofChange cevalRunsWrong)

/-- 'camletlaw21.CevalMore': WHATEVER THE INPUT: true; the input reads as it did. -/
def cevalMoreSpec : ChangeSpec := { name := "cevalMore", fn := fun _ => fun
  | [d1, d2, d3, d4] => { results := [.lit (.bool true)], args := [d1, d2, d3, d4] }
  | _ => none }
def cevalMoreRow : OpenClaim := { program := "ytnolhcdfknjncaadoor", sum := "eb019a7c274c25d86aedaa978bcae9802d741893c04512eec61fc941632fa00c", func := "camlet/camletlaw21.CevalMore", spec := "cevalMore", unfollowed := true, recurses := true, named := ["camlet/core.kids"], loops := true, apart := false, laid := [("camlet/core.kids", laid_camlet_core_kids)] }
def CevalMoreSaid : Prop := cevalMoreRow.holds Tryd.pinned (OpenSpec.ofChange cevalMoreSpec)

/-- ITS FALSE NEIGHBOUR: 'it returns false'. Refute it at one input. -/
def cevalMoreWrong : ChangeSpec := { name := "cevalMore", fn := fun _ => fun
  | [d1, d2, d3, d4] => { results := [.lit (.bool false)], args := [d1, d2, d3, d4] }
  | _ => none }
def CevalMoreWrongFalsely : Prop := cevalMoreRow.holds Tryd.pinned (OpenSpec.ofChange cevalMoreWrong)

/-- 'camletlaw21.CevalLet': WHATEVER THE INPUT: true; the input reads as it did. -/
def cevalLetSpec : ChangeSpec := { name := "cevalLet", fn := fun _ => fun
  | [d1, d2, d3] => { results := [.lit (.bool true)], args := [d1, d2, d3] }
  | _ => none }
def cevalLetRow : OpenClaim := { program := "ytnolhcdfknjncaadoor", sum := "eb019a7c274c25d86aedaa978bcae9802d741893c04512eec61fc941632fa00c", func := "camlet/camletlaw21.CevalLet", spec := "cevalLet", unfollowed := true, recurses := true, named := ["camlet/core.kids"], loops := true, apart := false, laid := [("camlet/core.kids", laid_camlet_core_kids)] }
def CevalLetSaid : Prop := cevalLetRow.holds Tryd.pinned (OpenSpec.ofChange cevalLetSpec)

/-- ITS FALSE NEIGHBOUR: 'it returns false'. Refute it at one input. -/
def cevalLetWrong : ChangeSpec := { name := "cevalLet", fn := fun _ => fun
  | [d1, d2, d3] => { results := [.lit (.bool false)], args := [d1, d2, d3] }
  | _ => none }
def CevalLetWrongFalsely : Prop := cevalLetRow.holds Tryd.pinned (OpenSpec.ofChange cevalLetWrong)

/-- 'camletlaw21.CevalInput': WHATEVER THE INPUT: true; the input reads as it did. -/
def cevalInputSpec : ChangeSpec := { name := "cevalInput", fn := fun _ => fun
  | [d1, d2, d3, d4] => { results := [.lit (.bool true)], args := [d1, d2, d3, d4] }
  | _ => none }
def cevalInputRow : OpenClaim := { program := "ytnolhcdfknjncaadoor", sum := "eb019a7c274c25d86aedaa978bcae9802d741893c04512eec61fc941632fa00c", func := "camlet/camletlaw21.CevalInput", spec := "cevalInput", unfollowed := true, recurses := true, named := ["camlet/core.kids"], loops := true, apart := false, laid := [("camlet/core.kids", laid_camlet_core_kids)] }
def CevalInputSaid : Prop := cevalInputRow.holds Tryd.pinned (OpenSpec.ofChange cevalInputSpec)

/-- ITS FALSE NEIGHBOUR: 'it returns false'. Refute it at one input. -/
def cevalInputWrong : ChangeSpec := { name := "cevalInput", fn := fun _ => fun
  | [d1, d2, d3, d4] => { results := [.lit (.bool false)], args := [d1, d2, d3, d4] }
  | _ => none }
def CevalInputWrongFalsely : Prop := cevalInputRow.holds Tryd.pinned (OpenSpec.ofChange cevalInputWrong)

/- THE SECOND FORM. 'bulk': how many values and letters a reading holds, each counted each time it is reached (what is shared counts as often as it is met; a slice's spare places count too). A statement '..UptoSaid' is the law's where the arguments, and the package variables that the reading takes, are together of bulk at most 1048576: NARROWER than '..Said'. Prove '..Said' where nothing that the law and all that it calls make is longer than what came in: it says more and counts as full. Else prove '..UptoSaid'. A law counts once. -/
mutual
def uptoBulk {H : Type} : DataW H → Nat
  | .lit (.string bytes) => bytes.length + 1
  | .lit _ => 1
  | .nil => 1
  | .ptr d => uptoBulk d + 1
  | .slice elems spare => uptoBulkAll elems + uptoBulkAll spare + 1
  | .agg parts => uptoBulkAll parts + 1
  | .iface _ d => uptoBulk d + 1
  | .map entries => uptoBulkEntries entries + 1
  | .held _ => 1
def uptoBulkAll {H : Type} : List (DataW H) → Nat
  | [] => 0
  | d :: r => uptoBulk d + uptoBulkAll r
def uptoBulkEntries {H : Type} : List (Lit × DataW H) → Nat
  | [] => 0
  | x :: r => uptoBulkEntry x + uptoBulkEntries r
def uptoBulkEntry {H : Type} : Lit × DataW H → Nat
  | (.string bytes, d) => bytes.length + uptoBulk d + 1
  | (_, d) => uptoBulk d + 1
 end
def uptoSmall : (H : Type) → List (DataW H) → Bool := fun _ ds => decide (uptoBulkAll ds ≤ 1048576)
def OpenSpec.upto (s : _root_.Go.ChangeSpec) : _root_.Go.OpenSpec := { _root_.Go.OpenSpec.ofChange s with cond := some uptoSmall }

/-- 'camletlaw21.CevalRuns', WHERE WHAT IT READS IS OF BULK AT MOST 1048576: true; the input reads as it did. -/
def cevalRunsUptoRow : OpenClaim := { program := "ytnolhcdfknjncaadoor", sum := "eb019a7c274c25d86aedaa978bcae9802d741893c04512eec61fc941632fa00c", func := "camlet/camletlaw21.CevalRuns", spec := "cevalRuns", unfollowed := true, recurses := true, named := ["camlet/core.kids"], loops := true, apart := false, laid := [("camlet/core.kids", laid_camlet_core_kids)], narrowed := true }
def CevalRunsUptoSaid : Prop := cevalRunsUptoRow.holds Tryd.pinned (OpenSpec.upto cevalRunsSpec)

/-- 'camletlaw21.CevalMore', WHERE WHAT IT READS IS OF BULK AT MOST 1048576: true; the input reads as it did. -/
def cevalMoreUptoRow : OpenClaim := { program := "ytnolhcdfknjncaadoor", sum := "eb019a7c274c25d86aedaa978bcae9802d741893c04512eec61fc941632fa00c", func := "camlet/camletlaw21.CevalMore", spec := "cevalMore", unfollowed := true, recurses := true, named := ["camlet/core.kids"], loops := true, apart := false, laid := [("camlet/core.kids", laid_camlet_core_kids)], narrowed := true }
def CevalMoreUptoSaid : Prop := cevalMoreUptoRow.holds Tryd.pinned (OpenSpec.upto cevalMoreSpec)

/-- 'camletlaw21.CevalLet', WHERE WHAT IT READS IS OF BULK AT MOST 1048576: true; the input reads as it did. -/
def cevalLetUptoRow : OpenClaim := { program := "ytnolhcdfknjncaadoor", sum := "eb019a7c274c25d86aedaa978bcae9802d741893c04512eec61fc941632fa00c", func := "camlet/camletlaw21.CevalLet", spec := "cevalLet", unfollowed := true, recurses := true, named := ["camlet/core.kids"], loops := true, apart := false, laid := [("camlet/core.kids", laid_camlet_core_kids)], narrowed := true }
def CevalLetUptoSaid : Prop := cevalLetUptoRow.holds Tryd.pinned (OpenSpec.upto cevalLetSpec)

/-- 'camletlaw21.CevalInput', WHERE WHAT IT READS IS OF BULK AT MOST 1048576: true; the input reads as it did. -/
def cevalInputUptoRow : OpenClaim := { program := "ytnolhcdfknjncaadoor", sum := "eb019a7c274c25d86aedaa978bcae9802d741893c04512eec61fc941632fa00c", func := "camlet/camletlaw21.CevalInput", spec := "cevalInput", unfollowed := true, recurses := true, named := ["camlet/core.kids"], loops := true, apart := false, laid := [("camlet/core.kids", laid_camlet_core_kids)], narrowed := true }
def CevalInputUptoSaid : Prop := cevalInputUptoRow.holds Tryd.pinned (OpenSpec.upto cevalInputSpec)

end Rows
end Go.Proofs.YtnolhcdfknjncaaDoor
