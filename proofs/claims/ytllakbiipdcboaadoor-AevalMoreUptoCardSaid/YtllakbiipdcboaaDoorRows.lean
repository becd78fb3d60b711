/-
  NARROWER THAN 'FOR EVERY INPUT', by the rows' own cells (each row's printed sentence says how): AevalMore: loops, laid.
  DERIVED. THE GIVEN ROWS OF THIS SEAT. 1 by the template 'for every input the law returns true; each argument reads behind the call as it read before'; 0 by the template 'total and deterministic' (their statements: YtllakbiipdcboaaDoorTotals.lean).
  GIVEN WITH THE SEED: the statements are not yours to turn. If you find one false, say at which input.
  Laid BY PROGRAM, IN A SANDBOX (cutbox-rows.mjs): the forced cells as the released guide's own fill.sh prints them over the translation aeb51d3353714b44… (all of the seat's roots in one cut). By AI agents, Wed Nov 11 2026. No macro, syntax, notation, axiom, sorry.
-/
import Derived.Test.YtllakbiipdcboaaDoorChecked
import GoSem.Claim
import GoSem.ClaimJoined
import GoSem.ClaimMapViews
import Derived.JoinedTies
import Derived.KernelRfl
namespace Go.Proofs.YtllakbiipdcboaaDoor
/- THE CELL 'sum', in the pinned program and in every row, IS THE sha256 OF THE DUMP (.gsa) THAT YtllakbiipdcboaaDoorProg.lean LOADS. Nothing in Lean hashes anything: it is a label: what it is worth is what the hold of that sum in a sandbox is worth. -/
noncomputable def Tryd.pinned : Pinned := { name := "ytllakbiipdcboaadoor", sum := "aeb51d3353714b4490ad06fdbb21a5d52c02b94be94ef29808ef08f052a53ee8", checked := Tryd.checked }
namespace Rows
def none {H : Type} : Left H := { results := [], args := [] }

/- WHAT THE LISTED PACKAGE-LEVEL VARIABLES READ AS WHEN THE CALL BEGINS. Each datum BY PROGRAM (the guide's laid-datum.mjs) off the statement by which the dump's own 'gosem.cut.vars' lays the variable. In a bare row this is a premise. The card (YtllakbiipdcboaaDoorCards.lean) ties it to the program's text. -/
def laid_camlet_anf_shapes {H : Type} : DataW H := .agg [.agg [.lit (.string []), .lit (.int .i64 0), .lit (.int .i64 0)], .agg [.lit (.string [97, 116, 111, 109]), .lit (.int .i64 1), .lit (.int .i64 0)], .agg [.lit (.string [112, 114, 105, 109]), .lit (.int .i64 (-1)), .lit (.int .i64 0)], .agg [.lit (.string [98, 108, 111, 99, 107]), .lit (.int .i64 (-1)), .lit (.int .i64 0)], .agg [.lit (.string [102, 105, 101, 108, 100]), .lit (.int .i64 1), .lit (.int .i64 0)], .agg [.lit (.string [102, 110]), .lit (.int .i64 0), .lit (.int .i64 1)], .agg [.lit (.string [97, 112, 112]), .lit (.int .i64 2), .lit (.int .i64 0)], .agg [.lit (.string [102, 105, 120]), .lit (.int .i64 0), .lit (.int .i64 (-1))], .agg [.lit (.string [115, 119, 105, 116, 99, 104]), .lit (.int .i64 1), .lit (.int .i64 (-1))]]

/-- 'camletlaw24.AevalMore': WHATEVER THE INPUT: true; the input reads as it did. -/
def aevalMoreSpec : ChangeSpec := { name := "aevalMore", fn := fun _ => fun
  | [d1, d2, d3, d4] => { results := [.lit (.bool true)], args := [d1, d2, d3, d4] }
  | _ => none }
def aevalMoreRow : OpenClaim := { program := "ytllakbiipdcboaadoor", sum := "aeb51d3353714b4490ad06fdbb21a5d52c02b94be94ef29808ef08f052a53ee8", func := "camlet/camletlaw24.AevalMore", spec := "aevalMore", unfollowed := true, recurses := true, named := ["camlet/anf.shapes"], loops := true, apart := false, laid := [("camlet/anf.shapes", laid_camlet_anf_shapes)] }
def AevalMoreSaid : Prop := aevalMoreRow.holds Tryd.pinned (OpenSpec.ofChange aevalMoreSpec)

/-- ITS FALSE NEIGHBOUR: 'it returns false'. Refute it at one input. -/
def aevalMoreWrong : ChangeSpec := { name := "aevalMore", fn := fun _ => fun
  | [d1, d2, d3, d4] => { results := [.lit (.bool false)], args := [d1, d2, d3, d4] }
  | _ => none }
def AevalMoreWrongFalsely : Prop := aevalMoreRow.holds Tryd.pinned (OpenSpec.ofChange aevalMoreWrong)

/- THE SECOND FORM. 'bulk': how many values and letters a reading holds, each counted each time it is reached (what is shared counts as often as it is met; a slice's spare places count too). A statement '..UptoSaid' is the law's where the arguments, and the package variables that the reading takes, are together of bulk at most 1048576: NARROWER than '..Said'. Prove '..Said' where nothing that the law and all that it calls make is longer than what came in: it says more and counts as full. Else prove '..UptoSaid'. A law counts once. -/
mutual
def uptoBulk {H : Type} : DataW H → Nat
  | .lit (.string bytes) => bytes.length + 1
  | .lit _ => 1
  | .nil => 1
  | .ptr d => uptoBulk d + 1
  | .slice elems spare => uptoBulkAll elems + uptoBulkAll spare + 1
  | .agg parts => uptoBulkAll parts + 1
  | .iface _ d => uptoBulk d + 1
  | .map entries => uptoBulkEntries entries + 1
  | .held _ => 1
def uptoBulkAll {H : Type} : List (DataW H) → Nat
  | [] => 0
  | d :: r => uptoBulk d + uptoBulkAll r
def uptoBulkEntries {H : Type} : List (Lit × DataW H) → Nat
  | [] => 0
  | x :: r => uptoBulkEntry x + uptoBulkEntries r
def uptoBulkEntry {H : Type} : Lit × DataW H → Nat
  | (.string bytes, d) => bytes.length + uptoBulk d + 1
  | (_, d) => uptoBulk d + 1
 end
def uptoSmall : (H : Type) → List (DataW H) → Bool := fun _ ds => decide (uptoBulkAll ds ≤ 1048576)
def OpenSpec.upto (s : _root_.Go.ChangeSpec) : _root_.Go.OpenSpec := { _root_.Go.OpenSpec.ofChange s with cond := some uptoSmall }

/-- 'camletlaw24.AevalMore', WHERE WHAT IT READS IS OF BULK AT MOST 1048576: true; the input reads as it did. -/
def aevalMoreUptoRow : OpenClaim := { program := "ytllakbiipdcboaadoor", sum := "aeb51d3353714b4490ad06fdbb21a5d52c02b94be94ef29808ef08f052a53ee8", func := "camlet/camletlaw24.AevalMore", spec := "aevalMore", unfollowed := true, recurses := true, named := ["camlet/anf.shapes"], loops := true, apart := false, laid := [("camlet/anf.shapes", laid_camlet_anf_shapes)], narrowed := true }
def AevalMoreUptoSaid : Prop := aevalMoreUptoRow.holds Tryd.pinned (OpenSpec.upto aevalMoreSpec)

end Rows
end Go.Proofs.YtllakbiipdcboaaDoor
