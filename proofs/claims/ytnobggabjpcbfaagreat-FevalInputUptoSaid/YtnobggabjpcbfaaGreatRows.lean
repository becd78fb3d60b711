/-
  NARROWER THAN 'FOR EVERY INPUT', by the rows' own cells (each row's printed sentence says how): FevalRuns: loops · FevalInput: loops.
  DERIVED. THE GIVEN ROWS OF THIS SEAT. 2 by the template 'for every input the law returns true; each argument reads behind the call as it read before'; 0 by the template 'total and deterministic' (their statements: YtnobggabjpcbfaaGreatTotals.lean).
  GIVEN WITH THE SEED: the statements are not yours to turn. If you find one false, say at which input.
  Laid BY PROGRAM, IN A SANDBOX (cutbox-rows.mjs): the forced cells as the released guide's own fill.sh prints them over the translation ab4c626887686e38… (all of the seat's roots in one cut). By AI agents, Wed Nov 11 2026. No macro, syntax, notation, axiom, sorry.
-/
import Derived.Test.YtnobggabjpcbfaaGreatChecked
import GoSem.Claim
import GoSem.ClaimJoined
import GoSem.ClaimMapViews
import Derived.JoinedTies
import Derived.KernelRfl
namespace Go.Proofs.YtnobggabjpcbfaaGreat
/- THE CELL 'sum', in the pinned program and in every row, IS THE sha256 OF THE DUMP (.gsa) THAT YtnobggabjpcbfaaGreatProg.lean LOADS. Nothing in Lean hashes anything: it is a label: what it is worth is what the hold of that sum in a sandbox is worth. -/
noncomputable def Tryz.pinned : Pinned := { name := "ytnobggabjpcbfaagreat", sum := "ab4c626887686e381c6e84b0d2904ac47300f20f3c7a19e75fff45dc5a4f5d65", checked := Tryz.checked }
namespace Rows
def none {H : Type} : Left H := { results := [], args := [] }

/-- 'camletlaw31.FevalRuns': WHATEVER THE INPUT: true; the input reads as it did. -/
def fevalRunsSpec : ChangeSpec := { name := "fevalRuns", fn := fun _ => fun
  | [d1, d2, d3] => { results := [.lit (.bool true)], args := [d1, d2, d3] }
  | _ => none }
def fevalRunsRow : OpenClaim := { program := "ytnobggabjpcbfaagreat", sum := "ab4c626887686e381c6e84b0d2904ac47300f20f3c7a19e75fff45dc5a4f5d65", func := "camlet/camletlaw31.FevalRuns", spec := "fevalRuns", unfollowed := true, recurses := true, loops := true, apart := false }
def FevalRunsSaid : Prop := fevalRunsRow.holds Tryz.pinned (OpenSpec.ofChange fevalRunsSpec)

/-- ITS FALSE NEIGHBOUR: 'it returns false'. Refute it at one input. -/
def fevalRunsWrong : ChangeSpec := { name := "fevalRuns", fn := fun _ => fun
  | [d1, d2, d3] => { results := [.lit (.bool false)], args := [d1, d2, d3] }
  | _ => none }
def FevalRunsWrongFalsely : Prop := fevalRunsRow.holds Tryz.pinned (OpenSpec.ofChange fevalRunsWrong)

/-- 'camletlaw31.FevalInput': WHATEVER THE INPUT: true; the input reads as it did. -/
def fevalInputSpec : ChangeSpec := { name := "fevalInput", fn := fun _ => fun
  | [d1, d2, d3, d4] => { results := [.lit (.bool true)], args := [d1, d2, d3, d4] }
  | _ => none }
def fevalInputRow : OpenClaim := { program := "ytnobggabjpcbfaagreat", sum := "ab4c626887686e381c6e84b0d2904ac47300f20f3c7a19e75fff45dc5a4f5d65", func := "camlet/camletlaw31.FevalInput", spec := "fevalInput", unfollowed := true, recurses := true, loops := true, apart := false }
def FevalInputSaid : Prop := fevalInputRow.holds Tryz.pinned (OpenSpec.ofChange fevalInputSpec)

/-- ITS FALSE NEIGHBOUR: 'it returns false'. Refute it at one input. -/
def fevalInputWrong : ChangeSpec := { name := "fevalInput", fn := fun _ => fun
  | [d1, d2, d3, d4] => { results := [.lit (.bool false)], args := [d1, d2, d3, d4] }
  | _ => none }
def FevalInputWrongFalsely : Prop := fevalInputRow.holds Tryz.pinned (OpenSpec.ofChange fevalInputWrong)

/- THE SECOND FORM. 'bulk': how many values and letters a reading holds, each counted each time it is reached (what is shared counts as often as it is met; a slice's spare places count too). A statement '..UptoSaid' is the law's where the arguments, and the package variables that the reading takes, are together of bulk at most 1048576: NARROWER than '..Said'. Prove '..Said' where nothing that the law and all that it calls make is longer than what came in: it says more and counts as full. Else prove '..UptoSaid'. A law counts once. -/
mutual
def uptoBulk {H : Type} : DataW H → Nat
  | .lit (.string bytes) => bytes.length + 1
  | .lit _ => 1
  | .nil => 1
  | .ptr d => uptoBulk d + 1
  | .slice elems spare => uptoBulkAll elems + uptoBulkAll spare + 1
  | .agg parts => uptoBulkAll parts + 1
  | .iface _ d => uptoBulk d + 1
  | .map entries => uptoBulkEntries entries + 1
  | .held _ => 1
def uptoBulkAll {H : Type} : List (DataW H) → Nat
  | [] => 0
  | d :: r => uptoBulk d + uptoBulkAll r
def uptoBulkEntries {H : Type} : List (Lit × DataW H) → Nat
  | [] => 0
  | x :: r => uptoBulkEntry x + uptoBulkEntries r
def uptoBulkEntry {H : Type} : Lit × DataW H → Nat
  | (.string bytes, d) => bytes.length + uptoBulk d + 1
  | (_, d) => uptoBulk d + 1
 end
def uptoSmall : (H : Type) → List (DataW H) → Bool := fun _ ds => decide (uptoBulkAll ds ≤ 1048576)
def OpenSpec.upto (s : _root_.Go.ChangeSpec) : _root_.Go.OpenSpec := { _root_.Go.OpenSpec.ofChange s with cond := some uptoSmall }

/-- 'camletlaw31.FevalRuns', WHERE WHAT IT READS IS OF BULK AT MOST 1048576: true; the input reads as it did. -/
def fevalRunsUptoRow : OpenClaim := { program := "ytnobggabjpcbfaagreat", sum := "ab4c626887686e381c6e84b0d2904ac47300f20f3c7a19e75fff45dc5a4f5d65", func := "camlet/camletlaw31.FevalRuns", spec := "fevalRuns", unfollowed := true, recurses := true, loops := true, apart := false, narrowed := true }
def FevalRunsUptoSaid : Prop := fevalRunsUptoRow.holds Tryz.pinned (OpenSpec.upto fevalRunsSpec)

/-- 'camletlaw31.FevalInput', WHERE WHAT IT READS IS OF BULK AT MOST 1048576: true; the input reads as it did. -/
def fevalInputUptoRow : OpenClaim := { program := "ytnobggabjpcbfaagreat", sum := "ab4c626887686e381c6e84b0d2904ac47300f20f3c7a19e75fff45dc5a4f5d65", func := "camlet/camletlaw31.FevalInput", spec := "fevalInput", unfollowed := true, recurses := true, loops := true, apart := false, narrowed := true }
def FevalInputUptoSaid : Prop := fevalInputUptoRow.holds Tryz.pinned (OpenSpec.upto fevalInputSpec)

end Rows
end Go.Proofs.YtnobggabjpcbfaaGreat
