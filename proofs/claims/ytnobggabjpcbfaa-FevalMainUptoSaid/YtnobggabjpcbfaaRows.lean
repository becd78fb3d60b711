/-
  NARROWER THAN 'FOR EVERY INPUT', by the rows' own cells (each row's printed sentence says how): FevalMore: loops · FevalFuns: loops · FevalGroup: loops · FevalMain: loops.
  DERIVED. THE GIVEN ROWS OF THIS SEAT. 4 by the template 'for every input the law returns true; each argument reads behind the call as it read before'; 0 by the template 'total and deterministic' (their statements: YtnobggabjpcbfaaTotals.lean).
  GIVEN WITH THE SEED: the statements are not yours to turn. If you find one false, say at which input.
  Laid BY PROGRAM, IN A SANDBOX (cutbox-rows.mjs): the forced cells as the released guide's own fill.sh prints them over the translation 0d057e8dd4bf2f23… (all of the seat's roots in one cut). By AI agents, Wed Nov 11 2026. No macro, syntax, notation, axiom, sorry.
-/
import Derived.Test.YtnobggabjpcbfaaChecked
import GoSem.Claim
import GoSem.ClaimJoined
import GoSem.ClaimMapViews
import Derived.JoinedTies
import Derived.KernelRfl
namespace Go.Proofs.Ytnobggabjpcbfaa
/- THE CELL 'sum', in the pinned program and in every row, IS THE sha256 OF THE DUMP (.gsa) THAT YtnobggabjpcbfaaProg.lean LOADS. Nothing in Lean hashes anything: it is a label: what it is worth is what the hold of that sum in a sandbox is worth. -/
noncomputable def Try.pinned : Pinned := { name := "ytnobggabjpcbfaa", sum := "0d057e8dd4bf2f2399a7afe2e15bfba046c8e8480bb811622fe934dcdbcdd859", checked := Try.checked }
namespace Rows
def none {H : Type} : Left H := { results := [], args := [] }

/-- 'camletlaw31.FevalMore': WHATEVER THE INPUT: true; the input reads as it did. -/
def fevalMoreSpec : ChangeSpec := { name := "fevalMore", fn := fun _ => fun
  | [d1, d2, d3, d4] => { results := [.lit (.bool true)], args := [d1, d2, d3, d4] }
  | _ => none }
def fevalMoreRow : OpenClaim := { program := "ytnobggabjpcbfaa", sum := "0d057e8dd4bf2f2399a7afe2e15bfba046c8e8480bb811622fe934dcdbcdd859", func := "camlet/camletlaw31.FevalMore", spec := "fevalMore", unfollowed := true, recurses := true, loops := true, apart := false }
def FevalMoreSaid : Prop := fevalMoreRow.holds Try.pinned (OpenSpec.ofChange fevalMoreSpec)

/-- ITS FALSE NEIGHBOUR: 'it returns false'. Refute it at one input. -/
def fevalMoreWrong : ChangeSpec := { name := "fevalMore", fn := fun _ => fun
  | [d1, d2, d3, d4] => { results := [.lit (.bool false)], args := [d1, d2, d3, d4] }
  | _ => none }
def FevalMoreWrongFalsely : Prop := fevalMoreRow.holds Try.pinned (OpenSpec.ofChange fevalMoreWrong)

/-- 'camletlaw31.FevalFuns': WHATEVER THE INPUT: true; the input reads as it did. -/
def fevalFunsSpec : ChangeSpec := { name := "fevalFuns", fn := fun _ => fun
  | [d1, d2, d3, d4] => { results := [.lit (.bool true)], args := [d1, d2, d3, d4] }
  | _ => none }
def fevalFunsRow : OpenClaim := { program := "ytnobggabjpcbfaa", sum := "0d057e8dd4bf2f2399a7afe2e15bfba046c8e8480bb811622fe934dcdbcdd859", func := "camlet/camletlaw31.FevalFuns", spec := "fevalFuns", unfollowed := true, recurses := true, loops := true, apart := false }
def FevalFunsSaid : Prop := fevalFunsRow.holds Try.pinned (OpenSpec.ofChange fevalFunsSpec)

/-- ITS FALSE NEIGHBOUR: 'it returns false'. Refute it at one input. -/
def fevalFunsWrong : ChangeSpec := { name := "fevalFuns", fn := fun _ => fun
  | [d1, d2, d3, d4] => { results := [.lit (.bool false)], args := [d1, d2, d3, d4] }
  | _ => none }
def FevalFunsWrongFalsely : Prop := fevalFunsRow.holds Try.pinned (OpenSpec.ofChange fevalFunsWrong)

/-- 'camletlaw31.FevalGroup': WHATEVER THE INPUT: true; the input reads as it did. -/
def fevalGroupSpec : ChangeSpec := { name := "fevalGroup", fn := fun _ => fun
  | [d1, d2, d3] => { results := [.lit (.bool true)], args := [d1, d2, d3] }
  | _ => none }
def fevalGroupRow : OpenClaim := { program := "ytnobggabjpcbfaa", sum := "0d057e8dd4bf2f2399a7afe2e15bfba046c8e8480bb811622fe934dcdbcdd859", func := "camlet/camletlaw31.FevalGroup", spec := "fevalGroup", unfollowed := true, recurses := true, loops := true, apart := false }
def FevalGroupSaid : Prop := fevalGroupRow.holds Try.pinned (OpenSpec.ofChange fevalGroupSpec)

/-- ITS FALSE NEIGHBOUR: 'it returns false'. Refute it at one input. -/
def fevalGroupWrong : ChangeSpec := { name := "fevalGroup", fn := fun _ => fun
  | [d1, d2, d3] => { results := [.lit (.bool false)], args := [d1, d2, d3] }
  | _ => none }
def FevalGroupWrongFalsely : Prop := fevalGroupRow.holds Try.pinned (OpenSpec.ofChange fevalGroupWrong)

/-- 'camletlaw31.FevalMain': WHATEVER THE INPUT: true; the input reads as it did. -/
def fevalMainSpec : ChangeSpec := { name := "fevalMain", fn := fun _ => fun
  | [d1, d2] => { results := [.lit (.bool true)], args := [d1, d2] }
  | _ => none }
def fevalMainRow : OpenClaim := { program := "ytnobggabjpcbfaa", sum := "0d057e8dd4bf2f2399a7afe2e15bfba046c8e8480bb811622fe934dcdbcdd859", func := "camlet/camletlaw31.FevalMain", spec := "fevalMain", unfollowed := true, recurses := true, loops := true, apart := false }
def FevalMainSaid : Prop := fevalMainRow.holds Try.pinned (OpenSpec.ofChange fevalMainSpec)

/-- ITS FALSE NEIGHBOUR: 'it returns false'. Refute it at one input. -/
def fevalMainWrong : ChangeSpec := { name := "fevalMain", fn := fun _ => fun
  | [d1, d2] => { results := [.lit (.bool false)], args := [d1, d2] }
  | _ => none }
def FevalMainWrongFalsely : Prop := fevalMainRow.holds Try.pinned (OpenSpec.ofChange fevalMainWrong)

/- THE SECOND FORM. 'bulk': how many values and letters a reading holds, each counted each time it is reached (what is shared counts as often as it is met; a slice's spare places count too). A statement '..UptoSaid' is the law's where the arguments, and the package variables that the reading takes, are together of bulk at most 1048576: NARROWER than '..Said'. Prove '..Said' where nothing that the law and all that it calls make is longer than what came in: it says more and counts as full. Else prove '..UptoSaid'. A law counts once. -/
mutual
def uptoBulk {H : Type} : DataW H → Nat
  | .lit (.string bytes) => bytes.length + 1
  | .lit _ => 1
  | .nil => 1
  | .ptr d => uptoBulk d + 1
  | .slice elems spare => uptoBulkAll elems + uptoBulkAll spare + 1
  | .agg parts => uptoBulkAll parts + 1
  | .iface _ d => uptoBulk d + 1
  | .map entries => uptoBulkEntries entries + 1
  | .held _ => 1
def uptoBulkAll {H : Type} : List (DataW H) → Nat
  | [] => 0
  | d :: r => uptoBulk d + uptoBulkAll r
def uptoBulkEntries {H : Type} : List (Lit × DataW H) → Nat
  | [] => 0
  | x :: r => uptoBulkEntry x + uptoBulkEntries r
def uptoBulkEntry {H : Type} : Lit × DataW H → Nat
  | (.string bytes, d) => bytes.length + uptoBulk d + 1
  | (_, d) => uptoBulk d + 1
 end
def uptoSmall : (H : Type) → List (DataW H) → Bool := fun _ ds => decide (uptoBulkAll ds ≤ 1048576)
def OpenSpec.upto (s : _root_.Go.ChangeSpec) : _root_.Go.OpenSpec := { _root_.Go.OpenSpec.ofChange s with cond := some uptoSmall }

/-- 'camletlaw31.FevalMore', WHERE WHAT IT READS IS OF BULK AT MOST 1048576: true; the input reads as it did. -/
def fevalMoreUptoRow : OpenClaim := { program := "ytnobggabjpcbfaa", sum := "0d057e8dd4bf2f2399a7afe2e15bfba046c8e8480bb811622fe934dcdbcdd859", func := "camlet/camletlaw31.FevalMore", spec := "fevalMore", unfollowed := true, recurses := true, loops := true, apart := false, narrowed := true }
def FevalMoreUptoSaid : Prop := fevalMoreUptoRow.holds Try.pinned (OpenSpec.upto fevalMoreSpec)

/-- 'camletlaw31.FevalFuns', WHERE WHAT IT READS IS OF BULK AT MOST 1048576: true; the input reads as it did. -/
def fevalFunsUptoRow : OpenClaim := { program := "ytnobggabjpcbfaa", sum := "0d057e8dd4bf2f2399a7afe2e15bfba046c8e8480bb811622fe934dcdbcdd859", func := "camlet/camletlaw31.FevalFuns", spec := "fevalFuns", unfollowed := true, recurses := true, loops := true, apart := false, narrowed := true }
def FevalFunsUptoSaid : Prop := fevalFunsUptoRow.holds Try.pinned (OpenSpec.upto fevalFunsSpec)

/-- 'camletlaw31.FevalGroup', WHERE WHAT IT READS IS OF BULK AT MOST 1048576: true; the input reads as it did. -/
def fevalGroupUptoRow : OpenClaim := { program := "ytnobggabjpcbfaa", sum := "0d057e8dd4bf2f2399a7afe2e15bfba046c8e8480bb811622fe934dcdbcdd859", func := "camlet/camletlaw31.FevalGroup", spec := "fevalGroup", unfollowed := true, recurses := true, loops := true, apart := false, narrowed := true }
def FevalGroupUptoSaid : Prop := fevalGroupUptoRow.holds Try.pinned (OpenSpec.upto fevalGroupSpec)

/-- 'camletlaw31.FevalMain', WHERE WHAT IT READS IS OF BULK AT MOST 1048576: true; the input reads as it did. -/
def fevalMainUptoRow : OpenClaim := { program := "ytnobggabjpcbfaa", sum := "0d057e8dd4bf2f2399a7afe2e15bfba046c8e8480bb811622fe934dcdbcdd859", func := "camlet/camletlaw31.FevalMain", spec := "fevalMain", unfollowed := true, recurses := true, loops := true, apart := false, narrowed := true }
def FevalMainUptoSaid : Prop := fevalMainUptoRow.holds Try.pinned (OpenSpec.upto fevalMainSpec)

end Rows
end Go.Proofs.Ytnobggabjpcbfaa
