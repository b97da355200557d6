/-
  No cell of these rows narrows 'for every input' (looked for: loops, veiled, ifaces, maps, wideKeys, modest, calm, conditions, laid).
  DERIVED. THE GIVEN ROWS OF THIS SEAT. 4 by the template 'for every input the law returns true; each argument reads behind the call as it read before'; 0 by the template 'total and deterministic' (their statements: YthiepcajpgfjfaaTotals.lean).
  GIVEN WITH THE SEED: the statements are not yours to turn. If you find one false, say at which input.
  Laid BY PROGRAM, IN A SANDBOX (cutbox-rows.mjs): the forced cells as the released guide's own fill.sh prints them over the translation b19bdd908d8a3418… (all of the seat's roots in one cut). By AI agents, Wed Nov 11 2026. No macro, syntax, notation, axiom, sorry.
-/
import Derived.Test.YthiepcajpgfjfaaChecked
import GoSem.Claim
import GoSem.ClaimJoined
import GoSem.ClaimMapViews
import Derived.JoinedTies
import Derived.KernelRfl
namespace Go.Proofs.Ythiepcajpgfjfaa
/- THE CELL 'sum', in the pinned program and in every row, IS THE sha256 OF THE DUMP (.gsa) THAT YthiepcajpgfjfaaProg.lean LOADS. Nothing in Lean hashes anything: it is a label: what it is worth is what the hold of that sum in a sandbox is worth. -/
noncomputable def Try.pinned : Pinned := { name := "ythiepcajpgfjfaa", sum := "b19bdd908d8a341850645f3d852b55eea24fadcb91a5e21e50e015c07b720cf1", checked := Try.checked }
namespace Rows
def none {H : Type} : Left H := { results := [], args := [] }

/-- 'drayagelaw01.NatUp': WHATEVER THE INPUT: true; the input reads as it did. -/
def natUpSpec : ChangeSpec := { name := "natUp", fn := fun _ => fun
  | [d1, d2] => { results := [.lit (.bool true)], args := [d1, d2] }
  | _ => none }
def natUpRow : OpenClaim := { program := "ythiepcajpgfjfaa", sum := "b19bdd908d8a341850645f3d852b55eea24fadcb91a5e21e50e015c07b720cf1", func := "drayage/drayagelaw01.NatUp", spec := "natUp", apart := false }
def NatUpSaid : Prop := natUpRow.holds Try.pinned (OpenSpec.ofChange natUpSpec)

/-- ITS FALSE NEIGHBOUR: 'it returns false'. Refute it at one input. -/
def natUpWrong : ChangeSpec := { name := "natUp", fn := fun _ => fun
  | [d1, d2] => { results := [.lit (.bool false)], args := [d1, d2] }
  | _ => none }
def NatUpWrongFalsely : Prop := natUpRow.holds Try.pinned (OpenSpec.ofChange natUpWrong)

/-- 'drayagelaw01.NatHolds': WHATEVER THE INPUT: true; the input reads as it did. -/
def natHoldsSpec : ChangeSpec := { name := "natHolds", fn := fun _ => fun
  | [d1, d2, d3] => { results := [.lit (.bool true)], args := [d1, d2, d3] }
  | _ => none }
def natHoldsRow : OpenClaim := { program := "ythiepcajpgfjfaa", sum := "b19bdd908d8a341850645f3d852b55eea24fadcb91a5e21e50e015c07b720cf1", func := "drayage/drayagelaw01.NatHolds", spec := "natHolds", apart := false }
def NatHoldsSaid : Prop := natHoldsRow.holds Try.pinned (OpenSpec.ofChange natHoldsSpec)

/-- ITS FALSE NEIGHBOUR: 'it returns false'. Refute it at one input. -/
def natHoldsWrong : ChangeSpec := { name := "natHolds", fn := fun _ => fun
  | [d1, d2, d3] => { results := [.lit (.bool false)], args := [d1, d2, d3] }
  | _ => none }
def NatHoldsWrongFalsely : Prop := natHoldsRow.holds Try.pinned (OpenSpec.ofChange natHoldsWrong)

/-- 'drayagelaw01.NatSteps': WHATEVER THE INPUT: true; the input reads as it did. -/
def natStepsSpec : ChangeSpec := { name := "natSteps", fn := fun _ => fun
  | [d1, d2, d3] => { results := [.lit (.bool true)], args := [d1, d2, d3] }
  | _ => none }
def natStepsRow : OpenClaim := { program := "ythiepcajpgfjfaa", sum := "b19bdd908d8a341850645f3d852b55eea24fadcb91a5e21e50e015c07b720cf1", func := "drayage/drayagelaw01.NatSteps", spec := "natSteps", apart := false }
def NatStepsSaid : Prop := natStepsRow.holds Try.pinned (OpenSpec.ofChange natStepsSpec)

/-- ITS FALSE NEIGHBOUR: 'it returns false'. Refute it at one input. -/
def natStepsWrong : ChangeSpec := { name := "natSteps", fn := fun _ => fun
  | [d1, d2, d3] => { results := [.lit (.bool false)], args := [d1, d2, d3] }
  | _ => none }
def NatStepsWrongFalsely : Prop := natStepsRow.holds Try.pinned (OpenSpec.ofChange natStepsWrong)

/-- 'drayagelaw01.NatSums': WHATEVER THE INPUT: true; the input reads as it did. -/
def natSumsSpec : ChangeSpec := { name := "natSums", fn := fun _ => fun
  | [d1, d2] => { results := [.lit (.bool true)], args := [d1, d2] }
  | _ => none }
def natSumsRow : OpenClaim := { program := "ythiepcajpgfjfaa", sum := "b19bdd908d8a341850645f3d852b55eea24fadcb91a5e21e50e015c07b720cf1", func := "drayage/drayagelaw01.NatSums", spec := "natSums", apart := false }
def NatSumsSaid : Prop := natSumsRow.holds Try.pinned (OpenSpec.ofChange natSumsSpec)

/-- ITS FALSE NEIGHBOUR: 'it returns false'. Refute it at one input. -/
def natSumsWrong : ChangeSpec := { name := "natSums", fn := fun _ => fun
  | [d1, d2] => { results := [.lit (.bool false)], args := [d1, d2] }
  | _ => none }
def NatSumsWrongFalsely : Prop := natSumsRow.holds Try.pinned (OpenSpec.ofChange natSumsWrong)

/- THE SECOND FORM. 'bulk': how many values and letters a reading holds, each counted each time it is reached (what is shared counts as often as it is met; a slice's spare places count too). A statement '..UptoSaid' is the law's where the arguments, and the package variables that the reading takes, are together of bulk at most 1048576: NARROWER than '..Said'. Prove '..Said' where nothing that the law and all that it calls make is longer than what came in: it says more and counts as full. Else prove '..UptoSaid'. A law counts once. -/
mutual
def uptoBulk {H : Type} : DataW H → Nat
  | .lit (.string bytes) => bytes.length + 1
  | .lit _ => 1
  | .nil => 1
  | .ptr d => uptoBulk d + 1
  | .slice elems spare => uptoBulkAll elems + uptoBulkAll spare + 1
  | .agg parts => uptoBulkAll parts + 1
  | .iface _ d => uptoBulk d + 1
  | .map entries => uptoBulkEntries entries + 1
  | .held _ => 1
def uptoBulkAll {H : Type} : List (DataW H) → Nat
  | [] => 0
  | d :: r => uptoBulk d + uptoBulkAll r
def uptoBulkEntries {H : Type} : List (Lit × DataW H) → Nat
  | [] => 0
  | x :: r => uptoBulkEntry x + uptoBulkEntries r
def uptoBulkEntry {H : Type} : Lit × DataW H → Nat
  | (.string bytes, d) => bytes.length + uptoBulk d + 1
  | (_, d) => uptoBulk d + 1
 end
def uptoSmall : (H : Type) → List (DataW H) → Bool := fun _ ds => decide (uptoBulkAll ds ≤ 1048576)
def OpenSpec.upto (s : _root_.Go.ChangeSpec) : _root_.Go.OpenSpec := { _root_.Go.OpenSpec.ofChange s with cond := some uptoSmall }

/-- 'drayagelaw01.NatUp', WHERE WHAT IT READS IS OF BULK AT MOST 1048576: true; the input reads as it did. -/
def natUpUptoRow : OpenClaim := { program := "ythiepcajpgfjfaa", sum := "b19bdd908d8a341850645f3d852b55eea24fadcb91a5e21e50e015c07b720cf1", func := "drayage/drayagelaw01.NatUp", spec := "natUp", apart := false, narrowed := true }
def NatUpUptoSaid : Prop := natUpUptoRow.holds Try.pinned (OpenSpec.upto natUpSpec)

/-- 'drayagelaw01.NatHolds', WHERE WHAT IT READS IS OF BULK AT MOST 1048576: true; the input reads as it did. -/
def natHoldsUptoRow : OpenClaim := { program := "ythiepcajpgfjfaa", sum := "b19bdd908d8a341850645f3d852b55eea24fadcb91a5e21e50e015c07b720cf1", func := "drayage/drayagelaw01.NatHolds", spec := "natHolds", apart := false, narrowed := true }
def NatHoldsUptoSaid : Prop := natHoldsUptoRow.holds Try.pinned (OpenSpec.upto natHoldsSpec)

/-- 'drayagelaw01.NatSteps', WHERE WHAT IT READS IS OF BULK AT MOST 1048576: true; the input reads as it did. -/
def natStepsUptoRow : OpenClaim := { program := "ythiepcajpgfjfaa", sum := "b19bdd908d8a341850645f3d852b55eea24fadcb91a5e21e50e015c07b720cf1", func := "drayage/drayagelaw01.NatSteps", spec := "natSteps", apart := false, narrowed := true }
def NatStepsUptoSaid : Prop := natStepsUptoRow.holds Try.pinned (OpenSpec.upto natStepsSpec)

/-- 'drayagelaw01.NatSums', WHERE WHAT IT READS IS OF BULK AT MOST 1048576: true; the input reads as it did. -/
def natSumsUptoRow : OpenClaim := { program := "ythiepcajpgfjfaa", sum := "b19bdd908d8a341850645f3d852b55eea24fadcb91a5e21e50e015c07b720cf1", func := "drayage/drayagelaw01.NatSums", spec := "natSums", apart := false, narrowed := true }
def NatSumsUptoSaid : Prop := natSumsUptoRow.holds Try.pinned (OpenSpec.upto natSumsSpec)

end Rows
end Go.Proofs.Ythiepcajpgfjfaa
