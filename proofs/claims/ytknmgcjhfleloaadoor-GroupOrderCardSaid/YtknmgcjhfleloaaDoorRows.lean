/-
  NARROWER THAN 'FOR EVERY INPUT', by the rows' own cells (each row's printed sentence says how): GroupChains: laid · GroupOrder: laid · GroupOwn: laid.
  DERIVED. THE GIVEN ROWS OF THIS SEAT. 3 by the template 'for every input the law returns true; each argument reads behind the call as it read before'; 0 by the template 'total and deterministic' (their statements: YtknmgcjhfleloaaDoorTotals.lean).
  GIVEN WITH THE SEED: the statements are not yours to turn. If you find one false, say at which input.
  Laid BY PROGRAM, IN A SANDBOX (cutbox-rows.mjs): the forced cells as the released guide's own fill.sh prints them over the translation 809694fc8e317c1b… (all of the seat's roots in one cut). By AI agents, Wed Nov 11 2026. No macro, syntax, notation, axiom, sorry.
-/
import Derived.Test.YtknmgcjhfleloaaDoorChecked
import GoSem.Claim
import GoSem.ClaimJoined
import GoSem.ClaimMapViews
import Derived.JoinedTies
import Derived.KernelRfl
namespace Go.Proofs.YtknmgcjhfleloaaDoor
/- THE CELL 'sum', in the pinned program and in every row, IS THE sha256 OF THE DUMP (.gsa) THAT YtknmgcjhfleloaaDoorProg.lean LOADS. Nothing in Lean hashes anything: it is a label: what it is worth is what the hold of that sum in a sandbox is worth. -/
noncomputable def Tryd.pinned : Pinned := { name := "ytknmgcjhfleloaadoor", sum := "809694fc8e317c1b5b02c04dc8a78fabe174378ffa7dfa060f9fdf38be358561", checked := Tryd.checked }
namespace Rows
def none {H : Type} : Left H := { results := [], args := [] }

/- WHAT THE LISTED PACKAGE-LEVEL VARIABLES READ AS WHEN THE CALL BEGINS. Each datum BY PROGRAM (the guide's laid-datum.mjs) off the statement by which the dump's own 'gosem.cut.vars' lays the variable. In a bare row this is a premise. The card (YtknmgcjhfleloaaDoorCards.lean) ties it to the program's text. -/
def laid_drayage_alter_changes {H : Type} : DataW H := .agg [.lit (.int .i64 0), .lit (.int .i64 0), .lit (.int .i64 (-1)), .lit (.int .i64 1), .lit (.int .i64 2), .lit (.int .i64 6)]

/-- 'drayagelaw35.GroupChains': WHATEVER THE INPUT: true; the input reads as it did. -/
def groupChainsSpec : ChangeSpec := { name := "groupChains", fn := fun _ => fun
  | [d] => { results := [.lit (.bool true)], args := [d] }
  | _ => none }
def groupChainsRow : OpenClaim := { program := "ytknmgcjhfleloaadoor", sum := "809694fc8e317c1b5b02c04dc8a78fabe174378ffa7dfa060f9fdf38be358561", func := "drayage/drayagelaw35.GroupChains", spec := "groupChains", recurses := true, named := ["drayage/alter.changes"], apart := false, laid := [("drayage/alter.changes", laid_drayage_alter_changes)] }
def GroupChainsSaid : Prop := groupChainsRow.holds Tryd.pinned (OpenSpec.ofChange groupChainsSpec)

/-- ITS FALSE NEIGHBOUR: 'it returns false'. Refute it at one input. -/
def groupChainsWrong : ChangeSpec := { name := "groupChains", fn := fun _ => fun
  | [d] => { results := [.lit (.bool false)], args := [d] }
  | _ => none }
def GroupChainsWrongFalsely : Prop := groupChainsRow.holds Tryd.pinned (OpenSpec.ofChange groupChainsWrong)

/-- 'drayagelaw35.GroupOrder': WHATEVER THE INPUT: true; the input reads as it did. -/
def groupOrderSpec : ChangeSpec := { name := "groupOrder", fn := fun _ => fun
  | [d] => { results := [.lit (.bool true)], args := [d] }
  | _ => none }
def groupOrderRow : OpenClaim := { program := "ytknmgcjhfleloaadoor", sum := "809694fc8e317c1b5b02c04dc8a78fabe174378ffa7dfa060f9fdf38be358561", func := "drayage/drayagelaw35.GroupOrder", spec := "groupOrder", named := ["drayage/alter.changes"], apart := false, laid := [("drayage/alter.changes", laid_drayage_alter_changes)] }
def GroupOrderSaid : Prop := groupOrderRow.holds Tryd.pinned (OpenSpec.ofChange groupOrderSpec)

/-- ITS FALSE NEIGHBOUR: 'it returns false'. Refute it at one input. -/
def groupOrderWrong : ChangeSpec := { name := "groupOrder", fn := fun _ => fun
  | [d] => { results := [.lit (.bool false)], args := [d] }
  | _ => none }
def GroupOrderWrongFalsely : Prop := groupOrderRow.holds Tryd.pinned (OpenSpec.ofChange groupOrderWrong)

/-- 'drayagelaw35.GroupOwn': WHATEVER THE INPUT: true; the input reads as it did. -/
def groupOwnSpec : ChangeSpec := { name := "groupOwn", fn := fun _ => fun
  | [d] => { results := [.lit (.bool true)], args := [d] }
  | _ => none }
def groupOwnRow : OpenClaim := { program := "ytknmgcjhfleloaadoor", sum := "809694fc8e317c1b5b02c04dc8a78fabe174378ffa7dfa060f9fdf38be358561", func := "drayage/drayagelaw35.GroupOwn", spec := "groupOwn", named := ["drayage/alter.changes"], apart := false, laid := [("drayage/alter.changes", laid_drayage_alter_changes)] }
def GroupOwnSaid : Prop := groupOwnRow.holds Tryd.pinned (OpenSpec.ofChange groupOwnSpec)

/-- ITS FALSE NEIGHBOUR: 'it returns false'. Refute it at one input. -/
def groupOwnWrong : ChangeSpec := { name := "groupOwn", fn := fun _ => fun
  | [d] => { results := [.lit (.bool false)], args := [d] }
  | _ => none }
def GroupOwnWrongFalsely : Prop := groupOwnRow.holds Tryd.pinned (OpenSpec.ofChange groupOwnWrong)

/- THE SECOND FORM. 'bulk': how many values and letters a reading holds, each counted each time it is reached (what is shared counts as often as it is met; a slice's spare places count too). A statement '..UptoSaid' is the law's where the arguments, and the package variables that the reading takes, are together of bulk at most 1048576: NARROWER than '..Said'. Prove '..Said' where nothing that the law and all that it calls make is longer than what came in: it says more and counts as full. Else prove '..UptoSaid'. A law counts once. -/
mutual
def uptoBulk {H : Type} : DataW H → Nat
  | .lit (.string bytes) => bytes.length + 1
  | .lit _ => 1
  | .nil => 1
  | .ptr d => uptoBulk d + 1
  | .slice elems spare => uptoBulkAll elems + uptoBulkAll spare + 1
  | .agg parts => uptoBulkAll parts + 1
  | .iface _ d => uptoBulk d + 1
  | .map entries => uptoBulkEntries entries + 1
  | .held _ => 1
def uptoBulkAll {H : Type} : List (DataW H) → Nat
  | [] => 0
  | d :: r => uptoBulk d + uptoBulkAll r
def uptoBulkEntries {H : Type} : List (Lit × DataW H) → Nat
  | [] => 0
  | x :: r => uptoBulkEntry x + uptoBulkEntries r
def uptoBulkEntry {H : Type} : Lit × DataW H → Nat
  | (.string bytes, d) => bytes.length + uptoBulk d + 1
  | (_, d) => uptoBulk d + 1
 end
def uptoSmall : (H : Type) → List (DataW H) → Bool := fun _ ds => decide (uptoBulkAll ds ≤ 1048576)
def OpenSpec.upto (s : _root_.Go.ChangeSpec) : _root_.Go.OpenSpec := { _root_.Go.OpenSpec.ofChange s with cond := some uptoSmall }

/-- 'drayagelaw35.GroupChains', WHERE WHAT IT READS IS OF BULK AT MOST 1048576: true; the input reads as it did. -/
def groupChainsUptoRow : OpenClaim := { program := "ytknmgcjhfleloaadoor", sum := "809694fc8e317c1b5b02c04dc8a78fabe174378ffa7dfa060f9fdf38be358561", func := "drayage/drayagelaw35.GroupChains", spec := "groupChains", recurses := true, named := ["drayage/alter.changes"], apart := false, laid := [("drayage/alter.changes", laid_drayage_alter_changes)], narrowed := true }
def GroupChainsUptoSaid : Prop := groupChainsUptoRow.holds Tryd.pinned (OpenSpec.upto groupChainsSpec)

/-- 'drayagelaw35.GroupOrder', WHERE WHAT IT READS IS OF BULK AT MOST 1048576: true; the input reads as it did. -/
def groupOrderUptoRow : OpenClaim := { program := "ytknmgcjhfleloaadoor", sum := "809694fc8e317c1b5b02c04dc8a78fabe174378ffa7dfa060f9fdf38be358561", func := "drayage/drayagelaw35.GroupOrder", spec := "groupOrder", named := ["drayage/alter.changes"], apart := false, laid := [("drayage/alter.changes", laid_drayage_alter_changes)], narrowed := true }
def GroupOrderUptoSaid : Prop := groupOrderUptoRow.holds Tryd.pinned (OpenSpec.upto groupOrderSpec)

/-- 'drayagelaw35.GroupOwn', WHERE WHAT IT READS IS OF BULK AT MOST 1048576: true; the input reads as it did. -/
def groupOwnUptoRow : OpenClaim := { program := "ytknmgcjhfleloaadoor", sum := "809694fc8e317c1b5b02c04dc8a78fabe174378ffa7dfa060f9fdf38be358561", func := "drayage/drayagelaw35.GroupOwn", spec := "groupOwn", named := ["drayage/alter.changes"], apart := false, laid := [("drayage/alter.changes", laid_drayage_alter_changes)], narrowed := true }
def GroupOwnUptoSaid : Prop := groupOwnUptoRow.holds Tryd.pinned (OpenSpec.upto groupOwnSpec)

end Rows
end Go.Proofs.YtknmgcjhfleloaaDoor
