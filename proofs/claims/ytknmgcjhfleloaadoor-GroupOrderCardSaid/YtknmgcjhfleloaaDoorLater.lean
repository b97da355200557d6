/-
  A region that draws its order, whose operations only read and whose callees may make memory but write nothing that was there: one walk in the order of the text. No program in sight. No condition.
-/
import Derived.Test.YtknmgcjhfleloaaDoorWords
import Derived.BigQuiet
import Derived.Deep.Quiet
namespace Go.Proofs.YtknmgcjhfleloaaDoor
open Go.RowKit
set_option linter.unusedVariables false

/-- The worlds in which all that was there is as it was. -/
def Later (w : World) := { u : World // Below w.heap.size w u }
instance (w : World) : Nonempty (Later w) := ⟨⟨w, Below.refl _ _⟩⟩
theorem Later.cell {w : World} (u : Later w) {p : Addr} (hp : p.block < w.heap.size) : u.val.cell? p = w.cell? p := u.property.cell hp
theorem Later.row {w : World} (u : Later w) {A : Option Addr} {vs : List Value} (h : Row w w.heap.size A vs) : Row u.val w.heap.size A vs := h.below u.property

theorem wp_region_later {P : Program} {id : Nat} {Q : Exit → Act → World → Prop} {a : Act} {w : World} {l : List Oper} (hm : P.follows .mixedOrders = true) (hB : Region.lexB .any l.toArray = true)
    (h : wpQuiet P l.toArray (fun w' => ∃ u : Later w, w' = u.val) (fun a' => ∀ w', (∃ u : Later w, w' = u.val) → Q .normal a' w') l a) : (Code.region id l.toArray true).wp P Q a w :=
  wp_region_quiet (C := fun w' => ∃ u : Later w, w' = u.val) hm hB ⟨⟨_, (Below.refl w.heap.size w).drew⟩, rfl⟩ (by simpa using h)

/-- A callee's contract, met in a later world. -/
theorem later_of {P : Program} {f : FuncId} {args : Array Value} {w : World} {u : Later w} {v : Value}
    (h : Calls P f args u.val fun e w' => e = .returned v ∧ Below u.val.heap.size u.val w') : Calls P f args u.val fun e w'' => e = .returned v ∧ ∃ u' : Later w, w'' = u'.val :=
  h.mono fun _ w' ⟨he, hb⟩ => ⟨he, ⟨w', u.property.trans (hb.mono u.property.size)⟩, rfl⟩
theorem later_same {P : Program} {f : FuncId} {args : Array Value} {w : World} {u : Later w} {v : Value}
    (h : Calls P f args u.val fun e w' => e = .returned v ∧ u.val = w') : Calls P f args u.val fun e w'' => e = .returned v ∧ ∃ u' : Later w, w'' = u'.val :=
  h.mono fun _ w' ⟨he, hb⟩ => ⟨he, ⟨w', hb ▸ u.property⟩, rfl⟩
end Go.Proofs.YtknmgcjhfleloaaDoor
