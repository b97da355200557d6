/-
  The chapter's example of layer 35.
-/
import Derived.Test.YtknmgcjhfleloaaDoorOrders
namespace Go.Proofs.YtknmgcjhfleloaaDoor
open Go.RowKit Go.BigFrame
set_option linter.unusedVariables false

def cl (k j : Int) : Cl := ⟨0, k, 0, j, 0, 0, 0, 0, 0, 0, 0, 0, 0, none, 0, 0, 0, 0, 0, 0⟩
def ex : List Cl := [cl 3 1, cl 3 2, cl 4 1]
theorem exOrder : order (rqs ex) = [0, 2, 1] := by decide
theorem exWf : ∀ b ∈ ex, wfJ b.j := by
  intro b hb
  simp [ex] at hb
  rcases hb with rfl | rfl | rfl <;> (unfold wfJ; decide)
abbrev exObj : Obj := .cells (flatC ex).toArray 35
theorem exRow (w : World) : Row (w.alloc exObj) (w.heap.size + 1) (some ⟨w.heap.size, 0, none⟩) (flatC ex) := Row.lit w (flatC ex).toArray 35
theorem exSame : sameB ([0, 2, 1] : List Int) [0, 2, 1] = true := by decide
set_option maxHeartbeats 2000000 in
theorem awake_any (w : World) (hchg : Chg w) : Calls Tryd.prog 6 #[] w fun e w' => e = .returned (.bool true) ∧ Below w.heap.size w w' := by
  have hb0 : Below w.heap.size w (w.alloc exObj) := (Below.refl _ _).alloc (Nat.le_refl _) _
  go_enter Tryd.func6, Tryd.ntmps6
  go_wp2_with fail
  refine (order_any _ _ _ ex _ (by exact exRow w) (by simp) (by simp [ex]) (hchg.later hb0) exWf).mono ?_
  rw [exOrder]
  rintro e w1 ⟨A1, c1, rfl, hr1, hb1⟩
  have hW1 := hb0.trans (hb1.mono (by simp))
  go_wp2_with fail
  have hr1' := hr1.below ((Below.refl w1.heap.size w1).alloc (Nat.le_refl _) (.cells #[.int .i64 0, .int .i64 2, .int .i64 1] 3))
  have hr2 := Row.lit w1 #[.int .i64 0, .int .i64 2, .int .i64 1] 3
  refine (ints_any _ _ _ _ _ _ [0, 2, 1] [0, 2, 1] _ (by exact hr1') (by exact hr2) (by simp) (by simp) (by simp)).mono ?_
  rw [exSame]
  rintro e w2 ⟨rfl, hb2⟩
  go_wp2
  go_ret
  exact ⟨rfl, (hW1.alloc hW1.size _).trans (hb2.mono (by have := hW1.size; simp; omega))⟩
end Go.Proofs.YtknmgcjhfleloaaDoor
