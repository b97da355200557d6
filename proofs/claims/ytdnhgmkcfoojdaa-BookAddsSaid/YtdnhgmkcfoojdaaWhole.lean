/-
  Contracts of book.whole and of the reference's One: whether a booking alone is right.
-/
import Derived.Test.YtdnhgmkcfoojdaaRdrop
namespace Go.Proofs.Ytdnhgmkcfoojdaa
open Go.RowKit
set_option linter.unusedVariables false

def wholeP (b : Bk) (nodes : Int) : Prop := 1 ≤ b.id ∧ b.id ≤ 281474976710656 ∧ 0 ≤ b.node ∧ b.node < nodes ∧ 0 ≤ b.lo ∧ b.lo < b.hi ∧ b.hi ≤ 1099511627776
instance (b : Bk) (nodes : Int) : Decidable (wholeP b nodes) := by unfold wholeP; infer_instance
def wholeB (b : Bk) (nodes : Int) : Bool := decide (wholeP b nodes)
theorem wholeB_no {b : Bk} {nodes : Int} (h : ¬ wholeP b nodes) : wholeB b nodes = false := by simp [wholeB, h]
theorem wholeB_yes {b : Bk} {nodes : Int} (h : wholeP b nodes) : wholeB b nodes = true := by simp [wholeB, h]
theorem nright_any (n : Int) (w : World) : Calls Try.prog 17 #[.int .i64 n] w fun e w' => e = .returned (.bool (decide (0 ≤ n) && decide (n ≤ 281474976710656))) ∧ w = w' := by
  by_cases h1 : 0 ≤ n
  · by_cases h2 : n ≤ 281474976710656
    · go_enter Try.func17, Try.ntmps17
      go_wp2
      go_ret
      exact ⟨retBool (by simp [h1, h2]), rfl⟩
    · go_enter Try.func17, Try.ntmps17
      go_wp2
      go_ret
      exact ⟨retBool (by simp; omega), rfl⟩
  · go_enter Try.func17, Try.ntmps17
    go_wp2
    go_ret
    exact ⟨retBool (by simp; omega), rfl⟩

set_option maxHeartbeats 1000000 in
theorem whole_any (b : Bk) (nodes : Int) (w : World) : Calls Try.prog 13 #[b.val, .int .i64 nodes] w fun e w' => e = .returned (.bool (wholeB b nodes)) ∧ Below w.heap.size w w' := by
  have hb : Below w.heap.size w (w.alloc (.cells #[.int .i64 b.id, .int .i64 b.node, .int .i64 b.lo, .int .i64 b.hi] 24)) := (Below.refl _ _).alloc (Nat.le_refl _) _
  by_cases h0 : 1 ≤ b.id
  rotate_left
  · have HW := Lib.hid (wholeB_no (b := b) (nodes := nodes) (fun h => by unfold wholeP at h; omega))
    go_enter Try.func13, Try.ntmps13
    go_wp2
    go_ret
    exact ⟨retBool (by first | exact HW.out.symm | (rw [HW.out]; simp; omega)), hb⟩
  by_cases h1 : b.id ≤ 281474976710656
  rotate_left
  · have HW := Lib.hid (wholeB_no (b := b) (nodes := nodes) (fun h => by unfold wholeP at h; omega))
    go_enter Try.func13, Try.ntmps13
    go_wp2
    go_ret
    exact ⟨retBool (by first | exact HW.out.symm | (rw [HW.out]; simp; omega)), hb⟩
  by_cases h2 : 0 ≤ b.node
  rotate_left
  · have HW := Lib.hid (wholeB_no (b := b) (nodes := nodes) (fun h => by unfold wholeP at h; omega))
    go_enter Try.func13, Try.ntmps13
    go_wp2
    go_ret
    exact ⟨retBool (by first | exact HW.out.symm | (rw [HW.out]; simp; omega)), hb⟩
  by_cases h3 : b.node < nodes
  rotate_left
  · have HW := Lib.hid (wholeB_no (b := b) (nodes := nodes) (fun h => by unfold wholeP at h; omega))
    go_enter Try.func13, Try.ntmps13
    go_wp2
    go_ret
    exact ⟨retBool (by first | exact HW.out.symm | (rw [HW.out]; simp; omega)), hb⟩
  by_cases h4 : 0 ≤ b.lo
  rotate_left
  · have HW := Lib.hid (wholeB_no (b := b) (nodes := nodes) (fun h => by unfold wholeP at h; omega))
    go_enter Try.func13, Try.ntmps13
    go_wp2
    go_ret
    exact ⟨retBool (by first | exact HW.out.symm | (rw [HW.out]; simp; omega)), hb⟩
  by_cases h5 : b.lo < b.hi
  rotate_left
  · have HW := Lib.hid (wholeB_no (b := b) (nodes := nodes) (fun h => by unfold wholeP at h; omega))
    go_enter Try.func13, Try.ntmps13
    go_wp2
    go_ret
    exact ⟨retBool (by first | exact HW.out.symm | (rw [HW.out]; simp; omega)), hb⟩
  by_cases h6 : b.hi ≤ 1099511627776
  rotate_left
  · have HW := Lib.hid (wholeB_no (b := b) (nodes := nodes) (fun h => by unfold wholeP at h; omega))
    go_enter Try.func13, Try.ntmps13
    go_wp2
    go_ret
    exact ⟨retBool (by first | exact HW.out.symm | (rw [HW.out]; simp; omega)), hb⟩
  have HW := Lib.hid (wholeB_yes (b := b) (nodes := nodes) ⟨h0, h1, h2, h3, h4, h5, h6⟩)
  go_enter Try.func13, Try.ntmps13
  go_wp2
  go_ret
  exact ⟨retBool HW.out.symm, hb⟩

set_option maxHeartbeats 1000000 in
theorem one_any (b : Bk) (nodes : Int) (w : World) : Calls Try.prog 15 #[b.val, .int .i64 nodes] w fun e w' => e = .returned (.bool (wholeB b nodes)) ∧ Below w.heap.size w w' := by
  have hb : Below w.heap.size w (w.alloc (.cells #[.int .i64 b.id, .int .i64 b.node, .int .i64 b.lo, .int .i64 b.hi] 24)) := (Below.refl _ _).alloc (Nat.le_refl _) _
  by_cases h0 : 1 ≤ b.id
  rotate_left
  · have HW := Lib.hid (wholeB_no (b := b) (nodes := nodes) (fun h => by unfold wholeP at h; omega))
    go_enter Try.func15, Try.ntmps15
    go_wp2_with (go_at_call 17; refine (nright_any _ _).mono ?_; rintro e w' ⟨rfl, rfl⟩)
    go_ret
    exact ⟨retBool (by first | exact HW.out.symm | (rw [HW.out]; simp; omega)), hb⟩
  by_cases h1 : b.id ≤ 281474976710656
  rotate_left
  · have HW := Lib.hid (wholeB_no (b := b) (nodes := nodes) (fun h => by unfold wholeP at h; omega))
    go_enter Try.func15, Try.ntmps15
    go_wp2_with (go_at_call 17; refine (nright_any _ _).mono ?_; rintro e w' ⟨rfl, rfl⟩)
    go_ret
    exact ⟨retBool (by first | exact HW.out.symm | (rw [HW.out]; simp; omega)), hb⟩
  by_cases h2 : 0 ≤ b.node
  rotate_left
  · have HW := Lib.hid (wholeB_no (b := b) (nodes := nodes) (fun h => by unfold wholeP at h; omega))
    go_enter Try.func15, Try.ntmps15
    go_wp2_with (go_at_call 17; refine (nright_any _ _).mono ?_; rintro e w' ⟨rfl, rfl⟩)
    go_ret
    exact ⟨retBool (by first | exact HW.out.symm | (rw [HW.out]; simp; omega)), hb⟩
  by_cases h3 : b.node < nodes
  rotate_left
  · have HW := Lib.hid (wholeB_no (b := b) (nodes := nodes) (fun h => by unfold wholeP at h; omega))
    go_enter Try.func15, Try.ntmps15
    go_wp2_with (go_at_call 17; refine (nright_any _ _).mono ?_; rintro e w' ⟨rfl, rfl⟩)
    go_ret
    exact ⟨retBool (by first | exact HW.out.symm | (rw [HW.out]; simp; omega)), hb⟩
  by_cases h4 : 0 ≤ b.lo
  rotate_left
  · have HW := Lib.hid (wholeB_no (b := b) (nodes := nodes) (fun h => by unfold wholeP at h; omega))
    go_enter Try.func15, Try.ntmps15
    go_wp2_with (go_at_call 17; refine (nright_any _ _).mono ?_; rintro e w' ⟨rfl, rfl⟩)
    go_ret
    exact ⟨retBool (by first | exact HW.out.symm | (rw [HW.out]; simp; omega)), hb⟩
  by_cases h5 : b.lo < b.hi
  rotate_left
  · have HW := Lib.hid (wholeB_no (b := b) (nodes := nodes) (fun h => by unfold wholeP at h; omega))
    go_enter Try.func15, Try.ntmps15
    go_wp2_with (go_at_call 17; refine (nright_any _ _).mono ?_; rintro e w' ⟨rfl, rfl⟩)
    go_ret
    exact ⟨retBool (by first | exact HW.out.symm | (rw [HW.out]; simp; omega)), hb⟩
  by_cases h6 : b.hi ≤ 1099511627776
  rotate_left
  · have HW := Lib.hid (wholeB_no (b := b) (nodes := nodes) (fun h => by unfold wholeP at h; omega))
    go_enter Try.func15, Try.ntmps15
    go_wp2_with (go_at_call 17; refine (nright_any _ _).mono ?_; rintro e w' ⟨rfl, rfl⟩)
    go_ret
    exact ⟨retBool (by first | exact HW.out.symm | (rw [HW.out]; simp; omega)), hb⟩
  have HW := Lib.hid (wholeB_yes (b := b) (nodes := nodes) ⟨h0, h1, h2, h3, h4, h5, h6⟩)
  go_enter Try.func15, Try.ntmps15
  go_wp2_with (go_at_call 17; refine (nright_any _ _).mono ?_; rintro e w' ⟨rfl, rfl⟩)
  go_ret
  exact ⟨retBool HW.out.symm, hb⟩

end Go.Proofs.Ytdnhgmkcfoojdaa
