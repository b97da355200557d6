/-
  Contracts of package nat and of its reference: what each function answers, for every number.
-/
import Derived.Test.YthiepcajpgfjfaaRows
import Derived.WalkKit
import Derived.WalkLawsBesides
import Derived.Outline
import Derived.Lib.Hide
namespace Go.Proofs.Ythiepcajpgfjfaa
open Go.RowKit
set_option linter.unusedVariables false

theorem ret_int {k : IntKind} {a b : Int} (h : a = b) : Ending.returned (.int k a) = .returned (.int k b) := by rw [h]
theorem ret_pair {p : Int × Int} {a b : Int} (h : p = (a, b)) : Ending.returned (.tuple #[.int .i64 a, .int .i64 b]) = .returned (.tuple #[.int .i64 p.1, .int .i64 p.2]) := by rw [h]

def upZ (a b : Int) : Int := if a < 1 ∨ b < 1 then 0 else (a - 1) / b + 1
theorem upZ_low {a b : Int} (h : a < 1 ∨ b < 1) : upZ a b = 0 := by simp [upZ, h]
theorem upZ_pos {a b : Int} (h1 : 1 ≤ a) (h2 : 1 ≤ b) : upZ a b = (a - 1) / b + 1 := by
  unfold upZ; rw [if_neg (by omega)]

/-- What Add answers: a number and an error. -/
def addZ (a b l : Int) : Int × Int :=
  if a < 0 ∨ b < 0 ∨ l < 0 then (0, 2) else if a > l ∨ b > l - a then (0, 20) else (a + b, 0)
def mulZ (a b l : Int) : Int × Int :=
  if a < 0 ∨ b < 0 ∨ l < 0 then (0, 2) else if 0 < a ∧ b > l / a then (0, 20) else (a * b, 0)

theorem addZ_arg {a b l : Int} (h : a < 0 ∨ b < 0 ∨ l < 0) : addZ a b l = (0, 2) := by simp [addZ, h]
theorem addZ_over {a b l : Int} (h : 0 ≤ a ∧ 0 ≤ b ∧ 0 ≤ l) (h2 : l < a ∨ l - a < b) : addZ a b l = (0, 20) := by
  unfold addZ; rw [if_neg (by omega), if_pos (by omega)]
theorem addZ_ok {a b l : Int} (h : 0 ≤ a ∧ 0 ≤ b ∧ 0 ≤ l) (h1 : a ≤ l) (h2 : b ≤ l - a) : addZ a b l = (a + b, 0) := by
  unfold addZ; rw [if_neg (by omega), if_neg (by omega)]
theorem mulZ_arg {a b l : Int} (h : a < 0 ∨ b < 0 ∨ l < 0) : mulZ a b l = (0, 2) := by simp [mulZ, h]
theorem mulZ_over {a b l : Int} (h : 0 < a ∧ 0 ≤ b ∧ 0 ≤ l) (h2 : l / a < b) : mulZ a b l = (0, 20) := by
  unfold mulZ; rw [if_neg (by omega), if_pos ⟨h.1, h2⟩]
theorem mulZ_ok {a b l : Int} (h : 0 ≤ a ∧ 0 ≤ b ∧ 0 ≤ l) (h2 : a = 0 ∨ b ≤ l / a) : mulZ a b l = (a * b, 0) := by
  unfold mulZ; rw [if_neg (by omega), if_neg (by intro h3; have := h3.2; have := h3.1; omega)]

/-! the reference's ways -/
theorem div_up {a b : Int} (h1 : 1 ≤ a) (h2 : 1 ≤ b) (h : a % b = 0) : a / b = (a - 1) / b + 1 := by
  have e := Int.mul_ediv_add_emod a b
  rw [h, Int.add_zero] at e
  have : a - 1 = (b - 1) + b * (a / b - 1) := by rw [Int.mul_sub, Int.mul_one]; omega
  have z : (b - 1) / b = 0 := Int.ediv_eq_zero_of_lt (by omega) (by omega)
  rw [this, Int.add_mul_ediv_left _ _ (by omega), z]; omega
theorem div_up' {a b : Int} (h1 : 1 ≤ a) (h2 : 1 ≤ b) (h : a % b ≠ 0) : a / b = (a - 1) / b := by
  have e := Int.mul_ediv_add_emod a b
  have l0 := Int.emod_nonneg a (show b ≠ 0 by omega)
  have l1 := Int.emod_lt_of_pos a (show 0 < b by omega)
  have : a - 1 = (a % b - 1) + b * (a / b) := by omega
  have z : (a % b - 1) / b = 0 := Int.ediv_eq_zero_of_lt (by omega) (by omega)
  rw [this, Int.add_mul_ediv_left _ _ (by omega), z]; omega
theorem mul_fits {a b l : Int} (h : 0 < a) (hb : 0 ≤ b) (h2 : b ≤ l / a) : 0 ≤ a * b ∧ a * b ≤ l := by
  constructor
  · exact Int.mul_nonneg (by omega) hb
  · have := Int.mul_ediv_self_le (x := l) (k := a) (by omega)
    have := Int.mul_le_mul_of_nonneg_left h2 (show 0 ≤ a by omega)
    omega

set_option maxHeartbeats 400000 in
theorem awake_any (w : World) : Calls Try.prog 7 #[] w fun e w' => e = .returned (.bool true) ∧ w = w' := by
  go_enter Try.func7, Try.ntmps7
  go_wp2
  go_ret
  exact ⟨rfl, rfl⟩

theorem up_any (a b : Int) (w : World) (ha : -9223372036854775808 ≤ a) (ha' : a ≤ 9223372036854775807) :
    Calls Try.prog 8 #[.int .i64 a, .int .i64 b] w fun e w' => e = .returned (.int .i64 (upZ a b)) ∧ w = w' := by
  by_cases h1 : a < 1
  · go_enter Try.func8, Try.ntmps8
    go_wp2
    go_ret
    exact ⟨ret_int (upZ_low (Or.inl h1)).symm, rfl⟩
  · by_cases h2 : b < 1
    · go_enter Try.func8, Try.ntmps8
      go_wp2
      go_ret
      exact ⟨ret_int (upZ_low (Or.inr h2)).symm, rfl⟩
    · have hd0 : 0 ≤ (a - 1) / b := Int.ediv_nonneg (by omega) (by omega)
      have hd1 : (a - 1) / b ≤ a - 1 := Int.ediv_le_self _ (by omega)
      go_enter Try.func8, Try.ntmps8
      go_wp2
      go_ret
      exact ⟨ret_int (upZ_pos h1 h2).symm, rfl⟩

theorem rup_any (a b : Int) (w : World) (ha : -9223372036854775808 ≤ a) (ha' : a ≤ 9223372036854775807) :
    Calls Try.prog 15 #[.int .i64 a, .int .i64 b] w fun e w' => e = .returned (.int .i64 (upZ a b)) ∧ w = w' := by
  by_cases h1 : a < 1
  · go_enter Try.func15, Try.ntmps15
    go_wp2
    go_ret
    exact ⟨ret_int (upZ_low (Or.inl h1)).symm, rfl⟩
  · by_cases h2 : b < 1
    · go_enter Try.func15, Try.ntmps15
      go_wp2
      go_ret
      exact ⟨ret_int (upZ_low (Or.inr h2)).symm, rfl⟩
    · have hd0 : 0 ≤ a / b := Int.ediv_nonneg (by omega) (by omega)
      have hd1 : a / b ≤ a := Int.ediv_le_self _ (by omega)
      by_cases h3 : a % b = 0
      · have h3' : (a % b != 0) = false := by simp [h3]
        have H3 := Lib.hid (div_up (by omega) (by omega) h3); clear h3
        go_enter Try.func15, Try.ntmps15
        go_wp2
        go_ret
        exact ⟨ret_int (by rw [upZ_pos h1 h2]; exact H3.out), rfl⟩
      · have h3' : (a % b != 0) = true := by simp [h3]
        have H3 := Lib.hid (div_up' (by omega) (by omega) h3)
        have hd2 : a / b + 1 ≤ a := by
          rw [H3.out]; have : (a - 1) / b ≤ a - 1 := Int.ediv_le_self _ (by omega)
          omega
        clear h3
        go_enter Try.func15, Try.ntmps15
        go_wp2
        go_ret
        exact ⟨ret_int (by rw [upZ_pos h1 h2, H3.out]), rfl⟩

theorem add_any (a b l : Int) (w : World) (hl' : l ≤ 9223372036854775807) :
    Calls Try.prog 11 #[.int .i64 a, .int .i64 b, .int .i64 l] w fun e w' => e = .returned (.tuple #[.int .i64 (addZ a b l).1, .int .i64 (addZ a b l).2]) ∧ w = w' := by
  by_cases h1 : a < 0
  · go_enter Try.func11, Try.ntmps11
    go_wp2
    go_ret2
    exact ⟨ret_pair (addZ_arg (Or.inl h1)), rfl⟩
  by_cases h2 : b < 0
  · go_enter Try.func11, Try.ntmps11
    go_wp2
    go_ret2
    exact ⟨ret_pair (addZ_arg (Or.inr (Or.inl h2))), rfl⟩
  by_cases h3 : l < 0
  · go_enter Try.func11, Try.ntmps11
    go_wp2
    go_ret2
    exact ⟨ret_pair (addZ_arg (Or.inr (Or.inr h3))), rfl⟩
  by_cases h4 : l < a
  · go_enter Try.func11, Try.ntmps11
    go_wp2
    go_ret2
    exact ⟨ret_pair (addZ_over (by omega) (Or.inl h4)), rfl⟩
  by_cases h5 : l - a < b
  · go_enter Try.func11, Try.ntmps11
    go_wp2
    go_ret2
    exact ⟨ret_pair (addZ_over (by omega) (Or.inr h5)), rfl⟩
  go_enter Try.func11, Try.ntmps11
  go_wp2
  go_ret2
  exact ⟨ret_pair (addZ_ok (by omega) (by omega) (by omega)), rfl⟩

theorem radd_any (a b l : Int) (w : World) (hl' : l ≤ 9223372036854775807) :
    Calls Try.prog 13 #[.int .i64 a, .int .i64 b, .int .i64 l] w fun e w' => e = .returned (.tuple #[.int .i64 (addZ a b l).1, .int .i64 (addZ a b l).2]) ∧ w = w' := by
  by_cases h1 : a < 0
  · go_enter Try.func13, Try.ntmps13
    go_wp2
    go_ret2
    exact ⟨ret_pair (addZ_arg (Or.inl h1)), rfl⟩
  by_cases h2 : b < 0
  · go_enter Try.func13, Try.ntmps13
    go_wp2
    go_ret2
    exact ⟨ret_pair (addZ_arg (Or.inr (Or.inl h2))), rfl⟩
  by_cases h3 : l < 0
  · go_enter Try.func13, Try.ntmps13
    go_wp2
    go_ret2
    exact ⟨ret_pair (addZ_arg (Or.inr (Or.inr h3))), rfl⟩
  by_cases h4 : l < a
  · go_enter Try.func13, Try.ntmps13
    go_wp2
    go_ret2
    exact ⟨ret_pair (addZ_over (by omega) (Or.inl h4)), rfl⟩
  by_cases h5 : l - a < b
  · go_enter Try.func13, Try.ntmps13
    go_wp2
    go_ret2
    exact ⟨ret_pair (addZ_over (by omega) (Or.inr h5)), rfl⟩
  go_enter Try.func13, Try.ntmps13
  go_wp2
  go_ret2
  exact ⟨ret_pair (addZ_ok (by omega) (by omega) (by omega)), rfl⟩

theorem mul_any (a b l : Int) (w : World) (hl' : l ≤ 9223372036854775807) :
    Calls Try.prog 12 #[.int .i64 a, .int .i64 b, .int .i64 l] w fun e w' => e = .returned (.tuple #[.int .i64 (mulZ a b l).1, .int .i64 (mulZ a b l).2]) ∧ w = w' := by
  by_cases h1 : a < 0
  · go_enter Try.func12, Try.ntmps12
    go_wp2
    go_ret2
    exact ⟨ret_pair (mulZ_arg (Or.inl h1)), rfl⟩
  by_cases h2 : b < 0
  · go_enter Try.func12, Try.ntmps12
    go_wp2
    go_ret2
    exact ⟨ret_pair (mulZ_arg (Or.inr (Or.inl h2))), rfl⟩
  by_cases h3 : l < 0
  · go_enter Try.func12, Try.ntmps12
    go_wp2
    go_ret2
    exact ⟨ret_pair (mulZ_arg (Or.inr (Or.inr h3))), rfl⟩
  by_cases h4 : a = 0
  · subst h4
    go_enter Try.func12, Try.ntmps12
    go_wp2
    go_ret2
    exact ⟨ret_pair (by rw [mulZ_ok (by omega) (Or.inl rfl)]; simp), rfl⟩
  have h4 : 0 < a := by omega
  have hd0 : 0 ≤ l / a := Int.ediv_nonneg (by omega) (by omega)
  have hd1 : l / a ≤ l := Int.ediv_le_self _ (by omega)
  by_cases h5 : l / a < b
  · go_enter Try.func12, Try.ntmps12
    go_wp2
    go_ret2
    exact ⟨ret_pair (mulZ_over (by omega) h5), rfl⟩
  have hm := mul_fits h4 (by omega) (show b ≤ l / a by omega)
  have hm1 := hm.1
  have hm2 := hm.2
  clear hm
  go_enter Try.func12, Try.ntmps12
  go_wp2
  go_ret2
  exact ⟨ret_pair (mulZ_ok (by omega) (Or.inr (by omega))), rfl⟩

theorem rmul_any (a b l : Int) (w : World) (hl' : l ≤ 9223372036854775807) :
    Calls Try.prog 14 #[.int .i64 a, .int .i64 b, .int .i64 l] w fun e w' => e = .returned (.tuple #[.int .i64 (mulZ a b l).1, .int .i64 (mulZ a b l).2]) ∧ w = w' := by
  by_cases h1 : a < 0
  · go_enter Try.func14, Try.ntmps14
    go_wp2
    go_ret2
    exact ⟨ret_pair (mulZ_arg (Or.inl h1)), rfl⟩
  by_cases h2 : b < 0
  · go_enter Try.func14, Try.ntmps14
    go_wp2
    go_ret2
    exact ⟨ret_pair (mulZ_arg (Or.inr (Or.inl h2))), rfl⟩
  by_cases h3 : l < 0
  · go_enter Try.func14, Try.ntmps14
    go_wp2
    go_ret2
    exact ⟨ret_pair (mulZ_arg (Or.inr (Or.inr h3))), rfl⟩
  by_cases h4 : a = 0
  · subst h4
    go_enter Try.func14, Try.ntmps14
    go_wp2
    go_ret2
    exact ⟨ret_pair (by rw [mulZ_ok (by omega) (Or.inl rfl)]; simp), rfl⟩
  have h4b : (a == 0) = false := by simp [h4]
  have h4 : 0 < a := by omega
  have hd0 : 0 ≤ l / a := Int.ediv_nonneg (by omega) (by omega)
  have hd1 : l / a ≤ l := Int.ediv_le_self _ (by omega)
  by_cases h6 : b = 0
  · subst h6
    go_enter Try.func14, Try.ntmps14
    go_wp2
    go_ret2
    exact ⟨ret_pair (by rw [mulZ_ok (by omega) (Or.inr hd0)]; simp), rfl⟩
  have h6b : (b == 0) = false := by simp [h6]
  have h6 : 0 < b := by omega
  by_cases h5 : l / a < b
  · go_enter Try.func14, Try.ntmps14
    go_wp2
    go_ret2
    exact ⟨ret_pair (mulZ_over (by omega) h5), rfl⟩
  have hm := mul_fits h4 (by omega) (show b ≤ l / a by omega)
  have hm1 := hm.1
  have hm2 := hm.2
  clear hm
  go_enter Try.func14, Try.ntmps14
  go_wp2
  go_ret2
  exact ⟨ret_pair (mulZ_ok (by omega) (Or.inr (by omega))), rfl⟩
end Go.Proofs.Ythiepcajpgfjfaa
