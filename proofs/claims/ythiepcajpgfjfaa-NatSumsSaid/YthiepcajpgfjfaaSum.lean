/-
  The contract of nat.Sum: what it answers for every list of numbers. No condition but that the list is a slice's.
-/
import Derived.Test.YthiepcajpgfjfaaNat
import Derived.Test.YthiepcajpgfjfaaWords
import Derived.LoopTactic
import Derived.Deep.LoopGhost
namespace Go.Proofs.Ythiepcajpgfjfaa
open Go.RowKit
set_option linter.unusedVariables false

def anyNeg (l : List Int) : Bool := l.any (fun x => decide (x < 0))
def sumOf : List Int → Int
  | [] => 0
  | x :: r => x + sumOf r
/-- What Sum answers: a number and an error. -/
def sumZ (l : List Int) (limit : Int) : Int × Int :=
  if limit < 0 ∨ anyNeg l = true then (0, 2) else if limit < sumOf l then (0, 20) else (sumOf l, 0)

theorem sumOf_append (a b : List Int) : sumOf (a ++ b) = sumOf a + sumOf b := by
  induction a with
  | nil => simp [sumOf]
  | cons x r ih => simp [sumOf, ih]; omega
theorem sumOf_reverse (a : List Int) : sumOf a.reverse = sumOf a := by
  induction a with
  | nil => rfl
  | cons x r ih => simp [sumOf, sumOf_append, ih]; omega
theorem sumOf_nonneg {a : List Int} (h : anyNeg a = false) : 0 ≤ sumOf a := by
  induction a with
  | nil => simp [sumOf]
  | cons x r ih =>
    simp [anyNeg] at h ih
    have := ih h.2
    have := h.1
    simp [sumOf]; omega
theorem anyNeg_false {a : List Int} : anyNeg a = false ↔ ∀ x ∈ a, 0 ≤ x := by
  simp [anyNeg]
theorem anyNeg_reverse (a : List Int) : anyNeg a.reverse = anyNeg a := by
  simp [anyNeg]
theorem sumZ_reverse (a : List Int) (l : Int) : sumZ a.reverse l = sumZ a l := by
  simp [sumZ, anyNeg_reverse, sumOf_reverse]
theorem take_next (a : List Int) (k : Nat) (h : k < a.length) : a.take (k + 1) = a.take k ++ [a[k]] := by
  rw [List.take_succ_eq_append_getElem h]
theorem sumOf_take (a : List Int) (k : Nat) (h : k < a.length) : sumOf (a.take (k + 1)) = sumOf (a.take k) + a[k] := by
  rw [take_next a k h, sumOf_append]; simp [sumOf]
theorem anyNeg_take {a : List Int} (k : Nat) (h : anyNeg a = false) : anyNeg (a.take k) = false := by
  rw [anyNeg_false] at *; exact fun x hx => h x (List.mem_of_mem_take hx)
theorem sumOf_take_le {a : List Int} (k : Nat) (h : anyNeg a = false) : 0 ≤ sumOf (a.take k) ∧ sumOf (a.take k) ≤ sumOf a := by
  refine ⟨sumOf_nonneg (anyNeg_take k h), ?_⟩
  have e := sumOf_append (a.take k) (a.drop k)
  rw [List.take_append_drop] at e
  have : 0 ≤ sumOf (a.drop k) := by
    apply sumOf_nonneg
    rw [anyNeg_false] at *; exact fun x hx => h x (List.mem_of_mem_drop hx)
  omega
theorem sumZ_arg {a : List Int} {l : Int} (h : l < 0 ∨ anyNeg a = true) : sumZ a l = (0, 2) := by simp [sumZ, h]
theorem sumZ_over {a : List Int} {l : Int} (h : 0 ≤ l) (h1 : anyNeg a = false) (h2 : l < sumOf a) : sumZ a l = (0, 20) := by
  unfold sumZ; rw [if_neg (by simp [h1]; omega), if_pos h2]
theorem sumZ_ok {a : List Int} {l : Int} (h : 0 ≤ l) (h1 : anyNeg a = false) (h2 : sumOf a ≤ l) : sumZ a l = (sumOf a, 0) := by
  unfold sumZ; rw [if_neg (by simp [h1]; omega), if_neg (by omega)]

set_option maxHeartbeats 800000 in
theorem sum_any (A : Option Addr) (cap : Nat) (xs : List Int) (B : Nat) (l : Int) (w : World) (hr : Row w B A (ints xs)) (hn : xs.length ≤ 9223372036854775807) (hl : l ≤ 9223372036854775807) :
    Calls Try.prog 16 #[.slice A xs.length cap, .int .i64 l] w fun e w' => e = .returned (.tuple #[.int .i64 (sumZ xs l).1, .int .i64 (sumZ xs l).2]) ∧ w = w' := by
  by_cases hl0 : l < 0
  · go_enter Try.func16, Try.ntmps16
    go_wp2
    go_ret2
    exact ⟨ret_pair (sumZ_arg (Or.inl hl0)), rfl⟩
  go_enter Try.func16, Try.ntmps16
  go_wp2
  go_loop [17] (fun i => ∃ k : Nat, k ≤ xs.length ∧ i = .int .i64 k ∧ Hid (anyNeg (xs.take k) = false)) (fun i => xs.length - (intOf i).toNat)
  case atStart => exact ⟨0, Nat.zero_le _, rfl, by simp [Hid, anyNeg]⟩
  case round =>
    obtain ⟨k, hk, rfl, hneg⟩ := hrel
    by_cases hlt : k < xs.length
    · obtain ⟨b, off, rfl, _, hc⟩ := hr.int hlt
      have hts := Lib.hid (take_next xs k hlt)
      by_cases hx : xs[k] < 0
      · go_wp2
        go_ret2
        refine ⟨ret_pair (sumZ_arg (Or.inr ?_)), rfl⟩
        simp only [anyNeg, List.any_eq_true, decide_eq_true_eq]
        exact ⟨xs[k], List.getElem_mem hlt, hx⟩
      · go_wp2
        go_round
        case rel =>
          refine ⟨k + 1, by omega, by go_num, ?_⟩
          show anyNeg (xs.take (k + 1)) = false
          rw [hts.out, anyNeg_false]
          have := anyNeg_false.1 hneg.out
          intro x hx'
          rcases List.mem_append.1 hx' with h | h
          · exact this x h
          · simp at h; omega
        case measure => simp [intOf]; omega
    · have hneg : Hid (anyNeg xs = false) := by
        have := hneg.out
        rw [List.take_of_length_le (by omega)] at this
        exact this
      go_wp2
      go_loop [8, 26] (fun s i => ∃ k : Nat, k ≤ xs.length ∧ i = .int .i64 k ∧ s = .int .i64 (sumOf (xs.take k)) ∧ sumOf (xs.take k) ≤ l) (fun _ i => xs.length - (intOf i).toNat)
      case atStart => exact ⟨0, Nat.zero_le _, rfl, rfl, by simp [sumOf]; omega⟩
      case round =>
        clear hk hlt
        obtain ⟨k, hk, rfl, rfl, hle⟩ := hrel
        have hnn := sumOf_take_le k hneg.out
        by_cases hlt : k < xs.length
        · obtain ⟨b, off, rfl, _, hc⟩ := hr.int hlt
          have hts := Lib.hid (sumOf_take xs k hlt)
          have hnn2 := sumOf_take_le (k + 1) hneg.out
          have h0 : 0 ≤ xs[k] := anyNeg_false.1 hneg.out _ (List.getElem_mem hlt)
          by_cases hov : l - sumOf (xs.take k) < xs[k]
          · have ha := Lib.hid (addZ_over (a := sumOf (xs.take k)) (b := xs[k]) (l := l) (by omega) (Or.inr hov))
            have hq : ((addZ (sumOf (xs.take k)) xs[k] l).2 != 0) = true := by rw [ha.out]; rfl
            have hlo : l < sumOf xs := by rw [hts.out] at hnn2; omega
            go_wp2_with (go_at_call 11; refine (add_any _ _ _ _ (by omega)).mono ?_; rintro e w' ⟨rfl, rfl⟩)
            go_ret2
            refine ⟨?_, rfl⟩
            rw [sumZ_over (by omega) hneg.out hlo]
            simp [ha.out]
          · have ha := Lib.hid (addZ_ok (a := sumOf (xs.take k)) (b := xs[k]) (l := l) (by omega) (by omega) (by omega))
            have hq : ((addZ (sumOf (xs.take k)) xs[k] l).2 != 0) = false := by rw [ha.out]; rfl
            go_wp2_with (go_at_call 11; refine (add_any _ _ _ _ (by omega)).mono ?_; rintro e w' ⟨rfl, rfl⟩)
            go_round
            case rel => exact ⟨k + 1, by omega, by go_num, by rw [hts.out, ha.out], by rw [hts.out]; omega⟩
            case measure => simp [intOf]; omega
        · have he : Hid (xs.take k = xs) := List.take_of_length_le (by omega)
          go_wp2
          go_ret2
          rw [he.out] at hle
          exact ⟨ret_pair (by rw [sumZ_ok (by omega) hneg.out hle, he.out]), rfl⟩
end Go.Proofs.Ythiepcajpgfjfaa
