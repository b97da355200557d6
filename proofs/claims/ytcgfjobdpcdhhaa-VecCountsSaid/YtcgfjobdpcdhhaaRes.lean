/-
  Contracts of vec.numbers, vec.Right and of the reference's Right: vectors of four numbers.
-/
import Derived.Test.YtcgfjobdpcdhhaaRows
import Derived.Test.YtcgfjobdpcdhhaaWords
import Derived.Test.YtcgfjobdpcdhhaaLater
import Derived.WalkKit
import Derived.WalkSpells
import Derived.WalkLawsBesides
import Derived.WalkSmall
import Derived.Outline
import Derived.RegionTactic
import Derived.Laws.StructEq
namespace Go.Proofs.Ytcgfjobdpcdhhaa
open Go.RowKit Go.BigFrame
set_option linter.unusedVariables false

/-- A vector: its four numbers. -/
structure Rs where
  c : Int
  m : Int
  g : Int
  l : Int
deriving DecidableEq

abbrev Rs.val (a : Rs) : Value := .agg #[.int .i64 a.c, .int .i64 a.m, .int .i64 a.g, .int .i64 a.l]
abbrev Rs.obj (a : Rs) (t : TypeId) : Obj := .cells #[.int .i64 a.c, .int .i64 a.m, .int .i64 a.g, .int .i64 a.l] t

set_option maxHeartbeats 400000 in
theorem numbers_any (a : Rs) (w : World) : Calls Try.prog 39 #[a.val] w fun e w' => e = .returned a.val ∧ Below w.heap.size w w' := by
  go_enter Try.func39, Try.ntmps39
  go_wp2
  refine bodyPost_ret (v := a.val) (by simp [results, Try.results39, go_sem]) rfl ⟨rfl, ?_⟩
  exact ((Below.refl _ _).alloc (Nat.le_refl _) _).alloc (by simp) _

def okN (n : Int) : Prop := 0 ≤ n ∧ n ≤ 1048576
instance (n : Int) : Decidable (okN n) := by unfold okN; infer_instance
def Rs.ok (a : Rs) : Prop := okN a.c ∧ okN a.m ∧ okN a.g ∧ okN a.l
instance (a : Rs) : Decidable a.ok := by unfold Rs.ok; infer_instance
def Rs.okB (a : Rs) : Bool := decide a.ok
theorem okB_yes {a : Rs} (h : a.ok) : a.okB = true := by simp [Rs.okB, h]
theorem okB_no {a : Rs} (h : ¬ a.ok) : a.okB = false := by simp [Rs.okB, h]
def okNB (n : Int) : Bool := decide (okN n)
theorem okNB_yes {n : Int} (h : okN n) : okNB n = true := by simp [okNB, h]
theorem okNB_no {n : Int} (h : ¬ okN n) : okNB n = false := by simp [okNB, h]

theorem nright_any (n : Int) (w : World) : Calls Try.prog 36 #[.int .i64 n] w fun e w' => e = .returned (.bool (okNB n)) ∧ w = w' := by
  by_cases h1 : 0 ≤ n
  · by_cases h2 : n ≤ 1048576
    · go_enter Try.func36, Try.ntmps36
      go_wp2
      go_ret
      exact ⟨retBool (okNB_yes ⟨h1, h2⟩).symm, rfl⟩
    · go_enter Try.func36, Try.ntmps36
      go_wp2
      go_ret
      exact ⟨retBool (okNB_no (fun h => by have := h.2; omega)).symm, rfl⟩
  · go_enter Try.func36, Try.ntmps36
    go_wp2
    go_ret
    exact ⟨retBool (okNB_no (fun h => by have := h.1; omega)).symm, rfl⟩

theorem okB_eq (a : Rs) : a.okB = (okNB a.c && okNB a.m && okNB a.g && okNB a.l) := by
  unfold Rs.okB Rs.ok okNB
  by_cases h0 : okN a.c <;> by_cases h1 : okN a.m <;> by_cases h2 : okN a.g <;> by_cases h3 : okN a.l <;> simp [h0, h1, h2, h3]
set_option maxHeartbeats 1000000 in
theorem rright_any (a : Rs) (w : World) : Calls Try.prog 10 #[a.val] w fun e w' => e = .returned (.bool a.okB) ∧ Below w.heap.size w w' := by
  have hb : Below w.heap.size w (w.alloc (a.obj 23)) := (Below.refl _ _).alloc (Nat.le_refl _) _
  have he := Lib.hid (okB_eq a)
  cases h0 : okNB a.c
  · go_enter Try.func10, Try.ntmps10
    go_wp2_with (go_at_call 36; refine (nright_any _ _).mono ?_; rintro e w' ⟨rfl, rfl⟩)
    go_ret
    exact ⟨retBool (by rw [he.out, h0]; rfl), hb⟩
  cases h1 : okNB a.m
  · go_enter Try.func10, Try.ntmps10
    go_wp2_with (go_at_call 36; refine (nright_any _ _).mono ?_; rintro e w' ⟨rfl, rfl⟩)
    go_ret
    exact ⟨retBool (by rw [he.out, h0, h1]; rfl), hb⟩
  cases h2 : okNB a.g
  · go_enter Try.func10, Try.ntmps10
    go_wp2_with (go_at_call 36; refine (nright_any _ _).mono ?_; rintro e w' ⟨rfl, rfl⟩)
    go_ret
    exact ⟨retBool (by rw [he.out, h0, h1, h2]; rfl), hb⟩
  go_enter Try.func10, Try.ntmps10
  go_wp2_with (go_at_call 36; refine (nright_any _ _).mono ?_; rintro e w' ⟨rfl, rfl⟩)
  go_ret
  exact ⟨retBool (by rw [he.out, h0, h1, h2]; rfl), hb⟩

set_option maxHeartbeats 2000000 in
theorem right_any (a : Rs) (w : World) : Calls Try.prog 14 #[a.val] w fun e w' => e = .returned (.bool a.okB) ∧ Below w.heap.size w w' := by
  have i0 : ∀ w : World, (Instr.index 59 a.val (.int .i64 0)).run Try.prog w = .ok (.int .i64 a.c) w := fun _ => by kernel_rfl
  have i1 : ∀ w : World, (Instr.index 59 a.val (.int .i64 1)).run Try.prog w = .ok (.int .i64 a.m) w := fun _ => by kernel_rfl
  have i2 : ∀ w : World, (Instr.index 59 a.val (.int .i64 2)).run Try.prog w = .ok (.int .i64 a.g) w := fun _ => by kernel_rfl
  have i3 : ∀ w : World, (Instr.index 59 a.val (.int .i64 3)).run Try.prog w = .ok (.int .i64 a.l) w := fun _ => by kernel_rfl
  have hb : Below w.heap.size w (w.alloc (a.obj 23)) := (Below.refl _ _).alloc (Nat.le_refl _) _
  by_cases h0a : a.c < 0
  · have HO := Lib.hid (okB_no (a := a) (fun h => by have := h.1; unfold okN at this; omega))
    go_enter Try.func14, Try.ntmps14
    go_wp2_with fail
    refine (numbers_any a _).mono ?_
    rintro e w1 ⟨rfl, hb1⟩
    go_wp2_with fail
    refine wp_loop_rounds 5 ?_
    rw [rounds_succ]
    go_wp2
    go_ret
    exact ⟨retBool HO.out.symm, hb.trans (hb1.mono (by simp))⟩
  by_cases h0b : 1048576 < a.c
  · have HO := Lib.hid (okB_no (a := a) (fun h => by have := h.1; unfold okN at this; omega))
    go_enter Try.func14, Try.ntmps14
    go_wp2_with fail
    refine (numbers_any a _).mono ?_
    rintro e w1 ⟨rfl, hb1⟩
    go_wp2_with fail
    refine wp_loop_rounds 5 ?_
    rw [rounds_succ]
    go_wp2
    go_ret
    exact ⟨retBool HO.out.symm, hb.trans (hb1.mono (by simp))⟩
  by_cases h1a : a.m < 0
  · have HO := Lib.hid (okB_no (a := a) (fun h => by have := h.2.1; unfold okN at this; omega))
    go_enter Try.func14, Try.ntmps14
    go_wp2_with fail
    refine (numbers_any a _).mono ?_
    rintro e w1 ⟨rfl, hb1⟩
    go_wp2_with fail
    refine wp_loop_rounds 5 ?_
    rw [rounds_succ]
    go_wp2
    rw [rounds_succ]
    go_wp2
    go_ret
    exact ⟨retBool HO.out.symm, hb.trans (hb1.mono (by simp))⟩
  by_cases h1b : 1048576 < a.m
  · have HO := Lib.hid (okB_no (a := a) (fun h => by have := h.2.1; unfold okN at this; omega))
    go_enter Try.func14, Try.ntmps14
    go_wp2_with fail
    refine (numbers_any a _).mono ?_
    rintro e w1 ⟨rfl, hb1⟩
    go_wp2_with fail
    refine wp_loop_rounds 5 ?_
    rw [rounds_succ]
    go_wp2
    rw [rounds_succ]
    go_wp2
    go_ret
    exact ⟨retBool HO.out.symm, hb.trans (hb1.mono (by simp))⟩
  by_cases h2a : a.g < 0
  · have HO := Lib.hid (okB_no (a := a) (fun h => by have := h.2.2.1; unfold okN at this; omega))
    go_enter Try.func14, Try.ntmps14
    go_wp2_with fail
    refine (numbers_any a _).mono ?_
    rintro e w1 ⟨rfl, hb1⟩
    go_wp2_with fail
    refine wp_loop_rounds 5 ?_
    rw [rounds_succ]
    go_wp2
    rw [rounds_succ]
    go_wp2
    rw [rounds_succ]
    go_wp2
    go_ret
    exact ⟨retBool HO.out.symm, hb.trans (hb1.mono (by simp))⟩
  by_cases h2b : 1048576 < a.g
  · have HO := Lib.hid (okB_no (a := a) (fun h => by have := h.2.2.1; unfold okN at this; omega))
    go_enter Try.func14, Try.ntmps14
    go_wp2_with fail
    refine (numbers_any a _).mono ?_
    rintro e w1 ⟨rfl, hb1⟩
    go_wp2_with fail
    refine wp_loop_rounds 5 ?_
    rw [rounds_succ]
    go_wp2
    rw [rounds_succ]
    go_wp2
    rw [rounds_succ]
    go_wp2
    go_ret
    exact ⟨retBool HO.out.symm, hb.trans (hb1.mono (by simp))⟩
  by_cases h3a : a.l < 0
  · have HO := Lib.hid (okB_no (a := a) (fun h => by have := h.2.2.2; unfold okN at this; omega))
    go_enter Try.func14, Try.ntmps14
    go_wp2_with fail
    refine (numbers_any a _).mono ?_
    rintro e w1 ⟨rfl, hb1⟩
    go_wp2_with fail
    refine wp_loop_rounds 5 ?_
    rw [rounds_succ]
    go_wp2
    rw [rounds_succ]
    go_wp2
    rw [rounds_succ]
    go_wp2
    rw [rounds_succ]
    go_wp2
    go_ret
    exact ⟨retBool HO.out.symm, hb.trans (hb1.mono (by simp))⟩
  by_cases h3b : 1048576 < a.l
  · have HO := Lib.hid (okB_no (a := a) (fun h => by have := h.2.2.2; unfold okN at this; omega))
    go_enter Try.func14, Try.ntmps14
    go_wp2_with fail
    refine (numbers_any a _).mono ?_
    rintro e w1 ⟨rfl, hb1⟩
    go_wp2_with fail
    refine wp_loop_rounds 5 ?_
    rw [rounds_succ]
    go_wp2
    rw [rounds_succ]
    go_wp2
    rw [rounds_succ]
    go_wp2
    rw [rounds_succ]
    go_wp2
    go_ret
    exact ⟨retBool HO.out.symm, hb.trans (hb1.mono (by simp))⟩
  have HO := Lib.hid (okB_yes (a := a) ⟨⟨by omega, by omega⟩, ⟨by omega, by omega⟩, ⟨by omega, by omega⟩, by omega, by omega⟩)
  go_enter Try.func14, Try.ntmps14
  go_wp2_with fail
  refine (numbers_any a _).mono ?_
  rintro e w1 ⟨rfl, hb1⟩
  go_wp2_with fail
  refine wp_loop_rounds 5 ?_
  rw [rounds_succ]
  go_wp2
  rw [rounds_succ]
  go_wp2
  rw [rounds_succ]
  go_wp2
  rw [rounds_succ]
  go_wp2
  rw [rounds_succ]
  go_wp2
  go_ret
  exact ⟨retBool HO.out.symm, hb.trans (hb1.mono (by simp))⟩
end Go.Proofs.Ytcgfjobdpcdhhaa
