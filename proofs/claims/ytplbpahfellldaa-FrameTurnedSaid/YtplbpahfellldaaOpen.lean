/-
  Contracts of frame.Open, of its reference, and of the chapter's example.
-/
import Derived.Test.YtplbpahfellldaaNext
namespace Go.Proofs.Ytplbpahfellldaa
open Go.RowKit
set_option linter.unusedVariables false

theorem open_err {zs : List Int} (h : (nextZ zs).2.2 ≠ 0) : openZ zs = ([], (nextZ zs).2.2) := by unfold openZ; rw [if_pos h]
theorem open_more {zs : List Int} (h : (nextZ zs).2.2 = 0) (h2 : (nextZ zs).2.1 < zs.length) : openZ zs = ([], 11) := by unfold openZ; rw [if_neg (by simpa using h), if_pos h2]
theorem open_ok {zs : List Int} (h : (nextZ zs).2.2 = 0) (h2 : ¬ (nextZ zs).2.1 < zs.length) : openZ zs = ((nextZ zs).1, 0) := by unfold openZ; rw [if_neg (by simpa using h), if_neg h2]
theorem next_err {zs : List Int} (h : (nextZ zs).2.2 ≠ 0) : (nextZ zs).1 = [] ∧ (nextZ zs).2.1 = 0 := by
  unfold nextZ at *
  split
  · simp
  · split
    · simp
    · split
      · simp
      · split
        · simp
        · rename_i a b c d
          rw [if_neg a, if_neg b, if_neg c, if_neg d] at h
          exact absurd rfl h

theorem open2_eq {A : Option Addr} {c k : Nat} {er er' : Int} (h : er = er') : Ending.returned (.tuple #[.slice A k c, .int .i64 er]) = .returned (.tuple #[.slice A k c, .int .i64 er']) := by rw [h]
theorem open2_eq' {A : Option Addr} {c : Nat} {l l' : List Int} {er : Int} (h : l = l') : Ending.returned (.tuple #[.slice A l.length c, .int .i64 er]) = .returned (.tuple #[.slice A l'.length c, .int .i64 er]) := by rw [h]

set_option maxHeartbeats 1000000 in
theorem open_any (A : Option Addr) (cap : Nat) (zs : List Int) (w : World) (B : Nat) (hr : Row w B A (bytes zs)) (hB : IsB zs) (hb : B ≤ w.heap.size) (hn : zs.length ≤ 3000) (hcap : zs.length ≤ cap) :
    Calls Try.prog 8 #[.slice A zs.length cap] w (Open2 w (openZ zs).1 (openZ zs).2) := by
  by_cases h : (nextZ zs).2.2 = 0
  · have hq : ((nextZ zs).2.2 != 0) = false := by simp [h]
    by_cases h2 : (nextZ zs).2.1 < zs.length
    · rw [open_more h h2]
      clear h
      go_enter Try.func8, Try.ntmps8
      go_wp2_with (go_at_call 9; refine (next_any _ _ _ _ _ hr hB hb hn hcap).mono ?_; rintro e w1 ⟨A1, c1, rfl, hc1, hr1, hb1⟩)
      go_ret2
      exact ⟨none, 0, rfl, Nat.le_refl _, Row.empty, hb1⟩
    · rw [open_ok h h2]
      clear h
      go_enter Try.func8, Try.ntmps8
      go_wp2_with (go_at_call 9; refine (next_any _ _ _ _ _ hr hB hb hn hcap).mono ?_; rintro e w1 ⟨A1, c1, rfl, hc1, hr1, hb1⟩)
      go_ret2
      exact ⟨A1, c1, rfl, hc1, hr1, hb1⟩
  · have hq : ((nextZ zs).2.2 != 0) = true := by simp [h]
    rw [open_err h]
    clear h
    go_enter Try.func8, Try.ntmps8
    go_wp2_with (go_at_call 9; refine (next_any _ _ _ _ _ hr hB hb hn hcap).mono ?_; rintro e w1 ⟨A1, c1, rfl, hc1, hr1, hb1⟩)
    go_ret2
    exact ⟨none, 0, rfl, Nat.le_refl _, Row.empty, hb1⟩

set_option maxHeartbeats 1000000 in
theorem ropen_any (A : Option Addr) (cap : Nat) (zs : List Int) (w : World) (B : Nat) (hr : Row w B A (bytes zs)) (hB : IsB zs) (hb : B ≤ w.heap.size) (hn : zs.length ≤ 3000) (hcap : zs.length ≤ cap) :
    Calls Try.prog 12 #[.slice A zs.length cap] w (Open2 w (openZ zs).1 (openZ zs).2) := by
  by_cases h : (nextZ zs).2.2 = 0
  · have hq : ((nextZ zs).2.2 == 0) = true := by simp [h]
    by_cases h2 : (nextZ zs).2.1 < zs.length
    · rw [open_more h h2]
      clear h
      go_enter Try.func12, Try.ntmps12
      go_wp2_with (go_at_call 13; refine (rnext_any _ _ _ _ _ hr hB hb hn hcap).mono ?_; rintro e w1 ⟨A1, c1, rfl, hc1, hr1, hb1⟩)
      go_ret2
      exact ⟨none, 0, rfl, Nat.le_refl _, Row.empty, hb1⟩
    · rw [open_ok h h2]
      have HH := Lib.hid h
      clear h
      go_enter Try.func12, Try.ntmps12
      go_wp2_with (go_at_call 13; refine (rnext_any _ _ _ _ _ hr hB hb hn hcap).mono ?_; rintro e w1 ⟨A1, c1, rfl, hc1, hr1, hb1⟩)
      go_ret2
      exact ⟨A1, c1, open2_eq HH.out, hc1, hr1, hb1⟩
  · have hq : ((nextZ zs).2.2 == 0) = false := by simp [h]
    have hl := Lib.hid (next_err h).1
    rw [open_err h]
    clear h
    go_enter Try.func12, Try.ntmps12
    go_wp2_with (go_at_call 13; refine (rnext_any _ _ _ _ _ hr hB hb hn hcap).mono ?_; rintro e w1 ⟨A1, c1, rfl, hc1, hr1, hb1⟩)
    go_ret2
    rw [hl.out] at hr1 hc1
    exact ⟨A1, c1, open2_eq' hl.out, hc1, hr1, hb1⟩
theorem isB7 : IsB [7] := by intro x hx; simp at hx; omega
theorem frame7 : sameB (frameZ [7]) [0, 1, 7, 23] = true := by decide
theorem row7 (w : World) : Row (w.alloc (.cells #[.int .u8 7] 5)) (w.heap.size + 1) (some ⟨w.heap.size, 0, none⟩) (bytes [7]) := Row.lit w #[.int .u8 7] 5
theorem row4 (w : World) : Row (w.alloc (.cells #[.int .u8 0, .int .u8 1, .int .u8 7, .int .u8 23] 5)) (w.heap.size + 1) (some ⟨w.heap.size, 0, none⟩) (bytes [0, 1, 7, 23]) := Row.lit w #[.int .u8 0, .int .u8 1, .int .u8 7, .int .u8 23] 5
theorem Row.alloc {w : World} {B : Nat} {A : Option Addr} {vs : List Value} (h : Row w B A vs) (hB : B ≤ w.heap.size) (o : Obj) : Row (w.alloc o) B A vs := h.keep fun p hp => World.cell?_alloc_lt w o p (by omega)

set_option maxHeartbeats 1000000 in
theorem awake_any (w : World) : Calls Try.prog 6 #[] w fun e w' => e = .returned (.bool true) ∧ Below w.heap.size w w' := by
  have hs := frame7
  go_enter Try.func6, Try.ntmps6
  go_wp2_with fail
  refine (make_yes _ _ [7] _ _ (row7 w) isB7 (by simp) (by simp) (by simp)).mono ?_
  rintro e w1 ⟨v, rfl, ho, hb1⟩
  obtain ⟨A, c, rfl⟩ := own_form ho
  have hr1 := Row.of_own ho
  have hz1 := hb1.size
  simp at hz1
  go_wp2_with fail
  refine (bytes_any _ _ _ _ _ _ (frameZ [7]) [0, 1, 7, 23] _ (by exact hr1.alloc (Nat.le_refl _) _) (row4 _) (by simp [frame_len]) (by simp) (by simp)).mono ?_
  rintro e w2 ⟨rfl, hb2⟩
  go_wp2
  go_ret
  have h1 : Below w.heap.size w w1 := ((Below.refl _ _).alloc (Nat.le_refl _) _).trans (hb1.mono (by simp))
  exact ⟨rfl, (h1.alloc (by omega) _).trans (hb2.mono (by simp; omega))⟩
end Go.Proofs.Ytplbpahfellldaa
