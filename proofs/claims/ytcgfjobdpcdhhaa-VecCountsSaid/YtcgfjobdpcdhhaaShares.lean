/-
  Contracts of the functions on shares: Same, Total and Right of package place and of its reference, and nat.Hold.
-/
import Derived.Test.YtcgfjobdpcdhhaaRes
import Derived.Deep.QuietTactic
import Derived.BigQuiet
namespace Go.Proofs.Ytcgfjobdpcdhhaa
open Go.RowKit Go.BigFrame
set_option linter.unusedVariables false

/-- A share: its node and how many. -/
structure Sh where
  node : Int
  many : Int
deriving DecidableEq

def Sh.cs (b : Sh) : List Value := [.int .i64 b.node, .int .i64 b.many]
abbrev Sh.val (b : Sh) : Value := .agg #[.int .i64 b.node, .int .i64 b.many]
def flat (l : List Sh) : List Value := l.flatMap Sh.cs
theorem flat_len (l : List Sh) : (flat l).length = l.length * 2 := by
  induction l with
  | nil => rfl
  | cons b r ih => simp [flat, Sh.cs] at *; omega
theorem flat_get (l : List Sh) (k : Nat) (hk : k < l.length) : (flat l)[k * 2]? = some (.int .i64 l[k].node) ∧ (flat l)[k * 2 + 1]? = some (.int .i64 l[k].many) := by
  induction l generalizing k with
  | nil => simp at hk
  | cons b r ih =>
    cases k with
    | zero => simp [flat, Sh.cs]
    | succ k =>
      have := ih k (by simpa using hk)
      have e : (k + 1) * 2 = k * 2 + 2 := by omega
      rw [e]
      simp only [flat, List.flatMap_cons, Sh.cs] at this ⊢
      simpa using this
theorem flat_app (l : List Sh) (s : Sh) : flat (l ++ [s]) = flat l ++ s.cs := by simp [flat]
/-- The cells of an element. -/
theorem Row.sh {w : World} {B : Nat} {A : Option Addr} {l : List Sh} {k : Nat} (h : Row w B A (flat l)) (hk : k < l.length) :
    ∃ b off, A = some ⟨b, off, none⟩ ∧ b < B ∧ w.cell? ⟨b, off + k * 2, none⟩ = some (.int .i64 l[k].node) ∧ w.cell? ⟨b, off + k * 2 + 1, none⟩ = some (.int .i64 l[k].many) := by
  obtain ⟨b, off, e, hb, hc⟩ := h (by rw [flat_len]; omega)
  obtain ⟨g0, g1⟩ := flat_get l k hk
  refine ⟨b, off, e, hb, hc _ _ g0, ?_⟩
  rw [Nat.add_assoc]; exact hc _ _ g1

def sameL (xs ys : List Sh) : Bool := decide (xs = ys)
theorem sameL_len {xs ys : List Sh} (h : xs.length ≠ ys.length) : sameL xs ys = false := by
  unfold sameL; rw [decide_eq_false_iff_not]; intro e; exact h (by rw [e])
theorem sameL_all {xs ys : List Sh} (h : xs.length = ys.length) (h2 : ∀ j (a : j < xs.length) (b : j < ys.length), j < xs.length → xs[j] = ys[j]) : sameL xs ys = true := by
  unfold sameL; rw [decide_eq_true_eq]
  exact List.ext_getElem h fun i a b => h2 i a b a
theorem sh_ext {a b : Sh} (h0 : a.node = b.node) (h1 : a.many = b.many) : a = b := by
  cases a; cases b; simp at *; omega
theorem sameL_at {xs ys : List Sh} (k : Nat) (h1 : k < xs.length) (h2 : k < ys.length) (h : xs[k] ≠ ys[k]) : sameL xs ys = false := by
  unfold sameL; rw [decide_eq_false_iff_not]; intro e; subst e; exact h rfl

set_option maxHeartbeats 1000000 in
theorem same_any (A A' : Option Addr) (c c' B B' : Nat) (xs ys : List Sh) (w : World) (h1 : Row w B A (flat xs)) (h2 : Row w B' A' (flat ys)) (hn : xs.length ≤ 100000) (hB : B ≤ w.heap.size) (hB' : B' ≤ w.heap.size) :
    Calls Try.prog 30 #[.slice A xs.length c, .slice A' ys.length c'] w fun e w' => e = .returned (.bool (sameL xs ys)) ∧ Below w.heap.size w w' := by
  by_cases hl : xs.length = ys.length
  · have hq : (((xs.length : Nat) : Int) != ((ys.length : Nat) : Int)) = false := by simp [hl]
    have hq2 : (xs.length != ys.length) = false := by simp [hl]
    have HL := Lib.hid hl
    have hle : ys.length ≤ xs.length := by omega
    have hle2 : xs.length ≤ ys.length := by omega
    clear hl
    go_enter Try.func30, Try.ntmps30
    go_wp2
    go_loopw [5] (fun i wr => ∃ k : Nat, k ≤ xs.length ∧ i = .int .i64 k ∧ Hid (∀ j (a : j < xs.length) (b : j < ys.length), j < k → xs[j] = ys[j]) ∧ Below w.heap.size w wr) (fun i _ => xs.length - (intOf i).toNat)
    case atStart => exact ⟨0, Nat.zero_le _, rfl, fun j _ _ hj => by omega, Below.refl _ _⟩
    case round =>
      obtain ⟨k, hk, rfl, hall, hbel⟩ := hrel
      by_cases hlt : k < xs.length
      · have hlt2 : k < ys.length := by omega
        obtain ⟨b, off, rfl, _, g0, g1⟩ := ((h1.more hB).below hbel).sh hlt
        obtain ⟨b', off', rfl, _, g0', g1'⟩ := ((h2.more hB').below hbel).sh hlt2
        by_cases e0 : xs[k].node = ys[k].node
        rotate_left
        · have HE := Lib.hid (sameL_at k hlt hlt2 (fun e => e0 (by rw [e])))
          go_wp2
          go_region
          go_wp2
          go_ret
          exact ⟨retBool HE.out.symm, hbel.drew⟩
        by_cases e1 : xs[k].many = ys[k].many
        rotate_left
        · have HE := Lib.hid (sameL_at k hlt hlt2 (fun e => e1 (by rw [e])))
          go_wp2
          go_region
          go_wp2
          go_ret
          exact ⟨retBool HE.out.symm, hbel.drew⟩
        have HE := Lib.hid (sh_ext e0 e1)
        go_wp2
        go_region
        go_wp2
        go_roundw
        case rel =>
          refine ⟨k + 1, by omega, by go_num, fun j a b hj => ?_, hbel.drew⟩
          rcases Nat.lt_or_ge j k with h | h
          · exact hall.out j a b h
          · obtain rfl : j = k := by omega
            exact HE.out
        case measure => simp [intOf]; omega
      · obtain rfl : k = xs.length := by omega
        go_wp2
        go_ret
        exact ⟨retBool (sameL_all HL.out hall.out).symm, hbel⟩
  · have hq : (((xs.length : Nat) : Int) != ((ys.length : Nat) : Int)) = true := by simp; omega
    have hq2 : (xs.length != ys.length) = true := by simp [hl]
    have HL := Lib.hid (sameL_len hl)
    clear hl
    go_enter Try.func30, Try.ntmps30
    go_wp2
    go_ret
    exact ⟨retBool HL.out.symm, Below.refl _ _⟩

def holdI (n lo hi : Int) : Int := if n < lo then lo else if n > hi then hi else n
theorem hold_any (n lo hi : Int) (w : World) : Calls Try.prog 42 #[.int .i64 n, .int .i64 lo, .int .i64 hi] w fun e w' => e = .returned (.int .i64 (holdI n lo hi)) ∧ w = w' := by
  by_cases h1 : n < lo
  · go_enter Try.func42, Try.ntmps42
    go_wp2
    go_ret
    exact ⟨retInt (by simp [holdI, h1]), rfl⟩
  by_cases h2 : n > hi
  · go_enter Try.func42, Try.ntmps42
    go_wp2
    go_ret
    exact ⟨retInt (by unfold holdI; rw [if_neg (by omega), if_pos h2]), rfl⟩
  · go_enter Try.func42, Try.ntmps42
    go_wp2
    go_ret
    exact ⟨retInt (by unfold holdI; rw [if_neg (by omega), if_neg (by omega)]), rfl⟩

def totalOf : List Sh → Int
  | [] => 0
  | s :: r => holdI s.many 0 64 + totalOf r
theorem total_app (l m : List Sh) : totalOf (l ++ m) = totalOf l + totalOf m := by
  induction l with
  | nil => simp [totalOf]
  | cons s r ih => simp only [List.cons_append, totalOf, ih]; omega
theorem hold_bound (n : Int) : 0 ≤ holdI n 0 64 ∧ holdI n 0 64 ≤ 64 := by
  unfold holdI; split
  · omega
  split <;> omega
theorem total_bound (l : List Sh) : 0 ≤ totalOf l ∧ totalOf l ≤ 64 * l.length := by
  induction l with
  | nil => simp [totalOf]
  | cons s r ih =>
    have := hold_bound s.many
    simp only [totalOf, List.length_cons]
    omega
theorem total_next {l : List Sh} {k : Nat} (hk : k < l.length) : totalOf (l.take (k + 1)) = totalOf (l.take k) + holdI l[k].many 0 64 := by
  rw [List.take_succ_eq_append_getElem hk, total_app]; simp [totalOf]
theorem total_at {l : List Sh} {k : Nat} (hn : l.length ≤ 1000) : 0 ≤ totalOf (l.take k) ∧ totalOf (l.take k) ≤ 64000 := by
  have := total_bound (l.take k)
  rw [List.length_take] at this
  omega

set_option maxHeartbeats 1000000 in
theorem total_any (A : Option Addr) (cap B : Nat) (l : List Sh) (w : World) (hr : Row w B A (flat l)) (hB : B ≤ w.heap.size) (hn : l.length ≤ 1000) :
    Calls Try.prog 33 #[.slice A l.length cap] w fun e w' => e = .returned (.int .i64 (totalOf l)) ∧ Below w.heap.size w w' := by
  go_enter Try.func33, Try.ntmps33
  go_wp2
  go_loopw [3, 8] (fun n i wr => ∃ k : Nat, k ≤ l.length ∧ i = .int .i64 k ∧ n = .int .i64 (totalOf (l.take k)) ∧ Below w.heap.size w wr) (fun _ i _ => l.length - (intOf i).toNat)
  case atStart => exact ⟨0, Nat.zero_le _, rfl, rfl, Below.refl _ _⟩
  case round =>
    obtain ⟨k, hk, rfl, rfl, hbel⟩ := hrel
    by_cases hlt : k < l.length
    · obtain ⟨b, off, rfl, _, g0, g1⟩ := ((hr.more hB).below hbel).sh hlt
      have t1 := total_at (l := l) (k := k) hn
      have t2 := hold_bound l[k].many
      have HN := Lib.hid (total_next hlt)
      go_wp2_with (go_at_call 42; refine (hold_any _ _ _ _).mono ?_; rintro e w' ⟨rfl, rfl⟩)
      go_roundw
      case rel =>
        refine ⟨k + 1, by omega, by go_num, ?_, hbel.alloc hbel.size _⟩
        rw [HN.out]
      case measure => simp [intOf]; omega
    · obtain rfl : k = l.length := by omega
      go_wp2
      go_ret
      exact ⟨retInt (by rw [List.take_length]), hbel⟩

set_option maxHeartbeats 1000000 in
theorem rtotal_any (A : Option Addr) (cap B : Nat) (l : List Sh) (w : World) (hr : Row w B A (flat l)) (hB : B ≤ w.heap.size) (hn : l.length ≤ 1000) :
    Calls Try.prog 34 #[.slice A l.length cap] w fun e w' => e = .returned (.int .i64 (totalOf l)) ∧ w = w' := by
  go_enter Try.func34, Try.ntmps34
  go_wp2
  go_loop [3, 4] (fun n i => ∃ k : Nat, k ≤ l.length ∧ i = .int .i64 k ∧ n = .int .i64 (totalOf (l.take k))) (fun _ i => l.length - (intOf i).toNat)
  case atStart => exact ⟨0, Nat.zero_le _, rfl, rfl⟩
  case round =>
    obtain ⟨k, hk, rfl, rfl⟩ := hrel
    by_cases hlt : k < l.length
    · obtain ⟨b, off, rfl, _, g0, g1⟩ := hr.sh hlt
      have t1 := total_at (l := l) (k := k) hn
      have HN := Lib.hid (total_next hlt)
      by_cases h1 : 64 < l[k].many
      · go_wp2
        go_round
        case rel =>
          refine ⟨k + 1, by omega, by go_num, ?_⟩
          rw [HN.out]; simp only [holdI]; rw [if_neg (by omega), if_pos h1]
        case measure => simp [intOf]; omega
      by_cases h2 : 0 < l[k].many
      · go_wp2
        go_round
        case rel =>
          refine ⟨k + 1, by omega, by go_num, ?_⟩
          rw [HN.out]; simp only [holdI]; rw [if_neg (by omega), if_neg (by omega)]
        case measure => simp [intOf]; omega
      · go_wp2
        go_round
        case rel =>
          refine ⟨k + 1, by omega, by go_num, ?_⟩
          rw [HN.out]; simp only [holdI]
          refine congrArg _ ?_
          split
          · omega
          · omega
        case measure => simp [intOf]; omega
    · obtain rfl : k = l.length := by omega
      go_wp2
      go_ret
      exact ⟨retInt (by first | rfl | rw [List.take_length]), rfl⟩
end Go.Proofs.Ytcgfjobdpcdhhaa
