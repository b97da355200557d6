/-
  The contract of the comparison of two lists of bookings.
-/
import Derived.Test.YtdnhgmkcfoojdaaParts
import Derived.Laws.StructEq
namespace Go.Proofs.Ytdnhgmkcfoojdaa
open Go.RowKit
set_option linter.unusedVariables false

def sameL (xs ys : List Bk) : Bool := decide (xs = ys)
theorem sameL_len {xs ys : List Bk} (h : xs.length ≠ ys.length) : sameL xs ys = false := by
  unfold sameL; rw [decide_eq_false_iff_not]; intro e; exact h (by rw [e])
theorem sameL_refl (xs : List Bk) : sameL xs xs = true := by simp [sameL]
theorem sameL_all {xs ys : List Bk} (h : xs.length = ys.length) (h2 : ∀ j (a : j < xs.length) (b : j < ys.length), j < xs.length → xs[j] = ys[j]) : sameL xs ys = true := by
  unfold sameL; rw [decide_eq_true_eq]
  exact List.ext_getElem h fun i a b => h2 i a b a
theorem bk_ext {a b : Bk} (h0 : a.id = b.id) (h1 : a.node = b.node) (h2 : a.lo = b.lo) (h3 : a.hi = b.hi) : a = b := by
  cases a; cases b; simp at *; omega
theorem sameL_at {xs ys : List Bk} (k : Nat) (h1 : k < xs.length) (h2 : k < ys.length) (h : xs[k] ≠ ys[k]) : sameL xs ys = false := by
  unfold sameL; rw [decide_eq_false_iff_not]; intro e; subst e; exact h rfl

set_option maxHeartbeats 1000000 in
theorem same_any (A A' : Option Addr) (c c' B B' : Nat) (xs ys : List Bk) (w : World) (h1 : Row w B A (flat xs)) (h2 : Row w B' A' (flat ys)) (hn : xs.length ≤ 100000) (hB : B ≤ w.heap.size) (hB' : B' ≤ w.heap.size) :
    Calls Try.prog 9 #[.slice A xs.length c, .slice A' ys.length c'] w fun e w' => e = .returned (.bool (sameL xs ys)) ∧ Below w.heap.size w w' := by
  by_cases hl : xs.length = ys.length
  · have hq : (((xs.length : Nat) : Int) != ((ys.length : Nat) : Int)) = false := by simp [hl]
    have hq2 : (xs.length != ys.length) = false := by simp [hl]
    have HL := Lib.hid hl
    have hle : ys.length ≤ xs.length := by omega
    have hle2 : xs.length ≤ ys.length := by omega
    clear hl
    go_enter Try.func9, Try.ntmps9
    go_wp2
    go_loopw [5] (fun i wr => ∃ k : Nat, k ≤ xs.length ∧ i = .int .i64 k ∧ Hid (∀ j (a : j < xs.length) (b : j < ys.length), j < k → xs[j] = ys[j]) ∧ Below w.heap.size w wr) (fun i _ => xs.length - (intOf i).toNat)
    case atStart => exact ⟨0, Nat.zero_le _, rfl, fun j _ _ hj => by omega, Below.refl _ _⟩
    case round =>
      obtain ⟨k, hk, rfl, hall, hbel⟩ := hrel
      by_cases hlt : k < xs.length
      · have hlt2 : k < ys.length := by omega
        obtain ⟨b, off, rfl, _, g0, g1, g2, g3⟩ := ((h1.more hB).below hbel).bk hlt
        obtain ⟨b', off', rfl, _, g0', g1', g2', g3'⟩ := ((h2.more hB').below hbel).bk hlt2
        by_cases e0 : xs[k].id = ys[k].id
        rotate_left
        · have HE := Lib.hid (sameL_at k hlt hlt2 (fun e => e0 (by rw [e])))
          go_wp2
          go_region
          go_wp2
          go_ret
          exact ⟨retBool HE.out.symm, hbel.drew⟩
        by_cases e1 : xs[k].node = ys[k].node
        rotate_left
        · have HE := Lib.hid (sameL_at k hlt hlt2 (fun e => e1 (by rw [e])))
          go_wp2
          go_region
          go_wp2
          go_ret
          exact ⟨retBool HE.out.symm, hbel.drew⟩
        by_cases e2 : xs[k].lo = ys[k].lo
        rotate_left
        · have HE := Lib.hid (sameL_at k hlt hlt2 (fun e => e2 (by rw [e])))
          go_wp2
          go_region
          go_wp2
          go_ret
          exact ⟨retBool HE.out.symm, hbel.drew⟩
        by_cases e3 : xs[k].hi = ys[k].hi
        rotate_left
        · have HE := Lib.hid (sameL_at k hlt hlt2 (fun e => e3 (by rw [e])))
          go_wp2
          go_region
          go_wp2
          go_ret
          exact ⟨retBool HE.out.symm, hbel.drew⟩
        have HE := Lib.hid (bk_ext e0 e1 e2 e3)
        go_wp2
        go_region
        go_wp2
        go_roundw
        case rel =>
          refine ⟨k + 1, by omega, by go_num, fun j a b hj => ?_, hbel.drew⟩
          rcases Nat.lt_or_ge j k with h | h
          · exact hall.out j a b h
          · obtain rfl : j = k := by omega
            exact HE.out
        case measure => simp [intOf]; omega
      · obtain rfl : k = xs.length := by omega
        go_wp2
        go_ret
        exact ⟨retBool (sameL_all HL.out hall.out).symm, hbel⟩
  · have hq : (((xs.length : Nat) : Int) != ((ys.length : Nat) : Int)) = true := by simp; omega
    have hq2 : (xs.length != ys.length) = true := by simp [hl]
    have HL := Lib.hid (sameL_len hl)
    clear hl
    go_enter Try.func9, Try.ntmps9
    go_wp2
    go_ret
    exact ⟨retBool HL.out.symm, Below.refl _ _⟩
end Go.Proofs.Ytdnhgmkcfoojdaa
