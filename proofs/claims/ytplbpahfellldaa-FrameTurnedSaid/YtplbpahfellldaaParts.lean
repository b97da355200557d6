/-
  Contracts of package frame, of its reference and of the comparison of bytes: what each function answers, for bytes of at most some length.
-/
import Derived.Test.YtplbpahfellldaaRows
import Derived.Test.YtplbpahfellldaaWords
import Derived.Test.YtplbpahfellldaaPlain
import Derived.WalkKit
import Derived.WalkSpells
import Derived.WalkLawsBesides
import Derived.Outline
import Derived.RegionTactic
import Derived.Deep.QuietTactic
import Derived.BigQuiet
namespace Go.Proofs.Ytplbpahfellldaa
open Go.RowKit
set_option linter.unusedVariables false

abbrev bytes (zs : List Int) : List Value := zs.map (Value.int .u8)
theorem info5 : (Try.prog.info? 5).map (fun i => (i.zero, i.size, i.bytes)) = some (some (.int .u8 0), 1, 1) := by kernel_rfl
theorem one_bytes (zs : List Int) : ∀ u ∈ bytes zs, u.oneCell' = true := by
  intro u hu; obtain ⟨x, _, rfl⟩ := List.mem_map.1 hu; rfl

def payB (n : Int) : Bool := decide (1 ≤ n) && decide (n ≤ 240)
theorem payB_yes {n : Int} (h : 1 ≤ n ∧ n ≤ 240) : payB n = true := by simp [payB, h.1, h.2]
theorem payB_no {n : Int} (h : n < 1 ∨ 240 < n) : payB n = false := by simp [payB]; omega
theorem payload_any (n : Int) (w : World) : Calls Try.prog 14 #[.int .i64 n] w fun e w' => e = .returned (.bool (payB n)) ∧ w = w' := by
  by_cases h1 : 1 ≤ n
  · by_cases h2 : n ≤ 240
    · go_enter Try.func14, Try.ntmps14
      go_wp2
      go_ret
      exact ⟨retBool (payB_yes ⟨h1, h2⟩).symm, rfl⟩
    · go_enter Try.func14, Try.ntmps14
      go_wp2
      go_ret
      exact ⟨retBool (payB_no (by omega)).symm, rfl⟩
  · go_enter Try.func14, Try.ntmps14
    go_wp2
    go_ret
    exact ⟨retBool (payB_no (by omega)).symm, rfl⟩

theorem mod_step (a b : Int) : (a % 251 + b) % 251 = (a + b) % 251 := by omega

set_option maxHeartbeats 400000 in
theorem checksum_any (A : Option Addr) (cap B : Nat) (zs : List Int) (w : World) (hr : Row w B A (bytes zs)) (hB : IsB zs) (hn : zs.length ≤ 3000) :
    Calls Try.prog 15 #[.slice A zs.length cap] w fun e w' => e = .returned (.int .u8 (checkZ zs)) ∧ w = w' := by
  have hcb := check_bd zs
  go_enter Try.func15, Try.ntmps15
  go_wp2
  go_loop [3, 8] (fun s i => ∃ k : Nat, k ≤ zs.length ∧ i = .int .i64 k ∧ s = .int .i64 (wsum zs k % 251)) (fun _ i => zs.length - (intOf i).toNat)
  case atStart => exact ⟨0, Nat.zero_le _, rfl, rfl⟩
  case round =>
    obtain ⟨k, hk, rfl, rfl⟩ := hrel
    have hbd := wsum_bd hB k (by omega)
    by_cases hlt : k < zs.length
    · obtain ⟨b, off, rfl, _, hc⟩ := hr.get hlt
      have ht := wterm hB k (by omega)
      rw [getD_in hlt] at ht
      have hx := hB.at_ k hlt
      have hs : Hid (wsum zs (k + 1) = wsum zs k + ((k : Int) + 1) * zs[k]) := by
        show wsum zs (k + 1) = _
        simp only [wsum]; rw [getD_in hlt]
      go_wp2
      go_round
      case rel => exact ⟨k + 1, by omega, by go_num, by rw [hs.out, mod_step]⟩
      case measure => simp [intOf]; omega
    · obtain rfl : k = zs.length := by omega
      go_wp2
      go_ret
      exact ⟨retInt rfl, rfl⟩

set_option maxHeartbeats 400000 in
theorem rcheck_any (A : Option Addr) (cap B : Nat) (zs : List Int) (w : World) (hr : Row w B A (bytes zs)) (hB : IsB zs) (hn : zs.length ≤ 3000) :
    Calls Try.prog 16 #[.slice A zs.length cap] w fun e w' => e = .returned (.int .u8 (checkZ zs)) ∧ w = w' := by
  have hcb := check_bd zs
  go_enter Try.func16, Try.ntmps16
  go_wp2
  go_loop [3, 4] (fun s i => ∃ k : Nat, k ≤ zs.length ∧ i = .int .i64 k ∧ s = .int .i64 (wsum zs k)) (fun _ i => zs.length - (intOf i).toNat)
  case atStart => exact ⟨0, Nat.zero_le _, rfl, rfl⟩
  case round =>
    obtain ⟨k, hk, rfl, rfl⟩ := hrel
    have hbd := wsum_bd hB k (by omega)
    by_cases hlt : k < zs.length
    · obtain ⟨b, off, rfl, _, hc⟩ := hr.get hlt
      have ht := wterm hB k (by omega)
      rw [getD_in hlt] at ht
      have hx := hB.at_ k hlt
      have hs : Hid (wsum zs (k + 1) = wsum zs k + ((k : Int) + 1) * zs[k]) := by
        show wsum zs (k + 1) = _
        simp only [wsum]; rw [getD_in hlt]
      go_wp2
      go_round
      case rel => exact ⟨k + 1, by omega, by go_num, by rw [hs.out]⟩
      case measure => simp [intOf]; omega
    · obtain rfl : k = zs.length := by omega
      go_wp2
      go_ret
      exact ⟨retInt rfl, rfl⟩

def sameB (xs ys : List Int) : Bool := decide (xs = ys)
theorem sameB_len {xs ys : List Int} (h : xs.length ≠ ys.length) : sameB xs ys = false := by
  unfold sameB; rw [decide_eq_false_iff_not]; intro e; exact h (by rw [e])
theorem sameB_at {xs ys : List Int} (k : Nat) (h1 : k < xs.length) (h2 : k < ys.length) (h : xs[k] ≠ ys[k]) : sameB xs ys = false := by
  unfold sameB; rw [decide_eq_false_iff_not]; intro e; subst e; exact h rfl
theorem sameB_all {xs ys : List Int} (h : xs.length = ys.length) (h2 : ∀ j, j < xs.length → xs.getD j 0 = ys.getD j 0) : sameB xs ys = true := by
  unfold sameB; rw [decide_eq_true_eq]
  refine List.ext_getElem h fun i a b => ?_
  have := h2 i a
  rwa [getD_in a, getD_in b] at this
theorem sameB_refl (xs : List Int) : sameB xs xs = true := by simp [sameB]

set_option maxHeartbeats 800000 in
theorem bytes_any (A A' : Option Addr) (c c' B B' : Nat) (xs ys : List Int) (w : World) (h1 : Row w B A (bytes xs)) (h2 : Row w B' A' (bytes ys)) (hn : xs.length ≤ 100000) (hB : B ≤ w.heap.size) (hB' : B' ≤ w.heap.size) :
    Calls Try.prog 10 #[.slice A xs.length c, .slice A' ys.length c'] w fun e w' => e = .returned (.bool (sameB xs ys)) ∧ Below w.heap.size w w' := by
  by_cases hl : xs.length = ys.length
  · have hq : (((xs.length : Nat) : Int) != ((ys.length : Nat) : Int)) = false := by simp [hl]
    have hq2 : (xs.length != ys.length) = false := by simp [hl]
    have HL := Lib.hid hl
    have hle : ys.length ≤ xs.length := by omega
    have hle2 : xs.length ≤ ys.length := by omega
    clear hl
    go_enter Try.func10, Try.ntmps10
    go_wp2
    go_loopw [5] (fun i wr => ∃ k : Nat, k ≤ xs.length ∧ i = .int .i64 k ∧ Hid (∀ j, j < k → xs.getD j 0 = ys.getD j 0) ∧ Below w.heap.size w wr) (fun i _ => xs.length - (intOf i).toNat)
    case atStart => exact ⟨0, Nat.zero_le _, rfl, fun j hj => by omega, Below.refl _ _⟩
    case round =>
      obtain ⟨k, hk, rfl, hall, hbel⟩ := hrel
      by_cases hlt : k < xs.length
      · have hlt2 : k < ys.length := by omega
        obtain ⟨b, off, rfl, _, hc⟩ := ((h1.more hB).below hbel).get hlt
        obtain ⟨b', off', rfl, _, hc'⟩ := ((h2.more hB').below hbel).get hlt2
        by_cases he : xs[k] = ys[k]
        · have hne : (xs[k] != ys[k]) = false := by simp [he]
          have HE := Lib.hid he
          clear he
          go_wp2
          go_region
          go_wp2
          go_roundw
          case rel =>
            refine ⟨k + 1, by omega, by go_num, fun j hj => ?_, hbel.drew⟩
            rcases Nat.lt_or_ge j k with h | h
            · exact hall.out j h
            · obtain rfl : j = k := by omega
              rw [getD_in hlt, getD_in hlt2]; exact HE.out
          case measure => simp [intOf]; omega
        · have hne : (xs[k] != ys[k]) = true := by simp [he]
          have HE := Lib.hid (sameB_at k hlt hlt2 he)
          clear he
          go_wp2
          go_region
          go_wp2
          go_ret
          exact ⟨retBool HE.out.symm, hbel.drew⟩
      · obtain rfl : k = xs.length := by omega
        go_wp2
        go_ret
        exact ⟨retBool (sameB_all HL.out hall.out).symm, hbel⟩
  · have hq : (((xs.length : Nat) : Int) != ((ys.length : Nat) : Int)) = true := by simp; omega
    have hq2 : (xs.length != ys.length) = true := by simp [hl]
    have HL := Lib.hid (sameB_len hl)
    clear hl
    go_enter Try.func10, Try.ntmps10
    go_wp2
    go_ret
    exact ⟨retBool HL.out.symm, Below.refl _ _⟩

end Go.Proofs.Ytplbpahfellldaa
