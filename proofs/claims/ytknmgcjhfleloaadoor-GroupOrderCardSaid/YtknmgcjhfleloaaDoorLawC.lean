/-
  The walk of the law GroupChains.
-/
import Derived.Test.YtknmgcjhfleloaaDoorAwake
namespace Go.Proofs.YtknmgcjhfleloaaDoor
open Go.RowKit Go.BigFrame
set_option linter.unusedVariables false

def toInts (xs : List Nat) : List Int := xs.map fun (k : Nat) => (k : Int)
theorem nvs_ints (xs : List Nat) : nvs xs = ints (toInts xs) := by simp [nvs, toInts]
theorem toInts_len (xs : List Nat) : (toInts xs).length = xs.length := by simp [toInts]
theorem same_refl (xs : List Int) : sameB xs xs = true := by simp [sameB]
/-- The reference's Ints, of one list of numbers twice. -/
theorem ints_same (A A' : Option Addr) (c c' B B' : Nat) (xs : List Nat) (w : World) (h1 : Row w B A (nvs xs)) (h2 : Row w B' A' (nvs xs)) (hn : xs.length ≤ 100000) (hB : B ≤ w.heap.size) (hB' : B' ≤ w.heap.size) :
    Calls Tryd.prog 9 #[.slice A xs.length c, .slice A' xs.length c'] w fun e w' => e = .returned (.bool true) ∧ Below w.heap.size w w' := by
  rw [nvs_ints] at h1 h2
  have := ints_any A A' c c' B B' (toInts xs) (toInts xs) w h1 h2 (by rw [toInts_len]; exact hn) hB hB'
  rw [same_refl, toInts_len] at this
  exact this
theorem Later.grid {w : World} {base : Nat} {v : Value} {cs : List (List Nat)} (h : OwnG w base v cs) (u : Later w) : OwnG u.val base v cs := h.below u.property

set_option maxHeartbeats 8000000 in
set_option maxRecDepth 100000 in
theorem lawC_walk (A : Option Addr) (cap : Nat) (l : List Cl) (w : World) (hr : Row w w.heap.size A (flatC l)) (hlen : l.length ≤ 9223372036854775807) (hchg : Chg w) (hwf : ∀ b ∈ l, wfJ b.j) :
    Calls Tryd.prog 3 #[.slice A l.length cap] w fun e w' => e = .returned (.bool true) ∧ Below w.heap.size w w' := by
  have HWF := Lib.hid hwf
  clear hwf
  by_cases hbig : 60 < l.length
  · go_enter Tryd.func3, Tryd.ntmps3
    go_wp2_with (go_at_call 6; refine (awake_any _ hchg).mono ?_; rintro e w1 ⟨rfl, hb1⟩)
    go_ret
    exact ⟨rfl, hb1⟩
  go_enter Tryd.func3, Tryd.ntmps3
  go_wp2_with fail
  refine (awake_any _ hchg).mono ?_
  rintro e w1 ⟨rfl, hb1⟩
  have z1 := hb1.size
  go_wp2_with fail
  refine (chains_any _ _ _ l _ (by exact hr.below hb1) (by omega) (by omega) (hchg.later hb1) HWF.out).mono ?_
  rintro e w2 ⟨A2, c2, rfl, hg2, hb2⟩
  have hW2 := hb1.trans (hb2.mono z1)
  have z2 := hb2.size
  go_wp2_with fail
  refine (rchains_any _ _ _ l _ (by exact hr.below hW2) (by omega) (by omega)).mono ?_
  rintro e w3 ⟨A3, c3, rfl, hg3, hb3⟩
  have hW3 := hW2.trans (hb3.mono (by omega))
  have z3 := hb3.size
  have hcl := chains_le (rqs l) l.length
  have hq1 : (((chains (rqs l) l.length).length : Int) != ((chains (rqs l) l.length).length : Int)) = false := by simp
  have HCL : Hid (∀ q, q < (chains (rqs l) l.length).length → (nth (chains (rqs l) l.length) q).length ≤ l.length) := fun q hq => nth_len hq
  go_wp2_with fail
  refine (order_any _ _ _ l _ (by exact hr.below hW3) (by omega) (by omega) (hchg.later hW3) HWF.out).mono ?_
  rintro e w4 ⟨A4, c4, rfl, hr4, hb4⟩
  have hW4 := hW3.trans (hb4.mono (by omega))
  have z4 := hb4.size
  go_wp2_with fail
  refine (rorder_any _ _ _ l _ (by exact hr.below hW4) (by omega) (by omega)).mono ?_
  rintro e w5 ⟨A5, c5, rfl, hr5, hb5⟩
  have hW5 := hW4.trans (hb5.mono (by omega))
  have z5 := hb5.size
  have hol : (order (rqs l)).length = l.length := by unfold order; rw [flat_len, rqs_len]
  have HOL := Lib.hid hol
  clear hol
  go_wp2_with fail
  refine (ints_same _ _ _ _ _ _ (order (rqs l)) _ (by exact hr4.below hb5) (by exact hr5) (by rw [HOL.out]; omega) (by omega) (by omega)).mono ?_
  rintro e w6 ⟨rfl, hb6⟩
  have hW6 := hW5.trans (hb6.mono (by omega))
  have z6 := hb6.size
  have ga := (((hg2.below hb3).below hb4).below hb5).below hb6
  have gb := ((hg3.below hb4).below hb5).below hb6
  have hchg6 := hchg.later hW6
  generalize chains (rqs l) l.length = cs at *
  clear hg2 hg3 hr4 hr5 hb1 hb2 hb3 hb4 hb5 hb6 hW2 hW3 hW4 hW5 hq1
  go_wp2
  go_loopw [34] (fun i wr => ∃ k : Nat, k ≤ cs.length ∧ i = .int .i64 k ∧ Below w6.heap.size w6 wr) (fun i _ => cs.length - (intOf i).toNat)
  case atStart => exact ⟨0, Nat.zero_le _, rfl, Below.refl _ _⟩
  case round =>
    obtain ⟨k, hk, rfl, hbel⟩ := hrel
    have hz := hbel.size
    by_cases hlt : k < cs.length
    · obtain ⟨b, A', c', rfl, hb0, hc, hrow, _⟩ := (ga.below hbel).at hlt
      obtain ⟨b', A'', c'', rfl, hb0', hc', hrow', _⟩ := (gb.below hbel).at hlt
      have q1 : ∀ u : Later wr, u.val.cell? ⟨b, k, none⟩ = some (.slice A' (nth cs k).length c') := fun u => (u.cell (by exact hb0)).trans hc
      have q2 : ∀ u : Later wr, u.val.cell? ⟨b', k, none⟩ = some (.slice A'' (nth cs k).length c'') := fun u => (u.cell (by exact hb0')).trans hc'
      have hnl := HCL.out k hlt
      clear hc hc'
      go_wp2
      refine wp_region_later (by kernel_rfl) (by kernel_rfl) ?_
      repeat (go_big_quiet_step ((go_at_call 9; exact later_of (ints_same _ _ _ _ _ _ (nth cs k) _ (Later.row _ hrow) (Later.row _ hrow') (by omega) (Later.size _) (Later.size _)))))
      refine wpQuiet_nil ?_
      intro w7 hw7
      obtain ⟨⟨w7, hb7⟩, rfl⟩ := hw7
      go_wp2
      go_roundw
      case rel => exact ⟨k + 1, by omega, by go_num, hbel.trans (hb7.mono hz)⟩
      case measure => simp [intOf]; omega
    · obtain rfl : k = cs.length := by omega
      obtain ⟨w7, rfl⟩ : ∃ u : World, u = wr := ⟨_, rfl⟩
      have hW7 := hW6.trans (hbel.mono (by omega))
      go_wp2
      go_loopw [50] (fun i wr => ∃ j : Nat, j ≤ l.length ∧ i = .int .i64 j ∧ Below w.heap.size w wr) (fun i _ => l.length - (intOf i).toNat)
      case atStart => exact ⟨0, Nat.zero_le _, rfl, hW7⟩
      case round =>
        clear hbel hW7
        obtain ⟨j, hj, rfl, hbel⟩ := hrel
        have hz := hbel.size
        by_cases hlt : j < l.length
        rotate_left
        · obtain rfl : j = l.length := by omega
          go_wp2
          go_ret
          exact ⟨rfl, hbel⟩
        obtain ⟨b, off, rfl, hb0, ca⟩ := (hr.below hbel).call hlt
        go_wp2_with (first
          | (refine wpList_load35 rfl (.tmp 52) rfl b (off + j * 18) rfl l[j] ca ?_)
          | (refine wpList_store35 rfl (.tmp 7) (.tmp 53) rfl wr _ rfl rfl l[j] rfl rfl ?_; intro w8 hc8 hb8 hz8; clear ca)
          | (refine wpList_load33 (by rfl) (.tmp 55) rfl wr.heap.size 1 rfl l[j] hc8.req ?_)
          | fail)
        have hbel8 := hbel.trans (hb8.mono hz)
        have z8 := hbel8.size
        have hp8 : wr.heap.size < w8.heap.size := hz8
        cases hcq : concB l[j].k
        · refine (conc_no hcq _).mono ?_
          rintro e w9 ⟨rfl, hb9⟩
          have hc9 := hc8.later hb9 hp8
          go_wp2_with (refine wpList_load33 (by rfl) (.tmp 61) rfl wr.heap.size 1 rfl l[j] hc9.req ?_)
          refine (rconc_is hcq _).mono ?_
          rintro e w10 ⟨rfl, hb10⟩
          have z9 := hb9.size
          go_wp2
          go_roundw
          case rel => exact ⟨j + 1, by omega, by go_num, (hbel8.trans (hb9.mono (by omega))).trans (hb10.mono (by omega))⟩
          case measure => simp [intOf]; omega
        · refine (conc_yes hcq _).mono ?_
          rintro e w9 ⟨rfl, hb9⟩
          have hc9 := hc8.later hb9 hp8
          go_wp2_with (refine wpList_load33 (by rfl) (.tmp 61) rfl wr.heap.size 1 rfl l[j] hc9.req ?_)
          refine (rconc_is hcq _).mono ?_
          rintro e w10 ⟨rfl, hb10⟩
          have z9 := hb9.size
          have hc10 := hc9.later hb10 (by omega)
          have cj : w10.cell? ⟨wr.heap.size, 3, none⟩ = some (.int .i64 l[j].j) := hc10.2.2.2.1
          go_wp2
          go_roundw
          case rel => exact ⟨j + 1, by omega, by go_num, (hbel8.trans (hb9.mono (by omega))).trans (hb10.mono (by omega))⟩
          case measure => simp [intOf]; omega
end Go.Proofs.YtknmgcjhfleloaaDoor
