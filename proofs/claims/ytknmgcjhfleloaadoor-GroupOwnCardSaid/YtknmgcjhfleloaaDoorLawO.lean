/-
  The walk of the law GroupOwn.
-/
import Derived.Test.YtknmgcjhfleloaaDoorLawC
namespace Go.Proofs.YtknmgcjhfleloaaDoor
open Go.RowKit Go.BigFrame
set_option linter.unusedVariables false

/-- Two requests that change one job alone, of one job. -/
def Clash (l : List Cl) (i k : Nat) : Prop := ∃ (hi : i < l.length) (hk : k < l.length), suchB l[i].k = true ∧ suchB l[k].k = true ∧ l[i].j = l[k].j
theorem own_first {l : List Cl} (h : ∀ i k, k < i → i < l.length → ¬ Clash l i k) {i : Nat} (hi : i < l.length) : first (rqs l) i = i := by
  apply first_self
  cases hs : suchB l[i].k with
  | false => exact prev_no hi hs
  | true =>
    cases ha : ahead (rqs l) l[i].j i with
    | none => exact prev_none hi hs ha
    | some k =>
      have hki := ahead_lt ha
      have hk : k < l.length := by omega
      rw [prev_some hi hk hs ha]
      cases hs2 : suchB l[k].k with
      | false => rfl
      | true =>
        have hj := (ahead_some ha).2.1
        rw [rq_at hk] at hj
        exact absurd ⟨hi, hk, hs, hs2, hj.symm⟩ (h i k hki hi)
def ones (n : Nat) : List (List Nat) := (List.range n).map fun i => [i]
theorem chains_ones {l : List Rq} {n : Nat} (h : ∀ i, i < n → first l i = i) : chains l n = ones n := by
  induction n with
  | zero => rfl
  | succ n ih =>
    rw [chains_new (h n (by omega)), ih fun i hi => h i (by omega)]
    simp [ones, List.range_succ]
theorem ones_len (n : Nat) : (ones n).length = n := by simp [ones]
theorem ones_nth {n i : Nat} (h : i < n) : nth (ones n) i = [i] := by simp [nth, ones, List.getD_eq_getElem?_getD, h]
theorem ones_flat (n : Nat) : (ones n).flatten = List.range n := by
  induction n with
  | zero => rfl
  | succ n ih =>
    have e : ones (n + 1) = ones n ++ [[n]] := by simp [ones, List.range_succ]
    rw [e, List.flatten_append, ih, List.range_succ]; simp
theorem range_at {n i : Nat} (h : i < n) : (nvs (List.range n))[i]? = some (.int .i64 (i : Int)) := by simp [nvs, h]
def NoneTo (l : List Cl) (i k : Nat) : Prop := ∀ q, q < k → ¬ Clash l i q
theorem none_next {l : List Cl} {i k : Nat} (h : Hid (NoneTo l i k)) (h2 : ¬ Clash l i k) : Hid (NoneTo l i (k + 1)) := by
  intro q hq hc
  rcases Nat.lt_or_ge q k with h3 | h3
  · exact h.out q h3 hc
  · obtain rfl : q = k := by omega
    exact h2 hc

set_option maxHeartbeats 8000000 in
set_option maxRecDepth 100000 in
theorem lawO_walk (A : Option Addr) (cap : Nat) (l : List Cl) (w : World) (hr : Row w w.heap.size A (flatC l)) (hlen : l.length ≤ 9223372036854775807) (hchg : Chg w) (hwf : ∀ b ∈ l, wfJ b.j) :
    Calls Tryd.prog 5 #[.slice A l.length cap] w fun e w' => e = .returned (.bool true) ∧ Below w.heap.size w w' := by
  have HWF := Lib.hid hwf
  clear hwf
  by_cases hbig : 60 < l.length
  · go_enter Tryd.func5, Tryd.ntmps5
    go_wp2_with (go_at_call 6; refine (awake_any _ hchg).mono ?_; rintro e w1 ⟨rfl, hb1⟩)
    go_ret
    exact ⟨rfl, hb1⟩
  go_enter Tryd.func5, Tryd.ntmps5
  go_wp2_with fail
  refine (awake_any _ hchg).mono ?_
  rintro e w1 ⟨rfl, hb1⟩
  go_wp2
  go_loopw [15] (fun s wr => ∃ i : Nat, i ≤ l.length ∧ s = .int .i64 i ∧ Hid (∀ p, p < i → NoneTo l p p) ∧ Below w.heap.size w wr) (fun s _ => l.length - (intOf s).toNat)
  case atStart => exact ⟨0, Nat.zero_le _, rfl, fun p hp => by omega, hb1⟩
  case round =>
    clear hb1
    obtain ⟨i, hi, rfl, hall, hbel⟩ := hrel
    by_cases hlt : i < l.length
    · obtain ⟨wo, rfl⟩ : ∃ u : World, u = wr := ⟨_, rfl⟩
      go_wp2
      go_loopw [4] (fun s wr => ∃ k : Nat, k ≤ i ∧ s = .int .i64 k ∧ Hid (NoneTo l i k) ∧ Below w.heap.size w wr) (fun s _ => i - (intOf s).toNat)
      case atStart => exact ⟨0, Nat.zero_le _, rfl, fun q hq => by omega, hbel⟩
      case round =>
        clear hbel
        obtain ⟨k, hk, rfl, hnone, hbel⟩ := hrel
        have hz := hbel.size
        by_cases hki : k < i
        · have hkl : k < l.length := by omega
          obtain ⟨b, off, rfl, hb0, ca⟩ := (hr.below hbel).call hlt
          obtain ⟨b', off', e, _, cb⟩ := (hr.below hbel).call hkl
          cases e
          have hbw : b < wr.heap.size := by omega
          have RI := Lib.hid (Later.req ca.req hbw)
          have RK := Lib.hid (Later.req cb.req hbw)
          have RIC : Hid (∀ w', (∃ u : Later wr, w' = u.val) → ReqAt b (off + i * 18 + 1) l[i] w') := fun _ ⟨u, e⟩ => e ▸ RI.out u
          have RKC : Hid (∀ w', (∃ u : Later wr, w' = u.val) → ReqAt b (off + k * 18 + 1) l[k] w') := fun _ ⟨u, e⟩ => e ▸ RK.out u
          have ji : ∀ u : Later wr, u.val.cell? ⟨b, off + i * 18 + 1 + 2, none⟩ = some (.int .i64 l[i].j) := fun u => (RI.out u).2.2.1
          have jk : ∀ u : Later wr, u.val.cell? ⟨b, off + k * 18 + 1 + 2, none⟩ = some (.int .i64 l[k].j) := fun u => (RK.out u).2.2.1
          clear ca cb
          cases hsi : suchB l[i].k
          · have HC : Hid (¬ Clash l i k) := fun ⟨_, _, h, _⟩ => by rw [hsi] at h; cases h
            go_wp2
            refine wp_region_later (by kernel_rfl) (by kernel_rfl) ?_
            repeat (first | (go_big_quiet_want; refine quiet_load33 (.tmp 26) rfl b (off + i * 18 + 1) rfl l[i] RIC.out ?_; go_big_quiet_on; simp only [Act.put, List.setIfInBounds_toArray, List.set_cons_succ, List.set_cons_zero]) | (go_big_quiet_want; refine quiet_load33 (.tmp 33) rfl b (off + k * 18 + 1) rfl l[k] RKC.out ?_; go_big_quiet_on; simp only [Act.put, List.setIfInBounds_toArray, List.set_cons_succ, List.set_cons_zero]) | go_big_quiet_step ((go_at_call 14; exact later_of (rsuch_is hsi _))))
            refine wpQuiet_nil ?_
            intro w2 hw2
            obtain ⟨⟨w2, hb2⟩, rfl⟩ := hw2
            go_wp2
            go_roundw
            case rel => exact ⟨k + 1, by omega, by go_num, none_next hnone (HC.out), hbel.trans (hb2.mono hz)⟩
            case measure => simp [intOf]; omega
          · cases hsk : suchB l[k].k
            · have HC : Hid (¬ Clash l i k) := fun ⟨_, _, _, h, _⟩ => by rw [hsk] at h; cases h
              go_wp2
              refine wp_region_later (by kernel_rfl) (by kernel_rfl) ?_
              repeat (first | (go_big_quiet_want; refine quiet_load33 (.tmp 26) rfl b (off + i * 18 + 1) rfl l[i] RIC.out ?_; go_big_quiet_on; simp only [Act.put, List.setIfInBounds_toArray, List.set_cons_succ, List.set_cons_zero]) | (go_big_quiet_want; refine quiet_load33 (.tmp 33) rfl b (off + k * 18 + 1) rfl l[k] RKC.out ?_; go_big_quiet_on; simp only [Act.put, List.setIfInBounds_toArray, List.set_cons_succ, List.set_cons_zero]) | go_big_quiet_step ((go_at_call 14; first | with_reducible exact later_of (rsuch_is hsi _) | with_reducible exact later_of (rsuch_is hsk _))))
              refine wpQuiet_nil ?_
              intro w2 hw2
              obtain ⟨⟨w2, hb2⟩, rfl⟩ := hw2
              go_wp2
              go_roundw
              case rel => exact ⟨k + 1, by omega, by go_num, none_next hnone (HC.out), hbel.trans (hb2.mono hz)⟩
              case measure => simp [intOf]; omega
            · by_cases hj : l[i].j = l[k].j
              · have hj1 : (l[i].j == l[k].j) = true := by simp [hj]
                have HJ := Lib.hid hj
                clear hj
                go_wp2
                refine wp_region_later (by kernel_rfl) (by kernel_rfl) ?_
                repeat (first | (go_big_quiet_want; refine quiet_load33 (.tmp 26) rfl b (off + i * 18 + 1) rfl l[i] RIC.out ?_; go_big_quiet_on; simp only [Act.put, List.setIfInBounds_toArray, List.set_cons_succ, List.set_cons_zero]) | (go_big_quiet_want; refine quiet_load33 (.tmp 33) rfl b (off + k * 18 + 1) rfl l[k] RKC.out ?_; go_big_quiet_on; simp only [Act.put, List.setIfInBounds_toArray, List.set_cons_succ, List.set_cons_zero]) | go_big_quiet_step ((go_at_call 14; first | with_reducible exact later_of (rsuch_is hsi _) | with_reducible exact later_of (rsuch_is hsk _))))
                refine wpQuiet_nil ?_
                intro w2 hw2
                obtain ⟨⟨w2, hb2⟩, rfl⟩ := hw2
                go_wp2
                go_ret
                exact ⟨rfl, hbel.trans (hb2.mono hz)⟩
              · have hj1 : (l[i].j == l[k].j) = false := by simp [hj]
                have HC : Hid (¬ Clash l i k) := fun ⟨_, _, _, _, h⟩ => hj h
                go_wp2
                refine wp_region_later (by kernel_rfl) (by kernel_rfl) ?_
                repeat (first | (go_big_quiet_want; refine quiet_load33 (.tmp 26) rfl b (off + i * 18 + 1) rfl l[i] RIC.out ?_; go_big_quiet_on; simp only [Act.put, List.setIfInBounds_toArray, List.set_cons_succ, List.set_cons_zero]) | (go_big_quiet_want; refine quiet_load33 (.tmp 33) rfl b (off + k * 18 + 1) rfl l[k] RKC.out ?_; go_big_quiet_on; simp only [Act.put, List.setIfInBounds_toArray, List.set_cons_succ, List.set_cons_zero]) | go_big_quiet_step ((go_at_call 14; first | with_reducible exact later_of (rsuch_is hsi _) | with_reducible exact later_of (rsuch_is hsk _))))
                refine wpQuiet_nil ?_
                intro w2 hw2
                obtain ⟨⟨w2, hb2⟩, rfl⟩ := hw2
                go_wp2
                go_roundw
                case rel => exact ⟨k + 1, by omega, by go_num, none_next hnone (HC.out), hbel.trans (hb2.mono hz)⟩
                case measure => simp [intOf]; omega
        · obtain rfl : k = i := by omega
          go_wp2
          go_roundw
          case rel =>
            refine ⟨k + 1, by omega, by go_num, fun p hp => ?_, hbel⟩
            rcases Nat.lt_or_ge p k with h | h
            · exact hall.out p h
            · obtain rfl : p = k := by omega
              exact hnone.out
          case measure => simp [intOf]; omega
    · obtain rfl : i = l.length := by omega
      have HF := Lib.hid (chains_ones (l := rqs l) (n := l.length) (fun i hi => own_first (fun p q hq hp => hall.out p (by omega) q hq) hi))
      have HO : Hid (order (rqs l) = List.range l.length) := by show _ = _; unfold order; rw [rqs_len, HF.out, ones_flat]
      have hz := hbel.size
      go_wp2_with fail
      refine (order_any _ _ _ l _ (by exact hr.below hbel) hz (by omega) (hchg.later hbel) HWF.out).mono ?_
      rw [HO.out]
      rintro e w2 ⟨A2, c2, he2, hr2, hb2⟩
      rw [List.length_range] at he2
      subst he2
      have hW2 := hbel.trans (hb2.mono hz)
      have z2 := hW2.size
      go_wp2_with fail
      refine (chains_any _ _ _ l _ (by exact hr.below hW2) z2 (by omega) (hchg.later hW2) HWF.out).mono ?_
      rw [HF.out]
      rintro e w3 ⟨A3, c3, he3, hg3, hb3⟩
      rw [ones_len] at he3
      subst he3
      have hW3 := hW2.trans (hb3.mono z2)
      have hr3 := hr2.below hb3
      clear hr2 hb2 hb3
      go_wp2
      go_loop [59] (fun s => ∃ i : Nat, i ≤ l.length ∧ s = .int .i64 i) (fun s => l.length - (intOf s).toNat)
      case atStart => exact ⟨0, Nat.zero_le _, rfl⟩
      case round =>
        obtain ⟨i, hi, rfl⟩ := hrel
        by_cases hlt : i < l.length
        · obtain ⟨b, off, rfl, _, hc⟩ := hr3 (by rw [nvs_len, List.length_range]; omega)
          have hci := hc i _ (range_at hlt)
          obtain ⟨g, A', c', rfl, _, hcg, _⟩ := hg3.at (k := i) (by rw [ones_len]; exact hlt)
          rw [ones_nth hlt] at hcg
          have hcg1 : w3.cell? ⟨g, i, none⟩ = some (.slice A' 1 c') := hcg
          clear hc hcg
          go_wp2
          go_round
          case rel => exact ⟨i + 1, by omega, by go_num⟩
          case measure => simp [intOf]; omega
        · obtain rfl : i = l.length := by omega
          go_wp2
          go_ret
          exact ⟨rfl, hW3⟩
end Go.Proofs.YtknmgcjhfleloaaDoor
