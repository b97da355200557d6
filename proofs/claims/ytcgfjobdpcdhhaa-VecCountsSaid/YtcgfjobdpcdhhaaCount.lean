/-
  The contract of vec.Count: how many times one vector fits another one.
-/
import Derived.Test.YtcgfjobdpcdhhaaFits
namespace Go.Proofs.Ytcgfjobdpcdhhaa
open Go.RowKit Go.BigFrame
set_option linter.unusedVariables false
attribute [local go_sem ↓] Go.wp_at_zero Go.wp_at_succ

def Rs.at (a : Rs) (k : Nat) : Int := if k = 0 then a.c else if k = 1 then a.m else if k = 2 then a.g else a.l
def Rs.none : Rs := ⟨0, 0, 0, 0⟩
/-- The count after the first k numbers. -/
def countK (a b : Rs) : Nat → Int
  | 0 => 64
  | k + 1 => if 0 < b.at k then min (countK a b k) (a.at k / b.at k) else countK a b k
def Rs.count (a b : Rs) : Int := if a.ok ∧ b.ok ∧ b ≠ Rs.none then countK a b 4 else 0
theorem Rs.ok.at {a : Rs} (h : a.ok) (k : Nat) : okN (a.at k) := by
  obtain ⟨h0, h1, h2, h3⟩ := h
  unfold Rs.at
  split
  · assumption
  split
  · assumption
  split
  · assumption
  · assumption
theorem countK_bound {a b : Rs} (ha : a.ok) (k : Nat) : 0 ≤ countK a b k ∧ countK a b k ≤ 64 := by
  induction k with
  | zero => exact ⟨by simp [countK], by simp [countK]⟩
  | succ k ih =>
    unfold countK
    split
    · rename_i h
      have := Int.ediv_nonneg (ha.at k).1 (Int.le_of_lt h)
      constructor
      · omega
      · omega
    · exact ih
theorem Held.at {p : Nat} {a : Rs} {u : World} (h : Held p a u) {k : Nat} (hk : k < 4) : u.cell? ⟨p, k, none⟩ = some (.int .i64 (a.at k)) := by
  obtain ⟨h0, h1, h2, h3⟩ := h
  unfold Rs.at
  have : k = 0 ∨ k = 1 ∨ k = 2 ∨ k = 3 := by omega
  rcases this with rfl | rfl | rfl | rfl
  · exact h0
  · exact h1
  · exact h2
  · exact h3

theorem countK_succ (a b : Rs) (k : Nat) : countK a b (k + 1) = if 0 < b.at k then min (countK a b k) (a.at k / b.at k) else countK a b k := rfl
theorem keep9 {w wb u : World} {a b : Rs} (hb : Below wb.heap.size wb u) (hs : Hid (w.heap.size + 2 ≤ wb.heap.size)) (h1 : Held w.heap.size a wb) (h2 : Held (w.heap.size + 1) b wb) :
    u.cell? ⟨w.heap.size, 0, none⟩ = some (.int .i64 a.c) ∧ u.cell? ⟨w.heap.size, 1, none⟩ = some (.int .i64 a.m) ∧ u.cell? ⟨w.heap.size, 2, none⟩ = some (.int .i64 a.g) ∧ u.cell? ⟨w.heap.size, 3, none⟩ = some (.int .i64 a.l) ∧
    u.cell? ⟨w.heap.size + 1, 0, none⟩ = some (.int .i64 b.c) ∧ u.cell? ⟨w.heap.size + 1, 1, none⟩ = some (.int .i64 b.m) ∧ u.cell? ⟨w.heap.size + 1, 2, none⟩ = some (.int .i64 b.g) ∧ u.cell? ⟨w.heap.size + 1, 3, none⟩ = some (.int .i64 b.l) := by
  have hs := hs.out
  have k1 := held_later h1 hb (by omega)
  have k2 := held_later h2 hb (by omega)
  exact ⟨k1.1, k1.2.1, k1.2.2.1, k1.2.2.2, k2.1, k2.2.1, k2.2.2.1, k2.2.2.2⟩
theorem count_no {a b : Rs} (h : ¬ (a.ok ∧ b.ok ∧ b ≠ Rs.none)) : a.count b = 0 := by simp only [Rs.count, if_neg h]
theorem count_yes {a b : Rs} (h : a.ok ∧ b.ok ∧ b ≠ Rs.none) : a.count b = countK a b 4 := by simp only [Rs.count, if_pos h]
theorem okB_iff {a : Rs} : a.okB = true ↔ a.ok := by simp [Rs.okB]
theorem okB_not {a : Rs} : a.okB = false ↔ ¬ a.ok := by simp [Rs.okB]

theorem none_of {b : Rs} (h0 : b.c = 0) (h1 : b.m = 0) (h2 : b.g = 0) (h3 : b.l = 0) : b = Rs.none := by cases b; simp_all [Rs.none]

set_option maxHeartbeats 4000000 in
theorem count_any (a b : Rs) (w : World) : Calls Try.prog 21 #[a.val, b.val] w fun e w' => e = .returned (.int .i64 (a.count b)) ∧ Below w.heap.size w w' := by
  go_enter Try.func21, Try.ntmps21
  go_upto_region 1 with fail
  obtain ⟨wb, hwb, hbb, hs, h1, h2⟩ := boxes w a b
  simp only [Rs.obj] at hwb
  rw [hwb]
  clear hwb
  have HS := Lib.hid hs
  clear hs
  obtain ⟨x0, x1, x2, x3, x4, x5, x6, x7⟩ := keep8 (Below.refl wb.heap.size wb) HS h1 h2
  go_cut [21] (fun s wx => s = .bool (!a.okB || !b.okB || decide (b = Rs.none)) ∧ Below wb.heap.size wb wx)
  case first =>
    cases ha : a.okB
    · go_wp2_with (go_at_call 14; refine (right_any _ _).mono ?_; rintro e w1 ⟨rfl, hb1⟩)
      go_meet
      exact ⟨by rw [ha]; rfl, hb1⟩
    go_wp2_with fail
    refine (right_any _ _).mono ?_; rintro e w1 ⟨rfl, hb1⟩
    clear x0 x1 x2 x3 x4 x5 x6 x7
    obtain ⟨x0, x1, x2, x3, x4, x5, x6, x7⟩ := keep8 hb1 HS h1 h2
    cases hb : b.okB
    · go_wp2_with (go_at_call 14; refine (right_any _ _).mono ?_; rintro e w2 ⟨rfl, hb2⟩)
      go_meet
      exact ⟨by rw [ha, hb]; rfl, hb1.trans (hb2.mono hb1.size)⟩
    go_wp2_with fail
    refine (right_any _ _).mono ?_; rintro e w2 ⟨rfl, hb2⟩
    clear x0 x1 x2 x3 x4 x5 x6 x7
    have hb12 := hb1.trans (hb2.mono hb1.size)
    obtain ⟨x0, x1, x2, x3, x4, x5, x6, x7⟩ := keep8 hb12 HS h1 h2
    go_wp2_with fail
    all_goals go_meet
    all_goals first
      | exact ⟨by rw [ha, hb, decide_eq_true (none_of ‹b.c = 0› ‹b.m = 0› ‹b.g = 0› ‹b.l = 0›)]; rfl, hb12⟩
      | exact ⟨by rw [ha, hb, decide_eq_false (fun h => ‹¬ b.c = 0› (by rw [h]; rfl))]; rfl, hb12⟩
      | exact ⟨by rw [ha, hb, decide_eq_false (fun h => ‹¬ b.m = 0› (by rw [h]; rfl))]; rfl, hb12⟩
      | exact ⟨by rw [ha, hb, decide_eq_false (fun h => ‹¬ b.g = 0› (by rw [h]; rfl))]; rfl, hb12⟩
      | exact ⟨by rw [ha, hb, decide_eq_false (fun h => ‹¬ b.l = 0› (by rw [h]; rfl))]; rfl, hb12⟩
  case rest =>
    obtain ⟨rfl, hbx⟩ := hcut
    clear x0 x1 x2 x3 x4 x5 x6 x7
    have hbw := hbb.trans (hbx.mono (by have := HS.out; omega))
    by_cases hok : a.ok ∧ b.ok ∧ b ≠ Rs.none
    rotate_left
    · have ht : (!a.okB || !b.okB || decide (b = Rs.none)) = true := by
        rw [Rs.okB, Rs.okB]
        by_cases i1 : a.ok <;> by_cases i2 : b.ok <;> by_cases i3 : b = Rs.none <;> simp [i1, i2, i3]
        exact hok ⟨i1, i2, i3⟩
      have HO := Lib.hid (count_no hok)
      rw [ht]
      clear ht
      go_wp2_with fail
      go_ret
      exact ⟨retInt HO.out.symm, hbw⟩
    have ht : (!a.okB || !b.okB || decide (b = Rs.none)) = false := by simp [Rs.okB, hok]
    rw [ht]
    clear ht
    have HO := Lib.hid (count_yes hok)
    go_upto_region 4 with fail
    go_cut [6, 7] (fun s6 s7 wx => ∃ p q : Nat, s6 = .pointer (some ⟨p, 0, none⟩) ∧ s7 = .pointer (some ⟨q, 0, none⟩) ∧ Held p a wx ∧ Held q b wx ∧ Below w.heap.size w wx)
    case first =>
      have g1 := held_later h1 hbx (by have := HS.out; omega)
      have g2 := held_later h2 hbx (by have := HS.out; omega)
      have HT := Lib.hid (show w.heap.size + 2 ≤ wc.heap.size by have := HS.out; have := hbx.size; omega)
      obtain ⟨x0, x1, x2, x3, x4, x5, x6, x7⟩ := keep9 (Below.refl wc.heap.size wc) HT g1 g2
      go_region_held3 (fun u => u.cell? ⟨w.heap.size, 0, none⟩ = some (.int .i64 a.c) ∧ u.cell? ⟨w.heap.size, 1, none⟩ = some (.int .i64 a.m) ∧ u.cell? ⟨w.heap.size, 2, none⟩ = some (.int .i64 a.g) ∧ u.cell? ⟨w.heap.size, 3, none⟩ = some (.int .i64 a.l) ∧
          u.cell? ⟨w.heap.size + 1, 0, none⟩ = some (.int .i64 b.c) ∧ u.cell? ⟨w.heap.size + 1, 1, none⟩ = some (.int .i64 b.m) ∧ u.cell? ⟨w.heap.size + 1, 2, none⟩ = some (.int .i64 b.g) ∧ u.cell? ⟨w.heap.size + 1, 3, none⟩ = some (.int .i64 b.l))
        (first | exact keep9 (by repeat (first | exact Below.refl _ _ | refine Below.drew ?_ | refine Below.alloc ?_ (by first | (simp; done) | (simp; omega)) _ | refine Below.setCell ?_ (by first | (simp; done) | (simp; omega)) _)) HT g1 g2 | go_keep)
        (first
          | (go_at_call 39; with_reducible refine (numbers_exact a _).mono ?_; rintro e w' ⟨rfl, rfl⟩)
          | (go_at_call 39; with_reducible refine (numbers_exact b _).mono ?_; rintro e w' ⟨rfl, rfl⟩))
      all_goals (go_wp2_with fail; go_meet; have hle := HT.out; refine ⟨_, _, rfl, rfl, ?_, ?_, ?_⟩ <;> (repeat (first | assumption | refine held_drew ?_ | (refine held_made _ ?_; first | omega | (simp; done) | (simp; omega)) | (refine held_alloc ?_ (by first | omega | (simp; done) | (simp; omega))) | refine Below.drew ?_ | (refine Below.alloc ?_ (by first | omega | (simp; done) | (simp; omega)) _))))
    case rest =>
      obtain ⟨p, q, rfl, rfl, ga, gb, hbel⟩ := hcut
      clear h1 h2 hbb HS hbx
      rename_i wx _
      go_wp2_with fail
      go_loopw [5, 26] (fun n i wr => ∃ k : Nat, k ≤ 4 ∧ i = .int .i64 k ∧ n = .int .i64 (countK a b k) ∧ Held p a wr ∧ Held q b wr ∧ Below w.heap.size w wr) (fun _ i _ => 4 - (intOf i).toNat)
      case atStart => exact ⟨0, by omega, rfl, rfl, ga, gb, hbel⟩
      case round =>
        clear hbel ga gb
        obtain ⟨k, hk, rfl, rfl, ga, gb, hbel⟩ := hrel
        by_cases hlt : k < 4
        · have x := ga.at hlt
          have y := gb.at hlt
          obtain ⟨hx1, hx2⟩ := hok.1.at k
          obtain ⟨hy1, hy2⟩ := hok.2.1.at k
          by_cases hy : 0 < b.at k
          · go_wp2_with fail
            go_region
            go_wp2_with fail
            refine ⟨⟨k + 1, by omega, rfl, ?_, ga, gb, Below.drew hbel⟩, by simp [intOf]; omega⟩
            rw [countK_succ, if_pos hy]
            refine congrArg _ ?_
            split <;> omega
          · go_wp2_with fail
            refine ⟨⟨k + 1, by omega, rfl, ?_, ga, gb, hbel⟩, by simp [intOf]; omega⟩
            rw [countK_succ, if_neg hy]
        · go_wp2_with fail
          go_ret
          have : k = 4 := by omega
          subst this
          exact ⟨retInt HO.out.symm, hbel⟩
end Go.Proofs.Ytcgfjobdpcdhhaa
