/-
  The contract of the reference's Count.
-/
import Derived.Test.YtcgfjobdpcdhhaaVtimes
namespace Go.Proofs.Ytcgfjobdpcdhhaa
open Go.RowKit Go.BigFrame
set_option linter.unusedVariables false

theorem fits_none {b : Rs} (h : b.ok) : b.fits Rs.none ↔ b = Rs.none := by
  obtain ⟨⟨_, _⟩, ⟨_, _⟩, ⟨_, _⟩, ⟨_, _⟩⟩ := h
  constructor
  · rintro ⟨h0, h1, h2, h3⟩
    simp only [Rs.none] at h0 h1 h2 h3
    exact rs_ext (by simp only [Rs.none]; omega) (by simp only [Rs.none]; omega) (by simp only [Rs.none]; omega) (by simp only [Rs.none]; omega)
  · rintro rfl
    exact ⟨Int.le_refl _, Int.le_refl _, Int.le_refl _, Int.le_refl _⟩
theorem boxes2 (w : World) (a b : Rs) : ∃ wb, (w.alloc (a.obj 23)).alloc (b.obj 23) = wb ∧ Below w.heap.size w wb ∧ Blk wb w.heap.size a ∧ Blk wb (w.heap.size + 1) b := by
  refine ⟨_, rfl, ((Below.refl _ _).alloc (Nat.le_refl _) _).alloc (by simp) _, ?_, ?_⟩
  · exact (Blk.made w a).below ((Below.refl (w.heap.size + 1) _).alloc (by simp) _) (by omega)
  · have h := Blk.made (w.alloc (a.obj 23)) b
    rw [World.size_alloc] at h
    exact h
theorem times_one (a : Rs) : a.times 1 = a := by simp [Rs.times]
theorem count_step {f need : Rs} {n : Nat} (hf : f.ok) (hn : need.ok) (h0 : need ≠ Rs.none) (h64 : n < 64) : (need.times (n + 1)).fits f ↔ (n : Int) < f.count need := by
  constructor
  · intro h
    have := le_count hf hn h0 (show n + 1 ≤ 64 by omega) h
    omega
  · intro h
    exact times_fits (by omega) (by omega)

set_option maxHeartbeats 2000000 in
theorem rcount_any (a b : Rs) (w : World) : Calls Try.prog 22 #[a.val, b.val] w fun e w' => e = .returned (.int .i64 (a.count b)) ∧ Below w.heap.size w w' := by
  obtain ⟨wb, hwb, hbb, k0, k1⟩ := boxes2 w a b
  go_enter Try.func22, Try.ntmps22
  go_upto_region 1 with fail
  simp only [Rs.obj] at hwb
  try rw [hwb]
  clear hwb
  obtain ⟨x0, x1, x2, x3⟩ := k0.held
  go_wp2_with fail
  refine (rright_any a _).mono ?_
  rintro e w1 ⟨rfl, hb1⟩
  have hW1 := hbb.trans (hb1.mono hbb.size)
  have g0 := k0.below hb1 k0.lt
  have g1 := k1.below hb1 k1.lt
  clear x0 x1 x2 x3 k0 k1 hbb hb1
  by_cases ha : a.ok
  rotate_left
  · have oa := okB_no ha
    have HO := Lib.hid (count_no (a := a) (b := b) (fun h => ha h.1))
    go_wp2
    go_ret
    exact ⟨retInt HO.out.symm, hW1⟩
  have oa := okB_yes ha
  obtain ⟨x0, x1, x2, x3⟩ := g1.held
  go_wp2_with fail
  refine (rright_any b _).mono ?_
  rintro e w2 ⟨rfl, hb2⟩
  have hW2 := hW1.trans (hb2.mono hW1.size)
  have j0 := g0.below hb2 g0.lt
  have j1 := g1.below hb2 g1.lt
  clear x0 x1 x2 x3 g0 g1 hW1 hb2
  by_cases hb : b.ok
  rotate_left
  · have ob := okB_no hb
    have HO := Lib.hid (count_no (a := a) (b := b) (fun h => hb h.2.1))
    go_wp2
    go_ret
    exact ⟨retInt HO.out.symm, hW2⟩
  have ob := okB_yes hb
  obtain ⟨x0, x1, x2, x3⟩ := j1.held
  go_wp2_with fail
  refine (rfits_any b ⟨0, 0, 0, 0⟩ _).mono ?_
  rintro e w3 ⟨rfl, hb3⟩
  have hW3 := hW2.trans (hb3.mono hW2.size)
  have l0 := j0.below hb3 j0.lt
  have l1 := j1.below hb3 j1.lt
  clear x0 x1 x2 x3 j0 j1 hW2 hb3
  by_cases h0 : b = Rs.none
  · have of' : b.fitsB ⟨0, 0, 0, 0⟩ = true := fitsB_yes ((fits_none hb).2 h0)
    have HO := Lib.hid (count_no (a := a) (b := b) (fun h => h.2.2 h0))
    clear h0
    go_wp2
    go_ret
    exact ⟨retInt HO.out.symm, hW3⟩
  have of' : b.fitsB ⟨0, 0, 0, 0⟩ = false := fitsB_no (fun h => h0 ((fits_none hb).1 h))
  have hcb := count_bound a b
  have H0 := Lib.hid h0
  clear h0
  obtain ⟨x0, x1, x2, x3⟩ := l1.held
  go_wp2_with fail
  obtain ⟨wq, hwq, hbq, lq⟩ : ∃ wq, w3.alloc (b.obj 23) = wq ∧ Below w3.heap.size w3 wq ∧ Blk wq w3.heap.size b := ⟨_, rfl, (Below.refl _ _).alloc (Nat.le_refl _) _, Blk.made _ _⟩
  simp only [Rs.obj] at hwq
  rw [hwq]
  clear hwq
  have m0 := l0.below hbq l0.lt
  have m1 := l1.below hbq l1.lt
  have p0 := l0.lt
  have p1 := l1.lt
  have hWq := hW3.trans (hbq.mono hW3.size)
  clear x0 x1 x2 x3 l0 l1 hbq
  go_loopw [5] (fun i wr => ∃ k : Nat, (k : Int) ≤ a.count b ∧ i = .int .i64 k ∧ Blk wr w.heap.size a ∧ Blk wr (w.heap.size + 1) b ∧ Blk wr w3.heap.size (b.times (k + 1)) ∧ Below w.heap.size w wr) (fun i _ => 64 - (intOf i).toNat)
  case atStart => exact ⟨0, by omega, rfl, m0, m1, by rw [times_one]; exact lq, hWq⟩
  case round =>
    clear m0 m1 lq hWq
    obtain ⟨k, hk, rfl, m0, m1, lq, hWr⟩ := hrel
    obtain ⟨x0, x1, x2, x3⟩ := m0.held
    obtain ⟨y0, y1, y2, y3⟩ := lq.held
    by_cases h64 : k < 64
    rotate_left
    · have HE : Hid (a.count b = k) := by show _ = _; omega
      go_wp2
      go_ret
      exact ⟨retInt HE.out.symm, hWr⟩
    have hst := Lib.hid (count_step (n := k) ha hb H0.out h64)
    go_wp2_with fail
    refine (rfits_any (b.times (k + 1)) a _).mono ?_
    rintro e w5 ⟨rfl, hb5⟩
    have hW5 := hWr.trans (hb5.mono hWr.size)
    have n0 := m0.below hb5 m0.lt
    have n1 := m1.below hb5 m1.lt
    have nq := lq.below hb5 lq.lt
    clear x0 x1 x2 x3 y0 y1 y2 y3 m0 m1 lq hWr
    by_cases hc : (k : Int) < a.count b
    · have of2 : (b.times (k + 1)).fitsB a = true := fitsB_yes (hst.out.2 hc)
      obtain ⟨x0, x1, x2, x3⟩ := n1.held
      obtain ⟨y0, y1, y2, y3⟩ := nq.held
      have HT := Lib.hid (times_add b (k + 1))
      go_wp2_with fail
      refine (radd_any (b.times (k + 1)) b _ (times_lim hb (by omega)) hb.lim).mono ?_
      rw [HT.out]
      rintro e w6 ⟨rfl, hb6⟩
      have hW6 := hW5.trans (hb6.mono hW5.size)
      have o0 := n0.below hb6 n0.lt
      have o1 := n1.below hb6 n1.lt
      have oq := nq.below hb6 nq.lt
      clear x0 x1 x2 x3 y0 y1 y2 y3
      obtain ⟨y0, y1, y2, y3⟩ := oq.held
      obtain ⟨f0, f1, f2, f3⟩ := oq.free4
      go_wp2
      go_roundw
      case rel =>
        exact ⟨k + 1, by omega, by go_num, o0.other (by omega) _ _ _ _, o1.other (by omega) _ _ _ _, oq.set _, below_set4 hW6 (by omega) _ _ _ _⟩
      case measure => simp [intOf]; omega
    · have of2 : (b.times (k + 1)).fitsB a = false := fitsB_no (fun h => hc (hst.out.1 h))
      have HE : Hid (a.count b = k) := by show _ = _; omega
      go_wp2
      go_ret
      exact ⟨retInt HE.out.symm, hW5⟩
end Go.Proofs.Ytcgfjobdpcdhhaa
