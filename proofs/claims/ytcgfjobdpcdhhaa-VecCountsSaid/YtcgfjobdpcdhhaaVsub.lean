/-
  The contract of vec.Sub.
-/
import Derived.Test.YtcgfjobdpcdhhaaVadd
namespace Go.Proofs.Ytcgfjobdpcdhhaa
open Go.RowKit Go.BigFrame
set_option linter.unusedVariables false
attribute [local go_sem ↓] Go.wp_at_zero Go.wp_at_succ
attribute [local go_sem] run_store_complex

theorem sub_lim {a b : Rs} (ha : a.ok) (hb : b.ok) : (a.sub b).lim := by
  obtain ⟨⟨_, _⟩, ⟨_, _⟩, ⟨_, _⟩, ⟨_, _⟩⟩ := ha
  obtain ⟨⟨_, _⟩, ⟨_, _⟩, ⟨_, _⟩, ⟨_, _⟩⟩ := hb
  refine ⟨⟨?_, ?_⟩, ⟨?_, ?_⟩, ⟨?_, ?_⟩, ⟨?_, ?_⟩⟩ <;> (simp only [Rs.sub]; omega)
theorem nat_sub {x y : Int} (hx : okN x) (hy : okN y) : (x - y).natAbs < 2 ^ 53 := by
  obtain ⟨_, _⟩ := hx
  obtain ⟨_, _⟩ := hy
  omega
set_option maxHeartbeats 4000000 in
theorem vsub_no (a b : Rs) (w : World) (hno : ¬ (a.ok ∧ b.ok)) : Calls Try.prog 12 #[a.val, b.val] w fun e w' => e = .returned (.tuple #[Rs.none.val, .int .i64 2]) ∧ Below w.heap.size w w' := by
  obtain ⟨wb, hwb, hbb, k0, k1, k2⟩ := three2 w a b
  go_enter Try.func12, Try.ntmps12
  go_upto_region 1 with fail
  simp only [Rs.obj, Rs.none] at hwb
  rw [hwb]
  clear hwb
  obtain ⟨x0, x1, x2, x3⟩ := k0.held
  by_cases ha : a.ok
  · have oa := okB_yes ha
    have ob := okB_no (fun h => hno ⟨ha, h⟩)
    go_wp2_with fail
    refine (right_any a _).mono ?_
    rintro e w1 ⟨rfl, hb1⟩
    clear x0 x1 x2 x3
    obtain ⟨x0, x1, x2, x3⟩ := (k1.below hb1 k1.lt).held
    go_wp2_with fail
    refine (right_any b _).mono ?_
    rintro e w2 ⟨rfl, hb2⟩
    have z1 := hb1.size
    have zz := k2.lt
    have k3 := (k2.below hb1 k2.lt).below hb2 (by omega)
    have hW := (hbb.trans (hb1.mono hbb.size)).trans (hb2.mono (by have := hbb.size; omega))
    clear x0 x1 x2 x3
    obtain ⟨x0, x1, x2, x3⟩ := k3.held
    obtain ⟨f0, f1, f2, f3⟩ := k3.free4
    go_wp2
    have hz := (k3.set Rs.none).held
    have hbz := below_set4 hW (show w.heap.size ≤ w.heap.size + 1 + 1 by omega) (.int .i64 Rs.none.c) (.int .i64 Rs.none.m) (.int .i64 Rs.none.g) (.int .i64 Rs.none.l)
    simp only [Rs.none] at hz hbz
    generalize ((((w2.setCell ⟨w.heap.size + 1 + 1, 0, none⟩ (.int .i64 0)).setCell ⟨w.heap.size + 1 + 1, 1, none⟩ (.int .i64 0)).setCell ⟨w.heap.size + 1 + 1, 2, none⟩ (.int .i64 0)).setCell ⟨w.heap.size + 1 + 1, 3, none⟩ (.int .i64 0)) = wz at hz hbz ⊢
    obtain ⟨z0, z1, z2, z3⟩ := hz
    exact bodyPost_ret (v := .tuple #[Rs.none.val, .int .i64 2]) (by simp [results, Try.results12, go_sem, z0, z1, z2, z3, Rs.none]) rfl ⟨rfl, hbz⟩
  · have oa := okB_no ha
    go_wp2_with fail
    refine (right_any a _).mono ?_
    rintro e w2 ⟨rfl, hb1⟩
    have k3 := k2.below hb1 k2.lt
    have hW := hbb.trans (hb1.mono hbb.size)
    clear x0 x1 x2 x3
    obtain ⟨x0, x1, x2, x3⟩ := k3.held
    obtain ⟨f0, f1, f2, f3⟩ := k3.free4
    go_wp2
    have hz := (k3.set Rs.none).held
    have hbz := below_set4 hW (show w.heap.size ≤ w.heap.size + 1 + 1 by omega) (.int .i64 Rs.none.c) (.int .i64 Rs.none.m) (.int .i64 Rs.none.g) (.int .i64 Rs.none.l)
    simp only [Rs.none] at hz hbz
    generalize ((((w2.setCell ⟨w.heap.size + 1 + 1, 0, none⟩ (.int .i64 0)).setCell ⟨w.heap.size + 1 + 1, 1, none⟩ (.int .i64 0)).setCell ⟨w.heap.size + 1 + 1, 2, none⟩ (.int .i64 0)).setCell ⟨w.heap.size + 1 + 1, 3, none⟩ (.int .i64 0)) = wz at hz hbz ⊢
    obtain ⟨z0, z1, z2, z3⟩ := hz
    exact bodyPost_ret (v := .tuple #[Rs.none.val, .int .i64 2]) (by simp [results, Try.results12, go_sem, z0, z1, z2, z3, Rs.none]) rfl ⟨rfl, hbz⟩

set_option maxHeartbeats 4000000 in
theorem vsub_yes (a b : Rs) (w : World) (ha : a.ok) (hb : b.ok) : Calls Try.prog 12 #[a.val, b.val] w fun e w' => e = .returned (.tuple #[(a.sub b).outR.val, .int .i64 (a.sub b).outE]) ∧ Below w.heap.size w w' := by
  obtain ⟨wb, hwb, hbb, k0, k1, k2⟩ := three2 w a b
  have oa := okB_yes ha
  have ob := okB_yes hb
  go_enter Try.func12, Try.ntmps12
  go_upto_region 1 with fail
  simp only [Rs.obj, Rs.none] at hwb
  rw [hwb]
  clear hwb
  obtain ⟨x0, x1, x2, x3⟩ := k0.held
  go_cut [15] (fun s wx => s = .bool false ∧ Below wb.heap.size wb wx)
  case first =>
    go_wp2_with fail
    refine (right_any a _).mono ?_
    rintro e w1 ⟨rfl, hb1⟩
    clear x0 x1 x2 x3
    obtain ⟨x0, x1, x2, x3⟩ := (k1.below hb1 k1.lt).held
    go_wp2_with fail
    refine (right_any b _).mono ?_
    rintro e w2 ⟨rfl, hb2⟩
    go_wp2_with fail
    go_meet
    exact ⟨rfl, hb1.trans (hb2.mono hb1.size)⟩
  obtain ⟨rfl, hb12⟩ := hcut
  obtain ⟨w2, rfl⟩ : ∃ u : World, u = wc := ⟨_, rfl⟩
  have zz := k2.lt
  have k3 := k2.below hb12 k2.lt
  have g1 := (k0.below hb12 k0.lt).held
  have g2 := (k1.below hb12 k1.lt).held
  have hW := hbb.trans (hb12.mono hbb.size)
  have HT := Lib.hid (show w.heap.size + 2 ≤ w2.heap.size by have := hb12.size; omega)
  clear x0 x1 x2 x3 hb12 k0 k1 k2 hbb oa ob
  obtain ⟨ax, ay, az, au, wa⟩ := words_ex a
  obtain ⟨bx, by', bz, bu, wb'⟩ := words_ex b
  have WA := Lib.hid wa
  have WB := Lib.hid wb'
  clear wa wb'
  go_upto_region 3 with fail
  go_cut [6, 7] (fun s6 s7 wx => ∃ p q : Nat, s6 = .pointer (some ⟨p, 0, none⟩) ∧ s7 = .pointer (some ⟨q, 0, none⟩) ∧ HeldP p ax ay az au wx ∧ HeldP q bx by' bz bu wx ∧ Blk wx (w.heap.size + 1 + 1) Rs.none ∧ Below w.heap.size w wx)
  case first =>
    obtain ⟨x0, x1, x2, x3, x4, x5, x6, x7⟩ := keep9 (Below.refl w2.heap.size w2) HT g1 g2
    go_region_held3 (fun u => u.cell? ⟨w.heap.size, 0, none⟩ = some (.int .i64 a.c) ∧ u.cell? ⟨w.heap.size, 1, none⟩ = some (.int .i64 a.m) ∧ u.cell? ⟨w.heap.size, 2, none⟩ = some (.int .i64 a.g) ∧ u.cell? ⟨w.heap.size, 3, none⟩ = some (.int .i64 a.l) ∧
        u.cell? ⟨w.heap.size + 1, 0, none⟩ = some (.int .i64 b.c) ∧ u.cell? ⟨w.heap.size + 1, 1, none⟩ = some (.int .i64 b.m) ∧ u.cell? ⟨w.heap.size + 1, 2, none⟩ = some (.int .i64 b.g) ∧ u.cell? ⟨w.heap.size + 1, 3, none⟩ = some (.int .i64 b.l))
      (first | exact keep9 (by repeat (first | exact Below.refl _ _ | refine Below.drew ?_ | refine Below.alloc ?_ (by first | (simp; done) | (simp; omega)) _ | refine Below.setCell ?_ (by first | (simp; done) | (simp; omega)) _)) HT g1 g2 | go_keep)
      (first
        | (go_at_call 37; with_reducible refine (split_words a WA.out _).mono ?_; rintro e w' ⟨rfl, rfl⟩)
        | (go_at_call 37; with_reducible refine (split_words b WB.out _).mono ?_; rintro e w' ⟨rfl, rfl⟩))
    all_goals (go_wp2_with fail; go_meet; exact ⟨_, _, rfl, rfl, by repeat (first | (refine heldP_made ?_; simp; done) | refine heldP_drew ?_ | refine heldP_grow ?_), by repeat (first | (refine heldP_made ?_; simp; done) | refine heldP_drew ?_ | refine heldP_grow ?_), by repeat (first | exact k3 | refine blk_drew ?_ | refine blk_grow ?_), by repeat (first | exact hW | refine Below.drew ?_ | refine below_grow ?_)⟩)
  case rest =>
    obtain ⟨p, q, rfl, rfl, ⟨p0, p1⟩, ⟨q0, q1⟩, kr, hbel⟩ := hcut
    obtain ⟨fa1, fa2, fa3, fa4⟩ := words_fl WA.out ha.lim
    obtain ⟨fb1, fb2, fb3, fb4⟩ := words_fl WB.out hb.lim
    obtain ⟨r1, i1, e1, fr1, fi1⟩ := cl_sub fa1 fa2 fb1 fb2 (nat_sub ha.1 hb.1) (nat_sub ha.2.1 hb.2.1)
    obtain ⟨r2, i2, e2, fr2, fi2⟩ := cl_sub fa3 fa4 fb3 fb4 (nat_sub ha.2.2.1 hb.2.2.1) (nat_sub ha.2.2.2 hb.2.2.2)
    have HF : Hid (FlR r1 i1 r2 i2 (a.sub b)) := ⟨fr1, fi1, fr2, fi2⟩
    have s1 := fun W => run_complex_sum (P := Try.prog) W .sub (.inr rfl) 54 .f64 _ _ _ _ _ _ e1
    have s2 := fun W => run_complex_sum (P := Try.prog) W .sub (.inr rfl) 54 .f64 _ _ _ _ _ _ e2
    clear e1 e2 fr1 fi1 fr2 fi2 fa1 fa2 fa3 fa4 fb1 fb2 fb3 fb4
    go_wp2_with fail
    refine (within_any r1 i1 r2 i2 (a.sub b) _ (sub_lim ha hb) HF.out).mono ?_
    rintro e w5 ⟨rfl, hb5⟩
    have k5 := kr.below hb5 kr.lt
    have hW5 := hbel.trans (hb5.mono hbel.size)
    obtain ⟨x0, x1, x2, x3⟩ := k5.held
    obtain ⟨f0, f1, f2, f3⟩ := k5.free4
    clear s1 s2 p0 p1 q0 q1
    go_wp2
    have hz := (k5.set (a.sub b).outR).held
    have hbz := below_set4 hW5 (show w.heap.size ≤ w.heap.size + 1 + 1 by omega) (.int .i64 (a.sub b).outR.c) (.int .i64 (a.sub b).outR.m) (.int .i64 (a.sub b).outR.g) (.int .i64 (a.sub b).outR.l)
    generalize ((((w5.setCell ⟨w.heap.size + 1 + 1, 0, none⟩ (.int .i64 (a.sub b).outR.c)).setCell ⟨w.heap.size + 1 + 1, 1, none⟩ (.int .i64 (a.sub b).outR.m)).setCell ⟨w.heap.size + 1 + 1, 2, none⟩ (.int .i64 (a.sub b).outR.g)).setCell ⟨w.heap.size + 1 + 1, 3, none⟩ (.int .i64 (a.sub b).outR.l)) = wz at hz hbz ⊢
    obtain ⟨z0, z1, z2, z3⟩ := hz
    exact bodyPost_ret (v := .tuple #[(a.sub b).outR.val, .int .i64 (a.sub b).outE]) (by simp [results, Try.results12, go_sem, z0, z1, z2, z3]) rfl ⟨rfl, hbz⟩
end Go.Proofs.Ytcgfjobdpcdhhaa
