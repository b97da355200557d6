/-
  The contract of vec.Times, and of the reference's Count.
-/
import Derived.Test.YtcgfjobdpcdhhaaVleast
import Derived.Test.YtcgfjobdpcdhhaaPlain
namespace Go.Proofs.Ytcgfjobdpcdhhaa
open Go.RowKit Go.BigFrame
set_option linter.unusedVariables false
attribute [local go_sem] run_store_complex

/-- No number is far from 0: the wider bound. -/
def Rs.wide (a : Rs) : Prop := (-4000000000000 ≤ a.c ∧ a.c ≤ 4000000000000) ∧ (-4000000000000 ≤ a.m ∧ a.m ≤ 4000000000000) ∧ (-4000000000000 ≤ a.g ∧ a.g ≤ 4000000000000) ∧ (-4000000000000 ≤ a.l ∧ a.l ≤ 4000000000000)
set_option maxHeartbeats 1000000 in
theorem join_wide (x y z u : Nat) (a : Rs) (w : World) (ha : a.wide) (hf : FlR x y z u a) : Calls Try.prog 43 #[pairV x y z u] w fun e w' => e = .returned a.val ∧ Below w.heap.size w w' := by
  obtain ⟨f1, f2, f3, f4⟩ := hf
  obtain ⟨⟨_, _⟩, ⟨_, _⟩, ⟨_, _⟩, ⟨_, _⟩⟩ := ha
  have i1 := fl_int f1 (by omega) (by omega)
  have i2 := fl_int f2 (by omega) (by omega)
  have i3 := fl_int f3 (by omega) (by omega)
  have i4 := fl_int f4 (by omega) (by omega)
  have k1 := fun W => run_convert_float_int (P := Try.prog) W 62 3 .f64 .i64 x a.c (by kernel_rfl) Try.underlying3 i1
  have k2 := fun W => run_convert_float_int (P := Try.prog) W 62 3 .f64 .i64 y a.m (by kernel_rfl) Try.underlying3 i2
  have k3 := fun W => run_convert_float_int (P := Try.prog) W 62 3 .f64 .i64 z a.g (by kernel_rfl) Try.underlying3 i3
  have k4 := fun W => run_convert_float_int (P := Try.prog) W 62 3 .f64 .i64 u a.l (by kernel_rfl) Try.underlying3 i4
  clear i1 i2 i3 i4
  go_enter Try.func43, Try.ntmps43
  go_wp2
  refine bodyPost_ret (v := a.val) (by simp [results, Try.results43, go_sem]) rfl ⟨rfl, ?_⟩
  repeat (first | exact Below.refl _ _ | refine Below.alloc ?_ (by first | (simp; done) | (simp; omega)) _ | refine Below.setCell ?_ (by first | (simp; done) | (simp; omega)) _)

set_option maxHeartbeats 1000000 in
theorem within_yesw (x y z u : Nat) (a : Rs) (w : World) (ha : a.wide) (hf : FlR x y z u a) (hok : a.ok) : Calls Try.prog 38 #[pairV x y z u] w fun e w' => e = .returned (.tuple #[a.val, .int .i64 0]) ∧ Below w.heap.size w w' := by
  have ho := okB_yes hok
  obtain ⟨wb, hwb, hbb, k1⟩ := two w x y z u
  go_enter Try.func38, Try.ntmps38
  go_wp2_with fail
  simp only [Rs.obj, Rs.none] at hwb
  rw [hwb]
  clear hwb
  have z0 := k1.lt
  refine (join_wide x y z u a _ ha hf).mono ?_
  rintro e w1 ⟨rfl, hb1⟩
  have z1 := hb1.size
  have k2 : Blk (w1.alloc (a.obj 23)) (w.heap.size + 1) Rs.none := (k1.below hb1 z0).below ((Below.refl w1.heap.size _).alloc (Nat.le_refl _) _) (by omega)
  have ka := Blk.made w1 a
  have hW : Below w.heap.size w (w1.alloc (a.obj 23)) := (hbb.trans (hb1.mono hbb.size)).alloc (by have := hbb.size; omega) _
  go_wp2_with fail
  generalize w1.alloc (a.obj 23) = wx at k2 ka hW ⊢
  refine (right_any a _).mono ?_
  rintro e w2 ⟨rfl, hb2⟩
  have k3 := k2.below hb2 k2.lt
  have k4 := ka.below hb2 ka.lt
  obtain ⟨x0, x1, x2, x3⟩ := k3.held
  obtain ⟨y0, y1, y2, y3⟩ := k4.held
  obtain ⟨f0, f1, f2, f3⟩ := k3.free4
  go_wp2
  have hz := (k3.set a).held
  have hbz := below_set4 (hW.trans (hb2.mono hW.size)) (Nat.le_succ w.heap.size) (.int .i64 a.c) (.int .i64 a.m) (.int .i64 a.g) (.int .i64 a.l)
  generalize ((((w2.setCell ⟨w.heap.size + 1, 0, none⟩ (.int .i64 a.c)).setCell ⟨w.heap.size + 1, 1, none⟩ (.int .i64 a.m)).setCell ⟨w.heap.size + 1, 2, none⟩ (.int .i64 a.g)).setCell ⟨w.heap.size + 1, 3, none⟩ (.int .i64 a.l)) = wz at hz hbz ⊢
  obtain ⟨z0, z1, z2, z3⟩ := hz
  exact bodyPost_ret (v := .tuple #[a.val, .int .i64 0]) (by simp [results, Try.results38, go_sem, z0, z1, z2, z3]) rfl ⟨rfl, hbz⟩
set_option maxHeartbeats 1000000 in
theorem within_now (x y z u : Nat) (a : Rs) (w : World) (ha : a.wide) (hf : FlR x y z u a) (hok : ¬ a.ok) : Calls Try.prog 38 #[pairV x y z u] w fun e w' => e = .returned (.tuple #[Rs.none.val, .int .i64 20]) ∧ Below w.heap.size w w' := by
  have ho := okB_no hok
  obtain ⟨wb, hwb, hbb, k1⟩ := two w x y z u
  go_enter Try.func38, Try.ntmps38
  go_wp2_with fail
  simp only [Rs.obj, Rs.none] at hwb
  rw [hwb]
  clear hwb
  have z0 := k1.lt
  refine (join_wide x y z u a _ ha hf).mono ?_
  rintro e w1 ⟨rfl, hb1⟩
  have z1 := hb1.size
  have k2 : Blk (w1.alloc (a.obj 23)) (w.heap.size + 1) Rs.none := (k1.below hb1 z0).below ((Below.refl w1.heap.size _).alloc (Nat.le_refl _) _) (by omega)
  have ka := Blk.made w1 a
  have hW : Below w.heap.size w (w1.alloc (a.obj 23)) := (hbb.trans (hb1.mono hbb.size)).alloc (by have := hbb.size; omega) _
  go_wp2_with fail
  generalize w1.alloc (a.obj 23) = wx at k2 ka hW ⊢
  refine (right_any a _).mono ?_
  rintro e w2 ⟨rfl, hb2⟩
  have k3 := k2.below hb2 k2.lt
  have k4 := ka.below hb2 ka.lt
  obtain ⟨x0, x1, x2, x3⟩ := k3.held
  obtain ⟨y0, y1, y2, y3⟩ := k4.held
  obtain ⟨f0, f1, f2, f3⟩ := k3.free4
  go_wp2
  have hz := (k3.set Rs.none).held
  have hbz := below_set4 (hW.trans (hb2.mono hW.size)) (Nat.le_succ w.heap.size) (.int .i64 Rs.none.c) (.int .i64 Rs.none.m) (.int .i64 Rs.none.g) (.int .i64 Rs.none.l)
  simp only [Rs.none] at hz hbz
  generalize ((((w2.setCell ⟨w.heap.size + 1, 0, none⟩ (.int .i64 0)).setCell ⟨w.heap.size + 1, 1, none⟩ (.int .i64 0)).setCell ⟨w.heap.size + 1, 2, none⟩ (.int .i64 0)).setCell ⟨w.heap.size + 1, 3, none⟩ (.int .i64 0)) = wz at hz hbz ⊢
  obtain ⟨z0, z1, z2, z3⟩ := hz
  exact bodyPost_ret (v := .tuple #[Rs.none.val, .int .i64 20]) (by simp [results, Try.results38, go_sem, z0, z1, z2, z3, Rs.none]) rfl ⟨rfl, hbz⟩

theorem within_wide (x y z u : Nat) (a : Rs) (w : World) (ha : a.wide) (hf : FlR x y z u a) : Calls Try.prog 38 #[pairV x y z u] w fun e w' => e = .returned (.tuple #[a.outR.val, .int .i64 a.outE]) ∧ Below w.heap.size w w' := by
  by_cases h : a.ok
  · have e1 : a.outR = a := if_pos h
    have e2 : a.outE = 0 := if_pos h
    rw [e1, e2]; exact within_yesw x y z u a w ha hf h
  · have e1 : a.outR = Rs.none := if_neg h
    have e2 : a.outE = 20 := if_neg h
    rw [e1, e2]; exact within_now x y z u a w ha hf h
theorem fl_zero : Fl 0 0 := by
  have h := fl_nearest 0 (by decide)
  have e : FloatKind.nearest .f64 0 = 0 := by decide
  rw [e] at h
  exact h
theorem nat_mul {x n : Int} (hx : okN x) (h0 : 0 ≤ n) (h1 : n ≤ 1048576) : (x * n).natAbs < 2 ^ 53 := by
  have a := Int.mul_nonneg hx.1 h0
  have b := Int.mul_le_mul hx.2 h1 h0 (by omega)
  omega
theorem wide_mul {n : Nat} {x : Int} (hn : n ≤ 1048576) (hx : okN x) : -4000000000000 ≤ (n : Int) * x ∧ (n : Int) * x ≤ 4000000000000 := by
  have a := Int.mul_nonneg (Int.natCast_nonneg n) hx.1
  have b := Int.mul_le_mul (show (n : Int) ≤ 1048576 by omega) hx.2 hx.1 (by omega)
  omega
theorem times_wide {a : Rs} {n : Nat} (h : a.ok) (hn : n ≤ 1048576) : (a.times n).wide := ⟨wide_mul hn h.1, wide_mul hn h.2.1, wide_mul hn h.2.2.1, wide_mul hn h.2.2.2⟩
theorem none_of4 {b : Rs} (h0 : b.c = 0) (h1 : b.m = 0) (h2 : b.g = 0) (h3 : b.l = 0) : b = Rs.none := rs_ext h0 h1 h2 h3
theorem two1 (w : World) (a : Rs) : ∃ wb, (w.alloc (a.obj 23)).alloc (Rs.none.obj 23) = wb ∧ Below w.heap.size w wb ∧ Blk wb w.heap.size a ∧ Blk wb (w.heap.size + 1) Rs.none := by
  refine ⟨_, rfl, ((Below.refl _ _).alloc (Nat.le_refl _) _).alloc (by simp) _, ?_, ?_⟩
  · exact (Blk.made w a).below ((Below.refl (w.heap.size + 1) _).alloc (by simp) _) (by omega)
  · have h := Blk.made (w.alloc (a.obj 23)) Rs.none
    rw [World.size_alloc] at h
    exact h
/-- What Times answers: a vector and an error's number. -/
def timesR (a : Rs) (n : Int) : Rs := if ¬ (a.ok ∧ 0 ≤ n) then Rs.none else if a = Rs.none then Rs.none else if 1048576 < n then Rs.none else (a.times n.toNat).outR
def timesE (a : Rs) (n : Int) : Int := if ¬ (a.ok ∧ 0 ≤ n) then 2 else if a = Rs.none then 0 else if 1048576 < n then 20 else (a.times n.toNat).outE

set_option maxHeartbeats 4000000 in
theorem vtimes_any (a : Rs) (n : Int) (w : World) : Calls Try.prog 23 #[a.val, .int .i64 n] w fun e w' => e = .returned (.tuple #[(timesR a n).val, .int .i64 (timesE a n)]) ∧ Below w.heap.size w w' := by
  obtain ⟨wb, hwb, hbb, k0, k1⟩ := two1 w a
  go_enter Try.func23, Try.ntmps23
  go_upto_region 1 with fail
  simp only [Rs.obj, Rs.none] at hwb
  try rw [hwb]
  clear hwb
  obtain ⟨x0, x1, x2, x3⟩ := k0.held
  go_wp2_with fail
  refine (right_any a _).mono ?_
  rintro e w1 ⟨rfl, hb1⟩
  have hW := hbb.trans (hb1.mono hbb.size)
  have g0 := k0.below hb1 k0.lt
  have g1 := k1.below hb1 k1.lt
  clear x0 x1 x2 x3 k0 k1 hbb hb1
  obtain ⟨x0, x1, x2, x3⟩ := g0.held
  obtain ⟨y0, y1, y2, y3⟩ := g1.held
  obtain ⟨f0, f1, f2, f3⟩ := g1.free4
  have hzn := (g1.set Rs.none).held
  have hbzn := below_set4 hW (show w.heap.size ≤ w.heap.size + 1 by omega) (.int .i64 Rs.none.c) (.int .i64 Rs.none.m) (.int .i64 Rs.none.g) (.int .i64 Rs.none.l)
  simp only [Rs.none] at hzn hbzn
  generalize hwz : ((((w1.setCell ⟨w.heap.size + 1, 0, none⟩ (.int .i64 0)).setCell ⟨w.heap.size + 1, 1, none⟩ (.int .i64 0)).setCell ⟨w.heap.size + 1, 2, none⟩ (.int .i64 0)).setCell ⟨w.heap.size + 1, 3, none⟩ (.int .i64 0)) = wz at hzn hbzn
  have HWZ := Lib.hid hwz
  clear hwz
  have HZN := Lib.hid hzn
  clear hzn
  by_cases ha : a.ok
  rotate_left
  · have oa := okB_no ha
    have e1 : timesR a n = Rs.none := if_pos (fun h => ha h.1)
    have e2 : timesE a n = 2 := if_pos (fun h => ha h.1)
    have E1 := Lib.hid e1
    have E2 := Lib.hid e2
    clear e1 e2
    go_wp2
    rw [HWZ.out, E1.out, E2.out]
    obtain ⟨z0, z1, z2, z3⟩ := HZN.out
    exact bodyPost_ret (v := .tuple #[Rs.none.val, .int .i64 2]) (by simp [results, Try.results23, go_sem, z0, z1, z2, z3, Rs.none]) rfl ⟨rfl, hbzn⟩
  have oa := okB_yes ha
  by_cases hn : n < 0
  · have e1 : timesR a n = Rs.none := if_pos (fun h => by omega)
    have e2 : timesE a n = 2 := if_pos (fun h => by omega)
    have E1 := Lib.hid e1
    have E2 := Lib.hid e2
    clear e1 e2
    go_wp2
    rw [HWZ.out, E1.out, E2.out]
    obtain ⟨z0, z1, z2, z3⟩ := HZN.out
    exact bodyPost_ret (v := .tuple #[Rs.none.val, .int .i64 2]) (by simp [results, Try.results23, go_sem, z0, z1, z2, z3, Rs.none]) rfl ⟨rfl, hbzn⟩
  go_upto_region 3 with fail
  go_cut [18] (fun s wx => s = .bool (decide (a = Rs.none)) ∧ w1 = wx)
  case first =>
    go_wp2_with fail
    all_goals go_meet
    all_goals first
      | exact ⟨by rw [decide_eq_true (none_of4 ‹a.c = 0› ‹a.m = 0› ‹a.g = 0› ‹a.l = 0›)], rfl⟩
      | exact ⟨by rw [decide_eq_false (fun h => ‹¬ a.c = 0› (by rw [h]; rfl))], rfl⟩
      | exact ⟨by rw [decide_eq_false (fun h => ‹¬ a.m = 0› (by rw [h]; rfl))], rfl⟩
      | exact ⟨by rw [decide_eq_false (fun h => ‹¬ a.g = 0› (by rw [h]; rfl))], rfl⟩
      | exact ⟨by rw [decide_eq_false (fun h => ‹¬ a.l = 0› (by rw [h]; rfl))], rfl⟩
  case rest =>
    obtain ⟨rfl, rfl⟩ := hcut
    by_cases h0 : a = Rs.none
    · have e1 : timesR a n = Rs.none := by unfold timesR; rw [if_neg (by simp [ha]; omega), if_pos h0]
      have e2 : timesE a n = 0 := by unfold timesE; rw [if_neg (by simp [ha]; omega), if_pos h0]
      have E1 := Lib.hid e1
      have E2 := Lib.hid e2
      clear e1 e2
      rw [decide_eq_true h0]
      clear h0
      go_wp2
      rw [HWZ.out, E1.out, E2.out]
      obtain ⟨z0, z1, z2, z3⟩ := HZN.out
      exact bodyPost_ret (v := .tuple #[Rs.none.val, .int .i64 0]) (by simp [results, Try.results23, go_sem, z0, z1, z2, z3, Rs.none]) rfl ⟨rfl, hbzn⟩
    rw [decide_eq_false h0]
    by_cases hbig : 1048576 < n
    · have e1 : timesR a n = Rs.none := by unfold timesR; rw [if_neg (by simp [ha]; omega), if_neg h0, if_pos hbig]
      have e2 : timesE a n = 20 := by unfold timesE; rw [if_neg (by simp [ha]; omega), if_neg h0, if_pos hbig]
      have E1 := Lib.hid e1
      have E2 := Lib.hid e2
      clear e1 e2 h0
      go_wp2
      rw [HWZ.out, E1.out, E2.out]
      obtain ⟨z0, z1, z2, z3⟩ := HZN.out
      exact bodyPost_ret (v := .tuple #[Rs.none.val, .int .i64 20]) (by simp [results, Try.results23, go_sem, z0, z1, z2, z3, Rs.none]) rfl ⟨rfl, hbzn⟩
    have e1 : timesR a n = (a.times n.toNat).outR := by unfold timesR; rw [if_neg (by simp [ha]; omega), if_neg h0, if_neg hbig]
    have e2 : timesE a n = (a.times n.toNat).outE := by unfold timesE; rw [if_neg (by simp [ha]; omega), if_neg h0, if_neg hbig]
    have E1 := Lib.hid e1
    have E2 := Lib.hid e2
    clear e1 e2 h0
    clear HZN HWZ hbzn
    obtain ⟨r1, i1, e1, fr1, fi1⟩ := cl_mul (fl_lim ha.lim.1) (fl_lim ha.lim.2.1) (fl_lim (n := n) ⟨by omega, by omega⟩) fl_zero (nat_mul ha.1 (by omega) (by omega)) (nat_mul ha.2.1 (by omega) (by omega))
    obtain ⟨r2, i2, e2, fr2, fi2⟩ := cl_mul (fl_lim ha.lim.2.2.1) (fl_lim ha.lim.2.2.2) (fl_lim (n := n) ⟨by omega, by omega⟩) fl_zero (nat_mul ha.2.2.1 (by omega) (by omega)) (nat_mul ha.2.2.2 (by omega) (by omega))
    have HF : Hid (FlR r1 i1 r2 i2 (a.times n.toNat)) := by
      have en : ((n.toNat : Nat) : Int) = n := by omega
      refine ⟨?_, ?_, ?_, ?_⟩ <;> (simp only [Rs.times]; rw [en, Int.mul_comm]; assumption)
    have s1 := fun W => run_complex_mul (P := Try.prog) W 54 _ _ _ _ _ _ e1
    have s2 := fun W => run_complex_mul (P := Try.prog) W 54 _ _ _ _ _ _ e2
    clear e1 e2 fr1 fi1 fr2 fi2
    go_wp2_with fail
    refine (split_exact a _).mono ?_
    rintro e w2 ⟨rfl, rfl⟩
    obtain ⟨wp, hwp, hbp⟩ : ∃ wp, (w1.alloc (a.obj 23)).alloc a.po = wp ∧ Below w1.heap.size w1 wp := ⟨_, rfl, ((Below.refl _ _).alloc (Nat.le_refl _) _).alloc (by simp) _⟩
    simp only [Rs.obj, Rs.po] at hwp
    rw [hwp]
    clear hwp
    have g2 := g1.below hbp g1.lt
    have hW2 := hW.trans (hbp.mono hW.size)
    clear x0 x1 x2 x3 y0 y1 y2 y3 f0 f1 f2 f3
    go_wp2_with fail
    have g3 : Blk (wp.alloc a.po) (w.heap.size + 1) Rs.none := g2.below ((Below.refl wp.heap.size _).alloc (Nat.le_refl _) _) g2.lt
    have hW3 : Below w.heap.size w (wp.alloc a.po) := hW2.alloc hW2.size _
    generalize wp.alloc a.po = wq at g3 hW3 ⊢
    refine (within_wide r1 i1 r2 i2 (a.times n.toNat) _ (times_wide ha (by omega)) HF.out).mono ?_
    rintro e w5 ⟨rfl, hb5⟩
    have k5 := g3.below hb5 g3.lt
    have hW5 := hW3.trans (hb5.mono hW3.size)
    obtain ⟨x0, x1, x2, x3⟩ := k5.held
    obtain ⟨f0, f1, f2, f3⟩ := k5.free4
    clear s1 s2
    go_wp2
    have hz := (k5.set (a.times n.toNat).outR).held
    have hbz := below_set4 hW5 (show w.heap.size ≤ w.heap.size + 1 by omega) (.int .i64 (a.times n.toNat).outR.c) (.int .i64 (a.times n.toNat).outR.m) (.int .i64 (a.times n.toNat).outR.g) (.int .i64 (a.times n.toNat).outR.l)
    generalize ((((w5.setCell ⟨w.heap.size + 1, 0, none⟩ (.int .i64 (a.times n.toNat).outR.c)).setCell ⟨w.heap.size + 1, 1, none⟩ (.int .i64 (a.times n.toNat).outR.m)).setCell ⟨w.heap.size + 1, 2, none⟩ (.int .i64 (a.times n.toNat).outR.g)).setCell ⟨w.heap.size + 1, 3, none⟩ (.int .i64 (a.times n.toNat).outR.l)) = wz at hz hbz ⊢
    obtain ⟨z0, z1, z2, z3⟩ := hz
    rw [E1.out, E2.out]
    exact bodyPost_ret (v := .tuple #[(a.times n.toNat).outR.val, .int .i64 (a.times n.toNat).outE]) (by simp [results, Try.results23, go_sem, z0, z1, z2, z3]) rfl ⟨rfl, hbz⟩
end Go.Proofs.Ytcgfjobdpcdhhaa
