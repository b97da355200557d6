/-
  The contracts of vec.Least, the reference's Least, and the law's function told.
-/
import Derived.Test.YtcgfjobdpcdhhaaVec
import Derived.StillTailTactics
namespace Go.Proofs.Ytcgfjobdpcdhhaa
open Go.RowKit Go.BigFrame
set_option linter.unusedVariables false

def low (x y : Int) : Int := if x < y then x else y
def Rs.least (a b : Rs) : Rs := ⟨low a.c b.c, low a.m b.m, low a.g b.g, low a.l b.l⟩
theorem low_any (x y : Int) (w : World) : Calls Try.prog 40 #[.int .i64 x, .int .i64 y] w fun e w' => e = .returned (.int .i64 (low x y)) ∧ w' = w := by
  by_cases h : x < y
  · go_enter Try.func40, Try.ntmps40
    go_wp2
    go_ret
    exact ⟨retInt (if_pos h).symm, rfl⟩
  · go_enter Try.func40, Try.ntmps40
    go_wp2
    go_ret
    exact ⟨retInt (if_neg (by omega)).symm, rfl⟩
theorem three2' (w : World) (a b : Rs) : ∃ wb, ((w.alloc (a.obj 23)).alloc (b.obj 23)).alloc (Rs.none.obj 23) = wb ∧ Below w.heap.size w wb ∧ Blk wb w.heap.size a ∧ Blk wb (w.heap.size + 1) b ∧ Blk wb (w.heap.size + 1 + 1) Rs.none := by
  refine ⟨_, rfl, (((Below.refl _ _).alloc (Nat.le_refl _) _).alloc (by simp) _).alloc (by simp; omega) _, ?_, ?_, ?_⟩
  · exact ((Blk.made w a).below ((Below.refl (w.heap.size + 1) _).alloc (by simp) _) (by omega)).below ((Below.refl (w.heap.size + 1) _).alloc (by simp) _) (by omega)
  · have h := Blk.made (w.alloc (a.obj 23)) b
    rw [World.size_alloc] at h
    exact h.below ((Below.refl (w.heap.size + 2) _).alloc (by simp) _) (by omega)
  · have h := Blk.made ((w.alloc (a.obj 23)).alloc (b.obj 23)) Rs.none
    rw [World.size_alloc, World.size_alloc] at h
    exact h
set_option maxHeartbeats 1000000 in
theorem least_any (a b : Rs) (w : World) : Calls Try.prog 16 #[a.val, b.val] w fun e w' => e = .returned (a.least b).val ∧ Below w.heap.size w w' := by
  go_enter Try.func16, Try.ntmps16
  go_wp2
  all_goals
    refine bodyPost_ret (v := (a.least b).val) (by simp [results, Try.results16, go_sem, Rs.least]; refine ⟨?_, ?_, ?_, ?_⟩ <;> (unfold low; split <;> omega)) rfl ⟨rfl, ?_⟩
    exact (((Below.refl _ _).alloc (Nat.le_refl _) _).alloc (by simp) _).alloc (by simp; omega) _
set_option maxHeartbeats 1000000 in
theorem rleast_any (a b : Rs) (w : World) : Calls Try.prog 17 #[a.val, b.val] w fun e w' => e = .returned (a.least b).val ∧ Below w.heap.size w w' := by
  obtain ⟨wb, hwb, hbb, k0, k1, k2⟩ := three2' w a b
  go_enter Try.func17, Try.ntmps17
  go_upto_region 1 with fail
  simp only [Rs.obj, Rs.none] at hwb
  rw [hwb]
  clear hwb
  obtain ⟨x0, x1, x2, x3⟩ := k0.held
  obtain ⟨y0, y1, y2, y3⟩ := k1.held
  obtain ⟨r0, r1, r2, r3⟩ := k2.held
  obtain ⟨f0, f1, f2, f3⟩ := k2.free4
  refine wp_region_still_tail 21 (by kernel_rfl) (by kernel_rfl) ?_
  simp only [List.take_succ_cons, List.take_zero, List.drop_succ_cons, List.drop_zero]
  repeat (first | still_step | still_call (low_any _ _ _))
  refine wpStill_nil ?_
  change wpList _ _ _ _ _ wb.drew
  go_wp2
  have hz := (k2.set (a.least b)).held
  have hbz := (below_set4 hbb (show w.heap.size ≤ w.heap.size + 1 + 1 by omega) (.int .i64 (a.least b).c) (.int .i64 (a.least b).m) (.int .i64 (a.least b).g) (.int .i64 (a.least b).l)).drew
  simp only [Rs.least] at hz hbz
  generalize ((((wb.setCell ⟨w.heap.size + 1 + 1, 0, none⟩ (.int .i64 (low a.c b.c))).setCell ⟨w.heap.size + 1 + 1, 1, none⟩ (.int .i64 (low a.m b.m))).setCell ⟨w.heap.size + 1 + 1, 2, none⟩ (.int .i64 (low a.g b.g))).setCell ⟨w.heap.size + 1 + 1, 3, none⟩ (.int .i64 (low a.l b.l))) = wz at hz hbz ⊢
  obtain ⟨z0, z1, z2, z3⟩ := hz
  exact bodyPost_ret (v := (a.least b).val) (by simp [results, Try.results17, go_sem, z0, z1, z2, z3, Rs.least]) rfl ⟨rfl, hbz⟩

def Rs.sameB (a b : Rs) : Bool := decide (a = b)
theorem same_yes {a b : Rs} (h : a = b) : a.sameB b = true := decide_eq_true h
theorem same_no {a b : Rs} (h : a ≠ b) : a.sameB b = false := decide_eq_false h
theorem rs_ext {a b : Rs} (h0 : a.c = b.c) (h1 : a.m = b.m) (h2 : a.g = b.g) (h3 : a.l = b.l) : a = b := by
  cases a; cases b; simp at *; omega
/-- What told answers. -/
def toldB (got : Rs) (e : Int) (want : Rs) : Bool := if want.ok then (e == 0) && got.sameB want else (e == 20) && got.sameB Rs.none
set_option maxHeartbeats 1000000 in
theorem told_yes (got want : Rs) (w : World) (e : Int) (hg : got = want.outR) (he : e = want.outE) : Calls Try.prog 18 #[got.val, .int .i64 e, want.val] w fun e w' => e = .returned (.bool true) ∧ Below w.heap.size w w' := by
  by_cases hw : want.ok
  · have e1 : want.outR = want := if_pos hw
    have e2 : want.outE = 0 := if_pos hw
    rw [e1] at hg
    rw [e2] at he
    subst hg he
    clear e1 e2
    have ho := okB_yes hw
    obtain ⟨wb, hwb, hb0, hs, hr, hr2⟩ := boxes w got got
    have HS := Lib.hid hs
    clear hs
    go_enter Try.func18, Try.ntmps18
    go_upto_region 1 with fail
    simp only [Rs.obj] at hwb
    try rw [hwb]
    clear hwb
    obtain ⟨x0, x1, x2, x3⟩ := hr
    obtain ⟨y0, y1, y2, y3⟩ := hr2
    go_wp2_with fail
    refine (rright_any got _).mono ?_
    rintro e w1 ⟨rfl, hb1⟩
    have q0 := (hb1.cell (p := ⟨w.heap.size, 0, none⟩) (by show w.heap.size < _; have := HS.out; omega)).trans x0
    have q1 := (hb1.cell (p := ⟨w.heap.size, 1, none⟩) (by show w.heap.size < _; have := HS.out; omega)).trans x1
    have q2 := (hb1.cell (p := ⟨w.heap.size, 2, none⟩) (by show w.heap.size < _; have := HS.out; omega)).trans x2
    have q3 := (hb1.cell (p := ⟨w.heap.size, 3, none⟩) (by show w.heap.size < _; have := HS.out; omega)).trans x3
    have p0 := (hb1.cell (p := ⟨w.heap.size + 1, 0, none⟩) (by show w.heap.size + 1 < _; have := HS.out; omega)).trans y0
    have p1 := (hb1.cell (p := ⟨w.heap.size + 1, 1, none⟩) (by show w.heap.size + 1 < _; have := HS.out; omega)).trans y1
    have p2 := (hb1.cell (p := ⟨w.heap.size + 1, 2, none⟩) (by show w.heap.size + 1 < _; have := HS.out; omega)).trans y2
    have p3 := (hb1.cell (p := ⟨w.heap.size + 1, 3, none⟩) (by show w.heap.size + 1 < _; have := HS.out; omega)).trans y3
    clear x0 x1 x2 x3 y0 y1 y2 y3
    go_wp2
    go_ret
    exact ⟨rfl, hb0.trans (hb1.mono hb0.size)⟩
  · have e1 : want.outR = Rs.none := if_neg hw
    have e2 : want.outE = 20 := if_neg hw
    rw [e1] at hg
    rw [e2] at he
    subst hg he
    clear e1 e2
    have ho := okB_no hw
    obtain ⟨wb, hwb, hb0, hs, hr, hr2⟩ := boxes w Rs.none want
    have HS := Lib.hid hs
    clear hs
    simp only [Rs.none] at hr ⊢
    go_enter Try.func18, Try.ntmps18
    go_upto_region 1 with fail
    simp only [Rs.obj, Rs.none] at hwb
    try rw [hwb]
    clear hwb
    obtain ⟨x0, x1, x2, x3⟩ := hr
    obtain ⟨y0, y1, y2, y3⟩ := hr2
    go_wp2_with fail
    refine (rright_any want _).mono ?_
    rintro e w1 ⟨rfl, hb1⟩
    have q0 := (hb1.cell (p := ⟨w.heap.size, 0, none⟩) (by show w.heap.size < _; have := HS.out; omega)).trans x0
    have q1 := (hb1.cell (p := ⟨w.heap.size, 1, none⟩) (by show w.heap.size < _; have := HS.out; omega)).trans x1
    have q2 := (hb1.cell (p := ⟨w.heap.size, 2, none⟩) (by show w.heap.size < _; have := HS.out; omega)).trans x2
    have q3 := (hb1.cell (p := ⟨w.heap.size, 3, none⟩) (by show w.heap.size < _; have := HS.out; omega)).trans x3
    clear x0 x1 x2 x3 y0 y1 y2 y3
    go_wp2
    go_ret
    exact ⟨rfl, hb0.trans (hb1.mono hb0.size)⟩
end Go.Proofs.Ytcgfjobdpcdhhaa
