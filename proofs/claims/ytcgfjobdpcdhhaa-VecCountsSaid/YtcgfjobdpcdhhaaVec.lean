/-
  Contracts of vec.split, vec.join and vec.within: vectors as pairs of complex numbers.
-/
import Derived.Test.YtcgfjobdpcdhhaaRefs
import Derived.Test.YtcgfjobdpcdhhaaFloats
import Derived.Laws.Cover2
import Derived.Laws.Cover3
import Derived.Laws.Entries
namespace Go.Proofs.Ytcgfjobdpcdhhaa
open Go.RowKit Go.BigFrame
set_option linter.unusedVariables false
theorem run_store_complex (P : Program) (w : World) (a : Addr) (m : Mode) (k : FloatKind) (x y : Nat) : (store a (.complex k x y) m).run P w = stored P w a (.complex k x y) m := run_store P w a _ m rfl
attribute [local go_sem] run_store_complex

abbrev cpx (x y : Nat) : Value := .complex .f64 x y
abbrev pairV (x y z u : Nat) : Value := .agg #[cpx x y, cpx z u]
/-- A pair reads as a vector. -/
def FlR (x y z u : Nat) (a : Rs) : Prop := Fl x a.c ∧ Fl y a.m ∧ Fl z a.g ∧ Fl u a.l

/-- What split returns. -/
def SplitOf (w : World) (a : Rs) (e : Ending) (w' : World) : Prop := ∃ x y z u, e = .returned (pairV x y z u) ∧ FlR x y z u a ∧ Below w.heap.size w w'

theorem fl_lim {n : Int} (h : -1000000000000 ≤ n ∧ n ≤ 1000000000000) : Fl (floatOfInt .f64 n) n := fl_nearest n (by omega)
/-- A vector as pairs. -/
abbrev Rs.pv (a : Rs) : Value := pairV (floatOfInt .f64 a.c) (floatOfInt .f64 a.m) (floatOfInt .f64 a.g) (floatOfInt .f64 a.l)
abbrev Rs.po (a : Rs) : Obj := .cells #[cpx (floatOfInt .f64 a.c) (floatOfInt .f64 a.m), cpx (floatOfInt .f64 a.g) (floatOfInt .f64 a.l)] 56
theorem split_exact (a : Rs) (w : World) : Calls Try.prog 37 #[a.val] w fun e w' => e = .returned a.pv ∧ (w.alloc (a.obj 23)).alloc a.po = w' := by
  go_enter Try.func37, Try.ntmps37
  go_wp2
  exact bodyPost_ret (v := a.pv) (by simp [results, Try.results37, go_sem]) rfl ⟨rfl, rfl⟩
set_option maxHeartbeats 1000000 in
theorem join_any (x y z u : Nat) (a : Rs) (w : World) (ha : a.lim) (hf : FlR x y z u a) : Calls Try.prog 43 #[pairV x y z u] w fun e w' => e = .returned a.val ∧ Below w.heap.size w w' := by
  obtain ⟨f1, f2, f3, f4⟩ := hf
  obtain ⟨⟨_, _⟩, ⟨_, _⟩, ⟨_, _⟩, ⟨_, _⟩⟩ := ha
  have i1 := fl_int f1 (by omega) (by omega)
  have i2 := fl_int f2 (by omega) (by omega)
  have i3 := fl_int f3 (by omega) (by omega)
  have i4 := fl_int f4 (by omega) (by omega)
  have k1 := fun W => run_convert_float_int (P := Try.prog) W 62 3 .f64 .i64 x a.c (by kernel_rfl) Try.underlying3 i1
  have k2 := fun W => run_convert_float_int (P := Try.prog) W 62 3 .f64 .i64 y a.m (by kernel_rfl) Try.underlying3 i2
  have k3 := fun W => run_convert_float_int (P := Try.prog) W 62 3 .f64 .i64 z a.g (by kernel_rfl) Try.underlying3 i3
  have k4 := fun W => run_convert_float_int (P := Try.prog) W 62 3 .f64 .i64 u a.l (by kernel_rfl) Try.underlying3 i4
  clear i1 i2 i3 i4
  go_enter Try.func43, Try.ntmps43
  go_wp2
  refine bodyPost_ret (v := a.val) (by simp [results, Try.results43, go_sem]) rfl ⟨rfl, ?_⟩
  repeat (first | exact Below.refl _ _ | refine Below.alloc ?_ (by first | (simp; done) | (simp; omega)) _ | refine Below.setCell ?_ (by first | (simp; done) | (simp; omega)) _)

theorem two (w : World) (x y z u : Nat) : ∃ wb, (w.alloc (.cells #[cpx x y, cpx z u] 56)).alloc (Rs.none.obj 23) = wb ∧ Below w.heap.size w wb ∧ Blk wb (w.heap.size + 1) Rs.none := by
  refine ⟨_, rfl, ((Below.refl _ _).alloc (Nat.le_refl _) _).alloc (by simp) _, ?_⟩
  have h := Blk.made (w.alloc (.cells #[cpx x y, cpx z u] 56)) Rs.none
  rw [World.size_alloc] at h
  exact h
set_option maxHeartbeats 1000000 in
theorem within_yes (x y z u : Nat) (a : Rs) (w : World) (ha : a.lim) (hf : FlR x y z u a) (hok : a.ok) : Calls Try.prog 38 #[pairV x y z u] w fun e w' => e = .returned (.tuple #[a.val, .int .i64 0]) ∧ Below w.heap.size w w' := by
  have ho := okB_yes hok
  obtain ⟨wb, hwb, hbb, k1⟩ := two w x y z u
  go_enter Try.func38, Try.ntmps38
  go_wp2_with fail
  simp only [Rs.obj, Rs.none] at hwb
  rw [hwb]
  clear hwb
  have z0 := k1.lt
  refine (join_any x y z u a _ ha hf).mono ?_
  rintro e w1 ⟨rfl, hb1⟩
  have z1 := hb1.size
  have k2 : Blk (w1.alloc (a.obj 23)) (w.heap.size + 1) Rs.none := (k1.below hb1 z0).below ((Below.refl w1.heap.size _).alloc (Nat.le_refl _) _) (by omega)
  have ka := Blk.made w1 a
  have hW : Below w.heap.size w (w1.alloc (a.obj 23)) := (hbb.trans (hb1.mono hbb.size)).alloc (by have := hbb.size; omega) _
  go_wp2_with fail
  generalize w1.alloc (a.obj 23) = wx at k2 ka hW ⊢
  refine (right_any a _).mono ?_
  rintro e w2 ⟨rfl, hb2⟩
  have k3 := k2.below hb2 k2.lt
  have k4 := ka.below hb2 ka.lt
  obtain ⟨x0, x1, x2, x3⟩ := k3.held
  obtain ⟨y0, y1, y2, y3⟩ := k4.held
  obtain ⟨f0, f1, f2, f3⟩ := k3.free4
  go_wp2
  have hz := (k3.set a).held
  have hbz := below_set4 (hW.trans (hb2.mono hW.size)) (Nat.le_succ w.heap.size) (.int .i64 a.c) (.int .i64 a.m) (.int .i64 a.g) (.int .i64 a.l)
  generalize ((((w2.setCell ⟨w.heap.size + 1, 0, none⟩ (.int .i64 a.c)).setCell ⟨w.heap.size + 1, 1, none⟩ (.int .i64 a.m)).setCell ⟨w.heap.size + 1, 2, none⟩ (.int .i64 a.g)).setCell ⟨w.heap.size + 1, 3, none⟩ (.int .i64 a.l)) = wz at hz hbz ⊢
  obtain ⟨z0, z1, z2, z3⟩ := hz
  exact bodyPost_ret (v := .tuple #[a.val, .int .i64 0]) (by simp [results, Try.results38, go_sem, z0, z1, z2, z3]) rfl ⟨rfl, hbz⟩
set_option maxHeartbeats 1000000 in
theorem within_no (x y z u : Nat) (a : Rs) (w : World) (ha : a.lim) (hf : FlR x y z u a) (hok : ¬ a.ok) : Calls Try.prog 38 #[pairV x y z u] w fun e w' => e = .returned (.tuple #[Rs.none.val, .int .i64 20]) ∧ Below w.heap.size w w' := by
  have ho := okB_no hok
  obtain ⟨wb, hwb, hbb, k1⟩ := two w x y z u
  go_enter Try.func38, Try.ntmps38
  go_wp2_with fail
  simp only [Rs.obj, Rs.none] at hwb
  rw [hwb]
  clear hwb
  have z0 := k1.lt
  refine (join_any x y z u a _ ha hf).mono ?_
  rintro e w1 ⟨rfl, hb1⟩
  have z1 := hb1.size
  have k2 : Blk (w1.alloc (a.obj 23)) (w.heap.size + 1) Rs.none := (k1.below hb1 z0).below ((Below.refl w1.heap.size _).alloc (Nat.le_refl _) _) (by omega)
  have ka := Blk.made w1 a
  have hW : Below w.heap.size w (w1.alloc (a.obj 23)) := (hbb.trans (hb1.mono hbb.size)).alloc (by have := hbb.size; omega) _
  go_wp2_with fail
  generalize w1.alloc (a.obj 23) = wx at k2 ka hW ⊢
  refine (right_any a _).mono ?_
  rintro e w2 ⟨rfl, hb2⟩
  have k3 := k2.below hb2 k2.lt
  have k4 := ka.below hb2 ka.lt
  obtain ⟨x0, x1, x2, x3⟩ := k3.held
  obtain ⟨y0, y1, y2, y3⟩ := k4.held
  obtain ⟨f0, f1, f2, f3⟩ := k3.free4
  go_wp2
  have hz := (k3.set Rs.none).held
  have hbz := below_set4 (hW.trans (hb2.mono hW.size)) (Nat.le_succ w.heap.size) (.int .i64 Rs.none.c) (.int .i64 Rs.none.m) (.int .i64 Rs.none.g) (.int .i64 Rs.none.l)
  simp only [Rs.none] at hz hbz
  generalize ((((w2.setCell ⟨w.heap.size + 1, 0, none⟩ (.int .i64 0)).setCell ⟨w.heap.size + 1, 1, none⟩ (.int .i64 0)).setCell ⟨w.heap.size + 1, 2, none⟩ (.int .i64 0)).setCell ⟨w.heap.size + 1, 3, none⟩ (.int .i64 0)) = wz at hz hbz ⊢
  obtain ⟨z0, z1, z2, z3⟩ := hz
  exact bodyPost_ret (v := .tuple #[Rs.none.val, .int .i64 20]) (by simp [results, Try.results38, go_sem, z0, z1, z2, z3, Rs.none]) rfl ⟨rfl, hbz⟩

def Rs.outR (a : Rs) : Rs := if a.ok then a else Rs.none
def Rs.outE (a : Rs) : Int := if a.ok then 0 else 20
theorem within_any (x y z u : Nat) (a : Rs) (w : World) (ha : a.lim) (hf : FlR x y z u a) : Calls Try.prog 38 #[pairV x y z u] w fun e w' => e = .returned (.tuple #[a.outR.val, .int .i64 a.outE]) ∧ Below w.heap.size w w' := by
  by_cases h : a.ok
  · have e1 : a.outR = a := if_pos h
    have e2 : a.outE = 0 := if_pos h
    rw [e1, e2]; exact within_yes x y z u a w ha hf h
  · have e1 : a.outR = Rs.none := if_neg h
    have e2 : a.outE = 20 := if_neg h
    rw [e1, e2]; exact within_no x y z u a w ha hf h
end Go.Proofs.Ytcgfjobdpcdhhaa
