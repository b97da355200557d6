/-
  The walk of the law VecBack.
-/
import Derived.Test.YtcgfjobdpcdhhaaVsums
namespace Go.Proofs.Ytcgfjobdpcdhhaa
open Go.RowKit Go.BigFrame
set_option linter.unusedVariables false

theorem add_sub (a b : Rs) : (a.add b).sub b = a := rs_ext (by simp only [Rs.add, Rs.sub]; omega) (by simp only [Rs.add, Rs.sub]; omega) (by simp only [Rs.add, Rs.sub]; omega) (by simp only [Rs.add, Rs.sub]; omega)
theorem add_comm' (a b : Rs) : b.add a = a.add b := rs_ext (by simp only [Rs.add]; omega) (by simp only [Rs.add]; omega) (by simp only [Rs.add]; omega) (by simp only [Rs.add]; omega)
theorem fits_add {a b : Rs} (hb : b.ok) : a.fits (a.add b) := by
  obtain ⟨⟨_, _⟩, ⟨_, _⟩, ⟨_, _⟩, ⟨_, _⟩⟩ := hb
  refine ⟨?_, ?_, ?_, ?_⟩ <;> (simp only [Rs.add]; omega)
theorem sub_ok_iff {a b : Rs} (ha : a.ok) (hb : b.ok) : (a.sub b).ok ↔ b.fits a := by
  constructor
  · rintro ⟨⟨h0, _⟩, ⟨h1, _⟩, ⟨h2, _⟩, ⟨h3, _⟩⟩
    simp only [Rs.sub] at h0 h1 h2 h3
    exact ⟨by omega, by omega, by omega, by omega⟩
  · exact fun h => sub_ok ha hb h
theorem outR_yes {a : Rs} (h : a.ok) : a.outR = a := if_pos h
theorem outE_yes {a : Rs} (h : a.ok) : a.outE = 0 := if_pos h
theorem outE_no {a : Rs} (h : ¬ a.ok) : a.outE = 20 := if_neg h

/-- The law's end: the difference is there just if one fits the other one. -/
theorem back_end {a b : Rs} (ha : a.ok) (hb : b.ok) : ((a.sub b).outE == 0) = b.fitsB a := by
  by_cases h : b.fits a
  · rw [fitsB_yes h, outE_yes ((sub_ok_iff ha hb).2 h)]; rfl
  · rw [fitsB_no h, outE_no (fun k => h ((sub_ok_iff ha hb).1 k))]; rfl

set_option maxHeartbeats 4000000 in
theorem back_walk (a b : Rs) (w : World) : Calls Try.prog 3 #[a.val, b.val] w fun e w' => e = .returned (.bool true) ∧ Below w.heap.size w w' := by
  obtain ⟨wb, hwb, hbb, k0, k1⟩ := boxes2 w a b
  go_enter Try.func3, Try.ntmps3
  go_upto_region 1 with fail
  simp only [Rs.obj] at hwb
  try rw [hwb]
  clear hwb
  go_wp2_with fail
  refine (vawake_any _).mono ?_
  rintro e w1 ⟨rfl, hb1⟩
  have hW1 := hbb.trans (hb1.mono hbb.size)
  have g0 := k0.below hb1 k0.lt
  have g1 := k1.below hb1 k1.lt
  clear k0 k1 hbb hb1
  obtain ⟨x0, x1, x2, x3⟩ := g0.held
  go_wp2_with fail
  refine (rright_any a _).mono ?_
  rintro e w2 ⟨rfl, hb2⟩
  have hW2 := hW1.trans (hb2.mono hW1.size)
  have i0 := g0.below hb2 g0.lt
  have i1 := g1.below hb2 g1.lt
  clear x0 x1 x2 x3 g0 g1 hW1 hb2
  by_cases ha : a.ok
  rotate_left
  · have oa := okB_no ha
    go_wp2
    go_ret
    exact ⟨rfl, hW2⟩
  have oa := okB_yes ha
  obtain ⟨y0, y1, y2, y3⟩ := i1.held
  go_wp2_with fail
  refine (rright_any b _).mono ?_
  rintro e w3 ⟨rfl, hb3⟩
  have hW3 := hW2.trans (hb3.mono hW2.size)
  have j0 := i0.below hb3 i0.lt
  have j1 := i1.below hb3 i1.lt
  clear y0 y1 y2 y3 i0 i1 hW2 hb3
  by_cases hb : b.ok
  rotate_left
  · have ob := okB_no hb
    go_wp2
    go_ret
    exact ⟨rfl, hW3⟩
  have ob := okB_yes hb
  have HEND := Lib.hid (back_end ha hb)
  obtain ⟨x0, x1, x2, x3⟩ := j0.held
  obtain ⟨y0, y1, y2, y3⟩ := j1.held
  go_wp2_with fail
  by_cases hs : (a.add b).ok
  · refine (vadd_yes a b _ ha hb).mono ?_
    rw [outR_yes hs, outE_yes hs]
    rintro e w4 ⟨rfl, hb4⟩
    have hW4 := hW3.trans (hb4.mono hW3.size)
    have l0 := j0.below hb4 j0.lt
    have l1 := j1.below hb4 j1.lt
    clear x0 x1 x2 x3 y0 y1 y2 y3 j0 j1 hW3 hb4
    go_upto_region 7 with fail
    obtain ⟨u4, hu4, hbu4, ks⟩ : ∃ u, w4.alloc ((a.add b).obj 23) = u ∧ Below w4.heap.size w4 u ∧ Blk u w4.heap.size (a.add b) := ⟨_, rfl, (Below.refl _ _).alloc (Nat.le_refl _) _, Blk.made _ _⟩
    simp only [Rs.obj] at hu4
    rw [hu4]
    clear hu4
    have m0 := l0.below hbu4 l0.lt
    have m1 := l1.below hbu4 l1.lt
    have hV4 := hW4.trans (hbu4.mono hW4.size)
    clear l0 l1 hW4 hbu4
    obtain ⟨x0, x1, x2, x3⟩ := ks.held
    obtain ⟨y0, y1, y2, y3⟩ := m1.held
    go_wp2_with fail
    refine (vsub_yes (a.add b) b _ hs hb).mono ?_
    rw [add_sub, outR_yes ha, outE_yes ha]
    rintro e w5 ⟨rfl, hb5⟩
    have hW5 := hV4.trans (hb5.mono hV4.size)
    have n0 := m0.below hb5 m0.lt
    have n1 := m1.below hb5 m1.lt
    have ns := ks.below hb5 ks.lt
    clear x0 x1 x2 x3 y0 y1 y2 y3 m0 m1 ks hV4 hb5
    go_upto_region 8 with fail
    obtain ⟨u5, hu5, hbu5, kd⟩ : ∃ u, w5.alloc (a.obj 23) = u ∧ Below w5.heap.size w5 u ∧ Blk u w5.heap.size a := ⟨_, rfl, (Below.refl _ _).alloc (Nat.le_refl _) _, Blk.made _ _⟩
    simp only [Rs.obj] at hu5
    rw [hu5]
    clear hu5
    have o0 := n0.below hbu5 n0.lt
    have o1 := n1.below hbu5 n1.lt
    have os := ns.below hbu5 ns.lt
    have hV5 := hW5.trans (hbu5.mono hW5.size)
    clear n0 n1 ns hW5 hbu5
    obtain ⟨x0, x1, x2, x3⟩ := o0.held
    obtain ⟨y0, y1, y2, y3⟩ := o1.held
    go_wp2_with fail
    refine (vadd_yes b a _ hb ha).mono ?_
    rw [add_comm' a b, outR_yes hs, outE_yes hs]
    rintro e w6 ⟨rfl, hb6⟩
    have hW6 := hV5.trans (hb6.mono hV5.size)
    have p0 := o0.below hb6 o0.lt
    have p1 := o1.below hb6 o1.lt
    have ps := os.below hb6 os.lt
    have pd := kd.below hb6 kd.lt
    clear x0 x1 x2 x3 y0 y1 y2 y3 o0 o1 os kd hV5 hb6
    go_upto_region 9 with fail
    obtain ⟨u6, hu6, hbu6, kt⟩ : ∃ u, w6.alloc ((a.add b).obj 23) = u ∧ Below w6.heap.size w6 u ∧ Blk u w6.heap.size (a.add b) := ⟨_, rfl, (Below.refl _ _).alloc (Nat.le_refl _) _, Blk.made _ _⟩
    simp only [Rs.obj] at hu6
    rw [hu6]
    clear hu6
    have q0 := p0.below hbu6 p0.lt
    have q1 := p1.below hbu6 p1.lt
    have qs := ps.below hbu6 ps.lt
    have qd := pd.below hbu6 pd.lt
    have hV6 := hW6.trans (hbu6.mono hW6.size)
    clear p0 p1 ps pd hW6 hbu6
    have hfit := fitsB_yes (fits_add (a := a) hb)
    obtain ⟨x0, x1, x2, x3⟩ := q0.held
    obtain ⟨y0, y1, y2, y3⟩ := qs.held
    obtain ⟨z0, z1, z2, z3⟩ := qd.held
    obtain ⟨t0, t1, t2, t3⟩ := kt.held
    go_wp2_with fail
    refine (fits_any a (a.add b) _).mono ?_
    rintro e w7 ⟨rfl, hb7⟩
    have hW7 := hV6.trans (hb7.mono hV6.size)
    have r0 := q0.below hb7 q0.lt
    have r1 := q1.below hb7 q1.lt
    clear x0 x1 x2 x3 y0 y1 y2 y3 z0 z1 z2 z3 t0 t1 t2 t3 q0 q1 qs qd kt hV6 hb7
    obtain ⟨x0, x1, x2, x3⟩ := r0.held
    obtain ⟨y0, y1, y2, y3⟩ := r1.held
    go_wp2_with fail
    refine (vsub_yes a b _ ha hb).mono ?_
    rintro e w8 ⟨rfl, hb8⟩
    have hW8 := hW7.trans (hb8.mono hW7.size)
    have s0 := r0.below hb8 r0.lt
    have s1 := r1.below hb8 r1.lt
    clear x0 x1 x2 x3 y0 y1 y2 y3 r0 r1 hW7 hb8
    go_upto_region 12 with fail
    obtain ⟨u8, hu8, hbu8⟩ : ∃ u, w8.alloc ((a.sub b).outR.obj 23) = u ∧ Below w8.heap.size w8 u := ⟨_, rfl, (Below.refl _ _).alloc (Nat.le_refl _) _⟩
    simp only [Rs.obj] at hu8
    rw [hu8]
    clear hu8
    have hV8 := hW8.trans (hbu8.mono hW8.size)
    obtain ⟨x0, x1, x2, x3⟩ := (s0.below hbu8 s0.lt).held
    obtain ⟨y0, y1, y2, y3⟩ := (s1.below hbu8 s1.lt).held
    go_wp2_with fail
    refine (fits_any b a _).mono ?_
    rw [← HEND.out]
    rintro e w9 ⟨rfl, hb9⟩
    go_wp2
    go_ret
    exact ⟨retBool (by simp), hV8.trans (hb9.mono hV8.size)⟩
  · refine (vadd_yes a b _ ha hb).mono ?_
    rw [outE_no hs]
    rintro e w7 ⟨rfl, hb4⟩
    have hW4 := hW3.trans (hb4.mono hW3.size)
    have l0 := j0.below hb4 j0.lt
    have l1 := j1.below hb4 j1.lt
    clear x0 x1 x2 x3 y0 y1 y2 y3 j0 j1 hW3 hb4
    go_upto_region 11 with fail
    obtain ⟨u4, hu4, hbu4⟩ : ∃ u, w7.alloc ((a.add b).outR.obj 23) = u ∧ Below w7.heap.size w7 u := ⟨_, rfl, (Below.refl _ _).alloc (Nat.le_refl _) _⟩
    simp only [Rs.obj] at hu4
    rw [hu4]
    clear hu4
    have r0 := l0.below hbu4 l0.lt
    have r1 := l1.below hbu4 l1.lt
    have hW7 := hW4.trans (hbu4.mono hW4.size)
    clear l0 l1 hW4 hbu4
    obtain ⟨x0, x1, x2, x3⟩ := r0.held
    obtain ⟨y0, y1, y2, y3⟩ := r1.held
    go_wp2_with fail
    refine (vsub_yes a b _ ha hb).mono ?_
    rintro e w8 ⟨rfl, hb8⟩
    have hW8 := hW7.trans (hb8.mono hW7.size)
    have s0 := r0.below hb8 r0.lt
    have s1 := r1.below hb8 r1.lt
    clear x0 x1 x2 x3 y0 y1 y2 y3 r0 r1 hW7 hb8
    go_upto_region 12 with fail
    obtain ⟨u8, hu8, hbu8⟩ : ∃ u, w8.alloc ((a.sub b).outR.obj 23) = u ∧ Below w8.heap.size w8 u := ⟨_, rfl, (Below.refl _ _).alloc (Nat.le_refl _) _⟩
    simp only [Rs.obj] at hu8
    rw [hu8]
    clear hu8
    have hV8 := hW8.trans (hbu8.mono hW8.size)
    obtain ⟨x0, x1, x2, x3⟩ := (s0.below hbu8 s0.lt).held
    obtain ⟨y0, y1, y2, y3⟩ := (s1.below hbu8 s1.lt).held
    go_wp2_with fail
    refine (fits_any b a _).mono ?_
    rw [← HEND.out]
    rintro e w9 ⟨rfl, hb9⟩
    go_wp2
    go_ret
    exact ⟨retBool (by simp), hV8.trans (hb9.mono hV8.size)⟩

namespace vecBack
theorem walk {H : Type} (enc : TypeId × Value → H) (W : World) (base : Nat) (v0 v1 : Value) {d0 d1 : DataW H} {p0 p1 : List MemPlace} (o0 : Value.okWide Try.prog W .any base 23 v0) (h0 : DataW.Trod enc Try.prog W 0 (fun _ => true) true 23 v0 d0 p0) (o1 : Value.okWide Try.prog W .any base 23 v1) (h1 : DataW.Trod enc Try.prog W 0 (fun _ => true) true 23 v1 d1 p1) :
    Calls Try.prog 3 #[v0, v1] W fun e w' => e = .returned (.bool true) ∧ Below W.heap.size W w' := by
  obtain ⟨a, rfl⟩ := open_vec o0 h0
  obtain ⟨b, rfl⟩ := open_vec o1 h1
  exact back_walk a b W
end vecBack
end Go.Proofs.Ytcgfjobdpcdhhaa
