/-
  The walk of the law VecSums.
-/
import Derived.Test.YtcgfjobdpcdhhaaVawake
import Derived.Test.YtcgfjobdpcdhhaaWants
namespace Go.Proofs.Ytcgfjobdpcdhhaa
open Go.RowKit Go.BigFrame
set_option linter.unusedVariables false

theorem told_at (r : Rs) (w : World) : Calls Try.prog 18 #[r.outR.val, .int .i64 r.outE, r.val] w fun e w' => e = .returned (.bool true) ∧ Below w.heap.size w w' := told_yes _ _ _ _ rfl rfl
set_option maxHeartbeats 4000000 in
theorem sums_yes (a b : Rs) (w : World) (ha : a.ok) (hb : b.ok) : Calls Try.prog 4 #[a.val, b.val] w fun e w' => e = .returned (.bool true) ∧ Below w.heap.size w w' := by
  obtain ⟨wb, hwb, hbb, k0, k1⟩ := boxes2 w a b
  go_enter Try.func4, Try.ntmps4
  go_upto_region 1 with fail
  simp only [Rs.obj] at hwb
  try rw [hwb]
  clear hwb
  go_wp2_with fail
  refine (vawake_any _).mono ?_
  rintro e w1 ⟨rfl, hb1⟩
  have hW1 := hbb.trans (hb1.mono hbb.size)
  have g0 := k0.below hb1 k0.lt
  have g1 := k1.below hb1 k1.lt
  clear k0 k1 hbb hb1
  obtain ⟨x0, x1, x2, x3⟩ := g0.held
  obtain ⟨y0, y1, y2, y3⟩ := g1.held
  go_wp2_with fail
  refine (vadd_yes a b _ ha hb).mono ?_
  rintro e w2 ⟨rfl, hb2⟩
  have hW2 := hW1.trans (hb2.mono hW1.size)
  have j0 := g0.below hb2 g0.lt
  have j1 := g1.below hb2 g1.lt
  clear x0 x1 x2 x3 y0 y1 y2 y3 g0 g1 hW1 hb2
  go_upto_region 4 with fail
  obtain ⟨wc2, hwc2, hbc2, ks⟩ : ∃ u, w2.alloc ((a.add b).outR.obj 23) = u ∧ Below w2.heap.size w2 u ∧ Blk u w2.heap.size (a.add b).outR := ⟨_, rfl, (Below.refl _ _).alloc (Nat.le_refl _) _, Blk.made _ _⟩
  have l0 := j0.below hbc2 j0.lt
  have l1 := j1.below hbc2 j1.lt
  have hW3 := hW2.trans (hbc2.mono hW2.size)
  have t0 := l0.held
  have t1 := l1.held
  simp only [Rs.obj] at hwc2
  rw [hwc2]
  clear hwc2
  obtain ⟨x0, x1, x2, x3⟩ := t0
  obtain ⟨y0, y1, y2, y3⟩ := t1
  go_wp2_with fail
  refine (vsub_yes a b _ ha hb).mono ?_
  rintro e w4 ⟨rfl, hb4⟩
  have hW4 := hW3.trans (hb4.mono hW3.size)
  have m0 := l0.below hb4 l0.lt
  have m1 := l1.below hb4 l1.lt
  have ms := ks.below hb4 ks.lt
  clear x0 x1 x2 x3 y0 y1 y2 y3 l0 l1 ks hW3 hb4 j0 j1 hbc2 hW2
  go_upto_region 5 with fail
  obtain ⟨wc4, hwc4, hbc4, kd⟩ : ∃ u, w4.alloc ((a.sub b).outR.obj 23) = u ∧ Below w4.heap.size w4 u ∧ Blk u w4.heap.size (a.sub b).outR := ⟨_, rfl, (Below.refl _ _).alloc (Nat.le_refl _) _, Blk.made _ _⟩
  have n0 := m0.below hbc4 m0.lt
  have n1 := m1.below hbc4 m1.lt
  have ns := ms.below hbc4 ms.lt
  have hW5 := hW4.trans (hbc4.mono hW4.size)
  clear m0 m1 ms hW4 hbc4
  simp only [Rs.obj] at hwc4
  rw [hwc4]
  clear hwc4
  have c0 : ∀ u : Later wc4, u.val.cell? ⟨w.heap.size, 0, none⟩ = some (.int .i64 a.c) := fun u => (u.cell n0.lt).trans n0.held.1
  have c1 : ∀ u : Later wc4, u.val.cell? ⟨w.heap.size, 1, none⟩ = some (.int .i64 a.m) := fun u => (u.cell n0.lt).trans n0.held.2.1
  have c2 : ∀ u : Later wc4, u.val.cell? ⟨w.heap.size, 2, none⟩ = some (.int .i64 a.g) := fun u => (u.cell n0.lt).trans n0.held.2.2.1
  have c3 : ∀ u : Later wc4, u.val.cell? ⟨w.heap.size, 3, none⟩ = some (.int .i64 a.l) := fun u => (u.cell n0.lt).trans n0.held.2.2.2
  have e0 : ∀ u : Later wc4, u.val.cell? ⟨w.heap.size + 1, 0, none⟩ = some (.int .i64 b.c) := fun u => (u.cell n1.lt).trans n1.held.1
  have e1 : ∀ u : Later wc4, u.val.cell? ⟨w.heap.size + 1, 1, none⟩ = some (.int .i64 b.m) := fun u => (u.cell n1.lt).trans n1.held.2.1
  have e2 : ∀ u : Later wc4, u.val.cell? ⟨w.heap.size + 1, 2, none⟩ = some (.int .i64 b.g) := fun u => (u.cell n1.lt).trans n1.held.2.2.1
  have e3 : ∀ u : Later wc4, u.val.cell? ⟨w.heap.size + 1, 3, none⟩ = some (.int .i64 b.l) := fun u => (u.cell n1.lt).trans n1.held.2.2.2
  refine wp_region_later (by kernel_rfl) (by kernel_rfl) ?_
  repeat (go_big_quiet_step ((first | (go_at_call 14; exact later_of (right_any _ _)) | (go_at_call 10; exact later_of (rright_any _ _)) | (go_at_call 13; exact later_of (fits_any _ _ _)) | (go_at_call 15; exact later_of (rfits_any _ _ _)) | (go_at_call 16; exact later_of (least_any _ _ _)) | (go_at_call 17; exact later_of (rleast_any _ _ _)))))
  refine wpQuiet_nil ?_
  intro w6 hw6
  obtain ⟨⟨w6, hb6⟩, rfl⟩ := hw6
  have hW6 := hW5.trans (hb6.mono hW5.size)
  have o0 := n0.below hb6 n0.lt
  have o1 := n1.below hb6 n1.lt
  have os := ns.below hb6 ns.lt
  have od := kd.below hb6 kd.lt
  clear c0 c1 c2 c3 e0 e1 e2 e3 n0 n1 ns kd hW5 hb6
  obtain ⟨x0, x1, x2, x3⟩ := o0.held
  obtain ⟨y0, y1, y2, y3⟩ := o1.held
  have oa := okB_yes ha
  have ob := okB_yes hb
  go_wp2_with fail
  refine (rright_any a _).mono ?_
  rintro e w7 ⟨rfl, hb7⟩
  have hW7 := hW6.trans (hb7.mono hW6.size)
  have r0 := o0.below hb7 o0.lt
  have r1 := o1.below hb7 o1.lt
  have r2 := os.below hb7 os.lt
  have r3 := od.below hb7 od.lt
  clear x0 x1 x2 x3 y0 y1 y2 y3
  obtain ⟨y0, y1, y2, y3⟩ := r1.held
  go_wp2_with fail
  refine (rright_any b _).mono ?_
  rintro e w8 ⟨rfl, hb8⟩
  have hW8 := hW7.trans (hb8.mono hW7.size)
  have s0 := r0.below hb8 r0.lt
  have s1 := r1.below hb8 r1.lt
  have s2 := r2.below hb8 r2.lt
  have s3 := r3.below hb8 r3.lt
  clear y0 y1 y2 y3 o0 o1 os od r0 r1 r2 r3
  have c0 : ∀ u : Later w8, u.val.cell? ⟨w.heap.size, 0, none⟩ = some (.int .i64 a.c) := fun u => (u.cell s0.lt).trans s0.held.1
  have c1 : ∀ u : Later w8, u.val.cell? ⟨w.heap.size, 1, none⟩ = some (.int .i64 a.m) := fun u => (u.cell s0.lt).trans s0.held.2.1
  have c2 : ∀ u : Later w8, u.val.cell? ⟨w.heap.size, 2, none⟩ = some (.int .i64 a.g) := fun u => (u.cell s0.lt).trans s0.held.2.2.1
  have c3 : ∀ u : Later w8, u.val.cell? ⟨w.heap.size, 3, none⟩ = some (.int .i64 a.l) := fun u => (u.cell s0.lt).trans s0.held.2.2.2
  have e0 : ∀ u : Later w8, u.val.cell? ⟨w.heap.size + 1, 0, none⟩ = some (.int .i64 b.c) := fun u => (u.cell s1.lt).trans s1.held.1
  have e1 : ∀ u : Later w8, u.val.cell? ⟨w.heap.size + 1, 1, none⟩ = some (.int .i64 b.m) := fun u => (u.cell s1.lt).trans s1.held.2.1
  have e2 : ∀ u : Later w8, u.val.cell? ⟨w.heap.size + 1, 2, none⟩ = some (.int .i64 b.g) := fun u => (u.cell s1.lt).trans s1.held.2.2.1
  have e3 : ∀ u : Later w8, u.val.cell? ⟨w.heap.size + 1, 3, none⟩ = some (.int .i64 b.l) := fun u => (u.cell s1.lt).trans s1.held.2.2.2
  have p0 : ∀ u : Later w8, u.val.cell? ⟨w2.heap.size, 0, none⟩ = some (.int .i64 (a.add b).outR.c) := fun u => (u.cell s2.lt).trans s2.held.1
  have p1 : ∀ u : Later w8, u.val.cell? ⟨w2.heap.size, 1, none⟩ = some (.int .i64 (a.add b).outR.m) := fun u => (u.cell s2.lt).trans s2.held.2.1
  have p2 : ∀ u : Later w8, u.val.cell? ⟨w2.heap.size, 2, none⟩ = some (.int .i64 (a.add b).outR.g) := fun u => (u.cell s2.lt).trans s2.held.2.2.1
  have p3 : ∀ u : Later w8, u.val.cell? ⟨w2.heap.size, 3, none⟩ = some (.int .i64 (a.add b).outR.l) := fun u => (u.cell s2.lt).trans s2.held.2.2.2
  have q0 : ∀ u : Later w8, u.val.cell? ⟨w4.heap.size, 0, none⟩ = some (.int .i64 (a.sub b).outR.c) := fun u => (u.cell s3.lt).trans s3.held.1
  have q1 : ∀ u : Later w8, u.val.cell? ⟨w4.heap.size, 1, none⟩ = some (.int .i64 (a.sub b).outR.m) := fun u => (u.cell s3.lt).trans s3.held.2.1
  have q2 : ∀ u : Later w8, u.val.cell? ⟨w4.heap.size, 2, none⟩ = some (.int .i64 (a.sub b).outR.g) := fun u => (u.cell s3.lt).trans s3.held.2.2.1
  have q3 : ∀ u : Later w8, u.val.cell? ⟨w4.heap.size, 3, none⟩ = some (.int .i64 (a.sub b).outR.l) := fun u => (u.cell s3.lt).trans s3.held.2.2.2
  go_wp2_with fail
  refine wp_region_later (by kernel_rfl) (by kernel_rfl) ?_
  repeat (go_big_quiet_step ((first | (go_at_call 19; exact later_of (radd_any a b _ ha.lim hb.lim)) | (go_at_call 20; exact later_of (rsub_any a b _ ha.lim hb.lim)) | (go_at_call 18; first | with_reducible exact later_of (told_at (a.add b) _) | with_reducible exact later_of (told_at (a.sub b) _)))))
  refine wpQuiet_nil ?_
  intro w9 hw9
  obtain ⟨⟨w9, hb9⟩, rfl⟩ := hw9
  go_wp2
  go_ret
  exact ⟨rfl, hW8.trans (hb9.mono hW8.size)⟩
set_option maxHeartbeats 4000000 in
theorem sums_no (a b : Rs) (w : World) (hno : ¬ (a.ok ∧ b.ok)) : Calls Try.prog 4 #[a.val, b.val] w fun e w' => e = .returned (.bool true) ∧ Below w.heap.size w w' := by
  obtain ⟨wb, hwb, hbb, k0, k1⟩ := boxes2 w a b
  go_enter Try.func4, Try.ntmps4
  go_upto_region 1 with fail
  simp only [Rs.obj] at hwb
  try rw [hwb]
  clear hwb
  go_wp2_with fail
  refine (vawake_any _).mono ?_
  rintro e w1 ⟨rfl, hb1⟩
  have hW1 := hbb.trans (hb1.mono hbb.size)
  have g0 := k0.below hb1 k0.lt
  have g1 := k1.below hb1 k1.lt
  clear k0 k1 hbb hb1
  obtain ⟨x0, x1, x2, x3⟩ := g0.held
  obtain ⟨y0, y1, y2, y3⟩ := g1.held
  go_wp2_with fail
  refine (vadd_no a b _ hno).mono ?_
  simp only [Rs.none]
  rintro e w2 ⟨rfl, hb2⟩
  have hW2 := hW1.trans (hb2.mono hW1.size)
  have j0 := g0.below hb2 g0.lt
  have j1 := g1.below hb2 g1.lt
  clear x0 x1 x2 x3 y0 y1 y2 y3 g0 g1 hW1 hb2
  go_upto_region 4 with fail
  obtain ⟨wc2, hwc2, hbc2, ks⟩ : ∃ u, w2.alloc ((⟨0, 0, 0, 0⟩ : Rs).obj 23) = u ∧ Below w2.heap.size w2 u ∧ Blk u w2.heap.size ⟨0, 0, 0, 0⟩ := ⟨_, rfl, (Below.refl _ _).alloc (Nat.le_refl _) _, Blk.made _ _⟩
  have l0 := j0.below hbc2 j0.lt
  have l1 := j1.below hbc2 j1.lt
  have hW3 := hW2.trans (hbc2.mono hW2.size)
  have t0 := l0.held
  have t1 := l1.held
  simp only [Rs.obj] at hwc2
  rw [hwc2]
  clear hwc2
  obtain ⟨x0, x1, x2, x3⟩ := t0
  obtain ⟨y0, y1, y2, y3⟩ := t1
  go_wp2_with fail
  refine (vsub_no a b _ hno).mono ?_
  simp only [Rs.none]
  rintro e w4 ⟨rfl, hb4⟩
  have hW4 := hW3.trans (hb4.mono hW3.size)
  have m0 := l0.below hb4 l0.lt
  have m1 := l1.below hb4 l1.lt
  have ms := ks.below hb4 ks.lt
  clear x0 x1 x2 x3 y0 y1 y2 y3 l0 l1 ks hW3 hb4 j0 j1 hbc2 hW2
  go_upto_region 5 with fail
  obtain ⟨wc4, hwc4, hbc4, kd⟩ : ∃ u, w4.alloc ((⟨0, 0, 0, 0⟩ : Rs).obj 23) = u ∧ Below w4.heap.size w4 u ∧ Blk u w4.heap.size ⟨0, 0, 0, 0⟩ := ⟨_, rfl, (Below.refl _ _).alloc (Nat.le_refl _) _, Blk.made _ _⟩
  have n0 := m0.below hbc4 m0.lt
  have n1 := m1.below hbc4 m1.lt
  have ns := ms.below hbc4 ms.lt
  have hW5 := hW4.trans (hbc4.mono hW4.size)
  clear m0 m1 ms hW4 hbc4
  simp only [Rs.obj] at hwc4
  rw [hwc4]
  clear hwc4
  have c0 : ∀ u : Later wc4, u.val.cell? ⟨w.heap.size, 0, none⟩ = some (.int .i64 a.c) := fun u => (u.cell n0.lt).trans n0.held.1
  have c1 : ∀ u : Later wc4, u.val.cell? ⟨w.heap.size, 1, none⟩ = some (.int .i64 a.m) := fun u => (u.cell n0.lt).trans n0.held.2.1
  have c2 : ∀ u : Later wc4, u.val.cell? ⟨w.heap.size, 2, none⟩ = some (.int .i64 a.g) := fun u => (u.cell n0.lt).trans n0.held.2.2.1
  have c3 : ∀ u : Later wc4, u.val.cell? ⟨w.heap.size, 3, none⟩ = some (.int .i64 a.l) := fun u => (u.cell n0.lt).trans n0.held.2.2.2
  have e0 : ∀ u : Later wc4, u.val.cell? ⟨w.heap.size + 1, 0, none⟩ = some (.int .i64 b.c) := fun u => (u.cell n1.lt).trans n1.held.1
  have e1 : ∀ u : Later wc4, u.val.cell? ⟨w.heap.size + 1, 1, none⟩ = some (.int .i64 b.m) := fun u => (u.cell n1.lt).trans n1.held.2.1
  have e2 : ∀ u : Later wc4, u.val.cell? ⟨w.heap.size + 1, 2, none⟩ = some (.int .i64 b.g) := fun u => (u.cell n1.lt).trans n1.held.2.2.1
  have e3 : ∀ u : Later wc4, u.val.cell? ⟨w.heap.size + 1, 3, none⟩ = some (.int .i64 b.l) := fun u => (u.cell n1.lt).trans n1.held.2.2.2
  refine wp_region_later (by kernel_rfl) (by kernel_rfl) ?_
  repeat (go_big_quiet_step ((first | (go_at_call 14; exact later_of (right_any _ _)) | (go_at_call 10; exact later_of (rright_any _ _)) | (go_at_call 13; exact later_of (fits_any _ _ _)) | (go_at_call 15; exact later_of (rfits_any _ _ _)) | (go_at_call 16; exact later_of (least_any _ _ _)) | (go_at_call 17; exact later_of (rleast_any _ _ _)))))
  refine wpQuiet_nil ?_
  intro w6 hw6
  obtain ⟨⟨w6, hb6⟩, rfl⟩ := hw6
  have hW6 := hW5.trans (hb6.mono hW5.size)
  have o0 := n0.below hb6 n0.lt
  have o1 := n1.below hb6 n1.lt
  have os := ns.below hb6 ns.lt
  have od := kd.below hb6 kd.lt
  clear c0 c1 c2 c3 e0 e1 e2 e3 n0 n1 ns kd hW5 hb6
  obtain ⟨x0, x1, x2, x3⟩ := o0.held
  obtain ⟨y0, y1, y2, y3⟩ := o1.held
  obtain ⟨p0, p1, p2, p3⟩ := os.held
  obtain ⟨q0, q1, q2, q3⟩ := od.held
  simp only [] at p0 p1 p2 p3 q0 q1 q2 q3
  by_cases ha : a.ok
  · have oa := okB_yes ha
    have ob := okB_no (fun h => hno ⟨ha, h⟩)
    go_wp2_with fail
    refine (rright_any a _).mono ?_
    rintro e w7 ⟨rfl, hb7⟩
    have hW7 := hW6.trans (hb7.mono hW6.size)
    have r1 := o1.below hb7 o1.lt
    have r2 := os.below hb7 os.lt
    have r3 := od.below hb7 od.lt
    clear x0 x1 x2 x3 y0 y1 y2 y3 p0 p1 p2 p3 q0 q1 q2 q3
    obtain ⟨y0, y1, y2, y3⟩ := r1.held
    go_wp2_with fail
    refine (rright_any b _).mono ?_
    rintro e w8 ⟨rfl, hb8⟩
    have hW8 := hW7.trans (hb8.mono hW7.size)
    have s2 := r2.below hb8 r2.lt
    have s3 := r3.below hb8 r3.lt
    clear y0 y1 y2 y3
    obtain ⟨p0, p1, p2, p3⟩ := s2.held
    obtain ⟨q0, q1, q2, q3⟩ := s3.held
    simp only [] at p0 p1 p2 p3 q0 q1 q2 q3
    go_wp2
    go_ret
    exact ⟨rfl, hW8⟩
  · have oa := okB_no ha
    go_wp2_with fail
    refine (rright_any a _).mono ?_
    rintro e w7 ⟨rfl, hb7⟩
    have hW7 := hW6.trans (hb7.mono hW6.size)
    have r2 := os.below hb7 os.lt
    have r3 := od.below hb7 od.lt
    clear x0 x1 x2 x3 y0 y1 y2 y3 p0 p1 p2 p3 q0 q1 q2 q3
    obtain ⟨p0, p1, p2, p3⟩ := r2.held
    obtain ⟨q0, q1, q2, q3⟩ := r3.held
    simp only [] at p0 p1 p2 p3 q0 q1 q2 q3
    go_wp2
    go_ret
    exact ⟨rfl, hW7⟩

section
open Go.ChangeShapes Go.WideShapes Go.ChangeAt Go.Deep Go.Joins
/-- An argument that is a vector. -/
theorem open_vec {H : Type} {enc : TypeId × Value → H} {W : World} {base : Nat} {v : Value} {d : DataW H} {p : List MemPlace} (o : Value.okWide Try.prog W .any base 23 v) (h : DataW.Trod enc Try.prog W 0 (fun _ => true) true 23 v d p) : ∃ a : Rs, v = a.val := by
  obtain ⟨cs, rfl, hsz⟩ := okWide_struct Try.underlying23 o
  obtain ⟨c0, c1, c2, c3, rfl⟩ := array4 (hsz.trans cells23)
  obtain ⟨fuel, hf⟩ := h
  obtain ⟨a, ha⟩ := open_rs1 hf
  simp [Rs.cs] at ha
  obtain ⟨rfl, rfl, rfl, rfl⟩ := ha
  exact ⟨a, rfl⟩
end

namespace vecSums
theorem walk {H : Type} (enc : TypeId × Value → H) (W : World) (base : Nat) (v0 v1 : Value) {d0 d1 : DataW H} {p0 p1 : List MemPlace} (o0 : Value.okWide Try.prog W .any base 23 v0) (h0 : DataW.Trod enc Try.prog W 0 (fun _ => true) true 23 v0 d0 p0) (o1 : Value.okWide Try.prog W .any base 23 v1) (h1 : DataW.Trod enc Try.prog W 0 (fun _ => true) true 23 v1 d1 p1) :
    Calls Try.prog 4 #[v0, v1] W fun e w' => e = .returned (.bool true) ∧ Below W.heap.size W w' := by
  obtain ⟨a, rfl⟩ := open_vec o0 h0
  obtain ⟨b, rfl⟩ := open_vec o1 h1
  by_cases h : a.ok ∧ b.ok
  · exact sums_yes a b W h.1 h.2
  · exact sums_no a b W h
end vecSums
end Go.Proofs.Ytcgfjobdpcdhhaa
