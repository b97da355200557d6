/-
  The walk of the law VecCounts.
-/
import Derived.Test.YtcgfjobdpcdhhaaVback
namespace Go.Proofs.Ytcgfjobdpcdhhaa
open Go.RowKit Go.BigFrame
set_option linter.unusedVariables false

theorem times_none (n : Nat) : Rs.none.times n = Rs.none := by simp [Rs.times, Rs.none]
theorem none_ok : Rs.none.ok := by decide
theorem timesR_small {a : Rs} {n : Nat} (ha : a.ok) (h : n ≤ 1048576) : timesR a n = (a.times n).outR := by
  unfold timesR
  rw [if_neg (by simp [ha])]
  by_cases h0 : a = Rs.none
  · rw [if_pos h0, h0, times_none, outR_yes none_ok]
  · rw [if_neg h0, if_neg (by omega)]; rfl
theorem timesE_small {a : Rs} {n : Nat} (ha : a.ok) (h : n ≤ 1048576) : timesE a n = (a.times n).outE := by
  unfold timesE
  rw [if_neg (by simp [ha])]
  by_cases h0 : a = Rs.none
  · rw [if_pos h0, h0, times_none, outE_yes none_ok]
  · rw [if_neg h0, if_neg (by omega)]; rfl
theorem timesR_no {a : Rs} {n : Int} (h : ¬ (a.ok ∧ 0 ≤ n)) : timesR a n = Rs.none := if_pos h
theorem timesE_no {a : Rs} {n : Int} (h : ¬ (a.ok ∧ 0 ≤ n)) : timesE a n = 2 := if_pos h
theorem times_ok {a f : Rs} {n : Nat} (ha : a.ok) (hf : f.ok) (h : (a.times n).fits f) : (a.times n).ok := by
  obtain ⟨⟨a0, _⟩, ⟨a1, _⟩, ⟨a2, _⟩, ⟨a3, _⟩⟩ := ha
  obtain ⟨⟨_, _⟩, ⟨_, _⟩, ⟨_, _⟩, ⟨_, _⟩⟩ := hf
  obtain ⟨h0, h1, h2, h3⟩ := h
  have b0 := Int.mul_nonneg (Int.natCast_nonneg n) a0
  have b1 := Int.mul_nonneg (Int.natCast_nonneg n) a1
  have b2 := Int.mul_nonneg (Int.natCast_nonneg n) a2
  have b3 := Int.mul_nonneg (Int.natCast_nonneg n) a3
  simp only [Rs.times] at h0 h1 h2 h3
  refine ⟨⟨?_, ?_⟩, ⟨?_, ?_⟩, ⟨?_, ?_⟩, ⟨?_, ?_⟩⟩ <;> (simp only [Rs.times]; omega)
theorem count_pos {f a : Rs} (h : 0 < f.count a) : f.ok ∧ a.ok ∧ a ≠ Rs.none := by
  unfold Rs.count at h
  split at h
  · assumption
  · omega

/-- What is asked at the end, for a count that is not 0. -/
theorem last_facts {f a : Rs} {k : Nat} (hk : f.count a = k) (h0 : 0 < k) : (a.times k).ok ∧ (a.times k).fits f ∧ k ≤ 64 ∧ (k = 64 ∨ ¬ (a.times (k + 1)).ok ∨ ((a.times (k + 1)).ok ∧ ¬ (a.times (k + 1)).fits f)) := by
  obtain ⟨hf, ha, hn⟩ := count_pos (f := f) (a := a) (by omega)
  have hb := count_bound f a
  have h1 := times_fits (f := f) (need := a) (n := k) (by omega) (by omega)
  refine ⟨times_ok ha hf h1, h1, by omega, ?_⟩
  by_cases h64 : k = 64
  · exact .inl h64
  · right
    by_cases hok : (a.times (k + 1)).ok
    · right
      refine ⟨hok, fun h => ?_⟩
      have := (count_step hf ha hn (show k < 64 by omega)).1 h
      omega
    · exact .inl hok

set_option maxHeartbeats 8000000 in
set_option maxRecDepth 100000 in
theorem counts_walk (f a : Rs) (n : Int) (w : World) : Calls Try.prog 5 #[f.val, a.val, .int .i64 n] w fun e w' => e = .returned (.bool true) ∧ Below w.heap.size w w' := by
  obtain ⟨wb, hwb, hbb, k0, k1⟩ := boxes2 w f a
  obtain ⟨c, hc⟩ : ∃ c : Nat, f.count a = c := ⟨(f.count a).toNat, by have := count_bound f a; omega⟩
  have HC := Lib.hid hc
  have hc64 : c ≤ 64 := by have := count_bound f a; omega
  clear hc
  go_enter Try.func5, Try.ntmps5
  go_upto_region 1 with fail
  simp only [Rs.obj] at hwb
  try rw [hwb]
  clear hwb
  go_wp2_with fail
  refine (vawake_any _).mono ?_
  rintro e w1 ⟨rfl, hb1⟩
  have hW1 := hbb.trans (hb1.mono hbb.size)
  have g0 := k0.below hb1 k0.lt
  have g1 := k1.below hb1 k1.lt
  clear k0 k1 hbb hb1
  obtain ⟨x0, x1, x2, x3⟩ := g0.held
  obtain ⟨y0, y1, y2, y3⟩ := g1.held
  go_wp2_with fail
  refine (count_any f a _).mono ?_
  rw [HC.out]
  rintro e w2 ⟨rfl, hb2⟩
  have hW2 := hW1.trans (hb2.mono hW1.size)
  have i0 := g0.below hb2 g0.lt
  have i1 := g1.below hb2 g1.lt
  clear x0 x1 x2 x3 y0 y1 y2 y3 g0 g1 hW1 hb2
  obtain ⟨x0, x1, x2, x3⟩ := i0.held
  obtain ⟨y0, y1, y2, y3⟩ := i1.held
  go_wp2_with fail
  refine (rcount_any f a _).mono ?_
  rw [HC.out]
  rintro e w3 ⟨rfl, hb3⟩
  have hW3 := hW2.trans (hb3.mono hW2.size)
  have j0 := i0.below hb3 i0.lt
  have j1 := i1.below hb3 i1.lt
  clear x0 x1 x2 x3 y0 y1 y2 y3 i0 i1 hW2 hb3
  obtain ⟨y0, y1, y2, y3⟩ := j1.held
  go_wp2_with fail
  by_cases hok : a.ok ∧ 0 ≤ n
  rotate_left
  · refine (vtimes_any a n _).mono ?_
    rw [timesR_no hok, timesE_no hok]
    simp only [Rs.none]
    rintro e w4 ⟨rfl, hb4⟩
    have hW4 := hW3.trans (hb4.mono hW3.size)
    have l1 := j1.below hb4 j1.lt
    clear y0 y1 y2 y3 j0 j1 hW3 hb4
    go_upto_region 7 with fail
    obtain ⟨u4, hu4, hbu4, km⟩ : ∃ u, w4.alloc ((⟨0, 0, 0, 0⟩ : Rs).obj 23) = u ∧ Below w4.heap.size w4 u ∧ Blk u w4.heap.size ⟨0, 0, 0, 0⟩ := ⟨_, rfl, (Below.refl _ _).alloc (Nat.le_refl _) _, Blk.made _ _⟩
    simp only [Rs.obj] at hu4
    rw [hu4]
    clear hu4
    have hV4 := hW4.trans (hbu4.mono hW4.size)
    have m1 := l1.below hbu4 l1.lt
    clear l1 hW4 hbu4
    obtain ⟨y0, y1, y2, y3⟩ := m1.held
    go_wp2_with fail
    refine (rright_any a _).mono ?_
    rintro e w5 ⟨rfl, hb5⟩
    have hW5 := hV4.trans (hb5.mono hV4.size)
    obtain ⟨z0, z1, z2, z3⟩ := (km.below hb5 km.lt).held
    simp only [] at z0 z1 z2 z3
    clear y0 y1 y2 y3 m1 hV4 hb5
    by_cases ha : a.ok
    · have oa := okB_yes ha
      have hn0 : n < 0 := by
        rcases Int.lt_or_le n 0 with h | h
        · exact h
        · exact absurd ⟨ha, h⟩ hok
      clear hok
      go_wp2
      go_ret
      exact ⟨rfl, hW5⟩
    · have oa := okB_no ha
      clear hok
      go_wp2
      go_ret
      exact ⟨rfl, hW5⟩
  obtain ⟨ha, hn0⟩ := hok
  obtain ⟨n, rfl⟩ : ∃ m : Nat, n = m := ⟨n.toNat, by omega⟩
  have oa := okB_yes ha
  have hnd : decide ((n : Int) < 0) = false := by simp
  refine (vtimes_any a n _).mono ?_
  rintro e w4 ⟨rfl, hb4⟩
  have hW4 := hW3.trans (hb4.mono hW3.size)
  have l0 := j0.below hb4 j0.lt
  have l1 := j1.below hb4 j1.lt
  clear y0 y1 y2 y3 j0 j1 hW3 hb4
  go_upto_region 7 with fail
  obtain ⟨u4, hu4, hbu4, km⟩ : ∃ u, w4.alloc ((timesR a n).obj 23) = u ∧ Below w4.heap.size w4 u ∧ Blk u w4.heap.size (timesR a n) := ⟨_, rfl, (Below.refl _ _).alloc (Nat.le_refl _) _, Blk.made _ _⟩
  simp only [Rs.obj] at hu4
  rw [hu4]
  clear hu4
  have hV4 := hW4.trans (hbu4.mono hW4.size)
  have m0 := l0.below hbu4 l0.lt
  have m1 := l1.below hbu4 l1.lt
  clear l0 l1 hW4 hbu4
  obtain ⟨y0, y1, y2, y3⟩ := m1.held
  go_wp2_with fail
  refine (rright_any a _).mono ?_
  rintro e w5 ⟨rfl, hb5⟩
  have hW5 := hV4.trans (hb5.mono hV4.size)
  have o0 := m0.below hb5 m0.lt
  have o1 := m1.below hb5 m1.lt
  have om := km.below hb5 km.lt
  clear y0 y1 y2 y3 m0 m1 km hV4 hb5
  go_upto_if 47 with (fail)
  go_cut [] (fun wx => Blk wx w.heap.size f ∧ Blk wx (w.heap.size + 1) a ∧ Below w.heap.size w wx)
  case first =>
    by_cases h100 : n ≤ 100
    rotate_left
    · go_wp2_with fail
      go_meet
      exact ⟨o0, o1, hW5⟩
    have hn1 : decide (n ≤ 100) = true := by simpa using h100
    have hn2 : decide ((n : Int) ≤ 100) = true := by simp; omega
    rw [hn2]
    have er := timesR_small (n := n) ha (by omega)
    have ee := timesE_small (n := n) ha (by omega)
    have ER := Lib.hid er
    have EE := Lib.hid ee
    clear er ee
    have p0 := o0.lt
    have p1 := o1.lt
    have pm := om.lt
    go_wp2_with fail
    obtain ⟨u5, hu5, hbu5, ka⟩ : ∃ u, w5.alloc ((⟨0, 0, 0, 0⟩ : Rs).obj 23) = u ∧ Below w5.heap.size w5 u ∧ Blk u w5.heap.size ⟨0, 0, 0, 0⟩ := ⟨_, rfl, (Below.refl _ _).alloc (Nat.le_refl _) _, Blk.made _ _⟩
    simp only [Rs.obj] at hu5
    rw [hu5]
    clear hu5
    have hV5 := hW5.trans (hbu5.mono hW5.size)
    have q0 := o0.below hbu5 p0
    have q1 := o1.below hbu5 p1
    have qm := om.below hbu5 pm
    go_loopw [11] (fun i wr => ∃ k : Nat, k ≤ n ∧ i = .int .i64 k ∧ Blk wr w.heap.size f ∧ Blk wr (w.heap.size + 1) a ∧ Blk wr w4.heap.size (timesR a n) ∧ Blk wr w5.heap.size (a.times k) ∧ Below w.heap.size w wr) (fun i _ => n - (intOf i).toNat)
    case atStart => exact ⟨0, Nat.zero_le _, rfl, q0, q1, qm, by rw [times_zero]; exact ka, hV5⟩
    case round =>
      clear q0 q1 qm ka hV5 hbu5
      obtain ⟨k, hk, rfl, q0, q1, qm, ka, hV5⟩ := hrel
      by_cases hlt : k < n
      · have z0 := q0.lt
        have z1 := q1.lt
        have zm := qm.lt
        have za := ka.lt
        obtain ⟨x0, x1, x2, x3⟩ := q1.held
        obtain ⟨y0, y1, y2, y3⟩ := ka.held
        have HT := Lib.hid (times_add a k)
        go_wp2_with fail
        refine (radd_any (a.times k) a _ (times_lim ha (by omega)) ha.lim).mono ?_
        rw [HT.out]
        rintro e w6 ⟨rfl, hb6⟩
        have hW6 := hV5.trans (hb6.mono hV5.size)
        have r0 := q0.below hb6 z0
        have r1 := q1.below hb6 z1
        have rm := qm.below hb6 zm
        have ra := ka.below hb6 za
        clear x0 x1 x2 x3 y0 y1 y2 y3 q0 q1 qm ka
        obtain ⟨y0, y1, y2, y3⟩ := ra.held
        obtain ⟨f0, f1, f2, f3⟩ := ra.free4
        go_wp2
        go_roundw
        case rel =>
          exact ⟨k + 1, by omega, by go_num, r0.other (by omega) _ _ _ _, r1.other (by omega) _ _ _ _, rm.other (by omega) _ _ _ _, ra.set _, below_set4 hW6 (by have := hW5.size; omega) _ _ _ _⟩
        case measure => simp [intOf]; omega
      · obtain rfl : k = n := by omega
        obtain ⟨x0, x1, x2, x3⟩ := qm.held
        obtain ⟨y0, y1, y2, y3⟩ := ka.held
        go_wp2_with fail
        refine (told_yes (timesR a k) (a.times k) _ (timesE a k) ER.out EE.out).mono ?_
        rintro e w6 ⟨rfl, hb6⟩
        have hW6 := hV5.trans (hb6.mono hV5.size)
        have r0 := q0.below hb6 q0.lt
        have r1 := q1.below hb6 q1.lt
        go_wp2_with fail
        go_meet
        exact ⟨r0, r1, hW6⟩
  obtain ⟨r0, r1, hW6⟩ := hcut
  obtain ⟨w6, rfl⟩ : ∃ u : World, u = wc := ⟨_, rfl⟩
  clear o0 o1 om hW5
  by_cases hc0 : c < 1
  · obtain rfl : c = 0 := by omega
    go_wp2
    go_ret
    exact ⟨rfl, hW6⟩
  obtain ⟨l1, l2, _, l3⟩ := last_facts HC.out (by omega)
  have er := timesR_small (n := c) ha (by omega)
  have ee := timesE_small (n := c) ha (by omega)
  rw [outR_yes l1] at er
  rw [outE_yes l1] at ee
  have er' := timesR_small (n := c + 1) ha (by omega)
  have ee' := timesE_small (n := c + 1) ha (by omega)
  have cc : ((c : Int) + 1) = ((c + 1 : Nat) : Int) := by omega
  rw [← cc] at er' ee'
  have CC := Lib.hid cc
  clear cc
  have hcz : ((c : Int) == 0) = false := by simp; omega
  have l2' := fitsB_yes l2
  obtain ⟨y0, y1, y2, y3⟩ := r1.held
  go_wp2_with fail
  refine (vtimes_any a c _).mono ?_
  rw [er, ee]
  clear er ee
  rintro e w7 ⟨rfl, hb7⟩
  have hW7 := hW6.trans (hb7.mono hW6.size)
  have s0 := r0.below hb7 r0.lt
  have s1 := r1.below hb7 r1.lt
  clear y0 y1 y2 y3 r0 r1 hW6 hb7
  have hcl : (c : Int) + 1 ≤ 100 := by omega
  go_upto_region 20 with fail
  obtain ⟨u7, hu7, hbu7, ks⟩ : ∃ u, w7.alloc ((a.times c).obj 23) = u ∧ Below w7.heap.size w7 u ∧ Blk u w7.heap.size (a.times c) := ⟨_, rfl, (Below.refl _ _).alloc (Nat.le_refl _) _, Blk.made _ _⟩
  simp only [Rs.obj] at hu7
  rw [hu7]
  clear hu7
  have hV7 := hW7.trans (hbu7.mono hW7.size)
  have t0 := s0.below hbu7 s0.lt
  have t1 := s1.below hbu7 s1.lt
  clear s0 s1 hW7 hbu7
  obtain ⟨y0, y1, y2, y3⟩ := t1.held
  go_wp2_with fail
  refine (vtimes_any a (c + 1) _).mono ?_
  rw [er', ee']
  clear er' ee'
  rcases l3 with h64 | hno | ⟨hok, hnf⟩
  · subst h64
    rintro e w8 ⟨rfl, hb8⟩
    have hW8 := hV7.trans (hb8.mono hV7.size)
    have z0 := t0.below hb8 t0.lt
    have zs := ks.below hb8 ks.lt
    clear y0 y1 y2 y3 t0 t1 ks hV7 hb8
    go_upto_region 21 with fail
    obtain ⟨u8, hu8, hbu8⟩ : ∃ u, w8.alloc ((a.times (64 + 1)).outR.obj 23) = u ∧ Below w8.heap.size w8 u := ⟨_, rfl, (Below.refl _ _).alloc (Nat.le_refl _) _⟩
    simp only [Rs.obj] at hu8
    rw [hu8]
    clear hu8
    have hV8 := hW8.trans (hbu8.mono hW8.size)
    obtain ⟨x0, x1, x2, x3⟩ := (z0.below hbu8 z0.lt).held
    obtain ⟨y0, y1, y2, y3⟩ := (zs.below hbu8 zs.lt).held
    go_wp2_with fail
    refine (fits_any (a.times 64) f _).mono ?_
    rintro e w9 ⟨rfl, hb9⟩
    go_wp2
    go_ret
    exact ⟨rfl, hV8.trans (hb9.mono hV8.size)⟩
  · rw [outE_no hno]
    rintro e w8 ⟨rfl, hb8⟩
    have hW8 := hV7.trans (hb8.mono hV7.size)
    have z0 := t0.below hb8 t0.lt
    have zs := ks.below hb8 ks.lt
    clear y0 y1 y2 y3 t0 t1 ks hV7 hb8
    go_upto_region 21 with fail
    obtain ⟨u8, hu8, hbu8⟩ : ∃ u, w8.alloc ((a.times (c + 1)).outR.obj 23) = u ∧ Below w8.heap.size w8 u := ⟨_, rfl, (Below.refl _ _).alloc (Nat.le_refl _) _⟩
    simp only [Rs.obj] at hu8
    rw [hu8]
    clear hu8
    have hV8 := hW8.trans (hbu8.mono hW8.size)
    obtain ⟨x0, x1, x2, x3⟩ := (z0.below hbu8 z0.lt).held
    obtain ⟨y0, y1, y2, y3⟩ := (zs.below hbu8 zs.lt).held
    go_wp2_with fail
    refine (fits_any (a.times c) f _).mono ?_
    rintro e w9 ⟨rfl, hb9⟩
    by_cases hq : c < 64
    · have hq' : ((c : Int) == 64) = false := by simp; omega
      go_wp2
      go_ret
      exact ⟨rfl, hV8.trans (hb9.mono hV8.size)⟩
    · obtain rfl : c = 64 := by omega
      go_wp2
      go_ret
      exact ⟨rfl, hV8.trans (hb9.mono hV8.size)⟩
  · rw [outR_yes hok, outE_yes hok]
    have hnf' := fitsB_no hnf
    rintro e w8 ⟨rfl, hb8⟩
    have hW8 := hV7.trans (hb8.mono hV7.size)
    have z0 := t0.below hb8 t0.lt
    have zs := ks.below hb8 ks.lt
    clear y0 y1 y2 y3 t0 t1 ks hV7 hb8
    go_upto_region 21 with fail
    obtain ⟨u8, hu8, hbu8, kn⟩ : ∃ u, w8.alloc ((a.times (c + 1)).obj 23) = u ∧ Below w8.heap.size w8 u ∧ Blk u w8.heap.size (a.times (c + 1)) := ⟨_, rfl, (Below.refl _ _).alloc (Nat.le_refl _) _, Blk.made _ _⟩
    simp only [Rs.obj] at hu8
    rw [hu8]
    clear hu8
    have hV8 := hW8.trans (hbu8.mono hW8.size)
    have v0 := z0.below hbu8 z0.lt
    have vs := zs.below hbu8 zs.lt
    obtain ⟨x0, x1, x2, x3⟩ := v0.held
    obtain ⟨y0, y1, y2, y3⟩ := vs.held
    go_wp2_with fail
    refine (fits_any (a.times c) f _).mono ?_
    rintro e w9 ⟨rfl, hb9⟩
    have hW9 := hV8.trans (hb9.mono hV8.size)
    clear x0 x1 x2 x3 y0 y1 y2 y3
    obtain ⟨x0, x1, x2, x3⟩ := (v0.below hb9 v0.lt).held
    obtain ⟨y0, y1, y2, y3⟩ := (kn.below hb9 kn.lt).held
    by_cases hq : c < 64
    · have hq' : ((c : Int) == 64) = false := by simp; omega
      go_wp2_with fail
      refine (fits_any (a.times (c + 1)) f _).mono ?_
      rintro e w10 ⟨rfl, hb10⟩
      go_wp2
      go_ret
      exact ⟨rfl, hW9.trans (hb10.mono hW9.size)⟩
    · obtain rfl : c = 64 := by omega
      go_wp2
      go_ret
      exact ⟨rfl, hW9⟩

namespace vecCounts
theorem walk {H : Type} (enc : TypeId × Value → H) (W : World) (base : Nat) (v0 v1 v2 : Value) {d0 d1 d2 : DataW H} {p0 p1 p2 : List MemPlace} (o0 : Value.okWide Try.prog W .any base 23 v0) (h0 : DataW.Trod enc Try.prog W 0 (fun _ => true) true 23 v0 d0 p0) (o1 : Value.okWide Try.prog W .any base 23 v1) (h1 : DataW.Trod enc Try.prog W 0 (fun _ => true) true 23 v1 d1 p1) (o2 : Value.okWide Try.prog W .any base 3 v2) (h2 : DataW.Trod enc Try.prog W 0 (fun _ => true) true 3 v2 d2 p2) :
    Calls Try.prog 5 #[v0, v1, v2] W fun e w' => e = .returned (.bool true) ∧ Below W.heap.size W w' := by
  obtain ⟨a, rfl⟩ := open_vec o0 h0
  obtain ⟨b, rfl⟩ := open_vec o1 h1
  obtain ⟨n, rfl, _, _, _⟩ := Go.ChangeShapes.open_int Try.underlying3 o2 h2
  exact counts_walk a b n W
end vecCounts
end Go.Proofs.Ytcgfjobdpcdhhaa
