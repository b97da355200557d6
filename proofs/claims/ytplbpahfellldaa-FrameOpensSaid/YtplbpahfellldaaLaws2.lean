/-
  The walk of the law FrameOpens: it returns true whatever bytes it is given. No condition.
-/
import Derived.Test.YtplbpahfellldaaLaws
namespace Go.Proofs.Ytplbpahfellldaa
open Go.ChangeShapes Go.WideShapes Go.ChangeAt Go.RowKit
set_option linter.unusedVariables false

theorem next_sub (zs : List Int) : (nextZ zs).1.length ≤ zs.length ∧ ∀ x ∈ (nextZ zs).1, x ∈ zs := by
  unfold nextZ
  split
  · simp
  · split
    · simp
    · split
      · simp
      · split
        · simp
        · refine ⟨by simp; omega, fun x hx => List.mem_of_mem_drop (List.mem_of_mem_take hx)⟩
theorem open_sub (zs : List Int) : (openZ zs).1.length ≤ zs.length ∧ ∀ x ∈ (openZ zs).1, x ∈ zs := by
  unfold openZ
  split
  · simp
  · split
    · simp
    · exact next_sub zs
theorem open_none {zs : List Int} (h : (openZ zs).2 ≠ 0) : (openZ zs).1 = [] := by
  unfold openZ at *
  split
  · rfl
  · split
    · rfl
    · rename_i a b
      rw [if_neg a, if_neg b] at h
      exact absurd rfl h

set_option maxHeartbeats 2000000 in
theorem opens_walk (A0 : Option Addr) (c0 : Nat) (zs : List Int) (W : World) (r0 : Row W W.heap.size A0 (bytes zs)) (B0 : IsB zs) (k0 : zs.length ≤ c0) (n0 : zs.length ≤ 9223372036854775807) :
    Calls Try.prog 4 #[.slice A0 zs.length c0] W fun e w' => e = .returned (.bool true) ∧ Below W.heap.size W w' := by
  by_cases a1 : 500 < zs.length
  · go_enter Try.func4, Try.ntmps4
    go_wp2_with (go_at_call 6; refine (awake_any _).mono ?_; rintro e w1 ⟨rfl, hb1⟩)
    go_ret
    exact ⟨rfl, hb1⟩
  have s1 := sameB_refl (openZ zs).1
  have s2 := sameB_refl (nextZ zs).1
  have q1 : ((openZ zs).2 != (openZ zs).2) = false := by simp
  have q2 : ((nextZ zs).2.1 != (nextZ zs).2.1) = false := by simp
  have q3 : ((nextZ zs).2.2 != (nextZ zs).2.2) = false := by simp
  have hlo : (openZ zs).1.length ≤ 3000 := by have := (open_sub zs).1; omega
  have hln : (nextZ zs).1.length ≤ 3000 := by have := (next_sub zs).1; omega
  go_enter Try.func4, Try.ntmps4
  go_wp2_with fail
  refine (awake_any _).mono ?_
  rintro e w1 ⟨rfl, hb1⟩
  have r1 := r0.below hb1
  have z1 := hb1.size
  go_wp2_with fail
  refine (open_any _ _ zs _ _ (by exact r1) B0 (by omega) (by omega) k0).mono ?_
  rintro e w2 ⟨A2, c2, rfl, hc2, p2, hb2⟩
  have z2 := hb2.size
  have hW2 : Below W.heap.size W w2 := hb1.trans (hb2.mono z1)
  have r2 := r0.below hW2
  go_wp2_with fail
  refine (next_any _ _ zs _ _ (by exact r2) B0 (by omega) (by omega) k0).mono ?_
  rintro e w3 ⟨A3, c3, rfl, hc3, p3, hb3⟩
  have z3 := hb3.size
  have hW3 : Below W.heap.size W w3 := hW2.trans (hb3.mono (by omega))
  have r3 := r0.below hW3
  have p23 := p2.below hb3
  go_wp2_with fail
  refine (ropen_any _ _ zs _ _ (by exact r3) B0 (by omega) (by omega) k0).mono ?_
  rintro e w4 ⟨A4, c4, rfl, hc4, p4, hb4⟩
  have z4 := hb4.size
  have hW4 : Below W.heap.size W w4 := hW3.trans (hb4.mono (by omega))
  have r4 := r0.below hW4
  have p24 := (p23.more z3).below hb4
  have p34 := p3.below hb4
  go_wp2_with fail
  refine (rnext_any _ _ zs _ _ (by exact r4) B0 (by omega) (by omega) k0).mono ?_
  rintro e w5 ⟨A5, c5, rfl, hc5, p5, hb5⟩
  have z5 := hb5.size
  have hW5 : Below W.heap.size W w5 := hW4.trans (hb5.mono (by omega))
  have r5 := r0.below hW5
  have p25 := (p24.more z4).below hb5
  have p35 := (p34.more z4).below hb5
  have p45 := p4.below hb5
  go_wp2_with fail
  refine (bytes_any _ _ _ _ _ _ (openZ zs).1 (openZ zs).1 _ (by exact p25) (by exact p45) (by omega) (by omega) (by omega)).mono ?_
  rintro e w6 ⟨rfl, hb6⟩
  have z6 := hb6.size
  have hW6 : Below W.heap.size W w6 := hW5.trans (hb6.mono (by omega))
  have p26 := (p25.more z5).below hb6
  have p36 := (p35.more z5).below hb6
  have p56 := p5.below hb6
  have r6 := r0.below hW6
  go_wp2_with fail
  refine (bytes_any _ _ _ _ _ _ (nextZ zs).1 (nextZ zs).1 _ (by exact p36) (by exact p56) (by omega) (by omega) (by omega)).mono ?_
  rintro e w7 ⟨rfl, hb7⟩
  have z7 := hb7.size
  have hW7 : Below W.heap.size W w7 := hW6.trans (hb7.mono (by omega))
  have p27 := (p26.more z6).below hb7
  have r7 := r0.below hW7
  by_cases h : (openZ zs).2 = 0
  · have q4 : ((openZ zs).2 != 0) = false := by simp [h]
    have hm := Lib.hid (open_made B0 h)
    have hBo : IsB (openZ zs).1 := fun x hx => B0 x ((open_sub zs).2 x hx)
    have hm1 := hm.out.1
    have hm2 := hm.out.2.1
    clear h
    go_wp2_with fail
    refine (make_yes _ _ (openZ zs).1 _ _ (by exact p27) hBo (by omega) (by omega) (by omega)).mono ?_
    rw [hm.out.2.2]
    rintro e w8 ⟨v, rfl, ho8, hb8⟩
    obtain ⟨A8, c8, rfl⟩ := own_form ho8
    have p8 := Row.of_own ho8
    have s3 := sameB_refl zs
    have z8 := hb8.size
    have hW8 : Below W.heap.size W w8 := hW7.trans (hb8.mono (by omega))
    have r8 := r0.below hW8
    go_wp2_with fail
    refine (bytes_any _ _ _ _ _ _ zs zs _ (by exact p8) (by exact r8) (by omega) (by omega) (by omega)).mono ?_
    rintro e w9 ⟨rfl, hb9⟩
    go_wp2
    go_ret
    exact ⟨rfl, hW8.trans (hb9.mono (by omega))⟩
  · have q4 : ((openZ zs).2 != 0) = true := by simp [h]
    have q5 : (((openZ zs).1.length : Int) == 0) = true := by rw [open_none h]; rfl
    clear h
    go_wp2
    go_ret
    exact ⟨rfl, hW7⟩

namespace frameOpens
theorem walk {H : Type} (enc : TypeId × Value → H) (W : World) (base : Nat) (v0 : Value) {d0 : DataW H} {p0 : List MemPlace} (o0 : Value.okWide Try.prog W .any base 22 v0) (h0 : DataW.Trod enc Try.prog W 0 (fun _ => true) true 22 v0 d0 p0) :
    Calls Try.prog 4 #[v0] W fun e w' => e = .returned (.bool true) ∧ Below W.heap.size W w' := by
  obtain ⟨A0, c0, zs, rfl, r0, B0, k0, n0⟩ := open_bytes o0 h0
  exact opens_walk A0 c0 zs W r0 B0 k0 n0
end frameOpens
end Go.Proofs.Ytplbpahfellldaa
