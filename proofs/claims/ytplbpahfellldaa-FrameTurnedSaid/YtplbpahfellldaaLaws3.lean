/-
  The walk of the law FrameTurned: it returns true whatever bytes it is given. No condition.
-/
import Derived.Test.YtplbpahfellldaaLaws
namespace Go.Proofs.Ytplbpahfellldaa
open Go.ChangeShapes Go.WideShapes Go.ChangeAt Go.RowKit
set_option linter.unusedVariables false

theorem open_at (A : Option Addr) (cap n : Nat) (zs : List Int) (w : World) (B : Nat) (hl : zs.length = n) (hr : Row w B A (bytes zs)) (hB : IsB zs) (hb : B ≤ w.heap.size) (hn : n ≤ 3000) (hcap : n ≤ cap) :
    Calls Try.prog 8 #[.slice A n cap] w (Open2 w (openZ zs).1 (openZ zs).2) := by
  subst hl; exact open_any A cap zs w B hr hB hb hn hcap

set_option maxHeartbeats 2000000 in
theorem turned_walk (A0 : Option Addr) (c0 : Nat) (zs : List Int) (at_ c : Int) (W : World) (r0 : Row W W.heap.size A0 (bytes zs)) (B0 : IsB zs) (k0 : zs.length ≤ c0) (n0 : zs.length ≤ 9223372036854775807) (ha : 0 ≤ at_ ∧ at_ ≤ 255) (hc : 0 ≤ c ∧ c ≤ 255) :
    Calls Try.prog 5 #[.slice A0 zs.length c0, .int .u8 at_, .int .u8 c] W fun e w' => e = .returned (.bool true) ∧ Below W.heap.size W w' := by
  by_cases a3 : zs.length < 1
  · go_enter Try.func5, Try.ntmps5
    go_wp2_with (go_at_call 6; refine (awake_any _).mono ?_; rintro e w1 ⟨rfl, hb1⟩)
    go_ret
    exact ⟨rfl, hb1⟩
  by_cases a4 : 240 < zs.length
  · go_enter Try.func5, Try.ntmps5
    go_wp2_with (go_at_call 6; refine (awake_any _).mono ?_; rintro e w1 ⟨rfl, hb1⟩)
    go_ret
    exact ⟨rfl, hb1⟩
  obtain ⟨k, hk⟩ : ∃ k : Nat, at_ % (zs.length : Int) = (k : Int) := ⟨(at_ % (zs.length : Int)).toNat, by have := Int.emod_nonneg at_ (show (zs.length : Int) ≠ 0 by omega); omega⟩
  have hk2 : k < zs.length := by
    have := Int.emod_lt_of_pos at_ (show (0 : Int) < zs.length by omega); omega
  have HFL := Lib.hid (frame_len zs)
  have hx := B0.at_ k hk2
  obtain ⟨b, off, rfl, hbB, hcell⟩ := r0.get hk2
  go_enter Try.func5, Try.ntmps5
  go_wp2_with fail
  refine (awake_any _).mono ?_
  rintro e w1 ⟨rfl, hb1⟩
  have r1 := r0.below hb1
  have z1 := hb1.size
  go_wp2_with fail
  refine (make_yes _ _ zs _ _ (by exact r1) B0 (by omega) (by omega) (by omega)).mono ?_
  rintro e w2 ⟨v, rfl, ho2, hb2⟩
  rw [HFL.out] at ho2
  obtain ⟨g, c2, rfl⟩ : ∃ g c2, v = .slice (some ⟨g, 0, none⟩) (zs.length + 3) c2 := by
    rcases ho2.2 with ⟨rfl, hn⟩ | ⟨g, cap, cur, rfl, _⟩
    · omega
    · exact ⟨g, cap, rfl⟩
  have hW2 : Below W.heap.size W w2 := hb1.trans (hb2.mono z1)
  have hcell2 : w2.cell? ⟨b, off + k, none⟩ = some (.int .u8 zs[k]) := (hW2.cell hbB).trans hcell
  have hq : (((zs.length + 3 : Nat) : Int) != (zs.length : Int) + 3) = false := by simp
  by_cases hm : zs[k] % 251 = c % 251
  · have hmq : (zs[k] % 251 == c % 251) = true := by simp [hm]
    clear hm
    go_wp2_with fail
    go_ret
    exact ⟨rfl, hW2⟩
  · have hmq : (zs[k] % 251 == c % 251) = false := by simp [hm]
    have hot := Lib.hid (open_turned zs (by omega) (by omega) k hk2 c hm)
    clear hm
    have hsl : Hid (((frameZ zs).set (k + 2) c).length = zs.length + 3) := by show _ = _; rw [List.length_set, HFL.out]
    have hst := ho2.stored (k + 2) (.int .u8 c)
    have hset : Hid (bytes ((frameZ zs).set (k + 2) c) = (bytes (frameZ zs)).set (k + 2) (.int .u8 c)) := by show _ = _; rw [bytes, List.map_set]
    have hfr := ho2.frozenAt (k + 2)
    have hca : w2.cell? ⟨g, k + 2, none⟩ = some (.int .u8 ((frameZ zs).getD (k + 2) 0)) := by
      rw [World.ownsRow.cellAt ho2 (k + 2) (by omega)]
      have : k + 2 < (frameZ zs).length := by rw [HFL.out]; omega
      simp [List.getD, List.getElem?_eq_getElem this]
    have hgl := (ho2.lt g rfl).1
    obtain ⟨hst1, hst2⟩ := hst
    have hi2 : ((k : Int) + 2).toNat = k + 2 := by omega
    have hk4 : (k : Int) + 2 < ((zs.length + 3 : Nat) : Int) := by omega
    have hB2 : IsB ((frameZ zs).set (k + 2) c) := by
      intro x hx
      rcases List.mem_or_eq_of_mem_set hx with h | h
      · exact isB_frame B0 (by omega) x h
      · omega
    have hW3 : Below W.heap.size W (w2.setCell ⟨g, k + 2, none⟩ (.int .u8 c)) := hW2.setCell (by show W.heap.size ≤ g; omega) _
    have hc2 := own_cap ho2
    have HR := Lib.hid (Row.of_own hst1)
    rw [← hset.out] at HR
    clear hst1 hst2 ho2
    go_wp2_with fail
    refine (open_at _ _ _ ((frameZ zs).set (k + 2) c) _ _ hsl.out (by exact HR.out) hB2 (by simp) (by omega) (by omega)).mono ?_
    rw [hot.out]
    rintro e w4 ⟨A4, c4, rfl, _, _, hb4⟩
    go_wp2
    go_ret
    exact ⟨rfl, hW3.trans (hb4.mono (by simp; have := hW2.size; omega))⟩

theorem cell_byte {H : Type} {enc : TypeId × Value → H} {W : World} {base : Nat} {v : Value} {d : DataW H} {p : List MemPlace} (o : Value.okWide Try.prog W .any base 5 v) (h : DataW.Trod enc Try.prog W 0 (fun _ => true) true 5 v d p) :
    ∃ x : Int, v = .int .u8 x ∧ 0 ≤ x ∧ x ≤ 255 := by
  obtain ⟨x, rfl, _, _, wx⟩ := open_int Try.underlying5 o h
  exact ⟨x, rfl, bounds_u8 wx⟩
namespace frameTurned
theorem walk {H : Type} (enc : TypeId × Value → H) (W : World) (base : Nat) (v0 v1 v2 : Value) {d0 d1 d2 : DataW H} {p0 p1 p2 : List MemPlace} (o0 : Value.okWide Try.prog W .any base 22 v0) (h0 : DataW.Trod enc Try.prog W 0 (fun _ => true) true 22 v0 d0 p0) (o1 : Value.okWide Try.prog W .any base 5 v1) (h1 : DataW.Trod enc Try.prog W 0 (fun _ => true) true 5 v1 d1 p1) (o2 : Value.okWide Try.prog W .any base 5 v2) (h2 : DataW.Trod enc Try.prog W 0 (fun _ => true) true 5 v2 d2 p2) :
    Calls Try.prog 5 #[v0, v1, v2] W fun e w' => e = .returned (.bool true) ∧ Below W.heap.size W w' := by
  obtain ⟨A0, c0, zs, rfl, r0, B0, k0, n0⟩ := open_bytes o0 h0
  obtain ⟨x, rfl, hx⟩ := cell_byte o1 h1
  obtain ⟨y, rfl, hy⟩ := cell_byte o2 h2
  exact turned_walk A0 c0 zs x y W r0 B0 k0 n0 hx hy
end frameTurned
end Go.Proofs.Ytplbpahfellldaa
