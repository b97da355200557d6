/-
  The walks of the laws on frames: each returns true whatever bytes it is given. No condition.
-/
import Derived.Test.YtplbpahfellldaaOpen
import Derived.ProofKit
import Derived.OpenShut
namespace Go.Proofs.Ytplbpahfellldaa
open Go.ChangeShapes Go.WideShapes Go.ChangeAt Go.RowKit
set_option linter.unusedVariables false

theorem cells5 : Try.prog.cellsOf 5 = 1 := by kernel_rfl
/-- An argument that is a slice of bytes. -/
theorem open_bytes {H : Type} {enc : TypeId × Value → H} {W : World} {base : Nat} {v : Value} {d : DataW H} {p : List MemPlace} (o : Value.okWide Try.prog W .any base 22 v) (h : DataW.Trod enc Try.prog W 0 (fun _ => true) true 22 v d p) :
    ∃ (A : Option Addr) (cap : Nat) (zs : List Int), v = .slice A zs.length cap ∧ Row W W.heap.size A (bytes zs) ∧ IsB zs ∧ zs.length ≤ cap ∧ zs.length ≤ 9223372036854775807 := by
  obtain ⟨a0, len, cap, rfl⟩ := okWide_slice Try.underlying22 o
  obtain ⟨fuel, hf⟩ := h
  rcases open_ints Try.underlying22 Try.underlying5 cells5 hf with ⟨hcs, _⟩ | ⟨x, l, c, zs, hcs, _, hl, hm, hz, _, hcell, hwz⟩
  · simp [Value.cells] at hcs
    obtain ⟨rfl, rfl, rfl⟩ := hcs
    exact ⟨none, 0, [], rfl, Row.empty, (fun x hx => by cases hx), Nat.le_refl _, by simp⟩
  · simp [Value.cells] at hcs
    obtain ⟨rfl, rfl, rfl⟩ := hcs
    simp at hz
    have hlen : (zs.take len).length = len := by simp; omega
    refine ⟨some x, cap, zs.take len, by rw [hlen], ?_, ?_, by omega, by unfold maxLen at hm; omega⟩
    · refine Row.of_add fun i u hu => ?_
      rw [bytes, List.map_take, List.getElem?_take] at hu
      split at hu
      · rename_i hi
        rw [List.getElem?_map, List.getElem?_eq_getElem (by omega)] at hu
        simp at hu
        subst hu
        rw [hcell i (by omega)]
        simp [List.getD, List.getElem?_eq_getElem (show i < zs.length by omega)]
      · cases hu
    · intro n hn
      exact bounds_u8 (hwz n (List.mem_of_mem_take hn))

theorem cat_of {w : World} {base : Nat} {v : Value} {xs ms : List Int} (h1 : IsB xs) (h2 : IsB ms) (n1 : xs.length ≤ 300) (n2 : ms.length ≤ 500) (h : w.ownsRow base 5 1 v (0 + xs.length + ms.length) ([] ++ bytes xs ++ bytes ms)) :
    ∃ ys, Hid (ys = xs ++ ms) ∧ IsB ys ∧ ys.length ≤ 1000 ∧ ∃ A c, v = .slice A ys.length c ∧ ys.length ≤ c ∧ Row w w.heap.size A (bytes ys) := by
  have h2' : w.ownsRow base 5 1 v (xs ++ ms).length (bytes (xs ++ ms)) := by
    rw [List.length_append, bytes, List.map_append]; simpa using h
  obtain ⟨A, c, rfl⟩ := own_form h2'
  exact ⟨_, rfl, h1.append h2, by simp; omega, A, c, rfl, own_cap h2', Row.of_own h2'⟩

set_option maxHeartbeats 2000000 in
theorem makes_walk (A0 A1 : Option Addr) (c0 c1 : Nat) (zs ms : List Int) (W : World) (r0 : Row W W.heap.size A0 (bytes zs)) (r1 : Row W W.heap.size A1 (bytes ms)) (B0 : IsB zs) (B1 : IsB ms) (k0 : zs.length ≤ c0) (k1 : ms.length ≤ c1)
    (n0 : zs.length ≤ 9223372036854775807) (n1 : ms.length ≤ 9223372036854775807) :
    Calls Try.prog 3 #[.slice A0 zs.length c0, .slice A1 ms.length c1] W fun e w' => e = .returned (.bool true) ∧ Below W.heap.size W w' := by
  by_cases a1 : 2000 < zs.length
  · go_enter Try.func3, Try.ntmps3
    go_wp2_with (go_at_call 6; refine (awake_any _).mono ?_; rintro e w1 ⟨rfl, hb1⟩)
    go_ret
    exact ⟨rfl, hb1⟩
  by_cases a2 : 500 < ms.length
  · go_enter Try.func3, Try.ntmps3
    go_wp2_with (go_at_call 6; refine (awake_any _).mono ?_; rintro e w1 ⟨rfl, hb1⟩)
    go_ret
    exact ⟨rfl, hb1⟩
  by_cases a3 : zs.length < 1
  · go_enter Try.func3, Try.ntmps3
    go_wp2_with (first | (go_at_call 6; refine (awake_any _).mono ?_; rintro e w1 ⟨rfl, hb1⟩) | (go_at_call 7; refine (make_no _ _ _ _ (by omega)).mono ?_; rintro e w2 ⟨rfl, rfl⟩))
    go_ret
    exact ⟨rfl, hb1⟩
  by_cases a4 : 240 < zs.length
  · go_enter Try.func3, Try.ntmps3
    go_wp2_with (first | (go_at_call 6; refine (awake_any _).mono ?_; rintro e w1 ⟨rfl, hb1⟩) | (go_at_call 7; refine (make_no _ _ _ _ (by omega)).mono ?_; rintro e w2 ⟨rfl, rfl⟩))
    go_ret
    exact ⟨rfl, hb1⟩
  obtain ⟨i0, hi0, hz0, hz1, hz2⟩ := info_parts info5
  have hsame := sameB_refl zs
  have hsame2 := sameB_refl (frameZ zs)
  have hfl := frame_len zs
  have HFL := Lib.hid hfl
  have hfl2 : (frameZ zs).length ≤ 300 := by omega
  clear hfl
  go_enter Try.func3, Try.ntmps3
  go_wp2_with fail
  refine (awake_any _).mono ?_
  rintro e w1 ⟨rfl, hb1⟩
  go_wp2_with fail
  have r01 := r0.below hb1
  have hs1 := hb1.size
  refine (make_yes _ _ zs _ _ (by exact r01) B0 (by omega) (by omega) (by omega)).mono ?_
  rintro e w2 ⟨v, rfl, ho2, hb2⟩
  obtain ⟨A2, c2, rfl⟩ := own_form ho2
  have rf2 := Row.of_own ho2
  have hs2 := hb2.size
  have hc2 := own_cap ho2
  have hbW2 : Below W.heap.size W w2 := hb1.trans (hb2.mono hs1)
  have ho := open_any A2 c2 (frameZ zs) w2 _ rf2 (isB_frame B0 (by omega)) (Nat.le_refl _) (by omega) hc2
  rw [open_frame zs (by omega) (by omega)] at ho
  have HO := Lib.hid ho
  clear ho
  go_wp2_with fail
  refine HO.out.mono ?_
  rintro e w3 ⟨A3, c3, rfl, hc3, rg3, hb3⟩
  have hs3 := hb3.size
  have hbW3 : Below W.heap.size W w3 := hbW2.trans (hb3.mono (by omega))
  have rf3 := rf2.below hb3
  have ho4 : (w3.alloc (.cells #[] 5)).ownsRow w3.heap.size 5 1 (.slice (some ⟨w3.heap.size, 0, none⟩) 0 0) 0 [] := World.ownsRow_lit w3 #[] 0 (Nat.le_refl _) (by unfold maxLen; omega) rfl
  have hb4 : Below w3.heap.size w3 (w3.alloc (.cells #[] 5)) := (Below.refl _ _).alloc (Nat.le_refl _) _
  have r1W := r1.below hbW3
  go_wp2_with (first
    | (at_builtin
       refine wpList_append_row rfl (.tmp 48) (.tmp 49) 22 rfl w3.heap.size 5 i0 (.int .u8 0) 1 1 Try.underlying22 hi0 hz0 hz1 hz2 rfl (by decide) _ _ _ rfl ho4 _ A2 (frameZ zs).length c2 (bytes (frameZ zs)) rfl ((rf3.more hs3).below hb4) (by simp) (one_bytes _) (by unfold maxLen; omega) (by omega) (by simp) ?_
       intro v5 w5 ho5 hg5
       have hb5 : Below w3.heap.size w3 w5 := hb4.grown hg5 (by simp) (fun k hk => (ho4.lt k hk).1)
       have hs5 := hb5.size
       clear hg5 ho4 hb4)
    | (at_builtin
       refine wpList_append_row rfl (.tmp 50) (.tmp 51) 22 rfl w3.heap.size 5 i0 (.int .u8 0) 1 1 Try.underlying22 hi0 hz0 hz1 hz2 rfl (by decide) _ _ _ rfl ho5 _ A1 ms.length c1 (bytes ms) rfl ((r1W.more (by omega)).below hb5) (by simp) (one_bytes _) (by unfold maxLen; omega) (by omega) hs5 ?_
       intro v6 w6 ho6 hg6
       have hb6 : Below w3.heap.size w3 w6 := hb5.grown hg6 hs5 (fun k hk => (ho5.lt k hk).1)
       have hs6 := hb6.size
       obtain ⟨ys, hy, hBy, hny, A6, c6, rfl, hc6, rf6⟩ := cat_of (isB_frame B0 (by omega)) B1 (by omega) (by omega) ho6
       clear hg6 ho5 hb5 ho6 hs5))
  have hnx := next_any A6 c6 ys w6 _ rf6 hBy (Nat.le_refl _) (by omega) hc6
  rw [hy.out, next_frame zs ms (by omega) (by omega), ← hy.out] at hnx
  have HX := Lib.hid hnx
  have hleq : ((zs.length : Int) + 3 == ((frameZ zs).length : Int)) = true := by rw [HFL.out]; simp
  clear hnx
  refine HX.out.mono ?_
  rintro e w7 ⟨A7, c7, rfl, hc7, rn7, hb7⟩
  have hs7 := hb7.size
  have hb37 : Below w3.heap.size w3 w7 := hb6.trans (hb7.mono (by omega))
  have hbW7 : Below W.heap.size W w7 := hbW3.trans (hb37.mono (by omega))
  have r07 := r0.below hbW7
  have rf7 := (rf3.more hs3).below hb37
  have rg7 := rg3.below hb37
  go_wp2_with fail
  refine (rmake_any _ _ zs _ _ (by exact r07) B0 (by omega) (by omega)).mono ?_
  rintro e w8 ⟨v8, rfl, ho8, hb8⟩
  obtain ⟨A8, c8, rfl⟩ := own_form ho8
  have rm8 := Row.of_own ho8
  have hs8 := hb8.size
  have rf8 := (rf7.more (show _ ≤ w7.heap.size by omega)).below hb8
  go_wp2_with fail
  refine (bytes_any _ _ _ _ _ _ (frameZ zs) (frameZ zs) _ (by exact rf8) (by exact rm8) (by omega) (by omega) (by omega)).mono ?_
  rintro e w9 ⟨rfl, hb9⟩
  have hs9 := hb9.size
  have hb79 : Below w7.heap.size w7 w9 := hb8.trans (hb9.mono (by omega))
  have rg9 := (rg7.more (show _ ≤ w7.heap.size by omega)).below hb79
  have r09 := (r07.more (show _ ≤ w7.heap.size by omega)).below hb79
  have rn9 := rn7.below hb79
  go_wp2_with fail
  refine (bytes_any _ _ _ _ _ _ zs zs _ (by exact rg9) (by exact r09) (by omega) (by omega) (by omega)).mono ?_
  rintro e w10 ⟨rfl, hb10⟩
  have hs10 := hb10.size
  have rn10 := (rn9.more (show _ ≤ w9.heap.size by omega)).below hb10
  have r010 := (r09.more (show _ ≤ w9.heap.size by omega)).below hb10
  go_wp2_with fail
  refine (bytes_any _ _ _ _ _ _ zs zs _ (by exact rn10) (by exact r010) (by omega) (by omega) (by omega)).mono ?_
  rintro e w11 ⟨rfl, hb11⟩
  go_wp2
  go_ret
  exact ⟨rfl, ((hbW7.trans (hb79.mono (by omega))).trans (hb10.mono (by omega))).trans (hb11.mono (by omega))⟩

namespace frameMakes
theorem walk {H : Type} (enc : TypeId × Value → H) (W : World) (base : Nat) (v0 v1 : Value) {d0 d1 : DataW H} {p0 p1 : List MemPlace} (o0 : Value.okWide Try.prog W .any base 22 v0) (h0 : DataW.Trod enc Try.prog W 0 (fun _ => true) true 22 v0 d0 p0) (o1 : Value.okWide Try.prog W .any base 22 v1) (h1 : DataW.Trod enc Try.prog W 0 (fun _ => true) true 22 v1 d1 p1) :
    Calls Try.prog 3 #[v0, v1] W fun e w' => e = .returned (.bool true) ∧ Below W.heap.size W w' := by
  obtain ⟨A0, c0, zs, rfl, r0, B0, k0, n0⟩ := open_bytes o0 h0
  obtain ⟨A1, c1, ms, rfl, r1, B1, k1, n1⟩ := open_bytes o1 h1
  exact makes_walk A0 A1 c0 c1 zs ms W r0 r1 B0 B1 k0 k1 n0 n1
end frameMakes
end Go.Proofs.Ytplbpahfellldaa
