/-
  The chapter's example of layer 11, and the walk of the law PlaceTells: it returns true whatever shares it is given. No condition.
-/
import Derived.Test.YtcgfjobdpcdhhaaPlace
import Derived.Test.YtcgfjobdpcdhhaaRights
import Derived.Test.YtcgfjobdpcdhhaaGrid
import Derived.ProofKit
import Derived.OpenShut
namespace Go.Proofs.Ytcgfjobdpcdhhaa
open Go.ChangeShapes Go.WideShapes Go.ChangeAt Go.RowKit Go.Deep Go.BigFrame
set_option linter.unusedVariables false

def ex1 : List Rs := [⟨3, 0, 0, 0⟩, ⟨9, 0, 0, 0⟩]
def ex2 : List Sh := [⟨0, 1⟩, ⟨1, 2⟩]
theorem exRow (w : World) : Row (w.alloc (.cells #[.int .i64 3, .int .i64 0, .int .i64 0, .int .i64 0, .int .i64 9, .int .i64 0, .int .i64 0, .int .i64 0] 23)) (w.heap.size + 1) (some ⟨w.heap.size, 0, none⟩) (flatR ex1) :=
  Row.lit w #[.int .i64 3, .int .i64 0, .int .i64 0, .int .i64 0, .int .i64 9, .int .i64 0, .int .i64 0, .int .i64 0] 23
theorem exL : placeL ex1 [0, 1] 3 ⟨2, 0, 0, 0⟩ = ex2 := by decide
theorem exB : placeB ex1 [0, 1] 3 ⟨2, 0, 0, 0⟩ = true := by decide
theorem exS : sameL ex2 ex2 = true := by decide
theorem exT : totalOf ex2 = 3 := by decide

set_option maxHeartbeats 1000000 in
theorem awake_any (w : World) : Calls Try.prog 24 #[] w fun e w' => e = .returned (.bool true) ∧ Below w.heap.size w w' := by
  have s1 := exS
  have s2 := exT
  go_enter Try.func24, Try.ntmps24
  go_wp2_with fail
  have hb0 : Below w.heap.size w ((w.alloc (.cells #[.int .i64 3, .int .i64 0, .int .i64 0, .int .i64 0, .int .i64 9, .int .i64 0, .int .i64 0, .int .i64 0] 23)).alloc (.cells #[.int .i64 0, .int .i64 1] 3)) := ((Below.refl _ _).alloc (Nat.le_refl _) _).alloc (by simp) _
  have hr1 := ((exRow w).below ((Below.refl _ _).alloc (by simp) (.cells #[.int .i64 0, .int .i64 1] 3)))
  have hr2 := Row.lit (w.alloc (.cells #[.int .i64 3, .int .i64 0, .int .i64 0, .int .i64 0, .int .i64 9, .int .i64 0, .int .i64 0, .int .i64 0] 23)) #[.int .i64 0, .int .i64 1] 3
  simp only [World.size_alloc] at hr2
  refine (place_any _ _ _ _ _ _ ex1 [0, 1] 3 ⟨2, 0, 0, 0⟩ _ (by exact hr1) (by simp) (by simp [ex1]) (by exact hr2) (by simp) (by simp)).mono ?_
  rw [exL, exB]
  rintro e w1 ⟨A, c, rfl, hc, r1, hb1⟩
  clear hr1 hr2
  have z1 := hb1.size
  simp only [World.size_alloc] at z1
  go_wp2_with fail
  have hr3 : Row (w1.alloc (.cells #[.int .i64 0, .int .i64 1, .int .i64 1, .int .i64 2] 52)) (w1.heap.size + 1) (some ⟨w1.heap.size, 0, none⟩) (flat ex2) := Row.lit w1 #[.int .i64 0, .int .i64 1, .int .i64 1, .int .i64 2] 52
  have r1' := r1.below ((Below.refl _ _).alloc (Nat.le_refl _) (.cells #[.int .i64 0, .int .i64 1, .int .i64 1, .int .i64 2] 52))
  refine (same_any _ _ _ _ _ _ ex2 ex2 _ (by exact r1') (by exact hr3) (by simp [ex2]) (by simp) (by simp)).mono ?_
  rintro e w2 ⟨rfl, hb2⟩
  have z2 := hb2.size
  simp only [World.size_alloc] at z2
  go_wp2_with fail
  refine (total_any _ _ _ ex2 _ (by exact r1'.below (hb2.mono (by simp))) (by omega) (by simp [ex2])).mono ?_
  rintro e w3 ⟨rfl, hb3⟩
  go_wp2
  go_ret
  exact ⟨rfl, ((((hb0.trans (hb1.mono (by simp; omega))).alloc (by omega) _)).trans (hb2.mono (by simp; omega))).trans (hb3.mono (by omega))⟩

theorem cells52 : Try.prog.cellsOf 52 = 2 := by kernel_rfl
theorem cells23 : Try.prog.cellsOf 23 = 4 := by kernel_rfl
/-- An argument that is a slice of shares. -/
theorem open_shs {H : Type} {enc : TypeId × Value → H} {W : World} {base : Nat} {v : Value} {d : DataW H} {p : List MemPlace} (o : Value.okWide Try.prog W .any base 41 v) (h : DataW.Trod enc Try.prog W 0 (fun _ => true) true 41 v d p) :
    ∃ (A : Option Addr) (cap : Nat) (l : List Sh), v = .slice A l.length cap ∧ Row W W.heap.size A (flat l) ∧ l.length ≤ cap ∧ l.length ≤ 9223372036854775807 := by
  obtain ⟨a0, len, cap, rfl⟩ := okWide_slice Try.underlying41 o
  obtain ⟨fuel, hf⟩ := h
  rcases open_grid Try.underlying41 Try.underlying52 (by kernel_rfl) cells52 (k := .i64) (fun j f hj => by
      match j, hj with
      | 0, hj => cases hj; exact Try.underlying3
      | 1, hj => cases hj; exact Try.underlying3) hf with hcs | ⟨a, len', cap', f, hcs, hl, hm, hc⟩
  · simp [Value.cells] at hcs
    obtain ⟨rfl, rfl, rfl⟩ := hcs
    exact ⟨none, 0, [], rfl, Row.empty, Nat.le_refl _, by simp⟩
  · simp [Value.cells] at hcs
    obtain ⟨rfl, rfl, rfl⟩ := hcs
    refine ⟨some a, cap, (List.range len).map fun i => ⟨f i 0, f i 1⟩, by simp, Row.of_add fun q u hu => ?_, by simpa using hl, by simp; unfold maxLen at hm; omega⟩
    have hq : q < 2 * len := by
      rcases Nat.lt_or_ge q (flat ((List.range len).map fun i => (⟨f i 0, f i 1⟩ : Sh))).length with h | h
      · rw [flat_len] at h; simp at h; omega
      · rw [List.getElem?_eq_none h] at hu; cases hu
    have e : q = q / 2 * 2 + q % 2 := by omega
    obtain ⟨g0, g1⟩ := flat_get ((List.range len).map fun i => (⟨f i 0, f i 1⟩ : Sh)) (q / 2) (by simp; omega)
    simp only [List.getElem_map, List.getElem_range] at g0 g1
    rcases (show q % 2 = 0 ∨ q % 2 = 1 by omega) with r | r
    · rw [r] at e
      rw [e] at hu ⊢
      rw [Nat.add_zero, g0] at hu
      cases hu
      exact (hc (q / 2) 0 (by omega) (by decide)).1
    · rw [r] at e
      rw [e] at hu ⊢
      rw [g1] at hu
      cases hu
      exact (hc (q / 2) 1 (by omega) (by decide)).1
/-- An argument that is a slice of vectors. -/
theorem open_rss {H : Type} {enc : TypeId × Value → H} {W : World} {base : Nat} {v : Value} {d : DataW H} {p : List MemPlace} (o : Value.okWide Try.prog W .any base 35 v) (h : DataW.Trod enc Try.prog W 0 (fun _ => true) true 35 v d p) :
    ∃ (A : Option Addr) (cap : Nat) (l : List Rs), v = .slice A l.length cap ∧ Row W W.heap.size A (flatR l) ∧ l.length ≤ cap ∧ l.length ≤ 9223372036854775807 := by
  obtain ⟨a0, len, cap, rfl⟩ := okWide_slice Try.underlying35 o
  obtain ⟨fuel, hf⟩ := h
  rcases open_grid Try.underlying35 Try.underlying23 (by kernel_rfl) cells23 (k := .i64) (fun j f hj => by
      match j, hj with
      | 0, hj => cases hj; exact Try.underlying3
      | 1, hj => cases hj; exact Try.underlying3
      | 2, hj => cases hj; exact Try.underlying3
      | 3, hj => cases hj; exact Try.underlying3) hf with hcs | ⟨a, len', cap', f, hcs, hl, hm, hc⟩
  · simp [Value.cells] at hcs
    obtain ⟨rfl, rfl, rfl⟩ := hcs
    exact ⟨none, 0, [], rfl, Row.empty, Nat.le_refl _, by simp⟩
  · simp [Value.cells] at hcs
    obtain ⟨rfl, rfl, rfl⟩ := hcs
    refine ⟨some a, cap, (List.range len).map fun i => ⟨f i 0, f i 1, f i 2, f i 3⟩, by simp, Row.of_add fun q u hu => ?_, by simpa using hl, by simp; unfold maxLen at hm; omega⟩
    have hq : q < 4 * len := by
      rcases Nat.lt_or_ge q (flatR ((List.range len).map fun i => (⟨f i 0, f i 1, f i 2, f i 3⟩ : Rs))).length with h | h
      · rw [flatR_len] at h; simp at h; omega
      · rw [List.getElem?_eq_none h] at hu; cases hu
    have e : q = q / 4 * 4 + q % 4 := by omega
    obtain ⟨g0, g1, g2, g3⟩ := flatR_get ((List.range len).map fun i => (⟨f i 0, f i 1, f i 2, f i 3⟩ : Rs)) (q / 4) (by simp; omega)
    simp only [List.getElem_map, List.getElem_range] at g0 g1 g2 g3
    rcases (show q % 4 = 0 ∨ q % 4 = 1 ∨ q % 4 = 2 ∨ q % 4 = 3 by omega) with r | r | r | r
    · rw [r] at e
      rw [e] at hu ⊢
      rw [Nat.add_zero, g0] at hu
      cases hu
      exact (hc (q / 4) 0 (by omega) (by decide)).1
    · rw [r] at e
      rw [e] at hu ⊢
      rw [g1] at hu
      cases hu
      exact (hc (q / 4) 1 (by omega) (by decide)).1
    · rw [r] at e
      rw [e] at hu ⊢
      rw [g2] at hu
      cases hu
      exact (hc (q / 4) 2 (by omega) (by decide)).1
    · rw [r] at e
      rw [e] at hu ⊢
      rw [g3] at hu
      cases hu
      exact (hc (q / 4) 3 (by omega) (by decide)).1

set_option maxHeartbeats 2000000 in
theorem tells_walk (A : Option Addr) (cap : Nat) (l : List Sh) (nodes : Int) (w : World) (hr : Row w w.heap.size A (flat l)) (hcap : l.length ≤ cap) (hlen : l.length ≤ 9223372036854775807) :
    Calls Try.prog 7 #[.slice A l.length cap, .int .i64 nodes] w fun e w' => e = .returned (.bool true) ∧ Below w.heap.size w w' := by
  by_cases hbig : 60 < l.length
  · go_enter Try.func7, Try.ntmps7
    go_wp2_with (go_at_call 24; refine (awake_any _).mono ?_; rintro e w1 ⟨rfl, hb1⟩)
    go_ret
    exact ⟨rfl, hb1⟩
  go_enter Try.func7, Try.ntmps7
  go_wp2_with fail
  refine (awake_any _).mono ?_
  rintro e w1 ⟨rfl, hb1⟩
  have z1 := hb1.size
  go_wp2_with fail
  refine (pright_any _ _ _ l _ _ (by exact hr.below hb1) (by omega) (by omega)).mono ?_
  rintro e w2 ⟨rfl, hb2⟩
  have z2 := hb2.size
  have hW2 := hb1.trans (hb2.mono z1)
  go_wp2_with fail
  refine (qright_any _ _ _ l _ _ (by exact hr.below hW2) (by omega) (by omega)).mono ?_
  rintro e w3 ⟨rfl, hb3⟩
  have z3 := hb3.size
  have hW3 := hW2.trans (hb3.mono (by omega))
  go_wp2_with fail
  refine (total_any _ _ _ l _ (by exact hr.below hW3) (by omega) (by omega)).mono ?_
  rintro e w4 ⟨rfl, hb4⟩
  have z4 := hb4.size
  have hW4 := hW3.trans (hb4.mono (by omega))
  go_wp2_with fail
  refine (rtotal_any _ _ _ l _ (by exact hr.below hW4) (by omega) (by omega)).mono ?_
  rintro e w5 ⟨rfl, rfl⟩
  go_wp2
  go_ret
  exact ⟨rfl, hW4⟩

namespace placeTells
theorem walk {H : Type} (enc : TypeId × Value → H) (W : World) (base : Nat) (v0 v1 : Value) {d0 d1 : DataW H} {p0 p1 : List MemPlace} (o0 : Value.okWide Try.prog W .any base 41 v0) (h0 : DataW.Trod enc Try.prog W 0 (fun _ => true) true 41 v0 d0 p0) (o1 : Value.okWide Try.prog W .any base 3 v1) (h1 : DataW.Trod enc Try.prog W 0 (fun _ => true) true 3 v1 d1 p1) :
    Calls Try.prog 7 #[v0, v1] W fun e w' => e = .returned (.bool true) ∧ Below W.heap.size W w' := by
  obtain ⟨A, cap, l, rfl, hr, hc, hn⟩ := open_shs o0 h0
  obtain ⟨id, rfl, _, _, _⟩ := open_int Try.underlying3 o1 h1
  exact tells_walk A cap l id W hr hc hn
end placeTells
end Go.Proofs.Ytcgfjobdpcdhhaa
