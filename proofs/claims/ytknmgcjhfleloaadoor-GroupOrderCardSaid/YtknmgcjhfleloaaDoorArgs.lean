/-
  An argument that is a batch of calls, opened to its cells; and what the condition on the package-level table gives. No walk.
-/
import Derived.Test.YtknmgcjhfleloaaDoorOrders
import Derived.Deep.Slices
import Derived.ChangeSame
import Derived.ProofKit
import Derived.LaidMore
import Derived.OpenShut
namespace Go.Proofs.YtknmgcjhfleloaaDoor
open Go.ChangeShapes Go.WideShapes Go.ChangeAt Go.Deep Go.RowKit
set_option linter.unusedVariables false

theorem cells3 : Tryd.prog.cellsOf 3 = 1 := by kernel_rfl
theorem cells30 : Tryd.prog.cellsOf 30 = 4 := by kernel_rfl
theorem cells31 : Tryd.prog.cellsOf 31 = 1 := by kernel_rfl
theorem cells33 : Tryd.prog.cellsOf 33 = 17 := by kernel_rfl
theorem cells35 : Tryd.prog.cellsOf 35 = 18 := by kernel_rfl
theorem list18 {α : Type} {l : List α} (h : l.length = 18) : ∃ c0 c1 c2 c3 c4 c5 c6 c7 c8 c9 c10 c11 c12 c13 c14 c15 c16 c17, l = [c0, c1, c2, c3, c4, c5, c6, c7, c8, c9, c10, c11, c12, c13, c14, c15, c16, c17] := by
  match l, h with
  | [c0, c1, c2, c3, c4, c5, c6, c7, c8, c9, c10, c11, c12, c13, c14, c15, c16, c17], _ => exact ⟨c0, c1, c2, c3, c4, c5, c6, c7, c8, c9, c10, c11, c12, c13, c14, c15, c16, c17, rfl⟩
section
variable {H : Type} {enc : TypeId × Value → H} {W : World}
theorem read_int {n : Nat} {c : Value} {xs : List (DataW H × List MemPlace)} {i m : Nat} (hi : i < m) (hl : xs.length = m) (h : DataW.trod enc Tryd.prog W 0 (fun _ => true) true n 3 [c] = xs[i]?) : ∃ x : Int, c = .int .i64 x ∧ (Lit.int .i64 x).wf = true := by
  rw [List.getElem?_eq_getElem (by omega)] at h
  obtain ⟨x, hx, _, wx⟩ := DataW.trod_int Tryd.underlying3 h
  simp at hx
  exact ⟨x, hx, wx⟩
theorem read_call {n : Nat} {cs : List Value} {y : DataW H × List MemPlace} (h : DataW.trod enc Tryd.prog W 0 (fun _ => true) true n 35 cs = some y) : ∃ b : Cl, cs = b.cs ∧ wfJ b.j := by
  obtain ⟨xs, m, _, _, hl, hxl, hf⟩ := DataW.trod_struct Tryd.underlying35 h
  rw [cells35] at hl
  obtain ⟨c0, c1, c2, c3, c4, c5, c6, c7, c8, c9, c10, c11, c12, c13, c14, c15, c16, c17, rfl⟩ := list18 hl
  have f0 := hf 0 _ rfl
  have f1 := hf 1 _ rfl
  simp only [List.getElem_toArray, List.getElem_cons_zero, List.getElem_cons_succ, cells3, cells33, List.drop, List.take] at f0 f1
  obtain ⟨x0, rfl, _⟩ := read_int (m := 2) (by omega) hxl f0
  rw [List.getElem?_eq_getElem (by rw [hxl]; decide)] at f1
  obtain ⟨ys, m', _, _, hl', hyl, hg⟩ := DataW.trod_struct Tryd.underlying33 f1
  have g0 := hg 0 _ rfl
  have g1 := hg 1 _ rfl
  have g2 := hg 2 _ rfl
  have g3 := hg 3 _ rfl
  have g4 := hg 4 _ rfl
  have g5 := hg 5 _ rfl
  have g6 := hg 6 _ rfl
  have g7 := hg 7 _ rfl
  have g8 := hg 8 _ rfl
  have g9 := hg 9 _ rfl
  have g10 := hg 10 _ rfl
  have g11 := hg 11 _ rfl
  have g12 := hg 12 _ rfl
  have g13 := hg 13 _ rfl
  simp only [List.getElem_toArray, List.getElem_cons_zero, List.getElem_cons_succ, cells3, cells30, cells31, List.drop, List.take] at g0 g1 g2 g3 g4 g5 g6 g7 g8 g9 g10 g11 g12 g13
  obtain ⟨x1, rfl, w1⟩ := read_int (m := 14) (by omega) hyl g0
  obtain ⟨x2, rfl, w2⟩ := read_int (m := 14) (by omega) hyl g1
  obtain ⟨x3, rfl, w3⟩ := read_int (m := 14) (by omega) hyl g2
  obtain ⟨x4, rfl, w4⟩ := read_int (m := 14) (by omega) hyl g3
  obtain ⟨x5, rfl, w5⟩ := read_int (m := 14) (by omega) hyl g4
  obtain ⟨x6, rfl, w6⟩ := read_int (m := 14) (by omega) hyl g5
  rw [List.getElem?_eq_getElem (by rw [hyl]; decide)] at g6
  obtain ⟨zs, m2, _, _, _, hzl, hh⟩ := DataW.trod_struct Tryd.underlying30 g6
  have h0 := hh 0 _ rfl
  have h1 := hh 1 _ rfl
  have h2 := hh 2 _ rfl
  have h3 := hh 3 _ rfl
  simp only [List.getElem_toArray, List.getElem_cons_zero, List.getElem_cons_succ, cells3, List.drop, List.take] at h0 h1 h2 h3
  obtain ⟨x7, rfl, _⟩ := read_int (m := 4) (by omega) hzl h0
  obtain ⟨x8, rfl, _⟩ := read_int (m := 4) (by omega) hzl h1
  obtain ⟨x9, rfl, _⟩ := read_int (m := 4) (by omega) hzl h2
  obtain ⟨x10, rfl, _⟩ := read_int (m := 4) (by omega) hzl h3
  obtain ⟨x11, rfl, w11⟩ := read_int (m := 14) (by omega) hyl g7
  obtain ⟨x12, rfl, w12⟩ := read_int (m := 14) (by omega) hyl g8
  rw [List.getElem?_eq_getElem (by rw [hyl]; decide)] at g9
  obtain ⟨fa, fn, fc, rfl⟩ : ∃ A n c, c13 = Value.slice A n c := by
    rcases open_slice Tryd.underlying31 g9 with ⟨hc, _⟩ | ⟨a, len, cap, _, _, _, _, hc, _⟩
    · simp at hc; exact ⟨_, _, _, hc⟩
    · simp at hc; exact ⟨_, _, _, hc⟩
  obtain ⟨x14, rfl, w14⟩ := read_int (m := 14) (by omega) hyl g10
  obtain ⟨x15, rfl, w15⟩ := read_int (m := 14) (by omega) hyl g11
  obtain ⟨x16, rfl, w16⟩ := read_int (m := 14) (by omega) hyl g12
  obtain ⟨x17, rfl, w17⟩ := read_int (m := 14) (by omega) hyl g13
  exact ⟨⟨x0, x1, x2, x3, x4, x5, x6, x7, x8, x9, x10, x11, x12, fa, fn, fc, x14, x15, x16, x17⟩, rfl, w3⟩
/-- An argument that is a batch of calls. -/
theorem open_calls {base : Nat} {v : Value} {d : DataW H} {p : List MemPlace} (o : Value.okWide Tryd.prog W .any base 22 v) (h : DataW.Trod enc Tryd.prog W 0 (fun _ => true) true 22 v d p) :
    ∃ (A : Option Addr) (cap : Nat) (l : List Cl), v = .slice A l.length cap ∧ Row W W.heap.size A (flatC l) ∧ l.length ≤ 9223372036854775807 ∧ ∀ b ∈ l, wfJ b.j := by
  obtain ⟨a0, len, cap, rfl⟩ := okWide_slice Tryd.underlying22 o
  obtain ⟨fuel, hf⟩ := h
  rcases open_slice Tryd.underlying22 hf with ⟨hcs, _⟩ | ⟨a, len', cap', m, n, D, Pl, hcs, hb, hl, hm, hmm, hx, hi⟩
  · simp [Value.cells] at hcs
    obtain ⟨rfl, rfl, rfl⟩ := hcs
    exact ⟨none, 0, [], rfl, Row.empty, by simp, fun b hb => by simp at hb⟩
  · simp [Value.cells] at hcs
    obtain ⟨rfl, rfl, rfl⟩ := hcs
    have key : ∀ i, ∃ b : Cl, i < len → (∀ j u, b.cs[j]? = some u → W.cell? (a.add (i * 18 + j)) = some u) ∧ wfJ b.j := by
      intro i
      by_cases hil : i < len
      · obtain ⟨cs', hc, ht'⟩ := hi i (by simp at hmm; omega)
        rw [cells35] at hc
        obtain ⟨b, rfl, hw⟩ := read_call ht'
        obtain ⟨_, hcl, hat⟩ := World.cells?_some hc
        refine ⟨b, fun _ => ⟨fun j u hu => ?_, hw⟩⟩
        have hj : j < 18 := by
          rcases Nat.lt_or_ge j 18 with hh | hh
          · exact hh
          · rw [List.getElem?_eq_none (by exact hh)] at hu; cases hu
        rw [← Go.Deep.add_add, hat j hj, hu]
      · exact ⟨⟨0, 0, 0, 0, 0, 0, 0, 0, 0, 0, 0, 0, 0, none, 0, 0, 0, 0, 0, 0⟩, fun h => absurd h hil⟩
    refine ⟨some a, cap, (List.range len).map fun i => Classical.choose (key i), by simp, Row.of_add fun q u hu => ?_, by simp; unfold maxLen at hm; omega, fun b hb => ?_⟩
    · have hq : q < 18 * len := by
        rcases Nat.lt_or_ge q (flatC ((List.range len).map fun i => Classical.choose (key i))).length with h | h
        · rw [flatC_len] at h; simp at h; omega
        · rw [List.getElem?_eq_none h] at hu; cases hu
      have e : q = q / 18 * 18 + q % 18 := by omega
      have hk : q / 18 < len := by omega
      rw [e] at hu ⊢
      rw [flatC_get _ _ (by simp; omega) _ (by omega)] at hu
      simp only [List.getElem_map, List.getElem_range] at hu
      exact (Classical.choose_spec (key (q / 18)) hk).1 _ _ hu
    · simp only [List.mem_map, List.mem_range] at hb
      obtain ⟨i, hi', rfl⟩ := hb
      exact (Classical.choose_spec (key i) hi').2
end
end Go.Proofs.YtknmgcjhfleloaaDoor
