/-
  What is placed, as an argument: a part, how many, of which vector; and the law's function few.
-/
import Derived.Test.YtcgfjobdpcdhhaaPlain
import Derived.Test.YtcgfjobdpcdhhaaLaws
import Derived.Lib.SmallJoins
namespace Go.Proofs.Ytcgfjobdpcdhhaa
open Go.ChangeShapes Go.WideShapes Go.ChangeAt Go.RowKit Go.Deep Go.BigFrame Go.Joins
set_option linter.unusedVariables false

abbrev wantVal (A : Option Addr) (n cap : Nat) (many : Int) (need : Rs) : Value := .agg #[.slice A n cap, .int .i64 many, .int .i64 need.c, .int .i64 need.m, .int .i64 need.g, .int .i64 need.l]
abbrev wantObj (A : Option Addr) (n cap : Nat) (many : Int) (need : Rs) : Obj := .cells #[.slice A n cap, .int .i64 many, .int .i64 need.c, .int .i64 need.m, .int .i64 need.g, .int .i64 need.l] 38
theorem array6 {α : Type} {a : Array α} (h : a.size = 6) : ∃ c0 c1 c2 c3 c4 c5, a = #[c0, c1, c2, c3, c4, c5] := by
  rcases a with ⟨l⟩
  match l, h with
  | [c0, c1, c2, c3, c4, c5], _ => exact ⟨c0, c1, c2, c3, c4, c5, rfl⟩
/-- An argument that is a vector. -/
theorem open_rs1 {H : Type} {enc : TypeId × Value → H} {W : World} {n : Nat} {c0 c1 c2 c3 : Value} {y : DataW H × List MemPlace} (h : DataW.trod enc Try.prog W 0 (fun _ => true) true n 23 [c0, c1, c2, c3] = some y) :
    ∃ a : Rs, [c0, c1, c2, c3] = a.cs := by
  obtain ⟨_, hf⟩ := trod_ints Try.underlying23 (by kernel_rfl) cells23 (k := .i64) (fun j f hj => by
      match j, hj with
      | 0, hj => cases hj; exact Try.underlying3
      | 1, hj => cases hj; exact Try.underlying3
      | 2, hj => cases hj; exact Try.underlying3
      | 3, hj => cases hj; exact Try.underlying3) h
  obtain ⟨x0, e0, _⟩ := hf 0 (by decide)
  obtain ⟨x1, e1, _⟩ := hf 1 (by decide)
  obtain ⟨x2, e2, _⟩ := hf 2 (by decide)
  obtain ⟨x3, e3, _⟩ := hf 3 (by decide)
  simp at e0 e1 e2 e3
  exact ⟨⟨x0, x1, x2, x3⟩, by simp [Rs.cs, e0, e1, e2, e3]⟩
theorem cells3 : Try.prog.cellsOf 3 = 1 := by kernel_rfl
theorem cells36 : Try.prog.cellsOf 36 = 1 := by kernel_rfl
theorem cells38 : Try.prog.cellsOf 38 = 6 := by kernel_rfl
/-- A slice of ints, read. -/
theorem open_part {H : Type} {enc : TypeId × Value → H} {W : World} {n : Nat} {c : Value} {y : DataW H × List MemPlace} (h : DataW.trod enc Try.prog W 0 (fun _ => true) true n 36 [c] = some y) :
    ∃ (A : Option Addr) (cap : Nat) (part : List Int), c = .slice A part.length cap ∧ Row W W.heap.size A (ints part) ∧ part.length ≤ cap ∧ part.length ≤ 9223372036854775807 := by
  rcases open_ints Try.underlying36 Try.underlying3 cells3 h with ⟨hc, _⟩ | ⟨a, len, cap, zs, hc, _, hl, hm, hz, _, hcell, _⟩
  · simp at hc
    subst hc
    exact ⟨none, 0, [], rfl, Row.empty, Nat.le_refl _, by simp⟩
  · simp at hc hz
    subst hc
    have e : (zs.take len).length = len := by rw [List.length_take]; omega
    refine ⟨some a, cap, zs.take len, by rw [e], Row.of_add fun q u hu => ?_, by omega, by unfold maxLen at hm; omega⟩
    have hq : q < len := by
      rcases Nat.lt_or_ge q len with h' | h'
      · exact h'
      · rw [List.getElem?_eq_none (by simp; omega)] at hu; cases hu
    have := hcell q (by omega)
    rw [this]
    rw [List.getElem?_map, List.getElem?_take_of_lt hq] at hu
    rw [List.getElem?_eq_getElem (by omega)] at hu
    simp at hu
    rw [← hu]
    simp [List.getD_eq_getElem?_getD, List.getElem?_eq_getElem (show q < zs.length by omega)]
theorem open_want {H : Type} {enc : TypeId × Value → H} {W : World} {base : Nat} {v : Value} {d : DataW H} {p : List MemPlace} (o : Value.okWide Try.prog W .any base 38 v) (h : DataW.Trod enc Try.prog W 0 (fun _ => true) true 38 v d p) :
    ∃ (A : Option Addr) (cap : Nat) (part : List Int) (many : Int) (need : Rs), v = wantVal A part.length cap many need ∧ Row W W.heap.size A (ints part) ∧ part.length ≤ cap ∧ part.length ≤ 9223372036854775807 := by
  obtain ⟨cs, rfl, hsz⟩ := okWide_struct Try.underlying38 o
  obtain ⟨c0, c1, c2, c3, c4, c5, rfl⟩ := array6 (hsz.trans cells38)
  obtain ⟨fuel, hf⟩ := h
  obtain ⟨y0, y1, y2, n, hx, _, h0, h1, h2⟩ := trod_struct3 Try.underlying38 hf
  simp only [cells3, cells36, cells23, Value.cells, List.drop, List.take] at h0 h1 h2
  obtain ⟨A, cap, part, rfl, hr, hc, hn⟩ := open_part h0
  obtain ⟨many, hm, _, _⟩ := DataW.trod_int Try.underlying3 h1
  obtain ⟨a, ha⟩ := open_rs1 h2
  simp [Rs.cs] at hm ha
  obtain ⟨rfl, rfl, rfl, rfl⟩ := ha
  subst hm
  exact ⟨A, cap, part, many, a, rfl, hr, hc, hn⟩

def fewB (a b : Nat) : Bool := decide (a ≤ 30) && decide (b ≤ 30)
theorem few_yes {a b : Nat} (h1 : a ≤ 30) (h2 : b ≤ 30) : fewB a b = true := by simp [fewB, h1, h2]
theorem few_no {a b : Nat} (h : ¬ (a ≤ 30 ∧ b ≤ 30)) : fewB a b = false := by
  unfold fewB; by_cases h1 : a ≤ 30 <;> by_cases h2 : b ≤ 30 <;> simp [h1, h2]
  exact h ⟨h1, h2⟩
set_option maxHeartbeats 400000 in
theorem few_any (A A' : Option Addr) (n n' c c' : Nat) (many : Int) (need : Rs) (w : World) (hn : n ≤ 9223372036854775807) (hn' : n' ≤ 9223372036854775807) :
    Calls Try.prog 25 #[.slice A n c, wantVal A' n' c' many need] w fun e w' => e = .returned (.bool (fewB n n')) ∧ Below w.heap.size w w' := by
  have hb : Below w.heap.size w (w.alloc (wantObj A' n' c' many need)) := (Below.refl _ _).alloc (Nat.le_refl _) _
  by_cases h1 : n ≤ 30
  · by_cases h2 : n' ≤ 30
    · have HO := Lib.hid (few_yes h1 h2)
      go_enter Try.func25, Try.ntmps25
      go_wp2
      go_ret
      exact ⟨retBool (by rw [HO.out]; simp; omega), hb⟩
    · have HO := Lib.hid (few_no (a := n) (b := n') (fun h => h2 h.2))
      go_enter Try.func25, Try.ntmps25
      go_wp2
      go_ret
      exact ⟨retBool (by rw [HO.out]; simp; omega), hb⟩
  · have HO := Lib.hid (few_no (a := n) (b := n') (fun h => h1 h.1))
    go_enter Try.func25, Try.ntmps25
    go_wp2
    go_ret
    exact ⟨retBool HO.out.symm, hb⟩
end Go.Proofs.Ytcgfjobdpcdhhaa
