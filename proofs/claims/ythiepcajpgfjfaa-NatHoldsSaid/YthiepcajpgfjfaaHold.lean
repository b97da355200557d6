/-
  The walk of the law NatHolds: it returns true whatever numbers and texts it is given. No condition.
-/
import Derived.Test.YthiepcajpgfjfaaNat
import Derived.Test.YthiepcajpgfjfaaWords
import Derived.ProofKit
import Derived.OpenShut
import Derived.WalkSpells
import Derived.Lib.SmallJoins
import Derived.Laws.IdiomArrays
namespace Go.Proofs.Ythiepcajpgfjfaa
open Go.ChangeShapes Go.WideShapes Go.ChangeAt Go.RowKit
open Go.ChangeMaps (open_string shut_string)
set_option linter.unusedVariables false

theorem okWide_array {P : Program} {w : World} {r : Reach} {base : Nat} {t e : TypeId} {n : Nat} {v : Value} (ht : P.underlying t = some (.array n e)) (h : Value.okWide P w r base t v) : ∃ cs, v = .agg cs ∧ cs.size = P.cellsOf t := by
  unfold Value.okWide at h
  rw [ht] at h
  obtain ⟨cs, h1, h2, _⟩ := h
  exact ⟨cs, h1, h2⟩

def holdZ (n lo hi : Int) : Int := if n < lo then lo else if hi < n then hi else n

theorem hold_int (n lo hi : Int) (w : World) : Calls Try.prog 10 #[.int .i64 n, .int .i64 lo, .int .i64 hi] w fun e w' => e = .returned (.int .i64 (holdZ n lo hi)) ∧ w = w' := by
  by_cases h1 : n < lo
  · go_enter Try.func10, Try.ntmps10
    go_wp2
    go_ret
    exact ⟨ret_int (by simp [holdZ, h1]), rfl⟩
  by_cases h2 : hi < n
  · go_enter Try.func10, Try.ntmps10
    go_wp2
    go_ret
    exact ⟨ret_int (by unfold holdZ; rw [if_neg (by omega), if_pos h2]), rfl⟩
  go_enter Try.func10, Try.ntmps10
  go_wp2
  go_ret
  exact ⟨ret_int (by unfold holdZ; rw [if_neg (by omega), if_neg (by omega)]), rfl⟩

def ltS (a b : ByteArray) : Bool := Op.bytesLess a.toList b.toList
def gtS (a b : ByteArray) : Bool := !Op.bytesLess a.toList b.toList && !(a.toList == b.toList)
def holdS (n lo hi : ByteArray) : ByteArray := if ltS n lo then lo else if gtS n hi then hi else n

theorem ret_str {a b : ByteArray} (h : a = b) : Ending.returned (.string a) = .returned (.string b) := by rw [h]
theorem hold_str (n lo hi : ByteArray) (w : World) : Calls Try.prog 9 #[.string n, .string lo, .string hi] w fun e w' => e = .returned (.string (holdS n lo hi)) ∧ w = w' := by
  by_cases h1 : Op.bytesLess n.toList lo.toList = true
  · go_enter Try.func9, Try.ntmps9
    go_wp2
    go_ret
    exact ⟨ret_str (by simp [holdS, ltS, h1]), rfl⟩
  have h1 : Op.bytesLess n.toList lo.toList = false := by simpa using h1
  by_cases h2 : Op.bytesLess n.toList hi.toList = true
  · go_enter Try.func9, Try.ntmps9
    go_wp2
    go_ret
    exact ⟨ret_str (by simp [holdS, ltS, gtS, h1, h2]), rfl⟩
  have h2 : Op.bytesLess n.toList hi.toList = false := by simpa using h2
  by_cases h3 : (n.toList == hi.toList) = true
  · go_enter Try.func9, Try.ntmps9
    go_wp2
    go_ret
    exact ⟨ret_str (by simp only [holdS, ltS, gtS, h1, h2, h3]; rfl), rfl⟩
  have h3 : (n.toList == hi.toList) = false := by simpa using h3
  go_enter Try.func9, Try.ntmps9
  go_wp2
  go_ret
  exact ⟨ret_str (by simp only [holdS, ltS, gtS, h1, h2, h3]; rfl), rfl⟩

theorem holdZ_lo {n lo hi : Int} (h : n < lo) : (holdZ n lo hi == lo) = true := by simp [holdZ, h]
theorem holdZ_hi {n lo hi : Int} (h : lo ≤ n) (h2 : hi < n) : (holdZ n lo hi == hi) = true := by
  unfold holdZ; rw [if_neg (by omega), if_pos h2]; simp
theorem holdZ_in {n lo hi : Int} (h : lo ≤ n) (h2 : n ≤ hi) : (holdZ n lo hi == n) = true := by
  unfold holdZ; rw [if_neg (by omega), if_neg (by omega)]; simp

/-- What Hold answers for the three texts, in the law's own cases. -/
def Held (s0 s1 s2 t : ByteArray) : Prop := ∀ w : World, Calls Try.prog 9 #[.string s0, .string s1, .string s2] w fun e w' => e = .returned (.string t) ∧ w = w'
theorem held_of (s0 s1 s2 t : ByteArray) (h : holdS s0 s1 s2 = t) : Held s0 s1 s2 t := fun w => by
  have := hold_str s0 s1 s2 w
  rwa [h] at this
theorem Held.out {s0 s1 s2 t : ByteArray} (h : Held s0 s1 s2 t) (w : World) : Calls Try.prog 9 #[.string s0, .string s1, .string s2] w fun e w' => e = .returned (.string t) ∧ w = w' := h w

/-- The law, over the cells of its arguments, a case of the texts at a time. -/
def Law (n l0 l1 : Int) (s0 s1 s2 : ByteArray) : Prop := ∀ w : World,
    Calls Try.prog 4 #[.int .i64 n, .agg #[.int .i64 l0, .int .i64 l1], .agg #[.string s0, .string s1, .string s2]] w fun e w' => e = .returned (.bool true) ∧ Below w.heap.size w w'

set_option maxHeartbeats 1000000 in
theorem law_lo (n l0 l1 : Int) (s0 s1 s2 : ByteArray) (HS : Held s0 s1 s2 s1) (h1 : Op.bytesLess s0.toList s1.toList = true) : Law n l0 l1 s0 s1 s2 := by
  intro w
  by_cases ha : n < l0
  · have hv := holdZ_lo (hi := l1) ha
    by_cases hb : l1 < n
    all_goals
      go_enter Try.func4, Try.ntmps4
      go_wp2_with (first | (go_at_call 7; refine (awake_any _).mono ?_; rintro e w' ⟨rfl, rfl⟩) | (go_at_call 9; refine (HS.out _).mono ?_; rintro e w' ⟨rfl, rfl⟩) | (go_at_call 10; refine (hold_int _ _ _ _).mono ?_; rintro e w' ⟨rfl, rfl⟩))
      go_ret
      exact ⟨rfl, ((Below.refl _ _).alloc (Nat.le_refl _) _).alloc (by simp) _⟩
  by_cases hb : l1 < n
  · have hv := holdZ_hi (hi := l1) (lo := l0) (by omega) hb
    go_enter Try.func4, Try.ntmps4
    go_wp2_with (first | (go_at_call 7; refine (awake_any _).mono ?_; rintro e w' ⟨rfl, rfl⟩) | (go_at_call 9; refine (HS.out _).mono ?_; rintro e w' ⟨rfl, rfl⟩) | (go_at_call 10; refine (hold_int _ _ _ _).mono ?_; rintro e w' ⟨rfl, rfl⟩))
    go_ret
    exact ⟨rfl, ((Below.refl _ _).alloc (Nat.le_refl _) _).alloc (by simp) _⟩
  · have hv := holdZ_in (hi := l1) (lo := l0) (n := n) (by omega) (by omega)
    go_enter Try.func4, Try.ntmps4
    go_wp2_with (first | (go_at_call 7; refine (awake_any _).mono ?_; rintro e w' ⟨rfl, rfl⟩) | (go_at_call 9; refine (HS.out _).mono ?_; rintro e w' ⟨rfl, rfl⟩) | (go_at_call 10; refine (hold_int _ _ _ _).mono ?_; rintro e w' ⟨rfl, rfl⟩))
    go_ret
    exact ⟨rfl, ((Below.refl _ _).alloc (Nat.le_refl _) _).alloc (by simp) _⟩

set_option maxHeartbeats 1000000 in
theorem law_hi (n l0 l1 : Int) (s0 s1 s2 : ByteArray) (HS : Held s0 s1 s2 s2) (h1 : Op.bytesLess s0.toList s1.toList = false) (h2 : Op.bytesLess s0.toList s2.toList = false) (h3 : (s0.toList == s2.toList) = false) : Law n l0 l1 s0 s1 s2 := by
  intro w
  by_cases ha : n < l0
  · have hv := holdZ_lo (hi := l1) ha
    by_cases hb : l1 < n
    all_goals
      go_enter Try.func4, Try.ntmps4
      go_wp2_with (first | (go_at_call 7; refine (awake_any _).mono ?_; rintro e w' ⟨rfl, rfl⟩) | (go_at_call 9; refine (HS.out _).mono ?_; rintro e w' ⟨rfl, rfl⟩) | (go_at_call 10; refine (hold_int _ _ _ _).mono ?_; rintro e w' ⟨rfl, rfl⟩))
      go_ret
      exact ⟨rfl, ((Below.refl _ _).alloc (Nat.le_refl _) _).alloc (by simp) _⟩
  by_cases hb : l1 < n
  · have hv := holdZ_hi (hi := l1) (lo := l0) (by omega) hb
    go_enter Try.func4, Try.ntmps4
    go_wp2_with (first | (go_at_call 7; refine (awake_any _).mono ?_; rintro e w' ⟨rfl, rfl⟩) | (go_at_call 9; refine (HS.out _).mono ?_; rintro e w' ⟨rfl, rfl⟩) | (go_at_call 10; refine (hold_int _ _ _ _).mono ?_; rintro e w' ⟨rfl, rfl⟩))
    go_ret
    exact ⟨rfl, ((Below.refl _ _).alloc (Nat.le_refl _) _).alloc (by simp) _⟩
  · have hv := holdZ_in (hi := l1) (lo := l0) (n := n) (by omega) (by omega)
    go_enter Try.func4, Try.ntmps4
    go_wp2_with (first | (go_at_call 7; refine (awake_any _).mono ?_; rintro e w' ⟨rfl, rfl⟩) | (go_at_call 9; refine (HS.out _).mono ?_; rintro e w' ⟨rfl, rfl⟩) | (go_at_call 10; refine (hold_int _ _ _ _).mono ?_; rintro e w' ⟨rfl, rfl⟩))
    go_ret
    exact ⟨rfl, ((Below.refl _ _).alloc (Nat.le_refl _) _).alloc (by simp) _⟩

set_option maxHeartbeats 1000000 in
theorem law_lt (n l0 l1 : Int) (s0 s1 s2 : ByteArray) (HS : Held s0 s1 s2 s0) (h1 : Op.bytesLess s0.toList s1.toList = false) (h2 : Op.bytesLess s0.toList s2.toList = true) : Law n l0 l1 s0 s1 s2 := by
  intro w
  by_cases ha : n < l0
  · have hv := holdZ_lo (hi := l1) ha
    by_cases hb : l1 < n
    all_goals
      go_enter Try.func4, Try.ntmps4
      go_wp2_with (first | (go_at_call 7; refine (awake_any _).mono ?_; rintro e w' ⟨rfl, rfl⟩) | (go_at_call 9; refine (HS.out _).mono ?_; rintro e w' ⟨rfl, rfl⟩) | (go_at_call 10; refine (hold_int _ _ _ _).mono ?_; rintro e w' ⟨rfl, rfl⟩))
      go_ret
      exact ⟨rfl, ((Below.refl _ _).alloc (Nat.le_refl _) _).alloc (by simp) _⟩
  by_cases hb : l1 < n
  · have hv := holdZ_hi (hi := l1) (lo := l0) (by omega) hb
    go_enter Try.func4, Try.ntmps4
    go_wp2_with (first | (go_at_call 7; refine (awake_any _).mono ?_; rintro e w' ⟨rfl, rfl⟩) | (go_at_call 9; refine (HS.out _).mono ?_; rintro e w' ⟨rfl, rfl⟩) | (go_at_call 10; refine (hold_int _ _ _ _).mono ?_; rintro e w' ⟨rfl, rfl⟩))
    go_ret
    exact ⟨rfl, ((Below.refl _ _).alloc (Nat.le_refl _) _).alloc (by simp) _⟩
  · have hv := holdZ_in (hi := l1) (lo := l0) (n := n) (by omega) (by omega)
    go_enter Try.func4, Try.ntmps4
    go_wp2_with (first | (go_at_call 7; refine (awake_any _).mono ?_; rintro e w' ⟨rfl, rfl⟩) | (go_at_call 9; refine (HS.out _).mono ?_; rintro e w' ⟨rfl, rfl⟩) | (go_at_call 10; refine (hold_int _ _ _ _).mono ?_; rintro e w' ⟨rfl, rfl⟩))
    go_ret
    exact ⟨rfl, ((Below.refl _ _).alloc (Nat.le_refl _) _).alloc (by simp) _⟩

set_option maxHeartbeats 1000000 in
theorem law_eq (n l0 l1 : Int) (s0 s1 s2 : ByteArray) (HS : Held s0 s1 s2 s0) (h1 : Op.bytesLess s0.toList s1.toList = false) (h2 : Op.bytesLess s0.toList s2.toList = false) (h3 : (s0.toList == s2.toList) = true) : Law n l0 l1 s0 s1 s2 := by
  intro w
  by_cases ha : n < l0
  · have hv := holdZ_lo (hi := l1) ha
    by_cases hb : l1 < n
    all_goals
      go_enter Try.func4, Try.ntmps4
      go_wp2_with (first | (go_at_call 7; refine (awake_any _).mono ?_; rintro e w' ⟨rfl, rfl⟩) | (go_at_call 9; refine (HS.out _).mono ?_; rintro e w' ⟨rfl, rfl⟩) | (go_at_call 10; refine (hold_int _ _ _ _).mono ?_; rintro e w' ⟨rfl, rfl⟩))
      go_ret
      exact ⟨rfl, ((Below.refl _ _).alloc (Nat.le_refl _) _).alloc (by simp) _⟩
  by_cases hb : l1 < n
  · have hv := holdZ_hi (hi := l1) (lo := l0) (by omega) hb
    go_enter Try.func4, Try.ntmps4
    go_wp2_with (first | (go_at_call 7; refine (awake_any _).mono ?_; rintro e w' ⟨rfl, rfl⟩) | (go_at_call 9; refine (HS.out _).mono ?_; rintro e w' ⟨rfl, rfl⟩) | (go_at_call 10; refine (hold_int _ _ _ _).mono ?_; rintro e w' ⟨rfl, rfl⟩))
    go_ret
    exact ⟨rfl, ((Below.refl _ _).alloc (Nat.le_refl _) _).alloc (by simp) _⟩
  · have hv := holdZ_in (hi := l1) (lo := l0) (n := n) (by omega) (by omega)
    go_enter Try.func4, Try.ntmps4
    go_wp2_with (first | (go_at_call 7; refine (awake_any _).mono ?_; rintro e w' ⟨rfl, rfl⟩) | (go_at_call 9; refine (HS.out _).mono ?_; rintro e w' ⟨rfl, rfl⟩) | (go_at_call 10; refine (hold_int _ _ _ _).mono ?_; rintro e w' ⟨rfl, rfl⟩))
    go_ret
    exact ⟨rfl, ((Below.refl _ _).alloc (Nat.le_refl _) _).alloc (by simp) _⟩

theorem law_all (n l0 l1 : Int) (s0 s1 s2 : ByteArray) : Law n l0 l1 s0 s1 s2 := by
  by_cases h1 : Op.bytesLess s0.toList s1.toList = true
  · exact law_lo n l0 l1 s0 s1 s2 (held_of _ _ _ _ (by simp [holdS, ltS, h1])) h1
  have h1 : Op.bytesLess s0.toList s1.toList = false := by simpa using h1
  by_cases h2 : Op.bytesLess s0.toList s2.toList = true
  · exact law_lt n l0 l1 s0 s1 s2 (held_of _ _ _ _ (by simp [holdS, ltS, gtS, h1, h2])) h1 h2
  have h2 : Op.bytesLess s0.toList s2.toList = false := by simpa using h2
  by_cases h3 : (s0.toList == s2.toList) = true
  · exact law_eq n l0 l1 s0 s1 s2 (held_of _ _ _ _ (by simp only [holdS, ltS, gtS, h1, h2, h3]; rfl)) h1 h2 h3
  have h3 : (s0.toList == s2.toList) = false := by simpa using h3
  exact law_hi n l0 l1 s0 s1 s2 (held_of _ _ _ _ (by simp only [holdS, ltS, gtS, h1, h2, h3]; rfl)) h1 h2 h3

theorem cells26 : Try.prog.cellsOf 26 = 2 := by kernel_rfl
theorem cells27 : Try.prog.cellsOf 27 = 3 := by kernel_rfl
theorem cells3 : Try.prog.cellsOf 3 = 1 := by kernel_rfl
theorem cells9 : Try.prog.cellsOf 9 = 1 := by kernel_rfl

namespace natHolds
theorem walk {H : Type} (enc : TypeId × Value → H) (W : World) (base : Nat) (v0 v1 v2 : Value) {d0 d1 d2 : DataW H} {p0 p1 p2 : List MemPlace} (o0 : Value.okWide Try.prog W .any base 3 v0) (h0 : DataW.Trod enc Try.prog W 0 (fun _ => true) true 3 v0 d0 p0) (o1 : Value.okWide Try.prog W .any base 26 v1) (h1 : DataW.Trod enc Try.prog W 0 (fun _ => true) true 26 v1 d1 p1) (o2 : Value.okWide Try.prog W .any base 27 v2) (h2 : DataW.Trod enc Try.prog W 0 (fun _ => true) true 27 v2 d2 p2) :
    Calls Try.prog 4 #[v0, v1, v2] W fun e w' => e = .returned (.bool true) ∧ Below W.heap.size W w' := by
  obtain ⟨n, rfl, _, _, _⟩ := open_int Try.underlying3 o0 h0
  obtain ⟨c1, rfl, s1⟩ := okWide_array Try.underlying26 o1
  obtain ⟨c2, rfl, s2⟩ := okWide_array Try.underlying27 o2
  rw [cells26] at s1
  rw [cells27] at s2
  obtain ⟨a0, a1, rfl⟩ := Go.Joins.array2 s1
  obtain ⟨b0, b1, b2, rfl⟩ := Go.Joins.array3 s2
  obtain ⟨f1, g1⟩ := h1
  obtain ⟨f2, g2⟩ := h2
  obtain ⟨xs, m, _, _, _, hx, hi⟩ := DataW.trod_array Try.underlying26 g1
  obtain ⟨y0, y1, y2, k, _, t0, t1, t2⟩ := trod_array3 Try.underlying27 cells9 g2
  have e0 := hi 0 (by omega)
  have e1 := hi 1 (by omega)
  rw [cells3] at e0 e1
  rw [List.getElem?_eq_getElem (by omega)] at e0 e1
  obtain ⟨x0, q0, _, _⟩ := DataW.trod_int Try.underlying3 e0
  obtain ⟨x1, q1, _, _⟩ := DataW.trod_int Try.underlying3 e1
  obtain ⟨u0, r0, _, _⟩ := DataW.trod_string Try.underlying9 t0
  obtain ⟨u1, r1, _, _⟩ := DataW.trod_string Try.underlying9 t1
  obtain ⟨u2, r2, _, _⟩ := DataW.trod_string Try.underlying9 t2
  simp [Value.cells] at q0 q1 r0 r1 r2
  subst q0 q1 r0 r1 r2
  exact law_all n x0 x1 u0 u1 u2 W
end natHolds
end Go.Proofs.Ythiepcajpgfjfaa
