/-
  Contracts of package book and of its reference: what each function answers.
-/
import Derived.Test.YtdnhgmkcfoojdaaRows
import Derived.Test.YtdnhgmkcfoojdaaWords
import Derived.WalkKit
import Derived.WalkSpells
import Derived.WalkLawsBesides
import Derived.WalkSmall
import Derived.Outline
import Derived.RegionTactic
import Derived.Deep.QuietTactic
import Derived.BigQuiet
namespace Go.Proofs.Ytdnhgmkcfoojdaa
open Go.RowKit
set_option linter.unusedVariables false

/-- A booking: its four numbers. -/
structure Bk where
  id : Int
  node : Int
  lo : Int
  hi : Int
deriving DecidableEq

def Bk.cs (b : Bk) : List Value := [.int .i64 b.id, .int .i64 b.node, .int .i64 b.lo, .int .i64 b.hi]
abbrev Bk.val (b : Bk) : Value := .agg #[.int .i64 b.id, .int .i64 b.node, .int .i64 b.lo, .int .i64 b.hi]
def flat (l : List Bk) : List Value := l.flatMap Bk.cs
theorem flat_len (l : List Bk) : (flat l).length = 4 * l.length := by
  induction l with
  | nil => rfl
  | cons b r ih => simp [flat, Bk.cs] at *; omega
theorem flat_get (l : List Bk) (k : Nat) (hk : k < l.length) : (flat l)[k * 4]? = some (.int .i64 l[k].id) ∧ (flat l)[k * 4 + 1]? = some (.int .i64 l[k].node) ∧ (flat l)[k * 4 + 2]? = some (.int .i64 l[k].lo) ∧ (flat l)[k * 4 + 3]? = some (.int .i64 l[k].hi) := by
  induction l generalizing k with
  | nil => simp at hk
  | cons b r ih =>
    cases k with
    | zero => simp [flat, Bk.cs]
    | succ k =>
      have := ih k (by simpa using hk)
      have e : (k + 1) * 4 = k * 4 + 4 := by omega
      rw [e]
      simp only [flat, List.flatMap_cons, Bk.cs] at this ⊢
      simpa using this
/-- The four cells of an element. -/
theorem Row.bk {w : World} {B : Nat} {A : Option Addr} {l : List Bk} {k : Nat} (h : Row w B A (flat l)) (hk : k < l.length) :
    ∃ b off, A = some ⟨b, off, none⟩ ∧ b < B ∧ w.cell? ⟨b, off + k * 4, none⟩ = some (.int .i64 l[k].id) ∧ w.cell? ⟨b, off + k * 4 + 1, none⟩ = some (.int .i64 l[k].node) ∧ w.cell? ⟨b, off + k * 4 + 2, none⟩ = some (.int .i64 l[k].lo) ∧ w.cell? ⟨b, off + k * 4 + 3, none⟩ = some (.int .i64 l[k].hi) := by
  obtain ⟨b, off, e, hb, hc⟩ := h (by rw [flat_len]; omega)
  obtain ⟨g0, g1, g2, g3⟩ := flat_get l k hk
  refine ⟨b, off, e, hb, hc _ _ g0, ?_, ?_, ?_⟩
  · rw [Nat.add_assoc]; exact hc _ _ g1
  · rw [Nat.add_assoc]; exact hc _ _ g2
  · rw [Nat.add_assoc]; exact hc _ _ g3

def meetP (b : Bk) (node lo hi : Int) : Prop := b.node = node ∧ b.lo < b.hi ∧ lo < hi ∧ b.lo < hi ∧ lo < b.hi
instance (b : Bk) (node lo hi : Int) : Decidable (meetP b node lo hi) := by unfold meetP; infer_instance
def meetsB (l : List Bk) (node lo hi : Int) : Bool := l.any fun b => decide (meetP b node lo hi)
theorem meets_yes {l : List Bk} {node lo hi : Int} (k : Nat) (hk : k < l.length) (h : meetP l[k] node lo hi) : meetsB l node lo hi = true := by
  simp only [meetsB, List.any_eq_true, decide_eq_true_eq]; exact ⟨_, List.getElem_mem hk, h⟩
theorem meets_next {l : List Bk} {node lo hi : Int} (k : Nat) (hk : k < l.length) (h0 : meetsB (l.take k) node lo hi = false) (h : ¬ meetP l[k] node lo hi) : meetsB (l.take (k + 1)) node lo hi = false := by
  rw [List.take_succ_eq_append_getElem hk]
  simp only [meetsB, List.any_append] at *
  rw [h0]; simp [h]
theorem meets_all {l : List Bk} {node lo hi : Int} {k : Nat} (hk : l.length ≤ k) (h0 : meetsB (l.take k) node lo hi = false) : meetsB l node lo hi = false := by
  rwa [List.take_of_length_le hk] at h0

set_option maxHeartbeats 1000000 in
theorem meets_any (A : Option Addr) (cap B : Nat) (l : List Bk) (node lo hi : Int) (w : World) (hr : Row w B A (flat l)) (hB : B ≤ w.heap.size) (hn : l.length ≤ 1000) :
    Calls Try.prog 12 #[.slice A l.length cap, .int .i64 node, .int .i64 lo, .int .i64 hi] w fun e w' => e = .returned (.bool (meetsB l node lo hi)) ∧ Below w.heap.size w w' := by
  go_enter Try.func12, Try.ntmps12
  go_wp2
  go_loopw [13] (fun i wr => ∃ k : Nat, k ≤ l.length ∧ i = .int .i64 k ∧ Hid (meetsB (l.take k) node lo hi = false) ∧ Below w.heap.size w wr) (fun i _ => l.length - (intOf i).toNat)
  case atStart => exact ⟨0, Nat.zero_le _, rfl, rfl, Below.refl _ _⟩
  case round =>
    obtain ⟨k, hk, rfl, hall, hbel⟩ := hrel
    have hz := hbel.size
    by_cases hlt : k < l.length
    · obtain ⟨b, off, rfl, hbB, g0, g1, g2, g3⟩ := ((hr.more hB).below hbel).bk hlt
      by_cases hm : meetP l[k] node lo hi
      · have HM := Lib.hid (meets_yes k hlt hm)
        obtain ⟨m0, m1, m2, m3, m4⟩ := hm
        have q0 : (l[k].node == node) = true := by simp [m0]
        clear m0
        by_cases c1 : l[k].lo < lo <;> by_cases c2 : hi < l[k].hi
        all_goals
          go_wp2
          go_ret
          exact ⟨retBool HM.out.symm, hbel.alloc hz _⟩
      · have HM := Lib.hid (meets_next k hlt hall.out hm)
        by_cases m0 : l[k].node = node
        · have q0 : (l[k].node == node) = true := by simp [m0]
          have m1 : ¬ (l[k].lo < l[k].hi ∧ lo < hi ∧ l[k].lo < hi ∧ lo < l[k].hi) := fun h => hm ⟨m0, h⟩
          clear m0 hm
          by_cases c1 : l[k].lo < lo <;> by_cases c2 : hi < l[k].hi
          all_goals
            first
              | (have c3 : hi ≤ lo := by omega)
              | (have c3 : hi ≤ l[k].lo := by omega)
              | (have c3 : l[k].hi ≤ lo := by omega)
              | (have c3 : l[k].hi ≤ l[k].lo := by omega)
            clear m1
            go_wp2
            go_roundw
            case rel => exact ⟨k + 1, by omega, by go_num, HM, hbel.alloc hz _⟩
            case measure => simp [intOf]; omega
        · have q0 : (l[k].node == node) = false := by simp [m0]
          clear m0 hm
          go_wp2
          go_roundw
          case rel => exact ⟨k + 1, by omega, by go_num, HM, hbel.alloc hz _⟩
          case measure => simp [intOf]; omega
    · have HM := Lib.hid (meets_all (show l.length ≤ k by omega) hall.out)
      go_wp2
      go_ret
      exact ⟨retBool HM.out.symm, hbel⟩

set_option maxHeartbeats 1000000 in
theorem rmeets_any (A : Option Addr) (cap B : Nat) (l : List Bk) (node lo hi : Int) (w : World) (hr : Row w B A (flat l)) (hB : B ≤ w.heap.size) (hn : l.length ≤ 1000) :
    Calls Try.prog 16 #[.slice A l.length cap, .int .i64 node, .int .i64 lo, .int .i64 hi] w fun e w' => e = .returned (.bool (meetsB l node lo hi)) ∧ Below w.heap.size w w' := by
  go_enter Try.func16, Try.ntmps16
  go_wp2
  go_loopw [9] (fun i wr => ∃ k : Nat, k ≤ l.length ∧ i = .int .i64 k ∧ Hid (meetsB (l.take k) node lo hi = false) ∧ Below w.heap.size w wr) (fun i _ => l.length - (intOf i).toNat)
  case atStart => exact ⟨0, Nat.zero_le _, rfl, rfl, Below.refl _ _⟩
  case round =>
    obtain ⟨k, hk, rfl, hall, hbel⟩ := hrel
    have hz := hbel.size
    by_cases hlt : k < l.length
    · obtain ⟨b, off, rfl, hbB, g0, g1, g2, g3⟩ := ((hr.more hB).below hbel).bk hlt
      by_cases hm : meetP l[k] node lo hi
      · have HM := Lib.hid (meets_yes k hlt hm)
        obtain ⟨m0, m1, m2, m3, m4⟩ := hm
        have q0 : (l[k].node == node) = true := by simp [m0]
        clear m0
        go_wp2
        go_ret
        exact ⟨retBool HM.out.symm, hbel.alloc hz _⟩
      · have HM := Lib.hid (meets_next k hlt hall.out hm)
        by_cases m0 : l[k].node = node
        · have q0 : (l[k].node == node) = true := by simp [m0]
          have m1 : ¬ (l[k].lo < l[k].hi ∧ lo < hi ∧ l[k].lo < hi ∧ lo < l[k].hi) := fun h => hm ⟨m0, h⟩
          clear m0 hm
          by_cases c1 : l[k].lo < l[k].hi
          · by_cases c2 : lo < hi
            · by_cases c3 : l[k].lo < hi
              · have c4 : l[k].hi ≤ lo := by omega
                clear m1
                go_wp2
                go_roundw
                case rel => exact ⟨k + 1, by omega, by go_num, HM, hbel.alloc hz _⟩
                case measure => simp [intOf]; omega
              · clear m1
                go_wp2
                go_roundw
                case rel => exact ⟨k + 1, by omega, by go_num, HM, hbel.alloc hz _⟩
                case measure => simp [intOf]; omega
            · clear m1
              go_wp2
              go_roundw
              case rel => exact ⟨k + 1, by omega, by go_num, HM, hbel.alloc hz _⟩
              case measure => simp [intOf]; omega
          · clear m1
            go_wp2
            go_roundw
            case rel => exact ⟨k + 1, by omega, by go_num, HM, hbel.alloc hz _⟩
            case measure => simp [intOf]; omega
        · have q0 : (l[k].node == node) = false := by simp [m0]
          clear m0 hm
          go_wp2
          go_roundw
          case rel => exact ⟨k + 1, by omega, by go_num, HM, hbel.alloc hz _⟩
          case measure => simp [intOf]; omega
    · have HM := Lib.hid (meets_all (show l.length ≤ k by omega) hall.out)
      go_wp2
      go_ret
      exact ⟨retBool HM.out.symm, hbel⟩
end Go.Proofs.Ytdnhgmkcfoojdaa
