/-
  Contracts of Right of package place and of its reference.
-/
import Derived.Test.YtcgfjobdpcdhhaaShares
namespace Go.Proofs.Ytcgfjobdpcdhhaa
open Go.RowKit Go.BigFrame
set_option linter.unusedVariables false

def okAt (l : List Sh) (nodes : Int) (j : Nat) (hj : j < l.length) : Prop :=
  0 ≤ l[j].node ∧ l[j].node < nodes ∧ 1 ≤ l[j].many ∧ l[j].many ≤ 64 ∧ ∀ h : 0 < j, l[j - 1].node < l[j].node
def RightP (l : List Sh) (nodes : Int) : Prop := ∀ j (hj : j < l.length), okAt l nodes j hj
open Classical in
noncomputable def rightB (l : List Sh) (nodes : Int) : Bool := decide (RightP l nodes)
theorem rightB_no {l : List Sh} {nodes : Int} (h : ¬ RightP l nodes) : rightB l nodes = false := by simp [rightB, h]
theorem rightB_yes {l : List Sh} {nodes : Int} (h : RightP l nodes) : rightB l nodes = true := by simp [rightB, h]
def lastOf (l : List Sh) (k : Nat) : Int := if k = 0 then -1 else match l[k - 1]? with | some s => s.node | none => 0
theorem last_pos {l : List Sh} {k : Nat} (hk : 0 < k) (hl : k - 1 < l.length) : lastOf l k = l[k - 1].node := by
  simp only [lastOf]; rw [if_neg (by omega), List.getElem?_eq_getElem hl]
theorem last_next {l : List Sh} {k : Nat} (hk : k < l.length) : lastOf l (k + 1) = l[k].node := by
  rw [last_pos (by omega) (by simpa using hk)]; rfl

set_option maxHeartbeats 2000000 in
theorem pright_any (A : Option Addr) (cap B : Nat) (l : List Sh) (nodes : Int) (w : World) (hr : Row w B A (flat l)) (hB : B ≤ w.heap.size) (hn : l.length ≤ 1000) :
    Calls Try.prog 31 #[.slice A l.length cap, .int .i64 nodes] w fun e w' => e = .returned (.bool (rightB l nodes)) ∧ Below w.heap.size w w' := by
  go_enter Try.func31, Try.ntmps31
  go_wp2
  go_loopw [5, 10] (fun n i wr => ∃ k : Nat, k ≤ l.length ∧ i = .int .i64 k ∧ n = .int .i64 (lastOf l k) ∧ Hid (∀ j (hj : j < l.length), j < k → okAt l nodes j hj) ∧ Below w.heap.size w wr) (fun _ i _ => l.length - (intOf i).toNat)
  case atStart => exact ⟨0, Nat.zero_le _, rfl, rfl, fun j _ hj => by omega, Below.refl _ _⟩
  case round =>
    obtain ⟨k, hk, rfl, rfl, hall, hbel⟩ := hrel
    by_cases hlt : k < l.length
    · obtain ⟨b, off, rfl, _, g0, g1⟩ := ((hr.more hB).below hbel).sh hlt
      have hz := hbel.size
      by_cases h1 : l[k].node ≤ lastOf l k
      · have HR := Lib.hid (rightB_no (l := l) (nodes := nodes) (fun h => by
          have hh := h k hlt
          rcases Nat.eq_zero_or_pos k with h0 | h0
          · subst h0; have := hh.1; simp [lastOf] at h1; omega
          · have := hh.2.2.2.2 h0; rw [last_pos h0 (by omega)] at h1; omega))
        go_wp2
        go_ret
        exact ⟨retBool HR.out.symm, hbel.alloc hz _⟩
      by_cases h2 : nodes ≤ l[k].node
      · have HR := Lib.hid (rightB_no (l := l) (nodes := nodes) (fun h => by have := (h k hlt).2.1; omega))
        go_wp2
        go_ret
        exact ⟨retBool HR.out.symm, hbel.alloc hz _⟩
      by_cases h3 : l[k].many < 1
      · have HR := Lib.hid (rightB_no (l := l) (nodes := nodes) (fun h => by have := (h k hlt).2.2.1; omega))
        go_wp2
        go_ret
        exact ⟨retBool HR.out.symm, hbel.alloc hz _⟩
      by_cases h4 : 64 < l[k].many
      · have HR := Lib.hid (rightB_no (l := l) (nodes := nodes) (fun h => by have := (h k hlt).2.2.2.1; omega))
        go_wp2
        go_ret
        exact ⟨retBool HR.out.symm, hbel.alloc hz _⟩
      have HOK : Hid (okAt l nodes k hlt) := by
        rcases Nat.eq_zero_or_pos k with h0 | h0
        · subst h0; simp [lastOf] at h1; exact ⟨by omega, by omega, by omega, by omega, fun h => by omega⟩
        · have := (hall.out (k - 1) (by omega) (by omega)).1
          rw [last_pos h0 (by omega)] at h1
          exact ⟨by omega, by omega, by omega, by omega, fun h => by omega⟩
      go_wp2
      go_roundw
      case rel =>
        refine ⟨k + 1, by omega, by go_num, by rw [last_next hlt], fun j hj hjk => ?_, hbel.alloc hz _⟩
        rcases Nat.lt_or_ge j k with h | h
        · exact hall.out j hj h
        · obtain rfl : j = k := by omega
          exact HOK
      case measure => simp [intOf]; omega
    · obtain rfl : k = l.length := by omega
      have HR := Lib.hid (rightB_yes (l := l) (nodes := nodes) (fun j hj => hall.out j hj hj))
      go_wp2
      go_ret
      exact ⟨retBool HR.out.symm, hbel⟩

set_option maxHeartbeats 4000000 in
theorem qright_any (A : Option Addr) (cap B : Nat) (l : List Sh) (nodes : Int) (w : World) (hr : Row w B A (flat l)) (hB : B ≤ w.heap.size) (hn : l.length ≤ 1000) :
    Calls Try.prog 32 #[.slice A l.length cap, .int .i64 nodes] w fun e w' => e = .returned (.bool (rightB l nodes)) ∧ Below w.heap.size w w' := by
  go_enter Try.func32, Try.ntmps32
  go_wp2
  go_loopw [5] (fun i wr => ∃ k : Nat, k ≤ l.length ∧ i = .int .i64 k ∧ Hid (∀ j (hj : j < l.length), j < k → okAt l nodes j hj) ∧ Below w.heap.size w wr) (fun i _ => l.length - (intOf i).toNat)
  case atStart => exact ⟨0, Nat.zero_le _, rfl, fun j _ hj => by omega, Below.refl _ _⟩
  case round =>
    obtain ⟨k, hk, rfl, hall, hbel⟩ := hrel
    by_cases hlt : k < l.length
    · obtain ⟨b, off, rfl, hb0, g0, g1⟩ := ((hr.more hB).below hbel).sh hlt
      have hz := hbel.size
      have c0 : ∀ u : Later wr, u.val.cell? ⟨b, off + k * 2, none⟩ = some (.int .i64 l[k].node) := fun u => (u.cell (by show b < wr.heap.size; omega)).trans g0
      have c1 : ∀ u : Later wr, u.val.cell? ⟨b, off + k * 2 + 1, none⟩ = some (.int .i64 l[k].many) := fun u => (u.cell (by show b < wr.heap.size; omega)).trans g1
      clear g0 g1
      by_cases h1 : l[k].node < 0
      · have HR := Lib.hid (rightB_no (l := l) (nodes := nodes) (fun h => by have := (h k hlt).1; omega))
        have d1 : decide (l[k].node < 0) = true := by simpa using h1
        go_wp2
        refine wp_region_later (by kernel_rfl) (by kernel_rfl) ?_
        repeat (go_big_quiet_step (fail))
        refine wpQuiet_nil ?_
        intro w1 hw1
        obtain ⟨⟨w1, hb1⟩, rfl⟩ := hw1
        go_wp2
        go_ret
        exact ⟨retBool HR.out.symm, hbel.trans (hb1.mono hz)⟩
      have d1 : decide (l[k].node < 0) = false := by simpa using h1
      by_cases h2 : nodes ≤ l[k].node
      · have HR := Lib.hid (rightB_no (l := l) (nodes := nodes) (fun h => by have := (h k hlt).2.1; omega))
        have dh2 : decide (nodes ≤ l[k].node) = true := by simpa using h2
        go_wp2
        refine wp_region_later (by kernel_rfl) (by kernel_rfl) ?_
        repeat (go_big_quiet_step (fail))
        refine wpQuiet_nil ?_
        intro w1 hw1
        obtain ⟨⟨w1, hb1⟩, rfl⟩ := hw1
        go_wp2
        go_ret
        exact ⟨retBool HR.out.symm, hbel.trans (hb1.mono hz)⟩
      have dh2 : decide (nodes ≤ l[k].node) = false := by simpa using h2
      by_cases h3 : l[k].many < 1
      · have HR := Lib.hid (rightB_no (l := l) (nodes := nodes) (fun h => by have := (h k hlt).2.2.1; omega))
        have dh3 : decide (l[k].many < 1) = true := by simpa using h3
        go_wp2
        refine wp_region_later (by kernel_rfl) (by kernel_rfl) ?_
        repeat (go_big_quiet_step (fail))
        refine wpQuiet_nil ?_
        intro w1 hw1
        obtain ⟨⟨w1, hb1⟩, rfl⟩ := hw1
        go_wp2
        go_ret
        exact ⟨retBool HR.out.symm, hbel.trans (hb1.mono hz)⟩
      have dh3 : decide (l[k].many < 1) = false := by simpa using h3
      by_cases h4 : 64 < l[k].many
      · have HR := Lib.hid (rightB_no (l := l) (nodes := nodes) (fun h => by have := (h k hlt).2.2.2.1; omega))
        have dh4 : decide (64 < l[k].many) = true := by simpa using h4
        go_wp2
        refine wp_region_later (by kernel_rfl) (by kernel_rfl) ?_
        repeat (go_big_quiet_step (fail))
        refine wpQuiet_nil ?_
        intro w1 hw1
        obtain ⟨⟨w1, hb1⟩, rfl⟩ := hw1
        go_wp2
        go_ret
        exact ⟨retBool HR.out.symm, hbel.trans (hb1.mono hz)⟩
      have dh4 : decide (64 < l[k].many) = false := by simpa using h4
      by_cases h0 : k < 1
      · have HOK : Hid (okAt l nodes k hlt) := ⟨by omega, by omega, by omega, by omega, fun h => by omega⟩
        have hdk : decide (0 < k) = false := by simp; omega
        go_wp2
        refine wp_region_later (by kernel_rfl) (by kernel_rfl) ?_
        repeat (go_big_quiet_step (fail))
        refine wpQuiet_nil ?_
        intro w1 hw1
        obtain ⟨⟨w1, hb1⟩, rfl⟩ := hw1
        go_wp2
        go_roundw
        case rel =>
          refine ⟨k + 1, by omega, by go_num, fun j hj hjk => ?_, hbel.trans (hb1.mono hz)⟩
          rcases Nat.lt_or_ge j k with h | h
          · exact hall.out j hj h
          · obtain rfl : j = k := by omega
            exact HOK
        case measure => simp [intOf]; omega
      have hdk : decide (0 < k) = true := by simp; omega
      have hi2 : ((k : Int) - 1).toNat = k - 1 := by omega
      have c2 : ∀ u : Later wr, u.val.cell? ⟨b, off + (k - 1) * 2, none⟩ = some (.int .i64 l[k - 1].node) := by
        obtain ⟨b', off', e, _, p0, _⟩ := ((hr.more hB).below hbel).sh (show k - 1 < l.length by omega)
        cases e
        exact fun u => (u.cell (by show b < wr.heap.size; omega)).trans p0
      by_cases h5 : l[k].node ≤ l[k - 1].node
      · have HR := Lib.hid (rightB_no (l := l) (nodes := nodes) (fun h => by have := (h k hlt).2.2.2.2 (by omega); omega))
        have d5 : decide (l[k].node ≤ l[k - 1].node) = true := by simpa using h5
        go_wp2
        refine wp_region_later (by kernel_rfl) (by kernel_rfl) ?_
        repeat (go_big_quiet_step (fail))
        refine wpQuiet_nil ?_
        intro w1 hw1
        obtain ⟨⟨w1, hb1⟩, rfl⟩ := hw1
        go_wp2
        go_ret
        exact ⟨retBool HR.out.symm, hbel.trans (hb1.mono hz)⟩
      · have HOK : Hid (okAt l nodes k hlt) := ⟨by omega, by omega, by omega, by omega, fun h => by omega⟩
        have d5 : decide (l[k].node ≤ l[k - 1].node) = false := by simpa using h5
        go_wp2
        refine wp_region_later (by kernel_rfl) (by kernel_rfl) ?_
        repeat (go_big_quiet_step (fail))
        refine wpQuiet_nil ?_
        intro w1 hw1
        obtain ⟨⟨w1, hb1⟩, rfl⟩ := hw1
        go_wp2
        go_roundw
        case rel =>
          refine ⟨k + 1, by omega, by go_num, fun j hj hjk => ?_, hbel.trans (hb1.mono hz)⟩
          rcases Nat.lt_or_ge j k with h | h
          · exact hall.out j hj h
          · obtain rfl : j = k := by omega
            exact HOK
        case measure => simp [intOf]; omega
    · obtain rfl : k = l.length := by omega
      have HR := Lib.hid (rightB_yes (l := l) (nodes := nodes) (fun j hj => hall.out j hj hj))
      go_wp2
      go_ret
      exact ⟨retBool HR.out.symm, hbel⟩
end Go.Proofs.Ytcgfjobdpcdhhaa
