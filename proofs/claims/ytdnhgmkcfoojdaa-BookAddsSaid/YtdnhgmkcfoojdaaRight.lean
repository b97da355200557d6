/-
  The contract of book.Right: whether bookings are right.
-/
import Derived.Test.YtdnhgmkcfoojdaaWhole
import Derived.Test.YtdnhgmkcfoojdaaLater
namespace Go.Proofs.Ytdnhgmkcfoojdaa
open Go.RowKit
set_option linter.unusedVariables false
open Go.BigFrame

/-- What Right asks of the element at k. -/
def okAt (l : List Bk) (nodes : Int) (k : Nat) (hk : k < l.length) : Prop :=
  wholeP l[k] nodes ∧ (∀ h : 0 < k, l[k - 1].id < l[k].id) ∧ meetsB (l.take k) l[k].node l[k].lo l[k].hi = false
def RightP (l : List Bk) (nodes : Int) : Prop := l.length ≤ 16 ∧ ∀ k (hk : k < l.length), okAt l nodes k hk
noncomputable def rightB (l : List Bk) (nodes : Int) : Bool := @decide (RightP l nodes) (Classical.propDecidable _)
theorem rightB_yes {l : List Bk} {nodes : Int} (h : RightP l nodes) : rightB l nodes = true := by simp [rightB, h]
theorem rightB_no {l : List Bk} {nodes : Int} (h : ¬ RightP l nodes) : rightB l nodes = false := by simp [rightB, h]

theorem meets_at (A : Option Addr) (cap B n : Nat) (l : List Bk) (node lo hi : Int) (w : World) (hl : l.length = n) (hr : Row w B A (flat l)) (hB : B ≤ w.heap.size) (hn : n ≤ 1000) :
    Calls Try.prog 12 #[.slice A n cap, .int .i64 node, .int .i64 lo, .int .i64 hi] w fun e w' => e = .returned (.bool (meetsB l node lo hi)) ∧ Below w.heap.size w w' := by
  subst hl; exact meets_any A cap B l node lo hi w hr hB hn

theorem box_facts {w wr : World} (b : Bk) (hbel : Below w.heap.size w wr) : ∃ wa, wr.alloc (Obj.cells #[Value.int IntKind.i64 b.id, Value.int IntKind.i64 b.node, Value.int IntKind.i64 b.lo, Value.int IntKind.i64 b.hi] 24) = wa ∧ Below w.heap.size w wa ∧
    (∀ u : Later wa, u.val.cell? ⟨wr.heap.size, 0, none⟩ = some (.int .i64 b.id)) ∧ (∀ u : Later wa, u.val.cell? ⟨wr.heap.size, 1, none⟩ = some (.int .i64 b.node)) ∧
    (∀ u : Later wa, u.val.cell? ⟨wr.heap.size, 2, none⟩ = some (.int .i64 b.lo)) ∧ (∀ u : Later wa, u.val.cell? ⟨wr.heap.size, 3, none⟩ = some (.int .i64 b.hi)) :=
  ⟨_, rfl, hbel.alloc hbel.size _, fun u => (u.cell (by simp)).trans (by simp), fun u => (u.cell (by simp)).trans (by simp), fun u => (u.cell (by simp)).trans (by simp), fun u => (u.cell (by simp)).trans (by simp)⟩

set_option maxHeartbeats 4000000 in
theorem right_any (A : Option Addr) (cap B : Nat) (l : List Bk) (nodes : Int) (w : World) (hr : Row w B A (flat l)) (hB : B ≤ w.heap.size) (hn : l.length ≤ 1000) (hcap : l.length ≤ cap) :
    Calls Try.prog 10 #[.slice A l.length cap, .int .i64 nodes] w fun e w' => e = .returned (.bool (rightB l nodes)) ∧ Below w.heap.size w w' := by
  by_cases h16 : 16 < l.length
  · have HR := Lib.hid (rightB_no (l := l) (nodes := nodes) (fun h => by have := h.1; omega))
    go_enter Try.func10, Try.ntmps10
    go_wp2
    go_ret
    exact ⟨retBool HR.out.symm, Below.refl _ _⟩
  go_enter Try.func10, Try.ntmps10
  go_wp2
  go_loopw [12] (fun i wr => ∃ k : Nat, k ≤ l.length ∧ i = .int .i64 k ∧ Hid (∀ j (hj : j < l.length), j < k → okAt l nodes j hj) ∧ Below w.heap.size w wr) (fun i _ => l.length - (intOf i).toNat)
  case atStart => exact ⟨0, Nat.zero_le _, rfl, fun j _ hj => by omega, Below.refl _ _⟩
  case round =>
    obtain ⟨k, hk, rfl, hall, hbel⟩ := hrel
    have hz := hbel.size
    by_cases hlt : k < l.length
    · have hrw : Row w w.heap.size A (flat l) := hr.more hB
      obtain ⟨b, off, rfl, hbB, g0, g1, g2, g3⟩ := (hrw.below hbel).bk hlt
      by_cases hw : wholeP l[k] nodes
      rotate_left
      · have hwb := wholeB_no hw
        have HR := Lib.hid (rightB_no (l := l) (nodes := nodes) (fun h => hw (h.2 k hlt).1))
        go_wp2
        obtain ⟨wa, hwa, hba, c0, c1, c2, c3⟩ := box_facts l[k] hbel
        rw [hwa]
        clear hwa
        refine wp_region_later (by kernel_rfl) (by kernel_rfl) ?_
        repeat (go_big_quiet_step ((go_at_call 13; exact later_of (whole_any l[k] _ _))))
        refine wpQuiet_nil ?_
        intro w1 hw1
        obtain ⟨⟨w1, hb1⟩, rfl⟩ := hw1
        go_wp2
        go_ret
        exact ⟨retBool HR.out.symm, hba.trans (hb1.mono hba.size)⟩
      have hwb := wholeB_yes hw
      have hft := Lib.hid (flat_take l k (by omega))
      have hrt : Row w w.heap.size (some ⟨b, off, none⟩) (flat (l.take k)) := by rw [hft.out]; exact hrw.take _
      have hlt2 : Hid ((l.take k).length = k) := by show _ = _; rw [List.length_take]; omega
      have hi1 : (k : Int) ≤ (cap : Int) := by omega
      have hi0 : (0 : Int) ≤ (k : Int) := by omega
      by_cases h0 : k < 1
      · have hm : meetsB (l.take k) l[k].node l[k].lo l[k].hi = false := by obtain rfl : k = 0 := by omega
                                                                            simp [meetsB]
        have HOK : Hid (okAt l nodes k hlt) := ⟨hw, fun h => by omega, hm⟩
        have hdk : decide (0 < k) = false := by simp; omega
        clear hw
        go_wp2
        obtain ⟨wa, hwa, hba, c0, c1, c2, c3⟩ := box_facts l[k] hbel
        rw [hwa]
        clear hwa
        refine wp_region_later (by kernel_rfl) (by kernel_rfl) ?_
        repeat (go_big_quiet_step (first | (go_at_call 13; exact later_of (whole_any l[k] _ _)) | (go_at_call 12; rename_i u; exact later_of (meets_at _ _ _ _ (l.take k) _ _ _ _ hlt2.out (((hrt.below hba).more hba.size).below u.property) u.property.size (by omega)))))
        refine wpQuiet_nil ?_
        intro w1 hw1
        obtain ⟨⟨w1, hb1⟩, rfl⟩ := hw1
        go_wp2
        go_roundw
        case rel =>
          refine ⟨k + 1, by omega, by go_num, fun j hj hjk => ?_, hba.trans (hb1.mono hba.size)⟩
          rcases Nat.lt_or_ge j k with h | h
          · exact hall.out j hj h
          · obtain rfl : j = k := by omega
            exact HOK
        case measure => simp [intOf]; omega
      have h0 : 1 ≤ k := by omega
      have hp0 : w.cell? ⟨b, off + (k - 1) * 4, none⟩ = some (.int .i64 l[k - 1].id) := by
        obtain ⟨b', off', e, _, p0, _⟩ := hrw.bk (show k - 1 < l.length by omega)
        cases e
        exact p0
      have hi2 : ((k : Int) - 1).toNat = k - 1 := by omega
      have hdk : decide (0 < k) = true := by simp; omega
      by_cases hid : l[k].id ≤ l[k - 1].id
      · have HR := Lib.hid (rightB_no (l := l) (nodes := nodes) (fun h => by have := (h.2 k hlt).2.1 (by omega); omega))
        clear hw
        have hdi : decide (l[k].id ≤ l[k - 1].id) = true := by simpa using hid
        go_wp2
        obtain ⟨wa, hwa, hba, c0, c1, c2, c3⟩ := box_facts l[k] hbel
        rw [hwa]
        have c4 : ∀ u : Later wa, u.val.cell? ⟨b, off + (k - 1) * 4, none⟩ = some (.int .i64 l[k - 1].id) := fun u => (u.cell (by have := hba.size; show b < wa.heap.size; omega)).trans ((hba.cell hbB).trans hp0)
        clear hwa
        refine wp_region_later (by kernel_rfl) (by kernel_rfl) ?_
        repeat (go_big_quiet_step (first | (go_at_call 13; exact later_of (whole_any l[k] _ _)) | (go_at_call 12; rename_i u; exact later_of (meets_at _ _ _ _ (l.take k) _ _ _ _ hlt2.out (((hrt.below hba).more hba.size).below u.property) u.property.size (by omega)))))
        refine wpQuiet_nil ?_
        intro w1 hw1
        obtain ⟨⟨w1, hb1⟩, rfl⟩ := hw1
        go_wp2
        go_ret
        exact ⟨retBool HR.out.symm, hba.trans (hb1.mono hba.size)⟩
      have hid : l[k - 1].id < l[k].id := by omega
      have hdi : decide (l[k].id ≤ l[k - 1].id) = false := by simp; omega
      by_cases hm : meetsB (l.take k) l[k].node l[k].lo l[k].hi = true
      · have HR := Lib.hid (rightB_no (l := l) (nodes := nodes) (fun h => by have := (h.2 k hlt).2.2; rw [hm] at this; cases this))
        clear hw
        go_wp2
        obtain ⟨wa, hwa, hba, c0, c1, c2, c3⟩ := box_facts l[k] hbel
        rw [hwa]
        have c4 : ∀ u : Later wa, u.val.cell? ⟨b, off + (k - 1) * 4, none⟩ = some (.int .i64 l[k - 1].id) := fun u => (u.cell (by have := hba.size; show b < wa.heap.size; omega)).trans ((hba.cell hbB).trans hp0)
        clear hwa
        refine wp_region_later (by kernel_rfl) (by kernel_rfl) ?_
        repeat (go_big_quiet_step (first | (go_at_call 13; exact later_of (whole_any l[k] _ _)) | (go_at_call 12; rename_i u; exact later_of (meets_at _ _ _ _ (l.take k) _ _ _ _ hlt2.out (((hrt.below hba).more hba.size).below u.property) u.property.size (by omega)))))
        refine wpQuiet_nil ?_
        intro w1 hw1
        obtain ⟨⟨w1, hb1⟩, rfl⟩ := hw1
        go_wp2
        go_ret
        exact ⟨retBool HR.out.symm, hba.trans (hb1.mono hba.size)⟩
      · have hm : meetsB (l.take k) l[k].node l[k].lo l[k].hi = false := by simpa using hm
        have HOK : Hid (okAt l nodes k hlt) := ⟨hw, fun _ => hid, hm⟩
        clear hw
        go_wp2
        obtain ⟨wa, hwa, hba, c0, c1, c2, c3⟩ := box_facts l[k] hbel
        rw [hwa]
        have c4 : ∀ u : Later wa, u.val.cell? ⟨b, off + (k - 1) * 4, none⟩ = some (.int .i64 l[k - 1].id) := fun u => (u.cell (by have := hba.size; show b < wa.heap.size; omega)).trans ((hba.cell hbB).trans hp0)
        clear hwa
        refine wp_region_later (by kernel_rfl) (by kernel_rfl) ?_
        repeat (go_big_quiet_step (first | (go_at_call 13; exact later_of (whole_any l[k] _ _)) | (go_at_call 12; rename_i u; exact later_of (meets_at _ _ _ _ (l.take k) _ _ _ _ hlt2.out (((hrt.below hba).more hba.size).below u.property) u.property.size (by omega)))))
        refine wpQuiet_nil ?_
        intro w1 hw1
        obtain ⟨⟨w1, hb1⟩, rfl⟩ := hw1
        go_wp2
        go_roundw
        case rel =>
          refine ⟨k + 1, by omega, by go_num, fun j hj hjk => ?_, hba.trans (hb1.mono hba.size)⟩
          rcases Nat.lt_or_ge j k with h | h
          · exact hall.out j hj h
          · obtain rfl : j = k := by omega
            exact HOK
        case measure => simp [intOf]; omega
    · have HR := Lib.hid (rightB_yes (l := l) (nodes := nodes) ⟨by omega, fun j hj => hall.out j hj (by omega)⟩)
      go_wp2
      go_ret
      exact ⟨retBool HR.out.symm, hbel⟩
end Go.Proofs.Ytdnhgmkcfoojdaa
