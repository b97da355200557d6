/-
  The contract of the reference's Add: what is wrong with a booking that is added.
-/
import Derived.Test.YtdnhgmkcfoojdaaAddok
namespace Go.Proofs.Ytdnhgmkcfoojdaa
open Go.RowKit
open Go.BigFrame
set_option linter.unusedVariables false

set_option maxHeartbeats 4000000 in
theorem radd_any (A : Option Addr) (cap B : Nat) (l : List Bk) (nodes : Int) (b : Bk) (w : World) (hr : Row w B A (flat l)) (hB : B ≤ w.heap.size) (hn : l.length ≤ 1000) (hcap : l.length ≤ cap) :
    Calls Try.prog 7 #[.slice A l.length cap, .int .i64 nodes, b.val] w fun e w' => e = .returned (.int .i64 (errZ l nodes b)) ∧ Below w.heap.size w w' := by
  have hr0 : Row w w.heap.size A (flat l) := hr.more hB
  have bx := boxed_new w b
  have hba : Below w.heap.size w (w.alloc (Obj.cells #[Value.int IntKind.i64 b.id, Value.int IntKind.i64 b.node, Value.int IntKind.i64 b.lo, Value.int IntKind.i64 b.hi] 24)) := (Below.refl _ _).alloc (Nat.le_refl _) _
  have ra := (hr0.below hba)
  by_cases h1 : RightP l nodes
  rotate_left
  · rw [err2 (Or.inl h1)]
    have hb1 := rightB_no h1
    go_enter Try.func7, Try.ntmps7
    go_wp2_with (go_at_call 14; refine (rright_any _ _ _ l _ _ (by exact ra) (by simp) hn hcap).mono ?_; rintro e w1 ⟨rfl, hw1⟩)
    go_ret
    exact ⟨rfl, hba.trans (hw1.mono (by simp))⟩
  have hb1 := rightB_yes h1
  by_cases h2 : wholeP b nodes
  rotate_left
  · rw [err2 (Or.inr h2)]
    have hb2 := wholeB_no h2
    go_enter Try.func7, Try.ntmps7
    go_wp2_with fail
    refine (rright_any _ _ _ l _ _ (by exact ra) (by simp) hn hcap).mono ?_
    rintro e w1 ⟨rfl, hw1⟩
    have z1 := hw1.size
    rw [World.size_alloc] at z1
    have bx1 := bx.later hw1 (by simp)
    obtain ⟨x0, x1, x2, x3⟩ := bx1
    go_wp2_with fail
    refine (one_any b _ _).mono ?_
    rintro e w2 ⟨rfl, hw2⟩
    have z2 := hw2.size
    have bx2 := Boxed.later (w := w) (b := b) ⟨x0, x1, x2, x3⟩ hw2 (by omega)
    have hW2 : Below w.heap.size w w2 := (hba.trans (hw1.mono (by simp))).trans (hw2.mono (by omega))
    clear x0 x1 x2 x3
    go_wp2
    go_ret
    exact ⟨rfl, hW2⟩
  have hb2 := wholeB_yes h2
  by_cases h3 : l.length = 16
  · rw [err3 h1 h2 h3]
    have hq : ((l.length : Int) == 16) = true := by simp [h3]
    have H3 := Lib.hid h3
    clear h3
    go_enter Try.func7, Try.ntmps7
    go_wp2_with fail
    refine (rright_any _ _ _ l _ _ (by exact ra) (by simp) hn hcap).mono ?_
    rintro e w1 ⟨rfl, hw1⟩
    have z1 := hw1.size
    rw [World.size_alloc] at z1
    have bx1 := bx.later hw1 (by simp)
    obtain ⟨x0, x1, x2, x3⟩ := bx1
    go_wp2_with fail
    refine (one_any b _ _).mono ?_
    rintro e w2 ⟨rfl, hw2⟩
    have z2 := hw2.size
    have bx2 := Boxed.later (w := w) (b := b) ⟨x0, x1, x2, x3⟩ hw2 (by omega)
    have hW2 : Below w.heap.size w w2 := (hba.trans (hw1.mono (by simp))).trans (hw2.mono (by omega))
    clear x0 x1 x2 x3
    go_wp2
    go_ret
    exact ⟨rfl, hW2⟩
  have hq : ((l.length : Int) == 16) = false := by simp; omega
  go_enter Try.func7, Try.ntmps7
  go_wp2_with fail
  refine (rright_any _ _ _ l _ _ (by exact ra) (by simp) hn hcap).mono ?_
  rintro e w1 ⟨rfl, hw1⟩
  have z1 := hw1.size
  rw [World.size_alloc] at z1
  have bx1 := bx.later hw1 (by simp)
  obtain ⟨x0, x1, x2, x3⟩ := bx1
  go_wp2_with fail
  refine (one_any b _ _).mono ?_
  rintro e w2 ⟨rfl, hw2⟩
  have z2 := hw2.size
  have bx2 := Boxed.later (w := w) (b := b) ⟨x0, x1, x2, x3⟩ hw2 (by omega)
  have hW2 : Below w.heap.size w w2 := (hba.trans (hw1.mono (by simp))).trans (hw2.mono (by omega))
  clear x0 x1 x2 x3
  go_wp2
  go_loopw [7] (fun c wr => ∃ k : Nat, k ≤ l.length ∧ c = .int .i64 k ∧ Hid (∀ j (hj : j < l.length), j < k → ¬ b.id ≤ l[j].id) ∧ Below w2.heap.size w2 wr) (fun c _ => l.length - (intOf c).toNat)
  case atStart => exact ⟨0, Nat.zero_le _, rfl, fun j _ hj => by omega, Below.refl _ _⟩
  case round =>
    obtain ⟨k, hk, rfl, hall, hbel⟩ := hrel
    have zr := hbel.size
    have hWr : Below w.heap.size w wr := hW2.trans (hbel.mono (by omega))
    have bxr := Boxed.later (w := w) (b := b) bx2 hbel (by omega)
    by_cases hlt : k < l.length
    · have y0 : ∀ u : Later wr, u.val.cell? ⟨w.heap.size, 0, none⟩ = some (.int .i64 b.id) := fun u => (u.cell (by show w.heap.size < _; omega)).trans bxr.1
      obtain ⟨blk, off, rfl, hbB, _⟩ := hr0.bk hlt
      have yl : ∀ u : Later wr, u.val.cell? ⟨blk, off + k * 4, none⟩ = some (.int .i64 l[k].id) := fun u => by
        obtain ⟨b', o', e, _, p0, _⟩ := (((hr0.below hWr).more (show w.heap.size ≤ wr.heap.size by omega)).below u.property).bk hlt
        cases e; exact p0
      by_cases hid : b.id ≤ l[k].id
      · have hdi : decide (b.id ≤ l[k].id) = true := by simpa using hid
        have HE := Lib.hid (err31 h1 h2 h3 ⟨k, hlt, hid⟩)
        go_wp2
        refine wp_region_later (by kernel_rfl) (by kernel_rfl) ?_
        repeat (go_big_quiet_step (fail))
        refine wpQuiet_nil ?_
        intro w3 hw3
        obtain ⟨⟨w3, hw3⟩, rfl⟩ := hw3
        go_wp2
        go_ret
        exact ⟨retInt HE.out.symm, hWr.trans (hw3.mono (by omega))⟩
      · have hdi : decide (b.id ≤ l[k].id) = false := by simpa using hid
        have HN := Lib.hid hid
        go_wp2
        refine wp_region_later (by kernel_rfl) (by kernel_rfl) ?_
        repeat (go_big_quiet_step (fail))
        refine wpQuiet_nil ?_
        intro w3 hw3
        obtain ⟨⟨w3, hw3⟩, rfl⟩ := hw3
        go_wp2
        go_roundw
        case rel =>
          refine ⟨k + 1, by omega, by go_num, fun j hj hjk => ?_, hbel.trans (hw3.mono (by omega))⟩
          rcases Nat.lt_or_ge j k with h | h
          · exact Int.not_le.2 (hall.out j hj h)
          · obtain rfl : j = k := by omega
            exact Int.not_le.2 HN.out
        case measure => simp [intOf]; omega
    · have h4 : ¬ ∃ i, ∃ h : i < l.length, b.id ≤ l[i].id := fun ⟨i, hi, h⟩ => hall.out i hi (by omega) h
      obtain ⟨x0, x1, x2, x3⟩ := bxr
      by_cases h5 : meetsB l b.node b.lo b.hi = true
      · have HE := Lib.hid (err39 h1 h2 h3 h4 h5)
        clear h4
        go_wp2_with fail
        refine (rmeets_any _ _ _ l _ _ _ _ (by exact (hr0.below hWr)) (by omega) hn).mono ?_
        rintro e w4 ⟨rfl, hw4⟩
        go_wp2
        go_ret
        exact ⟨retInt HE.out.symm, hWr.trans (hw4.mono (by omega))⟩
      · have h5 : meetsB l b.node b.lo b.hi = false := by simpa using h5
        have HE := Lib.hid (err0 h1 h2 h3 h4 h5)
        clear h4
        go_wp2_with fail
        refine (rmeets_any _ _ _ l _ _ _ _ (by exact (hr0.below hWr)) (by omega) hn).mono ?_
        rintro e w4 ⟨rfl, hw4⟩
        go_wp2
        go_ret
        exact ⟨retInt HE.out.symm, hWr.trans (hw4.mono (by omega))⟩
end Go.Proofs.Ytdnhgmkcfoojdaa
