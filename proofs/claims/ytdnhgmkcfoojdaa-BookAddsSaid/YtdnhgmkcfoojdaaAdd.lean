/-
  The contracts of book.Add and of the reference's Add.
-/
import Derived.Test.YtdnhgmkcfoojdaaRright
namespace Go.Proofs.Ytdnhgmkcfoojdaa
open Go.RowKit
open Go.BigFrame
set_option linter.unusedVariables false

open Classical in
/-- What is wrong with a booking that is added; 0: nothing. -/
noncomputable def errZ (l : List Bk) (nodes : Int) (b : Bk) : Int :=
  if ¬ RightP l nodes ∨ ¬ wholeP b nodes then 2 else if l.length = 16 then 3 else if ∃ i, ∃ h : i < l.length, b.id ≤ l[i].id then 31 else if meetsB l b.node b.lo b.hi = true then 39 else 0
noncomputable def addL (l : List Bk) (nodes : Int) (b : Bk) : List Bk := if errZ l nodes b = 0 then l ++ [b] else []
theorem err2 {l : List Bk} {nodes : Int} {b : Bk} (h : ¬ RightP l nodes ∨ ¬ wholeP b nodes) : errZ l nodes b = 2 := by unfold errZ; rw [if_pos h]
theorem err3 {l : List Bk} {nodes : Int} {b : Bk} (h : RightP l nodes) (h1 : wholeP b nodes) (h2 : l.length = 16) : errZ l nodes b = 3 := by
  unfold errZ; rw [if_neg (by simp [h, h1]), if_pos h2]
theorem err31 {l : List Bk} {nodes : Int} {b : Bk} (h : RightP l nodes) (h1 : wholeP b nodes) (h2 : l.length ≠ 16) (h3 : ∃ i, ∃ h : i < l.length, b.id ≤ l[i].id) : errZ l nodes b = 31 := by
  unfold errZ; rw [if_neg (by simp [h, h1]), if_neg h2, if_pos h3]
theorem err39 {l : List Bk} {nodes : Int} {b : Bk} (h : RightP l nodes) (h1 : wholeP b nodes) (h2 : l.length ≠ 16) (h3 : ¬ ∃ i, ∃ h : i < l.length, b.id ≤ l[i].id) (h4 : meetsB l b.node b.lo b.hi = true) : errZ l nodes b = 39 := by
  unfold errZ; rw [if_neg (by simp [h, h1]), if_neg h2, if_neg h3, if_pos h4]
theorem err0 {l : List Bk} {nodes : Int} {b : Bk} (h : RightP l nodes) (h1 : wholeP b nodes) (h2 : l.length ≠ 16) (h3 : ¬ ∃ i, ∃ h : i < l.length, b.id ≤ l[i].id) (h4 : meetsB l b.node b.lo b.hi = false) : errZ l nodes b = 0 := by
  unfold errZ; rw [if_neg (by simp [h, h1]), if_neg h2, if_neg h3, if_neg (by simp [h4])]
/-- Of right bookings the last one has the greatest id. -/
theorem last_max {l : List Bk} {nodes : Int} {b : Bk} (h : RightP l nodes) (hn : 0 < l.length) : (∃ i, ∃ h : i < l.length, b.id ≤ l[i].id) ↔ b.id ≤ l[l.length - 1].id := by
  constructor
  · rintro ⟨i, hi, hb⟩
    rcases Nat.lt_or_ge i (l.length - 1) with hlt | hge
    · have := ((((right_iff l nodes).1 h).2 (l.length - 1) (by omega)).2 i hlt).1
      omega
    · obtain rfl : i = l.length - 1 := by omega
      exact hb
  · intro hb
    exact ⟨l.length - 1, by omega, hb⟩

theorem box_cells (w : World) (b : Bk) : ∃ wa, w.alloc (Obj.cells #[Value.int IntKind.i64 b.id, Value.int IntKind.i64 b.node, Value.int IntKind.i64 b.lo, Value.int IntKind.i64 b.hi] 24) = wa ∧ Below w.heap.size w wa ∧ wa.heap.size = w.heap.size + 1 ∧
    wa.cell? ⟨w.heap.size, 0, none⟩ = some (.int .i64 b.id) ∧ wa.cell? ⟨w.heap.size, 1, none⟩ = some (.int .i64 b.node) ∧ wa.cell? ⟨w.heap.size, 2, none⟩ = some (.int .i64 b.lo) ∧ wa.cell? ⟨w.heap.size, 3, none⟩ = some (.int .i64 b.hi) :=
  ⟨_, rfl, (Below.refl _ _).alloc (Nat.le_refl _) _, by simp, by simp, by simp, by simp, by simp⟩

/-- The cells of the boxed booking, in a world of which the world behind the box is the beginning. -/
def Boxed (w : World) (b : Bk) (u : World) : Prop := u.cell? ⟨w.heap.size, 0, none⟩ = some (.int .i64 b.id) ∧ u.cell? ⟨w.heap.size, 1, none⟩ = some (.int .i64 b.node) ∧ u.cell? ⟨w.heap.size, 2, none⟩ = some (.int .i64 b.lo) ∧ u.cell? ⟨w.heap.size, 3, none⟩ = some (.int .i64 b.hi)
theorem boxed_new (w : World) (b : Bk) : Boxed w b (w.alloc (Obj.cells #[Value.int IntKind.i64 b.id, Value.int IntKind.i64 b.node, Value.int IntKind.i64 b.lo, Value.int IntKind.i64 b.hi] 24)) := ⟨by simp, by simp, by simp, by simp⟩
theorem Boxed.later {w u u' : World} {b : Bk} {B : Nat} (h : Boxed w b u) (hb : Below B u u') (hB : w.heap.size < B) : Boxed w b u' :=
  ⟨(hb.cell hB).trans h.1, (hb.cell hB).trans h.2.1, (hb.cell hB).trans h.2.2.1, (hb.cell hB).trans h.2.2.2⟩

set_option maxHeartbeats 4000000 in
theorem add_err (A : Option Addr) (cap B : Nat) (l : List Bk) (nodes : Int) (b : Bk) (w : World) (hr : Row w B A (flat l)) (hB : B ≤ w.heap.size) (hn : l.length ≤ 1000) (hcap : l.length ≤ cap) (he : errZ l nodes b ≠ 0) :
    Calls Try.prog 6 #[.slice A l.length cap, .int .i64 nodes, b.val] w (Made w [] (errZ l nodes b)) := by
  have hr0 : Row w w.heap.size A (flat l) := hr.more hB
  have bx := boxed_new w b
  have hba : Below w.heap.size w (w.alloc (Obj.cells #[Value.int IntKind.i64 b.id, Value.int IntKind.i64 b.node, Value.int IntKind.i64 b.lo, Value.int IntKind.i64 b.hi] 24)) := (Below.refl _ _).alloc (Nat.le_refl _) _
  have ra := (hr0.below hba)
  by_cases h1 : RightP l nodes
  rotate_left
  · rw [err2 (Or.inl h1)]
    have hb1 := rightB_no h1
    go_enter Try.func6, Try.ntmps6
    go_wp2_with (go_at_call 10; refine (right_any _ _ _ l _ _ (by exact ra) (by simp) hn hcap).mono ?_; rintro e w1 ⟨rfl, hw1⟩)
    go_ret2
    exact ⟨none, 0, rfl, Nat.le_refl _, Row.empty, hba.trans (hw1.mono (by simp))⟩
  have hb1 := rightB_yes h1
  by_cases h2 : wholeP b nodes
  rotate_left
  · rw [err2 (Or.inr h2)]
    have hb2 := wholeB_no h2
    go_enter Try.func6, Try.ntmps6
    go_wp2_with fail
    refine (right_any _ _ _ l _ _ (by exact ra) (by simp) hn hcap).mono ?_
    rintro e w1 ⟨rfl, hw1⟩
    obtain ⟨x0, x1, x2, x3⟩ := bx.later hw1 (by simp)
    go_wp2_with fail
    refine (whole_any b _ _).mono ?_
    rintro e w2 ⟨rfl, hw2⟩
    go_wp2
    go_ret2
    exact ⟨none, 0, rfl, Nat.le_refl _, Row.empty, (hba.trans (hw1.mono (by simp))).trans (hw2.mono (by have := hw1.size; simp at this; omega))⟩
  have hb2 := wholeB_yes h2
  by_cases h3 : l.length = 16
  · rw [err3 h1 h2 h3]
    have hq : ((l.length : Int) == 16) = true := by simp [h3]
    have H3 := Lib.hid h3
    clear h3
    go_enter Try.func6, Try.ntmps6
    go_wp2_with fail
    refine (right_any _ _ _ l _ _ (by exact ra) (by simp) hn hcap).mono ?_
    rintro e w1 ⟨rfl, hw1⟩
    obtain ⟨x0, x1, x2, x3⟩ := bx.later hw1 (by simp)
    go_wp2_with fail
    refine (whole_any b _ _).mono ?_
    rintro e w2 ⟨rfl, hw2⟩
    go_wp2
    go_ret2
    exact ⟨none, 0, rfl, Nat.le_refl _, Row.empty, (hba.trans (hw1.mono (by simp))).trans (hw2.mono (by have := hw1.size; simp at this; omega))⟩
  have hq : ((l.length : Int) == 16) = false := by simp; omega
  by_cases h4 : ∃ i, ∃ h : i < l.length, b.id ≤ l[i].id
  · rw [err31 h1 h2 h3 h4]
    have hpos : 0 < l.length := by obtain ⟨i, hi, _⟩ := h4; omega
    have hle := (last_max h1 hpos).1 h4
    have hdp : decide (0 < l.length) = true := by simpa using hpos
    have hdl : decide (b.id ≤ l[l.length - 1].id) = true := by simpa using hle
    have hi2 : ((l.length : Int) - 1).toNat = l.length - 1 := by omega
    obtain ⟨blk, off, rfl, hbB, _⟩ := hr0.bk hpos
    go_enter Try.func6, Try.ntmps6
    go_wp2_with fail
    refine (right_any _ _ _ l _ _ (by exact ra) (by simp) hn hcap).mono ?_
    rintro e w1 ⟨rfl, hw1⟩
    have bx1 := bx.later hw1 (by simp)
    obtain ⟨x0, x1, x2, x3⟩ := bx1
    have z1 := hw1.size
    rw [World.size_alloc] at z1
    go_wp2_with fail
    refine (whole_any b _ _).mono ?_
    rintro e w2 ⟨rfl, hw2⟩
    have z2 := hw2.size
    have bx2 := Boxed.later (w := w) (b := b) ⟨x0, x1, x2, x3⟩ hw2 (by omega)
    have hW2 : Below w.heap.size w w2 := (hba.trans (hw1.mono (by simp))).trans (hw2.mono (by omega))
    have y0 : ∀ u : Later w2, u.val.cell? ⟨w.heap.size, 0, none⟩ = some (.int .i64 b.id) := fun u => (u.cell (by show w.heap.size < _; omega)).trans bx2.1
    clear x0 x1 x2 x3
    have yl : ∀ u : Later w2, u.val.cell? ⟨blk, off + (l.length - 1) * 4, none⟩ = some (.int .i64 l[l.length - 1].id) := fun u => by
      obtain ⟨b', o', e, _, p0, _⟩ := (((hr0.below hW2).more (show w.heap.size ≤ w2.heap.size by omega)).below u.property).bk (show l.length - 1 < l.length by omega)
      cases e; exact p0
    go_wp2
    refine wp_region_later (by kernel_rfl) (by kernel_rfl) ?_
    repeat (go_big_quiet_step (fail))
    refine wpQuiet_nil ?_
    intro w3 hw3
    obtain ⟨⟨w3, hw3⟩, rfl⟩ := hw3
    have z3 := hw3.size
    have bx3 := Boxed.later (w := w) (b := b) bx2 hw3 (by omega)
    obtain ⟨x0, x1, x2, x3⟩ := bx3
    have hW3 : Below w.heap.size w w3 := hW2.trans (hw3.mono (by omega))
    clear y0
    go_wp2
    go_ret2
    exact ⟨none, 0, rfl, Nat.le_refl _, Row.empty, hW3⟩
  by_cases h5 : meetsB l b.node b.lo b.hi = true
  · rw [err39 h1 h2 h3 h4 h5]
    by_cases hpos : 0 < l.length
    · have hle := fun h => h4 ((last_max h1 hpos).2 h)
      have hdp : decide (0 < l.length) = true := by simpa using hpos
      have hdl : decide (b.id ≤ l[l.length - 1].id) = false := by simpa using hle
      have hi2 : ((l.length : Int) - 1).toNat = l.length - 1 := by omega
      obtain ⟨blk, off, rfl, hbB, _⟩ := hr0.bk hpos
      go_enter Try.func6, Try.ntmps6
      go_wp2_with fail
      refine (right_any _ _ _ l _ _ (by exact ra) (by simp) hn hcap).mono ?_
      rintro e w1 ⟨rfl, hw1⟩
      have bx1 := bx.later hw1 (by simp)
      obtain ⟨x0, x1, x2, x3⟩ := bx1
      have z1 := hw1.size
      rw [World.size_alloc] at z1
      go_wp2_with fail
      refine (whole_any b _ _).mono ?_
      rintro e w2 ⟨rfl, hw2⟩
      have z2 := hw2.size
      have bx2 := Boxed.later (w := w) (b := b) ⟨x0, x1, x2, x3⟩ hw2 (by omega)
      have hW2 : Below w.heap.size w w2 := (hba.trans (hw1.mono (by simp))).trans (hw2.mono (by omega))
      have y0 : ∀ u : Later w2, u.val.cell? ⟨w.heap.size, 0, none⟩ = some (.int .i64 b.id) := fun u => (u.cell (by show w.heap.size < _; omega)).trans bx2.1
      clear x0 x1 x2 x3
      have yl : ∀ u : Later w2, u.val.cell? ⟨blk, off + (l.length - 1) * 4, none⟩ = some (.int .i64 l[l.length - 1].id) := fun u => by
        obtain ⟨b', o', e, _, p0, _⟩ := (((hr0.below hW2).more (show w.heap.size ≤ w2.heap.size by omega)).below u.property).bk (show l.length - 1 < l.length by omega)
        cases e; exact p0
      go_wp2
      refine wp_region_later (by kernel_rfl) (by kernel_rfl) ?_
      repeat (go_big_quiet_step (fail))
      refine wpQuiet_nil ?_
      intro w3 hw3
      obtain ⟨⟨w3, hw3⟩, rfl⟩ := hw3
      have z3 := hw3.size
      have bx3 := Boxed.later (w := w) (b := b) bx2 hw3 (by omega)
      obtain ⟨x0, x1, x2, x3⟩ := bx3
      have hW3 : Below w.heap.size w w3 := hW2.trans (hw3.mono (by omega))
      clear y0
      go_wp2_with fail
      refine (meets_any _ _ _ l _ _ _ _ (by exact (hr0.below hW3)) (by omega) hn).mono ?_
      rintro e w4 ⟨rfl, hw4⟩
      have hW4 : Below w.heap.size w w4 := hW3.trans (hw4.mono (by omega))
      go_wp2
      go_ret2
      exact ⟨none, 0, rfl, Nat.le_refl _, Row.empty, hW4⟩
    · have hdp : decide (0 < l.length) = false := by simpa using hpos
      clear h4
      go_enter Try.func6, Try.ntmps6
      go_wp2_with fail
      refine (right_any _ _ _ l _ _ (by exact ra) (by simp) hn hcap).mono ?_
      rintro e w1 ⟨rfl, hw1⟩
      have bx1 := bx.later hw1 (by simp)
      obtain ⟨x0, x1, x2, x3⟩ := bx1
      have z1 := hw1.size
      rw [World.size_alloc] at z1
      go_wp2_with fail
      refine (whole_any b _ _).mono ?_
      rintro e w2 ⟨rfl, hw2⟩
      have z2 := hw2.size
      have bx2 := Boxed.later (w := w) (b := b) ⟨x0, x1, x2, x3⟩ hw2 (by omega)
      have hW2 : Below w.heap.size w w2 := (hba.trans (hw1.mono (by simp))).trans (hw2.mono (by omega))
      have y0 : ∀ u : Later w2, u.val.cell? ⟨w.heap.size, 0, none⟩ = some (.int .i64 b.id) := fun u => (u.cell (by show w.heap.size < _; omega)).trans bx2.1
      clear x0 x1 x2 x3
      go_wp2
      refine wp_region_later (by kernel_rfl) (by kernel_rfl) ?_
      repeat (go_big_quiet_step (fail))
      refine wpQuiet_nil ?_
      intro w3 hw3
      obtain ⟨⟨w3, hw3⟩, rfl⟩ := hw3
      have z3 := hw3.size
      have bx3 := Boxed.later (w := w) (b := b) bx2 hw3 (by omega)
      obtain ⟨x0, x1, x2, x3⟩ := bx3
      have hW3 : Below w.heap.size w w3 := hW2.trans (hw3.mono (by omega))
      clear y0
      go_wp2_with fail
      refine (meets_any _ _ _ l _ _ _ _ (by exact (hr0.below hW3)) (by omega) hn).mono ?_
      rintro e w4 ⟨rfl, hw4⟩
      have hW4 : Below w.heap.size w w4 := hW3.trans (hw4.mono (by omega))
      go_wp2
      go_ret2
      exact ⟨none, 0, rfl, Nat.le_refl _, Row.empty, hW4⟩
  · exact absurd (err0 h1 h2 h3 h4 (by simpa using h5)) he
end Go.Proofs.Ytdnhgmkcfoojdaa
