/-
  The contract of book.Add where nothing is wrong: the list with the booking at its end, in memory of its own.
-/
import Derived.Test.YtdnhgmkcfoojdaaAdd
namespace Go.Proofs.Ytdnhgmkcfoojdaa
open Go.RowKit
open Go.BigFrame
set_option linter.unusedVariables false

theorem own_place {w : World} {base g N : Nat} {xs : List Value} (h : w.ownsRow base 24 4 (.slice (some ⟨g, 0, none⟩) N N) N xs) (k : Nat) (hk : k + 4 ≤ N * 4) :
    (∃ q, w.cell? ⟨g, k, none⟩ = some q) ∧ (∃ q, w.cell? ⟨g, k + 1, none⟩ = some q) ∧ (∃ q, w.cell? ⟨g, k + 2, none⟩ = some q) ∧ (∃ q, w.cell? ⟨g, k + 3, none⟩ = some q) := by
  have hl := h.1
  refine ⟨⟨xs[k]'(by omega), ?_⟩, ⟨xs[k + 1]'(by omega), ?_⟩, ⟨xs[k + 2]'(by omega), ?_⟩, ⟨xs[k + 3]'(by omega), ?_⟩⟩
  all_goals
    rw [World.ownsRow.cellAt h _ (by omega)]
    exact List.getElem?_eq_getElem (by omega)
theorem set_four {F R : List Value} (a b c d : Value) (hR : R.length = 4) : ((((F ++ R).set F.length a).set (F.length + 1) b).set (F.length + 2) c).set (F.length + 3) d = F ++ [a, b, c, d] := by
  match R, hR with
  | [r0, r1, r2, r3], _ =>
    rw [List.set_append_right _ _ (Nat.le_refl _), List.set_append_right _ _ (by omega), List.set_append_right _ _ (by omega), List.set_append_right _ _ (by omega)]
    simp
theorem added_of {w w6 : World} {l : List Bk} {b : Bk} {xs0 : List Value} {g : Nat} {e : Ending} (he : e = .returned (.tuple #[.slice (some ⟨g, 0, none⟩) (l.length + 1) (l.length + 1), .int .i64 0]))
    (h0 : Hid (xs0.length = (l.length + 1) * 4)) (ho : w6.ownsRow (w.heap.size + 1) 24 4 (.slice (some ⟨g, 0, none⟩) (l.length + 1) (l.length + 1)) (l.length + 1) (spl xs0 0 (flat l))) (hg : w.heap.size ≤ g) (hb : Below w.heap.size w w6) :
    Made w (l ++ [b]) 0 e ((((w6.setCell ⟨g, l.length * 4, none⟩ (.int .i64 b.id)).setCell ⟨g, l.length * 4 + 1, none⟩ (.int .i64 b.node)).setCell ⟨g, l.length * 4 + 2, none⟩ (.int .i64 b.lo)).setCell ⟨g, l.length * 4 + 3, none⟩ (.int .i64 b.hi)) := by
  have hfl : (flat l).length = l.length * 4 := by rw [flat_len]; omega
  have e0 : spl xs0 0 (flat l) = flat l ++ xs0.drop (flat l).length := by simp [spl]
  rw [e0] at ho
  have s := ((((ho.stored (l.length * 4) (.int .i64 b.id)).1.stored (l.length * 4 + 1) (.int .i64 b.node)).1.stored (l.length * 4 + 2) (.int .i64 b.lo)).1.stored (l.length * 4 + 3) (.int .i64 b.hi)).1
  rw [← hfl, set_four _ _ _ _ (by rw [List.length_drop, h0.out, hfl]; omega)] at s
  have e1 : flat l ++ [.int .i64 b.id, .int .i64 b.node, .int .i64 b.lo, .int .i64 b.hi] = flat (l ++ [b]) := by rw [flat_append]; rfl
  rw [e1, hfl] at s
  have hl : (l ++ [b]).length = l.length + 1 := by simp
  subst he
  exact ⟨_, l.length + 1, by rw [hl], by omega, Row.of_own s, (((hb.setCell hg _).setCell hg _).setCell hg _).setCell hg _⟩

set_option maxHeartbeats 4000000 in
theorem add_ok (A : Option Addr) (cap B : Nat) (l : List Bk) (nodes : Int) (b : Bk) (w : World) (hr : Row w B A (flat l)) (hB : B ≤ w.heap.size) (hn : l.length ≤ 1000) (hcap : l.length ≤ cap)
    (h1 : RightP l nodes) (h2 : wholeP b nodes) (h3 : l.length ≠ 16) (h4 : ¬ ∃ i, ∃ h : i < l.length, b.id ≤ l[i].id) (h5 : meetsB l b.node b.lo b.hi = false) :
    Calls Try.prog 6 #[.slice A l.length cap, .int .i64 nodes, b.val] w (Made w (l ++ [b]) 0) := by
  obtain ⟨i0, hi0, hz0, hz1, hz2⟩ := info_parts info24
  have hr0 : Row w w.heap.size A (flat l) := hr.more hB
  have bx := boxed_new w b
  have hba : Below w.heap.size w (w.alloc (Obj.cells #[Value.int IntKind.i64 b.id, Value.int IntKind.i64 b.node, Value.int IntKind.i64 b.lo, Value.int IntKind.i64 b.hi] 24)) := (Below.refl _ _).alloc (Nat.le_refl _) _
  have ra := (hr0.below hba)
  have hb1 := rightB_yes h1
  have hb2 := wholeB_yes h2
  have hq : ((l.length : Int) == 16) = false := by simp; omega
  have hmin : Hid (Nat.min l.length (l.length + 1) = l.length) := Nat.min_eq_left (by omega)
  have hfl : Hid ((flat l).length = l.length * 4) := by show _ = _; rw [flat_len]; omega
  by_cases hpos : 0 < l.length
  · have hle := fun h => h4 ((last_max h1 hpos).2 h)
    have hdp : decide (0 < l.length) = true := by simpa using hpos
    have hdl : decide (b.id ≤ l[l.length - 1].id) = false := by simpa using hle
    have hi2 : ((l.length : Int) - 1).toNat = l.length - 1 := by omega
    obtain ⟨blk, off, rfl, hbB, _⟩ := hr0.bk hpos
    go_enter Try.func6, Try.ntmps6
    go_wp2_with fail
    refine (right_any _ _ _ l _ _ (by exact ra) (by simp) hn hcap).mono ?_
    rintro e w1 ⟨rfl, hw1⟩
    have bx1 := bx.later hw1 (by simp)
    obtain ⟨x0, x1, x2, x3⟩ := bx1
    have z1 := hw1.size
    rw [World.size_alloc] at z1
    go_wp2_with fail
    refine (whole_any b _ _).mono ?_
    rintro e w2 ⟨rfl, hw2⟩
    have z2 := hw2.size
    have bx2 := Boxed.later (w := w) (b := b) ⟨x0, x1, x2, x3⟩ hw2 (by omega)
    have hW2 : Below w.heap.size w w2 := (hba.trans (hw1.mono (by simp))).trans (hw2.mono (by omega))
    have y0 : ∀ u : Later w2, u.val.cell? ⟨w.heap.size, 0, none⟩ = some (.int .i64 b.id) := fun u => (u.cell (by show w.heap.size < _; omega)).trans bx2.1
    clear x0 x1 x2 x3
    have yl : ∀ u : Later w2, u.val.cell? ⟨blk, off + (l.length - 1) * 4, none⟩ = some (.int .i64 l[l.length - 1].id) := fun u => by
      obtain ⟨b', o', e, _, p0, _⟩ := (((hr0.below hW2).more (show w.heap.size ≤ w2.heap.size by omega)).below u.property).bk (show l.length - 1 < l.length by omega)
      cases e; exact p0
    go_wp2
    refine wp_region_later (by kernel_rfl) (by kernel_rfl) ?_
    repeat (go_big_quiet_step (fail))
    refine wpQuiet_nil ?_
    intro w3 hw3
    obtain ⟨⟨w3, hw3⟩, rfl⟩ := hw3
    have z3 := hw3.size
    have bx3 := Boxed.later (w := w) (b := b) bx2 hw3 (by omega)
    have hW3 : Below w.heap.size w w3 := hW2.trans (hw3.mono (by omega))
    obtain ⟨x0, x1, x2, x3⟩ := bx3
    clear y0
    go_wp2_with fail
    refine (meets_any _ _ _ l _ _ _ _ (by exact (hr0.below hW3)) (by omega) hn).mono ?_
    rintro e w4 ⟨rfl, hw4⟩
    have z4 := hw4.size
    have hW4 : Below w.heap.size w w4 := hW3.trans (hw4.mono (by omega))
    have bx4 := Boxed.later (w := w) (b := b) ⟨x0, x1, x2, x3⟩ hw4 (by omega)
    clear x0 x1 x2 x3
    go_wp2_with (first
      | (at_make
         refine wpList_make_full _ rfl _ _ 22 rfl (w.heap.size + 1) 24 i0 _ 4 Try.underlying22 hi0 hz0 hz1 _ _ _ _ (l.length + 1) rfl rfl (by omega) (by omega) (by rw [hz2]; omega) (by unfold maxLen; omega) (by omega) ?_
         intro w5 ho5 hg5
         have hx0 := Lib.hid ho5.1
         obtain ⟨xs0, hxs⟩ : ∃ xs0, xs0 = (madeCells (Value.agg #[Value.int IntKind.i64 0, Value.int IntKind.i64 0, Value.int IntKind.i64 0, Value.int IntKind.i64 0]).cells ((l.length + 1) * 4)).toList := ⟨_, rfl⟩
         rw [← hxs] at ho5 hx0
         clear hxs
         have hW5 : Below w.heap.size w w5 := hW4.grown hg5 (by omega) (fun k hk => by cases hk)
         have bx5 : Boxed w b w5 := Boxed.later (B := w.heap.size + 1) bx4 ((Below.refl (w.heap.size + 1) w4).grown hg5 (by omega) (fun k hk => by cases hk)) (by omega)
         have hr5 := hr0.below hW5
         have z5 := hg5.size
         clear hg5)
      | (refine wpList_copy_own' rfl (.tmp 53) (.tmp 54) 22 22 rfl (w.heap.size + 1) 24 i0 4 Try.underlying22 hi0 hz1 _ _ _ _ _ _ rfl rfl _ _ _ _ ho5 l.length 0 (flat l) hmin.out hfl.out (fun _ => rfl) _ hr5 (by decide) (by rw [hfl.out]; omega) (one_flat _) ?_
         intro w6 ho6 hg6
         have bx6 : Boxed w b w6 := Boxed.later (B := w.heap.size + 1) bx5 ((Below.refl (w.heap.size + 1) w5).grown hg6 (by omega) (fun k hk => by cases hk; omega)) (by omega)
         have hW6 : Below w.heap.size w w6 := hW5.grown hg6 (by omega) (fun k hk => by cases hk; omega)
         clear hg6
         obtain ⟨x0, x1, x2, x3⟩ := bx6
         obtain ⟨p0, p1, p2, p3⟩ := own_place ho6 (l.length * 4) (by omega)
         have f0 := ho6.frozenAt (l.length * 4)
         have f1 := ho6.frozenAt (l.length * 4 + 1)
         have f2 := ho6.frozenAt (l.length * 4 + 2)
         have f3 := ho6.frozenAt (l.length * 4 + 3)
         obtain ⟨q0, p0⟩ := p0
         obtain ⟨q1, p1⟩ := p1
         obtain ⟨q2, p2⟩ := p2
         obtain ⟨q3, p3⟩ := p3))
    go_ret2
    exact added_of rfl hx0 ho6 (by omega) hW6
  · have hdp : decide (0 < l.length) = false := by simpa using hpos
    go_enter Try.func6, Try.ntmps6
    go_wp2_with fail
    refine (right_any _ _ _ l _ _ (by exact ra) (by simp) hn hcap).mono ?_
    rintro e w1 ⟨rfl, hw1⟩
    have bx1 := bx.later hw1 (by simp)
    obtain ⟨x0, x1, x2, x3⟩ := bx1
    have z1 := hw1.size
    rw [World.size_alloc] at z1
    go_wp2_with fail
    refine (whole_any b _ _).mono ?_
    rintro e w2 ⟨rfl, hw2⟩
    have z2 := hw2.size
    have bx2 := Boxed.later (w := w) (b := b) ⟨x0, x1, x2, x3⟩ hw2 (by omega)
    have hW2 : Below w.heap.size w w2 := (hba.trans (hw1.mono (by simp))).trans (hw2.mono (by omega))
    have y0 : ∀ u : Later w2, u.val.cell? ⟨w.heap.size, 0, none⟩ = some (.int .i64 b.id) := fun u => (u.cell (by show w.heap.size < _; omega)).trans bx2.1
    clear x0 x1 x2 x3
    go_wp2
    refine wp_region_later (by kernel_rfl) (by kernel_rfl) ?_
    repeat (go_big_quiet_step (fail))
    refine wpQuiet_nil ?_
    intro w3 hw3
    obtain ⟨⟨w3, hw3⟩, rfl⟩ := hw3
    have z3 := hw3.size
    have bx3 := Boxed.later (w := w) (b := b) bx2 hw3 (by omega)
    have hW3 : Below w.heap.size w w3 := hW2.trans (hw3.mono (by omega))
    obtain ⟨x0, x1, x2, x3⟩ := bx3
    clear y0
    go_wp2_with fail
    refine (meets_any _ _ _ l _ _ _ _ (by exact (hr0.below hW3)) (by omega) hn).mono ?_
    rintro e w4 ⟨rfl, hw4⟩
    have z4 := hw4.size
    have hW4 : Below w.heap.size w w4 := hW3.trans (hw4.mono (by omega))
    have bx4 := Boxed.later (w := w) (b := b) ⟨x0, x1, x2, x3⟩ hw4 (by omega)
    clear x0 x1 x2 x3
    go_wp2_with (first
      | (at_make
         refine wpList_make_full _ rfl _ _ 22 rfl (w.heap.size + 1) 24 i0 _ 4 Try.underlying22 hi0 hz0 hz1 _ _ _ _ (l.length + 1) rfl rfl (by omega) (by omega) (by rw [hz2]; omega) (by unfold maxLen; omega) (by omega) ?_
         intro w5 ho5 hg5
         have hx0 := Lib.hid ho5.1
         obtain ⟨xs0, hxs⟩ : ∃ xs0, xs0 = (madeCells (Value.agg #[Value.int IntKind.i64 0, Value.int IntKind.i64 0, Value.int IntKind.i64 0, Value.int IntKind.i64 0]).cells ((l.length + 1) * 4)).toList := ⟨_, rfl⟩
         rw [← hxs] at ho5 hx0
         clear hxs
         have hW5 : Below w.heap.size w w5 := hW4.grown hg5 (by omega) (fun k hk => by cases hk)
         have bx5 : Boxed w b w5 := Boxed.later (B := w.heap.size + 1) bx4 ((Below.refl (w.heap.size + 1) w4).grown hg5 (by omega) (fun k hk => by cases hk)) (by omega)
         have hr5 := hr0.below hW5
         have z5 := hg5.size
         clear hg5)
      | (refine wpList_copy_own' rfl (.tmp 53) (.tmp 54) 22 22 rfl (w.heap.size + 1) 24 i0 4 Try.underlying22 hi0 hz1 _ _ _ _ _ _ rfl rfl _ _ _ _ ho5 l.length 0 (flat l) hmin.out hfl.out (fun _ => rfl) _ hr5 (by decide) (by rw [hfl.out]; omega) (one_flat _) ?_
         intro w6 ho6 hg6
         have bx6 : Boxed w b w6 := Boxed.later (B := w.heap.size + 1) bx5 ((Below.refl (w.heap.size + 1) w5).grown hg6 (by omega) (fun k hk => by cases hk; omega)) (by omega)
         have hW6 : Below w.heap.size w w6 := hW5.grown hg6 (by omega) (fun k hk => by cases hk; omega)
         clear hg6
         obtain ⟨x0, x1, x2, x3⟩ := bx6
         obtain ⟨p0, p1, p2, p3⟩ := own_place ho6 (l.length * 4) (by omega)
         have f0 := ho6.frozenAt (l.length * 4)
         have f1 := ho6.frozenAt (l.length * 4 + 1)
         have f2 := ho6.frozenAt (l.length * 4 + 2)
         have f3 := ho6.frozenAt (l.length * 4 + 3)
         obtain ⟨q0, p0⟩ := p0
         obtain ⟨q1, p1⟩ := p1
         obtain ⟨q2, p2⟩ := p2
         obtain ⟨q3, p3⟩ := p3))
    go_ret2
    exact added_of rfl hx0 ho6 (by omega) hW6
end Go.Proofs.Ytdnhgmkcfoojdaa
