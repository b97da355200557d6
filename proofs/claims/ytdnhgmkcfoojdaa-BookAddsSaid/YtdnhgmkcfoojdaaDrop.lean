/-
  The contracts of book.Drop and of its reference.
-/
import Derived.Test.YtdnhgmkcfoojdaaSame
import Derived.Test.YtdnhgmkcfoojdaaCopy
import Derived.Deep.RegionLaw
import Derived.Maps.RangeWalk
namespace Go.Proofs.Ytdnhgmkcfoojdaa
open Go.RowKit
set_option linter.unusedVariables false

theorem info24 : (Try.prog.info? 24).map (fun i => (i.zero, i.size, i.bytes)) = some (some (.agg #[.int .i64 0, .int .i64 0, .int .i64 0, .int .i64 0]), 4, 32) := by kernel_rfl
theorem flat_append (a b : List Bk) : flat (a ++ b) = flat a ++ flat b := by simp [flat]
theorem flat_take (l : List Bk) (k : Nat) (hk : k ≤ l.length) : flat (l.take k) = (flat l).take (k * 4) := by
  have e := flat_append (l.take k) (l.drop k)
  rw [List.take_append_drop] at e
  have hA : (flat (l.take k)).length = k * 4 := by rw [flat_len, List.length_take]; omega
  conv => rhs; rw [e]
  rw [← hA, List.take_left]
theorem flat_drop (l : List Bk) (k : Nat) (hk : k ≤ l.length) : flat (l.drop k) = (flat l).drop (k * 4) := by
  have e := flat_append (l.take k) (l.drop k)
  rw [List.take_append_drop] at e
  have hA : (flat (l.take k)).length = k * 4 := by rw [flat_len, List.length_take]; omega
  conv => rhs; rw [e]
  rw [← hA, List.drop_left]
theorem one_flat (l : List Bk) : ∀ u ∈ flat l, u.oneCell' = true := by
  intro u hu
  simp only [flat, List.mem_flatMap, Bk.cs] at hu
  obtain ⟨b, _, hb⟩ := hu
  simp at hb
  rcases hb with rfl | rfl | rfl | rfl <;> rfl
theorem spl_two {xs A C : List Value} (h : xs.length = A.length + C.length) : spl (spl xs 0 A) A.length C = A ++ C := by
  unfold spl
  simp only [List.take_zero, List.nil_append, Nat.zero_add]
  rw [List.take_append_of_le_length (Nat.le_refl _), List.take_of_length_le (Nat.le_refl _), List.drop_append, List.drop_of_length_le (by omega)]
  rw [List.drop_of_length_le (by rw [List.length_drop]; omega)]
  simp

/-- It returns a list of its own, and an error. -/
def Made (w : World) (l : List Bk) (er : Int) (e : Ending) (w' : World) : Prop :=
  ∃ A c, e = .returned (.tuple #[.slice A l.length c, .int .i64 er]) ∧ l.length ≤ c ∧ Row w' w'.heap.size A (flat l) ∧ Below w.heap.size w w'

theorem made_fix {w0 w1 : World} {o : Obj} {base N : Nat} {xs : List Value} (h : w1.ownsRow base 24 4 (.slice (some ⟨(w0.alloc o).heap.size, 0, none⟩) N N) N xs) :
    ∃ xs0 : List Value, Hid (xs0.length = N * 4) ∧ w1.ownsRow base 24 4 (.slice (some ⟨w0.heap.size + 1, 0, none⟩) N N) N xs0 :=
  ⟨xs, h.1, by have e : (w0.alloc o).heap.size = w0.heap.size + 1 := by simp
               rw [e] at h; exact h⟩

theorem made_of {w w3 : World} {l : List Bk} {j G : Nat} {xs0 : List Value} {e : Ending} {m c : Nat} (he : e = .returned (.tuple #[.slice (some ⟨G, 0, none⟩) m c, .int .i64 0])) (hm : m = l.length - 1) (hc : c = l.length - 1)
    (h1 : Hid ((flat (l.take j)).length = j * 4)) (h2 : Hid ((flat (l.drop (j + 1))).length = (l.length - 1 - j) * 4)) (h0 : Hid (xs0.length = (l.length - 1) * 4)) (hj : j < l.length)
    (ho : w3.ownsRow w.heap.size 24 4 (.slice (some ⟨G, 0, none⟩) (l.length - 1) (l.length - 1)) (l.length - 1) (spl (spl xs0 0 (flat (l.take j))) (j * 4) (flat (l.drop (j + 1))))) (hb : Below w.heap.size w w3) :
    Made w (l.take j ++ l.drop (j + 1)) 0 e w3 := by
  have e1 : spl (spl xs0 0 (flat (l.take j))) (j * 4) (flat (l.drop (j + 1))) = flat (l.take j ++ l.drop (j + 1)) := by
    rw [flat_append, ← h1.out]
    exact spl_two (by rw [h0.out, h1.out, h2.out]; omega)
  rw [e1] at ho
  have hl : (l.take j ++ l.drop (j + 1)).length = l.length - 1 := by simp; omega
  subst he hm hc
  exact ⟨_, l.length - 1, by rw [hl], by omega, Row.of_own ho, hb⟩

set_option maxHeartbeats 1000000 in
theorem drop_hit (A : Option Addr) (cap B : Nat) (l : List Bk) (id : Int) (w : World) (hr : Row w B A (flat l)) (hB : B ≤ w.heap.size) (hn : l.length ≤ 1000) (hcap : l.length ≤ cap)
    (k : Nat) (hk : k < l.length) (hid : l[k].id = id) (hbef : Hid (∀ j (a : j < l.length), j < k → l[j].id ≠ id)) :
    Calls Try.prog 8 #[.slice A l.length cap, .int .i64 id] w (Made w (l.take k ++ l.drop (k + 1)) 0) := by
  obtain ⟨i0, hi0, hz0, hz1, hz2⟩ := info_parts info24
  go_enter Try.func8, Try.ntmps8
  go_wp2
  go_loopw [11] (fun i wr => ∃ j : Nat, j ≤ k ∧ i = .int .i64 j ∧ Below w.heap.size w wr) (fun i _ => k - (intOf i).toNat)
  case atStart => exact ⟨0, Nat.zero_le _, rfl, Below.refl _ _⟩
  case round =>
    obtain ⟨j, hj, rfl, hbel⟩ := hrel
    have hz := hbel.size
    obtain ⟨b, off, rfl, hbB, g0, g1, g2, g3⟩ := ((hr.more hB).below hbel).bk (show j < l.length by omega)
    have hr2 : Row wr w.heap.size (some ⟨b, off, none⟩) (flat l) := (hr.more hB).below hbel
    have hjl : j < l.length := by omega
    by_cases hlt : j < k
    · have q0 : (l[j].id == id) = false := by simpa using hbef.out j (by omega) hlt
      go_wp2
      go_roundw
      case rel => exact ⟨j + 1, by omega, by go_num, hbel.alloc hz _⟩
      case measure => simp [intOf]; omega
    · obtain rfl : j = k := by omega
      have q0 : (l[j].id == id) = true := by simpa using hid
      clear hid
      have hft := Lib.hid (flat_take l j (by omega))
      have hfd := Lib.hid (flat_drop l (j + 1) (by omega))
      have hl1 : (flat (l.take j)).length = j * 4 := by rw [flat_len, List.length_take]; omega
      have hl2 : (flat (l.drop (j + 1))).length = (l.length - 1 - j) * 4 := by rw [flat_len, List.length_drop]; omega
      have HL1 := Lib.hid hl1
      have HL2 := Lib.hid hl2
      clear hl1 hl2
      have hmin1 : Hid (Nat.min j (l.length - 1) = j) := Nat.min_eq_left (by omega)
      go_wp2_with (first
        | (at_make
           refine wpList_make_full _ rfl _ _ 22 rfl w.heap.size 24 i0 _ 4 Try.underlying22 hi0 hz0 hz1 _ _ _ _ (l.length - 1) rfl rfl (by omega) (by omega) (by rw [hz2]; omega) (by unfold maxLen; omega) (by simp; omega) ?_
           intro w1 ho0 hg1
           obtain ⟨xs0, hx0, ho1⟩ := made_fix ho0
           clear ho0
           have hb1 : Below w.heap.size w w1 := (hbel.alloc hz _).grown hg1 (by simp; omega) (fun k hk => by cases hk)
           have hr3 : Row w1 w.heap.size (some ⟨b, off, none⟩) (flat l) := (hr.more hB).below hb1
           have hr4 : Row w1 w.heap.size (some ⟨b, off, none⟩) (flat (l.take j)) := by rw [hft.out]; exact hr3.take _
           have hs1 := hb1.size
           clear hg1)
        | (refine wpList_copy_own' rfl (.tmp 24) (.tmp 27) 22 22 rfl w.heap.size 24 i0 4 Try.underlying22 hi0 hz1 _ _ _ _ _ _ rfl rfl _ _ _ _ ho1 j 0 (flat (l.take j)) hmin1.out HL1.out (fun _ => rfl) _ hr4 (by decide) (by rw [HL1.out]; omega) (one_flat _) ?_
           intro w2 ho2 hg2
           have hb2 : Below w.heap.size w w2 := hb1.grown hg2 hs1 (fun k hk => by cases hk; omega)
           have hr5 : Row w2 w.heap.size (some ⟨b, off, none⟩) (flat l) := (hr.more hB).below hb2
           have hs2 := hb2.size
           clear hg2 hr3 hr4))
      have hmin2 : Hid (Nat.min (l.length - (j + 1)) (l.length - 1 - j) = l.length - 1 - j) := Nat.min_eq_right (by omega)
      have hw1 : IntKind.i64.wrap ((j : Int) + 1) = (j : Int) + 1 := IntWalk.i64_in _ (by omega)
      have hw2 : ((j : Int) + 1).toNat = j + 1 := by omega
      have hw3 : (0 : Int) ≤ (j : Int) + 1 := by omega
      have hw4 : (j : Int) + 1 ≤ (l.length : Int) := by omega
      have hw5 : (j : Int) ≤ ((l.length - 1 : Nat) : Int) := by omega
      have hr6 : Row w2 w.heap.size (some ⟨b, off + (j + 1) * 4, none⟩) (flat (l.drop (j + 1))) := by rw [hfd.out]; exact hr5.drop _
      by_cases hlast : j < l.length - 1
      · have hn1 : ¬ l.length - 1 = j := by omega
        have hn2 : ¬ cap = j + 1 := by omega
        have hr7 : Row w2.drew w.heap.size (some ⟨b, off + (j + 1) * 4, none⟩) (flat (l.drop (j + 1))) := hr6
        go_frame
        go_region_law (refine step_copy_own rfl (.tmp 31) (.tmp 35) 22 22 rfl w.heap.size 24 i0 4 Try.underlying22 hi0 hz1 (some ⟨wr.heap.size + 1, j * 4, none⟩) (some ⟨b, off + (j + 1) * 4, none⟩) (l.length - 1 - j) (l.length - 1 - j) (l.length - (j + 1)) (cap - (j + 1)) (by simp [Act.eval, Act.put]) (by simp [Act.eval, Act.put]) (wr.heap.size + 1) (l.length - 1) (l.length - 1) _ ho2.drew (l.length - 1 - j) (j * 4) (flat (l.drop (j + 1))) hmin2.out HL2.out (fun _ => rfl) w.heap.size hr7 (by decide) (by rw [HL2.out]; omega) (one_flat _) ?_; intro w3 ho3 hg3)
        have hb3 : Below w.heap.size w w3 := (hb2.drew).grown hg3 hs2 (fun k hk => by cases hk; omega)
        clear hg3
        go_wp2
        go_ret2
        exact made_of rfl rfl rfl HL1 HL2 hx0 (by omega) ho3 hb3
      · have hn1 : Hid (l.length = j + 1) := by show l.length = j + 1; omega
        have hn3 : l.length - 1 = j := by omega
        have hmin3 : Hid (Nat.min (l.length - (j + 1)) 0 = 0) := Nat.min_eq_right (by omega)
        have hl0 : Hid ((flat (l.drop (j + 1))).length = 0 * 4) := by show _ = _; rw [HL2.out]; omega
        by_cases hcc : cap = j + 1
        · go_frame
          go_region_law (refine step_copy_own rfl (.tmp 31) (.tmp 35) 22 22 rfl w.heap.size 24 i0 4 Try.underlying22 hi0 hz1 (some ⟨wr.heap.size + 1, 0, none⟩) (some ⟨b, off, none⟩) 0 0 (l.length - (j + 1)) 0 (by simp [Act.eval, Act.put]) (by simp [Act.eval, Act.put]) (wr.heap.size + 1) (l.length - 1) (l.length - 1) _ ho2.drew 0 (j * 4) (flat (l.drop (j + 1))) hmin3.out hl0.out (fun h => by omega) w.heap.size (by intro h; rw [hl0.out] at h; omega) (by decide) (by rw [hl0.out]; omega) (one_flat _) ?_; intro w3 ho3 hg3)
          have hb3 : Below w.heap.size w w3 := (hb2.drew).grown hg3 hs2 (fun k hk => by cases hk; omega)
          clear hg3
          go_wp2
          go_ret2
          exact made_of rfl (by omega) (by omega) HL1 HL2 hx0 (by omega) ho3 hb3
        · go_frame
          go_region_law (refine step_copy_own rfl (.tmp 31) (.tmp 35) 22 22 rfl w.heap.size 24 i0 4 Try.underlying22 hi0 hz1 (some ⟨wr.heap.size + 1, 0, none⟩) (some ⟨b, off + (j + 1) * 4, none⟩) 0 0 (l.length - (j + 1)) (cap - (j + 1)) (by simp [Act.eval, Act.put]) (by simp [Act.eval, Act.put]) (wr.heap.size + 1) (l.length - 1) (l.length - 1) _ ho2.drew 0 (j * 4) (flat (l.drop (j + 1))) hmin3.out hl0.out (fun h => by omega) w.heap.size (by intro h; rw [hl0.out] at h; omega) (by decide) (by rw [hl0.out]; omega) (one_flat _) ?_; intro w3 ho3 hg3)
          have hb3 : Below w.heap.size w w3 := (hb2.drew).grown hg3 hs2 (fun k hk => by cases hk; omega)
          clear hg3
          go_wp2
          go_ret2
          exact made_of rfl (by omega) (by omega) HL1 HL2 hx0 (by omega) ho3 hb3

/-- No element has that id. -/
theorem drop_none (A : Option Addr) (cap B : Nat) (l : List Bk) (id : Int) (w : World) (hr : Row w B A (flat l)) (hB : B ≤ w.heap.size) (hn : l.length ≤ 1000)
    (hbef : Hid (∀ j (a : j < l.length), l[j].id ≠ id)) :
    Calls Try.prog 8 #[.slice A l.length cap, .int .i64 id] w (Made w [] 30) := by
  go_enter Try.func8, Try.ntmps8
  go_wp2
  go_loopw [11] (fun i wr => ∃ j : Nat, j ≤ l.length ∧ i = .int .i64 j ∧ Below w.heap.size w wr) (fun i _ => l.length - (intOf i).toNat)
  case atStart => exact ⟨0, Nat.zero_le _, rfl, Below.refl _ _⟩
  case round =>
    obtain ⟨j, hj, rfl, hbel⟩ := hrel
    have hz := hbel.size
    by_cases hlt : j < l.length
    · obtain ⟨b, off, rfl, hbB, g0, g1, g2, g3⟩ := ((hr.more hB).below hbel).bk hlt
      have q0 : (l[j].id == id) = false := by simpa using hbef.out j hlt
      go_wp2
      go_roundw
      case rel => exact ⟨j + 1, by omega, by go_num, hbel.alloc hz _⟩
      case measure => simp [intOf]; omega
    · go_wp2
      go_ret2
      exact ⟨none, 0, rfl, Nat.le_refl _, Row.empty, hbel⟩
end Go.Proofs.Ytdnhgmkcfoojdaa
