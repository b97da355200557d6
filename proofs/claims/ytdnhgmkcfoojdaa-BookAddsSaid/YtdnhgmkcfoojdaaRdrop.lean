/-
  The contracts of the reference's Drop.
-/
import Derived.Test.YtdnhgmkcfoojdaaDrop
namespace Go.Proofs.Ytdnhgmkcfoojdaa
open Go.RowKit
set_option linter.unusedVariables false

def Made2 (w : World) (l : List Bk) (ok : Bool) (e : Ending) (w' : World) : Prop :=
  ∃ A c, e = .returned (.tuple #[.slice A l.length c, .bool ok]) ∧ l.length ≤ c ∧ Row w' w'.heap.size A (flat l) ∧ Below w.heap.size w w'
theorem own_cap {w : World} {base : Nat} {e : TypeId} {size n c : Nat} {A : Option Addr} {xs : List Value} (h : w.ownsRow base e size (.slice A n c) n xs) : n ≤ c := by
  rcases h.2 with ⟨hv, hn⟩ | ⟨g, cap, cur, hv, _, _, hc, _⟩
  · omega
  · injection hv; omega
theorem made2_of {w w3 : World} {l : List Bk} {j : Nat} {e : Ending} {v : Value} (he : e = .returned (.tuple #[v, .bool true])) (hj : j < l.length)
    (ho : w3.ownsRow w.heap.size 24 4 v (0 + j + (l.length - (j + 1))) ([] ++ flat (l.take j) ++ flat (l.drop (j + 1)))) (hb : Below w.heap.size w w3) :
    Made2 w (l.take j ++ l.drop (j + 1)) true e w3 := by
  have hl : (l.take j ++ l.drop (j + 1)).length = 0 + j + (l.length - (j + 1)) := by simp; omega
  have ho2 : w3.ownsRow w.heap.size 24 4 v (l.take j ++ l.drop (j + 1)).length (flat (l.take j ++ l.drop (j + 1))) := by
    rw [hl, flat_append]; simpa using ho
  obtain ⟨A, c, rfl⟩ := own_form ho2
  subst he
  exact ⟨A, c, rfl, own_cap ho2, Row.of_own ho2, hb⟩

set_option maxHeartbeats 1000000 in
theorem rdrop_hit (A : Option Addr) (cap B : Nat) (l : List Bk) (id : Int) (w : World) (hr : Row w B A (flat l)) (hB : B ≤ w.heap.size) (hn : l.length ≤ 1000) (hcap : l.length ≤ cap)
    (k : Nat) (hk : k < l.length) (hid : l[k].id = id) (hbef : Hid (∀ j (a : j < l.length), j < k → l[j].id ≠ id)) :
    Calls Try.prog 11 #[.slice A l.length cap, .int .i64 id] w (Made2 w (l.take k ++ l.drop (k + 1)) true) := by
  obtain ⟨i0, hi0, hz0, hz1, hz2⟩ := info_parts info24
  go_enter Try.func11, Try.ntmps11
  go_wp2
  go_loop [6] (fun i => ∃ j : Nat, j ≤ k ∧ i = .int .i64 j) (fun i => k - (intOf i).toNat)
  case atStart => exact ⟨0, Nat.zero_le _, rfl⟩
  case round =>
    obtain ⟨j, hj, rfl⟩ := hrel
    have hr0 := hr.more hB
    obtain ⟨b, off, rfl, hbB, g0, g1, g2, g3⟩ := hr0.bk (show j < l.length by omega)
    have hjl : j < l.length := by omega
    by_cases hlt : j < k
    · have q0 : (l[j].id == id) = false := by simpa using hbef.out j (by omega) hlt
      go_wp2
      go_round
      case rel => exact ⟨j + 1, by omega, by go_num⟩
      case measure => simp [intOf]; omega
    · obtain rfl : j = k := by omega
      have q0 : (l[j].id == id) = true := by simpa using hid
      clear hid
      have hft := Lib.hid (flat_take l j (by omega))
      have hfd := Lib.hid (flat_drop l (j + 1) (by omega))
      have HL1 : Hid ((flat (l.take j)).length = j * 4) := by show _ = _; rw [flat_len, List.length_take]; omega
      have HL2 : Hid ((flat (l.drop (j + 1))).length = (l.length - (j + 1)) * 4) := by show _ = _; rw [flat_len, List.length_drop]; omega
      have hr4 : Row w w.heap.size (some ⟨b, off, none⟩) (flat (l.take j)) := by rw [hft.out]; exact hr0.take _
      have hrd : Row w w.heap.size (some ⟨b, off + (j + 1) * 4, none⟩) (flat (l.drop (j + 1))) := by rw [hfd.out]; exact hr0.drop _
      by_cases hcc : cap = j + 1
      · have hle : l.length = j + 1 := by omega
        have HL3 : Hid ((flat (l.drop (j + 1))).length = 0) := by show _ = _; rw [HL2.out]; omega
        have hre : Row w w.heap.size (some ⟨b, off, none⟩) (flat (l.drop (j + 1))) := by intro h; rw [HL3.out] at h; omega
        have HLE := Lib.hid hle
        clear hle
        go_wp2_with (first
          | (at_builtin
             refine wpList_append_row rfl (.tmp 21) (.tmp 24) 22 rfl w.heap.size 24 i0 _ 4 32 Try.underlying22 hi0 hz0 hz1 hz2 rfl (by decide) _ _ _ rfl (World.ownsRow_nil _ _ _ _) w.heap.size _ j _ (flat (l.take j)) rfl hr4 HL1.out (one_flat _) (by unfold maxLen; omega) (by omega) (Nat.le_refl _) ?_
             intro v1 w1 ho1 hg1
             have hb1 : Below w.heap.size w w1 := (Below.refl _ _).grown hg1 (Nat.le_refl _) (fun k hk => by cases hk)
             have hs1 := hb1.size)
          | (at_builtin
             refine wpList_append_row rfl (.tmp 26) (.tmp 30) 22 rfl w.heap.size 24 i0 _ 4 32 Try.underlying22 hi0 hz0 hz1 hz2 rfl (by decide) _ _ _ rfl ho1 w.heap.size _ (l.length - (j + 1)) _ (flat (l.drop (j + 1))) rfl (hre.below hb1) HL2.out (one_flat _) (by unfold maxLen; omega) (by omega) hs1 ?_
             intro v2 w2 ho2 hg2
             have hb2 : Below w.heap.size w w2 := hb1.grown hg2 hs1 (fun k hk => (ho1.lt k hk).1)))
        go_ret2
        exact made2_of rfl hjl ho2 hb2
      · go_wp2_with (first
          | (at_builtin
             refine wpList_append_row rfl (.tmp 21) (.tmp 24) 22 rfl w.heap.size 24 i0 _ 4 32 Try.underlying22 hi0 hz0 hz1 hz2 rfl (by decide) _ _ _ rfl (World.ownsRow_nil _ _ _ _) w.heap.size _ j _ (flat (l.take j)) rfl hr4 HL1.out (one_flat _) (by unfold maxLen; omega) (by omega) (Nat.le_refl _) ?_
             intro v1 w1 ho1 hg1
             have hb1 : Below w.heap.size w w1 := (Below.refl _ _).grown hg1 (Nat.le_refl _) (fun k hk => by cases hk)
             have hs1 := hb1.size)
          | (at_builtin
             refine wpList_append_row rfl (.tmp 26) (.tmp 30) 22 rfl w.heap.size 24 i0 _ 4 32 Try.underlying22 hi0 hz0 hz1 hz2 rfl (by decide) _ _ _ rfl ho1 w.heap.size _ (l.length - (j + 1)) _ (flat (l.drop (j + 1))) rfl (hrd.below hb1) HL2.out (one_flat _) (by unfold maxLen; omega) (by omega) hs1 ?_
             intro v2 w2 ho2 hg2
             have hb2 : Below w.heap.size w w2 := hb1.grown hg2 hs1 (fun k hk => (ho1.lt k hk).1)))
        go_ret2
        exact made2_of rfl hjl ho2 hb2

theorem rdrop_none (A : Option Addr) (cap B : Nat) (l : List Bk) (id : Int) (w : World) (hr : Row w B A (flat l)) (hB : B ≤ w.heap.size) (hn : l.length ≤ 1000)
    (hbef : Hid (∀ j (a : j < l.length), l[j].id ≠ id)) :
    Calls Try.prog 11 #[.slice A l.length cap, .int .i64 id] w (Made2 w [] false) := by
  go_enter Try.func11, Try.ntmps11
  go_wp2
  go_loop [6] (fun i => ∃ j : Nat, j ≤ l.length ∧ i = .int .i64 j) (fun i => l.length - (intOf i).toNat)
  case atStart => exact ⟨0, Nat.zero_le _, rfl⟩
  case round =>
    obtain ⟨j, hj, rfl⟩ := hrel
    by_cases hlt : j < l.length
    · obtain ⟨b, off, rfl, hbB, g0, g1, g2, g3⟩ := hr.bk hlt
      have q0 : (l[j].id == id) = false := by simpa using hbef.out j hlt
      go_wp2
      go_round
      case rel => exact ⟨j + 1, by omega, by go_num⟩
      case measure => simp [intOf]; omega
    · go_wp2
      go_ret2
      exact ⟨none, 0, rfl, Nat.le_refl _, Row.empty, Below.refl _ _⟩
end Go.Proofs.Ytdnhgmkcfoojdaa
