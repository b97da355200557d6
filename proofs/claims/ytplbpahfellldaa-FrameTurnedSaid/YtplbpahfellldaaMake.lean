/-
  Contracts of frame.Make and of its reference: the bytes that they make, in memory of their own.
-/
import Derived.Test.YtplbpahfellldaaParts
namespace Go.Proofs.Ytplbpahfellldaa
open Go.RowKit
set_option linter.unusedVariables false

/-- It returns a slice of its own that holds these bytes, and an error. -/
def Made (w : World) (zs : List Int) (er : Int) (e : Ending) (w' : World) : Prop :=
  ∃ v, e = .returned (.tuple #[v, .int .i64 er]) ∧ w'.ownsRow w.heap.size 5 1 v zs.length (bytes zs) ∧ Below w.heap.size w w'
def Made1 (w : World) (zs : List Int) (e : Ending) (w' : World) : Prop :=
  ∃ v, e = .returned v ∧ w'.ownsRow w.heap.size 5 1 v zs.length (bytes zs) ∧ Below w.heap.size w w'

theorem make_no (A : Option Addr) (cap : Nat) (n : Nat) (w : World) (h : n < 1 ∨ 240 < n) :
    Calls Try.prog 7 #[.slice A n cap] w fun e w' => e = .returned (.tuple #[.slice none 0 0, .int .i64 12]) ∧ w = w' := by
  have hp : payB (n : Int) = false := payB_no (by omega)
  go_enter Try.func7, Try.ntmps7
  go_wp2_with (go_at_call 14; refine (payload_any _ _).mono ?_; rintro e w' ⟨rfl, rfl⟩)
  go_ret2
  exact ⟨rfl, rfl⟩

theorem own3 {w : World} {base : Nat} {v : Value} {zs : List Int} (hB : IsB zs) (hn : zs.length ≤ 2000) (h : w.ownsRow base 5 1 v (2 + zs.length) (bytes (headZ zs.length) ++ bytes zs)) :
    ∃ ys, Hid (ys = headZ zs.length ++ zs) ∧ IsB ys ∧ ys.length ≤ 2500 ∧ 1 ≤ ys.length ∧ ∃ A c, v = .slice A ys.length c ∧ w.ownsRow base 5 1 (.slice A ys.length c) ys.length (bytes ys) := by
  have e : (headZ zs.length ++ zs).length = 2 + zs.length := by simp [headZ]; omega
  have h2 : w.ownsRow base 5 1 v (headZ zs.length ++ zs).length (bytes (headZ zs.length ++ zs)) := by rw [e, bytes, List.map_append]; exact h
  obtain ⟨A, c, rfl⟩ := own_form h2
  exact ⟨_, rfl, (isB_head _ (by omega)).append hB, by omega, by omega, A, c, rfl, h2⟩
theorem own4 {w : World} {base : Nat} {v : Value} {zs ys : List Int} (hy : Hid (ys = headZ zs.length ++ zs)) (h : w.ownsRow base 5 1 v (ys.length + 1) (bytes ys ++ [.int .u8 (checkZ ys)])) : w.ownsRow base 5 1 v (frameZ zs).length (bytes (frameZ zs)) := by
  have hy := hy.out
  subst hy
  have e : (frameZ zs).length = (headZ zs.length ++ zs).length + 1 := by simp [frameZ]; omega
  rw [e, frame_eq, bytes, List.map_append]; exact h

set_option maxHeartbeats 1000000 in
theorem make_yes (A : Option Addr) (cap : Nat) (zs : List Int) (w : World) (B : Nat) (hr : Row w B A (bytes zs)) (hB : IsB zs) (hb : B ≤ w.heap.size) (h1 : 1 ≤ zs.length) (h2 : zs.length ≤ 240) :
    Calls Try.prog 7 #[.slice A zs.length cap] w (Made w (frameZ zs) 0) := by
  have hp : payB (zs.length : Int) = true := payB_yes (by omega)
  obtain ⟨i0, hi0, hz0, hz1, hz2⟩ := info_parts info5
  go_enter Try.func7, Try.ntmps7
  have hr0 : Row w w.heap.size A (bytes zs) := hr.more hb
  clear hr
  go_wp2_with (first
    | (go_at_call 14; refine (payload_any _ _).mono ?_; rintro e w' ⟨rfl, rfl⟩)
    | (at_make
       refine wpList_make_own _ rfl _ _ 22 rfl w.heap.size 5 i0 (.int .u8 0) 1 Try.underlying22 hi0 hz0 hz1 _ _ _ (zs.length + 3) rfl rfl (by omega) (by rw [hz2]; omega) (by unfold maxLen; omega) (Nat.le_refl _) ?_
       intro w1 hown1 hg1
       have hb1 : Below w.heap.size w w1 := (Below.refl _ _).grown hg1 (Nat.le_refl _) (fun k hk => by cases hk)
       have hs1 := hb1.size)
    | (at_builtin
       refine wpList_append_row rfl (.tmp 14) (.tmp 23) 22 rfl w.heap.size 5 i0 (.int .u8 0) 1 1 Try.underlying22 hi0 hz0 hz1 hz2 rfl (by decide) _ _ _ rfl (hown1.alloc _) _ _ 2 2 _ rfl (Row.lit _ _ _) rfl (one_bytes (headZ zs.length)) (by unfold maxLen; omega) (by omega) (by simp; omega) ?_
       intro v2 w2 hown2 hg2
       have hb2 : Below w.heap.size w w2 := (hb1.alloc hs1 _).grown hg2 (by simp; omega) (fun k hk => (hown1.lt k hk).1)
       have ho2 : w2.ownsRow w.heap.size 5 1 v2 2 (bytes (headZ zs.length)) := by simpa [headZ] using hown2
       have hs2 := hb2.size
       clear hown2 hg2 hown1 hb1 hs1)
    | (at_builtin
       refine wpList_append_row rfl (.tmp 25) (.tmp 26) 22 rfl w.heap.size 5 i0 (.int .u8 0) 1 1 Try.underlying22 hi0 hz0 hz1 hz2 rfl (by decide) _ _ _ rfl ho2 _ A zs.length cap _ rfl (hr0.below hb2) (by simp) (one_bytes zs) (by unfold maxLen; omega) (by omega) hs2 ?_
       intro v3 w3 hown3 hg3
       have hb3 : Below w.heap.size w w3 := hb2.grown hg3 hs2 (fun k hk => (ho2.lt k hk).1)
       obtain ⟨ys, hy, hBy, hny, hpy, A3, c3, rfl, ho3⟩ := own3 hB (by omega) hown3
       have hs3 := hb3.size
       clear hown3 hg3 ho2 hb2 hs2)
    | (go_at_call 15; refine (checksum_any A3 c3 _ ys _ (Row.of_own ho3) hBy (by omega)).mono ?_; rintro e w' ⟨rfl, rfl⟩)
    | (at_builtin
       refine wpList_append_row rfl (.tmp 28) (.tmp 31) 22 rfl w.heap.size 5 i0 (.int .u8 0) 1 1 Try.underlying22 hi0 hz0 hz1 hz2 rfl (by decide) _ _ _ rfl (ho3.alloc _) _ _ 1 1 _ rfl (Row.lit _ _ _) rfl (one_bytes [_]) (by unfold maxLen; omega) (by omega) (by simp; omega) ?_
       intro v4 w4 hown4 hg4
       have hb4 : Below w.heap.size w w4 := (hb3.alloc hs3 _).grown hg4 (by simp; omega) (fun k hk => (ho3.lt k hk).1)
       have ho4 : w4.ownsRow w.heap.size 5 1 v4 (frameZ zs).length (bytes (frameZ zs)) := own4 hy hown4
       clear hown4 hg4 ho3 hb3 hs3))
  go_ret2
  exact ⟨v4, rfl, ho4, hb4⟩
theorem own2 (w : World) (n : Nat) : (w.alloc (.cells #[.int .u8 ((n : Int) / 256), .int .u8 ((n : Int) % 256)] 5)).ownsRow w.heap.size 5 1 (.slice (some ⟨w.heap.size, 0, none⟩) 2 2) 2 (bytes (headZ n)) :=
  World.ownsRow_lit w #[.int .u8 ((n : Int) / 256), .int .u8 ((n : Int) % 256)] 2 (Nat.le_refl _) (by unfold maxLen; omega) rfl

set_option maxHeartbeats 1000000 in
theorem rmake_any (A : Option Addr) (cap : Nat) (zs : List Int) (w : World) (B : Nat) (hr : Row w B A (bytes zs)) (hB : IsB zs) (hb : B ≤ w.heap.size) (h2 : zs.length ≤ 2000) :
    Calls Try.prog 11 #[.slice A zs.length cap] w (Made1 w (frameZ zs)) := by
  obtain ⟨i0, hi0, hz0, hz1, hz2⟩ := info_parts info5
  have hr0 : Row w w.heap.size A (bytes zs) := hr.more hb
  clear hr
  have ho2 := own2 w zs.length
  have hb2 : Below w.heap.size w (w.alloc (.cells #[.int .u8 ((zs.length : Int) / 256), .int .u8 ((zs.length : Int) % 256)] 5)) := (Below.refl _ _).alloc (Nat.le_refl _) _
  go_enter Try.func11, Try.ntmps11
  go_wp2_with (first
    | (at_builtin
       refine wpList_append_row rfl (.tmp 13) (.tmp 14) 22 rfl w.heap.size 5 i0 (.int .u8 0) 1 1 Try.underlying22 hi0 hz0 hz1 hz2 rfl (by decide) _ _ _ rfl ho2 _ A zs.length cap _ rfl (hr0.below hb2) (by simp) (one_bytes zs) (by unfold maxLen; omega) (by omega) (by simp) ?_
       intro v3 w3 hown3 hg3
       have hb3 : Below w.heap.size w w3 := hb2.grown hg3 (by simp) (fun k hk => (ho2.lt k hk).1)
       obtain ⟨ys, hy, hBy, hny, hpy, A3, c3, rfl, ho3⟩ := own3 hB (by omega) hown3
       have hs3 := hb3.size
       clear hown3 hg3 ho2 hb2)
    | (go_at_call 16; refine (rcheck_any A3 c3 _ ys _ (Row.of_own ho3) hBy (by omega)).mono ?_; rintro e w' ⟨rfl, rfl⟩)
    | (at_builtin
       refine wpList_append_row rfl (.tmp 16) (.tmp 19) 22 rfl w.heap.size 5 i0 (.int .u8 0) 1 1 Try.underlying22 hi0 hz0 hz1 hz2 rfl (by decide) _ _ _ rfl (ho3.alloc _) _ _ 1 1 _ rfl (Row.lit _ _ _) rfl (one_bytes [_]) (by unfold maxLen; omega) (by omega) (by simp; omega) ?_
       intro v4 w4 hown4 hg4
       have hb4 : Below w.heap.size w w4 := (hb3.alloc hs3 _).grown hg4 (by simp; omega) (fun k hk => (ho3.lt k hk).1)
       have ho4 : w4.ownsRow w.heap.size 5 1 v4 (frameZ zs).length (bytes (frameZ zs)) := own4 hy hown4
       clear hown4 hg4 ho3 hb3 hs3))
  go_ret
  exact ⟨v4, rfl, ho4, hb4⟩
end Go.Proofs.Ytplbpahfellldaa
