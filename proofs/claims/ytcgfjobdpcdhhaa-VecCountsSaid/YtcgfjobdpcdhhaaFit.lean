/-
  Contracts of place.fit and place.Room.
-/
import Derived.Test.YtcgfjobdpcdhhaaCount
import Derived.Test.YtcgfjobdpcdhhaaShares
namespace Go.Proofs.Ytcgfjobdpcdhhaa
open Go.RowKit Go.BigFrame
set_option linter.unusedVariables false

def Rs.cs (b : Rs) : List Value := [.int .i64 b.c, .int .i64 b.m, .int .i64 b.g, .int .i64 b.l]
def flatR (l : List Rs) : List Value := l.flatMap Rs.cs
theorem flatR_len (l : List Rs) : (flatR l).length = l.length * 4 := by
  induction l with
  | nil => rfl
  | cons b r ih => simp [flatR, Rs.cs] at *; omega
theorem flatR_get (l : List Rs) (k : Nat) (hk : k < l.length) : (flatR l)[k * 4]? = some (.int .i64 l[k].c) ∧ (flatR l)[k * 4 + 1]? = some (.int .i64 l[k].m) ∧ (flatR l)[k * 4 + 2]? = some (.int .i64 l[k].g) ∧ (flatR l)[k * 4 + 3]? = some (.int .i64 l[k].l) := by
  induction l generalizing k with
  | nil => simp at hk
  | cons b r ih =>
    cases k with
    | zero => simp [flatR, Rs.cs]
    | succ k =>
      have := ih k (by simpa using hk)
      have e : (k + 1) * 4 = k * 4 + 4 := by omega
      rw [e]
      simp only [flatR, List.flatMap_cons, Rs.cs] at this ⊢
      simpa using this
/-- The four cells of an element. -/
theorem Row.rs {w : World} {B : Nat} {A : Option Addr} {l : List Rs} {k : Nat} (h : Row w B A (flatR l)) (hk : k < l.length) :
    ∃ b off, A = some ⟨b, off, none⟩ ∧ b < B ∧ w.cell? ⟨b, off + k * 4, none⟩ = some (.int .i64 l[k].c) ∧ w.cell? ⟨b, off + k * 4 + 1, none⟩ = some (.int .i64 l[k].m) ∧ w.cell? ⟨b, off + k * 4 + 2, none⟩ = some (.int .i64 l[k].g) ∧ w.cell? ⟨b, off + k * 4 + 3, none⟩ = some (.int .i64 l[k].l) := by
  obtain ⟨b, off, e, hb, hc⟩ := h (by rw [flatR_len]; omega)
  obtain ⟨g0, g1, g2, g3⟩ := flatR_get l k hk
  refine ⟨b, off, e, hb, hc _ _ g0, ?_, ?_, ?_⟩
  · rw [Nat.add_assoc]; exact hc _ _ g1
  · rw [Nat.add_assoc]; exact hc _ _ g2
  · rw [Nat.add_assoc]; exact hc _ _ g3

/-- How many of need fit a node. -/
def fitI (free : List Rs) (node : Int) (need : Rs) : Int := if node < 0 then 0 else match free[node.toNat]? with | some f => f.count need | none => 0
theorem fitI_neg {free : List Rs} {node : Int} {need : Rs} (h : node < 0) : fitI free node need = 0 := by simp [fitI, h]
theorem fitI_over {free : List Rs} {k : Nat} {need : Rs} (h : free.length ≤ k) : fitI free k need = 0 := by
  unfold fitI; rw [if_neg (by omega)]; simp [List.getElem?_eq_none h]
theorem fitI_at {free : List Rs} {k : Nat} {need : Rs} (h : k < free.length) : fitI free k need = free[k].count need := by
  unfold fitI; rw [if_neg (by omega)]; simp [List.getElem?_eq_getElem h]
theorem count_bound (a b : Rs) : 0 ≤ a.count b ∧ a.count b ≤ 64 := by
  unfold Rs.count
  split
  · rename_i h; exact countK_bound h.1 4
  · omega
theorem fitI_bound (free : List Rs) (node : Int) (need : Rs) : 0 ≤ fitI free node need ∧ fitI free node need ≤ 64 := by
  unfold fitI; split
  · omega
  · split
    · exact count_bound _ _
    · omega
theorem box_one (a : Rs) (w : World) : ∃ wa, w.alloc (a.obj 23) = wa ∧ Below w.heap.size w wa ∧ wa.heap.size = w.heap.size + 1 ∧ Held w.heap.size a wa :=
  ⟨_, rfl, (Below.refl _ _).alloc (Nat.le_refl _) _, by simp, by simp, by simp, by simp, by simp⟩

set_option maxHeartbeats 1000000 in
theorem fit_any (A : Option Addr) (cap B : Nat) (free : List Rs) (node : Int) (need : Rs) (w : World) (hr : Row w B A (flatR free)) (hB : B ≤ w.heap.size) (hn : free.length ≤ 1000) :
    Calls Try.prog 41 #[.slice A free.length cap, .int .i64 node, need.val] w fun e w' => e = .returned (.int .i64 (fitI free node need)) ∧ Below w.heap.size w w' := by
  obtain ⟨wa, hwa, hba, hs, hh⟩ := box_one need w
  simp only [Rs.obj] at hwa
  have HS := Lib.hid hs
  clear hs
  by_cases h0 : node < 0
  · have HO := Lib.hid (fitI_neg (free := free) (need := need) h0)
    go_enter Try.func41, Try.ntmps41
    go_wp2
    go_ret
    exact ⟨retInt HO.out.symm, hba⟩
  obtain ⟨k, rfl⟩ : ∃ k : Nat, node = k := ⟨node.toNat, by omega⟩
  by_cases h1 : free.length ≤ k
  · have HO := Lib.hid (fitI_over (need := need) h1)
    go_enter Try.func41, Try.ntmps41
    go_wp2
    go_ret
    exact ⟨retInt HO.out.symm, hba⟩
  have hlt : k < free.length := by omega
  have HO := Lib.hid (fitI_at (need := need) hlt)
  obtain ⟨b, off, rfl, hb0, g0, g1, g2, g3⟩ := (((hr.more hB).below hba).more hba.size).rs hlt
  have c0 : ∀ u : Later wa, u.val.cell? ⟨b, off + k * 4, none⟩ = some (.int .i64 free[k].c) := fun u => (u.cell (by show b < wa.heap.size; exact hb0)).trans g0
  have c1 : ∀ u : Later wa, u.val.cell? ⟨b, off + k * 4 + 1, none⟩ = some (.int .i64 free[k].m) := fun u => (u.cell (by show b < wa.heap.size; exact hb0)).trans g1
  have c2 : ∀ u : Later wa, u.val.cell? ⟨b, off + k * 4 + 2, none⟩ = some (.int .i64 free[k].g) := fun u => (u.cell (by show b < wa.heap.size; exact hb0)).trans g2
  have c3 : ∀ u : Later wa, u.val.cell? ⟨b, off + k * 4 + 3, none⟩ = some (.int .i64 free[k].l) := fun u => (u.cell (by show b < wa.heap.size; exact hb0)).trans g3
  have hn0 : w.heap.size < wa.heap.size := by rw [HS.out]; omega
  have e0 : ∀ u : Later wa, u.val.cell? ⟨w.heap.size, 0, none⟩ = some (.int .i64 need.c) := fun u => (u.cell hn0).trans hh.1
  have e1 : ∀ u : Later wa, u.val.cell? ⟨w.heap.size, 1, none⟩ = some (.int .i64 need.m) := fun u => (u.cell hn0).trans hh.2.1
  have e2 : ∀ u : Later wa, u.val.cell? ⟨w.heap.size, 2, none⟩ = some (.int .i64 need.g) := fun u => (u.cell hn0).trans hh.2.2.1
  have e3 : ∀ u : Later wa, u.val.cell? ⟨w.heap.size, 3, none⟩ = some (.int .i64 need.l) := fun u => (u.cell hn0).trans hh.2.2.2
  clear g0 g1 g2 g3
  go_enter Try.func41, Try.ntmps41
  go_wp2
  refine wp_region_later (by kernel_rfl) (by kernel_rfl) ?_
  repeat (go_big_quiet_step ((go_at_call 21; exact later_of (count_any free[k] need _))))
  refine wpQuiet_nil ?_
  intro w1 hw1
  obtain ⟨⟨w1, hb1⟩, rfl⟩ := hw1
  go_wp2
  go_ret
  exact ⟨retInt HO.out.symm, hba.trans (hb1.mono hba.size)⟩

def roomOf (free : List Rs) (need : Rs) : List Int → Int
  | [] => 0
  | n :: r => fitI free n need + roomOf free need r
theorem room_app (free : List Rs) (need : Rs) (l m : List Int) : roomOf free need (l ++ m) = roomOf free need l + roomOf free need m := by
  induction l with
  | nil => simp [roomOf]
  | cons s r ih => simp only [List.cons_append, roomOf, ih]; omega
theorem room_bound (free : List Rs) (need : Rs) (l : List Int) : 0 ≤ roomOf free need l ∧ roomOf free need l ≤ 64 * l.length := by
  induction l with
  | nil => simp [roomOf]
  | cons s r ih =>
    have := fitI_bound free s need
    simp only [roomOf, List.length_cons]
    omega
theorem room_next {free : List Rs} {need : Rs} {l : List Int} {k : Nat} (hk : k < l.length) : roomOf free need (l.take (k + 1)) = roomOf free need (l.take k) + fitI free l[k] need := by
  rw [List.take_succ_eq_append_getElem hk, room_app]; simp [roomOf]
theorem room_at {free : List Rs} {need : Rs} {l : List Int} {k : Nat} (hn : l.length ≤ 1000) : 0 ≤ roomOf free need (l.take k) ∧ roomOf free need (l.take k) ≤ 64000 := by
  have := room_bound free need (l.take k)
  rw [List.length_take] at this
  omega

set_option maxHeartbeats 1000000 in
theorem room_any (A A' : Option Addr) (cap cap' B B' : Nat) (free : List Rs) (part : List Int) (need : Rs) (w : World) (hr : Row w B A (flatR free)) (hB : B ≤ w.heap.size) (hn : free.length ≤ 1000)
    (hr' : Row w B' A' (ints part)) (hB' : B' ≤ w.heap.size) (hn' : part.length ≤ 1000) :
    Calls Try.prog 35 #[.slice A free.length cap, .slice A' part.length cap', need.val] w fun e w' => e = .returned (.int .i64 (roomOf free need part)) ∧ Below w.heap.size w w' := by
  obtain ⟨wa, hwa, hba, hs, hh⟩ := box_one need w
  simp only [Rs.obj] at hwa
  have HS := Lib.hid hs
  clear hs
  go_enter Try.func35, Try.ntmps35
  go_wp2
  have hra := (((hr.more hB).below hba).more hba.size)
  have hrp := (((hr'.more hB').below hba).more hba.size)
  go_loopw [7, 12] (fun n i wr => ∃ k : Nat, k ≤ part.length ∧ i = .int .i64 k ∧ n = .int .i64 (roomOf free need (part.take k)) ∧ Below wa.heap.size wa wr) (fun _ i _ => part.length - (intOf i).toNat)
  case atStart => exact ⟨0, Nat.zero_le _, rfl, rfl, Below.refl _ _⟩
  case round =>
    obtain ⟨k, hk, rfl, rfl, hbel⟩ := hrel
    by_cases hlt : k < part.length
    · obtain ⟨b, off, rfl, _, g0⟩ := (hrp.below hbel).int hlt
      obtain ⟨e0, e1, e2, e3⟩ := held_later hh hbel (by rw [HS.out]; omega)
      have t1 := room_at (free := free) (need := need) (l := part) (k := k) hn'
      have t2 := fitI_bound free part[k] need
      have HN := Lib.hid (room_next (free := free) (need := need) hlt)
      go_wp2_with fail
      refine (fit_any _ _ _ _ _ _ _ (hra.below hbel) hbel.size hn).mono ?_
      rintro e w1 ⟨rfl, hb1⟩
      go_wp2_with fail
      go_roundw
      case rel =>
        refine ⟨k + 1, by omega, by go_num, by rw [HN.out], hbel.trans (hb1.mono hbel.size)⟩
      case measure => simp [intOf]; omega
    · obtain rfl : k = part.length := by omega
      go_wp2
      go_ret
      exact ⟨retInt (by first | rfl | rw [List.take_length]), hba.trans (hbel.mono hba.size)⟩
end Go.Proofs.Ytcgfjobdpcdhhaa
