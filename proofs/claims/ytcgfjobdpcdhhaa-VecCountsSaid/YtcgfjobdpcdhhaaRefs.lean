/-
  Contracts of the reference's Fits, Add, Sub, Times, On and Rising.
-/
import Derived.Test.YtcgfjobdpcdhhaaFit
namespace Go.Proofs.Ytcgfjobdpcdhhaa
open Go.RowKit Go.BigFrame
set_option linter.unusedVariables false

set_option maxHeartbeats 1000000 in
theorem rfits_any (a b : Rs) (w : World) : Calls Try.prog 15 #[a.val, b.val] w fun e w' => e = .returned (.bool (a.fitsB b)) ∧ Below w.heap.size w w' := by
  have hb2 : Below w.heap.size w ((w.alloc (a.obj 23)).alloc (b.obj 23)) := ((Below.refl _ _).alloc (Nat.le_refl _) _).alloc (by simp) _
  by_cases t0 : a.c ≤ b.c
  · by_cases t1 : a.m ≤ b.m
    · by_cases t2 : a.g ≤ b.g
      · by_cases t3 : a.l ≤ b.l
        · have HO := Lib.hid (fitsB_yes ⟨t0, t1, t2, t3⟩)
          go_enter Try.func15, Try.ntmps15
          go_wp2
          go_ret
          exact ⟨retBool (by rw [HO.out]), hb2⟩
        · have HO := Lib.hid (fitsB_no (a := a) (b := b) (fun h => t3 h.2.2.2))
          go_enter Try.func15, Try.ntmps15
          go_wp2
          go_ret
          exact ⟨retBool (by rw [HO.out]), hb2⟩
      · have HO := Lib.hid (fitsB_no (a := a) (b := b) (fun h => t2 h.2.2.1))
        go_enter Try.func15, Try.ntmps15
        go_wp2
        go_ret
        exact ⟨retBool (by rw [HO.out]), hb2⟩
    · have HO := Lib.hid (fitsB_no (a := a) (b := b) (fun h => t1 h.2.1))
      go_enter Try.func15, Try.ntmps15
      go_wp2
      go_ret
      exact ⟨retBool (by rw [HO.out]), hb2⟩
  · have HO := Lib.hid (fitsB_no (a := a) (b := b) (fun h => t0 h.1))
    go_enter Try.func15, Try.ntmps15
    go_wp2
    go_ret
    exact ⟨retBool (by rw [HO.out]), hb2⟩

def Rs.add (a b : Rs) : Rs := ⟨a.c + b.c, a.m + b.m, a.g + b.g, a.l + b.l⟩
def Rs.sub (a b : Rs) : Rs := ⟨a.c - b.c, a.m - b.m, a.g - b.g, a.l - b.l⟩
/-- No number is far from 0. -/
def Rs.lim (a : Rs) : Prop := (-1000000000000 ≤ a.c ∧ a.c ≤ 1000000000000) ∧ (-1000000000000 ≤ a.m ∧ a.m ≤ 1000000000000) ∧ (-1000000000000 ≤ a.g ∧ a.g ≤ 1000000000000) ∧ (-1000000000000 ≤ a.l ∧ a.l ≤ 1000000000000)
theorem Rs.ok.lim {a : Rs} (h : a.ok) : a.lim := by
  obtain ⟨⟨_, _⟩, ⟨_, _⟩, ⟨_, _⟩, ⟨_, _⟩⟩ := h
  refine ⟨⟨?_, ?_⟩, ⟨?_, ?_⟩, ⟨?_, ?_⟩, ⟨?_, ?_⟩⟩ <;> omega

set_option maxHeartbeats 1000000 in
theorem radd_any (a b : Rs) (w : World) (ha : a.lim) (hb : b.lim) : Calls Try.prog 19 #[a.val, b.val] w fun e w' => e = .returned (a.add b).val ∧ Below w.heap.size w w' := by
  obtain ⟨⟨_, _⟩, ⟨_, _⟩, ⟨_, _⟩, ⟨_, _⟩⟩ := ha
  obtain ⟨⟨_, _⟩, ⟨_, _⟩, ⟨_, _⟩, ⟨_, _⟩⟩ := hb
  go_enter Try.func19, Try.ntmps19
  go_wp2
  refine bodyPost_ret (v := (a.add b).val) (by simp [results, Try.results19, go_sem, Rs.add]) rfl ⟨rfl, ?_⟩
  repeat (first | exact Below.refl _ _ | refine Below.alloc ?_ (by first | (simp; done) | (simp; omega)) _ | refine Below.setCell ?_ (by first | (simp; done) | (simp; omega)) _)
set_option maxHeartbeats 1000000 in
theorem rsub_any (a b : Rs) (w : World) (ha : a.lim) (hb : b.lim) : Calls Try.prog 20 #[a.val, b.val] w fun e w' => e = .returned (a.sub b).val ∧ Below w.heap.size w w' := by
  obtain ⟨⟨_, _⟩, ⟨_, _⟩, ⟨_, _⟩, ⟨_, _⟩⟩ := ha
  obtain ⟨⟨_, _⟩, ⟨_, _⟩, ⟨_, _⟩, ⟨_, _⟩⟩ := hb
  go_enter Try.func20, Try.ntmps20
  go_wp2
  refine bodyPost_ret (v := (a.sub b).val) (by simp [results, Try.results20, go_sem, Rs.sub]) rfl ⟨rfl, ?_⟩
  repeat (first | exact Below.refl _ _ | refine Below.alloc ?_ (by first | (simp; done) | (simp; omega)) _ | refine Below.setCell ?_ (by first | (simp; done) | (simp; omega)) _)

def Rs.times (a : Rs) (n : Nat) : Rs := ⟨n * a.c, n * a.m, n * a.g, n * a.l⟩
theorem times_add (a : Rs) (n : Nat) : (a.times n).add a = a.times (n + 1) := by
  simp only [Rs.times, Rs.add, Rs.mk.injEq]
  refine ⟨?_, ?_, ?_, ?_⟩ <;> (rw [Int.natCast_add, Int.add_mul]; omega)
theorem mul_lim {n : Nat} {x : Int} (hn : n ≤ 10000) (h0 : 0 ≤ x) (h1 : x ≤ 1048576) : -1000000000000 ≤ (n : Int) * x ∧ (n : Int) * x ≤ 1000000000000 := by
  have a := Int.mul_nonneg (Int.natCast_nonneg n) h0
  have b := Int.mul_le_mul (show (n : Int) ≤ 10000 by omega) h1 h0 (by omega)
  omega
theorem times_lim {a : Rs} {n : Nat} (h : a.ok) (hn : n ≤ 10000) : (a.times n).lim := by
  obtain ⟨⟨_, _⟩, ⟨_, _⟩, ⟨_, _⟩, ⟨_, _⟩⟩ := h
  exact ⟨mul_lim hn ‹_› ‹_›, mul_lim hn ‹_› ‹_›, mul_lim hn ‹_› ‹_›, mul_lim hn ‹_› ‹_›⟩

/-- Block p is a vector of the call's own, and holds a. -/
def Blk (u : World) (p : Nat) (a : Rs) : Prop := u.heap[p]? = some (.cells #[.int .i64 a.c, .int .i64 a.m, .int .i64 a.g, .int .i64 a.l] 23 (0, 0))
theorem Blk.held {u : World} {p : Nat} {a : Rs} (h : Blk u p a) : Held p a u :=
  ⟨by rw [cell_of_row _ _ _ _ _ _ h]; rfl, by rw [cell_of_row _ _ _ _ _ _ h]; rfl, by rw [cell_of_row _ _ _ _ _ _ h]; rfl, by rw [cell_of_row _ _ _ _ _ _ h]; rfl⟩
theorem Blk.free {u : World} {p : Nat} {a : Rs} (h : Blk u p a) (j : Nat) : u.frozen? ⟨p, j, none⟩ = false := by unfold Blk at h; simp [World.frozen?, h]
theorem Blk.free4 {u : World} {p : Nat} {a : Rs} (h : Blk u p a) : u.frozen? ⟨p, 0, none⟩ = false ∧ u.frozen? ⟨p, 1, none⟩ = false ∧ u.frozen? ⟨p, 2, none⟩ = false ∧ u.frozen? ⟨p, 3, none⟩ = false := ⟨h.free 0, h.free 1, h.free 2, h.free 3⟩
theorem Blk.set {u : World} {p : Nat} {a : Rs} (h : Blk u p a) (b : Rs) : Blk ((((u.setCell ⟨p, 0, none⟩ (.int .i64 b.c)).setCell ⟨p, 1, none⟩ (.int .i64 b.m)).setCell ⟨p, 2, none⟩ (.int .i64 b.g)).setCell ⟨p, 3, none⟩ (.int .i64 b.l)) p b := by
  unfold Blk at *
  rw [heap_setCell_same _ _ _ _ _ _ (heap_setCell_same _ _ _ _ _ _ (heap_setCell_same _ _ _ _ _ _ (heap_setCell_same _ _ _ _ _ _ h)))]
  rfl
theorem Blk.other {u : World} {p q : Nat} {a : Rs} (h : Blk u p a) (hq : p ≠ q) (x0 x1 x2 x3 : Value) : Blk ((((u.setCell ⟨q, 0, none⟩ x0).setCell ⟨q, 1, none⟩ x1).setCell ⟨q, 2, none⟩ x2).setCell ⟨q, 3, none⟩ x3) p a := by
  unfold Blk at *
  rw [Below.heap_setCell _ _ _ _ hq, Below.heap_setCell _ _ _ _ hq, Below.heap_setCell _ _ _ _ hq, Below.heap_setCell _ _ _ _ hq]
  exact h
theorem Blk.lt {u : World} {p : Nat} {a : Rs} (h : Blk u p a) : p < u.heap.size := by
  unfold Blk at h
  rcases Nat.lt_or_ge p u.heap.size with h' | h'
  · exact h'
  · rw [Array.getElem?_eq_none h'] at h; cases h
theorem Blk.below {u v : World} {p B : Nat} {a : Rs} (h : Blk u p a) (hb : Below B u v) (hp : p < B) : Blk v p a := (hb.block p hp).trans h
theorem Blk.made (u : World) (a : Rs) : Blk (u.alloc (a.obj 23)) u.heap.size a := heap_alloc_new _ _
theorem below_set4 {u w : World} {p B : Nat} (h : Below B w u) (hp : B ≤ p) (x0 x1 x2 x3 : Value) : Below B w ((((u.setCell ⟨p, 0, none⟩ x0).setCell ⟨p, 1, none⟩ x1).setCell ⟨p, 2, none⟩ x2).setCell ⟨p, 3, none⟩ x3) :=
  Below.setCell (Below.setCell (Below.setCell (Below.setCell h (by exact hp) _) (by exact hp) _) (by exact hp) _) (by exact hp) _
theorem three (w : World) (a : Rs) : ∃ wb, ((w.alloc (a.obj 23)).alloc (Rs.none.obj 23)).alloc (Rs.none.obj 23) = wb ∧ Below w.heap.size w wb ∧ Blk wb w.heap.size a ∧ Blk wb (w.heap.size + 1) Rs.none ∧ Blk wb (w.heap.size + 1 + 1) Rs.none := by
  refine ⟨_, rfl, (((Below.refl _ _).alloc (Nat.le_refl _) _).alloc (by simp) _).alloc (by simp; omega) _, ?_, ?_, ?_⟩
  · exact ((Blk.made w a).below ((Below.refl (w.heap.size + 1) _).alloc (by simp) _) (by omega)).below ((Below.refl (w.heap.size + 1) _).alloc (by simp) _) (by omega)
  · have h := Blk.made (w.alloc (a.obj 23)) Rs.none
    rw [World.size_alloc] at h
    exact h.below ((Below.refl (w.heap.size + 2) _).alloc (by simp) _) (by omega)
  · have h := Blk.made ((w.alloc (a.obj 23)).alloc (Rs.none.obj 23)) Rs.none
    rw [World.size_alloc, World.size_alloc] at h
    exact h
theorem times_zero (a : Rs) : a.times 0 = Rs.none := by simp [Rs.times, Rs.none]

set_option maxHeartbeats 1000000 in
theorem rtimes_any (a : Rs) (n : Nat) (w : World) (ha : a.ok) (hn : n ≤ 10000) : Calls Try.prog 28 #[a.val, .int .i64 n] w fun e w' => e = .returned (a.times n).val ∧ Below w.heap.size w w' := by
  go_enter Try.func28, Try.ntmps28
  go_wp2
  obtain ⟨wb, hwb, hbb, k0, k1, k2⟩ := three w a
  simp only [Rs.obj, Rs.none] at hwb
  rw [hwb]
  clear hwb
  go_loopw [6] (fun i wr => ∃ k : Nat, k ≤ n ∧ i = .int .i64 k ∧ Blk wr w.heap.size a ∧ Blk wr (w.heap.size + 1) Rs.none ∧ Blk wr (w.heap.size + 1 + 1) (a.times k) ∧ Below w.heap.size w wr) (fun i _ => n - (intOf i).toNat)
  case atStart => exact ⟨0, Nat.zero_le _, rfl, k0, k1, by rw [times_zero]; exact k2, hbb⟩
  case round =>
    clear k0 k1 k2 hbb
    obtain ⟨k, hk, rfl, k0, k1, k2, hbel⟩ := hrel
    by_cases hlt : k < n
    · have z0 := k0.lt
      have z1 := k1.lt
      have z2 := k2.lt
      have l1 := times_lim (n := k) ha (by omega)
      have l2 := ha.lim
      have HT := Lib.hid (times_add a k)
      obtain ⟨x0, x1, x2, x3⟩ := k0.held
      obtain ⟨y0, y1, y2, y3⟩ := k2.held
      go_wp2_with fail
      refine (radd_any (a.times k) a _ l1 l2).mono ?_
      rw [HT.out]
      rintro e w1 ⟨rfl, hb1⟩
      have k2' := k2.below hb1 z2
      clear x0 x1 x2 x3 y0 y1 y2 y3
      obtain ⟨y0, y1, y2, y3⟩ := k2'.held
      obtain ⟨f0, f1, f2, f3⟩ := k2'.free4
      go_wp2
      go_roundw
      case rel =>
        exact ⟨k + 1, by omega, by go_num, (k0.below hb1 z0).other (by omega) _ _ _ _, (k1.below hb1 z1).other (by omega) _ _ _ _, k2'.set _, below_set4 (hbel.trans (hb1.mono (by omega))) (by omega) _ _ _ _⟩
      case measure => simp [intOf]; omega
    · obtain rfl : k = n := by omega
      obtain ⟨y0, y1, y2, y3⟩ := k2.held
      obtain ⟨r0, r1, r2, r3⟩ := k1.held
      obtain ⟨f0, f1, f2, f3⟩ := k1.free4
      go_wp2
      have hz := (k1.set (a.times k)).held
      have hbz := below_set4 hbel (Nat.le_succ w.heap.size) (.int .i64 (a.times k).c) (.int .i64 (a.times k).m) (.int .i64 (a.times k).g) (.int .i64 (a.times k).l)
      generalize ((((wr.setCell ⟨w.heap.size + 1, 0, none⟩ (.int .i64 (a.times k).c)).setCell ⟨w.heap.size + 1, 1, none⟩ (.int .i64 (a.times k).m)).setCell ⟨w.heap.size + 1, 2, none⟩ (.int .i64 (a.times k).g)).setCell ⟨w.heap.size + 1, 3, none⟩ (.int .i64 (a.times k).l)) = wz at hz hbz ⊢
      obtain ⟨z0, z1, z2, z3⟩ := hz
      exact bodyPost_ret (v := (a.times k).val) (by simp [results, Try.results28, go_sem, z0, z1, z2, z3]) rfl ⟨rfl, hbz⟩

def onOf (node : Int) : List Sh → Int
  | [] => 0
  | s :: r => (if s.node = node then s.many else 0) + onOf node r
theorem on_app (node : Int) (l m : List Sh) : onOf node (l ++ m) = onOf node l + onOf node m := by
  induction l with
  | nil => simp [onOf]
  | cons s r ih => simp only [List.cons_append, onOf, ih]; omega
theorem on_next {node : Int} {l : List Sh} {k : Nat} (hk : k < l.length) : onOf node (l.take (k + 1)) = onOf node (l.take k) + (if l[k].node = node then l[k].many else 0) := by
  rw [List.take_succ_eq_append_getElem hk, on_app]; simp [onOf]
theorem on_bound {node : Int} {l : List Sh} (h : ∀ s ∈ l, 0 ≤ s.many ∧ s.many ≤ 64) : 0 ≤ onOf node l ∧ onOf node l ≤ 64 * l.length := by
  induction l with
  | nil => simp [onOf]
  | cons s r ih =>
    have h1 := h s (by simp)
    have h2 := ih (fun x hx => h x (by simp [hx]))
    simp only [onOf, List.length_cons]
    split <;> omega
theorem on_at {node : Int} {l : List Sh} {k : Nat} (h : ∀ s ∈ l, 0 ≤ s.many ∧ s.many ≤ 64) (hn : l.length ≤ 1000) : 0 ≤ onOf node (l.take k) ∧ onOf node (l.take k) ≤ 64000 := by
  have := on_bound (node := node) (l := l.take k) (fun s hs => h s (List.mem_of_mem_take hs))
  rw [List.length_take] at this
  omega

set_option maxHeartbeats 1000000 in
theorem ron_any (A : Option Addr) (cap B : Nat) (l : List Sh) (node : Int) (w : World) (hr : Row w B A (flat l)) (hB : B ≤ w.heap.size) (hn : l.length ≤ 1000) (hl : ∀ s ∈ l, 0 ≤ s.many ∧ s.many ≤ 64) :
    Calls Try.prog 29 #[.slice A l.length cap, .int .i64 node] w fun e w' => e = .returned (.int .i64 (onOf node l)) ∧ w = w' := by
  have HL := Lib.hid hl
  clear hl
  go_enter Try.func29, Try.ntmps29
  go_wp2
  go_loop [5, 6] (fun n i => ∃ k : Nat, k ≤ l.length ∧ i = .int .i64 k ∧ n = .int .i64 (onOf node (l.take k))) (fun _ i => l.length - (intOf i).toNat)
  case atStart => exact ⟨0, Nat.zero_le _, rfl, rfl⟩
  case round =>
    obtain ⟨k, hk, rfl, rfl⟩ := hrel
    by_cases hlt : k < l.length
    · obtain ⟨b, off, rfl, _, g0, g1⟩ := hr.sh hlt
      have t1 := on_at (node := node) (k := k) HL.out hn
      have t2 := HL.out l[k] (List.getElem_mem hlt)
      have HN := Lib.hid (on_next (node := node) hlt)
      by_cases h1 : l[k].node = node
      · have h1' : (l[k].node == node) = true := by simp [h1]
        have HQ := Lib.hid h1
        clear h1
        go_wp2
        go_round
        case rel =>
          refine ⟨k + 1, by omega, by go_num, ?_⟩
          rw [HN.out, if_pos HQ.out]
        case measure => simp [intOf]; omega
      · have h1' : (l[k].node == node) = false := by simp [h1]
        have HQ := Lib.hid h1
        clear h1
        go_wp2
        go_round
        case rel =>
          refine ⟨k + 1, by omega, by go_num, ?_⟩
          rw [HN.out, if_neg HQ.out, Int.add_zero]
        case measure => simp [intOf]; omega
    · obtain rfl : k = l.length := by omega
      go_wp2
      go_ret
      exact ⟨retInt (by first | rfl | rw [List.take_length]), rfl⟩

def risesAt (l : List Int) (n : Int) (j : Nat) (hj : j < l.length) : Prop := 0 ≤ l[j] ∧ l[j] < n ∧ ∀ h : 0 < j, l[j - 1] < l[j]
def Rises (l : List Int) (n : Int) : Prop := ∀ j (hj : j < l.length), risesAt l n j hj
open Classical in
noncomputable def risesB (l : List Int) (n : Int) : Bool := decide (Rises l n)
theorem risesB_no {l : List Int} {n : Int} (h : ¬ Rises l n) : risesB l n = false := by simp [risesB, h]
theorem risesB_yes {l : List Int} {n : Int} (h : Rises l n) : risesB l n = true := by simp [risesB, h]

set_option maxHeartbeats 4000000 in
theorem rising_any (A : Option Addr) (cap B : Nat) (l : List Int) (n : Int) (w : World) (hr : Row w B A (ints l)) (hB : B ≤ w.heap.size) (hn : l.length ≤ 1000) :
    Calls Try.prog 26 #[.slice A l.length cap, .int .i64 n] w fun e w' => e = .returned (.bool (risesB l n)) ∧ Below w.heap.size w w' := by
  go_enter Try.func26, Try.ntmps26
  go_wp2
  go_loopw [5] (fun i wr => ∃ k : Nat, k ≤ l.length ∧ i = .int .i64 k ∧ Hid (∀ j (hj : j < l.length), j < k → risesAt l n j hj) ∧ Below w.heap.size w wr) (fun i _ => l.length - (intOf i).toNat)
  case atStart => exact ⟨0, Nat.zero_le _, rfl, fun j _ hj => by omega, Below.refl _ _⟩
  case round =>
    obtain ⟨k, hk, rfl, hall, hbel⟩ := hrel
    by_cases hlt : k < l.length
    · obtain ⟨b, off, rfl, hb0, g0⟩ := ((hr.more hB).below hbel).int hlt
      have hz := hbel.size
      have c0 : ∀ u : Later wr, u.val.cell? ⟨b, off + k, none⟩ = some (.int .i64 l[k]) := fun u => (u.cell (by show b < wr.heap.size; omega)).trans g0
      clear g0
      by_cases h1 : l[k] < 0
      · have HR := Lib.hid (risesB_no (l := l) (n := n) (fun h => by have := (h k hlt).1; omega))
        have d1 : decide (l[k] < 0) = true := by simpa using h1
        go_wp2
        refine wp_region_later (by kernel_rfl) (by kernel_rfl) ?_
        repeat (go_big_quiet_step (fail))
        refine wpQuiet_nil ?_
        intro w1 hw1
        obtain ⟨⟨w1, hb1⟩, rfl⟩ := hw1
        go_wp2
        go_ret
        exact ⟨retBool HR.out.symm, hbel.trans (hb1.mono hz)⟩
      have d1 : decide (l[k] < 0) = false := by simpa using h1
      by_cases h2 : n ≤ l[k]
      · have HR := Lib.hid (risesB_no (l := l) (n := n) (fun h => by have := (h k hlt).2.1; omega))
        have dh2 : decide (n ≤ l[k]) = true := by simpa using h2
        go_wp2
        refine wp_region_later (by kernel_rfl) (by kernel_rfl) ?_
        repeat (go_big_quiet_step (fail))
        refine wpQuiet_nil ?_
        intro w1 hw1
        obtain ⟨⟨w1, hb1⟩, rfl⟩ := hw1
        go_wp2
        go_ret
        exact ⟨retBool HR.out.symm, hbel.trans (hb1.mono hz)⟩
      have dh2 : decide (n ≤ l[k]) = false := by simpa using h2
      by_cases h0 : k < 1
      · have HOK : Hid (risesAt l n k hlt) := ⟨by omega, by omega, fun h => by omega⟩
        have hdk : decide (0 < k) = false := by simp; omega
        go_wp2
        refine wp_region_later (by kernel_rfl) (by kernel_rfl) ?_
        repeat (go_big_quiet_step (fail))
        refine wpQuiet_nil ?_
        intro w1 hw1
        obtain ⟨⟨w1, hb1⟩, rfl⟩ := hw1
        go_wp2
        go_roundw
        case rel =>
          refine ⟨k + 1, by omega, by go_num, fun j hj hjk => ?_, hbel.trans (hb1.mono hz)⟩
          rcases Nat.lt_or_ge j k with h | h
          · exact hall.out j hj h
          · obtain rfl : j = k := by omega
            exact HOK
        case measure => simp [intOf]; omega
      have hdk : decide (0 < k) = true := by simp; omega
      have hi2 : ((k : Int) - 1).toNat = k - 1 := by omega
      have c2 : ∀ u : Later wr, u.val.cell? ⟨b, off + (k - 1), none⟩ = some (.int .i64 l[k - 1]) := by
        obtain ⟨b', off', e, _, p0⟩ := ((hr.more hB).below hbel).int (show k - 1 < l.length by omega)
        cases e
        exact fun u => (u.cell (by show b < wr.heap.size; omega)).trans p0
      by_cases h5 : l[k] ≤ l[k - 1]
      · have HR := Lib.hid (risesB_no (l := l) (n := n) (fun h => by have := (h k hlt).2.2 (by omega); omega))
        have d5 : decide (l[k] ≤ l[k - 1]) = true := by simpa using h5
        go_wp2
        refine wp_region_later (by kernel_rfl) (by kernel_rfl) ?_
        repeat (go_big_quiet_step (fail))
        refine wpQuiet_nil ?_
        intro w1 hw1
        obtain ⟨⟨w1, hb1⟩, rfl⟩ := hw1
        go_wp2
        go_ret
        exact ⟨retBool HR.out.symm, hbel.trans (hb1.mono hz)⟩
      · have HOK : Hid (risesAt l n k hlt) := ⟨by omega, by omega, fun h => by omega⟩
        have d5 : decide (l[k] ≤ l[k - 1]) = false := by simpa using h5
        go_wp2
        refine wp_region_later (by kernel_rfl) (by kernel_rfl) ?_
        repeat (go_big_quiet_step (fail))
        refine wpQuiet_nil ?_
        intro w1 hw1
        obtain ⟨⟨w1, hb1⟩, rfl⟩ := hw1
        go_wp2
        go_roundw
        case rel =>
          refine ⟨k + 1, by omega, by go_num, fun j hj hjk => ?_, hbel.trans (hb1.mono hz)⟩
          rcases Nat.lt_or_ge j k with h | h
          · exact hall.out j hj h
          · obtain rfl : j = k := by omega
            exact HOK
        case measure => simp [intOf]; omega
    · obtain rfl : k = l.length := by omega
      have HR := Lib.hid (risesB_yes (l := l) (n := n) (fun j hj => hall.out j hj hj))
      go_wp2
      go_ret
      exact ⟨retBool HR.out.symm, hbel⟩
end Go.Proofs.Ytcgfjobdpcdhhaa
