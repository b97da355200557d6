/-
  The contract of vec.Fits: whether no number of one vector is greater than that of the other.
-/
import Derived.Test.YtcgfjobdpcdhhaaRes
import Derived.Deep.RegionHeld3
import Derived.Deep.DeepCutAuto
import Derived.Deep.DrawnRows
namespace Go.Proofs.Ytcgfjobdpcdhhaa
open Go.RowKit Go.BigFrame
set_option linter.unusedVariables false
attribute [local go_sem ↓] Go.wp_at_zero Go.wp_at_succ

theorem numbers_exact (a : Rs) (w : World) : Calls Try.prog 39 #[a.val] w fun e w' => e = .returned a.val ∧ (w.alloc (a.obj 23)).alloc (a.obj 59) = w' := by
  go_enter Try.func39, Try.ntmps39
  go_wp2
  exact bodyPost_ret (v := a.val) (by simp [results, Try.results39, go_sem]) rfl ⟨rfl, rfl⟩

/-- Block p holds the numbers of a. -/
def Held (p : Nat) (a : Rs) (u : World) : Prop := u.cell? ⟨p, 0, none⟩ = some (.int .i64 a.c) ∧ u.cell? ⟨p, 1, none⟩ = some (.int .i64 a.m) ∧ u.cell? ⟨p, 2, none⟩ = some (.int .i64 a.g) ∧ u.cell? ⟨p, 3, none⟩ = some (.int .i64 a.l)

def Rs.fits (a b : Rs) : Prop := a.c ≤ b.c ∧ a.m ≤ b.m ∧ a.g ≤ b.g ∧ a.l ≤ b.l
instance (a b : Rs) : Decidable (a.fits b) := by unfold Rs.fits; infer_instance
def Rs.fitsB (a b : Rs) : Bool := decide (a.fits b)

theorem held_later {p : Nat} {a : Rs} {u v : World} {B : Nat} (h : Held p a u) (hb : Below B u v) (hp : p < B) : Held p a v :=
  ⟨(hb.cell hp).trans h.1, (hb.cell hp).trans h.2.1, (hb.cell hp).trans h.2.2.1, (hb.cell hp).trans h.2.2.2⟩
theorem boxes (w : World) (a b : Rs) : ∃ wb, (w.alloc (a.obj 23)).alloc (b.obj 23) = wb ∧ Below w.heap.size w wb ∧ wb.heap.size = w.heap.size + 2 ∧ Held w.heap.size a wb ∧ Held (w.heap.size + 1) b wb := by
  refine ⟨_, rfl, ((Below.refl _ _).alloc (Nat.le_refl _) _).alloc (by simp) _, by simp, ?_, ?_⟩
  · have h : Held w.heap.size a (w.alloc (a.obj 23)) := ⟨by simp, by simp, by simp, by simp⟩
    exact held_later h ((Below.refl (w.heap.size + 1) _).alloc (by simp) _) (by omega)
  · have e : w.heap.size + 1 = (w.alloc (a.obj 23)).heap.size := by simp
    rw [e]
    exact ⟨by simp, by simp, by simp, by simp⟩
theorem keep8 {w wb u : World} {a b : Rs} (hb : Below wb.heap.size wb u) (hs : Hid (wb.heap.size = w.heap.size + 2)) (h1 : Held w.heap.size a wb) (h2 : Held (w.heap.size + 1) b wb) :
    u.cell? ⟨w.heap.size, 0, none⟩ = some (.int .i64 a.c) ∧ u.cell? ⟨w.heap.size, 1, none⟩ = some (.int .i64 a.m) ∧ u.cell? ⟨w.heap.size, 2, none⟩ = some (.int .i64 a.g) ∧ u.cell? ⟨w.heap.size, 3, none⟩ = some (.int .i64 a.l) ∧
    u.cell? ⟨w.heap.size + 1, 0, none⟩ = some (.int .i64 b.c) ∧ u.cell? ⟨w.heap.size + 1, 1, none⟩ = some (.int .i64 b.m) ∧ u.cell? ⟨w.heap.size + 1, 2, none⟩ = some (.int .i64 b.g) ∧ u.cell? ⟨w.heap.size + 1, 3, none⟩ = some (.int .i64 b.l) := by
  have hs := hs.out
  have k1 := held_later h1 hb (by omega)
  have k2 := held_later h2 hb (by omega)
  exact ⟨k1.1, k1.2.1, k1.2.2.1, k1.2.2.2, k2.1, k2.2.1, k2.2.2.1, k2.2.2.2⟩

theorem fitsB_yes {a b : Rs} (h : a.fits b) : a.fitsB b = true := by simp [Rs.fitsB, h]
theorem fitsB_no {a b : Rs} (h : ¬ a.fits b) : a.fitsB b = false := by simp [Rs.fitsB, h]
theorem held_made {u : World} {a : Rs} {p : Nat} (t : TypeId) (h : p = u.heap.size) : Held p a (u.alloc (a.obj t)) := by
  subst h
  exact ⟨by simp, by simp, by simp, by simp⟩
theorem held_alloc {u : World} {a : Rs} {p : Nat} {o : Obj} (h : Held p a u) (hp : p < u.heap.size) : Held p a (u.alloc o) :=
  held_later h ((Below.refl u.heap.size _).alloc (Nat.le_refl _) _) hp
theorem held_drew {u : World} {a : Rs} {p : Nat} (h : Held p a u) : Held p a u.drew := h
set_option maxHeartbeats 4000000 in
theorem fits_any (a b : Rs) (w : World) : Calls Try.prog 13 #[a.val, b.val] w fun e w' => e = .returned (.bool (a.fitsB b)) ∧ Below w.heap.size w w' := by
  go_enter Try.func13, Try.ntmps13
  go_upto_region 1 with fail
  obtain ⟨wb, hwb, hbb, hs, h1, h2⟩ := boxes w a b
  simp only [Rs.obj] at hwb
  rw [hwb]
  clear hwb
  have HS := Lib.hid hs
  clear hs
  go_cut [5, 6] (fun s5 s6 wx => ∃ p q : Nat, s5 = .pointer (some ⟨p, 0, none⟩) ∧ s6 = .pointer (some ⟨q, 0, none⟩) ∧ Held p a wx ∧ Held q b wx ∧ Below w.heap.size w wx)
  case first =>
    obtain ⟨x0, x1, x2, x3, x4, x5, x6, x7⟩ := keep8 (Below.refl wb.heap.size wb) HS h1 h2
    go_region_held3 (fun u => u.cell? ⟨w.heap.size, 0, none⟩ = some (.int .i64 a.c) ∧ u.cell? ⟨w.heap.size, 1, none⟩ = some (.int .i64 a.m) ∧ u.cell? ⟨w.heap.size, 2, none⟩ = some (.int .i64 a.g) ∧ u.cell? ⟨w.heap.size, 3, none⟩ = some (.int .i64 a.l) ∧
        u.cell? ⟨w.heap.size + 1, 0, none⟩ = some (.int .i64 b.c) ∧ u.cell? ⟨w.heap.size + 1, 1, none⟩ = some (.int .i64 b.m) ∧ u.cell? ⟨w.heap.size + 1, 2, none⟩ = some (.int .i64 b.g) ∧ u.cell? ⟨w.heap.size + 1, 3, none⟩ = some (.int .i64 b.l))
      (first | exact keep8 (by repeat (first | exact Below.refl _ _ | refine Below.drew ?_ | refine Below.alloc ?_ (by first | omega | (simp; done) | (simp; omega)) _ | refine Below.setCell ?_ (by first | omega | (simp; done) | (simp; omega)) _)) HS h1 h2 | go_keep)
      (first
        | (go_at_call 39; with_reducible refine (numbers_exact a _).mono ?_; rintro e w' ⟨rfl, rfl⟩)
        | (go_at_call 39; with_reducible refine (numbers_exact b _).mono ?_; rintro e w' ⟨rfl, rfl⟩))
    all_goals (go_wp2_with fail; go_meet; have hle := HS.out; refine ⟨_, _, rfl, rfl, ?_, ?_, ?_⟩ <;> (repeat (first | assumption | refine held_drew ?_ | (refine held_made _ ?_; first | omega | (simp; done) | (simp; omega)) | (refine held_alloc ?_ (by first | omega | (simp; done) | (simp; omega))) | refine Below.drew ?_ | (refine Below.alloc ?_ (by first | omega | (simp; done) | (simp; omega)) _))))
  case rest =>
    obtain ⟨p, q, rfl, rfl, ha, hb, hbel⟩ := hcut
    clear h1 h2 hbb HS
    obtain ⟨a0, a1, a2, a3⟩ := ha
    obtain ⟨b0, b1, b2, b3⟩ := hb
    by_cases t0 : a.c ≤ b.c
    · by_cases t1 : a.m ≤ b.m
      · by_cases t2 : a.g ≤ b.g
        · by_cases t3 : a.l ≤ b.l
          · have HO := Lib.hid (fitsB_yes ⟨t0, t1, t2, t3⟩)
            go_wp2_with fail
            refine wp_loop_rounds 5 ?_
            rw [rounds_succ]; go_wp2; go_region; go_wp2
            rw [rounds_succ]; go_wp2; go_region; go_wp2
            rw [rounds_succ]; go_wp2; go_region; go_wp2
            rw [rounds_succ]; go_wp2; go_region; go_wp2
            rw [rounds_succ]; go_wp2
            go_ret
            exact ⟨retBool HO.out.symm, by (repeat (first | assumption | refine held_drew ?_ | (refine held_made _ ?_; first | omega | (simp; done) | (simp; omega)) | (refine held_alloc ?_ (by first | omega | (simp; done) | (simp; omega))) | refine Below.drew ?_ | (refine Below.alloc ?_ (by first | omega | (simp; done) | (simp; omega)) _)))⟩
          · have HO := Lib.hid (fitsB_no (a := a) (b := b) (fun h => t3 h.2.2.2))
            go_wp2_with fail
            refine wp_loop_rounds 5 ?_
            rw [rounds_succ]; go_wp2; go_region; go_wp2
            rw [rounds_succ]; go_wp2; go_region; go_wp2
            rw [rounds_succ]; go_wp2; go_region; go_wp2
            rw [rounds_succ]; go_wp2; go_region; go_wp2
            go_ret
            exact ⟨retBool HO.out.symm, by (repeat (first | assumption | refine held_drew ?_ | (refine held_made _ ?_; first | omega | (simp; done) | (simp; omega)) | (refine held_alloc ?_ (by first | omega | (simp; done) | (simp; omega))) | refine Below.drew ?_ | (refine Below.alloc ?_ (by first | omega | (simp; done) | (simp; omega)) _)))⟩
        · have HO := Lib.hid (fitsB_no (a := a) (b := b) (fun h => t2 h.2.2.1))
          go_wp2_with fail
          refine wp_loop_rounds 5 ?_
          rw [rounds_succ]; go_wp2; go_region; go_wp2
          rw [rounds_succ]; go_wp2; go_region; go_wp2
          rw [rounds_succ]; go_wp2; go_region; go_wp2
          go_ret
          exact ⟨retBool HO.out.symm, by (repeat (first | assumption | refine held_drew ?_ | (refine held_made _ ?_; first | omega | (simp; done) | (simp; omega)) | (refine held_alloc ?_ (by first | omega | (simp; done) | (simp; omega))) | refine Below.drew ?_ | (refine Below.alloc ?_ (by first | omega | (simp; done) | (simp; omega)) _)))⟩
      · have HO := Lib.hid (fitsB_no (a := a) (b := b) (fun h => t1 h.2.1))
        go_wp2_with fail
        refine wp_loop_rounds 5 ?_
        rw [rounds_succ]; go_wp2; go_region; go_wp2
        rw [rounds_succ]; go_wp2; go_region; go_wp2
        go_ret
        exact ⟨retBool HO.out.symm, by (repeat (first | assumption | refine held_drew ?_ | (refine held_made _ ?_; first | omega | (simp; done) | (simp; omega)) | (refine held_alloc ?_ (by first | omega | (simp; done) | (simp; omega))) | refine Below.drew ?_ | (refine Below.alloc ?_ (by first | omega | (simp; done) | (simp; omega)) _)))⟩
    · have HO := Lib.hid (fitsB_no (a := a) (b := b) (fun h => t0 h.1))
      go_wp2_with fail
      refine wp_loop_rounds 5 ?_
      rw [rounds_succ]; go_wp2; go_region; go_wp2
      go_ret
      exact ⟨retBool HO.out.symm, by (repeat (first | assumption | refine held_drew ?_ | (refine held_made _ ?_; first | omega | (simp; done) | (simp; omega)) | (refine held_alloc ?_ (by first | omega | (simp; done) | (simp; omega))) | refine Below.drew ?_ | (refine Below.alloc ?_ (by first | omega | (simp; done) | (simp; omega)) _)))⟩
end Go.Proofs.Ytcgfjobdpcdhhaa
