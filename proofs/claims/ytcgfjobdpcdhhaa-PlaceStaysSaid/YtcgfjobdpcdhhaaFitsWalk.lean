/-
  The walk of the law PlaceFits.
-/
import Derived.Test.YtcgfjobdpcdhhaaWants
namespace Go.Proofs.Ytcgfjobdpcdhhaa
open Go.ChangeShapes Go.WideShapes Go.ChangeAt Go.RowKit Go.Deep Go.BigFrame Go.Joins
set_option linter.unusedVariables false

/-- Block p holds what is wanted. -/
def Wanted (p : Nat) (A : Option Addr) (n c : Nat) (many : Int) (need : Rs) (u : World) : Prop :=
  u.cell? ⟨p, 0, none⟩ = some (.slice A n c) ∧ u.cell? ⟨p, 1, none⟩ = some (.int .i64 many) ∧ u.cell? ⟨p, 2, none⟩ = some (.int .i64 need.c) ∧ u.cell? ⟨p, 3, none⟩ = some (.int .i64 need.m) ∧ u.cell? ⟨p, 4, none⟩ = some (.int .i64 need.g) ∧ u.cell? ⟨p, 5, none⟩ = some (.int .i64 need.l)
theorem Wanted.later {p : Nat} {A : Option Addr} {n c : Nat} {many : Int} {need : Rs} {u v : World} {B : Nat} (h : Wanted p A n c many need u) (hb : Below B u v) (hp : p < B) : Wanted p A n c many need v :=
  ⟨(hb.cell hp).trans h.1, (hb.cell hp).trans h.2.1, (hb.cell hp).trans h.2.2.1, (hb.cell hp).trans h.2.2.2.1, (hb.cell hp).trans h.2.2.2.2.1, (hb.cell hp).trans h.2.2.2.2.2⟩
theorem box_want (A : Option Addr) (n c : Nat) (many : Int) (need : Rs) (w : World) : ∃ wa, w.alloc (wantObj A n c many need) = wa ∧ Below w.heap.size w wa ∧ wa.heap.size = w.heap.size + 1 ∧ Wanted w.heap.size A n c many need wa :=
  ⟨_, rfl, (Below.refl _ _).alloc (Nat.le_refl _) _, by simp, by simp, by simp, by simp, by simp, by simp, by simp⟩

theorem Later.size {w : World} (u : Later w) : w.heap.size ≤ u.val.heap.size := u.property.size
def mineB (x : Int) (l : List Int) : Bool := l.any (fun k => k == x)
theorem mine_next {x : Int} {l : List Int} {k : Nat} (hk : k < l.length) : mineB x (l.take (k + 1)) = (mineB x (l.take k) || (l[k] == x)) := by
  unfold mineB; rw [List.take_succ_eq_append_getElem hk, List.any_append]; simp
theorem mine_of {x : Int} {l : List Int} {j : Nat} (hj : j < l.length) (h : l[j] = x) : mineB x l = true := by
  unfold mineB; rw [List.any_eq_true]; exact ⟨l[j], List.getElem_mem hj, by simp [h]⟩

set_option maxHeartbeats 4000000 in
set_option maxRecDepth 100000 in
theorem fits_walk (A A' : Option Addr) (cap cap' : Nat) (free : List Rs) (part : List Int) (many : Int) (need : Rs) (w : World) (hr : Row w w.heap.size A (flatR free)) (hr' : Row w w.heap.size A' (ints part))
    (hn : free.length ≤ 9223372036854775807) (hn' : part.length ≤ 9223372036854775807) :
    Calls Try.prog 8 #[.slice A free.length cap, wantVal A' part.length cap' many need] w fun e w' => e = .returned (.bool true) ∧ Below w.heap.size w w' := by
  obtain ⟨wa, hwa, hba, hs, hh⟩ := box_want A' part.length cap' many need w
  simp only [wantObj] at hwa
  have HS := Lib.hid hs
  clear hs
  have ha := hr.below hba
  have ha' := hr'.below hba
  go_enter Try.func8, Try.ntmps8
  go_wp2_with fail
  refine (awake_any _).mono ?_
  rintro e w1 ⟨rfl, hb1⟩
  have z1 := hb1.size
  have hs1 : w.heap.size + 1 ≤ w1.heap.size := by have := HS.out; omega
  have hW1 : Below w.heap.size w w1 := hba.trans (hb1.mono hba.size)
  have hh1 := hh.later hb1 (by have := HS.out; omega)
  clear hwa
  obtain ⟨x0, x1, x2, x3, x4, x5⟩ := hh1
  by_cases hf : free.length ≤ 30 ∧ part.length ≤ 30
  rotate_left
  · have HF := few_no hf
    go_wp2_with (go_at_call 25; refine (few_any _ _ _ _ _ _ _ _ _ hn hn').mono ?_; rintro e w2 ⟨rfl, hb2⟩)
    go_ret
    exact ⟨rfl, hW1.trans (hb2.mono (by omega))⟩
  have HF := few_yes hf.1 hf.2
  obtain ⟨hf1, hf2⟩ := hf
  go_wp2_with fail
  refine (few_any _ _ _ _ _ _ _ _ _ hn hn').mono ?_
  rintro e w2 ⟨rfl, hb2⟩
  clear x0 x1 x2 x3 x4 x5
  have hW2 := hW1.trans (hb2.mono (by omega))
  have z2 := hb2.size
  have hh2 := (hh.later hb1 (by have := HS.out; omega)).later hb2 (by omega)
  obtain ⟨x0, x1, x2, x3, x4, x5⟩ := hh2
  go_wp2_with fail
  refine (rising_any _ _ _ part _ _ (by exact hr'.below hW2) (by omega) (by omega)).mono ?_
  rintro e w3 ⟨rfl, hb3⟩
  clear x0 x1 x2 x3 x4 x5
  have hW3 := hW2.trans (hb3.mono (by omega))
  have z3 := hb3.size
  have hh3 := ((hh.later hb1 (by have := HS.out; omega)).later hb2 (by omega)).later hb3 (by omega)
  obtain ⟨x0, x1, x2, x3, x4, x5⟩ := hh3
  by_cases hrs : Rises part free.length
  rotate_left
  · have HR := risesB_no hrs
    go_wp2
    go_ret
    exact ⟨rfl, hW3⟩
  have HR := risesB_yes hrs
  go_wp2_with fail
  refine (rright_any need _).mono ?_
  rintro e w4 ⟨rfl, hb4⟩
  clear x0 x1 x2 x3 x4 x5
  have hW4 := hW3.trans (hb4.mono (by omega))
  have z4 := hb4.size
  have hh4 := (((hh.later hb1 (by have := HS.out; omega)).later hb2 (by omega)).later hb3 (by omega)).later hb4 (by omega)
  obtain ⟨x0, x1, x2, x3, x4, x5⟩ := hh4
  by_cases hok : need.ok
  rotate_left
  · have HO := okB_no hok
    go_wp2
    go_ret
    exact ⟨rfl, hW4⟩
  have HO := okB_yes hok
  go_wp2_with fail
  refine (place_any _ _ _ _ _ _ free part many need _ (by exact hr.below hW4) (by omega) (by omega) (by exact hr'.below hW4) (by omega) (by omega)).mono ?_
  rintro e w5 ⟨Al, cl, rfl, hcl, rl, hb5⟩
  clear x0 x1 x2 x3 x4 x5
  have hW5 := hW4.trans (hb5.mono (by omega))
  have z5 := hb5.size
  have hh5 := ((((hh.later hb1 (by have := HS.out; omega)).later hb2 (by omega)).later hb3 (by omega)).later hb4 (by omega)).later hb5 (by omega)
  clear hh HF HR HO ha ha' hba HS hb1 hb2 hb3 hb4 hb5 hW1 hW2 hW3 hW4
  have hp5 : w.heap.size < w5.heap.size := by omega
  cases hpb : placeB free part many need
  · obtain ⟨hno, hnil⟩ := place_no hpb
    rw [hnil] at rl hcl ⊢
    have HNO := Lib.hid hno
    clear hno hnil hpb
    have c0 : ∀ u : Later w5, u.val.cell? ⟨w.heap.size, 0, none⟩ = some (.slice A' part.length cap') := fun u => (u.cell hp5).trans hh5.1
    have c1 : ∀ u : Later w5, u.val.cell? ⟨w.heap.size, 1, none⟩ = some (.int .i64 many) := fun u => (u.cell hp5).trans hh5.2.1
    have c2 : ∀ u : Later w5, u.val.cell? ⟨w.heap.size, 2, none⟩ = some (.int .i64 need.c) := fun u => (u.cell hp5).trans hh5.2.2.1
    have c3 : ∀ u : Later w5, u.val.cell? ⟨w.heap.size, 3, none⟩ = some (.int .i64 need.m) := fun u => (u.cell hp5).trans hh5.2.2.2.1
    have c4 : ∀ u : Later w5, u.val.cell? ⟨w.heap.size, 4, none⟩ = some (.int .i64 need.g) := fun u => (u.cell hp5).trans hh5.2.2.2.2.1
    have c5 : ∀ u : Later w5, u.val.cell? ⟨w.heap.size, 5, none⟩ = some (.int .i64 need.l) := fun u => (u.cell hp5).trans hh5.2.2.2.2.2
    have r5 := (hr.below hW5).more (Nat.le_of_lt hp5)
    have r5' := (hr'.below hW5).more (Nat.le_of_lt hp5)
    by_cases hm1 : many < 1
    · have d1 : decide (many < 1) = true := by simpa using hm1
      go_wp2
      refine wp_region_later (by kernel_rfl) (by kernel_rfl) ?_
      repeat (go_big_quiet_step (fail))
      refine wpQuiet_nil ?_
      intro w6 hw6
      obtain ⟨⟨w6, hb6⟩, rfl⟩ := hw6
      go_wp2
      go_ret
      exact ⟨rfl, hW5.trans (hb6.mono (by omega))⟩
    · have d1 : decide (many < 1) = false := by simpa using hm1
      have d2 : decide (roomOf free need part < many) = true := by have := HNO.out; simp; omega
      go_wp2
      refine wp_region_later (by kernel_rfl) (by kernel_rfl) ?_
      repeat (go_big_quiet_step ((go_at_call 35; exact later_of (room_any _ _ _ _ _ _ free part need _ (Later.row _ r5) (Later.size _) (by omega) (Later.row _ r5') (Later.size _) (by omega)))))
      refine wpQuiet_nil ?_
      intro w6 hw6
      obtain ⟨⟨w6, hb6⟩, rfl⟩ := hw6
      go_wp2
      go_ret
      exact ⟨rfl, hW5.trans (hb6.mono (by omega))⟩
  · obtain ⟨hright, htot, hall⟩ := fits_all hrs hpb
    have hrb := rightB_yes hright
    have HT := Lib.hid htot
    have HA := Lib.hid hall
    have hL : (placeL free part many need).length ≤ 30 := by
      obtain ⟨h1, _, e⟩ := place_yes hpb
      have := (run_facts free need many (by omega) part part.length (Nat.le_refl _)).2.2
      rw [List.take_length] at this
      rw [e]; omega
    clear hpb hright htot hall
    generalize placeL free part many need = L at *
    have c1 : ∀ u : Later w5, u.val.cell? ⟨w.heap.size, 1, none⟩ = some (.int .i64 many) := fun u => (u.cell hp5).trans hh5.2.1
    have ht2 : (totalOf L != many) = false := by simp [HT.out]
    go_wp2
    refine wp_region_later (by kernel_rfl) (by kernel_rfl) ?_
    repeat (go_big_quiet_step ((first | (go_at_call 31; exact later_of (pright_any _ _ _ L _ _ (Later.row _ rl) (Later.size _) (by omega))) | (go_at_call 33; exact later_of (total_any _ _ _ L _ (Later.row _ rl) (Later.size _) (by omega))))))
    refine wpQuiet_nil ?_
    intro w6 hw6
    obtain ⟨⟨w6, hb6⟩, rfl⟩ := hw6
    clear c1 ht2 hrb
    have hW6 := hW5.trans (hb6.mono (by omega))
    have z6 := hb6.size
    have hh6 := hh5.later hb6 hp5
    have rl6 := rl.below hb6
    have r6 := (hr.below hW6).more (show w.heap.size ≤ w6.heap.size by omega)
    have r6' := (hr'.below hW6).more (show w.heap.size ≤ w6.heap.size by omega)
    have rl6' := rl6.more z6
    clear rl rl6 hh5 hb6 hW5
    go_wp2
    go_loopw [78] (fun i wr => ∃ k : Nat, k ≤ L.length ∧ i = .int .i64 k ∧ Below w6.heap.size w6 wr) (fun i _ => L.length - (intOf i).toNat)
    case atStart => exact ⟨0, Nat.zero_le _, rfl, Below.refl _ _⟩
    case round =>
      obtain ⟨k, hk, rfl, hbel⟩ := hrel
      have hz := hbel.size
      by_cases hlt : k < L.length
      · obtain ⟨b, off, rfl, hb0, g0, g1⟩ := (rl6'.below hbel).sh hlt
        obtain ⟨⟨m1, m2⟩, ⟨jx, hjx, ejx⟩, q, eq, hq, hfit⟩ := HA.out L[k] (List.getElem_mem hlt)
        obtain ⟨y0, y1, y2, y3, y4, y5⟩ := hh6.later hbel (by omega)
        have HM := Lib.hid (mine_of hjx ejx)
        have HF := Lib.hid (fitsB_yes hfit)
        have HQ := Lib.hid eq
        clear ejx hfit eq
        have hz0 : w.heap.size < wr.heap.size := by omega
        have hzb : b < wr.heap.size := by omega
        go_wp2
        obtain ⟨wq, hwq, hbq, hsq, s0, s1⟩ : ∃ wq, wr.alloc (.cells #[.int .i64 L[k].node, .int .i64 L[k].many] 52) = wq ∧ Below wr.heap.size wr wq ∧ Hid (wq.heap.size = wr.heap.size + 1) ∧ wq.cell? ⟨wr.heap.size, 0, none⟩ = some (.int .i64 L[k].node) ∧ wq.cell? ⟨wr.heap.size, 1, none⟩ = some (.int .i64 L[k].many) :=
          ⟨_, rfl, (Below.refl _ _).alloc (Nat.le_refl _) _, by show _ = _; simp, by simp, by simp⟩
        rw [hwq]
        clear hwq g0 g1 y0 y1 y2 y3 y4 y5
        have hbq6 := hbel.trans (hbq.mono hz)
        obtain ⟨y0, y1, y2, y3, y4, y5⟩ := hh6.later hbq6 (by omega)
        have rq' := r6'.below hbq6
        have HE := Lib.hid (show mineB L[k].node (part.take 0) = false from by simp [mineB])
        go_loop [9, 85] (fun v i => ∃ j : Nat, j ≤ part.length ∧ i = .int .i64 j ∧ v = .bool (mineB L[k].node (part.take j))) (fun _ i => part.length - (intOf i).toNat)
        case atStart => exact ⟨0, Nat.zero_le _, rfl, by rw [HE.out]⟩
        case round =>
          obtain ⟨j, hj, rfl, rfl⟩ := hrel
          by_cases hjl : j < part.length
          · obtain ⟨b', off', rfl, _, g0⟩ := rq'.int hjl
            have HN := Lib.hid (mine_next (x := L[k].node) hjl)
            cases hmb : mineB L[k].node (part.take j)
            · rw [hmb] at HN
              clear hmb
              go_wp2
              go_round
              case rel => exact ⟨j + 1, by omega, by go_num, by rw [HN.out]; rfl⟩
              case measure => simp [intOf]; omega
            · rw [hmb] at HN
              clear hmb
              go_wp2
              go_round
              case rel => exact ⟨j + 1, by omega, by go_num, by rw [HN.out]; rfl⟩
              case measure => simp [intOf]; omega
          · obtain rfl : j = part.length := by omega
            have hmt : mineB L[k].node (part.take part.length) = true := by rw [List.take_length]; exact HM.out
            rw [hmt]
            clear hmt
            obtain ⟨m, hm⟩ : ∃ m : Nat, L[k].many = m := ⟨L[k].many.toNat, by omega⟩
            have HF2 : Rs.fitsB (need.times m) free[q] = true := by rw [← HF.out, hm]; rfl
            have hm64 : m ≤ 64 := by omega
            rw [hm] at s1
            rw [HQ.out] at s0
            obtain ⟨bf, offf, rfl, hbf, f0, f1, f2, f3⟩ := (r6.below hbq6).rs hq
            have zq := hbq6.size
            have zq2 : wr.heap.size < wq.heap.size := by have := hsq.out; omega
            have a2 : ∀ u : Later wq, u.val.cell? ⟨w.heap.size, 2, none⟩ = some (.int .i64 need.c) := fun u => (u.cell (by show w.heap.size < _; omega)).trans y2
            have a3 : ∀ u : Later wq, u.val.cell? ⟨w.heap.size, 3, none⟩ = some (.int .i64 need.m) := fun u => (u.cell (by show w.heap.size < _; omega)).trans y3
            have a4 : ∀ u : Later wq, u.val.cell? ⟨w.heap.size, 4, none⟩ = some (.int .i64 need.g) := fun u => (u.cell (by show w.heap.size < _; omega)).trans y4
            have a5 : ∀ u : Later wq, u.val.cell? ⟨w.heap.size, 5, none⟩ = some (.int .i64 need.l) := fun u => (u.cell (by show w.heap.size < _; omega)).trans y5
            have b0 : ∀ u : Later wq, u.val.cell? ⟨wr.heap.size, 0, none⟩ = some (.int .i64 (q : Nat)) := fun u => (u.cell zq2).trans s0
            have b1 : ∀ u : Later wq, u.val.cell? ⟨wr.heap.size, 1, none⟩ = some (.int .i64 (m : Nat)) := fun u => (u.cell zq2).trans s1
            have d0 : ∀ u : Later wq, u.val.cell? ⟨bf, offf + q * 4, none⟩ = some (.int .i64 free[q].c) := fun u => (u.cell (by show bf < _; omega)).trans f0
            have d1 : ∀ u : Later wq, u.val.cell? ⟨bf, offf + q * 4 + 1, none⟩ = some (.int .i64 free[q].m) := fun u => (u.cell (by show bf < _; omega)).trans f1
            have d2 : ∀ u : Later wq, u.val.cell? ⟨bf, offf + q * 4 + 2, none⟩ = some (.int .i64 free[q].g) := fun u => (u.cell (by show bf < _; omega)).trans f2
            have d3 : ∀ u : Later wq, u.val.cell? ⟨bf, offf + q * 4 + 3, none⟩ = some (.int .i64 free[q].l) := fun u => (u.cell (by show bf < _; omega)).trans f3
            clear y0 y1 y2 y3 y4 y5 f0 f1 f2 f3 s0 s1 hm
            go_wp2
            refine wp_region_later (by kernel_rfl) (by kernel_rfl) ?_
            repeat (go_big_quiet_step ((first | (go_at_call 28; exact later_of (rtimes_any need m _ hok (by omega))) | (go_at_call 15; exact later_of (rfits_any (need.times m) free[q] _)))))
            refine wpQuiet_nil ?_
            intro w7 hw7
            obtain ⟨⟨w7, hb7⟩, rfl⟩ := hw7
            clear a2 a3 a4 a5 b0 b1 d0 d1 d2 d3
            go_wp2
            go_roundw
            case rel => exact ⟨k + 1, by omega, by go_num, hbq6.trans (hb7.mono zq)⟩
            case measure => simp [intOf]; omega
      · obtain rfl : k = L.length := by omega
        go_wp2
        go_ret
        exact ⟨rfl, hW6.trans (hbel.mono (by omega))⟩

namespace placeFits
theorem walk {H : Type} (enc : TypeId × Value → H) (W : World) (base : Nat) (v0 v1 : Value) {d0 d1 : DataW H} {p0 p1 : List MemPlace} (o0 : Value.okWide Try.prog W .any base 35 v0) (h0 : DataW.Trod enc Try.prog W 0 (fun _ => true) true 35 v0 d0 p0) (o1 : Value.okWide Try.prog W .any base 38 v1) (h1 : DataW.Trod enc Try.prog W 0 (fun _ => true) true 38 v1 d1 p1) :
    Calls Try.prog 8 #[v0, v1] W fun e w' => e = .returned (.bool true) ∧ Below W.heap.size W w' := by
  obtain ⟨A, cap, l, rfl, hr, hc, hn⟩ := open_rss o0 h0
  obtain ⟨A', cap', part, many, need, rfl, hr', hc', hn'⟩ := open_want o1 h1
  exact fits_walk A A' cap cap' l part many need W hr hr' hn hn'
end placeFits
end Go.Proofs.Ytcgfjobdpcdhhaa
