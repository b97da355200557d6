/-
  The walk of the law PlaceStays.
-/
import Derived.Test.YtcgfjobdpcdhhaaFitsWalk
import Derived.OneCell
namespace Go.Proofs.Ytcgfjobdpcdhhaa
open Go.ChangeShapes Go.WideShapes Go.ChangeAt Go.RowKit Go.Deep Go.BigFrame Go.Joins
set_option linter.unusedVariables false

theorem info23 : (Try.prog.info? 23).map (fun i => (i.zero, i.size, i.bytes)) = some (some (.agg #[.int .i64 0, .int .i64 0, .int .i64 0, .int .i64 0]), 4, 32) := by kernel_rfl
theorem one_rs (s : Rs) : ∀ u ∈ s.cs, u.oneCell' = true := by
  intro u hu
  simp only [Rs.cs] at hu
  simp at hu
  rcases hu with rfl | rfl | rfl | rfl <;> rfl
theorem flatR_app (l : List Rs) (s : Rs) : flatR (l ++ [s]) = flatR l ++ s.cs := by simp [flatR]
theorem own_appR {w : World} {B : Nat} {v : Value} {l : List Rs} {s : Rs} (h : w.ownsRow B 23 4 v (l.length + 1) (flatR l ++ s.cs)) : w.ownsRow B 23 4 v (l ++ [s]).length (flatR (l ++ [s])) := by
  rw [flatR_app]; simpa using h

theorem own_set4 {u : World} {B p : Nat} {e : TypeId} {m : Nat} {v : Value} {n : Nat} {xs : List Value} (h : u.ownsRow B e m v n xs) (hp : v.ownBlock ≠ some p) (x0 x1 x2 x3 : Value) :
    ((((u.setCell ⟨p, 0, none⟩ x0).setCell ⟨p, 1, none⟩ x1).setCell ⟨p, 2, none⟩ x2).setCell ⟨p, 3, none⟩ x3).ownsRow B e m v n xs :=
  ownsRow_setCell_other (ownsRow_setCell_other (ownsRow_setCell_other (ownsRow_setCell_other h (by exact hp) _) (by exact hp) _) (by exact hp) _) (by exact hp) _
open Classical in
noncomputable def lessC (taken : List Rs) (L : List Sh) (need : Rs) (k : Nat) (f : Rs) : Bool := decide (∃ h : k < taken.length, taken[k].ok ∧ f.ok ∧ taken[k].fits f ∧ (need.times (onOf k L).toNat).fits (f.sub taken[k]))
theorem lessC_no {taken : List Rs} {L : List Sh} {need : Rs} {k : Nat} {f : Rs} (h : ¬ ∃ h : k < taken.length, taken[k].ok ∧ f.ok ∧ taken[k].fits f ∧ (need.times (onOf k L).toNat).fits (f.sub taken[k])) : lessC taken L need k f = false := by
  unfold lessC; exact decide_eq_false h
theorem lessC_yes {taken : List Rs} {L : List Sh} {need : Rs} {k : Nat} {f : Rs} (h : ∃ h : k < taken.length, taken[k].ok ∧ f.ok ∧ taken[k].fits f ∧ (need.times (onOf k L).toNat).fits (f.sub taken[k])) : lessC taken L need k f = true := by
  unfold lessC; exact decide_eq_true h
theorem of_lessC_no {taken : List Rs} {L : List Sh} {need : Rs} {k : Nat} {f : Rs} (h : lessC taken L need k f = false) : lessAt taken L need k f = f := less_no (of_decide_eq_false h)
theorem of_lessC_yes {taken : List Rs} {L : List Sh} {need : Rs} {k : Nat} {f : Rs} (h : lessC taken L need k f = true) : ∃ h : k < taken.length, taken[k].ok ∧ f.ok ∧ lessAt taken L need k f = f.sub taken[k] := by
  obtain ⟨h, h1, h2, h3, h4⟩ := of_decide_eq_true h
  exact ⟨h, h1, h2, less_yes h h1 h2 h3 h4⟩

set_option maxHeartbeats 4000000 in
set_option maxRecDepth 100000 in
theorem stays_walk (A A' At : Option Addr) (cap cap' capt : Nat) (free taken : List Rs) (part : List Int) (many : Int) (need : Rs) (w : World) (hr : Row w w.heap.size A (flatR free)) (hr' : Row w w.heap.size A' (ints part)) (hrt : Row w w.heap.size At (flatR taken))
    (hn : free.length ≤ 9223372036854775807) (hn' : part.length ≤ 9223372036854775807) (hnt : taken.length ≤ 9223372036854775807) :
    Calls Try.prog 6 #[.slice A free.length cap, wantVal A' part.length cap' many need, .slice At taken.length capt] w fun e w' => e = .returned (.bool true) ∧ Below w.heap.size w w' := by
  obtain ⟨wa, hwa, hba, hs, hh⟩ := box_want A' part.length cap' many need w
  simp only [wantObj] at hwa
  have HS := Lib.hid hs
  clear hs
  have ha := hr.below hba
  have ha' := hr'.below hba
  go_enter Try.func6, Try.ntmps6
  go_wp2_with fail
  refine (awake_any _).mono ?_
  rintro e w1 ⟨rfl, hb1⟩
  have z1 := hb1.size
  have hs1 : w.heap.size + 1 ≤ w1.heap.size := by have := HS.out; omega
  have hW1 : Below w.heap.size w w1 := hba.trans (hb1.mono hba.size)
  have hh1 := hh.later hb1 (by have := HS.out; omega)
  clear hwa
  obtain ⟨x0, x1, x2, x3, x4, x5⟩ := hh1
  by_cases hf : free.length ≤ 30 ∧ part.length ≤ 30
  rotate_left
  · have HF := few_no hf
    go_wp2_with (go_at_call 25; refine (few_any _ _ _ _ _ _ _ _ _ hn hn').mono ?_; rintro e w2 ⟨rfl, hb2⟩)
    go_ret
    exact ⟨rfl, hW1.trans (hb2.mono (by omega))⟩
  have HF := few_yes hf.1 hf.2
  obtain ⟨hf1, hf2⟩ := hf
  go_wp2_with fail
  refine (few_any _ _ _ _ _ _ _ _ _ hn hn').mono ?_
  rintro e w2 ⟨rfl, hb2⟩
  clear x0 x1 x2 x3 x4 x5
  have hW2 := hW1.trans (hb2.mono (by omega))
  have z2 := hb2.size
  have hh2 := (hh.later hb1 (by have := HS.out; omega)).later hb2 (by omega)
  obtain ⟨x0, x1, x2, x3, x4, x5⟩ := hh2
  go_wp2_with fail
  refine (rising_any _ _ _ part _ _ (by exact hr'.below hW2) (by omega) (by omega)).mono ?_
  rintro e w3 ⟨rfl, hb3⟩
  clear x0 x1 x2 x3 x4 x5
  have hW3 := hW2.trans (hb3.mono (by omega))
  have z3 := hb3.size
  have hh3 := ((hh.later hb1 (by have := HS.out; omega)).later hb2 (by omega)).later hb3 (by omega)
  obtain ⟨x0, x1, x2, x3, x4, x5⟩ := hh3
  by_cases hrs : Rises part free.length
  rotate_left
  · have HR := risesB_no hrs
    go_wp2
    go_ret
    exact ⟨rfl, hW3⟩
  have HR := risesB_yes hrs
  go_wp2_with fail
  refine (rright_any need _).mono ?_
  rintro e w4 ⟨rfl, hb4⟩
  clear x0 x1 x2 x3 x4 x5
  have hW4 := hW3.trans (hb4.mono (by omega))
  have z4 := hb4.size
  have hh4 := (((hh.later hb1 (by have := HS.out; omega)).later hb2 (by omega)).later hb3 (by omega)).later hb4 (by omega)
  obtain ⟨x0, x1, x2, x3, x4, x5⟩ := hh4
  by_cases hok : need.ok
  rotate_left
  · have HO := okB_no hok
    go_wp2
    go_ret
    exact ⟨rfl, hW4⟩
  have HO := okB_yes hok
  go_wp2_with fail
  refine (place_any _ _ _ _ _ _ free part many need _ (by exact hr.below hW4) (by omega) (by omega) (by exact hr'.below hW4) (by omega) (by omega)).mono ?_
  rintro e w5 ⟨Al, cl, rfl, hcl, rl, hb5⟩
  clear x0 x1 x2 x3 x4 x5
  have hW5 := hW4.trans (hb5.mono (by omega))
  have z5 := hb5.size
  have hh5 := ((((hh.later hb1 (by have := HS.out; omega)).later hb2 (by omega)).later hb3 (by omega)).later hb4 (by omega)).later hb5 (by omega)
  clear hh HF HR HO ha ha' hba HS hb1 hb2 hb3 hb4 hb5 hW1 hW2 hW3 hW4
  have hp5 : w.heap.size < w5.heap.size := by omega
  obtain ⟨i0, hi0, hz0, hz1, hz2⟩ := info_parts info23
  cases hpb : placeB free part many need
  · go_wp2
    go_ret
    exact ⟨rfl, hW5⟩
  obtain ⟨hsB, hsL⟩ := stays_all (taken := taken) hok hrs hpb
  obtain ⟨_, _, hall⟩ := fits_all hrs hpb
  have hL : (placeL free part many need).length ≤ 30 := by
    obtain ⟨h1, _, e⟩ := place_yes hpb
    have := (run_facts free need many (by omega) part part.length (Nat.le_refl _)).2.2
    rw [List.take_length] at this
    rw [e]; omega
  have HB := Lib.hid hsB
  have HL := Lib.hid hsL
  have HA : Hid (∀ s ∈ placeL free part many need, 0 ≤ s.many ∧ s.many ≤ 64) := fun s hs => ⟨by have := (hall s hs).1.1; omega, (hall s hs).1.2⟩
  clear hpb hsB hsL hall
  generalize placeL free part many need = L at *
  have r5 := (hr.below hW5).more (Nat.le_of_lt hp5)
  have r5' := (hr'.below hW5).more (Nat.le_of_lt hp5)
  have r5t := (hrt.below hW5).more (Nat.le_of_lt hp5)
  go_wp2
  go_loopw [9, 49] (fun v i wr => ∃ k : Nat, k ≤ free.length ∧ i = .int .i64 k ∧ wr.ownsRow w5.heap.size 23 4 v k (flatR (lessOf taken L need (free.take k))) ∧ Below w5.heap.size w5 wr) (fun _ i _ => free.length - (intOf i).toNat)
  case atStart => exact ⟨0, Nat.zero_le _, rfl, World.ownsRow_nil _ _ _ _, Below.refl _ _⟩
  case round =>
    obtain ⟨k, hk, rfl, hown, hbel⟩ := hrel
    have hz := hbel.size
    by_cases hlt : k < free.length
    · obtain ⟨b, off, rfl, hb0, g0, g1, g2, g3⟩ := (r5.below hbel).rs hlt
      have HN := Lib.hid (less_next (taken := taken) (L := L) (need := need) hlt)
      have hzw : w.heap.size < wr.heap.size := by omega
      go_upto_if 91 with (fail)
      obtain ⟨wq, hwq, hbq, hkq⟩ : ∃ wq, wr.alloc (free[k].obj 23) = wq ∧ Below wr.heap.size wr wq ∧ Blk wq wr.heap.size free[k] :=
        ⟨_, rfl, (Below.refl _ _).alloc (Nat.le_refl _) _, Blk.made _ _⟩
      simp only [Rs.obj] at hwq
      rw [hwq]
      clear hwq g0 g1 g2 g3
      have zq := hkq.lt
      have hbq5 := hbel.trans (hbq.mono hz)
      have hoq := own_below hown hbq
      obtain ⟨q0, q1, q2, q3⟩ := hkq.held
      obtain ⟨y0, y1, y2, y3, y4, y5⟩ := hh5.later hbq5 (by omega)
      have c0 : ∀ u : Later wq, u.val.cell? ⟨wr.heap.size, 0, none⟩ = some (.int .i64 free[k].c) := fun u => (u.cell zq).trans q0
      have c1 : ∀ u : Later wq, u.val.cell? ⟨wr.heap.size, 1, none⟩ = some (.int .i64 free[k].m) := fun u => (u.cell zq).trans q1
      have c2 : ∀ u : Later wq, u.val.cell? ⟨wr.heap.size, 2, none⟩ = some (.int .i64 free[k].g) := fun u => (u.cell zq).trans q2
      have c3 : ∀ u : Later wq, u.val.cell? ⟨wr.heap.size, 3, none⟩ = some (.int .i64 free[k].l) := fun u => (u.cell zq).trans q3
      have a2 : ∀ u : Later wq, u.val.cell? ⟨w.heap.size, 2, none⟩ = some (.int .i64 need.c) := fun u => (u.cell (by show w.heap.size < _; omega)).trans y2
      have a3 : ∀ u : Later wq, u.val.cell? ⟨w.heap.size, 3, none⟩ = some (.int .i64 need.m) := fun u => (u.cell (by show w.heap.size < _; omega)).trans y3
      have a4 : ∀ u : Later wq, u.val.cell? ⟨w.heap.size, 4, none⟩ = some (.int .i64 need.g) := fun u => (u.cell (by show w.heap.size < _; omega)).trans y4
      have a5 : ∀ u : Later wq, u.val.cell? ⟨w.heap.size, 5, none⟩ = some (.int .i64 need.l) := fun u => (u.cell (by show w.heap.size < _; omega)).trans y5
      clear q0 q1 q2 q3 y0 y1 y2 y3 y4 y5
      go_cut [91] (fun s wx => s = .bool (lessC taken L need k free[k]) ∧ Below wq.heap.size wq wx)
      case first =>
        by_cases h1 : k < taken.length
        rotate_left
        · have hd : decide (k < taken.length) = false := by simpa using h1
          have HE := Lib.hid (lessC_no (taken := taken) (L := L) (need := need) (k := k) (f := free[k]) (fun ⟨h, _⟩ => h1 h))
          refine wp_region_later (by kernel_rfl) (by kernel_rfl) ?_
          repeat (go_big_quiet_step (fail))
          refine wpQuiet_nil ?_
          intro w7 hw7
          obtain ⟨⟨w7, hb7⟩, rfl⟩ := hw7
          go_wp2_with fail
          go_meet
          exact ⟨by rw [HE.out], hb7⟩
        have hd : decide (k < taken.length) = true := by simpa using h1
        obtain ⟨bt, offt, rfl, hbt, f0, f1, f2, f3⟩ := (r5t.below hbq5).rs h1
        have d0 : ∀ u : Later wq, u.val.cell? ⟨bt, offt + k * 4, none⟩ = some (.int .i64 taken[k].c) := fun u => (u.cell (by show bt < _; omega)).trans f0
        have d1 : ∀ u : Later wq, u.val.cell? ⟨bt, offt + k * 4 + 1, none⟩ = some (.int .i64 taken[k].m) := fun u => (u.cell (by show bt < _; omega)).trans f1
        have d2 : ∀ u : Later wq, u.val.cell? ⟨bt, offt + k * 4 + 2, none⟩ = some (.int .i64 taken[k].g) := fun u => (u.cell (by show bt < _; omega)).trans f2
        have d3 : ∀ u : Later wq, u.val.cell? ⟨bt, offt + k * 4 + 3, none⟩ = some (.int .i64 taken[k].l) := fun u => (u.cell (by show bt < _; omega)).trans f3
        have rq := (rl.below hbq5).more hbq5.size
        obtain ⟨n, hon⟩ : ∃ n : Nat, onOf k L = n := ⟨(onOf k L).toNat, by have := on_bound (node := k) HA.out; omega⟩
        have hn64 : n ≤ 10000 := by have := on_bound (node := k) HA.out; omega
        have HON := Lib.hid hon
        have hon2 : (onOf k L).toNat = n := by omega
        clear hon
        by_cases t1 : taken[k].ok
        rotate_left
        · have hd9 : taken[k].okB = false := okB_no t1
          have HE := Lib.hid (lessC_no (taken := taken) (L := L) (need := need) (k := k) (f := free[k]) (fun ⟨_, h, _⟩ => t1 h))
          refine wp_region_later (by kernel_rfl) (by kernel_rfl) ?_
          repeat (go_big_quiet_step ((first | (go_at_call 10; exact later_of (rright_any _ _)) | (go_at_call 15; exact later_of (rfits_any _ _ _)) | (go_at_call 29; exact later_same ((ron_any _ _ _ L _ _ (Later.row _ rq) (Later.size _) (by omega) HA.out).mono fun e w' h => ⟨h.1.trans (by rw [HON.out]), h.2⟩)) | (go_at_call 28; exact later_of (rtimes_any need n _ hok (by omega))) | (go_at_call 20; exact later_of (rsub_any free[k] taken[k] _ l1 l2)))))
          refine wpQuiet_nil ?_
          intro w7 hw7
          obtain ⟨⟨w7, hb7⟩, rfl⟩ := hw7
          go_wp2_with fail
          go_meet
          exact ⟨by rw [HE.out], hb7⟩
        have e1 : taken[k].okB = true := okB_yes t1
        by_cases t2 : free[k].ok
        rotate_left
        · have hd9 : free[k].okB = false := okB_no t2
          have HE := Lib.hid (lessC_no (taken := taken) (L := L) (need := need) (k := k) (f := free[k]) (fun ⟨_, _, h, _⟩ => t2 h))
          refine wp_region_later (by kernel_rfl) (by kernel_rfl) ?_
          repeat (go_big_quiet_step ((first | (go_at_call 10; exact later_of (rright_any _ _)) | (go_at_call 15; exact later_of (rfits_any _ _ _)) | (go_at_call 29; exact later_same ((ron_any _ _ _ L _ _ (Later.row _ rq) (Later.size _) (by omega) HA.out).mono fun e w' h => ⟨h.1.trans (by rw [HON.out]), h.2⟩)) | (go_at_call 28; exact later_of (rtimes_any need n _ hok (by omega))) | (go_at_call 20; exact later_of (rsub_any free[k] taken[k] _ l1 l2)))))
          refine wpQuiet_nil ?_
          intro w7 hw7
          obtain ⟨⟨w7, hb7⟩, rfl⟩ := hw7
          go_wp2_with fail
          go_meet
          exact ⟨by rw [HE.out], hb7⟩
        have e2 : free[k].okB = true := okB_yes t2
        by_cases t3 : taken[k].fits free[k]
        rotate_left
        · have hd9 : taken[k].fitsB free[k] = false := fitsB_no t3
          have HE := Lib.hid (lessC_no (taken := taken) (L := L) (need := need) (k := k) (f := free[k]) (fun ⟨_, _, _, h, _⟩ => t3 h))
          refine wp_region_later (by kernel_rfl) (by kernel_rfl) ?_
          repeat (go_big_quiet_step ((first | (go_at_call 10; exact later_of (rright_any _ _)) | (go_at_call 15; exact later_of (rfits_any _ _ _)) | (go_at_call 29; exact later_same ((ron_any _ _ _ L _ _ (Later.row _ rq) (Later.size _) (by omega) HA.out).mono fun e w' h => ⟨h.1.trans (by rw [HON.out]), h.2⟩)) | (go_at_call 28; exact later_of (rtimes_any need n _ hok (by omega))) | (go_at_call 20; exact later_of (rsub_any free[k] taken[k] _ l1 l2)))))
          refine wpQuiet_nil ?_
          intro w7 hw7
          obtain ⟨⟨w7, hb7⟩, rfl⟩ := hw7
          go_wp2_with fail
          go_meet
          exact ⟨by rw [HE.out], hb7⟩
        have e3 : taken[k].fitsB free[k] = true := fitsB_yes t3
        have l1 := t2.lim
        have l2 := t1.lim
        by_cases t4 : (need.times n).fits (free[k].sub taken[k])
        rotate_left
        · have hd9 : (need.times n).fitsB (free[k].sub taken[k]) = false := fitsB_no t4
          have HE := Lib.hid (lessC_no (taken := taken) (L := L) (need := need) (k := k) (f := free[k]) (fun ⟨_, _, _, _, h⟩ => t4 (by rw [← hon2]; exact h)))
          clear hon2
          refine wp_region_later (by kernel_rfl) (by kernel_rfl) ?_
          repeat (go_big_quiet_step ((first | (go_at_call 10; exact later_of (rright_any _ _)) | (go_at_call 15; exact later_of (rfits_any _ _ _)) | (go_at_call 29; exact later_same ((ron_any _ _ _ L _ _ (Later.row _ rq) (Later.size _) (by omega) HA.out).mono fun e w' h => ⟨h.1.trans (by rw [HON.out]), h.2⟩)) | (go_at_call 28; exact later_of (rtimes_any need n _ hok (by omega))) | (go_at_call 20; exact later_of (rsub_any free[k] taken[k] _ l1 l2)))))
          refine wpQuiet_nil ?_
          intro w7 hw7
          obtain ⟨⟨w7, hb7⟩, rfl⟩ := hw7
          go_wp2_with fail
          go_meet
          exact ⟨by rw [HE.out], hb7⟩
        have e4 : (need.times n).fitsB (free[k].sub taken[k]) = true := fitsB_yes t4
        have HE := Lib.hid (lessC_yes (taken := taken) (L := L) (need := need) (k := k) (f := free[k]) ⟨h1, t1, t2, t3, by rw [hon2]; exact t4⟩)
        clear hon2
        refine wp_region_later (by kernel_rfl) (by kernel_rfl) ?_
        repeat (go_big_quiet_step ((first | (go_at_call 10; exact later_of (rright_any _ _)) | (go_at_call 15; exact later_of (rfits_any _ _ _)) | (go_at_call 29; exact later_same ((ron_any _ _ _ L _ _ (Later.row _ rq) (Later.size _) (by omega) HA.out).mono fun e w' h => ⟨h.1.trans (by rw [HON.out]), h.2⟩)) | (go_at_call 28; exact later_of (rtimes_any need n _ hok (by omega))) | (go_at_call 20; exact later_of (rsub_any free[k] taken[k] _ l1 l2)))))
        refine wpQuiet_nil ?_
        intro w7 hw7
        obtain ⟨⟨w7, hb7⟩, rfl⟩ := hw7
        go_wp2_with fail
        go_meet
        exact ⟨by rw [HE.out], hb7⟩
      case rest =>
        obtain ⟨rfl, hb7⟩ := hcut
        obtain ⟨w7, rfl⟩ : ∃ u : World, u = wc := ⟨_, rfl⟩
        clear c0 c1 c2 c3 a2 a3 a4 a5
        have k7 := hkq.below hb7 zq
        have z7 := hb7.size
        have hb57 := hbq5.trans (hb7.mono hbq5.size)
        have ho7 := own_below hoq hb7
        cases hlc : lessC taken L need k free[k]
        · have HE := Lib.hid (of_lessC_no hlc)
          rw [HE.out] at HN
          obtain ⟨q0, q1, q2, q3⟩ := k7.held
          have hb5x := hb57
          have zx := hb5x.size
          go_wp2_with (at_builtin; refine wpList_append_row rfl (.tmp 98) (.tmp 100) 35 rfl w5.heap.size 23 i0 _ 4 32 Try.underlying35 hi0 hz0 hz1 hz2 rfl (by decide) _ _ _ rfl (ho7.alloc _) (w7.heap.size + 1) (some ⟨w7.heap.size, 0, none⟩) 1 1 (Rs.cs free[k]) rfl (Row.lit _ _ _) rfl (one_rs _) (by unfold maxLen; omega) (by omega) (by simp; omega) ?_; intro v8 w9 ho9 hg9)
          go_roundw
          case rel =>
            refine ⟨k + 1, by omega, by go_num, by rw [HN.out, flatR_app]; exact ho9, ?_⟩
            exact ((hb5x.alloc hb5x.size _).grown hg9 (by simp; omega) (fun j hj => (hown.lt j hj).1))
          case measure => simp [intOf]; omega
        · obtain ⟨h1, t1, t2, hE⟩ := of_lessC_yes hlc
          rw [hE] at HN
          clear hE
          obtain ⟨bt, offt, rfl, hbt, s0, s1, s2, s3⟩ := (r5t.below hb57).rs h1
          obtain ⟨q0, q1, q2, q3⟩ := k7.held
          obtain ⟨p0, p1, p2, p3⟩ := k7.free4
          have l1 := t2.lim
          have l2 := t1.lim
          go_upto_region 13 with (fail)
          go_cut [] (fun wx => Blk wx wr.heap.size (free[k].sub taken[k]) ∧ wx.ownsRow w5.heap.size 23 4 u9 k (flatR (lessOf taken L need (free.take k))) ∧ Below w5.heap.size w5 wx)
          case first =>
            go_region_with ((go_at_call 20; refine (rsub_any free[k] taken[k] _ l1 l2).mono ?_; rintro e w8 ⟨rfl, hb8⟩; have k8 := Blk.below (u := w7.drew) k7 hb8 (k7.lt); obtain ⟨q0', q1', q2', q3'⟩ := k8.held; obtain ⟨p0', p1', p2', p3'⟩ := k8.free4))
            all_goals (go_wp2_with fail; go_meet)
            all_goals exact ⟨k8.set _, own_set4 (own_below (w := w7.drew) ho7.drew hb8) (fun e => by have := (hown.lt _ e).2; omega) _ _ _ _, below_set4 (hb57.drew.trans (hb8.mono (by exact hb57.size))) (by omega) _ _ _ _⟩
          case rest =>
            obtain ⟨k8, ho8, hb5x⟩ := hcut
            obtain ⟨w8, rfl⟩ : ∃ u : World, u = wc := ⟨_, rfl⟩
            clear q0 q1 q2 q3 p0 p1 p2 p3 s0 s1 s2 s3
            obtain ⟨q0, q1, q2, q3⟩ := k8.held
            have zx := hb5x.size
            go_wp2_with (at_builtin; refine wpList_append_row rfl (.tmp 98) (.tmp 100) 35 rfl w5.heap.size 23 i0 _ 4 32 Try.underlying35 hi0 hz0 hz1 hz2 rfl (by decide) _ _ _ rfl (ho8.alloc _) (w8.heap.size + 1) (some ⟨w8.heap.size, 0, none⟩) 1 1 (Rs.cs (free[k].sub taken[k])) rfl (Row.lit _ _ _) rfl (one_rs _) (by unfold maxLen; omega) (by omega) (by simp; omega) ?_; intro v8 w9 ho9 hg9)
            go_roundw
            case rel =>
              refine ⟨k + 1, by omega, by go_num, by rw [HN.out, flatR_app]; exact ho9, ?_⟩
              exact ((hb5x.alloc hb5x.size _).grown hg9 (by simp; omega) (fun j hj => (hown.lt j hj).1))
            case measure => simp [intOf]; omega
    · obtain rfl : k = free.length := by omega
      rw [List.take_length] at hown
      obtain ⟨An, cn, rfl⟩ := own_form hown
      have rn := Row.of_own hown
      have hln := Lib.hid (less_len taken L need free)
      have hlr : (lessOf taken L need free).length ≤ 1000 := by rw [hln.out]; omega
      have hbw := hW5.trans (hbel.mono (by omega))
      obtain ⟨x0, x1, x2, x3, x4, x5⟩ := hh5.later hbel hp5
      go_wp2_with fail
      have hpl := place_any An _ cn cap' _ _ (lessOf taken L need free) part many need wr (by exact rn) (Nat.le_refl _) hlr (by exact r5'.below hbel) (by omega) (by omega)
      rw [HB.out, HL.out, hln.out] at hpl
      refine hpl.mono ?_
      rintro e w8 ⟨Am, cm, rfl, hcm, rm, hb8⟩
      have z8 := hb8.size
      have hS : sameL L L = true := by unfold sameL; exact decide_eq_true rfl
      go_wp2_with fail
      refine (same_any _ _ _ _ _ _ L L _ (by exact (rl.below hbel).below (hb8.mono (by omega))) (by exact rm) (by omega) (by omega) (by omega)).mono ?_
      rintro e w9 ⟨rfl, hb9⟩
      go_wp2
      go_ret
      exact ⟨rfl, (hbw.trans (hb8.mono (by omega))).trans (hb9.mono (by omega))⟩

namespace placeStays
theorem walk {H : Type} (enc : TypeId × Value → H) (W : World) (base : Nat) (v0 v1 v2 : Value) {d0 d1 d2 : DataW H} {p0 p1 p2 : List MemPlace} (o0 : Value.okWide Try.prog W .any base 35 v0) (h0 : DataW.Trod enc Try.prog W 0 (fun _ => true) true 35 v0 d0 p0) (o1 : Value.okWide Try.prog W .any base 38 v1) (h1 : DataW.Trod enc Try.prog W 0 (fun _ => true) true 38 v1 d1 p1) (o2 : Value.okWide Try.prog W .any base 35 v2) (h2 : DataW.Trod enc Try.prog W 0 (fun _ => true) true 35 v2 d2 p2) :
    Calls Try.prog 6 #[v0, v1, v2] W fun e w' => e = .returned (.bool true) ∧ Below W.heap.size W w' := by
  obtain ⟨A, cap, l, rfl, hr, hc, hn⟩ := open_rss o0 h0
  obtain ⟨A', cap', part, many, need, rfl, hr', hc', hn'⟩ := open_want o1 h1
  obtain ⟨At, capt, taken, rfl, hrt, hct, hnt⟩ := open_rss o2 h2
  exact stays_walk A A' At cap cap' capt l taken part many need W hr hr' hrt hn hn' hnt
end placeStays
end Go.Proofs.Ytcgfjobdpcdhhaa
