/-
  The contract of group.Chains.
-/
import Derived.Test.YtknmgcjhfleloaaDoorPut
namespace Go.Proofs.YtknmgcjhfleloaaDoor
open Go.RowKit Go.BigFrame Go.Maps
set_option linter.unusedVariables false

theorem law3 : Keyed Tryd.prog 3 := int_keyed Tryd.underlying3
theorem zero3 (w : World) : (zeroValue 3).run Tryd.prog w = .ok (.int .i64 0) w := by kernel_rfl
def wfJ (J : Int) : Prop := (Lit.int .i64 J).wf = true
theorem wf_nat {n : Nat} (h : n ≤ 1000) : (Lit.int .i64 (n : Int)).wf = true := by
  have h1 : IntKind.i64.min = -9223372036854775808 := by decide
  have h2 : IntKind.i64.max = 9223372036854775807 := by decide
  simp only [Lit.wf, h1, h2]; simp; omega
theorem chains_le (l : List Rq) (n : Nat) : (chains l n).length ≤ n := by rw [← chainsTo_all]; exact chainsTo_le l n n
theorem chains_heads (l : List Rq) (n : Nat) : Heads (chains l n) := by rw [← chainsTo_all]; exact chainsTo_heads (Nat.le_refl _)

theorem such_is {k : Int} {v : Bool} (h : suchB k = v) (w : World) (hc : Chg w) : Calls Tryd.prog 15 #[.int .i64 k] w fun e w' => e = .returned (.bool v) ∧ w = w' := h ▸ such_any k w hc
theorem conc_no {b : Cl} (h : concB b.k = false) (w : World) : Calls Tryd.prog 12 #[b.req] w fun e w' => e = .returned (.tuple #[.int .i64 0, .bool false]) ∧ Below w.heap.size w w' := by
  have e : jobOf b = 0 := by unfold jobOf; rw [h]; rfl
  have := conc_any b w
  rw [h, e] at this
  exact this
theorem conc_yes {b : Cl} (h : concB b.k = true) (w : World) : Calls Tryd.prog 12 #[b.req] w fun e w' => e = .returned (.tuple #[.int .i64 b.j, .bool true]) ∧ Below w.heap.size w w' := by
  have e : jobOf b = b.j := by unfold jobOf; rw [h]; rfl
  have := conc_any b w
  rw [h, e] at this
  exact this
theorem lit_two (w : World) (o : Obj) (x : Value) (T : TypeId) : Row ((w.alloc o).alloc (.cells #[x] T)) (w.heap.size + 1 + 1) (some ⟨w.heap.size + 1, 0, none⟩) [x] := by
  have h := Row.lit (w.alloc o) #[x] T
  rw [World.size_alloc] at h
  exact h
theorem nil_at {w : World} {base g n cap : Nat} {ss : List Value} (h : w.ownsRow base 27 1 (.slice (some ⟨g, 0, none⟩) (n + 1) cap) (n + 1) (ss ++ [.slice none 0 0])) (hs : ss.length = n) : w.cell? ⟨g, n, none⟩ = some (.slice none 0 0) := by
  have := own_at h (i := n) (by simp; omega)
  rw [this]
  subst hs
  simp
theorem nth_len {l : List Rq} {k a : Nat} (ha : a < (chains l k).length) : (nth (chains l k) a).length ≤ k := by
  rw [nth_at ha]; simp only [chains, List.getElem_map]; exact chainOf_len _ _ _
theorem at_int {D : DataW Unit} {J c : Int} {a : Nat} (h : D.atKey (.int .i64 J) (.lit (.int .i64 0)) = .lit (.int .i64 c)) (h2 : ∀ z, D.atKey (.int .i64 J) z = .lit (.int .i64 (a : Int))) : c = (a : Int) := by
  rw [h2] at h; injection h with h; injection h with _ h; exact h.symm
/-- What the loop of Chains keeps. -/
def Kept (w : World) (l : List Cl) (k : Nat) (wr : World) : Prop := ∃ D, wr.ownsMap Tryd.prog 3 (plainElem Tryd.prog 3) w.heap.size k D ∧ Rep D (opened (rqs l) k)

set_option maxHeartbeats 8000000 in
theorem chains_any (A : Option Addr) (cap B : Nat) (l : List Cl) (w : World) (hr : Row w B A (flatC l)) (hB : B ≤ w.heap.size) (hn : l.length ≤ 1000) (hchg : Chg w) (hwf : ∀ b ∈ l, wfJ b.j) :
    Calls Tryd.prog 7 #[.slice A l.length cap] w (Chained w (chains (rqs l) l.length)) := by
  obtain ⟨i3, hi3, hz30, hz31, hz32⟩ := info_parts info3
  obtain ⟨i27, hi27, hz270, hz271, hz272⟩ := info_parts info27
  have hrm := hr.more hB
  have HWF := Lib.hid hwf
  clear hwf
  have hmm := @run_makeMap Tryd.prog
  go_enter Tryd.func7, Tryd.ntmps7
  go_wp2
  clear hmm
  go_loopw [3, 15] (fun v i wr => ∃ k : Nat, k ≤ l.length ∧ i = .int .i64 k ∧ OwnG wr (w.heap.size + 1) v (chains (rqs l) k) ∧ Kept w l k wr ∧ Below w.heap.size w wr) (fun _ i _ => l.length - (intOf i).toNat)
  case atStart => exact ⟨0, Nat.zero_le _, rfl, ⟨[], ⟨rfl, fun i h => by simp at h⟩, World.ownsRow_nil _ _ _ _⟩, ⟨.map [], World.ownsMap_made _ _ _ _, rep_empty _ fun J => rfl⟩, (Below.refl _ _).alloc (Nat.le_refl _) _⟩
  case round =>
    obtain ⟨k, hk, rfl, hown, ⟨D, hmap, hrep⟩, hbel⟩ := hrel
    have hz := hbel.size
    by_cases hlt : k < l.length
    rotate_left
    · obtain rfl : k = l.length := by omega
      go_wp2
      go_ret
      exact chained_of hown (by omega) hbel
    obtain ⟨b, off, rfl, hb0, ca⟩ := (hrm.below hbel).call hlt
    have hrk := rq_at hlt
    have HRK := Lib.hid hrk
    clear hrk
    have hmw := hmap.lt
    have hjw : wfJ l[k].j := HWF.out _ (List.getElem_mem hlt)
    have HKEY : Hid (keyOf Tryd.prog 3 (.int .i64 l[k].j) = some (.int .i64 l[k].j)) := keyOf_int_mk Tryd.underlying3 hjw
    have hcl := chains_le (rqs l) k
    go_wp2_with (first
      | (refine wpList_load35 rfl (.tmp 18) rfl b (off + k * 18) rfl l[k] ca ?_)
      | (refine wpList_store35 rfl (.tmp 6) (.tmp 19) rfl wr _ rfl rfl l[k] rfl rfl ?_; intro w1 hc1 hb1 hz1; clear ca; have ck : w1.cell? ⟨wr.heap.size, 1, none⟩ = some (.int .i64 l[k].k) := hc1.2.1)
      | fail)
    have hbel1 := hbel.trans (hb1.mono hz)
    have z1 := hbel1.size
    have hown1 := hown.below hb1
    have hmap1 := hmap.kept (row := none) (w' := w1) ⟨hb1.os, hb1.tape, hb1.output, hb1.size, fun j hj _ => hb1.block j hj⟩ (by simp)
    have hchg1 := hchg.later hbel1
    have cj : w1.cell? ⟨wr.heap.size, 3, none⟩ = some (.int .i64 l[k].j) := hc1.2.2.2.1
    clear hown hmap hchg
    cases hs : suchB l[k].k
    · refine (such_is hs _ hchg1).mono ?_
      rintro e w2 ⟨rfl, rfl⟩
      have HF := Lib.hid (first_not_such (l := rqs l) (n := k) (by rw [HRK.out]; exact hs))
      have HNEW := Lib.hid (chains_new HF.out)
      cases hcc : concB l[k].k
      · have HOP : Hid (∀ J, opened (rqs l) (k + 1) J = opened (rqs l) k J) := fun J => opened_other (by rw [HRK.out]; intro h; rw [conc_rq, hcc] at h; simp at h)
        go_wp2_with (refine wpList_load33 (by rfl) (.tmp 26) rfl wr.heap.size 1 rfl l[k] (hc1.req) ?_)
        refine (conc_no hcc _).mono ?_
        rintro e w3 ⟨rfl, hb3⟩
        have hWw3 := hbel1.trans (hb3.mono z1)
        obtain ⟨ss, hinw3, houtw3⟩ := hown1.below hb3
        have hmw3 := hmap1.kept (row := none) (w' := w3) ⟨hb3.os, hb3.tape, hb3.output, hb3.size, fun j hj _ => hb3.block j hj⟩ (by simp)
        have z3 := hWw3.size
        have z31 := hmw3.lt
        clear ck cj
        go_wp2_with (at_builtin; refine wpList_append_row rfl (.tmp 34) (.tmp 37) 24 rfl (w.heap.size + 1) 27 i27 _ 1 24 Tryd.underlying24 hi27 hz270 hz271 hz272 rfl (by decide) _ _ _ rfl ((houtw3.alloc _).alloc _) (w3.heap.size + 1 + 1) (some ⟨w3.heap.size + 1, 0, none⟩) 1 1 [.slice (some ⟨w3.heap.size, 0, none⟩) 1 1] rfl (lit_two _ _ _ _) rfl (one_slice _ _ _) (by unfold maxLen; omega) (by omega) (by simp; omega) ?_; intro v4 w4 ho4 hg4)
        go_roundw
        case rel =>
          refine ⟨k + 1, by omega, by go_num, ?_, ⟨_, ((((hmw3.alloc _).alloc _).kept hg4 (fun e => by have := (houtw3.lt _ e.symm).1; omega)).mono (by omega)), hrep.same HOP.out⟩, ((hWw3.alloc (by omega) _).alloc (by simp; omega) _).grown hg4 (by simp; omega) (fun q hq => by have := (houtw3.lt q hq).1; omega)⟩
          rw [HNEW.out]
          exact OwnG.push ((hinw3.alloc _).alloc _) ((houtw3.alloc _).alloc _) ((own_lit _ _ 3 (by omega)).alloc _) ho4 hg4
        case measure => simp [intOf]; omega
      · have HOP : Hid (∀ J, J ≠ l[k].j → opened (rqs l) (k + 1) J = opened (rqs l) k J) := fun J hJ => opened_other (by rw [HRK.out]; intro h; exact hJ h.2.symm)
        have HOPJ : Hid (opened (rqs l) (k + 1) l[k].j = none) := by
          have := opened_conc (l := rqs l) (n := k) (by rw [HRK.out]; exact hcc) (by rw [HRK.out]; exact hs)
          rw [HRK.out] at this
          exact this
        go_wp2_with (refine wpList_load33 (by rfl) (.tmp 26) rfl wr.heap.size 1 rfl l[k] (hc1.req) ?_)
        refine (conc_yes hcc _).mono ?_
        rintro e w3 ⟨rfl, hb3⟩
        have hW3 := hbel1.trans (hb3.mono z1)
        have hown3 := hown1.below hb3
        have hmap3 := hmap1.kept (row := none) (w' := w3) ⟨hb3.os, hb3.tape, hb3.output, hb3.size, fun j hj _ => hb3.block j hj⟩ (by simp)
        have z3 := hW3.size
        clear ck cj
        go_wp2_with (first
          | (at_delete; refine wpList_delete_own _ rfl (.tmp 32) (.tmp 33) 41 3 rfl 3 law3 Tryd.underlying41 _ w.heap.size k _ rfl hmap3 _ _ rfl HKEY.out ?_; intro w5 hmw5 ht5; have hg5 := ht5.grown; have hown5 := hown3.grown hg5 (fun q hq => by cases hq; omega); obtain ⟨ss, hinw5, houtw5⟩ := hown5; have hWw5 := hW3.grown hg5 z3 (fun q hq => by cases hq; exact Nat.le_refl _); have z5 := hWw5.size; have z51 := hmw5.lt)
          | (at_builtin; refine wpList_append_row rfl (.tmp 34) (.tmp 37) 24 rfl (w.heap.size + 1) 27 i27 _ 1 24 Tryd.underlying24 hi27 hz270 hz271 hz272 rfl (by decide) _ _ _ rfl ((houtw5.alloc _).alloc _) (w5.heap.size + 1 + 1) (some ⟨w5.heap.size + 1, 0, none⟩) 1 1 [.slice (some ⟨w5.heap.size, 0, none⟩) 1 1] rfl (lit_two _ _ _ _) rfl (one_slice _ _ _) (by unfold maxLen; omega) (by omega) (by simp; omega) ?_; intro v4 w4 ho4 hg4))
        go_roundw
        case rel =>
          refine ⟨k + 1, by omega, by go_num, ?_, ⟨_, ((((hmw5.alloc _).alloc _).kept hg4 (fun e => by have := (houtw5.lt _ e.symm).1; omega)).mono (by omega)), hrep.del HOPJ.out HOP.out⟩, ((hWw5.alloc (by omega) _).alloc (by simp; omega) _).grown hg4 (by simp; omega) (fun q hq => by have := (houtw5.lt q hq).1; omega)⟩
          rw [HNEW.out]
          exact OwnG.push ((hinw5.alloc _).alloc _) ((houtw5.alloc _).alloc _) ((own_lit _ _ 3 (by omega)).alloc _) ho4 hg4
        case measure => simp [intOf]; omega
    · refine (such_is hs _ hchg1).mono ?_
      rintro e w2 ⟨rfl, rfl⟩
      clear ck
      have hsr : (rq (rqs l) k).such = true := by rw [HRK.out]; exact hs
      have HOP : Hid (∀ J, J ≠ l[k].j → opened (rqs l) (k + 1) J = opened (rqs l) k J) := fun J hJ => opened_other (by rw [HRK.out]; intro h; exact hJ h.2.symm)
      have HOPJ : Hid (opened (rqs l) (k + 1) l[k].j = some (idx (rqs l) (first (rqs l) k))) := by
        have := opened_such hsr
        rw [HRK.out] at this
        exact this
      have hjq : (rq (rqs l) k).j = l[k].j := by rw [HRK.out]; rfl
      have HSR := Lib.hid hsr
      have HJQ := Lib.hid hjq
      clear hsr hjq
      obtain ⟨ss, hin, hout⟩ := hown1
      have hss := hin.1
      cases hop : opened (rqs l) k l[k].j with
      | none =>
        have HF := Lib.hid (first_opened_none HSR.out (by rw [HJQ.out]; exact hop))
        have HNEW := Lib.hid (chains_new HF.out)
        have hix : idx (rqs l) (first (rqs l) k) = (chains (rqs l) k).length := by rw [HF.out, chains_len]; rfl
        have HIX := Lib.hid hix
        clear hix
        have hno := hrep.no hop
        clear hop
        have HCS := Lib.hid hss
        clear hss
        obtain ⟨Av, cv, rfl⟩ := own_form hout
        go_wp2_with (first
          | (at_lookup; refine wpList_lookup_own_ok_int _ rfl (.tmp 43) (.tmp 44) 41 rfl 3 3 .i64 law3 Tryd.underlying41 Tryd.underlying3 (zero3 _) w.heap.size k _ rfl hmap1 _ _ rfl HKEY.out ?_; intro c hat hwc; clear hat; rw [hno])
          | (at_mapUpdate; refine wpList_mapUpdate_own _ rfl (.tmp 52) (.tmp 53) (.tmp 54) 41 rfl 3 3 law3 Tryd.underlying41 _ w.heap.size k _ rfl hmap1 (by unfold maxLen; omega) _ _ _ rfl rfl HKEY.out _ [] (plainElem_int Tryd.underlying3 (wf_nat (by omega))) ?_; intro w5 hm5 hg5; have hout5 := own_grown hout hg5 (fun q hq e => by cases hq; have := (hout.lt _ e).1; omega); have hin5 := hin.grown hg5 (fun q hq => by cases hq; omega); have hW5 := hbel1.grown hg5 z1 (fun q hq => by cases hq; exact Nat.le_refl _); have z5 := hW5.size; have z51 := hm5.lt)
          | (at_builtin; refine wpList_append_row rfl (.tmp 55) (.tmp 57) 24 rfl (w.heap.size + 1) 27 i27 _ 1 24 Tryd.underlying24 hi27 hz270 hz271 hz272 rfl (by decide) _ _ _ rfl (hout5.alloc _) (w5.heap.size + 1) (some ⟨w5.heap.size, 0, none⟩) 1 1 [.slice none 0 0] rfl (Row.lit _ _ _) rfl (one_slice _ _ _) (by unfold maxLen; omega) (by omega) (by simp; omega) ?_; intro v6 w6 ho6 hg6)
          | (at_builtin; refine wpList_append_row rfl (.tmp 55) (.tmp 56) 24 rfl (w.heap.size + 1) 27 i27 _ 1 24 Tryd.underlying24 hi27 hz270 hz271 hz272 rfl (by decide) _ _ _ rfl (hout5.alloc _) (w5.heap.size + 1) (some ⟨w5.heap.size, 0, none⟩) 1 1 [.slice none 0 0] rfl (Row.lit _ _ _) rfl (one_slice _ _ _) (by unfold maxLen; omega) (by omega) (by simp; omega) ?_; intro v6 w6 ho6 hg6; obtain ⟨g6, c6, rfl, hg60, hg61⟩ := own_some ho6 (by omega); have hin6 := (hin5.alloc _).outer (hout5.alloc _) hg6; have hm6 := (hm5.alloc _).kept hg6 (fun e => by have := (hout5.lt _ e.symm).1; omega); have hW6 := (hW5.alloc z5 _).grown hg6 (by simp; omega) (fun q hq => by have := (hout5.lt q hq).1; omega); have z6 := hW6.size; have cn : w6.cell? ⟨g6, (chains (rqs l) k).length, none⟩ = some (.slice none 0 0) := nil_at ho6 HCS.out)
          | (at_builtin; refine wpList_append_row rfl (.tmp 63) (.tmp 65) 27 rfl (w.heap.size + 1) 3 i3 _ 1 8 Tryd.underlying27 hi3 hz30 hz31 hz32 rfl (by decide) (.slice none 0 0) 0 [] rfl (World.ownsRow_nil _ _ _ _) (w6.heap.size + 1) (some ⟨w6.heap.size, 0, none⟩) 1 1 [.int .i64 (k : Int)] rfl (Row.lit _ _ _) rfl (one_int _) (by unfold maxLen; omega) (by omega) (by simp; omega) ?_; intro v7 w7 ho7 hg7; obtain ⟨A7, c7, rfl⟩ := own_form ho7; have hout7 := own_grown (ho6.alloc _) hg7 (fun q hq => by cases hq); have cn7 : w7.cell? ⟨g6, (chains (rqs l) k).length, none⟩ = some (.slice none 0 0) := nil_at hout7 HCS.out; have fn7 := hout7.frozenAt (chains (rqs l) k).length))
        go_roundw
        case rel =>
          refine ⟨k + 1, by omega, by go_num, ?_, ⟨_, ((hm6.alloc _).kept hg7 (fun e => by cases e)).setCell (a := ⟨g6, (chains (rqs l) k).length, none⟩) (by show w.heap.size ≠ g6; omega) _, ?_⟩, ((hW6.alloc z6 _).grown hg7 (by simp; omega) (fun q hq => by cases hq)).setCell (p := ⟨g6, (chains (rqs l) k).length, none⟩) (by show w.heap.size ≤ g6; omega) _⟩
          · rw [HNEW.out]
            simpa using OwnG.fresh (hin6.alloc _) (ho6.alloc _) ho7 hg7
          · exact hrep.put hmap1.isMap (by rw [HOPJ.out, HIX.out]) HOP.out
        case measure => simp [intOf]; omega
      | some a =>
        obtain ⟨hfk, hax⟩ := first_opened_some HSR.out (by rw [HJQ.out]; exact hop)
        obtain ⟨hak, hmore⟩ := chains_more hfk rfl (first_first _ _)
        rw [← hax] at hak
        have HMORE : Hid (chains (rqs l) (k + 1) = (chains (rqs l) k).set a (nth (chains (rqs l) k) a ++ [k])) := by
          show _ = _
          rw [hmore, nth_at hak]
          subst hax
          rfl
        have HAX := Lib.hid hax
        clear hmore hax
        obtain ⟨hyes, hat0⟩ := hrep.yes hop
        have HAT := Lib.hid hat0
        have HOPK := Lib.hid hop
        clear hop hat0
        have has' : a < ss.length := by rw [hss]; exact hak
        have HCS := Lib.hid hss
        clear hss
        obtain ⟨g, cv, rfl, hg0, hg1⟩ := own_some hout (by omega)
        obtain ⟨Ai, ci, ei⟩ := own_form (hin.2 a has')
        have hrow := hin.2 a has'
        have hca := own_at hout has'
        have fra := hout.frozenAt a
        rw [ei] at hrow hca
        have EI := Lib.hid ei
        clear ei
        have hln : (nth (chains (rqs l) k) a).length ≤ k := nth_len hak
        go_wp2_with (first
          | (at_lookup; refine wpList_lookup_own_ok_int _ rfl (.tmp 43) (.tmp 44) 41 rfl 3 3 .i64 law3 Tryd.underlying41 Tryd.underlying3 (zero3 _) w.heap.size k _ rfl hmap1 _ _ rfl HKEY.out ?_; intro c hat hwc; obtain rfl : c = (a : Int) := at_int hat HAT.out; clear hat; rw [hyes])
          | (at_builtin; refine wpList_append_row rfl (.tmp 63) (.tmp 65) 27 rfl (w.heap.size + 1) 3 i3 _ 1 8 Tryd.underlying27 hi3 hz30 hz31 hz32 rfl (by decide) (.slice Ai (nth (chains (rqs l) k) a).length ci) _ _ rfl (hrow.alloc _) (w1.heap.size + 1) (some ⟨w1.heap.size, 0, none⟩) 1 1 [.int .i64 (k : Int)] rfl (Row.lit _ _ _) rfl (one_int _) (by unfold maxLen; omega) (by omega) (by simp; omega) ?_; intro v7 w7 ho7 hg7; obtain ⟨A7, c7, rfl⟩ := own_form ho7; have hout7 := row_beside (hout.alloc _) (hrow.alloc _) hg7; have cn7 := own_at hout7 has'; have fn7 := hout7.frozenAt a))
        go_roundw
        case rel =>
          refine ⟨k + 1, by omega, by go_num, ?_, ⟨_, ((((hmap1.alloc _).kept hg7 (fun e => by have := ((hin.2 a has').lt _ (by rw [EI.out]; exact e.symm)).1; omega)).setCell (a := ⟨g, a, none⟩) (by show w.heap.size ≠ g; omega) _).mono (by omega)), ?_⟩, ((hbel1.alloc z1 _).grown hg7 (by simp; omega) (fun q hq => by have := ((hin.2 a has').lt q (by rw [EI.out]; exact hq)).1; omega)).setCell (p := ⟨g, a, none⟩) (by show w.heap.size ≤ g; omega) _⟩
          · rw [HMORE.out]
            have := OwnG.put (hin.alloc _) (hout.alloc _) hak (chains_heads _ _) has' ho7 (by rw [EI.out]; exact hg7)
            simpa using this
          · refine hrep.same fun J => ?_
            by_cases hJ : J = l[k].j
            · rw [hJ, HOPJ.out, HOPK.out, HAX.out]
            · exact HOP.out J hJ
        case measure => simp [intOf]; omega
end Go.Proofs.YtknmgcjhfleloaaDoor
