/-
  The walk of the law GroupOrder.
-/
import Derived.Test.YtknmgcjhfleloaaDoorStand
import Derived.Deep.DeepCutAuto
import Derived.Deep.RegionHeld3
import Derived.Deep.DrawnRows
namespace Go.Proofs.YtknmgcjhfleloaaDoor
open Go.RowKit Go.BigFrame
set_option linter.unusedVariables false

/-- Which numbers were met. -/
def mets (xs : List Nat) (n : Nat) : List Value := (List.range n).map fun q => Value.bool (decide (q ∈ xs))
theorem mets_len (xs : List Nat) (n : Nat) : (mets xs n).length = n := by simp [mets]
theorem mets_at {xs : List Nat} {n q : Nat} (h : q < n) : (mets xs n)[q]? = some (.bool (decide (q ∈ xs))) := by simp [mets, h]
theorem mets_set {xs : List Nat} {n k : Nat} (h : k < n) : (mets xs n).set k (.bool true) = mets (xs ++ [k]) n := by
  apply List.ext_getElem
  · simp [mets]
  · intro i h1 h2
    rw [List.getElem_set]
    by_cases hi : k = i
    · subst hi; simp [mets]
    · rw [if_neg hi]; simp [mets, Ne.symm hi]
theorem mets_made (n : Nat) : (madeCells (Value.bool false).cells (n * 1)).toList = mets [] n := by
  simp only [madeCells, mets, Nat.mul_one, Value.cells, Array.toList_map, Array.toList_range]
  apply List.map_congr_left
  intro q _
  simp [Nat.mod_one]
/-! A request read, or stored, as a whole in one step: the model's own words behind a name. -/
noncomputable def ld33 (v : Value) : Sem Value := Instr.loadAt 33 v
theorem ld33_eq (v : Value) : Instr.loadAt 33 v = ld33 v := rfl
noncomputable def st33 (p v : Value) : Sem Unit := Instr.storeAt 33 p v
theorem st33_eq (p v : Value) : Instr.storeAt 33 p v = st33 p v := rfl
theorem ld33_run {p o : Nat} {b : Cl} {w : World} (h : ReqAt p o b w) : (ld33 (.pointer (some ⟨p, o, none⟩))).run Tryd.prog w = .ok b.req w := by
  unfold ld33 Instr.loadAt Instr.sureAddr
  rw [Sem.run_bind]
  exact ld_req h
theorem reqAt_of {p : Nat} {b : Cl} {w : World} (h : w.rangeAt p 0 b.cs.tail) : ReqAt p 0 b w :=
  ⟨h 0 _ rfl, h 1 _ rfl, h 2 _ rfl, h 3 _ rfl, h 4 _ rfl, h 5 _ rfl, h 6 _ rfl, h 7 _ rfl, h 8 _ rfl, h 9 _ rfl, h 10 _ rfl, h 11 _ rfl, h 12 _ rfl, h 13 _ rfl, h 14 _ rfl, h 15 _ rfl, h 16 _ rfl⟩
theorem st33_run {p : Nat} {b : Cl} {W : World} (ht : W.there p 0 17) : (st33 (.pointer (some ⟨p, 0, none⟩)) b.req).run Tryd.prog W = .ok () (W.setCells p 0 b.cs.tail) := by
  have := run_storeAt_mid (P := Tryd.prog) W p 0 33 b.cs.tail.toArray ht info33 (all_oneCell_toArray (fun v hv => one_cl b v (List.mem_of_mem_tail hv)))
  exact this
abbrev Zo : Obj := .cells #[.int .i64 0, .int .i64 0, .int .i64 0, .int .i64 0, .int .i64 0, .int .i64 0, .int .i64 0, .int .i64 0, .int .i64 0, .int .i64 0, .int .i64 0, .int .i64 0, .slice none 0 0, .int .i64 0, .int .i64 0, .int .i64 0, .int .i64 0] 33
theorem there_made (u : World) : (u.alloc Zo).there u.heap.size 0 17 := by
  intro j hj
  have hg := heap_alloc_new u Zo
  exact ⟨by rw [cell_of_row _ _ _ _ _ _ hg, Nat.zero_add, Array.getElem?_eq_getElem (by exact hj)]; rfl, by rw [frozen_of_row _ _ _ _ _ hg]⟩
/-- Two blocks that were just made, and a request stored into each, in either order. -/
theorem two_stores (W : World) (n : Nat) (x y : Nat) (hxy : x ≠ y) (a b : Cl) (hx : n ≤ x) (hy : n ≤ y) (hxs : x < W.heap.size) (hys : y < W.heap.size) (tx : W.there x 0 17) (ty : W.there y 0 17) {w0 : World} (hb : Below n w0 W) :
    ∃ wA wB, (st33 (.pointer (some ⟨x, 0, none⟩)) a.req).run Tryd.prog W = .ok () wA ∧ (st33 (.pointer (some ⟨y, 0, none⟩)) b.req).run Tryd.prog wA = .ok () wB ∧ Below n w0 wA ∧ Below n w0 wB ∧ ReqAt x 0 a wB ∧ ReqAt y 0 b wB ∧ x < wB.heap.size ∧ y < wB.heap.size := by
  have ty' := World.there_setCells ty x 0 a.cs.tail
  have s1 := (below_setCells (B := 0) (w := W) (b := x) (Nat.zero_le _) a.cs.tail 0 _ (Below.refl _ _)).size
  have s2 := (below_setCells (B := 0) (w := W.setCells x 0 a.cs.tail) (b := y) (Nat.zero_le _) b.cs.tail 0 _ (Below.refl _ _)).size
  refine ⟨_, _, st33_run tx, st33_run ty', below_setCells hx _ _ _ hb, below_setCells hy _ _ _ (below_setCells hx _ _ _ hb), ?_, ?_, by omega, by omega⟩
  · exact reqAt_of (World.rangeAt_setCells_apart (World.rangeAt_setCells_same W _ _ _ tx) _ _ _ (.inl hxy))
  · exact reqAt_of (World.rangeAt_setCells_same _ _ _ _ ty')
attribute [local go_sem ↓] ld33_eq st33_eq
theorem info4 : (Tryd.prog.info? 4).map (fun i => (i.zero, i.size, i.bytes)) = some (some (.bool false), 1, 1) := by kernel_rfl

set_option maxHeartbeats 8000000 in
set_option maxRecDepth 100000 in
theorem lawG_walk (A : Option Addr) (cap : Nat) (l : List Cl) (w : World) (hr : Row w w.heap.size A (flatC l)) (hlen : l.length ≤ 9223372036854775807) (hchg : Chg w) (hwf : ∀ b ∈ l, wfJ b.j) :
    Calls Tryd.prog 4 #[.slice A l.length cap] w fun e w' => e = .returned (.bool true) ∧ Below w.heap.size w w' := by
  obtain ⟨i4, hi4, hz40, hz41, hz42⟩ := info_parts info4
  have HWF := Lib.hid hwf
  clear hwf
  by_cases hbig : 60 < l.length
  · go_enter Tryd.func4, Tryd.ntmps4
    go_wp2_with (go_at_call 6; refine (awake_any _ hchg).mono ?_; rintro e w1 ⟨rfl, hb1⟩)
    go_ret
    exact ⟨rfl, hb1⟩
  have hd1 : decide (60 < l.length) = false := by simp; omega
  have hd2 : decide ((60 : Int) < (l.length : Int)) = false := by simp; omega
  go_enter Tryd.func4, Tryd.ntmps4
  go_wp2_with fail
  refine (awake_any _ hchg).mono ?_
  rintro e w1 ⟨rfl, hb1⟩
  have z1 := hb1.size
  go_wp2_with fail
  refine (orderC_any _ _ _ l _ (by exact hr.below hb1) z1 (by omega) (hchg.later hb1) HWF.out).mono ?_
  have HOL := Lib.hid (order_len l)
  rintro e w2 ⟨A2, c2, he2, hr2, hb2, hc2, _⟩
  rw [HOL.out] at he2 hc2
  subst he2
  have hW2 := hb1.trans (hb2.mono z1)
  have z2 := hW2.size
  clear hb1 hb2
  go_wp2_with (refine wpList_make_full _ rfl (.tmp 24) (.tmp 24) 40 rfl w2.heap.size 4 i4 _ 1 Tryd.underlying40 hi4 hz40 hz41 .i64 .i64 _ _ l.length rfl rfl rfl rfl (by rw [hz42]; omega) (by unfold maxLen; omega) (Nat.le_refl _) ?_; intro w3 ho3 hg3)
  rw [mets_made] at ho3
  have hb3 : Below w2.heap.size w2 w3 := (Below.refl _ _).grown hg3 (Nat.le_refl _) (fun q hq => by cases hq)
  clear hg3
  go_loopw [28] (fun s wr => ∃ i : Nat, i ≤ l.length ∧ s = .int .i64 i ∧ wr.ownsRow w2.heap.size 4 1 (.slice (some ⟨w2.heap.size, 0, none⟩) l.length l.length) l.length (mets ((order (rqs l)).take i) l.length) ∧ Below w2.heap.size w2 wr) (fun s _ => l.length - (intOf s).toNat)
  case atStart => exact ⟨0, Nat.zero_le _, rfl, ho3, hb3⟩
  case round =>
    clear ho3 hb3
    obtain ⟨i, hi, rfl, hown, hbel⟩ := hrel
    have hz := hbel.size
    by_cases hlt : i < l.length
    rotate_left
    · obtain rfl : i = l.length := by omega
      go_wp2
      go_ret
      exact ⟨rfl, hW2.trans (hbel.mono z2)⟩
    have hio : i < (order (rqs l)).length := by rw [HOL.out]; exact hlt
    obtain ⟨kk, hkk⟩ : ∃ kk, (order (rqs l))[i] = kk := ⟨_, rfl⟩
    have hkl : kk < l.length := by rw [← hkk]; exact order_lt hio
    have HKK := Lib.hid hkk
    clear hkk
    obtain ⟨b, off, rfl, hb0, hco⟩ := (hr2.below hbel) (by rw [nvs_len]; omega)
    have ho0 : wr.cell? ⟨b, off + i, none⟩ = some (.int .i64 (kk : Int)) := by
      have := hco i _ (nvs_get hio)
      rw [HKK.out] at this
      exact this
    have HTK : Hid ((order (rqs l)).take (i + 1) = (order (rqs l)).take i ++ [kk]) := by show _ = _; rw [List.take_succ_eq_append_getElem hio, HKK.out]
    have hnm : decide (kk ∈ (order (rqs l)).take i) = false := by
      rw [decide_eq_false_iff_not]
      intro hmem
      obtain ⟨q, hq, e⟩ := List.mem_iff_getElem.1 hmem
      rw [List.length_take] at hq
      rw [List.getElem_take] at e
      exact order_ne (show q < i by omega) hio (by rw [HKK.out, e])
    have hkm : kk < (mets ((order (rqs l)).take i) l.length).length := by rw [mets_len]; exact hkl
    have cm : wr.cell? ⟨w2.heap.size, kk, none⟩ = some (.bool false) := by
      have := own_at hown hkm
      rw [this]
      have e := mets_at (xs := (order (rqs l)).take i) hkl
      rw [List.getElem?_eq_getElem hkm, hnm] at e
      exact e
    have fm := hown.frozenAt kk
    have hst := (hown.stored kk (.bool true)).1
    rw [mets_set hkl, ← HTK.out] at hst
    have hbs : Below w2.heap.size w2 (wr.setCell ⟨w2.heap.size, kk, none⟩ (.bool true)) := hbel.setCell (p := ⟨w2.heap.size, kk, none⟩) (Nat.le_refl _) _
    clear hnm hkm
    have hk1 : decide ((kk : Int) < 0) = false := by simp
    have hk2 : decide (l.length ≤ kk) = false := by simp; omega
    go_wp2
    obtain ⟨ws, hws⟩ : ∃ ws, wr.setCell ⟨w2.heap.size, kk, none⟩ (.bool true) = ws := ⟨_, rfl⟩
    rw [hws] at hst hbs ⊢
    clear hws ho0 cm fm hown hbel hco
    go_loopw [54] (fun s wr => ∃ p : Nat, p ≤ i ∧ s = .int .i64 p ∧ wr.ownsRow w2.heap.size 4 1 (.slice (some ⟨w2.heap.size, 0, none⟩) l.length l.length) l.length (mets ((order (rqs l)).take (i + 1)) l.length) ∧ Below w2.heap.size w2 wr) (fun s _ => i - (intOf s).toNat)
    case atStart => exact ⟨0, Nat.zero_le _, rfl, hst, hbs⟩
    case round =>
      clear hst hbs
      obtain ⟨p, hp, rfl, hown, hbel⟩ := hrel
      have hz := hbel.size
      by_cases hpi : p < i
      rotate_left
      · obtain rfl : p = i := by omega
        go_wp2
        go_roundw
        case rel => exact ⟨p + 1, by omega, by go_num, hown, hbel⟩
        case measure => simp [intOf]; omega
      have hpo : p < (order (rqs l)).length := by rw [HOL.out]; omega
      obtain ⟨m, hm⟩ : ∃ m, (order (rqs l))[p] = m := ⟨_, rfl⟩
      have hml : m < l.length := by rw [← hm]; exact order_lt hpo
      have HM := Lib.hid hm
      clear hm
      have HST : Hid (kk < m → concB l[kk].k = true → l[m].j ≠ l[kk].j) := by
        intro h1 h2
        have e1 := HM.out
        have e2 := HKK.out
        subst e1 e2
        exact order_stands hpi hio hml hkl h1 h2
      obtain ⟨b', off', e, hb0', hco⟩ := (hr2.below hbel) (by rw [nvs_len]; omega)
      cases e
      have ho0 : wr.cell? ⟨b, off + p, none⟩ = some (.int .i64 (m : Int)) := by
        have := hco p _ (nvs_get hpo)
        rw [HM.out] at this
        exact this
      clear hco
      have hrw := (hr.below (hW2.trans (hbel.mono z2)))
      obtain ⟨bl, offl, rfl, hbl, cm⟩ := hrw.call hml
      obtain ⟨bl', offl', e, _, ck⟩ := hrw.call hkl
      cases e
      go_upto_region 18 with fail
      go_cut [9, 10] (fun s9 s10 wx => ∃ x y : Nat, s9 = .pointer (some ⟨x, 0, none⟩) ∧ s10 = .pointer (some ⟨y, 0, none⟩) ∧ ReqAt x 0 l[m] wx ∧ ReqAt y 0 l[kk] wx ∧ x < wx.heap.size ∧ y < wx.heap.size ∧ Below wr.heap.size wr wx)
      case first =>
        have HK : Hid (∀ u, Below wr.heap.size wr u → (ld33 (.pointer (some ⟨bl, offl + m * 18 + 1, none⟩))).run Tryd.prog u = .ok l[m].req u ∧ (ld33 (.pointer (some ⟨bl, offl + kk * 18 + 1, none⟩))).run Tryd.prog u = .ok l[kk].req u) := fun u hu => ⟨ld33_run (cm.req.later hu (by omega)), ld33_run (ck.req.later hu (by omega))⟩
        clear cm ck hrw
        have hb00 : Below wr.heap.size wr ((wr.alloc Zo).alloc Zo).drew := (((Below.refl _ _).alloc (Nat.le_refl _) _).alloc (by simp) _).drew
        have t0 : ((wr.alloc Zo).alloc Zo).drew.there wr.heap.size 0 17 := (World.there_drew _ _ _ _).2 (World.there_alloc (there_made wr) _)
        have t1 : ((wr.alloc Zo).alloc Zo).drew.there (wr.heap.size + 1) 0 17 := by
          have h := there_made (wr.alloc Zo)
          rw [World.size_alloc] at h
          exact (World.there_drew _ _ _ _).2 h
        have hsz : ((wr.alloc Zo).alloc Zo).drew.heap.size = wr.heap.size + 2 := by simp
        obtain ⟨wA, wB, eA, eB, bA, bB, rA, rB, xA, xB⟩ := two_stores ((wr.alloc Zo).alloc Zo).drew wr.heap.size wr.heap.size (wr.heap.size + 1) (by omega) l[m] l[kk] (Nat.le_refl _) (by omega) (by omega) (by omega) t0 t1 hb00
        obtain ⟨wC, wD, eC, eD, bC, bD, rC, rD, xC, xD⟩ := two_stores ((wr.alloc Zo).alloc Zo).drew wr.heap.size (wr.heap.size + 1) wr.heap.size (by omega) l[m] l[kk] (by omega) (Nat.le_refl _) (by omega) (by omega) t1 t0 hb00
        have FB : Hid (ReqAt wr.heap.size 0 l[m] wB ∧ ReqAt (wr.heap.size + 1) 0 l[kk] wB ∧ wr.heap.size < wB.heap.size ∧ wr.heap.size + 1 < wB.heap.size) := ⟨rA, rB, xA, xB⟩
        have FD : Hid (ReqAt (wr.heap.size + 1) 0 l[m] wD ∧ ReqAt wr.heap.size 0 l[kk] wD ∧ wr.heap.size + 1 < wD.heap.size ∧ wr.heap.size < wD.heap.size) := ⟨rC, rD, xC, xD⟩
        clear t0 t1 hsz hb00 rA rB rC rD xA xB xC xD
        go_region_held3 (fun u => (ld33 (.pointer (some ⟨bl, offl + m * 18 + 1, none⟩))).run Tryd.prog u = .ok l[m].req u ∧ (ld33 (.pointer (some ⟨bl, offl + kk * 18 + 1, none⟩))).run Tryd.prog u = .ok l[kk].req u)
          (first | exact HK.out _ bA | exact HK.out _ bB | exact HK.out _ bC | exact HK.out _ bD | exact HK.out _ (by repeat (first | exact Below.refl _ _ | refine Below.drew ?_ | refine Below.alloc ?_ (by first | (simp; done) | (simp; omega)) _ | refine Below.setCell ?_ (by first | (simp; done) | (simp; omega)) _)))
          (first | fail)
        all_goals (go_wp2_with fail; go_meet; first | exact ⟨_, _, rfl, rfl, FB.out.1, FB.out.2.1, FB.out.2.2.1, FB.out.2.2.2, bB⟩ | exact ⟨_, _, rfl, rfl, FD.out.1, FD.out.2.1, FD.out.2.2.1, FD.out.2.2.2, bD⟩)
      case rest =>
        obtain ⟨x, y, rfl, rfl, rx, ry, hx, hy, hbx⟩ := hcut
        obtain ⟨wq, rfl⟩ : ∃ u : World, u = wc := ⟨_, rfl⟩
        have hownq := own_below hown hbx
        have hbelq := hbel.trans (hbx.mono hz)
        clear hown hbel ho0 cm ck hrw
        by_cases hgt : kk < m
        rotate_left
        · have hd : decide (kk < m) = false := by simpa using hgt
          go_wp2
          go_roundw
          case rel => exact ⟨p + 1, by omega, by go_num, hownq, hbelq⟩
          case measure => simp [intOf]; omega
        have hd : decide (kk < m) = true := by simpa using hgt
        go_wp2_with (refine wpList_load33 (by rfl) (.tmp 9) rfl x 0 rfl l[m] rx ?_)
        cases hcm : concB l[m].k
        · refine (rconc_is hcm _).mono ?_
          rintro e w5 ⟨rfl, hb5⟩
          go_wp2
          go_roundw
          case rel => exact ⟨p + 1, by omega, by go_num, own_below hownq hb5, hbelq.trans (hb5.mono hbelq.size)⟩
          case measure => simp [intOf]; omega
        refine (rconc_is hcm _).mono ?_
        rintro e w5 ⟨rfl, hb5⟩
        have hown5 := own_below hownq hb5
        have hbel5 := hbelq.trans (hb5.mono hbelq.size)
        have rx5 := rx.later hb5 hx
        have ry5 := ry.later hb5 hy
        have z5 := hb5.size
        go_wp2_with (refine wpList_load33 (by rfl) (.tmp 10) rfl y 0 rfl l[kk] ry5 ?_)
        cases hck : concB l[kk].k
        · refine (rconc_is hck _).mono ?_
          rintro e w6 ⟨rfl, hb6⟩
          go_wp2
          go_roundw
          case rel => exact ⟨p + 1, by omega, by go_num, own_below hown5 hb6, hbel5.trans (hb6.mono hbel5.size)⟩
          case measure => simp [intOf]; omega
        have hne : (l[m].j == l[kk].j) = false := by simpa using HST.out hgt hck
        refine (rconc_is hck _).mono ?_
        rintro e w6 ⟨rfl, hb6⟩
        have cx : w6.cell? ⟨x, 2, none⟩ = some (.int .i64 l[m].j) := (rx5.later hb6 (by omega)).2.2.1
        have cy : w6.cell? ⟨y, 2, none⟩ = some (.int .i64 l[kk].j) := (ry5.later hb6 (by omega)).2.2.1
        go_wp2
        go_roundw
        case rel => exact ⟨p + 1, by omega, by go_num, own_below hown5 hb6, hbel5.trans (hb6.mono hbel5.size)⟩
        case measure => simp [intOf]; omega
end Go.Proofs.YtknmgcjhfleloaaDoor
