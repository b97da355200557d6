/-
  The walk of the law BookAdds: it returns true whatever bookings it is given. No condition.
-/
import Derived.Test.YtdnhgmkcfoojdaaLaws
import Derived.Deep.RegionHeld3
import Derived.Deep.DrawnRows
import Derived.Lib.SmallJoins
namespace Go.Proofs.Ytdnhgmkcfoojdaa
open Go.ChangeShapes Go.WideShapes Go.ChangeAt Go.RowKit Go.Deep
set_option linter.unusedVariables false

theorem err_cases (l : List Bk) (nodes : Int) (b : Bk) (h : errZ l nodes b = 0) : RightP l nodes ∧ wholeP b nodes ∧ l.length ≠ 16 ∧ (¬ ∃ i, ∃ h : i < l.length, b.id ≤ l[i].id) ∧ meetsB l b.node b.lo b.hi = false := by
  by_cases h1 : RightP l nodes
  · by_cases h2 : wholeP b nodes
    · by_cases h3 : l.length = 16
      · rw [err3 h1 h2 h3] at h; omega
      · by_cases h4 : ∃ i, ∃ h : i < l.length, b.id ≤ l[i].id
        · rw [err31 h1 h2 h3 h4] at h; omega
        · by_cases h5 : meetsB l b.node b.lo b.hi = true
          · rw [err39 h1 h2 h3 h4 h5] at h; omega
          · exact ⟨h1, h2, h3, h4, by simpa using h5⟩
    · rw [err2 (Or.inr h2)] at h; omega
  · rw [err2 (Or.inl h1)] at h; omega
theorem right_added {l : List Bk} {nodes : Int} {b : Bk} (h : errZ l nodes b = 0) : RightP (l ++ [b]) nodes := by
  obtain ⟨h1, h2, h3, h4, h5⟩ := err_cases l nodes b h
  rw [right_iff]
  have hr := (right_iff l nodes).1 h1
  refine ⟨by simp; have := h1.1; omega, fun i hi => ?_⟩
  rcases Nat.lt_or_ge i l.length with hlt | hge
  · have e : (l ++ [b])[i] = l[i] := by simp [hlt]
    obtain ⟨p1, p2⟩ := hr.2 i hlt
    refine ⟨by rw [e]; exact p1, fun k hk => ?_⟩
    have := p2 k hk
    unfold pairOk at this ⊢
    simp only [List.getElem_append, hlt, show k < l.length by omega, dite_true]
    exact this
  · have hi' : i = l.length := by simp at hi; omega
    subst hi'
    refine ⟨by simpa using h2, fun k hk => ?_⟩
    unfold pairOk
    simp only [List.getElem_append, hk, dite_true, Nat.lt_irrefl, dite_false, Nat.sub_self, List.getElem_cons_zero]
    exact ⟨Int.not_le.1 fun hle => h4 ⟨k, hk, hle⟩, meets_false.1 h5 k hk⟩

/-- append onto a row of the call's own, as one step of a region that draws. -/
theorem step_append_row {P : Program} {w : World} {ops : Array Oper} {o : Oper} {a : Act} {K : Act → World → Prop} {Q : Exit → Act → World → Prop} {E : Prop} (hgd : o.guard = none) (s x : Operand) (t : TypeId)
    (ho : o.op = .call { callee := .builtin .append, args := #[s, x], argTypes := #[t, t] })
    (base : Nat) (e : TypeId) (i : TypeInfo) (z : Value) (size bytes : Nat) (ht : P.underlying t = some (.slice e)) (hi : P.info? e = some i) (hz : i.zero = some z)
    (hsize : i.size = size) (hby : i.bytes = bytes) (hzs : z.cells.size = size) (hsz : 0 < size)
    (v : Value) (n : Nat) (xs : List Value) (hs : a.eval s = v) (hown : w.ownsRow base e size v n xs)
    (B : Nat) (A : Option Addr) (m c : Nat) (news : List Value) (hx : a.eval x = .slice A m c) (hr : Row w B A news) (hl : news.length = m * size) (h1 : ∀ u ∈ news, u.oneCell' = true)
    (h63 : n + m ≤ maxLen) (hbytes : (n + m) * bytes ≤ 140737488355328) (hbase : base ≤ w.heap.size)
    (h : ∀ v' w', w'.ownsRow base e size v' (n + m) (xs ++ news) → w.grownBy w' v.ownBlock → K (a.put o.dst v') w') :
    if Region.wanted o (yielded ops a.tmps) = true then Oper.wp P o a w K Q else E := by
  have hw : Region.wanted o (yielded ops a.tmps) = true := by simp [Region.wanted, hgd]
  rw [if_pos hw]
  rcases A with _ | ad
  · have hn : news = [] := by
      rcases Nat.eq_zero_or_pos news.length with h0 | h0
      · exact List.eq_nil_of_length_eq_zero h0
      · obtain ⟨b, off, hh, _⟩ := hr h0
        cases hh
    subst hn
    have hm : m = 0 := by
      rcases Nat.eq_zero_or_pos m with h0 | h0
      · exact h0
      · have := Nat.mul_pos h0 hsz; simp at hl; omega
    subst hm
    have hrun := run_append_nil (P := P) (w := w) base t o.type e i size ht hi v n xs hown c
    have hgo := h v w (by simpa using hown) ⟨rfl, rfl, rfl, Nat.le_refl _, fun _ _ _ => rfl⟩
    unfold Oper.wp
    simp [execOp, ho, resolve, invoke, builtin, hs, hx, hrun, Result.andThen]
    exact hgo
  · refine wp_append_own w s x t ho base e i z size bytes ht hi hz hsize hby hzs hsz v n xs hs hown ad m c news hx hl ?_ h1 h63 hbytes hbase fun v' w' a1 a2 _ => h v' w' a1 a2
    intro j u hu
    obtain ⟨b, off, hh, _, hc⟩ := hr (by rcases Nat.lt_or_ge j news.length with hj | hj; omega; rw [List.getElem?_eq_none hj] at hu; cases hu)
    cases hh
    rw [Go.WideShapes.add_plain]
    exact hc j u hu

theorem keepS {w w4 u : World} {b : Bk} (h : Below w4.heap.size w4 u) (hlt : w.heap.size < w4.heap.size) (x0 : w4.cell? ⟨w.heap.size, 0, none⟩ = some (.int .i64 b.id)) (x1 : w4.cell? ⟨w.heap.size, 1, none⟩ = some (.int .i64 b.node))
    (x2 : w4.cell? ⟨w.heap.size, 2, none⟩ = some (.int .i64 b.lo)) (x3 : w4.cell? ⟨w.heap.size, 3, none⟩ = some (.int .i64 b.hi)) :
    u.cell? ⟨w.heap.size, 0, none⟩ = some (.int .i64 b.id) ∧ u.cell? ⟨w.heap.size, 1, none⟩ = some (.int .i64 b.node) ∧ u.cell? ⟨w.heap.size, 2, none⟩ = some (.int .i64 b.lo) ∧ u.cell? ⟨w.heap.size, 3, none⟩ = some (.int .i64 b.hi) :=
  ⟨(h.cell hlt).trans x0, (h.cell hlt).trans x1, (h.cell hlt).trans x2, (h.cell hlt).trans x3⟩

/-- The empty literal's row in the three worlds in which the first append may come up. -/
theorem own_e1 (w4 : World) : (w4.alloc (Obj.cells #[] 24)).drew.ownsRow w4.heap.size 24 4 (.slice (some ⟨w4.heap.size, 0, none⟩) 0 0) 0 [] :=
  World.ownsRow_lit w4 #[] 0 (Nat.le_refl _) (by unfold maxLen; omega) rfl
theorem own_e2 (w4 : World) (b : Bk) : ((w4.alloc (Obj.cells #[] 24)).alloc (Obj.cells #[Value.int IntKind.i64 b.id, Value.int IntKind.i64 b.node, Value.int IntKind.i64 b.lo, Value.int IntKind.i64 b.hi] 24)).drew.ownsRow w4.heap.size 24 4 (.slice (some ⟨w4.heap.size, 0, none⟩) 0 0) 0 [] :=
  World.ownsRow.alloc (World.ownsRow_lit w4 #[] 0 (Nat.le_refl _) (by unfold maxLen; omega) rfl) _
theorem own_e3 (w4 : World) (b : Bk) : ((w4.alloc (Obj.cells #[Value.int IntKind.i64 b.id, Value.int IntKind.i64 b.node, Value.int IntKind.i64 b.lo, Value.int IntKind.i64 b.hi] 24)).alloc (Obj.cells #[] 24)).drew.ownsRow w4.heap.size 24 4 (.slice (some ⟨w4.heap.size + 1, 0, none⟩) 0 0) 0 [] := by
  have h := World.ownsRow_lit (base := w4.heap.size) (e := 24) (size := 4) (w4.alloc (Obj.cells #[Value.int IntKind.i64 b.id, Value.int IntKind.i64 b.node, Value.int IntKind.i64 b.lo, Value.int IntKind.i64 b.hi] 24)) #[] 0 (by simp) (by unfold maxLen; omega) rfl
  rw [World.size_alloc] at h
  exact h
theorem row_b2 (w4 : World) (b : Bk) : Row ((w4.alloc (Obj.cells #[] 24)).alloc (Obj.cells #[Value.int IntKind.i64 b.id, Value.int IntKind.i64 b.node, Value.int IntKind.i64 b.lo, Value.int IntKind.i64 b.hi] 24)).drew (w4.heap.size + 2) (some ⟨w4.heap.size + 1, 0, none⟩) (flat [b]) := by
  have h := Row.lit (w4.alloc (Obj.cells #[] 24)) #[Value.int IntKind.i64 b.id, Value.int IntKind.i64 b.node, Value.int IntKind.i64 b.lo, Value.int IntKind.i64 b.hi] 24
  rw [World.size_alloc] at h
  exact h
theorem row_b3 (w4 : World) (b : Bk) : Row ((w4.alloc (Obj.cells #[Value.int IntKind.i64 b.id, Value.int IntKind.i64 b.node, Value.int IntKind.i64 b.lo, Value.int IntKind.i64 b.hi] 24)).alloc (Obj.cells #[] 24)).drew (w4.heap.size + 1) (some ⟨w4.heap.size, 0, none⟩) (flat [b]) := by
  have h := Row.lit w4 #[Value.int IntKind.i64 b.id, Value.int IntKind.i64 b.node, Value.int IntKind.i64 b.lo, Value.int IntKind.i64 b.hi] 24
  exact h.keep fun p hp => World.cell?_alloc_lt _ _ p (by simp; omega)
/-- A row is kept by what writes to another block alone. -/
theorem Row.far {w w' : World} {n off : Nat} {B : Nat} {vs : List Value} {row : Option Nat} (h : Row w B (some ⟨n, off, none⟩) vs) (hg : w.grownBy w' row) (hn : n < w.heap.size) (hne : some n ≠ row) : Row w' (n + 1) (some ⟨n, off, none⟩) vs := fun hp => by
  obtain ⟨b, o, e, _, hc⟩ := h hp
  cases e
  exact ⟨n, off, rfl, by omega, fun j u hu => (World.cell?_of_block (w := w) (hg.block n hn hne)).trans (hc j u hu)⟩
theorem cat_bk {w : World} {base : Nat} {v : Value} {l m : List Bk} {b : Bk} (hm : Hid (m = l ++ [b])) (h : w.ownsRow base 24 4 v (0 + l.length + 1) ([] ++ flat l ++ flat [b])) :
    ∃ A c, v = .slice A m.length c ∧ Row w w.heap.size A (flat m) := by
  have hm := hm.out
  subst hm
  have h2 : w.ownsRow base 24 4 v (l ++ [b]).length (flat (l ++ [b])) := by
    rw [List.length_append, flat_append]; simpa using h
  obtain ⟨A, c, rfl⟩ := own_form h2
  exact ⟨A, c, rfl, Row.of_own h2⟩

set_option maxHeartbeats 8000000 in
theorem adds_walk (A : Option Addr) (cap : Nat) (l : List Bk) (nodes : Int) (b : Bk) (w : World) (hr : Row w w.heap.size A (flat l)) (hcap : l.length ≤ cap) (hlen : l.length ≤ 9223372036854775807) :
    Calls Try.prog 3 #[.slice A l.length cap, .int .i64 nodes, b.val] w fun e w' => e = .returned (.bool true) ∧ Below w.heap.size w w' := by
  have bx := boxed_new w b
  have hba : Below w.heap.size w (w.alloc (Obj.cells #[Value.int IntKind.i64 b.id, Value.int IntKind.i64 b.node, Value.int IntKind.i64 b.lo, Value.int IntKind.i64 b.hi] 24)) := (Below.refl _ _).alloc (Nat.le_refl _) _
  by_cases hbig : 40 < l.length
  · go_enter Try.func3, Try.ntmps3
    go_wp2_with (go_at_call 5; refine (awake_any _).mono ?_; rintro e w1 ⟨rfl, hb1⟩)
    go_ret
    exact ⟨rfl, hba.trans (hb1.mono (by simp))⟩
  by_cases he : errZ l nodes b = 0
  rotate_left
  · have q1 : (errZ l nodes b != errZ l nodes b) = false := by simp
    have q2 : (errZ l nodes b != 0) = true := by simpa using he
    have HE := Lib.hid he
    clear he
    go_enter Try.func3, Try.ntmps3
    go_wp2_with fail
    refine (awake_any _).mono ?_
    rintro e w1 ⟨rfl, hb1⟩
    have z1 := hb1.size
    rw [World.size_alloc] at z1
    have hW1 : Below w.heap.size w w1 := hba.trans (hb1.mono (by simp))
    have bx1 := bx.later hb1 (by simp)
    obtain ⟨x0, x1, x2, x3⟩ := bx1
    go_wp2_with fail
    refine (add_err _ _ _ l nodes b _ (by exact hr.below hW1) (by omega) (by omega) hcap HE.out).mono ?_
    rintro e w2 ⟨A2, c2, rfl, hc2, r2, hb2⟩
    have z2 := hb2.size
    have hW2 : Below w.heap.size w w2 := hW1.trans (hb2.mono (by omega))
    have bx2 := Boxed.later (w := w) (b := b) ⟨x0, x1, x2, x3⟩ hb2 (by omega)
    clear x0 x1 x2 x3
    obtain ⟨x0, x1, x2, x3⟩ := bx2
    go_wp2_with fail
    refine (radd_any _ _ _ l nodes b _ (by exact hr.below hW2) (by omega) (by omega) hcap).mono ?_
    rintro e w3 ⟨rfl, hb3⟩
    go_wp2
    go_ret
    exact ⟨rfl, hW2.trans (hb3.mono (by omega))⟩
  obtain ⟨h1, h2, h3, h4, h5⟩ := err_cases l nodes b he
  have hra := right_added he
  have hrb := rightB_yes hra
  have q1 : ((0 : Int) != 0) = false := by simp
  obtain ⟨m, hm⟩ : ∃ m, m = l ++ [b] := ⟨_, rfl⟩
  have HM := Lib.hid hm
  have hml : m.length ≤ 1000 := by rw [hm]; simp; omega
  rw [← hm] at hrb
  have s1 := sameL_refl m
  have s2 := sameL_refl l
  have hdrop : Hid (∃ hk : l.length < m.length, m[l.length].id = b.id ∧ (∀ j (a : j < m.length), j < l.length → m[j].id ≠ b.id) ∧ m.take l.length ++ m.drop (l.length + 1) = l) := by
    subst hm
    refine ⟨by simp, by simp, fun j a hj e => h4 ⟨j, hj, ?_⟩, by simp⟩
    rw [List.getElem_append_left hj] at e
    omega
  have HE := Lib.hid he
  have H4 := Lib.hid h4
  clear he hm hra h4
  obtain ⟨hk, hki, hkb, hkl⟩ := hdrop.out
  have HKI := Lib.hid hki
  have HKB := Lib.hid hkb
  have HKL := Lib.hid hkl
  clear hki hkb hkl
  obtain ⟨i0, hi0, hz0, hz1, hz2⟩ := info_parts info24
  have hfl : Hid ((flat l).length = l.length * 4) := by show _ = _; rw [flat_len]; omega
  go_enter Try.func3, Try.ntmps3
  go_wp2_with fail
  refine (awake_any _).mono ?_
  rintro e w1 ⟨rfl, hb1⟩
  have z1 := hb1.size
  rw [World.size_alloc] at z1
  have hW1 : Below w.heap.size w w1 := hba.trans (hb1.mono (by simp))
  have bx1 := bx.later hb1 (by simp)
  obtain ⟨x0, x1, x2, x3⟩ := bx1
  go_wp2_with fail
  refine (add_ok _ _ _ l nodes b _ (by exact hr.below hW1) (by omega) (by omega) hcap h1 h2 h3 H4.out h5).mono ?_
  rw [← HM.out]
  rintro e w2 ⟨A2, c2, rfl, hc2, r2, hb2⟩
  have z2 := hb2.size
  have hW2 : Below w.heap.size w w2 := hW1.trans (hb2.mono (by omega))
  have bx2 := Boxed.later (w := w) (b := b) ⟨x0, x1, x2, x3⟩ hb2 (by omega)
  clear x0 x1 x2 x3
  obtain ⟨x0, x1, x2, x3⟩ := bx2
  go_wp2_with fail
  refine (radd_any _ _ _ l nodes b _ (by exact hr.below hW2) (by omega) (by omega) hcap).mono ?_
  rw [HE.out]
  rintro e w3 ⟨rfl, hb3⟩
  have z3 := hb3.size
  have hW3 : Below w.heap.size w w3 := hW2.trans (hb3.mono (by omega))
  have bx3 := Boxed.later (w := w) (b := b) ⟨x0, x1, x2, x3⟩ hb3 (by omega)
  have rm3 := r2.below hb3
  clear x0 x1 x2 x3
  obtain ⟨x0, x1, x2, x3⟩ := bx3
  go_wp2_with fail
  refine (drop_hit _ _ _ m b.id _ (by exact rm3) (by omega) hml hc2 l.length hk HKI.out HKB).mono ?_
  rw [HKL.out]
  rintro e w4 ⟨A4, c4, rfl, hc4, rl4, hb4⟩
  have z4 := hb4.size
  have hW4 : Below w.heap.size w w4 := hW3.trans (hb4.mono (by omega))
  have bx4 := Boxed.later (w := w) (b := b) ⟨x0, x1, x2, x3⟩ hb4 (by omega)
  have rm4 := (rm3.more z3).below hb4
  clear x0 x1 x2 x3
  obtain ⟨x0, x1, x2, x3⟩ := bx4
  have hlt4 : w.heap.size < w4.heap.size := by omega
  go_wp2_with fail
  go_region_held3 (fun u => u.cell? ⟨w.heap.size, 0, none⟩ = some (.int .i64 b.id) ∧ u.cell? ⟨w.heap.size, 1, none⟩ = some (.int .i64 b.node) ∧ u.cell? ⟨w.heap.size, 2, none⟩ = some (.int .i64 b.lo) ∧ u.cell? ⟨w.heap.size, 3, none⟩ = some (.int .i64 b.hi))
    (first | exact keepS hb49 hlt4 x0 x1 x2 x3 | exact keepS hb48 hlt4 x0 x1 x2 x3 | exact keepS hb47 hlt4 x0 x1 x2 x3 | exact keepS hb6 hlt4 x0 x1 x2 x3 | exact keepS (hb5.alloc hb5.size _) hlt4 x0 x1 x2 x3 | exact keepS hb5 hlt4 x0 x1 x2 x3 | go_keep)
    (first | (refine step_append_row (by rfl) (.tmp 42) (.tmp 43) 22 (by rfl) w4.heap.size 24 i0 _ 4 32 Try.underlying22 hi0 hz0 hz1 hz2 rfl (by decide) (.slice (some ⟨w4.heap.size, 0, none⟩) 0 0) 0 [] (by rfl) (own_e1 w4) w.heap.size A l.length cap (flat l) (by rfl) (hr.below ((hW4.alloc (by omega) _).drew)) hfl.out (one_flat _) (by unfold maxLen; omega) (by omega) (by first | (simp; done) | (simp; omega) | omega) ?_; intro v5 w5 ho5 hg5; have hb5 : Below w4.heap.size w4 w5 := (((Below.refl w4.heap.size w4).alloc (Nat.le_refl _) _).drew).grown hg5 (by first | (simp; done) | (simp; omega) | omega) (fun k hk => ((own_e1 w4).lt k hk).1); have tok1 : True := trivial; clear hg5) | (refine step_append_row (by rfl) (.tmp 42) (.tmp 43) 22 (by rfl) w4.heap.size 24 i0 _ 4 32 Try.underlying22 hi0 hz0 hz1 hz2 rfl (by decide) (.slice (some ⟨w4.heap.size, 0, none⟩) 0 0) 0 [] (by rfl) (own_e2 w4 b) w.heap.size A l.length cap (flat l) (by rfl) (hr.below (((hW4.alloc (by omega) _).alloc (by first | (simp; done) | (simp; omega) | omega) _).drew)) hfl.out (one_flat _) (by unfold maxLen; omega) (by omega) (by first | (simp; done) | (simp; omega) | omega) ?_; intro v5 w5 ho5 hg5; have hb5 : Below w4.heap.size w4 w5 := ((((Below.refl w4.heap.size w4).alloc (Nat.le_refl _) _).alloc (by simp) _).drew).grown hg5 (by first | (simp; done) | (simp; omega) | omega) (fun k hk => ((own_e2 w4 b).lt k hk).1); have rb := (row_b2 w4 b).far hg5 (by first | (simp; done) | (simp; omega)) (by simp [Value.ownBlock]); clear hg5) | (refine step_append_row (by rfl) (.tmp 42) (.tmp 43) 22 (by rfl) w4.heap.size 24 i0 _ 4 32 Try.underlying22 hi0 hz0 hz1 hz2 rfl (by decide) (.slice (some ⟨w4.heap.size + 1, 0, none⟩) 0 0) 0 [] (by rfl) (own_e3 w4 b) w.heap.size A l.length cap (flat l) (by rfl) (hr.below (((hW4.alloc (by omega) _).alloc (by first | (simp; done) | (simp; omega) | omega) _).drew)) hfl.out (one_flat _) (by unfold maxLen; omega) (by omega) (by first | (simp; done) | (simp; omega) | omega) ?_; intro v5 w5 ho5 hg5; have hb5 : Below w4.heap.size w4 w5 := ((((Below.refl w4.heap.size w4).alloc (Nat.le_refl _) _).alloc (by simp) _).drew).grown hg5 (by first | (simp; done) | (simp; omega) | omega) (fun k hk => ((own_e3 w4 b).lt k hk).1); have rb := (row_b3 w4 b).far hg5 (by first | (simp; done) | (simp; omega) | omega) (by simp [Value.ownBlock]); clear hg5) | (refine step_append_row (by rfl) (.tmp 44) (.tmp 46) 22 (by rfl) w4.heap.size 24 i0 _ 4 32 Try.underlying22 hi0 hz0 hz1 hz2 rfl (by decide) v5 (0 + l.length) ([] ++ flat l) (by rfl) (ho5.alloc _) (w5.heap.size + 1) (some ⟨w5.heap.size, 0, none⟩) 1 1 (flat [b]) (by rfl) (Row.lit w5 #[Value.int IntKind.i64 b.id, Value.int IntKind.i64 b.node, Value.int IntKind.i64 b.lo, Value.int IntKind.i64 b.hi] 24) rfl (one_flat _) (by unfold maxLen; omega) (by omega) (by have := hb5.size; first | (simp; done) | (simp; omega) | omega) ?_; intro v6 w6 ho6 hg6; have hb6 : Below w4.heap.size w4 w6 := (hb5.alloc hb5.size _).grown hg6 (by have := hb5.size; first | (simp; done) | (simp; omega) | omega) (fun k hk => (ho5.lt k hk).1); obtain ⟨A6, c6, rfl, r6⟩ := cat_bk HM ho6; clear hg6 ho6 ho5) | (refine step_append_row (by rfl) (.tmp 44) (.tmp 46) 22 (by rfl) w4.heap.size 24 i0 _ 4 32 Try.underlying22 hi0 hz0 hz1 hz2 rfl (by decide) v5 (0 + l.length) ([] ++ flat l) (by rfl) (ho5) _ (some ⟨w4.heap.size + 1, 0, none⟩) 1 1 (flat [b]) (by rfl) (rb) rfl (one_flat _) (by unfold maxLen; omega) (by omega) (hb5.size) ?_; intro v6 w6 ho6 hg6; have hb6 : Below w4.heap.size w4 w6 := (hb5).grown hg6 (hb5.size) (fun k hk => (ho5.lt k hk).1); obtain ⟨A6, c6, rfl, r6⟩ := cat_bk HM ho6; clear hg6 ho6 ho5) | (refine step_append_row (by rfl) (.tmp 44) (.tmp 46) 22 (by rfl) w4.heap.size 24 i0 _ 4 32 Try.underlying22 hi0 hz0 hz1 hz2 rfl (by decide) v5 (0 + l.length) ([] ++ flat l) (by rfl) (ho5) _ (some ⟨w4.heap.size, 0, none⟩) 1 1 (flat [b]) (by rfl) (rb) rfl (one_flat _) (by unfold maxLen; omega) (by omega) (hb5.size) ?_; intro v6 w6 ho6 hg6; have hb6 : Below w4.heap.size w4 w6 := (hb5).grown hg6 (hb5.size) (fun k hk => (ho5.lt k hk).1); obtain ⟨A6, c6, rfl, r6⟩ := cat_bk HM ho6; clear hg6 ho6 ho5) | (go_at_call_of 9 (Value.slice A2 m.length c2); refine (same_any A2 A6 c2 c6 _ _ m m _ (by exact (rm4.more (by omega)).below hb6) (by exact r6) (by omega) (by have := hb6.size; omega) (by omega)).mono ?_; rintro e w7 ⟨rfl, hb7⟩; have hb47 : Below w4.heap.size w4 w7 := hb6.trans (hb7.mono hb6.size)) | (go_at_call 10; refine (right_any A2 c2 _ m nodes _ (by exact (rm4.more (by omega)).below hb47) (by have := hb47.size; omega) hml hc2).mono ?_; rintro e w8 ⟨rfl, hb8⟩; have hb48 : Below w4.heap.size w4 w8 := hb47.trans (hb8.mono hb47.size)) | (go_at_call_of 9 (Value.slice A4 l.length c4); refine (same_any A4 A c4 cap _ _ l l _ (by exact rl4.below hb48) (by exact hr.below (hW4.trans (hb48.mono (by omega)))) (by omega) (by have := hb48.size; omega) (by have := hb48.size; omega)).mono ?_; rintro e w9 ⟨rfl, hb9⟩; have hb49 : Below w4.heap.size w4 w9 := hb48.trans (hb9.mono hb48.size)))
  all_goals
    go_wp2
    go_ret
    exact ⟨rfl, hW4.trans (hb49.mono (by omega))⟩

theorem struct24 : Try.prog.cellsOf 24 = 4 := by kernel_rfl
namespace bookAdds
theorem walk {H : Type} (enc : TypeId × Value → H) (W : World) (base : Nat) (v0 v1 v2 : Value) {d0 d1 d2 : DataW H} {p0 p1 p2 : List MemPlace} (o0 : Value.okWide Try.prog W .any base 22 v0) (h0 : DataW.Trod enc Try.prog W 0 (fun _ => true) true 22 v0 d0 p0) (o1 : Value.okWide Try.prog W .any base 3 v1) (h1 : DataW.Trod enc Try.prog W 0 (fun _ => true) true 3 v1 d1 p1) (o2 : Value.okWide Try.prog W .any base 24 v2) (h2 : DataW.Trod enc Try.prog W 0 (fun _ => true) true 24 v2 d2 p2) :
    Calls Try.prog 3 #[v0, v1, v2] W fun e w' => e = .returned (.bool true) ∧ Below W.heap.size W w' := by
  obtain ⟨A, cap, l, rfl, hr, hc, hn⟩ := open_bks o0 h0
  obtain ⟨nodes, rfl, _, _, _⟩ := open_int Try.underlying3 o1 h1
  obtain ⟨u0, u1, u2, u3, y0, y1, y2, y3, m, rfl, _, _, t0, t1, t2, t3⟩ := Go.Joins.open_agg4 Try.underlying24 (by kernel_rfl) struct24 o2 h2
  obtain ⟨x0, e0, _, _⟩ := DataW.trod_int Try.underlying3 t0
  obtain ⟨x1, e1, _, _⟩ := DataW.trod_int Try.underlying3 t1
  obtain ⟨x2, e2, _, _⟩ := DataW.trod_int Try.underlying3 t2
  obtain ⟨x3, e3, _, _⟩ := DataW.trod_int Try.underlying3 t3
  simp at e0 e1 e2 e3
  subst e0 e1 e2 e3
  exact adds_walk A cap l nodes ⟨x0, x1, x2, x3⟩ W hr hc hn
end bookAdds
end Go.Proofs.Ytdnhgmkcfoojdaa
