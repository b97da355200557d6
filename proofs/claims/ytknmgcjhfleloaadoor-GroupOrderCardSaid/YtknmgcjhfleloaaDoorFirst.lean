/-
  Contracts of the reference's ahead and first.
-/
import Derived.Test.YtknmgcjhfleloaaDoorData
import Derived.Laws.Cells
namespace Go.Proofs.YtknmgcjhfleloaaDoor
open Go.RowKit Go.BigFrame
set_option linter.unusedVariables false

/-- From place o of block p on a request lies. -/
def ReqAt (p o : Nat) (b : Cl) (u : World) : Prop :=
  u.cell? ⟨p, o, none⟩ = some (.int .i64 b.k) ∧ u.cell? ⟨p, o + 1, none⟩ = some (.int .i64 b.y) ∧ u.cell? ⟨p, o + 2, none⟩ = some (.int .i64 b.j) ∧ u.cell? ⟨p, o + 3, none⟩ = some (.int .i64 b.v) ∧ u.cell? ⟨p, o + 4, none⟩ = some (.int .i64 b.q) ∧ u.cell? ⟨p, o + 5, none⟩ = some (.int .i64 b.m) ∧ u.cell? ⟨p, o + 6, none⟩ = some (.int .i64 b.nc) ∧ u.cell? ⟨p, o + 7, none⟩ = some (.int .i64 b.nm) ∧ u.cell? ⟨p, o + 8, none⟩ = some (.int .i64 b.ng) ∧ u.cell? ⟨p, o + 9, none⟩ = some (.int .i64 b.nl) ∧ u.cell? ⟨p, o + 10, none⟩ = some (.int .i64 b.wl) ∧ u.cell? ⟨p, o + 11, none⟩ = some (.int .i64 b.ts) ∧ u.cell? ⟨p, o + 12, none⟩ = some (.slice b.fa b.fn b.fc) ∧ u.cell? ⟨p, o + 13, none⟩ = some (.int .i64 b.nd) ∧ u.cell? ⟨p, o + 14, none⟩ = some (.int .i64 b.fr) ∧ u.cell? ⟨p, o + 15, none⟩ = some (.int .i64 b.to) ∧ u.cell? ⟨p, o + 16, none⟩ = some (.int .i64 b.id)
theorem CallAt.req {p o : Nat} {b : Cl} {u : World} (h : CallAt p o b u) : ReqAt p (o + 1) b u := by
  obtain ⟨h0, h1, h2, h3, h4, h5, h6, h7, h8, h9, h10, h11, h12, h13, h14, h15, h16, h17⟩ := h
  exact ⟨h1, h2, h3, h4, h5, h6, h7, h8, h9, h10, h11, h12, h13, h14, h15, h16, h17⟩
theorem ReqAt.later {p o : Nat} {b : Cl} {u v : World} {B : Nat} (h : ReqAt p o b u) (hb : Below B u v) (hp : p < B) : ReqAt p o b v := by
  obtain ⟨h1, h2, h3, h4, h5, h6, h7, h8, h9, h10, h11, h12, h13, h14, h15, h16, h17⟩ := h
  exact ⟨(hb.cell hp).trans h1, (hb.cell hp).trans h2, (hb.cell hp).trans h3, (hb.cell hp).trans h4, (hb.cell hp).trans h5, (hb.cell hp).trans h6, (hb.cell hp).trans h7, (hb.cell hp).trans h8, (hb.cell hp).trans h9, (hb.cell hp).trans h10, (hb.cell hp).trans h11, (hb.cell hp).trans h12, (hb.cell hp).trans h13, (hb.cell hp).trans h14, (hb.cell hp).trans h15, (hb.cell hp).trans h16, (hb.cell hp).trans h17⟩
theorem Later.req {w : World} {p o : Nat} {b : Cl} (h : ReqAt p o b w) (hp : p < w.heap.size) (u : Later w) : ReqAt p o b u.val := h.later u.property hp
theorem Later.size {w : World} (u : Later w) : w.heap.size ≤ u.val.heap.size := u.property.size

theorem rconc_is {b : Cl} {v : Bool} (h : concB b.k = v) (w : World) : Calls Tryd.prog 13 #[b.req] w fun e w' => e = .returned (.bool v) ∧ Below w.heap.size w w' := h ▸ rconc_any b w
theorem rsuch_is {b : Cl} {v : Bool} (h : suchB b.k = v) (w : World) : Calls Tryd.prog 14 #[b.req] w fun e w' => e = .returned (.bool v) ∧ Below w.heap.size w w' := h ▸ rsuch_any b w

/-! A request, and a call, read as a whole in one step. -/
section
variable {P : Program}
theorem run_loadVar_at (w : World) (ad : Addr) (ty : TypeId) (cs : List Value) (d : TypeDesc) (hu : P.underlying ty = some d) (hd : (match d with | .struct _ | .array _ _ => true | _ => false) = true)
    (hi : (P.info? ty).map (·.size) = some cs.length) (hc : ∀ j v, cs[j]? = some v → w.cell? (ad.add j) = some v) : (loadVar ty ad).run P w = .ok (.agg cs.toArray) w := by
  have hl : (loadCells ad cs.length).run P w = .ok cs.toArray w := run_loadCells_list (P := P) w ad cs hc
  cases hq : P.info? ty with
  | none => simp [hq] at hi
  | some i =>
    have hs : i.size = cs.length := by simpa [hq] using hi
    have hagg : (isAgg ty).run P w = .ok true w := by
      unfold isAgg
      rw [Sem.run_bind, run_underlying hu w]
      cases d <;> simp_all
    simp [loadVar, Sem.run_bind, hagg, sizeOf, typeInfo, hq, hs, hl]
end
theorem info33 : (Tryd.prog.info? 33).map (·.size) = some 17 := by kernel_rfl
theorem info35 : (Tryd.prog.info? 35).map (·.size) = some 18 := by kernel_rfl
theorem ld_req {p o : Nat} {b : Cl} {w : World} (h : ReqAt p o b w) : (loadVar 33 ⟨p, o, none⟩).run Tryd.prog w = .ok b.req w := by
  exact run_loadVar_at (P := Tryd.prog) w ⟨p, o, none⟩ 33 b.cs.tail _ Tryd.underlying33 rfl info33 (fun j v hv => by
    rw [Go.WideShapes.add_plain]
    obtain ⟨h1, h2, h3, h4, h5, h6, h7, h8, h9, h10, h11, h12, h13, h14, h15, h16, h17⟩ := h
    have hj : j < 17 := by
      rcases Nat.lt_or_ge j 17 with hh | hh
      · exact hh
      · rw [List.getElem?_eq_none (by exact hh)] at hv; cases hv
    match j, hj, hv with
    | 0, _, hv => cases hv; exact h1
    | 1, _, hv => cases hv; exact h2
    | 2, _, hv => cases hv; exact h3
    | 3, _, hv => cases hv; exact h4
    | 4, _, hv => cases hv; exact h5
    | 5, _, hv => cases hv; exact h6
    | 6, _, hv => cases hv; exact h7
    | 7, _, hv => cases hv; exact h8
    | 8, _, hv => cases hv; exact h9
    | 9, _, hv => cases hv; exact h10
    | 10, _, hv => cases hv; exact h11
    | 11, _, hv => cases hv; exact h12
    | 12, _, hv => cases hv; exact h13
    | 13, _, hv => cases hv; exact h14
    | 14, _, hv => cases hv; exact h15
    | 15, _, hv => cases hv; exact h16
    | 16, _, hv => cases hv; exact h17)
theorem wpList_load33 {ops : Array Oper} {rest : List Oper} {op : Oper} {a : Act} {w : World} {Q : Exit → Act → World → Prop} (hw : Region.wanted op (yielded ops a.tmps) = true) (x : Operand) (ho : op.op = .load 33 x)
    (p o : Nat) (hx : a.eval x = .pointer (some ⟨p, o, none⟩)) (b : Cl) (hc : ReqAt p o b w) (h : wpList Tryd.prog ops Q rest (a.put op.dst b.req) w) : wpList Tryd.prog ops Q (op :: rest) a w :=
  BigFrame.wpList_want hw fun K hK => by
    unfold Oper.wp execOp
    simp only [ho, hx, Instr.loadAt, Instr.sureAddr, Sem.run_bind, Sem.run_pure, Result.andThen_ok, ld_req hc]
    exact hK _ _ h
theorem quiet_load33 {o : Oper} {a : Act} {C : World → Prop} {K : Act → Prop} (x : Operand) (ho : o.op = .load 33 x) (p q : Nat) (hx : a.eval x = .pointer (some ⟨p, q, none⟩)) (b : Cl) (hC : ∀ w, C w → ReqAt p q b w)
    (hk : K (a.put o.dst b.req)) : o.quiet Tryd.prog a C K :=
  ⟨_, fun w hw => by
    unfold Oper.quietAt execOp
    simp only [ho, hx, Instr.loadAt, Instr.sureAddr, Sem.run_bind, Sem.run_pure, Result.andThen_ok, ld_req (hC w hw)]
    exact ⟨rfl, rfl⟩, hk⟩

def rqs (l : List Cl) : List Rq := l.map Cl.rq
theorem rq_at {l : List Cl} {k : Nat} (hk : k < l.length) : rq (rqs l) k = l[k].rq := by
  simp [rq, rqs, List.getD_eq_getElem?_getD, List.getElem?_eq_getElem hk]
def aheadI (l : List Cl) (J : Int) (n : Nat) : Int := match ahead (rqs l) J n with | some k => k | none => -1
theorem ahead_hit {l : List Cl} {J : Int} {p : Nat} (hp : p < l.length) (h1 : concB l[p].k = true) (h2 : l[p].j = J) : ahead (rqs l) J (p + 1) = some p :=
  ahead_succ_same (by rw [rq_at hp]; exact h1) (by rw [rq_at hp]; exact h2)
theorem ahead_miss {l : List Cl} {J : Int} {p : Nat} (hp : p < l.length) (h : ¬ (concB l[p].k = true ∧ l[p].j = J)) : ahead (rqs l) J (p + 1) = ahead (rqs l) J p :=
  ahead_succ_other (by rw [rq_at hp]; exact h)

set_option maxHeartbeats 4000000 in
theorem ahead_any (A : Option Addr) (cap B : Nat) (l : List Cl) (i : Nat) (w : World) (hr : Row w B A (flatC l)) (hB : B ≤ w.heap.size) (hn : l.length ≤ 1000) (hi : i < l.length) :
    Calls Tryd.prog 17 #[.slice A l.length cap, .int .i64 i] w fun e w' => e = .returned (.int .i64 (aheadI l l[i].j i)) ∧ Below w.heap.size w w' := by
  go_enter Tryd.func17, Tryd.ntmps17
  go_wp2
  go_loopw [5] (fun s wr => ∃ m : Nat, m ≤ i ∧ s = .int .i64 ((m : Int) - 1) ∧ Hid (ahead (rqs l) l[i].j i = ahead (rqs l) l[i].j m) ∧ Below w.heap.size w wr) (fun s _ => (intOf s + 1).toNat)
  case atStart => exact ⟨i, Nat.le_refl _, rfl, rfl, Below.refl _ _⟩
  case round =>
    obtain ⟨m, hm, rfl, hah, hbel⟩ := hrel
    cases m with
    | zero =>
      have HR : Hid (aheadI l l[i].j i = -1) := by show _ = _; unfold aheadI; rw [hah.out]; rfl
      go_wp2
      go_ret
      exact ⟨retInt HR.out.symm, hbel⟩
    | succ p =>
      have hp : p < l.length := by omega
      have hz := hbel.size
      have e1 : (((p + 1 : Nat) : Int) - 1) = (p : Int) := by omega
      rw [e1]
      clear e1
      obtain ⟨b, off, rfl, hb0, ca⟩ := ((hr.more hB).below hbel).call hp
      obtain ⟨b', off', e, _, ci⟩ := ((hr.more hB).below hbel).call hi
      cases e
      have hbw : b < wr.heap.size := by omega
      have rp := Later.req ca.req hbw
      have ri := Later.req ci.req hbw
      have RP := Lib.hid rp
      have RI := Lib.hid ri
      clear rp ri ca ci
      have RPC : Hid (∀ w', (∃ u : Later wr, w' = u.val) → ReqAt b (off + p * 18 + 1) l[p] w') := fun _ ⟨u, e⟩ => e ▸ RP.out u
      have p2 : ∀ u : Later wr, u.val.cell? ⟨b, off + p * 18 + 1 + 2, none⟩ = some (.int .i64 l[p].j) := fun u => (RP.out u).2.2.1
      have q2 : ∀ u : Later wr, u.val.cell? ⟨b, off + i * 18 + 1 + 2, none⟩ = some (.int .i64 l[i].j) := fun u => (RI.out u).2.2.1
      cases hcq : concB l[p].k
      · have HA := Lib.hid (ahead_miss (J := l[i].j) hp (by rw [hcq]; simp))
        go_wp2
        refine wp_region_later (by kernel_rfl) (by kernel_rfl) ?_
        repeat (first | (go_big_quiet_want; refine quiet_load33 (.tmp 15) rfl b (off + p * 18 + 1) rfl l[p] RPC.out ?_; go_big_quiet_on; simp only [Act.put, List.setIfInBounds_toArray, List.set_cons_succ, List.set_cons_zero]) | go_big_quiet_step ((go_at_call 13; exact later_of (rconc_is hcq _))))
        refine wpQuiet_nil ?_
        intro w1 hw1
        obtain ⟨⟨w1, hb1⟩, rfl⟩ := hw1
        go_wp2
        go_roundw
        case rel => exact ⟨p, by omega, by go_num, by show _ = _; rw [hah.out]; exact HA.out, hbel.trans (hb1.mono hz)⟩
        case measure => simp [intOf]
      · by_cases hj : l[p].j = l[i].j
        · have hj1 : (l[p].j == l[i].j) = true := by simp [hj]
          have HR : Hid (aheadI l l[i].j i = p) := by show _ = _; unfold aheadI; rw [hah.out, ahead_hit hp hcq hj]
          have HJ := Lib.hid hj
          clear hj
          go_wp2
          refine wp_region_later (by kernel_rfl) (by kernel_rfl) ?_
          repeat (first | (go_big_quiet_want; refine quiet_load33 (.tmp 15) rfl b (off + p * 18 + 1) rfl l[p] RPC.out ?_; go_big_quiet_on; simp only [Act.put, List.setIfInBounds_toArray, List.set_cons_succ, List.set_cons_zero]) | go_big_quiet_step ((go_at_call 13; exact later_of (rconc_is hcq _))))
          refine wpQuiet_nil ?_
          intro w1 hw1
          obtain ⟨⟨w1, hb1⟩, rfl⟩ := hw1
          go_wp2
          go_ret
          exact ⟨retInt HR.out.symm, hbel.trans (hb1.mono hz)⟩
        · have hj1 : (l[p].j == l[i].j) = false := by simp [hj]
          have HA := Lib.hid (ahead_miss (J := l[i].j) hp (fun h => hj h.2))
          go_wp2
          refine wp_region_later (by kernel_rfl) (by kernel_rfl) ?_
          repeat (first | (go_big_quiet_want; refine quiet_load33 (.tmp 15) rfl b (off + p * 18 + 1) rfl l[p] RPC.out ?_; go_big_quiet_on; simp only [Act.put, List.setIfInBounds_toArray, List.set_cons_succ, List.set_cons_zero]) | go_big_quiet_step ((go_at_call 13; exact later_of (rconc_is hcq _))))
          refine wpQuiet_nil ?_
          intro w1 hw1
          obtain ⟨⟨w1, hb1⟩, rfl⟩ := hw1
          go_wp2
          go_roundw
          case rel => exact ⟨p, by omega, by go_num, by show _ = _; rw [hah.out]; exact HA.out, hbel.trans (hb1.mono hz)⟩
          case measure => simp [intOf]

theorem prev_no {l : List Cl} {i : Nat} (hi : i < l.length) (h : suchB l[i].k = false) : prev (rqs l) i = none := by
  unfold prev; rw [rq_at hi, such_rq, h]; rfl
theorem prev_none {l : List Cl} {i : Nat} (hi : i < l.length) (h : suchB l[i].k = true) (ha : ahead (rqs l) l[i].j i = none) : prev (rqs l) i = none := by
  unfold prev; rw [rq_at hi, such_rq, h]; simp only [Cl.rq, ha]; rfl
theorem prev_some {l : List Cl} {i k : Nat} (hi : i < l.length) (hk : k < l.length) (h : suchB l[i].k = true) (ha : ahead (rqs l) l[i].j i = some k) : prev (rqs l) i = if suchB l[k].k then some k else none := by
  unfold prev; rw [rq_at hi, such_rq, h]; simp only [Cl.rq, ha, rq_at hk]; rfl

set_option maxHeartbeats 4000000 in
theorem first_any (A : Option Addr) (cap : Nat) (l : List Cl) (hn : l.length ≤ 1000) (i : Nat) : ∀ (w : World) (B : Nat) (hr : Row w B A (flatC l)) (hB : B ≤ w.heap.size) (hi : i < l.length),
    Calls Tryd.prog 16 #[.slice A l.length cap, .int .i64 i] w fun e w' => e = .returned (.int .i64 (first (rqs l) i : Nat)) ∧ Below w.heap.size w w' := by
  induction i using Nat.strongRecOn with
  | ind i ih =>
    intro w B hr hB hi
    have IH := Lib.hid ih
    clear ih
    obtain ⟨b, off, rfl, hb0, ca⟩ := hr.call hi
    cases hs : suchB l[i].k
    · have HF := Lib.hid (first_self (prev_no hi hs))
      go_enter Tryd.func16, Tryd.ntmps16
      go_wp2_with (refine wpList_load33 (by rfl) (.tmp 9) rfl b (off + i * 18 + 1) rfl l[i] ca.req ?_)
      refine (rsuch_is hs _).mono ?_
      rintro e w1 ⟨rfl, hb1⟩
      go_wp2
      go_ret
      exact ⟨retInt (by rw [HF.out]), hb1⟩
    go_enter Tryd.func16, Tryd.ntmps16
    go_wp2_with (refine wpList_load33 (by rfl) (.tmp 9) rfl b (off + i * 18 + 1) rfl l[i] ca.req ?_)
    refine (rsuch_is hs _).mono ?_
    rintro e w1 ⟨rfl, hb1⟩
    have z1 := hb1.size
    clear ca
    have r1 := (hr.more hB).below hb1
    go_wp2_with fail
    refine (ahead_any _ _ _ l i _ (by exact r1) z1 hn hi).mono ?_
    cases ha : ahead (rqs l) l[i].j i with
    | none =>
      have e1 : aheadI l l[i].j i = -1 := by unfold aheadI; rw [ha]
      rw [e1]
      have HF := Lib.hid (first_self (prev_none hi hs ha))
      clear e1 ha
      rintro e w2 ⟨rfl, hb2⟩
      go_wp2
      go_ret
      exact ⟨retInt (by rw [HF.out]), hb1.trans (hb2.mono z1)⟩
    | some k =>
      have e1 : aheadI l l[i].j i = k := by unfold aheadI; rw [ha]
      rw [e1]
      have hki := ahead_lt ha
      have hk : k < l.length := by omega
      have HP := Lib.hid (prev_some hi hk hs ha)
      clear e1 ha
      rintro e w2 ⟨rfl, hb2⟩
      have hb12 := hb1.trans (hb2.mono z1)
      have z2 := hb2.size
      obtain ⟨b', off', e, _, ca⟩ := ((hr.more hB).below hb12).call hk
      cases e
      go_wp2_with (refine wpList_load33 (by rfl) (.tmp 23) rfl b (off + k * 18 + 1) rfl l[k] ca.req ?_)
      cases hs2 : suchB l[k].k
      · have HF : Hid (first (rqs l) i = i) := first_self (by rw [HP.out, hs2]; rfl)
        refine (rsuch_is hs2 _).mono ?_
        rintro e w3 ⟨rfl, hb3⟩
        go_wp2
        go_ret
        exact ⟨retInt (by rw [HF.out]), hb12.trans (hb3.mono (by omega))⟩
      · have HF : Hid (first (rqs l) i = first (rqs l) k) := first_prev (by rw [HP.out, hs2]; rfl)
        refine (rsuch_is hs2 _).mono ?_
        rintro e w3 ⟨rfl, hb3⟩
        have hb13 := hb12.trans (hb3.mono (by omega))
        have z3 := hb3.size
        clear ca
        go_wp2_with fail
        refine (IH.out k hki _ _ (by exact (hr.more hB).below hb13) (by omega) hk).mono ?_
        rintro e w4 ⟨rfl, hb4⟩
        go_wp2
        go_ret
        exact ⟨retInt (by rw [HF.out]), hb13.trans (hb4.mono (by omega))⟩
end Go.Proofs.YtknmgcjhfleloaaDoor
