/-
  Proved: for every batch of calls the law GroupOrder returns true (each request stands once in the order; two that concern one job stand as they stood), and the argument reads afterwards as before. Condition: the listed table of package alter holds what the program's text lays (tied by the card).
-/
import Derived.Test.YtknmgcjhfleloaaDoorLawG
import Derived.Test.YtknmgcjhfleloaaDoorArgs
import Derived.Test.YtknmgcjhfleloaaDoorTie
import Derived.Test.YtknmgcjhfleloaaDoorCards
import Derived.ProofKit
import Derived.LaidMore
import Derived.OpenShut
import Derived.Stop.Joined
import Derived.SevenTiedAt
namespace Go.Proofs.YtknmgcjhfleloaaDoor.groupOrder
open Go Go.ChangeShapes Go.WideShapes Go.ChangeAt Go.RowKit
set_option linter.unusedVariables false

theorem own : ownKnob Tryd.prog.godebug = none := by kernel_rfl
theorem laidOut : laidOutB Tryd.prog = true := by kernel_rfl
theorem gTab : Tryd.prog.globalNamed "drayage/alter.changes" = some 0 := by kernel_rfl
theorem tTab : (Tryd.prog.globals[0]?).map (·.type) = some 44 := by kernel_rfl
def laid1 : List (String × DataW Unit) := [("drayage/alter.changes", Rows.laid_drayage_alter_changes)]
/-- The door's own heap meets the condition. -/
theorem door_met (os : Os) (args : Array Value) : laidMetH Tryd.prog laid1 ((World.doorLaid Tryd.prog 400 os).forCall (fun _ _ => 0) ⟨#[], args, []⟩).memory :=
  laidMetH_of_parts3 (fuel := 8) (laidMet_of_run' 8 (by kernel_rfl) (by kernel_rfl)) (by kernel_rfl) (by kernel_rfl)
theorem read1 {H : Type} {enc : TypeId × Value → H} {W : World} {spare : Nat → Bool} {held : Bool} {n : Nat} {c : Value} {x : DataW H × List MemPlace} {k : Int} (h : DataW.trod enc Tryd.prog W 0 spare held n 3 [c] = some x) (hx : x.1 = .lit (.int .i64 k)) : c = .int .i64 k := by
  obtain ⟨y, e1, e2, _⟩ := DataW.trod_int Tryd.underlying3 h
  rw [e2] at hx
  simp at hx e1
  rw [e1, hx]
/-- What the condition gives the walk: the table's six cells. -/
theorem of_laid {W : World} (h : laidMetH Tryd.prog laid1 W) : Chg W := by
  rw [MakeChecks.laidMetH_plain _ _ _ (by kernel_rfl)] at h
  obtain ⟨ps, ⟨g0, t0, cs0, f0, p0, q0, hg0, ht0, hv0, hd0, _, _⟩, _, _⟩ := h
  obtain rfl := Option.some.inj (gTab.symm.trans hg0)
  obtain rfl := Option.some.inj (tTab.symm.trans ht0)
  have c3 : Tryd.prog.cellsOf 3 = 1 := by kernel_rfl
  have c44 : Tryd.prog.cellsOf 44 = 6 := by kernel_rfl
  obtain ⟨xs, m, _, hx, hlen, hn, hel⟩ := DataW.trod_array Tryd.underlying44 hd0
  have hc := World.var?_cell hg0 hv0
  obtain ⟨l0⟩ := cs0
  rw [c44] at hlen
  simp only [Prod.mk.injEq, Rows.laid_drayage_alter_changes, DataW.agg.injEq] at hx
  match xs, hn, hx, hel with
  | [x0, x1, x2, x3, x4, x5], _, hx, hel =>
    match l0, hlen, hel, hc with
    | [d0, d1, d2, d3, d4, d5], _, hel, hc =>
      simp only [List.map_cons, List.map_nil, List.cons.injEq] at hx
      obtain ⟨⟨e0, e1, e2, e3, e4, e5, _⟩, _⟩ := hx
      have r0 := hel 0 (by decide)
      have r1 := hel 1 (by decide)
      have r2 := hel 2 (by decide)
      have r3 := hel 3 (by decide)
      have r4 := hel 4 (by decide)
      have r5 := hel 5 (by decide)
      simp only [c3, List.drop, List.take, Nat.mul_one, List.getElem?_cons_zero, List.getElem?_cons_succ] at r0 r1 r2 r3 r4 r5
      have k0 := read1 r0 e0.symm
      have k1 := read1 r1 e1.symm
      have k2 := read1 r2 e2.symm
      have k3 := read1 r3 e3.symm
      have k4 := read1 r4 e4.symm
      have k5 := read1 r5 e5.symm
      subst k0 k1 k2 k3 k4 k5
      have z := World.block_lt_of_cell? W ⟨0, 0, none⟩ (hc 0)
      exact ⟨z, hc 0, hc 1, hc 2, hc 3, hc 4, hc 5⟩

set_option maxRecDepth 100000 in
theorem lifted (os : Os) (started : os.Started) (H : Type) (enc : TypeId × Value → H) :
    ReturnsInHanded {} Tryd.checked os 4 .any (fun w args => (Rows.groupOrderSpec.pre enc Tryd.prog Tryd.f4 [] false w args ∧ laidMetH Tryd.prog laid1 w) ∧ sizedMet enc Tryd.prog Tryd.f4 (OpenSpec.ofChange Rows.groupOrderSpec) false w args)
      (Rows.groupOrderSpec.post enc Tryd.prog Tryd.f4 false true false false) := by
  refine returnsInHanded_of_change_and (C := Tryd.checked) (X := fun w _ => laidMetH Tryd.prog laid1 w) (fun _ _ _ hh h => h.of_heap hh) own started (by kernel_rfl) Tryd.func4
    (ChangeSpec.witness_shaped (enc := enc) (C := Tryd.checked) (os := os) (X := fun w _ => laidMetH Tryd.prog laid1 w) false (World.doorLaid Tryd.prog 400 os) #[.slice none 0 0] 8 rfl (World.shaped_of_RefB (by kernel_rfl) (by kernel_rfl)) (by kernel_rfl) (by kernel_rfl) (by kernel_rfl) (door_met os _)) ?_
  intro W base args ds gs before hval0 hW _ _ hL _
  have hval : ∀ (j : Nat) t v, Tryd.f4.params[j]? = some t → args[j]? = some v → Value.okWide Tryd.prog W .any base t v := hval0
  have hW' := hW
  obtain ⟨p, q, hA0, hV, rfl, hfz, hnd⟩ := hW
  have hA : DataW.TrodAll enc Tryd.prog W 0 (fun _ => true) true Tryd.f4.params.toList args.toList ds p := hA0
  rw [Tryd.params4] at hA hval
  obtain ⟨v0, vs0, d0, ds0, p0, q0, hargs, rfl, rfl, h0, r0⟩ := trodAll_cons hA
  obtain ⟨rfl, rfl, rfl⟩ := trodAll_nil r0
  obtain rfl : args = #[v0] := by cases args; simp_all
  obtain ⟨rfl, rfl⟩ := trodVars_none hV
  have lt0 : ∀ x ∈ p0, x.block < W.heap.size := by obtain ⟨m, hm⟩ := h0; exact DataW.trod_lt m _ _ _ hm
  obtain ⟨A, cap, l, hv, hr, hn, hwf⟩ := open_calls (hval 0 22 v0 rfl rfl) h0
  clear hA0 hval0
  have hwk := lawG_walk A cap l W hr hn (of_laid hL) hwf
  rw [← hv] at hwk
  refine hwk.mono fun e W' ⟨he, bel⟩ => ?_
  subst he
  exact ⟨_, rfl, _, _, _, [], _, [], hW', trodAll_mk1 (shut_bool Tryd.underlying4 _), (trodAll_cons_mk (Below.trod laidOut (by kernel_rfl) (of_decide_eq_true (by kernel_rfl)) h0 bel lt0) trodAll_mk0), rfl, bel.frame _, fun h => by cases h⟩

theorem over : Rows.GroupOrderSaid :=
  OpenClaim.holds_of_wide 4 Tryd.f4 rfl rfl rfl rfl rfl rfl rfl ⟨rfl, rfl, rfl, rfl, rfl⟩ rfl rfl rfl rfl rfl (by kernel_rfl) Tryd.func4 (by kernel_rfl)
    (of_decide_eq_true (by kernel_rfl)) (by unfold Func.isWrapper; first | (rw [if_pos (by decide +kernel)]; kernel_rfl) | (rw [if_neg (by decide +kernel)]; exact ⟨rfl, rfl⟩))
    (fun os started H enc _ => lifted os started H enc)

theorem proved : Rows.GroupOrderCardSaid :=
  Claim7.holds_tied_plain_at .later [] [.data] true (true, "38ba0b0e6a0237120cab34a58aab72c7fe8c01c0f0cb830530d2e993c9338e5e") false
    over (fun _ h => by cases h) (by kernel_rfl) (fun _ h => by cases h) groupOrder_row_tie rfl ⟨rfl, rfl⟩ (by kernel_rfl) rfl
    (fun f fn hf hfn => by
      obtain rfl : f = 4 := Option.some.inj ((show Tryd.prog.funcNamed "drayage/drayagelaw35.GroupOrder" = some 4 by kernel_rfl).symm.trans hf) |>.symm
      obtain rfl : fn = Tryd.f4 := (Option.some.inj (Tryd.func4.symm.trans hfn)).symm
      exact ⟨by kernel_rfl, fun j t ht => by
        rw [Tryd.params4] at ht
        have hm : t ∈ [22] := by simpa using Array.mem_of_getElem? ht
        have hall : ([22].all fun u => !Tryd.prog.wantsStandIn u) = true := by kernel_rfl
        exact (show Tryd.prog.wantsStandIn t = false by simpa using List.all_eq_true.1 hall t hm)⟩)
    (by kernel_rfl)
#print axioms proved
end Go.Proofs.YtknmgcjhfleloaaDoor.groupOrder
