/-
  One chain of a slice of slices grows in place; a map that remembers an open chain for each job; a call stored whole. No walk.
-/
import Derived.Test.YtknmgcjhfleloaaDoorRchains
import Derived.Maps.OwnOps
import Derived.Maps.OwnSet
import Derived.Maps.Views
import Derived.Deep.MidRow
namespace Go.Proofs.YtknmgcjhfleloaaDoor
open Go.RowKit Go.BigFrame Go.Maps
set_option linter.unusedVariables false

section
variable {W w3 : World} {base g n cap : Nat} {ss : List Value} {cs : List (List Nat)}
theorem OwnG.put {a k : Nat} {v3 : Value} (hin : Inner W base ss cs) (hout : W.ownsRow base 27 1 (.slice (some ⟨g, 0, none⟩) cs.length cap) cs.length ss) (ha : a < cs.length) (hh : Heads cs) (hs : a < ss.length)
    (ho : w3.ownsRow base 3 1 v3 ((nth cs a).length + 1) (nvs (nth cs a) ++ [.int .i64 (k : Int)])) (hg : W.grownBy w3 ss[a].ownBlock) :
    OwnG (w3.setCell ⟨g, a, none⟩ v3) base (.slice (some ⟨g, 0, none⟩) cs.length cap) (cs.set a (nth cs a ++ [k])) := by
  have hout3 := row_beside hout (hin.2 a hs) hg
  obtain ⟨hst, hgr⟩ := hout3.stored a v3
  refine ⟨ss.set a v3, ⟨by simp [hin.1], fun i hi => ?_⟩, by simpa using hst⟩
  have hi' : i < ss.length := by simpa using hi
  rw [List.getElem_set]
  by_cases h : a = i
  · subst h
    rw [if_pos rfl, nth_set_eq ha, nvs_app, List.length_append]
    exact own_grown ho hgr fun q hq e => own_types ho hout3 (by decide) e hq
  · rw [if_neg h, nth_set_ne (Ne.symm h)]
    have hic : i < cs.length := by rw [← hin.1]; exact hi'
    have h1 : w3.ownsRow base 3 1 ss[i] (nth cs i).length (nvs (nth cs i)) := own_grown (hin.2 i hi') hg fun q hq e => by
      have n1 := hh.1 i hic
      have n2 := hh.1 a ha
      have n3 := hh.2 i a hic ha (Ne.symm h)
      rw [List.getElem?_eq_getElem n1, List.getElem?_eq_getElem n2] at n3
      exact own_heads (hin.2 i hi') (hin.2 a hs) (nvs_get n1) (nvs_get n2) (by intro e'; injection e' with _ e''; apply n3; congr 1; omega) e hq
    exact own_grown h1 hgr fun q hq e => own_types h1 hout3 (by decide) e hq
/-- A chain more, begun by a nil slice. -/
theorem OwnG.fresh {k : Nat} {v3 : Value} (hin : Inner W base ss cs) (hout : W.ownsRow base 27 1 (.slice (some ⟨g, 0, none⟩) (cs.length + 1) cap) (cs.length + 1) (ss ++ [.slice none 0 0]))
    (ho : w3.ownsRow base 3 1 v3 1 [.int .i64 (k : Int)]) (hg : W.grownBy w3 none) :
    OwnG (w3.setCell ⟨g, cs.length, none⟩ v3) base (.slice (some ⟨g, 0, none⟩) (cs.length + 1) cap) (cs ++ [[k]]) := by
  have hout3 : w3.ownsRow base 27 1 (.slice (some ⟨g, 0, none⟩) (cs.length + 1) cap) (cs.length + 1) (ss ++ [.slice none 0 0]) := own_grown hout hg fun q hq => by cases hq
  obtain ⟨hst, hgr⟩ := hout3.stored cs.length v3
  have e : (ss ++ [Value.slice none 0 0]).set cs.length v3 = ss ++ [v3] := by
    rw [← hin.1, List.set_append_right _ _ (Nat.le_refl _)]; simp
  rw [e] at hst
  refine ⟨ss ++ [v3], ⟨by simp [hin.1], fun i hi => ?_⟩, by simpa using hst⟩
  rcases Nat.lt_or_ge i ss.length with h1 | h1
  · rw [List.getElem_append_left h1, nth_app_lt (by rw [← hin.1]; exact h1)]
    have h2 : w3.ownsRow base 3 1 ss[i] (nth cs i).length (nvs (nth cs i)) := own_grown (hin.2 i h1) hg fun q hq => by cases hq
    exact own_grown h2 hgr fun q hq e => own_types h2 hout3 (by decide) e hq
  · have h2 : i = cs.length := by simp at hi; have := hin.1; omega
    subst h2
    rw [List.getElem_append_right h1, nth_app_eq]
    simp only [hin.1, Nat.sub_self, List.getElem_cons_zero]
    exact own_grown ho hgr fun q hq e => own_types ho hout3 (by decide) e hq
end

/-- The map's content: for each job the chain that is open, if one is. -/
def Rep (D : DataW Unit) (M : Int → Option Nat) : Prop := ∀ J : Int, match M J with
  | some a => has D (.int .i64 J) = true ∧ ∀ z, D.atKey (.int .i64 J) z = .lit (.int .i64 (a : Int))
  | none => has D (.int .i64 J) = false
theorem Rep.yes {D : DataW Unit} {M : Int → Option Nat} (h : Rep D M) {J : Int} {a : Nat} (e : M J = some a) : has D (.int .i64 J) = true ∧ ∀ z, D.atKey (.int .i64 J) z = .lit (.int .i64 (a : Int)) := by
  have := h J; rw [e] at this; exact this
theorem Rep.no {D : DataW Unit} {M : Int → Option Nat} (h : Rep D M) {J : Int} (e : M J = none) : has D (.int .i64 J) = false := by
  have := h J; rw [e] at this; exact this
theorem lit_ne {a b : Int} (h : a ≠ b) : Lit.int .i64 a ≠ Lit.int .i64 b := by intro e; injection e with _ e'; exact h e'
theorem Rep.del {D : DataW Unit} {M M' : Int → Option Nat} {J : Int} (h : Rep D M) (h1 : M' J = none) (h2 : ∀ K, K ≠ J → M' K = M K) : Rep (D.del (.int .i64 J)) M' := by
  intro K
  by_cases hK : K = J
  · subst hK; rw [h1]; exact has_del_same
  · rw [h2 K hK]
    have := h K
    cases hM : M K with
    | none => rw [hM] at this; simp only [] at this ⊢; rw [has_del_other (lit_ne hK)]; exact this
    | some a => rw [hM] at this; simp only [] at this ⊢; rw [has_del_other (lit_ne hK)]; exact ⟨this.1, fun z => by rw [atKey_del_other (lit_ne hK)]; exact this.2 z⟩
theorem Rep.put {D : DataW Unit} {M M' : Int → Option Nat} {J : Int} {a : Nat} (h : Rep D M) (hD : IsMap D) (h1 : M' J = some a) (h2 : ∀ K, K ≠ J → M' K = M K) : Rep (D.put (.int .i64 J) (.lit (.int .i64 (a : Int)))) M' := by
  intro K
  by_cases hK : K = J
  · subst hK; rw [h1]; exact ⟨has_put_same hD (by first | trivial | exact rfl | decide) _, fun z => atKey_put_same hD (by first | trivial | exact rfl | decide) _ z⟩
  · rw [h2 K hK]
    have := h K
    cases hM : M K with
    | none => rw [hM] at this; simp only [] at this ⊢; rw [has_put_other (lit_ne hK)]; exact this
    | some b => rw [hM] at this; simp only [] at this ⊢; rw [has_put_other (lit_ne hK)]; exact ⟨this.1, fun z => by rw [atKey_put_other (lit_ne hK)]; exact this.2 z⟩
theorem Rep.same {D : DataW Unit} {M M' : Int → Option Nat} (h : Rep D M) (h2 : ∀ K, M' K = M K) : Rep D M' := by
  intro K; rw [h2 K]; exact h K
theorem rep_empty (M : Int → Option Nat) (h : ∀ J, M J = none) : Rep (.map []) M := by
  intro J; rw [h J]; rfl

theorem below_setCells {B b : Nat} {w : World} (hB : B ≤ b) : ∀ (vs : List Value) (o : Nat) (u : World), Below B w u → Below B w (u.setCells b o vs)
  | [], _, _, h => h
  | v :: r, o, u, h => below_setCells hB r (o + 1) _ (h.setCell (p := ⟨b, o, none⟩) hB v)
theorem callAt_of {p : Nat} {b : Cl} {w : World} (h : w.rangeAt p 0 b.cs) : CallAt p 0 b w :=
  ⟨h 0 _ rfl, h 1 _ rfl, h 2 _ rfl, h 3 _ rfl, h 4 _ rfl, h 5 _ rfl, h 6 _ rfl, h 7 _ rfl, h 8 _ rfl, h 9 _ rfl, h 10 _ rfl, h 11 _ rfl, h 12 _ rfl, h 13 _ rfl, h 14 _ rfl, h 15 _ rfl, h 16 _ rfl, h 17 _ rfl⟩
theorem rangeAt_of {p o : Nat} {b : Cl} {w : World} (h : CallAt p o b w) : w.rangeAt p o b.cs := by
  intro j v hv
  obtain ⟨h0, h1, h2, h3, h4, h5, h6, h7, h8, h9, h10, h11, h12, h13, h14, h15, h16, h17⟩ := h
  have hj : j < 18 := by
    rcases Nat.lt_or_ge j 18 with hh | hh
    · exact hh
    · rw [List.getElem?_eq_none (by exact hh)] at hv; cases hv
  match j, hj, hv with
  | 0, _, hv => cases hv; exact h0
  | 1, _, hv => cases hv; exact h1
  | 2, _, hv => cases hv; exact h2
  | 3, _, hv => cases hv; exact h3
  | 4, _, hv => cases hv; exact h4
  | 5, _, hv => cases hv; exact h5
  | 6, _, hv => cases hv; exact h6
  | 7, _, hv => cases hv; exact h7
  | 8, _, hv => cases hv; exact h8
  | 9, _, hv => cases hv; exact h9
  | 10, _, hv => cases hv; exact h10
  | 11, _, hv => cases hv; exact h11
  | 12, _, hv => cases hv; exact h12
  | 13, _, hv => cases hv; exact h13
  | 14, _, hv => cases hv; exact h14
  | 15, _, hv => cases hv; exact h15
  | 16, _, hv => cases hv; exact h16
  | 17, _, hv => cases hv; exact h17
theorem one_cl (b : Cl) : ∀ v ∈ b.cs, v.oneCell' = true := by
  intro v hv
  simp only [Cl.cs] at hv
  simp at hv
  rcases hv with rfl | rfl | rfl | rfl | rfl | rfl | rfl | rfl | rfl | rfl | rfl | rfl | rfl | rfl | rfl | rfl | rfl | rfl <;> rfl
theorem wpList_load35 {ops : Array Oper} {rest : List Oper} {op : Oper} {a : Act} {w : World} {Q : Exit → Act → World → Prop} (hgd : op.guard = none) (x : Operand) (ho : op.op = .load 35 x)
    (p o : Nat) (hx : a.eval x = .pointer (some ⟨p, o, none⟩)) (b : Cl) (hc : CallAt p o b w) (h : wpList Tryd.prog ops Q rest (a.put op.dst b.val) w) : wpList Tryd.prog ops Q (op :: rest) a w :=
  wpList_load_mid hgd 35 x ho p o hx b.cs _ (rangeAt_of hc) Tryd.underlying35 rfl info35 h
/-- A call is stored whole into a block that was just made. -/
theorem wpList_store35 {ops : Array Oper} {rest : List Oper} {op : Oper} {a : Act} {w : World} {Q : Exit → Act → World → Prop} (hgd : op.guard = none) (x y : Operand) (ho : op.op = .store 35 x y)
    (u : World) (zs : Array Value) (hz : zs.size = 18) (hw : w = u.alloc (.cells zs 35)) (b : Cl) (hx : a.eval x = .pointer (some ⟨u.heap.size, 0, none⟩)) (hy : a.eval y = b.val)
    (h : ∀ w', CallAt u.heap.size 0 b w' → Below u.heap.size u w' → u.heap.size < w'.heap.size → wpList Tryd.prog ops Q rest (a.put op.dst undef) w') : wpList Tryd.prog ops Q (op :: rest) a w := by
  have ht : w.there u.heap.size 0 18 := by
    subst hw
    intro j hj
    have hg := heap_alloc_new u (.cells zs 35)
    exact ⟨by rw [cell_of_row _ _ _ _ _ _ hg, Nat.zero_add, Array.getElem?_eq_getElem (by omega)]; rfl, by rw [frozen_of_row _ _ _ _ _ hg]⟩
  refine wpList_store_mid hgd 35 x y ho u.heap.size 0 b.cs.toArray hx (hy.trans rfl) ht info35 (all_oneCell_toArray (one_cl b)) (h _ ?_ ?_ ?_)
  · exact callAt_of (World.rangeAt_setCells_same w _ _ _ ht)
  · subst hw
    exact below_setCells (Nat.le_refl _) _ _ _ ((Below.refl _ _).alloc (Nat.le_refl _) _)
  · subst hw
    have := (below_setCells (B := 0) (w := u.alloc (.cells zs 35)) (b := u.heap.size) (Nat.zero_le _) b.cs.toArray.toList 0 _ (Below.refl _ _)).size
    simp at this ⊢
    omega
end Go.Proofs.YtknmgcjhfleloaaDoor
