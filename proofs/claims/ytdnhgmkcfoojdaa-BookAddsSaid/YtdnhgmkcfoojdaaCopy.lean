/-
  The builtin copy into a row of the call's own, elements of any number of cells. No program in sight. No condition.
-/
import Derived.Test.YtdnhgmkcfoojdaaWords
import Derived.Laws.CopyOwn
import Derived.RegionTactic
namespace Go.Proofs.Ytdnhgmkcfoojdaa
open Go.RowKit
set_option linter.unusedVariables false

/-- xs with cs laid over it from off on. -/
def spl (xs : List Value) (off : Nat) (cs : List Value) : List Value := xs.take off ++ (cs ++ xs.drop (off + cs.length))

section
variable {P : Program} {w : World}
theorem run_copy_zeroN (dT sT ty elem : TypeId) (i : TypeInfo) (hu : P.underlying dT = some (.slice elem)) (hq : P.info? elem = some i) (dp sp : Option Addr) (dLen dCap sLen sCap : Nat) (hn : Nat.min sLen dLen = 0) :
    (Builtin.copy_ #[dT, sT] ty #[.slice dp dLen dCap, .slice sp sLen sCap]).run P w = .ok (goInt 0) w := by
  cases dp <;> cases sp <;> simp [Builtin.copy_, run_underlying hu, Builtin.lenOf, Builtin.firstCells, sizeOf, typeInfo, hq, hn, storeCells, loadCells, loadCellsFrom]

theorem run_copy_rowN (dT sT ty elem : TypeId) (i : TypeInfo) (s : Nat) (hu : P.underlying dT = some (.slice elem)) (hq : P.info? elem = some i) (hs : i.size = s)
    (g o dLen dCap : Nat) (a : Addr) (sLen sCap : Nat) (cur : Array Value) (t : TypeId) (cs : List Value) (n : Nat) (hn : Nat.min sLen dLen = n) (hl : cs.length = n * s)
    (hg : w.heap[g]? = some (.cells cur t (0, 0))) (hsrc : ∀ j v, cs[j]? = some v → w.cell? (a.add j) = some v) (hfit : o + cs.length ≤ cur.size) (h1 : ∀ v ∈ cs, v.oneCell' = true) :
    (Builtin.copy_ #[dT, sT] ty #[.slice (some ⟨g, o, none⟩) dLen dCap, .slice (some a) sLen sCap]).run P w =
      .ok (goInt n) (w.setRow g (cur.toList.take o ++ cs ++ cur.toList.drop (o + cs.length)).toArray) := by
  have hld := run_loadCells_list (P := P) w a cs hsrc
  have hst := run_storeCells_at P g o t cs 0 cur w hg (by simpa using hfit) h1
  simp [Builtin.copy_, run_underlying hu, Builtin.lenOf, Builtin.firstCells, sizeOf, typeInfo, hq, hs, hn, ← hl, hld, hst]

theorem own_setRow {base : Nat} {e : TypeId} {s N cap g : Nat} {xs : List Value} {cur : Array Value} {off : Nat} {cs : List Value} (h : w.ownsRow base e s (.slice (some ⟨g, 0, none⟩) N cap) N xs)
    (hg : w.heap[g]? = some (.cells cur e (0, 0))) (hc : cur.toList.take (N * s) = xs) (hfit : off + cs.length ≤ N * s) :
    (w.setRow g (cur.toList.take off ++ cs ++ cur.toList.drop (off + cs.length)).toArray).ownsRow base e s (.slice (some ⟨g, 0, none⟩) N cap) N (spl xs off cs) ∧
    w.grownBy (w.setRow g (cur.toList.take off ++ cs ++ cur.toList.drop (off + cs.length)).toArray) (some g) := by
  rcases h.2 with ⟨h', _⟩ | ⟨g', cap', cur', h', hb, hg', hnc, hcm, hcs, htake⟩
  · simp at h'
  · simp only [Value.slice.injEq, Option.some.injEq, Addr.mk.injEq, and_true, true_and] at h'
    obtain ⟨rfl, rfl⟩ := h'
    rw [hg] at hg'
    cases hg'
    have hxl := h.1
    have hlen : N * s ≤ cur.toList.length := by rw [Array.length_toList, hcs]; exact Nat.mul_le_mul_right _ hnc
    have hspl : (cur.toList.take off ++ cs ++ cur.toList.drop (off + cs.length)).take (N * s) = spl xs off cs := by
      rw [← hc]
      unfold spl
      have hA : (cur.toList.take off).length = off := by rw [List.length_take]; omega
      have r1 : (cur.toList.take (N * s)).take off = cur.toList.take off := by rw [List.take_take, Nat.min_eq_left (by omega)]
      have r2 : (cur.toList.take (N * s)).drop (off + cs.length) = (cur.toList.drop (off + cs.length)).take (N * s - (off + cs.length)) := by rw [List.drop_take]
      rw [r1, r2, List.append_assoc, List.take_append, hA, List.take_of_length_le (by omega), List.take_append, List.take_of_length_le (l := cs) (by omega)]
      rw [show N * s - off - cs.length = N * s - (off + cs.length) by omega]
    refine ⟨⟨?_, .inr ⟨g, cap, _, rfl, hb, setRow_heap w g cur _ e _ hg, hnc, hcm, ?_, by simpa using hspl⟩⟩, ?_⟩
    · rw [← hspl, List.length_take]; simp only [List.length_append, List.length_take, List.length_drop]; omega
    · simp only [List.size_toArray, List.length_append, List.length_take, List.length_drop, Array.length_toList] at *; omega
    · refine ⟨rfl, rfl, rfl, by simp [World.setRow], fun k _ hk => ?_⟩
      simp only [World.setRow, Array.getElem?_modify]
      rw [if_neg (fun e => hk (by rw [e]))]

/-- copy(dst, src): dst a part of a row of the call's own. -/
theorem wp_copy_own {o : Oper} {a : Act} {K : Act → World → Prop} {Q : Exit → Act → World → Prop} (d x : Operand) (dT sT : TypeId)
    (ho : o.op = .call { callee := .builtin .copy, args := #[d, x], argTypes := #[dT, sT] }) (base : Nat) (e : TypeId) (i : TypeInfo) (s : Nat) (hu : P.underlying dT = some (.slice e)) (hq : P.info? e = some i) (hs : i.size = s)
    (dp sp : Option Addr) (dLen dCap sLen sCap : Nat) (hd : a.eval d = .slice dp dLen dCap) (hx : a.eval x = .slice sp sLen sCap)
    (g N cap : Nat) (xs : List Value) (hown : w.ownsRow base e s (.slice (some ⟨g, 0, none⟩) N cap) N xs)
    (n off : Nat) (cs : List Value) (hn : Nat.min sLen dLen = n) (hl : cs.length = n * s) (hdp : 0 < n → dp = some ⟨g, off, none⟩) (B : Nat) (hr : Row w B sp cs) (hs0 : 0 < s)
    (hfit : off + cs.length ≤ N * s) (h1 : ∀ v ∈ cs, v.oneCell' = true)
    (h : ∀ w', w'.ownsRow base e s (.slice (some ⟨g, 0, none⟩) N cap) N (spl xs off cs) → w.grownBy w' (some g) → K (a.put o.dst (goInt n)) w') : o.wp P a w K Q := by
  rcases Nat.eq_zero_or_pos n with h0 | h0
  · subst h0
    have hcs : cs = [] := List.eq_nil_of_length_eq_zero (by simpa using hl)
    subst hcs
    have hrun := run_copy_zeroN (P := P) (w := w) dT sT o.type e i hu hq dp sp dLen dCap sLen sCap hn
    unfold Oper.wp
    simp [execOp, ho, resolve, invoke, builtin, hd, hx, hrun, Result.andThen]
    exact h w (by simpa [spl] using hown) ⟨rfl, rfl, rfl, Nat.le_refl _, fun _ _ _ => rfl⟩
  · have hdp := hdp h0
    subst hdp
    have hpos : 0 < cs.length := by rw [hl]; exact Nat.mul_pos h0 hs0
    obtain ⟨b, o', rfl, _, hc⟩ := hr hpos
    have hown' := hown
    rcases hown'.2 with ⟨h', _⟩ | ⟨g', cap', cur, h', hb, hg, hnc, hcm, hcs, htake⟩
    · simp at h'
    · simp only [Value.slice.injEq, Option.some.injEq, Addr.mk.injEq, and_true, true_and] at h'
      obtain ⟨rfl, rfl⟩ := h'
      have hrun := run_copy_rowN (P := P) (w := w) dT sT o.type e i s hu hq hs g off dLen dCap ⟨b, o', none⟩ sLen sCap cur e cs n hn hl hg (fun j u hu => by rw [Go.WideShapes.add_plain]; exact hc j u hu)
        (by rw [hcs]; exact Nat.le_trans hfit (Nat.mul_le_mul_right _ hnc)) h1
      obtain ⟨r1, r2⟩ := own_setRow hown hg htake hfit
      unfold Oper.wp
      simp only [execOp, ho, resolve, invoke, builtin, List.map_toArray, List.map_cons, List.map_nil, hd, hx, hrun, Sem.run_bind, Sem.run_pure, Result.andThen_ok]
      exact h _ r1 r2

theorem wpList_copy_own' {ops : Array Oper} {rest : List Oper} {o : Oper} {a : Act} {Q : Exit → Act → World → Prop} (hgd : o.guard = none) (d x : Operand) (dT sT : TypeId)
    (ho : o.op = .call { callee := .builtin .copy, args := #[d, x], argTypes := #[dT, sT] }) (base : Nat) (e : TypeId) (i : TypeInfo) (s : Nat) (hu : P.underlying dT = some (.slice e)) (hq : P.info? e = some i) (hs : i.size = s)
    (dp sp : Option Addr) (dLen dCap sLen sCap : Nat) (hd : a.eval d = .slice dp dLen dCap) (hx : a.eval x = .slice sp sLen sCap)
    (g N cap : Nat) (xs : List Value) (hown : w.ownsRow base e s (.slice (some ⟨g, 0, none⟩) N cap) N xs)
    (n off : Nat) (cs : List Value) (hn : Nat.min sLen dLen = n) (hl : cs.length = n * s) (hdp : 0 < n → dp = some ⟨g, off, none⟩) (B : Nat) (hr : Row w B sp cs) (hs0 : 0 < s)
    (hfit : off + cs.length ≤ N * s) (h1 : ∀ v ∈ cs, v.oneCell' = true)
    (h : ∀ w', w'.ownsRow base e s (.slice (some ⟨g, 0, none⟩) N cap) N (spl xs off cs) → w.grownBy w' (some g) → wpList P ops Q rest (a.put o.dst (goInt n)) w') : wpList P ops Q (o :: rest) a w :=
  wpList_plain hgd fun _ hK => wp_copy_own d x dT sT ho base e i s hu hq hs dp sp dLen dCap sLen sCap hd hx g N cap xs hown n off cs hn hl hdp B hr hs0 hfit h1 fun w' h2 h3 => hK _ _ (h w' h2 h3)

theorem step_copy_own {ops : Array Oper} {o : Oper} {a : Act} {K : Act → World → Prop} {Q : Exit → Act → World → Prop} {E : Prop} (hgd : o.guard = none) (d x : Operand) (dT sT : TypeId)
    (ho : o.op = .call { callee := .builtin .copy, args := #[d, x], argTypes := #[dT, sT] }) (base : Nat) (e : TypeId) (i : TypeInfo) (s : Nat) (hu : P.underlying dT = some (.slice e)) (hq : P.info? e = some i) (hs : i.size = s)
    (dp sp : Option Addr) (dLen dCap sLen sCap : Nat) (hd : a.eval d = .slice dp dLen dCap) (hx : a.eval x = .slice sp sLen sCap)
    (g N cap : Nat) (xs : List Value) (hown : w.ownsRow base e s (.slice (some ⟨g, 0, none⟩) N cap) N xs)
    (n off : Nat) (cs : List Value) (hn : Nat.min sLen dLen = n) (hl : cs.length = n * s) (hdp : 0 < n → dp = some ⟨g, off, none⟩) (B : Nat) (hr : Row w B sp cs) (hs0 : 0 < s)
    (hfit : off + cs.length ≤ N * s) (h1 : ∀ v ∈ cs, v.oneCell' = true)
    (h : ∀ w', w'.ownsRow base e s (.slice (some ⟨g, 0, none⟩) N cap) N (spl xs off cs) → w.grownBy w' (some g) → K (a.put o.dst (goInt n)) w') :
    if Region.wanted o (yielded ops a.tmps) = true then Oper.wp P o a w K Q else E := by
  have hw : Region.wanted o (yielded ops a.tmps) = true := by simp [Region.wanted, hgd]
  rw [if_pos hw]
  exact wp_copy_own d x dT sT ho base e i s hu hq hs dp sp dLen dCap sLen sCap hd hx g N cap xs hown n off cs hn hl hdp B hr hs0 hfit h1 h
end
end Go.Proofs.Ytdnhgmkcfoojdaa
