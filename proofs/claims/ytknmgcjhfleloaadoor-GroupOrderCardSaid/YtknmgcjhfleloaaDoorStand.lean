/-
  The order of a batch, in plain Lean: each request stands once; two that concern one job stand as they stood. No walk.
-/
import Derived.Test.YtknmgcjhfleloaaDoorLawC
namespace Go.Proofs.YtknmgcjhfleloaaDoor
set_option linter.unusedVariables false

theorem first_same {l : List Rq} : ∀ (m k : Nat), k < m → (rq l k).conc = true → (rq l k).j = (rq l m).j → first l m ≤ k → first l k = first l m := by
  intro m
  induction m using Nat.strongRecOn with
  | ind m ih =>
    intro k hk hc hj hf
    cases hp : prev l m with
    | none => rw [first_self hp] at hf; omega
    | some y =>
      have hy := prev_lt hp
      have e := first_prev hp
      have hah : ahead l (rq l m).j m = some y := by
        unfold prev at hp
        split at hp
        · split at hp
          · rename_i z hz
            split at hp
            · cases hp; exact hz
            · cases hp
          · cases hp
        · cases hp
      obtain ⟨z, hz, hkz⟩ := ahead_is hk hc hj
      rw [hah] at hz
      cases hz
      rcases Nat.lt_or_ge k y with h | h
      · rw [e]
        exact ih y hy k h hc (by rw [hj, (ahead_some hah).2.1]) (by rw [← e]; exact hf)
      · obtain rfl : k = y := by omega
        exact e.symm
theorem first_mono {l : List Rq} {m k : Nat} (hk : k < m) (hc : (rq l k).conc = true) (hj : (rq l k).j = (rq l m).j) : first l k ≤ first l m := by
  rcases Nat.lt_or_ge (first l m) (first l k) with h | h
  · have h1 := first_le l k
    have := first_same m k hk hc hj (by omega)
    omega
  · exact h
/-- One stands ahead of another one. -/
def Ahead (l : List Rq) (a b : Nat) : Prop := first l a < first l b ∨ (first l a = first l b ∧ a < b)
theorem chains_ahead (l : List Rq) (n : Nat) : ((chains l n).flatten).Pairwise (Ahead l) := by
  rw [List.pairwise_flatten]
  constructor
  · intro c hc
    simp only [chains, List.mem_map] at hc
    obtain ⟨s, hs, rfl⟩ := hc
    refine List.Pairwise.imp_of_mem ?_ (chainOf_rising l n s)
    intro a b ha hb h
    exact .inr ⟨by rw [(mem_chainOf.1 ha).2, (mem_chainOf.1 hb).2], h⟩
  · unfold chains
    rw [List.pairwise_map]
    refine List.Pairwise.imp ?_ (starts_rising l n)
    intro a b h x hx y hy
    exact .inl (by rw [(mem_chainOf.1 hx).2, (mem_chainOf.1 hy).2]; exact h)
theorem order_at {l : List Rq} {p i : Nat} (hpi : p < i) (hi : i < (order l).length) : Ahead l (order l)[p] (order l)[i] := by
  have this : (order l).Pairwise (Ahead l) := chains_ahead l l.length
  rw [List.pairwise_iff_getElem] at this
  exact this p i (by omega) hi hpi
theorem order_stands {l : List Cl} {p i : Nat} (hpi : p < i) (hi : i < (order (rqs l)).length) (hm : (order (rqs l))[p] < l.length) (hk : (order (rqs l))[i] < l.length)
    (hgt : (order (rqs l))[i] < (order (rqs l))[p]) (hc : concB l[(order (rqs l))[i]].k = true) : l[(order (rqs l))[p]].j ≠ l[(order (rqs l))[i]].j := by
  intro hj
  have h := order_at hpi hi
  have h2 := first_mono hgt (by rw [rq_at hk]; exact hc) (by rw [rq_at hk, rq_at hm]; exact hj.symm)
  rcases h with h | ⟨_, h⟩
  · omega
  · omega
theorem order_len (l : List Cl) : (order (rqs l)).length = l.length := by unfold order; rw [flat_len, rqs_len]
theorem order_lt {l : List Cl} {i : Nat} (hi : i < (order (rqs l)).length) : (order (rqs l))[i] < l.length := by
  have h := (chains_perm (rqs l) (rqs l).length).mem_iff (a := (order (rqs l))[i])
  have := h.1 (List.getElem_mem hi)
  rw [rqs_len] at this
  simpa using this
theorem order_ne {l : List Cl} {p i : Nat} (hpi : p < i) (hi : i < (order (rqs l)).length) : (order (rqs l))[p] ≠ (order (rqs l))[i] := by
  intro e
  rcases order_at hpi hi with h | ⟨_, h⟩
  · rw [e] at h; omega
  · omega
end Go.Proofs.YtknmgcjhfleloaaDoor
