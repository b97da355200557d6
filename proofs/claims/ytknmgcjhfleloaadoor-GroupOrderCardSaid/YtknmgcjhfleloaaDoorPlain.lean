/-
  Chains of requests, in plain Lean: which requests are done together, by looking who is ahead; and what a run from the left that remembers an open chain for each job comes to. No program in sight. No condition.
-/
namespace Go.Proofs.YtknmgcjhfleloaaDoor
set_option linter.unusedVariables false

/-- A request as it matters here: its kind and its job. -/
structure Rq where
  k : Int
  j : Int
deriving DecidableEq
instance : Inhabited Rq := ⟨⟨0, 0⟩⟩

def Rq.such (r : Rq) : Bool := decide (2 ≤ r.k) && decide (r.k ≤ 5)
def Rq.conc (r : Rq) : Bool := decide (2 ≤ r.k) && decide (r.k ≤ 8)
theorem such_conc {r : Rq} (h : r.such = true) : r.conc = true := by
  simp [Rq.such, Rq.conc] at *; omega
def rq (l : List Rq) (i : Nat) : Rq := l.getD i default

/-- The last of the first n that concerns a job. -/
def ahead (l : List Rq) (J : Int) : Nat → Option Nat
  | 0 => none
  | n + 1 => if (rq l n).conc && decide ((rq l n).j = J) then some n else ahead l J n
theorem ahead_lt {l : List Rq} {J : Int} {n k : Nat} (h : ahead l J n = some k) : k < n := by
  induction n with
  | zero => simp [ahead] at h
  | succ n ih =>
    unfold ahead at h
    split at h
    · cases h; omega
    · have := ih h; omega
theorem ahead_some {l : List Rq} {J : Int} {n k : Nat} (h : ahead l J n = some k) : (rq l k).conc = true ∧ (rq l k).j = J ∧ ∀ m, k < m → m < n → ¬ ((rq l m).conc = true ∧ (rq l m).j = J) := by
  induction n with
  | zero => simp [ahead] at h
  | succ n ih =>
    unfold ahead at h
    split at h
    · rename_i hc
      cases h
      simp at hc
      exact ⟨hc.1, hc.2, fun m h1 h2 => by omega⟩
    · rename_i hc
      obtain ⟨a, b, c⟩ := ih h
      refine ⟨a, b, fun m h1 h2 hm => ?_⟩
      rcases Nat.lt_or_ge m n with h3 | h3
      · exact c m h1 h3 hm
      · obtain rfl : m = n := by omega
        simp at hc
        exact hc hm.1 hm.2
theorem ahead_none {l : List Rq} {J : Int} {n : Nat} (h : ahead l J n = none) : ∀ m, m < n → ¬ ((rq l m).conc = true ∧ (rq l m).j = J) := by
  induction n with
  | zero => intro m hm; omega
  | succ n ih =>
    unfold ahead at h
    split at h
    · cases h
    · rename_i hc
      intro m hm hh
      rcases Nat.lt_or_ge m n with h3 | h3
      · exact ih h m h3 hh
      · obtain rfl : m = n := by omega
        simp at hc
        exact hc hh.1 hh.2
theorem ahead_is {l : List Rq} {J : Int} {n k : Nat} (hk : k < n) (h1 : (rq l k).conc = true) (h2 : (rq l k).j = J) : ∃ m, ahead l J n = some m ∧ k ≤ m := by
  cases h : ahead l J n with
  | none => exact absurd ⟨h1, h2⟩ (ahead_none h k hk)
  | some m =>
    refine ⟨m, rfl, ?_⟩
    rcases Nat.lt_or_ge m k with h3 | h3
    · exact absurd ⟨h1, h2⟩ ((ahead_some h).2.2 k h3 hk)
    · exact h3

/-- The request ahead in the same chain. -/
def prev (l : List Rq) (i : Nat) : Option Nat :=
  if (rq l i).such then match ahead l (rq l i).j i with | some k => if (rq l k).such then some k else none | none => none else none
theorem prev_lt {l : List Rq} {i k : Nat} (h : prev l i = some k) : k < i := by
  unfold prev at h
  split at h
  · split at h
    · rename_i m hm
      split at h
      · cases h; exact ahead_lt hm
      · cases h
    · cases h
  · cases h
/-- The first request of the chain of one. -/
def firstF (l : List Rq) : Nat → Nat → Nat
  | 0, i => i
  | f + 1, i => match prev l i with | some k => firstF l f k | none => i
def first (l : List Rq) (i : Nat) : Nat := firstF l i i
theorem firstF_enough {l : List Rq} : ∀ (f i : Nat), i ≤ f → firstF l f i = firstF l i i := by
  intro f
  induction f using Nat.strongRecOn with
  | ind f ih =>
    intro i hi
    cases f with
    | zero => have : i = 0 := by omega
              subst this; rfl
    | succ f =>
      cases hp : prev l i with
      | none =>
        have e1 : firstF l (f + 1) i = i := by simp [firstF, hp]
        rw [e1]
        cases i with
        | zero => rfl
        | succ i => simp [firstF, hp]
      | some k =>
        have hk := prev_lt hp
        have e1 : firstF l (f + 1) i = firstF l f k := by simp [firstF, hp]
        rw [e1, ih f (by omega) k (by omega)]
        cases i with
        | zero => omega
        | succ i =>
          have e2 : firstF l (i + 1) (i + 1) = firstF l i k := by simp [firstF, hp]
          rw [e2, ih i (by omega) k (by omega)]
theorem first_prev {l : List Rq} {i k : Nat} (h : prev l i = some k) : first l i = first l k := by
  have hk := prev_lt h
  unfold first
  cases i with
  | zero => omega
  | succ i =>
    have e2 : firstF l (i + 1) (i + 1) = firstF l i k := by simp [firstF, h]
    rw [e2, firstF_enough i k (by omega)]
theorem first_self {l : List Rq} {i : Nat} (h : prev l i = none) : first l i = i := by
  unfold first
  cases i with
  | zero => rfl
  | succ i => simp [firstF, h]
theorem first_le (l : List Rq) (i : Nat) : first l i ≤ i := by
  induction i using Nat.strongRecOn with
  | ind i ih =>
    cases h : prev l i with
    | none => rw [first_self h]; exact Nat.le_refl _
    | some k => have := prev_lt h; have := ih k this; rw [first_prev h]; omega
theorem first_first (l : List Rq) (i : Nat) : first l (first l i) = first l i := by
  induction i using Nat.strongRecOn with
  | ind i ih =>
    cases h : prev l i with
    | none => rw [first_self h, first_self h]
    | some k => rw [first_prev h]; exact ih k (prev_lt h)
theorem self_iff {l : List Rq} {i : Nat} : first l i = i ↔ prev l i = none := by
  constructor
  · intro h
    cases hp : prev l i with
    | none => rfl
    | some k => have := prev_lt hp; have := first_le l k; rw [first_prev hp] at h; omega
  · exact first_self

/-- The starts among the first n. -/
def starts (l : List Rq) (n : Nat) : List Nat := (List.range n).filter fun s => first l s == s
/-- The chain that begins at s, among the first n. -/
def chainOf (l : List Rq) (n s : Nat) : List Nat := (List.range n).filter fun k => first l k == s
/-- The chains of the first n. -/
def chains (l : List Rq) (n : Nat) : List (List Nat) := (starts l n).map (chainOf l n)
theorem range_filter_succ (p : Nat → Bool) (n : Nat) : (List.range (n + 1)).filter p = (List.range n).filter p ++ if p n then [n] else [] := by
  rw [List.range_succ, List.filter_append]
  congr 1
  by_cases h : p n <;> simp [h]
theorem starts_succ (l : List Rq) (n : Nat) : starts l (n + 1) = starts l n ++ if first l n == n then [n] else [] := range_filter_succ _ n
theorem chainOf_succ (l : List Rq) (n s : Nat) : chainOf l (n + 1) s = chainOf l n s ++ if first l n == s then [n] else [] := range_filter_succ _ n
theorem mem_starts {l : List Rq} {n s : Nat} : s ∈ starts l n ↔ s < n ∧ first l s = s := by simp [starts]
theorem mem_chainOf {l : List Rq} {n s k : Nat} : k ∈ chainOf l n s ↔ k < n ∧ first l k = s := by simp [chainOf]
theorem chainOf_new {l : List Rq} {n : Nat} : chainOf l n n = [] := by
  apply List.eq_nil_iff_forall_not_mem.2
  intro k hk
  obtain ⟨h1, h2⟩ := mem_chainOf.1 hk
  have := first_le l k; omega
/-- A request that begins a chain: a chain more. -/
theorem chains_new {l : List Rq} {n : Nat} (h : first l n = n) : chains l (n + 1) = chains l n ++ [[n]] := by
  unfold chains
  rw [starts_succ, if_pos (by simpa using h), List.map_append]
  congr 1
  · apply List.map_congr_left
    intro s hs
    have := (mem_starts.1 hs).1
    rw [chainOf_succ, if_neg (by simp [h]; omega), List.append_nil]
  · simp [chainOf_succ, chainOf_new, h]
/-- The place of a start among the starts. -/
def idx (l : List Rq) (s : Nat) : Nat := (starts l s).length
theorem starts_split {l : List Rq} {n s : Nat} (hs : s < n) (h : first l s = s) : ∃ r, starts l n = starts l s ++ s :: r := by
  induction n with
  | zero => omega
  | succ n ih =>
    rw [starts_succ]
    rcases Nat.lt_or_ge s n with h1 | h1
    · obtain ⟨r, e⟩ := ih h1
      exact ⟨r ++ if first l n == n then [n] else [], by rw [e]; simp⟩
    · obtain rfl : s = n := by omega
      exact ⟨[], by rw [if_pos (by simpa using h)]⟩
theorem starts_at {l : List Rq} {n s : Nat} (hs : s < n) (h : first l s = s) : ∃ hk : idx l s < (starts l n).length, (starts l n)[idx l s] = s := by
  obtain ⟨r, e⟩ := starts_split hs h
  have hk : idx l s < (starts l n).length := by rw [e]; simp [idx]
  refine ⟨hk, ?_⟩
  have : (starts l n)[idx l s]? = some s := by rw [e]; unfold idx; rw [List.getElem?_append_right (Nat.le_refl _)]; simp
  rw [List.getElem?_eq_getElem hk] at this
  exact Option.some.inj this
theorem range_rising (n : Nat) : (List.range n).Pairwise (· < ·) := by
  rw [List.pairwise_iff_getElem]; intro i j hi hj h; simpa using h
theorem starts_rising (l : List Rq) (n : Nat) : (starts l n).Pairwise (· < ·) := (range_rising n).filter _
theorem chainOf_rising (l : List Rq) (n s : Nat) : (chainOf l n s).Pairwise (· < ·) := (range_rising n).filter _
theorem rising_inj {xs : List Nat} (h : xs.Pairwise (· < ·)) {i j : Nat} (hi : i < xs.length) (hj : j < xs.length) (e : xs[i] = xs[j]) : i = j := by
  rw [List.pairwise_iff_getElem] at h
  rcases Nat.lt_trichotomy i j with h1 | h1 | h1
  · have := h i j hi hj h1; omega
  · exact h1
  · have := h j i hj hi h1; omega
theorem chains_len (l : List Rq) (n : Nat) : (chains l n).length = (starts l n).length := by simp [chains]
/-- A request that goes on with a chain: that chain is longer by it. -/
theorem chains_more {l : List Rq} {n s : Nat} (hs : s < n) (h : first l n = s) (hh : first l s = s) :
    ∃ hk : idx l s < (chains l n).length, chains l (n + 1) = (chains l n).set (idx l s) ((chains l n)[idx l s] ++ [n]) := by
  obtain ⟨hk, e⟩ := starts_at hs hh
  have hk' : idx l s < (chains l n).length := by rw [chains_len]; exact hk
  refine ⟨hk', ?_⟩
  have e2 : (chains l n)[idx l s] = chainOf l n s := by simp only [chains, List.getElem_map, e]
  rw [e2]
  have e3 : starts l (n + 1) = starts l n := by rw [starts_succ, if_neg (by simp; omega), List.append_nil]
  apply List.ext_getElem
  · rw [List.length_set, chains_len, chains_len, e3]
  · intro i h1 h2
    have hi : i < (starts l n).length := by rw [chains_len, e3] at h1; exact h1
    rw [List.getElem_set]
    have e4 : (chains l (n + 1))[i] = chainOf l (n + 1) (starts l n)[i] := by simp only [chains, List.getElem_map, e3]
    rw [e4, chainOf_succ]
    by_cases hi2 : idx l s = i
    · subst hi2
      rw [if_pos rfl, e, if_pos (by simpa using h)]
    · rw [if_neg hi2]
      have hne : (starts l n)[i] ≠ s := fun hq => hi2 (rising_inj (starts_rising l n) hk hi (by rw [e, hq]))
      have hne' : (first l n == (starts l n)[i]) = false := by rw [h]; simpa using fun hq => hne hq.symm
      rw [hne']
      simp [chains]

/-- The chain to which the next request of a job belongs, after the first n. -/
def opened (l : List Rq) (n : Nat) (J : Int) : Option Nat :=
  match ahead l J n with
  | some k => if (rq l k).such then some (idx l (first l k)) else none
  | none => none
theorem ahead_succ_other {l : List Rq} {J : Int} {n : Nat} (h : ¬ ((rq l n).conc = true ∧ (rq l n).j = J)) : ahead l J (n + 1) = ahead l J n := by
  rw [ahead, if_neg (by simpa using h)]
theorem ahead_succ_same {l : List Rq} {J : Int} {n : Nat} (h1 : (rq l n).conc = true) (h2 : (rq l n).j = J) : ahead l J (n + 1) = some n := by
  rw [ahead, if_pos (by simp [h1, h2])]
theorem opened_other {l : List Rq} {J : Int} {n : Nat} (h : ¬ ((rq l n).conc = true ∧ (rq l n).j = J)) : opened l (n + 1) J = opened l n J := by
  unfold opened; rw [ahead_succ_other h]
theorem opened_conc {l : List Rq} {n : Nat} (h1 : (rq l n).conc = true) (h2 : (rq l n).such = false) : opened l (n + 1) (rq l n).j = none := by
  unfold opened; rw [ahead_succ_same h1 rfl]; simp [h2]
theorem opened_such {l : List Rq} {n : Nat} (h : (rq l n).such = true) : opened l (n + 1) (rq l n).j = some (idx l (first l n)) := by
  unfold opened; rw [ahead_succ_same (such_conc h) rfl]; simp [h]
theorem first_not_such {l : List Rq} {n : Nat} (h : (rq l n).such = false) : first l n = n := first_self (by simp [prev, h])
theorem first_opened_none {l : List Rq} {n : Nat} (h : (rq l n).such = true) (ho : opened l n (rq l n).j = none) : first l n = n := by
  apply first_self
  unfold prev
  rw [if_pos h]
  unfold opened at ho
  cases ha : ahead l (rq l n).j n with
  | none => rfl
  | some k =>
    rw [ha] at ho
    simp only [] at ho ⊢
    split
    · rename_i hs; rw [if_pos hs] at ho; cases ho
    · rfl
theorem first_opened_some {l : List Rq} {n a : Nat} (h : (rq l n).such = true) (ho : opened l n (rq l n).j = some a) : first l n < n ∧ a = idx l (first l n) := by
  unfold opened at ho
  cases ha : ahead l (rq l n).j n with
  | none => rw [ha] at ho; cases ho
  | some k =>
    rw [ha] at ho
    simp only [] at ho
    split at ho
    · rename_i hs
      cases ho
      have hp : prev l n = some k := by unfold prev; rw [if_pos h, ha]; simp [hs]
      rw [first_prev hp]
      have := first_le l k
      have := ahead_lt ha
      exact ⟨by omega, rfl⟩
    · cases ho
end Go.Proofs.YtknmgcjhfleloaaDoor
