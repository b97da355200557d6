/-
  Plain facts of placing: what is placed on rising nodes are right shares, each of which has room; what is placed stays where something else is taken that leaves it its room. No walk.
-/
import Derived.Test.YtcgfjobdpcdhhaaPlace
import Derived.Test.YtcgfjobdpcdhhaaRights
import Derived.Test.YtcgfjobdpcdhhaaRefs
namespace Go.Proofs.Ytcgfjobdpcdhhaa
set_option linter.unusedVariables false

theorem run_left (free : List Rs) (need : Rs) (many : Int) (hm : 0 ≤ many) (l : List Int) (k : Nat) (hk : k ≤ l.length) :
    (runP free need many (l.take k)).2 = max 0 (many - roomOf free need (l.take k)) := by
  induction k with
  | zero => simp [runP, roomOf]; omega
  | succ k ih =>
    have ih := ih (by omega)
    rw [run_next (by omega), room_next (by omega)]
    have hf := fitI_bound free l[k] need
    unfold stepP
    split
    · rw [ih] at *; omega
    · simp only []; rw [ih] at *; omega
theorem run_total (free : List Rs) (need : Rs) (many : Int) (hm : 0 ≤ many) (l : List Int) (k : Nat) (hk : k ≤ l.length) :
    totalOf (runP free need many (l.take k)).1 = many - (runP free need many (l.take k)).2 := by
  induction k with
  | zero => simp [runP, totalOf]
  | succ k ih =>
    have ih := ih (by omega)
    obtain ⟨r1, r2, r3⟩ := run_facts free need many hm l k (by omega)
    rw [run_next (by omega)]
    have hf := fitI_bound free l[k] need
    unfold stepP
    split
    · exact ih
    · simp only [total_app, totalOf, ih]
      have : holdI (min (fitI free l[k] need) (runP free need many (List.take k l)).2) 0 64 = min (fitI free l[k] need) (runP free need many (List.take k l)).2 := by
        unfold holdI; rw [if_neg (by omega), if_neg (by omega)]
      rw [this]; omega
theorem rises_lt {l : List Int} {n : Int} (h : Rises l n) : ∀ j i (hi : i < l.length) (hj : j < l.length), i < j → l[i] < l[j] := by
  intro j
  induction j with
  | zero => intro i hi hj hij; omega
  | succ j ih =>
    intro i hi hj hij
    have h1 := (h (j + 1) hj).2.2 (by omega)
    simp only [Nat.add_sub_cancel] at h1
    rcases Nat.lt_or_ge i j with h2 | h2
    · have := ih i hi (by omega) h2; omega
    · obtain rfl : i = j := by omega
      exact h1
/-- Each share is of a node of the part, and no more than fit there. -/
def FromPart (free : List Rs) (need : Rs) (l : List Int) (k : Nat) (s : Sh) : Prop := 1 ≤ s.many ∧ s.many ≤ fitI free s.node need ∧ ∃ j, ∃ hj : j < l.length, j < k ∧ l[j] = s.node
theorem run_from (free : List Rs) (need : Rs) (many : Int) (hm : 0 ≤ many) (l : List Int) (k : Nat) (hk : k ≤ l.length) :
    ∀ s ∈ (runP free need many (l.take k)).1, FromPart free need l k s := by
  induction k with
  | zero => intro s hs; simp [runP] at hs
  | succ k ih =>
    have ih := ih (by omega)
    obtain ⟨r1, r2, r3⟩ := run_facts free need many hm l k (by omega)
    rw [run_next (by omega)]
    have hf := fitI_bound free l[k] need
    have old : ∀ s ∈ (runP free need many (l.take k)).1, FromPart free need l (k + 1) s := fun s hs => by
      obtain ⟨a, b, j, hj, hjk, e⟩ := ih s hs
      exact ⟨a, b, j, hj, by omega, e⟩
    unfold stepP
    split
    · exact old
    · intro s hs
      simp only [List.mem_append, List.mem_singleton] at hs
      rcases hs with hs | rfl
      · exact old s hs
      · exact ⟨by simp only []; omega, by simp only []; omega, k, by omega, by omega, rfl⟩
theorem run_right (free : List Rs) (need : Rs) (many : Int) (hm : 0 ≤ many) (l : List Int) (hl : Rises l free.length) (k : Nat) (hk : k ≤ l.length) :
    RightP (runP free need many (l.take k)).1 free.length := by
  induction k with
  | zero => intro j hj; simp [runP] at hj
  | succ k ih =>
    have ih := ih (by omega)
    have hfr := run_from free need many hm l k (by omega)
    obtain ⟨r1, r2, r3⟩ := run_facts free need many hm l k (by omega)
    rw [run_next (by omega)]
    have hf := fitI_bound free l[k] need
    unfold stepP
    split
    · exact ih
    · intro j hj
      simp only [List.length_append, List.length_singleton] at hj
      generalize (runP free need many (l.take k)).1 = L at *
      rcases Nat.lt_or_ge j L.length with h | h
      · obtain ⟨a, b, c, d, e⟩ := ih j h
        refine ⟨?_, ?_, ?_, ?_, fun h0 => ?_⟩
        · rw [List.getElem_append_left h]; exact a
        · rw [List.getElem_append_left h]; exact b
        · rw [List.getElem_append_left h]; exact c
        · rw [List.getElem_append_left h]; exact d
        · rw [List.getElem_append_left h, List.getElem_append_left (by omega)]; exact e h0
      · obtain rfl : j = L.length := by omega
        have hlk := hl k (by omega)
        refine ⟨?_, ?_, ?_, ?_, fun h0 => ?_⟩
        · rw [List.getElem_append_right (Nat.le_refl _)]; simp; exact hlk.1
        · rw [List.getElem_append_right (Nat.le_refl _)]; simp; exact hlk.2.1
        · rw [List.getElem_append_right (Nat.le_refl _)]; simp; omega
        · rw [List.getElem_append_right (Nat.le_refl _)]; simp; omega
        · rw [List.getElem_append_right (Nat.le_refl _), List.getElem_append_left (by omega)]
          simp
          obtain ⟨_, _, i, hi, hik, e⟩ := hfr L[L.length - 1] (List.getElem_mem (by omega))
          rw [← e]
          exact rises_lt hl k i hi (by omega) hik

theorem Rs.at_le {a b : Rs} (h : ∀ k, k < 4 → a.at k ≤ b.at k) : a.fits b := by
  have h0 := h 0 (by omega); have h1 := h 1 (by omega); have h2 := h 2 (by omega); have h3 := h 3 (by omega)
  simp [Rs.at] at h0 h1 h2 h3
  exact ⟨h0, h1, h2, h3⟩
theorem Rs.fits.at {a b : Rs} (h : a.fits b) (k : Nat) : a.at k ≤ b.at k := by
  obtain ⟨h0, h1, h2, h3⟩ := h
  unfold Rs.at; split
  · exact h0
  split
  · exact h1
  split
  · exact h2
  · exact h3
theorem times_at (a : Rs) (n k : Nat) : (a.times n).at k = n * a.at k := by
  unfold Rs.at Rs.times; split
  · rfl
  split
  · rfl
  split <;> rfl
theorem countK_le {a b : Rs} (k j : Nat) (hj : j < k) (hb : 0 < b.at j) : countK a b k ≤ a.at j / b.at j := by
  induction k with
  | zero => omega
  | succ k ih =>
    unfold countK
    rcases Nat.lt_or_ge j k with h | h
    · have := ih h
      split <;> omega
    · obtain rfl : j = k := by omega
      rw [if_pos hb]; omega
theorem le_countK {a b : Rs} {n : Int} (hn : n ≤ 64) (k : Nat) (h : ∀ j, j < k → 0 < b.at j → n ≤ a.at j / b.at j) : n ≤ countK a b k := by
  induction k with
  | zero => exact hn
  | succ k ih =>
    have := ih fun j hj => h j (by omega)
    unfold countK
    split
    · rename_i hb; have := h k (by omega) hb; omega
    · exact this
/-- So many as are counted fit. -/
theorem times_fits {f need : Rs} {n : Nat} (h1 : 1 ≤ n) (h : (n : Int) ≤ f.count need) : (need.times n).fits f := by
  unfold Rs.count at h
  split at h
  · rename_i hok
    refine Rs.at_le fun k hk => ?_
    rw [times_at]
    have hn := hok.2.1.at k
    have hf := hok.1.at k
    by_cases hp : 0 < need.at k
    · have h2 := countK_le (a := f) 4 k hk hp
      have h3 : (n : Int) ≤ f.at k / need.at k := by omega
      exact (Int.le_ediv_iff_mul_le hp).1 h3
    · have : need.at k = 0 := by have := hn.1; omega
      rw [this]; have := hf.1; omega
  · omega
/-- What fits is counted. -/
theorem le_count {f need : Rs} {n : Nat} (hf : f.ok) (hn : need.ok) (h0 : need ≠ Rs.none) (h64 : n ≤ 64) (h : (need.times n).fits f) : (n : Int) ≤ f.count need := by
  unfold Rs.count
  rw [if_pos ⟨hf, hn, h0⟩]
  refine le_countK (by omega) 4 fun j hj hb => ?_
  have := h.at j
  rw [times_at] at this
  exact (Int.le_ediv_iff_mul_le hb).2 this
theorem count_mono {f g need : Rs} (hg : g.ok) (hgf : f.fits g) : f.count need ≤ g.count need := by
  unfold Rs.count
  split
  · rename_i hok
    rw [if_pos ⟨hg, hok.2.1, hok.2.2⟩]
    refine le_countK (countK_bound hok.1 4).2 4 fun j hj hb => ?_
    have h1 := countK_le (a := f) 4 j hj hb
    have h2 := Int.ediv_le_ediv hb (hgf.at j)
    omega
  · split
    · rename_i hok; exact (countK_bound hok.1 4).1
    · exact Int.le_refl _

theorem place_yes {free : List Rs} {part : List Int} {many : Int} {need : Rs} (h : placeB free part many need = true) : 1 ≤ many ∧ many ≤ roomOf free need part ∧ placeL free part many need = (runP free need many part).1 := by
  unfold placeB at h
  split at h
  · cases h
  · rename_i hc
    exact ⟨by omega, by omega, by unfold placeL; rw [if_neg hc]⟩
theorem place_no {free : List Rs} {part : List Int} {many : Int} {need : Rs} (h : placeB free part many need = false) : (many < 1 ∨ roomOf free need part < many) ∧ placeL free part many need = [] := by
  unfold placeB at h
  split at h
  · rename_i hc
    exact ⟨hc, by unfold placeL; rw [if_pos hc]⟩
  · cases h
/-- What is placed: right shares, of just so many chunks, each on a node of the part that has room for them. -/
theorem fits_all {free : List Rs} {part : List Int} {many : Int} {need : Rs} (hr : Rises part free.length) (h : placeB free part many need = true) :
    RightP (placeL free part many need) free.length ∧ totalOf (placeL free part many need) = many ∧
    ∀ s ∈ placeL free part many need, (1 ≤ s.many ∧ s.many ≤ 64) ∧ (∃ j, ∃ hj : j < part.length, part[j] = s.node) ∧ ∃ k : Nat, s.node = k ∧ ∃ hk : k < free.length, (need.times s.many.toNat).fits free[k] := by
  obtain ⟨h1, h2, e⟩ := place_yes h
  have t := run_total free need many (by omega) part part.length (Nat.le_refl _)
  have lf := run_left free need many (by omega) part part.length (Nat.le_refl _)
  have fr := run_from free need many (by omega) part part.length (Nat.le_refl _)
  have rr := run_right free need many (by omega) part hr part.length (Nat.le_refl _)
  rw [List.take_length] at t lf fr rr
  rw [e]
  refine ⟨rr, by omega, fun s hs => ?_⟩
  obtain ⟨a, b, j, hj, _, ej⟩ := fr s hs
  have rj := hr j hj
  have hb := fitI_bound free s.node need
  refine ⟨⟨a, by omega⟩, ⟨j, hj, ej⟩, s.node.toNat, by have := rj.1; omega, by have := rj.1; have := rj.2.1; omega, ?_⟩
  have hk : s.node.toNat < free.length := by have := rj.1; have := rj.2.1; omega
  refine times_fits (by omega) ?_
  have e2 := fitI_at (need := need) hk
  have e3 : ((s.node.toNat : Nat) : Int) = s.node := by have := rj.1; omega
  rw [e3] at e2
  omega

/-! what is placed stays -/
open Classical in
noncomputable def lessAt (taken : List Rs) (L : List Sh) (need : Rs) (k : Nat) (f : Rs) : Rs :=
  if ∃ h : k < taken.length, taken[k].ok ∧ f.ok ∧ taken[k].fits f ∧ (need.times (onOf k L).toNat).fits (f.sub taken[k]) then f.sub (taken.getD k Rs.none) else f
theorem less_yes {taken : List Rs} {L : List Sh} {need : Rs} {k : Nat} {f : Rs} (h : k < taken.length) (h1 : taken[k].ok) (h2 : f.ok) (h3 : taken[k].fits f) (h4 : (need.times (onOf k L).toNat).fits (f.sub taken[k])) : lessAt taken L need k f = f.sub taken[k] := by
  unfold lessAt; rw [if_pos ⟨h, h1, h2, h3, h4⟩]; simp [List.getD_eq_getElem?_getD, List.getElem?_eq_getElem h]
theorem less_no {taken : List Rs} {L : List Sh} {need : Rs} {k : Nat} {f : Rs} (h : ¬ ∃ h : k < taken.length, taken[k].ok ∧ f.ok ∧ taken[k].fits f ∧ (need.times (onOf k L).toNat).fits (f.sub taken[k])) : lessAt taken L need k f = f := by
  unfold lessAt; rw [if_neg h]
noncomputable def lessOf (taken : List Rs) (L : List Sh) (need : Rs) (free : List Rs) : List Rs := free.mapIdx (lessAt taken L need)
theorem less_len (taken : List Rs) (L : List Sh) (need : Rs) (free : List Rs) : (lessOf taken L need free).length = free.length := by simp [lessOf]
theorem less_next {taken : List Rs} {L : List Sh} {need : Rs} {free : List Rs} {k : Nat} (hk : k < free.length) : lessOf taken L need (free.take (k + 1)) = lessOf taken L need (free.take k) ++ [lessAt taken L need k free[k]] := by
  unfold lessOf
  rw [List.take_succ_eq_append_getElem hk, List.mapIdx_append]
  simp [List.length_take, Nat.min_eq_left (Nat.le_of_lt hk)]
theorem sub_ok {a b : Rs} (ha : a.ok) (hb : b.ok) (h : b.fits a) : (a.sub b).ok := by
  obtain ⟨⟨_, _⟩, ⟨_, _⟩, ⟨_, _⟩, ⟨_, _⟩⟩ := ha
  obtain ⟨⟨_, _⟩, ⟨_, _⟩, ⟨_, _⟩, ⟨_, _⟩⟩ := hb
  obtain ⟨_, _, _, _⟩ := h
  refine ⟨⟨?_, ?_⟩, ⟨?_, ?_⟩, ⟨?_, ?_⟩, ⟨?_, ?_⟩⟩ <;> (simp only [Rs.sub]; omega)
theorem sub_fits {a b : Rs} (hb : b.ok) : (a.sub b).fits a := by
  obtain ⟨⟨_, _⟩, ⟨_, _⟩, ⟨_, _⟩, ⟨_, _⟩⟩ := hb
  refine ⟨?_, ?_, ?_, ?_⟩ <;> (simp only [Rs.sub]; omega)
theorem count_none (f : Rs) : f.count Rs.none = 0 := by unfold Rs.count; rw [if_neg (by simp)]
theorem fitI_none (free : List Rs) (x : Int) : fitI free x Rs.none = 0 := by
  unfold fitI; split
  · rfl
  · split
    · exact count_none _
    · rfl
theorem room_none (free : List Rs) (l : List Int) : roomOf free Rs.none l = 0 := by
  induction l with
  | nil => rfl
  | cons x r ih => simp only [roomOf, fitI_none, ih]; rfl
theorem on_none {L : List Sh} {x : Int} (h : ∀ s ∈ L, s.node ≠ x) : onOf x L = 0 := by
  induction L with
  | nil => rfl
  | cons s r ih =>
    simp only [onOf]
    rw [if_neg (h s (by simp)), ih fun y hy => h y (by simp [hy])]; rfl
/-- How much of a node of the part is told. -/
theorem on_run (free : List Rs) (need : Rs) (many : Int) (hm : 0 ≤ many) (l : List Int) {n : Int} (hl : Rises l n) (i : Nat) (hi : i < l.length) (k : Nat) (hk : k ≤ l.length) :
    onOf l[i] (runP free need many (l.take k)).1 = if i < k then min (fitI free l[i] need) (runP free need many (l.take i)).2 else 0 := by
  induction k with
  | zero => simp [runP, onOf]
  | succ k ih =>
    have ih := ih (by omega)
    obtain ⟨r1, r2, r3⟩ := run_facts free need many hm l k (by omega)
    rw [run_next (by omega)]
    have hf := fitI_bound free l[k] need
    rcases Nat.lt_trichotomy i k with h | h | h
    · have hne : l[k] ≠ l[i] := by have := rises_lt hl k i hi (by omega) h; omega
      rw [if_pos h] at ih
      rw [if_pos (by omega)]
      unfold stepP
      split
      · exact ih
      · simp only [on_app, onOf, if_neg hne]; omega
    · subst h
      rw [if_neg (by omega)] at ih
      rw [if_pos (by omega)]
      unfold stepP
      split
      · omega
      · simp only [on_app, onOf, if_true]; omega
    · rw [if_neg (by omega)] at ih
      rw [if_neg (by omega)]
      have hne : l[k] ≠ l[i] := by have := rises_lt hl i k (by omega) hi h; omega
      unfold stepP
      split
      · exact ih
      · simp only [on_app, onOf, if_neg hne]; omega
theorem stay_fit {free taken : List Rs} {part : List Int} {many : Int} {need : Rs} (hm : 0 ≤ many) (hneed : need.ok) (h0 : need ≠ Rs.none) (hr : Rises part free.length) (i : Nat) (hi : i < part.length) :
    fitI (lessOf taken (runP free need many part).1 need free) part[i] need ≤ fitI free part[i] need ∧
    min (fitI free part[i] need) (runP free need many (part.take i)).2 ≤ fitI (lessOf taken (runP free need many part).1 need free) part[i] need := by
  have hri := hr i hi
  obtain ⟨k, hk⟩ : ∃ k : Nat, part[i] = k := ⟨part[i].toNat, by have := hri.1; omega⟩
  have hkl : k < free.length := by have := hri.2.1; omega
  have hon := on_run free need many hm part hr i hi part.length (Nat.le_refl _)
  rw [List.take_length, if_pos hi] at hon
  obtain ⟨r1, r2, r3⟩ := run_facts free need many hm part i (by omega)
  have hfb := fitI_bound free part[i] need
  rw [hk] at hon hfb ⊢
  generalize (runP free need many part).1 = L at *
  rw [fitI_at hkl, fitI_at (by rw [less_len]; exact hkl)]
  have e : (lessOf taken L need free)[k]'(by rw [less_len]; exact hkl) = lessAt taken L need k free[k] := by simp [lessOf]
  rw [e]
  rw [fitI_at hkl] at hon hfb
  by_cases hc : ∃ h : k < taken.length, taken[k].ok ∧ free[k].ok ∧ taken[k].fits free[k] ∧ (need.times (onOf k L).toNat).fits (free[k].sub taken[k])
  · obtain ⟨h, h1, h2, h3, h4⟩ := hc
    rw [less_yes h h1 h2 h3 h4]
    refine ⟨count_mono h2 (sub_fits h1), ?_⟩
    have := le_count (n := (onOf k L).toNat) (sub_ok h2 h1 h3) hneed h0 (by omega) h4
    omega
  · rw [less_no hc]
    exact ⟨Int.le_refl _, by omega⟩
theorem stay_run {free taken : List Rs} {part : List Int} {many : Int} {need : Rs} (hm : 0 ≤ many) (hneed : need.ok) (h0 : need ≠ Rs.none) (hr : Rises part free.length) (k : Nat) (hk : k ≤ part.length) :
    runP (lessOf taken (runP free need many part).1 need free) need many (part.take k) = runP free need many (part.take k) := by
  induction k with
  | zero => simp [runP]
  | succ k ih =>
    have ih := ih (by omega)
    obtain ⟨a, b⟩ := stay_fit (taken := taken) hm hneed h0 hr k (by omega)
    rw [run_next (by omega), run_next (by omega), ih]
    have e : min (fitI (lessOf taken (runP free need many part).1 need free) part[k] need) (runP free need many (part.take k)).2 = min (fitI free part[k] need) (runP free need many (part.take k)).2 := by omega
    unfold stepP
    rw [e]
/-- What is placed is placed alike where something else is taken that leaves it its room. -/
theorem stays_all {free taken : List Rs} {part : List Int} {many : Int} {need : Rs} (hneed : need.ok) (hr : Rises part free.length) (h : placeB free part many need = true) :
    placeB (lessOf taken (placeL free part many need) need free) part many need = true ∧ placeL (lessOf taken (placeL free part many need) need free) part many need = placeL free part many need := by
  obtain ⟨h1, h2, e⟩ := place_yes h
  have h0 : need ≠ Rs.none := by rintro rfl; rw [room_none] at h2; omega
  have hs := stay_run (taken := taken) (many := many) (by omega) hneed h0 hr part.length (Nat.le_refl _)
  have l1 := run_left free need many (by omega) part part.length (Nat.le_refl _)
  have l2 := run_left (lessOf taken (runP free need many part).1 need free) need many (by omega) part part.length (Nat.le_refl _)
  rw [hs] at l2
  rw [List.take_length] at l1 l2 hs
  rw [e]
  have hc : ¬ (many < 1 ∨ roomOf (lessOf taken (runP free need many part).1 need free) need part < many) := by omega
  refine ⟨by unfold placeB; rw [if_neg hc], by unfold placeL; rw [if_neg hc, hs]⟩
end Go.Proofs.Ytcgfjobdpcdhhaa
