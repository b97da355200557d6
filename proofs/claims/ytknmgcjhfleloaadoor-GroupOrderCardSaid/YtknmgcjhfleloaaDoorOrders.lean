/-
  The order of a batch, chain by chain: contracts of group.Order and of the reference's Order.
-/
import Derived.Test.YtknmgcjhfleloaaDoorChains
namespace Go.Proofs.YtknmgcjhfleloaaDoor
open Go.RowKit Go.BigFrame
set_option linter.unusedVariables false

def order (l : List Rq) : List Nat := (chains l l.length).flatten
theorem flatten_set {cs : List (List Nat)} {i n : Nat} (h : i < cs.length) : ((cs.set i (cs[i] ++ [n])).flatten).Perm (cs.flatten ++ [n]) := by
  induction cs generalizing i with
  | nil => simp at h
  | cons c r ih =>
    cases i with
    | zero =>
      simp only [List.set_cons_zero, List.flatten_cons, List.getElem_cons_zero, List.append_assoc]
      exact List.Perm.append_left _ List.perm_append_comm
    | succ i =>
      simp only [List.set_cons_succ, List.flatten_cons, List.getElem_cons_succ, List.append_assoc]
      exact List.Perm.append_left _ (ih (by simpa using h))
theorem chains_perm (l : List Rq) (n : Nat) : ((chains l n).flatten).Perm (List.range n) := by
  induction n with
  | zero => exact List.Perm.refl _
  | succ n ih =>
    rw [List.range_succ]
    by_cases h : first l n = n
    · rw [chains_new h, List.flatten_append]
      exact List.Perm.append_right _ ih
    · have hlt : first l n < n := by have := first_le l n; omega
      obtain ⟨hk, e⟩ := chains_more hlt rfl (first_first l n)
      rw [e]
      exact (flatten_set hk).trans (List.Perm.append_right _ ih)
theorem flat_len (l : List Rq) (n : Nat) : ((chains l n).flatten).length = n := by
  have := (chains_perm l n).length_eq; simpa using this
def flatTo (cs : List (List Nat)) (k : Nat) : List Nat := (cs.take k).flatten
theorem flatTo_next {cs : List (List Nat)} {k : Nat} (h : k < cs.length) : flatTo cs (k + 1) = flatTo cs k ++ nth cs k := by
  unfold flatTo; rw [List.take_succ_eq_append_getElem h, List.flatten_append, nth_at h]; simp
theorem flatTo_all (cs : List (List Nat)) : flatTo cs cs.length = cs.flatten := by unfold flatTo; rw [List.take_length]
theorem flatTo_le (cs : List (List Nat)) (k : Nat) : (flatTo cs k).length ≤ cs.flatten.length := by
  conv => rhs; rw [← List.take_append_drop k cs]
  rw [List.flatten_append, List.length_append]
  exact Nat.le_add_right _ _
theorem nvs_appL (xs ys : List Nat) : nvs (xs ++ ys) = nvs xs ++ nvs ys := by simp [nvs]
theorem row_cells {w : World} {A : Option Addr} {B : Nat} {vs : List Value} (h : Row w B A vs) : ∀ ad, A = some ad → ∀ j u, vs[j]? = some u → w.cell? (ad.add j) = some u := by
  intro ad e j u hu
  obtain ⟨b, off, hh, _, hc⟩ := h (by rcases Nat.lt_or_ge j vs.length with hj | hj; omega; rw [List.getElem?_eq_none hj] at hu; cases hu)
  rw [hh] at e
  cases e
  rw [Go.WideShapes.add_plain]
  exact hc j u hu

/-- What a function that makes an order returns. -/
def Listed (w : World) (xs : List Nat) (e : Ending) (w' : World) : Prop := ∃ A c, e = .returned (.slice A xs.length c) ∧ Row w' w'.heap.size A (nvs xs) ∧ Below w.heap.size w w'
theorem listed_of {w w' : World} {base n : Nat} {v : Value} {xs ys : List Nat} (h : w'.ownsRow base 3 1 v n (nvs xs)) (hn : n = xs.length) (he : ys = xs) (hb : Below w.heap.size w w') : Listed w ys (.returned v) w' := by
  subst hn he
  obtain ⟨A, c, rfl⟩ := own_form h
  exact ⟨A, c, rfl, Row.of_own h, hb⟩

set_option maxHeartbeats 4000000 in
theorem rorder_any (A : Option Addr) (cap B : Nat) (l : List Cl) (w : World) (hr : Row w B A (flatC l)) (hB : B ≤ w.heap.size) (hn : l.length ≤ 1000) :
    Calls Tryd.prog 11 #[.slice A l.length cap] w (Listed w (order (rqs l))) := by
  obtain ⟨i3, hi3, hz30, hz31, hz32⟩ := info_parts info3
  have e0 : order (rqs l) = (chains (rqs l) l.length).flatten := by unfold order; rw [rqs_len]
  have HE := Lib.hid e0
  clear e0
  have HFL := Lib.hid (flat_len (rqs l) l.length)
  go_enter Tryd.func11, Tryd.ntmps11
  go_wp2_with fail
  refine (rchains_any _ _ _ l _ hr hB hn).mono ?_
  rintro e w1 ⟨Ac, cc, rfl, hg, hb1⟩
  have hcl := chains_le (rqs l) l.length
  generalize chains (rqs l) l.length = cs at *
  go_wp2
  go_loopw [3, 5] (fun v i wr => ∃ k : Nat, k ≤ cs.length ∧ i = .int .i64 k ∧ wr.ownsRow w1.heap.size 3 1 v (flatTo cs k).length (nvs (flatTo cs k)) ∧ Below w1.heap.size w1 wr) (fun _ i _ => cs.length - (intOf i).toNat)
  case atStart => exact ⟨0, Nat.zero_le _, rfl, World.ownsRow_nil _ _ _ _, Below.refl _ _⟩
  case round =>
    obtain ⟨k, hk, rfl, hown, hbel⟩ := hrel
    have hz := hbel.size
    by_cases hlt : k < cs.length
    · obtain ⟨b, A', c', rfl, hb0, hc, hrow, _⟩ := (hg.below hbel).at hlt
      have HN := Lib.hid (flatTo_next hlt)
      have h1 := flatTo_le cs (k + 1)
      rw [HN.out, List.length_append, HFL.out] at h1
      go_wp2_with (at_builtin; refine wpList_append_row rfl (.tmp 14) (.tmp 18) 27 rfl w1.heap.size 3 i3 _ 1 8 Tryd.underlying27 hi3 hz30 hz31 hz32 rfl (by decide) _ _ _ rfl hown wr.heap.size A' (nth cs k).length c' (nvs (nth cs k)) rfl hrow (by rw [nvs_len, Nat.mul_one]) (one_nvs _) (by unfold maxLen; omega) (by omega) hz ?_; intro v3 w3 ho3 hg3)
      go_roundw
      case rel =>
        refine ⟨k + 1, by omega, by go_num, ?_, hbel.grown hg3 hz (fun q hq => (hown.lt q hq).1)⟩
        rw [HN.out, nvs_appL, List.length_append]
        exact ho3
      case measure => simp [intOf]; omega
    · obtain rfl : k = cs.length := by omega
      go_wp2
      go_ret
      exact listed_of hown rfl (by rw [HE.out, flatTo_all]) (hb1.trans (hbel.mono hb1.size))

/-- The same, with what room it has. -/
def ListedC (w : World) (xs : List Nat) (e : Ending) (w' : World) : Prop := ∃ A c, e = .returned (.slice A xs.length c) ∧ Row w' w'.heap.size A (nvs xs) ∧ Below w.heap.size w w' ∧ xs.length ≤ c ∧ (A = none → c = 0)
theorem listedC_of {w w' : World} {base n : Nat} {v : Value} {xs ys : List Nat} (h : w'.ownsRow base 3 1 v n (nvs xs)) (hn : n = xs.length) (he : ys = xs) (hb : Below w.heap.size w w') : ListedC w ys (.returned v) w' := by
  subst hn he
  obtain ⟨A, c, rfl⟩ := own_form h
  refine ⟨A, c, rfl, Row.of_own h, hb, ?_, fun hA => ?_⟩
  · rcases h.2 with ⟨hv, hz⟩ | ⟨g, cap, cur, hv, _, _, hnc, _⟩
    · omega
    · injection hv with _ _ h3; omega
  · rcases h.2 with ⟨hv, hz⟩ | ⟨g, cap, cur, hv, _⟩
    · injection hv
    · injection hv with h1 _ _; rw [hA] at h1; cases h1

set_option maxHeartbeats 4000000 in
theorem orderC_any (A : Option Addr) (cap B : Nat) (l : List Cl) (w : World) (hr : Row w B A (flatC l)) (hB : B ≤ w.heap.size) (hn : l.length ≤ 1000) (hchg : Chg w) (hwf : ∀ b ∈ l, wfJ b.j) :
    Calls Tryd.prog 10 #[.slice A l.length cap] w (ListedC w (order (rqs l))) := by
  obtain ⟨i3, hi3, hz30, hz31, hz32⟩ := info_parts info3
  have e0 : order (rqs l) = (chains (rqs l) l.length).flatten := by unfold order; rw [rqs_len]
  have HE := Lib.hid e0
  clear e0
  have HFL := Lib.hid (flat_len (rqs l) l.length)
  have HWF := Lib.hid hwf
  clear hwf
  go_enter Tryd.func10, Tryd.ntmps10
  go_wp2_with (refine wpList_make_own _ rfl (.const (.int .i64 0)) (.tmp 7) 27 rfl w.heap.size 3 i3 _ 1 Tryd.underlying27 hi3 hz30 hz31 .i64 .i64 _ l.length rfl rfl rfl (by rw [hz32]; omega) (by unfold maxLen; omega) (Nat.le_refl _) ?_; intro w0 ho0 hg0)
  have hb0 : Below w.heap.size w w0 := (Below.refl _ _).grown hg0 (Nat.le_refl _) (fun q hq => by cases hq)
  have z0 := (ho0.lt w.heap.size rfl).2
  refine (chains_any _ _ _ l _ (by exact (hr.more hB).below hb0) (by omega) hn (hchg.later hb0) HWF.out).mono ?_
  rintro e w1 ⟨Ac, cc, rfl, hg, hb1⟩
  have hcl := chains_le (rqs l) l.length
  have ho1 := own_below ho0 hb1
  have z1 := hb1.size
  generalize chains (rqs l) l.length = cs at *
  go_wp2
  go_loopw [3, 12] (fun v i wr => ∃ k : Nat, k ≤ cs.length ∧ i = .int .i64 k ∧ v = .slice (some ⟨w.heap.size, 0, none⟩) (flatTo cs k).length l.length ∧ wr.ownsRow w.heap.size 3 1 (.slice (some ⟨w.heap.size, 0, none⟩) (flatTo cs k).length l.length) (flatTo cs k).length (nvs (flatTo cs k)) ∧ OwnG wr w0.heap.size (.slice Ac cs.length cc) cs ∧ Below w.heap.size w wr) (fun _ i _ => cs.length - (intOf i).toNat)
  case atStart => exact ⟨0, Nat.zero_le _, rfl, rfl, ho1, hg, hb0.trans (hb1.mono hb0.size)⟩
  case round =>
    clear hg
    obtain ⟨k, hk, rfl, rfl, hown, hg, hbel⟩ := hrel
    have hz := hbel.size
    by_cases hlt : k < cs.length
    · obtain ⟨b, A', c', rfl, hb2, hc, hrow, hno⟩ := hg.at hlt
      have HNO := Lib.hid hno
      clear hno
      have HN := Lib.hid (flatTo_next hlt)
      have h1 := flatTo_le cs (k + 1)
      rw [HN.out, List.length_append, HFL.out] at h1
      go_wp2_with (at_builtin; refine wpList_append_fits_any _ rfl (.tmp 16) (.tmp 17) 27 rfl w.heap.size 3 i3 1 Tryd.underlying27 hi3 hz31 w.heap.size _ _ _ rfl hown A' (nth cs k).length c' (nvs (nth cs k)) rfl (by rw [nvs_len, Nat.mul_one]) HNO.out (row_cells hrow) (one_nvs _) (by omega) ?_; intro w3 ho3 hg3)
      go_roundw
      case rel =>
        refine ⟨k + 1, by omega, by go_num, ?_, ?_, hg.grown hg3 (fun q hq => by cases hq; omega), hbel.grown hg3 hz (fun q hq => by cases hq; exact Nat.le_refl _)⟩
        · rw [HN.out, List.length_append]
        · rw [HN.out, nvs_appL, List.length_append]; exact ho3
      case measure => simp [intOf]; omega
    · obtain rfl : k = cs.length := by omega
      go_wp2
      go_ret
      exact listedC_of hown rfl (by rw [HE.out, flatTo_all]) hbel
theorem order_any (A : Option Addr) (cap B : Nat) (l : List Cl) (w : World) (hr : Row w B A (flatC l)) (hB : B ≤ w.heap.size) (hn : l.length ≤ 1000) (hchg : Chg w) (hwf : ∀ b ∈ l, wfJ b.j) :
    Calls Tryd.prog 10 #[.slice A l.length cap] w (Listed w (order (rqs l))) :=
  (orderC_any A cap B l w hr hB hn hchg hwf).mono fun e w' ⟨A', c, h1, h2, h3, _⟩ => ⟨A', c, h1, h2, h3⟩
end Go.Proofs.YtknmgcjhfleloaaDoor
