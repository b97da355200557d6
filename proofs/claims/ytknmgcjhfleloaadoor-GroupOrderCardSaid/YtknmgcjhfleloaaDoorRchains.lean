/-
  The contract of the reference's Chains.
-/
import Derived.Test.YtknmgcjhfleloaaDoorOwn
import Derived.Deep.LoopGhost
namespace Go.Proofs.YtknmgcjhfleloaaDoor
open Go.RowKit Go.BigFrame
set_option linter.unusedVariables false

theorem chainOf_head {l : List Rq} {n s : Nat} (hs : s < n) (h : first l s = s) : ∃ r, chainOf l n s = s :: r := by
  induction n with
  | zero => omega
  | succ n ih =>
    rw [chainOf_succ]
    rcases Nat.lt_or_ge s n with h1 | h1
    · obtain ⟨r, e⟩ := ih h1
      exact ⟨r ++ if first l n == s then [n] else [], by rw [e]; rfl⟩
    · obtain rfl : s = n := by omega
      exact ⟨[], by rw [chainOf_new, if_pos (by simpa using h)]; rfl⟩
/-- The chains that begin among the first i, of the first n. -/
def chainsTo (l : List Rq) (i n : Nat) : List (List Nat) := (starts l i).map (chainOf l n)
theorem chainsTo_all (l : List Rq) (n : Nat) : chainsTo l n n = chains l n := rfl
theorem chainsTo_len (l : List Rq) (i n : Nat) : (chainsTo l i n).length = (starts l i).length := by simp [chainsTo]
theorem starts_len (l : List Rq) (i : Nat) : (starts l i).length ≤ i := by
  unfold starts; have := List.length_filter_le (fun s => first l s == s) (List.range i); simpa using this
theorem chainsTo_le (l : List Rq) (i n : Nat) : (chainsTo l i n).length ≤ i := by rw [chainsTo_len]; exact starts_len l i
theorem chainsTo_skip {l : List Rq} {i n : Nat} (h : first l i ≠ i) : chainsTo l (i + 1) n = chainsTo l i n := by
  unfold chainsTo; rw [starts_succ, if_neg (by simpa using h), List.append_nil]
theorem chainsTo_take {l : List Rq} {i n : Nat} (h : first l i = i) : chainsTo l (i + 1) n = chainsTo l i n ++ [chainOf l n i] := by
  unfold chainsTo; rw [starts_succ, if_pos (by simpa using h), List.map_append]; rfl
theorem chainsTo_nth {l : List Rq} {i n j : Nat} (hi : i ≤ n) (hj : j < (chainsTo l i n).length) : ∃ s r, s < i ∧ nth (chainsTo l i n) j = s :: r ∧ ∃ h : j < (starts l i).length, (starts l i)[j] = s := by
  have h : j < (starts l i).length := by rw [chainsTo_len] at hj; exact hj
  have hm := mem_starts.1 (List.getElem_mem h)
  obtain ⟨r, e⟩ := chainOf_head (n := n) (by omega) hm.2
  refine ⟨(starts l i)[j], r, hm.1, ?_, h, rfl⟩
  rw [nth_at hj]
  simp only [chainsTo, List.getElem_map]
  exact e
theorem chainsTo_heads {l : List Rq} {i n : Nat} (hi : i ≤ n) : Heads (chainsTo l i n) := by
  refine ⟨fun j hj => ?_, fun j k hj hk hne => ?_⟩
  · obtain ⟨s, r, _, e, _⟩ := chainsTo_nth hi hj
    rw [e]; simp
  · obtain ⟨s, r, _, e, hs, es⟩ := chainsTo_nth hi hj
    obtain ⟨s', r', _, e', hs', es'⟩ := chainsTo_nth hi hk
    rw [e, e']
    intro h
    simp at h
    exact hne (rising_inj (starts_rising l i) hs hs' (by rw [es, es', h]))
theorem chainOf_len (l : List Rq) (n s : Nat) : (chainOf l n s).length ≤ n := by
  unfold chainOf; have := List.length_filter_le (fun k => first l k == s) (List.range n); simpa using this

/-- A row beside the chains grows: they stay. -/
theorem Inner.beside {w w' : World} {base : Nat} {s : Value} {ss : List Value} {cs : List (List Nat)} {x : List Nat} (h : Inner w base ss cs) (hs : w.ownsRow base 3 1 s x.length (nvs x)) (hx : x = [] → s = .slice none 0 0)
    (hh : ∀ j, j < cs.length → 0 < (nth cs j).length ∧ (nth cs j)[0]? ≠ x[0]?) (hg : w.grownBy w' s.ownBlock) : Inner w' base ss cs := by
  refine ⟨h.1, fun i hi => own_grown (h.2 i hi) hg fun q hq e => ?_⟩
  cases x with
  | nil => rw [hx rfl] at hq; cases hq
  | cons a r =>
    have h2 := hh i (by rw [← h.1]; exact hi)
    cases hc : nth cs i with
    | nil => rw [hc] at h2; simp at h2
    | cons b t =>
      rw [hc] at h2
      have h3 := h.2 i hi
      rw [hc] at h3
      exact own_heads h3 hs (a := .int .i64 (b : Int)) (b := .int .i64 (a : Int)) (by simp [nvs]) (by simp [nvs]) (by intro e'; injection e' with _ e''; simp at h2; omega) e hq
theorem row_beside {w w' : World} {base n : Nat} {s v : Value} {x : List Nat} {ts : List Value} (h : w.ownsRow base 27 1 v n ts) (hs : w.ownsRow base 3 1 s x.length (nvs x)) (hg : w.grownBy w' s.ownBlock) : w'.ownsRow base 27 1 v n ts :=
  own_grown h hg fun q hq e => own_types h hs (by decide) e hq

theorem own_base {w : World} {base base' : Nat} {e : TypeId} {size n : Nat} {v : Value} {xs : List Value} (h : w.ownsRow base e size v n xs) (hb : base' ≤ base) : w.ownsRow base' e size v n xs := by
  refine ⟨h.1, ?_⟩
  rcases h.2 with h0 | ⟨g, cap, cur, e1, e2, e3⟩
  · exact .inl h0
  · exact .inr ⟨g, cap, cur, e1, Nat.le_trans hb e2, e3⟩
theorem OwnG.base {w : World} {base base' : Nat} {v : Value} {cs : List (List Nat)} (h : OwnG w base v cs) (hb : base' ≤ base) : OwnG w base' v cs := by
  obtain ⟨ss, h1, h2⟩ := h
  exact ⟨ss, ⟨h1.1, fun i hi => own_base (h1.2 i hi) hb⟩, own_base h2 hb⟩
theorem OwnG.at {w : World} {base c : Nat} {A : Option Addr} {cs : List (List Nat)} {k : Nat} (h : OwnG w base (.slice A cs.length c) cs) (hk : k < cs.length) :
    ∃ b A' c', A = some ⟨b, 0, none⟩ ∧ b < w.heap.size ∧ w.cell? ⟨b, k, none⟩ = some (.slice A' (nth cs k).length c') ∧ Row w w.heap.size A' (nvs (nth cs k)) ∧ (A' = none → (nth cs k).length = 0 ∧ c' = 0) := by
  obtain ⟨ss, h1, h2⟩ := h
  have hk' : k < ss.length := by rw [h1.1]; exact hk
  obtain ⟨g, cap, e, _, hg⟩ := own_some h2 (by omega)
  rw [e] at h2
  have hc := own_at h2 hk'
  have ho := h1.2 k hk'
  obtain ⟨A', c', e'⟩ := own_form ho
  rw [e'] at hc ho
  injection e with e1 _ _
  refine ⟨g, A', c', e1, hg, hc, Row.of_own ho, fun hA => ?_⟩
  rcases ho.2 with ⟨hv, hz⟩ | ⟨_, _, _, hv, _⟩
  · injection hv with _ h5 h6; exact ⟨h5, h6⟩
  · injection hv with h4 _ _; rw [hA] at h4; cases h4
/-- What a function that makes chains returns. -/
def Chained (w : World) (cs : List (List Nat)) (e : Ending) (w' : World) : Prop := ∃ A c, e = .returned (.slice A cs.length c) ∧ OwnG w' w.heap.size (.slice A cs.length c) cs ∧ Below w.heap.size w w'
theorem chained_of {w w' : World} {base : Nat} {v : Value} {cs : List (List Nat)} (h : OwnG w' base v cs) (hbase : w.heap.size ≤ base) (hb : Below w.heap.size w w') : Chained w cs (.returned v) w' := by
  have h' := h.base hbase
  obtain ⟨ss, h1, h2⟩ := h
  obtain ⟨A, c, rfl⟩ := own_form h2
  exact ⟨A, c, rfl, h', hb⟩
theorem info3 : (Tryd.prog.info? 3).map (fun i => (i.zero, i.size, i.bytes)) = some (some (.int .i64 0), 1, 8) := by kernel_rfl
theorem info27 : (Tryd.prog.info? 27).map (fun i => (i.zero, i.size, i.bytes)) = some (some (.slice none 0 0), 1, 24) := by kernel_rfl
theorem rqs_len (l : List Cl) : (rqs l).length = l.length := by simp [rqs]

theorem Inner.alloc {w : World} {base : Nat} {ss : List Value} {cs : List (List Nat)} (h : Inner w base ss cs) (o : Obj) : Inner (w.alloc o) base ss cs := ⟨h.1, fun i hi => (h.2 i hi).alloc o⟩
theorem one_slice (A : Option Addr) (n c : Nat) : ∀ u ∈ [Value.slice A n c], u.oneCell' = true := by simp [Value.oneCell']
theorem one_int (x : Int) : ∀ u ∈ [Value.int .i64 x], u.oneCell' = true := by simp [Value.oneCell']
theorem beside_heads {l : List Rq} {k j n q : Nat} (hk : k ≤ n) (hkj : k ≤ j) (hf : first l k = k) (hq : q < (chainsTo l k n).length) : 0 < (nth (chainsTo l k n) q).length ∧ (nth (chainsTo l k n) q)[0]? ≠ (chainOf l j k)[0]? := by
  obtain ⟨s, r, hs, e, _⟩ := chainsTo_nth hk hq
  rw [e]
  refine ⟨by simp, ?_⟩
  rcases Nat.lt_or_ge k j with h | h
  · obtain ⟨r', e'⟩ := chainOf_head h hf
    rw [e']; simp; omega
  · obtain rfl : j = k := by omega
    rw [chainOf_new]; simp

set_option maxHeartbeats 4000000 in
theorem rchains_any (A : Option Addr) (cap B : Nat) (l : List Cl) (w : World) (hr : Row w B A (flatC l)) (hB : B ≤ w.heap.size) (hn : l.length ≤ 1000) :
    Calls Tryd.prog 8 #[.slice A l.length cap] w (Chained w (chains (rqs l) l.length)) := by
  obtain ⟨i3, hi3, hz30, hz31, hz32⟩ := info_parts info3
  obtain ⟨i27, hi27, hz270, hz271, hz272⟩ := info_parts info27
  have hrm := hr.more hB
  go_enter Tryd.func8, Tryd.ntmps8
  go_wp2
  go_loopw [3, 4] (fun v i wr => ∃ k : Nat, k ≤ l.length ∧ i = .int .i64 k ∧ OwnG wr w.heap.size v (chainsTo (rqs l) k l.length) ∧ Below w.heap.size w wr) (fun _ i _ => l.length - (intOf i).toNat)
  case atStart => exact ⟨0, Nat.zero_le _, rfl, ⟨[], ⟨rfl, fun i h => by simp at h⟩, World.ownsRow_nil _ _ _ _⟩, Below.refl _ _⟩
  case round =>
    obtain ⟨k, hk, rfl, hown, hbel⟩ := hrel
    have hz := hbel.size
    by_cases hlt : k < l.length
    rotate_left
    · obtain rfl : k = l.length := by omega
      go_wp2
      go_ret
      exact chained_of hown (Nat.le_refl _) hbel
    go_wp2_with fail
    refine (first_any _ _ l hn k _ _ (by exact hrm.below hbel) hz hlt).mono ?_
    rintro e w1 ⟨rfl, hb1⟩
    have hbel1 := hbel.trans (hb1.mono hz)
    have hown1 := hown.below hb1
    have z1 := hb1.size
    clear hown
    by_cases hf : first (rqs l) k = k
    rotate_left
    · have hf1 : (((first (rqs l) k : Nat) : Int) != (k : Int)) = true := by simp; omega
      have hf2 : (first (rqs l) k != k) = true := by simp [hf]
      have HS := Lib.hid (chainsTo_skip (n := l.length) hf)
      clear hf
      go_wp2
      go_roundw
      case rel => exact ⟨k + 1, by omega, by go_num, by rw [HS.out]; exact hown1, hbel1⟩
      case measure => simp [intOf]; omega
    have HT := Lib.hid (chainsTo_take (n := l.length) hf)
    have HF := Lib.hid hf
    rw [hf]
    clear hf
    go_wp2
    obtain ⟨ss, hin1, hout1⟩ := hown1
    go_loopw [5, 6] (fun c s wr => ∃ j : Nat, k ≤ j ∧ j ≤ l.length ∧ s = .int .i64 j ∧ wr.ownsRow w.heap.size 3 1 c (chainOf (rqs l) j k).length (nvs (chainOf (rqs l) j k)) ∧ Hid (chainOf (rqs l) j k = [] → c = .slice none 0 0) ∧ Inner wr w.heap.size ss (chainsTo (rqs l) k l.length) ∧ wr.ownsRow w.heap.size 27 1 u3 (chainsTo (rqs l) k l.length).length ss ∧ Below w.heap.size w wr) (fun _ s _ => l.length - (intOf s).toNat)
    case atStart => exact ⟨k, Nat.le_refl _, by omega, rfl, by rw [chainOf_new]; exact World.ownsRow_nil _ _ _ _, fun _ => rfl, hin1, hout1, hbel1⟩
    case round =>
      clear hin1 hout1
      obtain ⟨j, hkj, hj, rfl, hc, hnil, hin, hout, hbj⟩ := hrel
      have hzj := hbj.size
      by_cases hjl : j < l.length
      rotate_left
      · obtain rfl : j = l.length := by omega
        obtain ⟨Ac, cc, rfl⟩ := own_form hc
        have hle := chainsTo_le (rqs l) k l.length
        go_wp2_with (at_builtin; refine wpList_append_row rfl (.tmp 34) (.tmp 36) 24 rfl w.heap.size 27 i27 _ 1 24 Tryd.underlying24 hi27 hz270 hz271 hz272 rfl (by decide) _ _ _ rfl (hout.alloc _) (wr.heap.size + 1) (some ⟨wr.heap.size, 0, none⟩) 1 1 [_] rfl (Row.lit _ _ _) rfl (one_slice _ _ _) (by unfold maxLen; omega) (by omega) (by simp; omega) ?_; intro v3 w3 ho3 hg3)
        go_roundw
        case rel =>
          refine ⟨k + 1, by omega, by go_num, ?_, (hbj.alloc hzj _).grown hg3 (by simp; omega) (fun q hq => (hout.lt q hq).1)⟩
          rw [HT.out]
          exact OwnG.push (hin.alloc _) (hout.alloc _) (hc.alloc _) ho3 hg3
        case measure => simp [intOf]; omega
      go_wp2_with fail
      refine (first_any _ _ l hn j _ _ (by exact hrm.below hbj) hzj hjl).mono ?_
      rintro e w2 ⟨rfl, hb2⟩
      have hbj2 := hbj.trans (hb2.mono hzj)
      have hc2 := own_below hc hb2
      have hin2 := hin.below hb2
      have hout2 := own_below hout hb2
      have z2 := hbj2.size
      clear hc hin hout
      by_cases hfj : first (rqs l) j = k
      · have hf1 : (((first (rqs l) j : Nat) : Int) == (k : Int)) = true := by simp [hfj]
        have hf2 : (first (rqs l) j == k) = true := by simp [hfj]
        have HC := Lib.hid (chainOf_succ (rqs l) j k)
        rw [if_pos hf2] at HC
        have hlen := chainOf_len (rqs l) j k
        have HH : Hid (∀ q, q < (chainsTo (rqs l) k l.length).length → 0 < (nth (chainsTo (rqs l) k l.length) q).length ∧ (nth (chainsTo (rqs l) k l.length) q)[0]? ≠ (chainOf (rqs l) j k)[0]?) := fun q hq => beside_heads (by omega) hkj HF.out hq
        clear hfj
        go_wp2_with (at_builtin; refine wpList_append_row rfl (.tmp 30) (.tmp 32) 27 rfl w.heap.size 3 i3 _ 1 8 Tryd.underlying27 hi3 hz30 hz31 hz32 rfl (by decide) _ _ _ rfl (hc2.alloc _) (w2.heap.size + 1) (some ⟨w2.heap.size, 0, none⟩) 1 1 [.int .i64 (j : Int)] rfl (Row.lit _ _ _) rfl (one_int _) (by unfold maxLen; omega) (by omega) (by simp; omega) ?_; intro v3 w3 ho3 hg3)
        go_roundw
        case rel =>
          refine ⟨j + 1, by omega, by omega, by go_num, ?_, ?_, (hin2.alloc _).beside (hc2.alloc _) hnil.out HH.out hg3, row_beside (hout2.alloc _) (hc2.alloc _) hg3, (hbj2.alloc z2 _).grown hg3 (by simp; omega) (fun q hq => (hc2.lt q hq).1)⟩
          · rw [HC.out, nvs_app]; simpa using ho3
          · intro h; rw [HC.out] at h; simp at h
        case measure => simp [intOf]; omega
      · have hf1 : (((first (rqs l) j : Nat) : Int) == (k : Int)) = false := by simp; omega
        have hf2 : (first (rqs l) j == k) = false := by simp [hfj]
        have HC := Lib.hid (chainOf_succ (rqs l) j k)
        rw [hf2] at HC
        clear hfj
        go_wp2
        go_roundw
        case rel =>
          have e : chainOf (rqs l) (j + 1) k = chainOf (rqs l) j k := by rw [HC.out]; simp
          exact ⟨j + 1, by omega, by omega, by go_num, by rw [e]; exact hc2, by rw [e]; exact hnil, hin2, hout2, hbj2⟩
        case measure => simp [intOf]; omega
end Go.Proofs.YtknmgcjhfleloaaDoor
