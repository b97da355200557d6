/-
  The contract of place.Place.
-/
import Derived.Test.YtcgfjobdpcdhhaaFit
import Derived.Deep.RegionLaw
import Derived.Maps.RangeWalk
import Derived.WalkMore
namespace Go.Proofs.Ytcgfjobdpcdhhaa
open Go.RowKit Go.BigFrame
set_option linter.unusedVariables false

theorem own_below {B : Nat} {e : TypeId} {k : Nat} {v : Value} {n : Nat} {xs : List Value} {w w' : World} (h : w.ownsRow B e k v n xs) (hb : Below w.heap.size w w') : w'.ownsRow B e k v n xs :=
  h.kept (row := none) ⟨hb.os, hb.tape, hb.output, hb.size, fun j hj _ => hb.block j hj⟩ (by cases hv : v.ownBlock <;> simp)
theorem info52 : (Try.prog.info? 52).map (fun i => (i.zero, i.size, i.bytes)) = some (some (.agg #[.int .i64 0, .int .i64 0]), 2, 16) := by kernel_rfl
theorem one_flat (l : List Sh) : ∀ u ∈ flat l, u.oneCell' = true := by
  intro u hu
  simp only [flat, List.mem_flatMap, Sh.cs] at hu
  obtain ⟨b, _, hb⟩ := hu
  simp at hb
  rcases hb with rfl | rfl <;> rfl

/-- One node: what is put there. -/
def stepP (free : List Rs) (need : Rs) (s : List Sh × Int) (x : Int) : List Sh × Int :=
  if min (fitI free x need) s.2 = 0 then s else (s.1 ++ [⟨x, min (fitI free x need) s.2⟩], s.2 - min (fitI free x need) s.2)
def runP (free : List Rs) (need : Rs) (many : Int) (l : List Int) : List Sh × Int := l.foldl (stepP free need) ([], many)
theorem run_next {free : List Rs} {need : Rs} {many : Int} {l : List Int} {k : Nat} (hk : k < l.length) : runP free need many (l.take (k + 1)) = stepP free need (runP free need many (l.take k)) l[k] := by
  unfold runP; rw [List.take_succ_eq_append_getElem hk, List.foldl_append]; rfl
theorem step_zero {free : List Rs} {need : Rs} {s : List Sh × Int} {x : Int} (h : s.2 = 0) : stepP free need s x = s := by
  unfold stepP; rw [if_pos]; have := fitI_bound free x need; omega
theorem fold_zero {free : List Rs} {need : Rs} {s : List Sh × Int} (l : List Int) (h : s.2 = 0) : l.foldl (stepP free need) s = s := by
  induction l with
  | nil => rfl
  | cons x r ih => rw [List.foldl_cons, step_zero h, ih]
theorem run_stop {free : List Rs} {need : Rs} {many : Int} {l : List Int} {k : Nat} (h : (runP free need many (l.take k)).2 = 0) : runP free need many l = runP free need many (l.take k) := by
  conv => lhs; rw [← List.take_append_drop k l]
  unfold runP at *
  rw [List.foldl_append, fold_zero _ h]
theorem step_facts {free : List Rs} {need : Rs} {s : List Sh × Int} {x : Int} (h : 0 ≤ s.2) : 0 ≤ (stepP free need s x).2 ∧ (stepP free need s x).2 ≤ s.2 ∧ (stepP free need s x).1.length ≤ s.1.length + 1 := by
  have := fitI_bound free x need
  unfold stepP
  split
  · exact ⟨h, by omega, by omega⟩
  · exact ⟨by simp only []; omega, by simp only []; omega, by simp⟩
theorem run_facts (free : List Rs) (need : Rs) (many : Int) (hm : 0 ≤ many) (l : List Int) : ∀ k, k ≤ l.length → 0 ≤ (runP free need many (l.take k)).2 ∧ (runP free need many (l.take k)).2 ≤ many ∧ (runP free need many (l.take k)).1.length ≤ k := by
  intro k
  induction k with
  | zero => intro _; simp [runP, hm]
  | succ k ih =>
    intro hk
    obtain ⟨a, b, c⟩ := ih (by omega)
    rw [run_next (by omega)]
    obtain ⟨a', b', c'⟩ := step_facts (free := free) (need := need) (x := l[k]) a
    exact ⟨a', by omega, by omega⟩

/-- What Place answers: the shares, and whether there is room. -/
def Placed (w : World) (l : List Sh) (ok : Bool) (e : Ending) (w' : World) : Prop :=
  ∃ A c, e = .returned (.tuple #[.slice A l.length c, .bool ok]) ∧ l.length ≤ c ∧ Row w' w'.heap.size A (flat l) ∧ Below w.heap.size w w'
def placeL (free : List Rs) (part : List Int) (many : Int) (need : Rs) : List Sh := if many < 1 ∨ roomOf free need part < many then [] else (runP free need many part).1
def placeB (free : List Rs) (part : List Int) (many : Int) (need : Rs) : Bool := if many < 1 ∨ roomOf free need part < many then false else true
theorem placed_of {w w' : World} {base : Nat} {v : Value} {l m : List Sh} {ok : Bool} {n : Nat} {e : Ending} (he : e = .returned (.tuple #[v, .bool ok])) (hn : n = l.length) (ho : w'.ownsRow base 52 2 v n (flat l)) (hb : Below w.heap.size w w') (hm : m = l) :
    Placed w m ok e w' := by
  subst hm hn
  obtain ⟨A, c, rfl⟩ := own_form ho
  refine ⟨A, c, he, ?_, Row.of_own ho, hb⟩
  rcases ho.2 with ⟨hv, hz⟩ | ⟨g, cap, cur, hv, _, hg, hh, _⟩
  · omega
  · cases hv; exact hh
theorem placed_no {w w' : World} {free : List Rs} {part : List Int} {many : Int} {need : Rs} (h : many < 1 ∨ roomOf free need part < many) (hb : Below w.heap.size w w') :
    Placed w (placeL free part many need) (placeB free part many need) (.returned (.tuple #[.slice none 0 0, .bool false])) w' := by
  unfold placeL placeB
  rw [if_pos h, if_pos h]
  exact ⟨none, 0, rfl, Nat.le_refl _, Row.empty, hb⟩

theorem one_cs (s : Sh) : ∀ u ∈ s.cs, u.oneCell' = true := by
  intro u hu
  simp only [Sh.cs] at hu
  simp at hu
  rcases hu with rfl | rfl <;> rfl
theorem own_app {w : World} {B : Nat} {v : Value} {l : List Sh} {s : Sh} (h : w.ownsRow B 52 2 v (l.length + 1) (flat l ++ s.cs)) : w.ownsRow B 52 2 v (l ++ [s]).length (flat (l ++ [s])) := by
  rw [flat_app]; simpa using h

set_option maxHeartbeats 4000000 in
theorem place_any (A A' : Option Addr) (cap cap' B B' : Nat) (free : List Rs) (part : List Int) (many : Int) (need : Rs) (w : World) (hr : Row w B A (flatR free)) (hB : B ≤ w.heap.size) (hn : free.length ≤ 1000)
    (hr' : Row w B' A' (ints part)) (hB' : B' ≤ w.heap.size) (hn' : part.length ≤ 1000) :
    Calls Try.prog 27 #[.slice A free.length cap, .slice A' part.length cap', .int .i64 many, need.val] w (Placed w (placeL free part many need) (placeB free part many need)) := by
  obtain ⟨i0, hi0, hz0, hz1, hz2⟩ := info_parts info52
  obtain ⟨wa, hwa, hba, hs, hh⟩ := box_one need w
  simp only [Rs.obj] at hwa
  have HS := Lib.hid hs
  clear hs
  by_cases hm : many < 1
  · go_enter Try.func27, Try.ntmps27
    go_wp2; go_step3; go_wp2
    try rw [Exit.noGoto_ret]
    go_ret2
    exact placed_no (.inl hm) hba
  have hra := (((hr.more hB).below hba).more hba.size)
  have hrp := (((hr'.more hB').below hba).more hba.size)
  have hro := room_bound free need part
  obtain ⟨e0, e1, e2, e3⟩ := hh
  by_cases hm2 : roomOf free need part < many
  · go_enter Try.func27, Try.ntmps27
    go_wp2_with fail; go_step3; go_wp2_with fail
    refine (room_any _ _ _ _ _ _ free part need _ (by exact hra) (Nat.le_refl _) hn (by exact hrp) (Nat.le_refl _) hn').mono ?_
    rintro e w1 ⟨rfl, hb1⟩
    go_wp2
    try rw [Exit.noGoto_ret]
    go_ret2
    exact placed_no (.inr hm2) (hba.trans (hb1.mono hba.size))
  have HP : Hid (placeL free part many need = (runP free need many part).1 ∧ placeB free part many need = true) := by
    have h : ¬ (many < 1 ∨ roomOf free need part < many) := by omega
    constructor
    · unfold placeL; rw [if_neg h]
    · unfold placeB; rw [if_neg h]
  go_enter Try.func27, Try.ntmps27
  go_wp2_with fail; go_step3; go_wp2_with fail
  refine (room_any _ _ _ _ _ _ free part need _ (by exact hra) (Nat.le_refl _) hn (by exact hrp) (Nat.le_refl _) hn').mono ?_
  rintro e w1 ⟨rfl, hb1⟩
  have hh : Held w.heap.size need wa := ⟨e0, e1, e2, e3⟩
  clear e0 e1 e2 e3
  go_wp2; go_step3; go_wp2
  rw [HP.out.1, HP.out.2]
  go_loopw [10, 11, 28] (fun v n i wr => ∃ k : Nat, k ≤ part.length ∧ i = .int .i64 k ∧ n = .int .i64 (runP free need many (part.take k)).2 ∧ wr.ownsRow wa.heap.size 52 2 v (runP free need many (part.take k)).1.length (flat (runP free need many (part.take k)).1) ∧ Below wa.heap.size wa wr) (fun _ _ i _ => part.length - (intOf i).toNat)
  case atStart => exact ⟨0, Nat.zero_le _, rfl, rfl, World.ownsRow_nil _ _ _ _, hb1⟩
  case round =>
    obtain ⟨k, hk, rfl, rfl, hown, hbel⟩ := hrel
    have hz := hbel.size
    by_cases hlt : k < part.length
    · obtain ⟨b, off, rfl, _, g0⟩ := (hrp.below hbel).int hlt
      obtain ⟨e0, e1, e2, e3⟩ := held_later hh hbel (by rw [HS.out]; omega)
      have t2 := fitI_bound free part[k] need
      obtain ⟨r1, r2, r3⟩ := run_facts free need many (by omega) part k hk
      have HN := Lib.hid (run_next (free := free) (need := need) (many := many) hlt)
      obtain ⟨s, hsdef⟩ : ∃ s, runP free need many (part.take k) = s := ⟨_, rfl⟩
      rw [hsdef] at HN r1 r2 r3 hown ⊢
      have HD := Lib.hid hsdef
      clear hsdef
      by_cases h0 : s.2 = 0
      · have HZ : Hid (runP free need many part = s) := by have e := HD.out; rw [← e]; exact run_stop (by rw [e]; exact h0)
        go_wp2_with fail
        refine (fit_any _ _ _ _ _ _ _ (hra.below hbel) hbel.size hn).mono ?_
        rintro e w2 ⟨rfl, hb2⟩
        go_wp2_with fail
        all_goals (go_ret2; rw [HP.out.1, HP.out.2, HZ.out]; exact placed_of rfl rfl (own_below hown hb2) (hba.trans ((hbel.trans (hb2.mono hz)).mono hba.size)) rfl)
      by_cases hf : fitI free part[k] need = 0
      · have HK : Hid (runP free need many (part.take (k + 1)) = s) := by show _ = _; rw [HN.out]; unfold stepP; rw [if_pos (by omega)]
        go_wp2_with fail
        refine (fit_any _ _ _ _ _ _ _ (hra.below hbel) hbel.size hn).mono ?_
        rintro e w2 ⟨rfl, hb2⟩
        have ho2 := own_below hown hb2
        have hbel2 := hbel.trans (hb2.mono hz)
        go_wp2_with fail
        go_roundw
        case rel =>
          refine ⟨k + 1, by omega, by go_num, by rw [HK.out], by rw [HK.out]; exact ho2, hbel2⟩
        case measure => simp [intOf]; omega
      have hf0 : 0 < fitI free part[k] need := by omega
      by_cases hfl : fitI free part[k] need ≤ s.2
      · have HK : Hid (runP free need many (part.take (k + 1)) = (s.1 ++ [⟨part[k], fitI free part[k] need⟩], s.2 - fitI free part[k] need)) := by show _ = _; rw [HN.out]; unfold stepP; rw [if_neg (by omega), Int.min_eq_left hfl]
        go_wp2_with fail
        refine (fit_any _ _ _ _ _ _ _ (hra.below hbel) hbel.size hn).mono ?_
        rintro e w2 ⟨rfl, hb2⟩
        have ho2 := own_below hown hb2
        have hbel2 := hbel.trans (hb2.mono hz)
        have hz2' := hbel2.size
        go_wp2_with (at_builtin; refine wpList_append_row rfl (.tmp 44) (.tmp 48) 41 rfl wa.heap.size 52 i0 _ 2 16 Try.underlying41 hi0 hz0 hz1 hz2 rfl (by decide) _ _ _ rfl (ho2.alloc _) (w2.heap.size + 1) (some ⟨w2.heap.size, 0, none⟩) 1 1 (Sh.cs ⟨part[k], fitI free part[k] need⟩) rfl (Row.lit _ _ _) rfl (one_cs _) (by unfold maxLen; omega) (by omega) (by simp; omega) ?_; intro v3 w3 ho3 hg3)
        go_roundw
        case rel =>
          refine ⟨k + 1, by omega, by go_num, by rw [HK.out], ?_, (hbel2.alloc hz2' _).grown hg3 (by simp; omega) (fun j hj => (ho2.lt j hj).1)⟩
          rw [HK.out]
          exact own_app ho3
        case measure => simp [intOf]; omega
      · have HK : Hid (runP free need many (part.take (k + 1)) = (s.1 ++ [⟨part[k], s.2⟩], s.2 - s.2)) := by show _ = _; rw [HN.out]; unfold stepP; rw [if_neg (by omega), Int.min_eq_right (by omega)]
        go_wp2_with fail
        refine (fit_any _ _ _ _ _ _ _ (hra.below hbel) hbel.size hn).mono ?_
        rintro e w2 ⟨rfl, hb2⟩
        have ho2 := own_below hown hb2
        have hbel2 := hbel.trans (hb2.mono hz)
        have hz2' := hbel2.size
        go_wp2_with (at_builtin; refine wpList_append_row rfl (.tmp 44) (.tmp 48) 41 rfl wa.heap.size 52 i0 _ 2 16 Try.underlying41 hi0 hz0 hz1 hz2 rfl (by decide) _ _ _ rfl (ho2.alloc _) (w2.heap.size + 1) (some ⟨w2.heap.size, 0, none⟩) 1 1 (Sh.cs ⟨part[k], s.2⟩) rfl (Row.lit _ _ _) rfl (one_cs _) (by unfold maxLen; omega) (by omega) (by simp; omega) ?_; intro v3 w3 ho3 hg3)
        go_roundw
        case rel =>
          refine ⟨k + 1, by omega, by go_num, by rw [HK.out]; simp, ?_, (hbel2.alloc hz2' _).grown hg3 (by simp; omega) (fun j hj => (ho2.lt j hj).1)⟩
          rw [HK.out]
          exact own_app ho3
        case measure => simp [intOf]; omega
    · obtain rfl : k = part.length := by omega
      go_wp2
      go_ret2
      rw [HP.out.1, HP.out.2]
      rw [List.take_length] at hown
      exact placed_of rfl rfl hown (hba.trans (hbel.mono hba.size)) rfl
end Go.Proofs.Ytcgfjobdpcdhhaa
