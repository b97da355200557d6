/-
  Proved: for every list of numbers and every limit the law NatSums returns true (Sum gives what is reached one by one, in whatever order, or what is wrong), and the arguments read afterwards as before. No condition.
-/
import Derived.Test.YthiepcajpgfjfaaSum
import Derived.WalkKit
import Derived.WalkSpells
import Derived.ProofKit
import Derived.OpenShut
import Derived.ShutString
import Derived.ChangeOld
import Derived.Below
namespace Go.Proofs.Ythiepcajpgfjfaa.natSums
open Go.ChangeShapes Go.WideShapes Go.ChangeAt Go.RowKit
open Go.ChangeMaps (open_string shut_string)
set_option linter.unusedVariables false

theorem own : ownKnob Try.prog.godebug = none := by kernel_rfl
theorem laidOut : laidOutB Try.prog = true := by kernel_rfl

def IsRow (k : IntKind) (w : World) (a : Option Addr) (len cap : Nat) (zs : List Int) : Prop :=
  (a = none ∧ len = 0 ∧ cap = 0 ∧ zs = []) ∨
  ∃ x, a = some x ∧ len ≤ cap ∧ cap ≤ maxLen ∧ zs.length = cap ∧ (∀ i, i < zs.length → w.cell? (x.add i) = some (.int k (zs.getD i 0))) ∧ ∀ n ∈ zs, (Lit.int k n).wf = true

theorem info3 : (Try.prog.info? 3).map (fun i => (i.zero, i.size, i.bytes)) = some (some (.int .i64 0), 1, 8) := by kernel_rfl

theorem row_of {w : World} {a : Option Addr} {len cap : Nat} {zs : List Int} (h : IsRow .i64 w a len cap zs) :
    ∃ xs : List Int, xs.length = len ∧ Row w w.heap.size a (ints xs) := by
  rcases h with ⟨rfl, rfl, rfl, rfl⟩ | ⟨x, rfl, hl, hm, hz, hc, hw⟩
  · exact ⟨[], rfl, Row.empty⟩
  · refine ⟨zs.take len, by simp; omega, Row.of_add fun i u hu => ?_⟩
    simp only [ints, List.map_take] at hu
    rw [List.getElem?_take] at hu
    split at hu
    · rename_i hi
      rw [List.getElem?_map, List.getElem?_eq_getElem (by omega)] at hu
      simp at hu
      subst hu
      rw [hc i (by omega)]
      simp [List.getD, List.getElem?_eq_getElem (show i < zs.length by omega)]
    · cases hu

def wrongTo (xs : List Int) (l : Int) (k : Nat) : Bool := decide (l < 0) || anyNeg (xs.take k)
theorem wrongTo_next (xs : List Int) (l : Int) (k : Nat) (h : k < xs.length) : wrongTo xs l (k + 1) = (wrongTo xs l k || decide (xs[k] < 0)) := by
  unfold wrongTo; rw [take_next xs k h]; simp only [anyNeg, List.any_append, List.any_cons, List.any_nil, Bool.or_false, Bool.or_assoc]

theorem rev_next (xs : List Int) (k : Nat) (h : k < xs.length) : xs.reverse.take (k + 1) = xs.reverse.take k ++ [xs[xs.length - 1 - k]] := by
  rw [take_next _ k (by simpa using h)]; simp

/-- What the law asks behind the sums, in the case that something is wrong or the sum is too great or all is well. -/
theorem cases_sum (xs : List Int) (l : Int) : ((l < 0 ∨ anyNeg xs = true) ∧ sumZ xs l = (0, 2)) ∨ (0 ≤ l ∧ anyNeg xs = false ∧ l < sumOf xs ∧ sumZ xs l = (0, 20)) ∨ (0 ≤ l ∧ anyNeg xs = false ∧ sumOf xs ≤ l ∧ sumZ xs l = (sumOf xs, 0)) := by
  by_cases h : l < 0 ∨ anyNeg xs = true
  · exact .inl ⟨h, sumZ_arg h⟩
  · have h0 : 0 ≤ l := by omega
    have h1 : anyNeg xs = false := by
      cases hh : anyNeg xs
      · rfl
      · exact absurd (Or.inr hh) h
    by_cases h2 : l < sumOf xs
    · exact .inr (.inl ⟨h0, h1, h2, sumZ_over h0 h1 h2⟩)
    · exact .inr (.inr ⟨h0, h1, by omega, sumZ_ok h0 h1 (by omega)⟩)

theorem own_form {w : World} {base : Nat} {e : TypeId} {size n : Nat} {v : Value} {xs : List Value} (h : w.ownsRow base e size v n xs) : ∃ A c, v = .slice A n c := by
  rcases h.2 with ⟨rfl, rfl⟩ | ⟨g, cap, cur, rfl, _⟩
  · exact ⟨_, _, rfl⟩
  · exact ⟨_, _, rfl⟩

set_option maxHeartbeats 1000000 in
theorem walk (a0 : Option Addr) (len0 cap0 : Nat) (z0 : List Int) (a1 : Int) (w : World) (w0 : IsRow .i64 w a0 len0 cap0 z0) (w1 : (Lit.int .i64 a1).wf = true) :
    Calls Try.prog 6 #[.slice a0 len0 cap0, .int .i64 a1] w fun e w' => e = .returned (.bool true) ∧ Below w.heap.size w w' := by
  obtain ⟨b10, b11⟩ := bounds_i64 w1
  obtain ⟨xs, rfl, hr⟩ := row_of w0
  have hm : xs.length ≤ 9223372036854775807 := by
    rcases w0 with ⟨_, h, _⟩ | ⟨_, _, h, h', _⟩
    · omega
    · unfold maxLen at h'; omega
  clear w0
  by_cases hbig : 300 < xs.length
  · go_enter Try.func6, Try.ntmps6
    go_wp2_with (go_at_call 7; refine (awake_any _).mono ?_; rintro e w' ⟨rfl, rfl⟩)
    go_ret
    exact ⟨rfl, Below.refl _ _⟩
  obtain ⟨i0, hi0, hz0, hz1, hz2⟩ := info_parts info3
  go_enter Try.func6, Try.ntmps6
  go_wp2_with (first | (go_at_call 7; refine (awake_any _).mono ?_; rintro e w' ⟨rfl, rfl⟩) | (go_at_call 16; refine (sum_any _ _ _ _ _ _ hr (by omega) (by omega)).mono ?_; rintro e w' ⟨rfl, rfl⟩))
  go_loopw [7, 8] (fun v i wr => ∃ k : Nat, k ≤ xs.length ∧ i = .int .i64 ((xs.length : Int) - 1 - k) ∧ wr.ownsRow w.heap.size 3 1 v k (ints (xs.reverse.take k)) ∧ Below w.heap.size w wr)
    (fun _ i _ => (intOf i + 1).toNat)
  case atStart => exact ⟨0, Nat.zero_le _, by go_num, World.ownsRow_nil _ _ _ _, Below.refl _ _⟩
  case round =>
    obtain ⟨k, hk, rfl, hown, hbel⟩ := hrel
    by_cases hlt : k < xs.length
    · obtain ⟨b, off, rfl, _, hc⟩ := (hr.below hbel).int (k := xs.length - 1 - k) (by omega)
      have hin : ((xs.length : Int) - 1 - k).toNat = xs.length - 1 - k := by omega
      have hz := hbel.size
      have hrev := Lib.hid (rev_next xs k hlt)
      go_wp2_with (at_builtin; refine wpList_append_own _ rfl _ _ 37 rfl w.heap.size 3 i0 (.int .i64 0) 1 8 Try.underlying37 hi0 hz0 hz1 hz2 rfl (by decide) _ _ _ rfl (hown.alloc _) ⟨wr.heap.size, 0, none⟩ 1 1 [.int .i64 xs[xs.length - 1 - k]] rfl rfl ?c1 ?c2 ?c3 ?c4 ?c5 ?_)
      case c1 => exact cell_one_new _ _ _
      case c2 => intro u hu; simp at hu; subst hu; rfl
      case c3 => unfold maxLen; omega
      case c4 => omega
      case c5 => simp; omega
      intro v' w1 hown' hgrow _
      have hb1 : Below w.heap.size w w1 := (hbel.alloc hz _).grown hgrow (by simp; omega) (fun g hg => (hown.lt g hg).1)
      have ho1 : w1.ownsRow w.heap.size 3 1 v' (k + 1) (ints (xs.reverse.take (k + 1))) := by
        rw [hrev.out]; simpa [ints] using hown'
      clear hown' hgrow hown
      go_wp2
      go_roundw
      case rel => exact ⟨k + 1, by omega, by go_num, ho1, hb1⟩
      case measure => simp [intOf]; omega
    · obtain rfl : k = xs.length := by omega
      have hz := hbel.size
      obtain ⟨A, c, rfl⟩ := own_form hown
      have hback : Row wr wr.heap.size A (ints xs.reverse) := by
        have := Row.of_own hown
        rwa [List.take_of_length_le (by simp)] at this
      have hsum := sum_any A c xs.reverse wr.heap.size a1 wr hback (by simp; omega) (by omega)
      rw [sumZ_reverse, List.length_reverse] at hsum
      have HS := Lib.hid hsum
      have hr1 : Row wr w.heap.size a0 (ints xs) := hr.below hbel
      clear hsum hback hown hr
      have hcs := Lib.hid (cases_sum xs a1)
      have e1 : ((sumZ xs a1).1 != (sumZ xs a1).1) = false := by simp
      have e2 : ((sumZ xs a1).2 != (sumZ xs a1).2) = false := by simp
      go_wp2_with (go_at_call 16; refine HS.out.mono ?_; rintro e w' ⟨rfl, rfl⟩)
      go_loop [11, 62] (fun b i => ∃ k : Nat, k ≤ xs.length ∧ i = .int .i64 k ∧ b = .bool (wrongTo xs a1 k)) (fun _ i => xs.length - (intOf i).toNat)
      case atStart => exact ⟨0, Nat.zero_le _, rfl, by simp [wrongTo, anyNeg]⟩
      case round =>
        obtain ⟨k, hk, rfl, hbv⟩ := hrel
        by_cases hlt : k < xs.length
        · obtain ⟨b, off, rfl, _, hc⟩ := hr1.int hlt
          have hnx := Lib.hid (wrongTo_next xs a1 k hlt)
          cases hwr : wrongTo xs a1 k
          all_goals
            rw [hwr] at hbv
            subst hbv
            go_wp2
            go_round
            case rel => exact ⟨k + 1, by omega, by go_num, by rw [hnx.out, hwr]; simp⟩
            case measure => simp [intOf]; omega
        · obtain rfl : k = xs.length := by omega
          have hwl : Hid (wrongTo xs a1 xs.length = (decide (a1 < 0) || anyNeg xs)) := by simp [Hid, wrongTo]
          rcases hcs.out with ⟨hwg, hs⟩ | ⟨hl0, hneg, hover, hs⟩ | ⟨hl0, hneg, hle, hs⟩
          · have hw2 : wrongTo xs a1 xs.length = true := by rw [hwl.out]; rcases hwg with h | h <;> simp [h]
            rw [hw2] at hbv
            subst hbv
            have e3 : ((sumZ xs a1).1 == 0) = true := by rw [hs]; rfl
            have e4 : ((sumZ xs a1).2 == 2) = true := by rw [hs]; rfl
            clear hs hwg hw2
            go_wp2
            go_ret
            exact ⟨rfl, hbel⟩
          all_goals
            have hw2 : wrongTo xs a1 xs.length = false := by rw [hwl.out, hneg]; simp; omega
            rw [hw2] at hbv
            subst hbv
            have HN := Lib.hid hneg
            have HZ := Lib.hid hs
            clear hneg hs hw2 hk
            go_wp2
            go_loop [14, 81] (fun s i => ∃ k : Nat, k ≤ xs.length ∧ i = .int .i64 k ∧ s = .int .i64 (sumOf (xs.take k)) ∧ sumOf (xs.take k) ≤ a1) (fun _ i => xs.length - (intOf i).toNat)
            case atStart => exact ⟨0, Nat.zero_le _, rfl, rfl, by simp [sumOf]; omega⟩
          · case round =>
              obtain ⟨k, hk, rfl, rfl, hle⟩ := hrel
              have hnn := sumOf_take_le k HN.out
              have e3 : ((sumZ xs a1).1 == 0) = true := by rw [HZ.out]; rfl
              have e4 : ((sumZ xs a1).2 == 20) = true := by rw [HZ.out]; rfl
              by_cases hlt2 : k < xs.length
              · obtain ⟨b, off, rfl, _, hc⟩ := hr1.int hlt2
                have hts := Lib.hid (sumOf_take xs k hlt2)
                have h0 : 0 ≤ xs[k] := anyNeg_false.1 HN.out _ (List.getElem_mem hlt2)
                by_cases hov : a1 - sumOf (xs.take k) < xs[k]
                · have ha := Lib.hid (addZ_over (a := sumOf (xs.take k)) (b := xs[k]) (l := a1) (by omega) (Or.inr hov))
                  have hq : ((addZ (sumOf (xs.take k)) xs[k] a1).2 != 0) = true := by rw [ha.out]; rfl
                  go_wp2_with (go_at_call 13; refine (radd_any _ _ _ _ (by omega)).mono ?_; rintro e w' ⟨rfl, rfl⟩)
                  go_ret
                  exact ⟨rfl, hbel⟩
                · have ha := Lib.hid (addZ_ok (a := sumOf (xs.take k)) (b := xs[k]) (l := a1) (by omega) (by omega) (by omega))
                  have hq : ((addZ (sumOf (xs.take k)) xs[k] a1).2 != 0) = false := by rw [ha.out]; rfl
                  go_wp2_with (go_at_call 13; refine (radd_any _ _ _ _ (by omega)).mono ?_; rintro e w' ⟨rfl, rfl⟩)
                  go_round
                  case rel => exact ⟨k + 1, by omega, by go_num, by rw [hts.out, ha.out], by rw [hts.out]; omega⟩
                  case measure => simp [intOf]; omega
              · exfalso
                rw [List.take_of_length_le (by omega)] at hle
                omega
          · case round =>
              obtain ⟨k, hk, rfl, rfl, hlek⟩ := hrel
              have hnn := sumOf_take_le k HN.out
              have e4 : ((sumZ xs a1).2 == 0) = true := by rw [HZ.out]; rfl
              by_cases hlt2 : k < xs.length
              · obtain ⟨b, off, rfl, _, hc⟩ := hr1.int hlt2
                have hts := Lib.hid (sumOf_take xs k hlt2)
                have hnn2 := sumOf_take_le (k + 1) HN.out
                have hov : xs[k] ≤ a1 - sumOf (xs.take k) := by rw [hts.out] at hnn2; omega
                have ha := Lib.hid (addZ_ok (a := sumOf (xs.take k)) (b := xs[k]) (l := a1) (by have : 0 ≤ xs[k] := anyNeg_false.1 HN.out _ (List.getElem_mem hlt2); omega) (by omega) (by omega))
                have hq : ((addZ (sumOf (xs.take k)) xs[k] a1).2 != 0) = false := by rw [ha.out]; rfl
                go_wp2_with (go_at_call 13; refine (radd_any _ _ _ _ (by omega)).mono ?_; rintro e w' ⟨rfl, rfl⟩)
                go_round
                case rel => exact ⟨k + 1, by omega, by go_num, by rw [hts.out, ha.out], by rw [hts.out]; omega⟩
                case measure => simp [intOf]; omega
              · have he : Hid (xs.take k = xs) := List.take_of_length_le (by omega)
                have e3 : ((sumZ xs a1).1 == sumOf (xs.take k)) = true := by rw [HZ.out, he.out]; simp
                go_wp2
                go_ret
                exact ⟨rfl, hbel⟩

set_option maxRecDepth 100000 in
theorem lifted (os : Os) (started : os.Started) (H : Type) (enc : TypeId × Value → H) :
    ReturnsInHanded {} Try.checked os 6 .any (Rows.natSumsSpec.pre6 enc Try.prog Try.f6 Rows.natSumsRow.domain false) (Rows.natSumsSpec.post enc Try.prog Try.f6 false true false false) := by
  refine returnsInHanded_of_change (C := Try.checked) own started (by kernel_rfl) Try.func6
    (ChangeSpec.witness6 (enc := enc) (C := Try.checked) false ⟨#[], #[.slice none 0 0, .int .i64 0], []⟩ 8 (by kernel_rfl) (by kernel_rfl) (by kernel_rfl) (by kernel_rfl)) ?_
  intro W base args ds gs before hval0 hW hcnd _
  have hval : ∀ (j : Nat) t v, Try.f6.params[j]? = some t → args[j]? = some v → Value.okWide Try.prog W .any base t v := hval0
  have hW' := hW
  obtain ⟨p, q, hA0, hV, rfl, hfz, hnd⟩ := hW
  have hA : DataW.TrodAll enc Try.prog W 0 (fun _ => true) true Try.f6.params.toList args.toList ds p := hA0
  rw [Try.params6] at hA hval
  obtain ⟨v0, vs0, d0, ds0, p0, q0, hargs, rfl, rfl, h0, r0⟩ := trodAll_cons hA
  obtain ⟨v1, vs1, d1, ds1, p1, q1, rfl, rfl, rfl, h1, r1⟩ := trodAll_cons r0
  obtain ⟨rfl, rfl, rfl⟩ := trodAll_nil r1
  obtain rfl : args = #[v0, v1] := by cases args; simp_all
  obtain ⟨rfl, rfl⟩ := trodVars_none hV
  obtain ⟨a0, len0, cap0, rfl⟩ := okWide_slice Try.underlying37 (hval 0 37 v0 rfl rfl)
  have k0 := h0
  have lt0 : ∀ x ∈ p0, x.block < W.heap.size := by obtain ⟨m, hm⟩ := k0; exact DataW.trod_lt m _ _ _ hm
  obtain ⟨z0, w0⟩ : ∃ zs, IsRow .i64 W a0 len0 cap0 zs := by
    obtain ⟨fuel, hf⟩ := h0
    rcases open_ints Try.underlying37 Try.underlying3 (by kernel_rfl) hf with ⟨hcs, _⟩ | ⟨x, l, c, zs, hcs, _, hl, hm, hz, _, hcell, hwz⟩
    · simp [Value.cells] at hcs
      obtain ⟨rfl, rfl, rfl⟩ := hcs
      exact ⟨[], .inl ⟨rfl, rfl, rfl, rfl⟩⟩
    · simp [Value.cells] at hcs
      obtain ⟨rfl, rfl, rfl⟩ := hcs
      exact ⟨zs, .inr ⟨_, rfl, hl, hm, by simpa using hz, hcell, hwz⟩⟩
  obtain ⟨a1, rfl, rfl, rfl, w1⟩ := open_int Try.underlying3 (hval 1 3 v1 rfl rfl) h1
  clear hA0 hval0
  refine (walk a0 len0 cap0 z0 a1 W w0 w1).mono fun e W' ⟨he, bel⟩ => ?_
  subst he
  exact ⟨_, rfl, _, _, _, [], _, [], hW', trodAll_mk1 (shut_bool Try.underlying4 _), (trodAll_cons_mk (Below.trod laidOut (by kernel_rfl) (of_decide_eq_true (by kernel_rfl)) k0 bel lt0) (trodAll_cons_mk (shut_int Try.underlying3 w1) trodAll_mk0)), rfl, bel.frame _, fun h => by cases h⟩

theorem over : Rows.natSumsRow.holds Try.pinned (OpenSpec.ofChange Rows.natSumsSpec) :=
  OpenClaim.holds_of_wide 6 Try.f6 rfl rfl rfl rfl rfl rfl rfl ⟨rfl, rfl, rfl, rfl, rfl⟩ rfl rfl rfl rfl rfl (by kernel_rfl) Try.func6 (by kernel_rfl)
    (of_decide_eq_true (by kernel_rfl)) (by unfold Func.isWrapper; first | (rw [if_pos (by decide +kernel)]; kernel_rfl) | (rw [if_neg (by decide +kernel)]; exact ⟨rfl, rfl⟩))
    (fun os started H enc _ => lifted os started H enc)

theorem proved : Rows.NatSumsSaid := over
#print axioms proved
end Go.Proofs.Ythiepcajpgfjfaa.natSums
