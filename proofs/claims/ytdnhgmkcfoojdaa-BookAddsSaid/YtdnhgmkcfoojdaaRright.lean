/-
  The contract of the reference's Right: it answers as book.Right does.
-/
import Derived.Test.YtdnhgmkcfoojdaaRight
namespace Go.Proofs.Ytdnhgmkcfoojdaa
open Go.RowKit
open Go.BigFrame
set_option linter.unusedVariables false

def pairOk (l : List Bk) (i k : Nat) (hi : i < l.length) (hk : k < l.length) : Prop := l[k].id < l[i].id ∧ ¬ meetP l[k] l[i].node l[i].lo l[i].hi
theorem meets_false {l : List Bk} {node lo hi : Int} : meetsB l node lo hi = false ↔ ∀ k (hk : k < l.length), ¬ meetP l[k] node lo hi := by
  unfold meetsB
  rw [List.any_eq_false]
  constructor
  · intro h k hk
    simpa using h _ (List.getElem_mem hk)
  · intro h x hx
    obtain ⟨k, hk, rfl⟩ := List.mem_iff_getElem.1 hx
    simpa using h k hk
theorem right_iff (l : List Bk) (nodes : Int) : RightP l nodes ↔ l.length ≤ 16 ∧ ∀ i (hi : i < l.length), wholeP l[i] nodes ∧ ∀ k (hk : k < i), pairOk l i k hi (by omega) := by
  constructor
  · rintro ⟨h1, h2⟩
    have inc : ∀ d i (hi : i + d + 1 < l.length), l[i].id < l[i + d + 1].id := by
      intro d
      induction d with
      | zero =>
        intro i hi
        have := (h2 (i + 1) hi).2.1 (by omega)
        simpa using this
      | succ d ih =>
        intro i hi
        have a := ih i (by omega)
        have b := (h2 (i + (d + 1) + 1) hi).2.1 (by omega)
        have e : i + (d + 1) + 1 - 1 = i + d + 1 := by omega
        simp only [e] at b
        exact Int.lt_trans a b
    refine ⟨h1, fun i hi => ⟨(h2 i hi).1, fun k hk => ⟨?_, ?_⟩⟩⟩
    · have := inc (i - k - 1) k (by omega)
      have e : k + (i - k - 1) + 1 = i := by omega
      simpa only [e] using this
    · have := meets_false.1 (h2 i hi).2.2 k (by rw [List.length_take]; omega)
      simpa using this
  · rintro ⟨h1, h2⟩
    refine ⟨h1, fun k hk => ⟨(h2 k hk).1, fun h => ((h2 k hk).2 (k - 1) (by omega)).1, ?_⟩⟩
    rw [meets_false]
    intro j hj
    rw [List.length_take] at hj
    have := ((h2 k hk).2 j (by omega)).2
    simpa using this

theorem meets_one (b : Bk) (node lo hi : Int) : meetsB [b] node lo hi = decide (meetP b node lo hi) := by simp [meetsB]
theorem rmeets_one (A : Option Addr) (cap B n : Nat) (b : Bk) (node lo hi : Int) (w : World) (hn : n = 1) (hr : Row w B A (flat [b])) (hB : B ≤ w.heap.size) :
    Calls Try.prog 16 #[.slice A n cap, .int .i64 node, .int .i64 lo, .int .i64 hi] w fun e w' => e = .returned (.bool (decide (meetP b node lo hi))) ∧ Below w.heap.size w w' := by
  subst hn; rw [← meets_one]; exact rmeets_any A cap B [b] node lo hi w hr hB (by simp)
theorem Row.one {w : World} {B b off : Nat} {l : List Bk} (h : Row w B (some ⟨b, off, none⟩) (flat l)) (k : Nat) (hk : k < l.length) : Row w B (some ⟨b, off + k * 4, none⟩) (flat [l[k]]) := by
  have h1 := (h.drop (k * 4)).take 4
  have e : ((flat l).drop (k * 4)).take 4 = flat [l[k]] := by
    rw [← flat_drop l k (by omega), show (4 : Nat) = 1 * 4 from rfl, ← flat_take _ 1 (by rw [List.length_drop]; omega)]
    rw [List.drop_eq_getElem_cons hk]; rfl
  rwa [e] at h1

set_option maxHeartbeats 4000000 in
theorem rright_any (A : Option Addr) (cap B : Nat) (l : List Bk) (nodes : Int) (w : World) (hr : Row w B A (flat l)) (hB : B ≤ w.heap.size) (hn : l.length ≤ 1000) (hcap : l.length ≤ cap) :
    Calls Try.prog 14 #[.slice A l.length cap, .int .i64 nodes] w fun e w' => e = .returned (.bool (rightB l nodes)) ∧ Below w.heap.size w w' := by
  have hrw : Row w w.heap.size A (flat l) := hr.more hB
  go_enter Try.func14, Try.ntmps14
  go_wp2
  go_loopw [5] (fun i wr => ∃ i' : Nat, i' ≤ l.length ∧ i = .int .i64 i' ∧ Hid (∀ j (hj : j < l.length), j < i' → wholeP l[j] nodes ∧ ∀ k (hk : k < j), pairOk l j k hj (by omega)) ∧ Below w.heap.size w wr) (fun i _ => l.length - (intOf i).toNat)
  case atStart => exact ⟨0, Nat.zero_le _, rfl, fun j _ hj => by omega, Below.refl _ _⟩
  case round =>
    obtain ⟨i, hi, rfl, hall, hbel⟩ := hrel
    have hz := hbel.size
    by_cases hlt : i < l.length
    · obtain ⟨b, off, rfl, hbB, g0, g1, g2, g3⟩ := (hrw.below hbel).bk hlt
      by_cases hw : wholeP l[i] nodes
      rotate_left
      · have hwb := wholeB_no hw
        have HR := Lib.hid (rightB_no (l := l) (nodes := nodes) (fun h => hw (h.2 i hlt).1))
        clear hw
        go_wp2_with (go_at_call 15; refine (one_any l[i] _ _).mono ?_; rintro e w1 ⟨rfl, hb1⟩)
        go_ret
        exact ⟨retBool HR.out.symm, hbel.trans (hb1.mono hz)⟩
      have hwb := wholeB_yes hw
      have HW := Lib.hid hw
      clear hw
      obtain ⟨wo, rfl⟩ : ∃ wo : World, wo = wr := ⟨_, rfl⟩
      go_wp2_with (go_at_call 15; refine (one_any l[i] _ _).mono ?_; rintro e w1 ⟨rfl, hb1⟩)
      have hbw1 : Below w.heap.size w w1 := hbel.trans (hb1.mono hz)
      clear g0 g1 g2 g3
      go_loopw [6] (fun c wr => ∃ k : Nat, k ≤ i ∧ c = .int .i64 k ∧ Hid (∀ j (hj : j < i), j < k → pairOk l i j hlt (by omega)) ∧ Below w.heap.size w wr) (fun c _ => i - (intOf c).toNat)
      case atStart => exact ⟨0, Nat.zero_le _, rfl, fun j _ hj => by omega, hbw1⟩
      case round =>
        obtain ⟨k, hk, rfl, hall2, hbel2⟩ := hrel
        have hz2 := hbel2.size
        by_cases hlt2 : k < i
        · have hkl : k < l.length := by omega
          have row2 : Row wr w.heap.size (some ⟨b, off, none⟩) (flat l) := hrw.below hbel2
          have ck : ∀ u : Later wr, u.val.cell? ⟨b, off + k * 4, none⟩ = some (.int .i64 l[k].id) := fun u => by
            obtain ⟨b', o', e, _, p0, _⟩ := ((row2.more hz2).below u.property).bk hkl
            cases e; exact p0
          have ci : ∀ u : Later wr, u.val.cell? ⟨b, off + i * 4, none⟩ = some (.int .i64 l[i].id) ∧ u.val.cell? ⟨b, off + i * 4 + 1, none⟩ = some (.int .i64 l[i].node) ∧ u.val.cell? ⟨b, off + i * 4 + 2, none⟩ = some (.int .i64 l[i].lo) ∧ u.val.cell? ⟨b, off + i * 4 + 3, none⟩ = some (.int .i64 l[i].hi) := fun u => by
            obtain ⟨b', o', e, _, p⟩ := ((row2.more hz2).below u.property).bk hlt
            cases e; exact p
          have ci0 := fun u => (ci u).1
          have ci1 := fun u => (ci u).2.1
          have ci2 := fun u => (ci u).2.2.1
          have ci3 := fun u => (ci u).2.2.2
          clear ci
          have hone : Row wr wr.heap.size (some ⟨b, off + k * 4, none⟩) (flat [l[k]]) := (row2.more hz2).one k hkl
          have hc1 : ¬ cap = k := by omega
          have hb0 : (k : Int) ≤ (k : Int) + 1 := by omega
          have hb2 : (k : Int) + 1 ≤ (cap : Int) := by omega
          have hb3 : ((k : Int) + 1).toNat = k + 1 := by omega
          by_cases hid : l[i].id ≤ l[k].id
          · have hdi : decide (l[i].id ≤ l[k].id) = true := by simpa using hid
            have HR := Lib.hid (rightB_no (l := l) (nodes := nodes) (fun h => by have := (((right_iff l nodes).1 h).2 i hlt).2 k hlt2; have := this.1; omega))
            go_wp2
            refine wp_region_later (by kernel_rfl) (by kernel_rfl) ?_
            repeat (go_big_quiet_step (fail))
            refine wpQuiet_nil ?_
            intro w2 hw2
            obtain ⟨⟨w2, hb2⟩, rfl⟩ := hw2
            go_wp2
            go_ret
            exact ⟨retBool HR.out.symm, hbel2.trans (hb2.mono hz2)⟩
          · have hdi : decide (l[i].id ≤ l[k].id) = false := by simpa using hid
            by_cases hm : meetP l[k] l[i].node l[i].lo l[i].hi
            · have hmb : decide (meetP l[k] l[i].node l[i].lo l[i].hi) = true := by simpa using hm
              have HR := Lib.hid (rightB_no (l := l) (nodes := nodes) (fun h => by have := (((right_iff l nodes).1 h).2 i hlt).2 k hlt2; exact this.2 hm))
              clear hm
              go_wp2
              refine wp_region_later (by kernel_rfl) (by kernel_rfl) ?_
              repeat (go_big_quiet_step (first | (go_at_call 16; rename_i u; exact later_of (rmeets_one _ _ _ 1 l[k] _ _ _ _ rfl (hone.below u.property) u.property.size))))
              refine wpQuiet_nil ?_
              intro w2 hw2
              obtain ⟨⟨w2, hb2⟩, rfl⟩ := hw2
              go_wp2
              go_ret
              exact ⟨retBool HR.out.symm, hbel2.trans (hb2.mono hz2)⟩
            · have hmb : decide (meetP l[k] l[i].node l[i].lo l[i].hi) = false := by simpa using hm
              have HP : Hid (pairOk l i k hlt hkl) := ⟨by omega, hm⟩
              clear hm
              go_wp2
              refine wp_region_later (by kernel_rfl) (by kernel_rfl) ?_
              repeat (go_big_quiet_step (first | (go_at_call 16; rename_i u; exact later_of (rmeets_one _ _ _ 1 l[k] _ _ _ _ rfl (hone.below u.property) u.property.size))))
              refine wpQuiet_nil ?_
              intro w2 hw2
              obtain ⟨⟨w2, hb2⟩, rfl⟩ := hw2
              go_wp2
              go_roundw
              case rel =>
                refine ⟨k + 1, by omega, by go_num, fun j hj hjk => ?_, hbel2.trans (hb2.mono hz2)⟩
                rcases Nat.lt_or_ge j k with h | h
                · exact hall2.out j hj h
                · obtain rfl : j = k := by omega
                  exact HP
              case measure => simp [intOf]; omega
        · go_wp2
          go_roundw
          case rel =>
            refine ⟨i + 1, by omega, by go_num, fun j hj hji => ?_, hbel2⟩
            rcases Nat.lt_or_ge j i with h | h
            · exact hall.out j hj h
            · obtain rfl : j = i := by omega
              exact ⟨HW.out, fun k' hk' => hall2.out k' hk' (by omega)⟩
          case measure => simp [intOf]; omega
    · by_cases h16 : l.length ≤ 16
      · have HR := Lib.hid (rightB_yes (l := l) (nodes := nodes) ((right_iff l nodes).2 ⟨h16, fun j hj => hall.out j hj (by omega)⟩))
        go_wp2
        go_ret
        exact ⟨retBool (by rw [HR.out]; simp; omega), hbel⟩
      · have HR := Lib.hid (rightB_no (l := l) (nodes := nodes) (fun h => h16 h.1))
        go_wp2
        go_ret
        exact ⟨retBool (by rw [HR.out]; simp; omega), hbel⟩
end Go.Proofs.Ytdnhgmkcfoojdaa
