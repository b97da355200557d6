/-
  Whole numbers as floats of 64 bits: what small whole numbers add, take away, multiply and turn back to, as words. No program in sight. Bound: below 2^53.
-/
import Derived.Laws.FloatArith
import Derived.Laws.ComplexArith
namespace Go.Proofs.Ytcgfjobdpcdhhaa
open Ieee
set_option linter.unusedVariables false

def sg (s : Bool) (k : Nat) : Int := if s then -(k : Int) else k
theorem sg_signed (s : Bool) (m u : Nat) : signed s m u = sg s (m * 2 ^ u) := by unfold signed sg; rw [Nat.shiftLeft_eq]
/-- The word b reads as the whole number n. -/
def Fl (b : Nat) (n : Int) : Prop := ∃ (s : Bool) (k j : Nat), double.read b = .number s (k * 2 ^ j) (-(j : Int)) ∧ n = sg s k

theorem log2_mul (k j : Nat) (hk : k ≠ 0) : (k * 2 ^ j).log2 = k.log2 + j := by
  have h1 := Nat.log2_self_le hk
  have h2 := Nat.lt_log2_self (n := k)
  have h0 : k * 2 ^ j ≠ 0 := Nat.mul_ne_zero hk (Nat.pos_iff_ne_zero.1 (Nat.two_pow_pos j))
  rw [Nat.log2_eq_iff h0]
  constructor
  · rw [Nat.pow_add]; exact Nat.mul_le_mul_right _ h1
  · have : k.log2 + j + 1 = (k.log2 + 1) + j := by omega
    rw [this, Nat.pow_add]; exact Nat.mul_lt_mul_of_pos_right h2 (Nat.two_pow_pos j)
theorem cut_none (s : Bool) (n : Nat) : Toward.even.cut s n 0 = n := by
  simp [Toward.cut, Nat.mod_one]
theorem cut_even (s : Bool) (k d : Nat) (hk : k ≠ 0) : Toward.even.cut s (k * 2 ^ d) d = k := by
  have hp := Nat.two_pow_pos d
  unfold Toward.cut
  rw [log2_mul k d hk, Nat.min_eq_left (by omega), Nat.shiftLeft_eq, Nat.one_mul]
  simp only [Nat.mul_mod_left, Nat.mul_div_cancel _ hp]
  have h2 : (2 ^ d == 2 * 0) = false := by simp
  simp [h2]
theorem cut_zero (s : Bool) (k d : Nat) : Toward.zero.cut s (k * 2 ^ d) d = k := by
  have hp := Nat.two_pow_pos d
  unfold Toward.cut
  by_cases hk : k = 0
  · subst hk; simp
  · rw [log2_mul k d hk, Nat.min_eq_left (by omega), Nat.shiftLeft_eq, Nat.one_mul]
    simp [Nat.mul_div_cancel _ hp]

theorem word_read (s : Bool) (L K : Nat) (hL : L ≤ 52) (h1 : 2 ^ 52 ≤ K) (h2 : K < 2 ^ 53) : double.read (double.word s ((L + 1022) * 2 ^ 52 + K)) = .number s K (-((52 - L : Nat) : Int)) := by
  have eS : double.signWeight = 2 ^ 63 := rfl
  have eB : double.binade = 2 ^ 52 := rfl
  have eI : double.infRung = 2047 * 2 ^ 52 := rfl
  have eP : double.leastPlace = -1074 := rfl
  have ew : double.word s ((L + 1022) * 2 ^ 52 + K) / 2 ^ 63 % 2 = s.toNat ∧ double.word s ((L + 1022) * 2 ^ 52 + K) % 2 ^ 63 = (L + 1022) * 2 ^ 52 + K := by
    unfold Format.word
    rw [eS]
    cases s <;> simp <;> omega
  unfold Format.read
  rw [eS, eB, eI, eP]
  simp only [ew.1, ew.2]
  have q1 : ((L + 1022) * 2 ^ 52 + K) % 2 ^ 52 = K - 2 ^ 52 := by omega
  have q2 : ((L + 1022) * 2 ^ 52 + K) / 2 ^ 52 = L + 1023 := by omega
  rw [if_neg (by omega), if_pos (by omega), q1, q2]
  have q3 : 2 ^ 52 + (K - 2 ^ 52) = K := by omega
  have q4 : (-1074 : Int) + ((L + 1023 - 1 : Nat) : Int) = -((52 - L : Nat) : Int) := by omega
  rw [q3, q4]
  cases s <;> rfl

theorem write_fl (s : Bool) (k j : Nat) (hk : k < 2 ^ 53) : Fl (double.write (.number s (k * 2 ^ j) (-(j : Int)))) (sg s k) := by
  unfold Format.write
  by_cases h0 : k = 0
  · subst h0
    refine ⟨s, 0, 1074, ?_, rfl⟩
    simp only [Format.nearest, Nat.zero_mul, if_true]
    cases s <;> decide
  · have hp : k * 2 ^ j ≠ 0 := Nat.mul_ne_zero h0 (Nat.pos_iff_ne_zero.1 (Nat.two_pow_pos j))
    have hl1 := Nat.log2_self_le h0
    have hl2 := Nat.lt_log2_self (n := k)
    have hL : k.log2 ≤ 52 := by
      rcases Nat.lt_or_ge 52 k.log2 with h | h
      · have := Nat.pow_le_pow_right (show 0 < 2 by omega) (show 53 ≤ k.log2 by omega)
        omega
      · exact h
    have eB : double.binade = 2 ^ 52 := rfl
    have eI : double.infRung = 2047 * 2 ^ 52 := rfl
    have eP : double.leastPlace = -1074 := rfl
    have eF : double.fractionBits = 52 := rfl
    have hK1 : 2 ^ 52 ≤ k * 2 ^ (52 - k.log2) := by
      have := Nat.mul_le_mul_right (2 ^ (52 - k.log2)) hl1
      rw [← Nat.pow_add] at this
      have e : k.log2 + (52 - k.log2) = 52 := by omega
      rw [e] at this; exact this
    have hK2 : k * 2 ^ (52 - k.log2) < 2 ^ 53 := by
      have := Nat.mul_lt_mul_of_pos_right hl2 (Nat.two_pow_pos (52 - k.log2))
      rw [← Nat.pow_add] at this
      have e : k.log2 + 1 + (52 - k.log2) = 53 := by omega
      rw [e] at this; exact this
    have hn : double.nearest s (k * 2 ^ j) (-(j : Int)) = double.word s ((k.log2 + 1022) * 2 ^ 52 + k * 2 ^ (52 - k.log2)) := by
      unfold Format.nearest
      rw [if_neg hp, log2_mul k j h0, eF, eP, eB, eI]
      have e1 : max (-(j : Int) + ((k.log2 + j : Nat) : Int) - ((52 : Nat) : Int)) (-1074) = (k.log2 : Int) - 52 := by omega
      simp only [e1]
      have ek : Toward.even.cut s ((k * 2 ^ j) <<< (-(j : Int) - ((k.log2 : Int) - 52)).toNat) ((k.log2 : Int) - 52 - -(j : Int)).toNat = k * 2 ^ (52 - k.log2) := by
        rw [Nat.shiftLeft_eq]
        by_cases hc : j ≤ 52 - k.log2
        · have a1 : (-(j : Int) - ((k.log2 : Int) - 52)).toNat = 52 - k.log2 - j := by omega
          have a2 : ((k.log2 : Int) - 52 - -(j : Int)).toNat = 0 := by omega
          rw [a1, a2, cut_none, Nat.mul_assoc, ← Nat.pow_add]
          have e : j + (52 - k.log2 - j) = 52 - k.log2 := by omega
          rw [e]
        · have a1 : (-(j : Int) - ((k.log2 : Int) - 52)).toNat = 0 := by omega
          have a2 : ((k.log2 : Int) - 52 - -(j : Int)).toNat = j - (52 - k.log2) := by omega
          have a3 : k * 2 ^ j * 2 ^ 0 = k * 2 ^ (52 - k.log2) * 2 ^ (j - (52 - k.log2)) := by
            rw [Nat.pow_zero, Nat.mul_one, Nat.mul_assoc, ← Nat.pow_add]
            have e : 52 - k.log2 + (j - (52 - k.log2)) = j := by omega
            rw [e]
          rw [a1, a2, a3]
          exact cut_even s _ _ (by omega)
      rw [ek]
      have e2 : ((k.log2 : Int) - 52 - -1074).toNat = k.log2 + 1022 := by omega
      rw [e2, Nat.min_eq_left (by omega)]
    show Fl (double.nearest s (k * 2 ^ j) (-(j : Int))) (sg s k)
    rw [hn]
    exact ⟨s, k, 52 - k.log2, word_read s _ _ hL hK1 hK2, rfl⟩

/-- A number of which the exact value is whole is written to a word that reads as it. -/
theorem write_of {s : Bool} {m : Nat} {j : Nat} {n : Int} (h : sg s m = n * 2 ^ j) (hn : n.natAbs < 2 ^ 53) : Fl (double.write (.number s m (-(j : Int)))) n := by
  have hp := Nat.two_pow_pos j
  have hpi : (0 : Int) < 2 ^ j := Int.pow_pos (by omega)
  have hm : m = n.natAbs * 2 ^ j := by
    have h1 : (sg s m).natAbs = m := by unfold sg; cases s <;> simp
    rw [← h1, h, Int.natAbs_mul]
    congr 1
  rcases Int.lt_trichotomy n 0 with h0 | h0 | h0
  · have hs : s = true := by
      cases s
      · have : n * 2 ^ j < 0 := Int.mul_neg_of_neg_of_pos h0 hpi
        unfold sg at h; simp at h; omega
      · rfl
    subst hs
    have := write_fl true n.natAbs j hn
    rw [hm]
    have e : sg true n.natAbs = n := by unfold sg; simp; omega
    rw [e] at this
    exact this
  · subst h0
    have := write_fl s 0 j (by omega)
    rw [hm]
    have e : sg s 0 = 0 := by unfold sg; cases s <;> rfl
    rw [e] at this
    exact this
  · have hs : s = false := by
      cases s
      · rfl
      · have : 0 < n * 2 ^ j := Int.mul_pos h0 hpi
        unfold sg at h; simp at h; omega
    subst hs
    have := write_fl false n.natAbs j hn
    rw [hm]
    have e : sg false n.natAbs = n := by unfold sg; simp; omega
    rw [e] at this
    exact this

theorem fl_nearest (n : Int) (hn : n.natAbs < 2 ^ 53) : Fl (FloatKind.nearest .f64 n) n := by
  have : Fl (double.write (.number (decide (n < 0)) n.natAbs (-((0 : Nat) : Int)))) n := by
    refine write_of ?_ hn
    unfold sg
    by_cases h : n < 0 <;> simp [h] <;> omega
  exact this
theorem fl_toInt {b : Nat} {n : Int} (h : Fl b n) : (double.read b).toInt .zero = some n := by
  obtain ⟨s, k, j, hr, rfl⟩ := h
  rw [hr]
  unfold Datum.toInt Datum.integral
  have e1 : (-(j : Int)).toNat = 0 := by omega
  have e2 : (- -(j : Int)).toNat = j := by omega
  simp only [e1, e2, Nat.shiftLeft_eq, Nat.pow_zero, Nat.mul_one, cut_zero, sg_signed]
theorem fl_int {b : Nat} {n : Int} (h : Fl b n) (h1 : -9223372036854775808 ≤ n) (h2 : n ≤ 9223372036854775807) : floatToIntVal .f64 b .i64 = some n := by
  unfold floatToIntVal
  have e : (FloatKind.decode .f64 b).toInt .zero = some n := fl_toInt h
  rw [e]
  exact if_pos ⟨h1, h2⟩
theorem sg_mul (s : Bool) (k e : Nat) : sg s (k * 2 ^ e) = sg s k * 2 ^ e := by
  unfold sg; cases s <;> simp [Int.neg_mul]
theorem sum_fl {s t : Bool} {k i k' j : Nat} (hn : (sg s k + sg t k').natAbs < 2 ^ 53) : ∃ d, Datum.sum (.number s (k * 2 ^ i) (-(i : Int))) (.number t (k' * 2 ^ j) (-(j : Int))) = some d ∧ Fl (double.write d) (sg s k + sg t k') := by
  refine ⟨_, rfl, ?_⟩
  obtain ⟨b, hb⟩ : ∃ b : Nat, min (-(i : Int)) (-(j : Int)) = -(b : Int) := ⟨max i j, by omega⟩
  simp only [hb]
  refine write_of ?_ hn
  have e1 : (-(i : Int) - -(b : Int)).toNat = b - i := by omega
  have e2 : (-(j : Int) - -(b : Int)).toNat = b - j := by omega
  rw [e1, e2, sg_signed, sg_signed]
  have p1 : k * 2 ^ i * 2 ^ (b - i) = k * 2 ^ b := by rw [Nat.mul_assoc, ← Nat.pow_add]; congr 2; omega
  have p2 : k' * 2 ^ j * 2 ^ (b - j) = k' * 2 ^ b := by rw [Nat.mul_assoc, ← Nat.pow_add]; congr 2; omega
  rw [p1, p2, sg_mul, sg_mul, ← Int.add_mul]
  generalize (sg s k + sg t k') * 2 ^ b = T
  by_cases h0 : T = 0
  · subst h0; simp [sg]
  · rw [if_neg h0]
    unfold sg
    by_cases h : T < 0 <;> simp [h] <;> omega
theorem fl_add {x y : Nat} {a b : Int} (hx : Fl x a) (hy : Fl y b) (hn : (a + b).natAbs < 2 ^ 53) : ∃ r, floatBits .add .f64 x y = some r ∧ Fl r (a + b) := by
  obtain ⟨s, k, i, hr, rfl⟩ := hx
  obtain ⟨t, k', j, hr', rfl⟩ := hy
  obtain ⟨d, hd, hf⟩ := sum_fl (i := i) (j := j) hn
  refine ⟨double.write d, ?_, hf⟩
  show double.add x y = _
  unfold Format.add
  rw [hr, hr', hd]
  rfl
theorem fl_sub {x y : Nat} {a b : Int} (hx : Fl x a) (hy : Fl y b) (hn : (a - b).natAbs < 2 ^ 53) : ∃ r, floatBits .sub .f64 x y = some r ∧ Fl r (a - b) := by
  obtain ⟨s, k, i, hr, rfl⟩ := hx
  obtain ⟨t, k', j, hr', rfl⟩ := hy
  have e : sg s k - sg t k' = sg s k + sg (!t) k' := by unfold sg; cases t <;> simp <;> omega
  rw [e] at hn ⊢
  obtain ⟨d, hd, hf⟩ := sum_fl (i := i) (j := j) hn
  refine ⟨double.write d, ?_, hf⟩
  show double.sub x y = _
  unfold Format.sub
  rw [hr, hr']
  unfold Datum.opposite
  rw [hd]
  rfl
theorem fl_mul {x y : Nat} {a b : Int} (hx : Fl x a) (hy : Fl y b) (hn : (a * b).natAbs < 2 ^ 53) : ∃ r, floatBits .mul .f64 x y = some r ∧ Fl r (a * b) := by
  obtain ⟨s, k, i, hr, rfl⟩ := hx
  obtain ⟨t, k', j, hr', rfl⟩ := hy
  refine ⟨double.write (.number (s ^^ t) (k * 2 ^ i * (k' * 2 ^ j)) (-(i : Int) + -(j : Int))), ?_, ?_⟩
  · show double.mul x y = _
    unfold Format.mul
    rw [hr, hr']
    rfl
  · have e : -(i : Int) + -(j : Int) = -((i + j : Nat) : Int) := by omega
    rw [e]
    refine write_of ?_ hn
    have e2 : k * 2 ^ i * (k' * 2 ^ j) = k * k' * 2 ^ (i + j) := by rw [Nat.pow_add]; simp only [Nat.mul_assoc, Nat.mul_left_comm]
    rw [e2, sg_mul]
    congr 1
    unfold sg
    cases s <;> cases t <;> simp [Int.neg_mul, Int.mul_neg]

/-- The word x y reads as the whole complex number of two parts. -/
theorem cl_sum {x y x' y' : Nat} {a b a' b' : Int} (h1 : Fl x a) (h2 : Fl y b) (h3 : Fl x' a') (h4 : Fl y' b') (n1 : (a + a').natAbs < 2 ^ 53) (n2 : (b + b').natAbs < 2 ^ 53) :
    ∃ r i, cSumBits .add .f64 x y x' y' = some (r, i) ∧ Fl r (a + a') ∧ Fl i (b + b') := by
  obtain ⟨r, e1, f1⟩ := fl_add h1 h3 n1
  obtain ⟨i, e2, f2⟩ := fl_add h2 h4 n2
  exact ⟨r, i, by simp [cSumBits, e1, e2], f1, f2⟩
theorem cl_sub {x y x' y' : Nat} {a b a' b' : Int} (h1 : Fl x a) (h2 : Fl y b) (h3 : Fl x' a') (h4 : Fl y' b') (n1 : (a - a').natAbs < 2 ^ 53) (n2 : (b - b').natAbs < 2 ^ 53) :
    ∃ r i, cSumBits .sub .f64 x y x' y' = some (r, i) ∧ Fl r (a - a') ∧ Fl i (b - b') := by
  obtain ⟨r, e1, f1⟩ := fl_sub h1 h3 n1
  obtain ⟨i, e2, f2⟩ := fl_sub h2 h4 n2
  exact ⟨r, i, by simp [cSumBits, e1, e2], f1, f2⟩
theorem cl_mul {x y x' y' : Nat} {a b n : Int} (h1 : Fl x a) (h2 : Fl y b) (h3 : Fl x' n) (h4 : Fl y' 0) (n1 : (a * n).natAbs < 2 ^ 53) (n2 : (b * n).natAbs < 2 ^ 53) :
    ∃ r i, cMulBits x y x' y' = some (r, i) ∧ Fl r (a * n) ∧ Fl i (b * n) := by
  obtain ⟨ac, e1, f1⟩ := fl_mul h1 h3 n1
  obtain ⟨bd, e2, f2⟩ := fl_mul h2 h4 (by simp)
  rw [Int.mul_zero] at f2
  obtain ⟨re, e3, f3⟩ := fl_sub f1 f2 (by simpa using n1)
  obtain ⟨ad, e4, f4⟩ := fl_mul h1 h4 (by simp)
  rw [Int.mul_zero] at f4
  obtain ⟨bc, e5, f5⟩ := fl_mul h2 h3 n2
  obtain ⟨im, e6, f6⟩ := fl_add f4 f5 (by simpa using n2)
  rw [Int.sub_zero] at f3
  rw [Int.zero_add] at f6
  exact ⟨re, im, by simp [cMulBits, e1, e2, e3, e4, e5, e6], f3, f6⟩
end Go.Proofs.Ytcgfjobdpcdhhaa
