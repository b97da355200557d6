/-
  Plain laws on frames, no program in sight: the checksum, what a frame is, what bytes are as a frame. No condition.
-/
import Derived.KernelRfl
namespace Go.Proofs.Ytplbpahfellldaa
set_option linter.unusedVariables false

theorem getD_in {zs : List Int} {k : Nat} (h : k < zs.length) : zs.getD k 0 = zs[k] := by simp [List.getD, List.getElem?_eq_getElem h]
theorem getD_out {zs : List Int} {k : Nat} (h : zs.length ≤ k) : zs.getD k 0 = 0 := by simp [List.getD, List.getElem?_eq_none h]

def IsB (zs : List Int) : Prop := ∀ x ∈ zs, 0 ≤ x ∧ x ≤ 255
/-- The sum of the first k bytes, each as often as its place says. -/
def wsum (zs : List Int) : Nat → Int
  | 0 => 0
  | k + 1 => wsum zs k + ((k : Int) + 1) * zs.getD k 0
def checkZ (zs : List Int) : Int := wsum zs zs.length % 251
def headZ (n : Nat) : List Int := [(n : Int) / 256, (n : Int) % 256]
def frameZ (zs : List Int) : List Int := headZ zs.length ++ zs ++ [checkZ (headZ zs.length ++ zs)]
def lenZ (zs : List Int) : Int := 256 * zs.getD 0 0 + zs.getD 1 0
/-- The payload, the frame's length, the error. -/
def nextZ (zs : List Int) : List Int × Int × Int :=
  if zs.length < 2 then ([], 0, 10)
  else if lenZ zs < 1 ∨ 240 < lenZ zs then ([], 0, 12)
  else if (zs.length : Int) < lenZ zs + 3 then ([], 0, 10)
  else if checkZ (zs.take ((lenZ zs).toNat + 2)) ≠ zs.getD ((lenZ zs).toNat + 2) 0 then ([], 0, 11)
  else ((zs.drop 2).take (lenZ zs).toNat, lenZ zs + 3, 0)
def openZ (zs : List Int) : List Int × Int :=
  if (nextZ zs).2.2 ≠ 0 then ([], (nextZ zs).2.2) else if (nextZ zs).2.1 < zs.length then ([], 11) else ((nextZ zs).1, 0)

theorem IsB.at_ {zs : List Int} (h : IsB zs) (k : Nat) (hk : k < zs.length) : 0 ≤ zs[k] ∧ zs[k] ≤ 255 := h _ (List.getElem_mem hk)
theorem IsB.getD {zs : List Int} (h : IsB zs) (k : Nat) : 0 ≤ zs.getD k 0 ∧ zs.getD k 0 ≤ 255 := by
  by_cases hk : k < zs.length
  · rw [getD_in hk]; exact h.at_ k hk
  · rw [getD_out (by omega)]; omega
theorem IsB.take {zs : List Int} (h : IsB zs) (k : Nat) : IsB (zs.take k) := fun x hx => h x (List.mem_of_mem_take hx)
theorem IsB.drop {zs : List Int} (h : IsB zs) (k : Nat) : IsB (zs.drop k) := fun x hx => h x (List.mem_of_mem_drop hx)
theorem IsB.append {a b : List Int} (h : IsB a) (h' : IsB b) : IsB (a ++ b) := fun x hx => by
  rcases List.mem_append.1 hx with hh | hh
  · exact h x hh
  · exact h' x hh
theorem wterm {zs : List Int} (h : IsB zs) (k : Nat) (hk : k < 3000) : 0 ≤ ((k : Int) + 1) * zs.getD k 0 ∧ ((k : Int) + 1) * zs.getD k 0 ≤ 765000 := by
  obtain ⟨h0, h1⟩ := h.getD k
  constructor
  · exact Int.mul_nonneg (by omega) h0
  · have h2 : ((k : Int) + 1) * zs.getD k 0 ≤ ((k : Int) + 1) * 255 := Int.mul_le_mul_of_nonneg_left h1 (by omega)
    omega
theorem wsum_bd {zs : List Int} (h : IsB zs) (k : Nat) (hk : k ≤ 3000) : 0 ≤ wsum zs k ∧ wsum zs k ≤ 765000 * k := by
  induction k with
  | zero => simp [wsum]
  | succ k ih =>
    have a := ih (by omega)
    have b := wterm h k (by omega)
    simp only [wsum]
    omega
theorem check_bd (zs : List Int) : 0 ≤ checkZ zs ∧ checkZ zs ≤ 250 := by unfold checkZ; omega
theorem wsum_congr {a b : List Int} (k : Nat) (h : ∀ j, j < k → a.getD j 0 = b.getD j 0) : wsum a k = wsum b k := by
  induction k with
  | zero => rfl
  | succ k ih => simp only [wsum]; rw [ih (fun j hj => h j (by omega)), h k (by omega)]
theorem isB_head (n : Nat) (hn : n ≤ 65535) : IsB (headZ n) := by
  intro x hx; simp [headZ] at hx; omega
theorem isB_frame {zs : List Int} (h : IsB zs) (hn : zs.length ≤ 65535) : IsB (frameZ zs) := by
  refine ((isB_head _ hn).append h).append ?_
  intro x hx
  simp at hx
  have := check_bd (headZ zs.length ++ zs)
  omega
theorem frame_len (zs : List Int) : (frameZ zs).length = zs.length + 3 := by simp [frameZ, headZ]

/-- The head of a frame tells its length. -/
theorem len_head (n : Nat) (hn : n ≤ 240) (r : List Int) : lenZ (headZ n ++ r) = n := by
  simp [lenZ, headZ]; omega
theorem frame_eq (zs : List Int) : frameZ zs = (headZ zs.length ++ zs) ++ [checkZ (headZ zs.length ++ zs)] := rfl

theorem getD_app_left {a b : List Int} {k : Nat} (h : k < a.length) : (a ++ b).getD k 0 = a.getD k 0 := by
  simp [List.getD, List.getElem?_append_left h]

/-- What a frame with anything behind it is. -/
theorem next_frame (zs more : List Int) (h1 : 1 ≤ zs.length) (h2 : zs.length ≤ 240) : nextZ (frameZ zs ++ more) = (zs, (zs.length : Int) + 3, 0) := by
  have e : frameZ zs ++ more = headZ zs.length ++ (zs ++ [checkZ (headZ zs.length ++ zs)] ++ more) := by simp [frameZ]
  have hl : lenZ (frameZ zs ++ more) = zs.length := by rw [e]; exact len_head _ h2 _
  have hn : (frameZ zs ++ more).length = zs.length + 3 + more.length := by simp [frame_len]
  have ht : (frameZ zs ++ more).take (zs.length + 2) = headZ zs.length ++ zs := by
    rw [frame_eq, List.append_assoc]
    rw [List.take_append_of_le_length (by simp [headZ])]
    rw [List.take_of_length_le (by simp [headZ])]
  have hg : (frameZ zs ++ more).getD (zs.length + 2) 0 = checkZ (headZ zs.length ++ zs) := by
    rw [frame_eq, List.append_assoc]
    simp [List.getD, headZ]
  have hd : ((frameZ zs ++ more).drop 2).take zs.length = zs := by
    rw [e]; simp [headZ]
  unfold nextZ
  rw [hl, hn]
  simp only [Int.toNat_natCast]
  rw [ht, hg, hd]
  rw [if_neg (by omega), if_neg (by omega), if_neg (by omega), if_neg (by simp)]
theorem open_frame (zs : List Int) (h1 : 1 ≤ zs.length) (h2 : zs.length ≤ 240) : openZ (frameZ zs) = (zs, 0) := by
  have h := next_frame zs [] h1 h2
  rw [List.append_nil] at h
  unfold openZ
  rw [h]
  simp [frame_len]

/-- The ways of nextZ. -/
theorem next_short {zs : List Int} (h : zs.length < 2) : nextZ zs = ([], 0, 10) := by unfold nextZ; rw [if_pos h]
theorem next_size {zs : List Int} (h : 2 ≤ zs.length) (h2 : lenZ zs < 1 ∨ 240 < lenZ zs) : nextZ zs = ([], 0, 12) := by unfold nextZ; rw [if_neg (by omega), if_pos h2]
theorem next_cut {zs : List Int} (h : 2 ≤ zs.length) (h2 : 1 ≤ lenZ zs ∧ lenZ zs ≤ 240) (h3 : (zs.length : Int) < lenZ zs + 3) : nextZ zs = ([], 0, 10) := by
  unfold nextZ; rw [if_neg (by omega), if_neg (by omega), if_pos h3]
theorem next_form {zs : List Int} (h2 : 1 ≤ lenZ zs ∧ lenZ zs ≤ 240) (h3 : lenZ zs + 3 ≤ (zs.length : Int)) (h4 : checkZ (zs.take ((lenZ zs).toNat + 2)) ≠ zs.getD ((lenZ zs).toNat + 2) 0) : nextZ zs = ([], 0, 11) := by
  unfold nextZ; rw [if_neg (by omega), if_neg (by omega), if_neg (by omega), if_pos h4]
theorem next_ok {zs : List Int} (h2 : 1 ≤ lenZ zs ∧ lenZ zs ≤ 240) (h3 : lenZ zs + 3 ≤ (zs.length : Int)) (h4 : checkZ (zs.take ((lenZ zs).toNat + 2)) = zs.getD ((lenZ zs).toNat + 2) 0) :
    nextZ zs = ((zs.drop 2).take (lenZ zs).toNat, lenZ zs + 3, 0) := by
  unfold nextZ; rw [if_neg (by omega), if_neg (by omega), if_neg (by omega), if_neg (by simpa using h4)]

/-- The head of bytes that tell a length of a payload is that length's head. -/
theorem head_of {zs : List Int} (hB : IsB zs) (h : 2 ≤ zs.length) (h2 : 1 ≤ lenZ zs ∧ lenZ zs ≤ 240) : zs.take 2 = headZ (lenZ zs).toNat := by
  have a := hB.getD 0
  have b := hB.getD 1
  unfold lenZ at *
  match zs, h with
  | x :: y :: r, _ =>
    simp at a b h2 ⊢
    simp [headZ]
    omega
/-- What the reference's frame of the payload has at its end is the checksum of what stands ahead of it. -/
theorem made_check {zs : List Int} (hB : IsB zs) (h2 : 1 ≤ lenZ zs ∧ lenZ zs ≤ 240) (h3 : lenZ zs + 3 ≤ (zs.length : Int)) :
    (frameZ ((zs.drop 2).take (lenZ zs).toNat)).getD ((lenZ zs).toNat + 2) 0 = checkZ (zs.take ((lenZ zs).toNat + 2)) := by
  have hh := head_of hB (by omega) h2
  have hlen : ((zs.drop 2).take (lenZ zs).toNat).length = (lenZ zs).toNat := by simp; omega
  have e : headZ ((zs.drop 2).take (lenZ zs).toNat).length ++ (zs.drop 2).take (lenZ zs).toNat = zs.take ((lenZ zs).toNat + 2) := by
    rw [hlen, ← hh, Nat.add_comm, List.take_add]
  rw [frame_eq, e]
  have hl2 : (zs.take ((lenZ zs).toNat + 2)).length = (lenZ zs).toNat + 2 := by simp; omega
  simp only [List.getD]
  rw [List.getElem?_append_right (by omega), hl2]
  simp
/-- What is opened was made so. -/
theorem open_made {zs : List Int} (hB : IsB zs) (h : (openZ zs).2 = 0) : 1 ≤ (openZ zs).1.length ∧ (openZ zs).1.length ≤ 240 ∧ frameZ (openZ zs).1 = zs := by
  unfold openZ at *
  by_cases e0 : (nextZ zs).2.2 = 0
  · rw [if_neg (by simpa using e0)] at *
    by_cases e1 : (nextZ zs).2.1 < zs.length
    · rw [if_pos e1] at h; simp at h
    · rw [if_neg e1] at *
      by_cases a : zs.length < 2
      · rw [next_short a] at e0; simp at e0
      by_cases b : lenZ zs < 1 ∨ 240 < lenZ zs
      · rw [next_size (by omega) b] at e0; simp at e0
      by_cases c : (zs.length : Int) < lenZ zs + 3
      · rw [next_cut (by omega) (by omega) c] at e0; simp at e0
      by_cases d : checkZ (zs.take ((lenZ zs).toNat + 2)) = zs.getD ((lenZ zs).toNat + 2) 0
      · have hn := next_ok (by omega) (by omega) d
        rw [hn] at e1 ⊢
        simp only at e1 ⊢
        have hlen : ((zs.drop 2).take (lenZ zs).toNat).length = (lenZ zs).toNat := by simp; omega
        refine ⟨by omega, by omega, ?_⟩
        have hh := head_of hB (by omega) (by omega)
        have e : headZ ((zs.drop 2).take (lenZ zs).toNat).length ++ (zs.drop 2).take (lenZ zs).toNat = zs.take ((lenZ zs).toNat + 2) := by
          rw [hlen, ← hh, Nat.add_comm, List.take_add]
        rw [frame_eq, e, d]
        have hlt : (lenZ zs).toNat + 2 < zs.length := by omega
        rw [getD_in hlt, ← List.take_succ_eq_append_getElem hlt, List.take_of_length_le (by omega)]
      · rw [next_form (by omega) (by omega) d] at e0; simp at e0
  · rw [if_pos (by simpa using e0)] at h
    exact absurd h e0

/-! one byte that is another one -/
theorem wsum_set (zs : List Int) (k : Nat) (c : Int) (hk : k < zs.length) (n : Nat) : wsum (zs.set k c) n = wsum zs n + (if k < n then ((k : Int) + 1) * (c - zs[k]) else 0) := by
  induction n with
  | zero => simp [wsum]
  | succ n ih =>
    simp only [wsum]
    rw [ih]
    by_cases h : n = k
    · subst h
      rw [if_neg (by omega), if_pos (by omega)]
      simp only [List.getD, List.getElem?_set_self hk, List.getElem?_eq_getElem hk, Option.getD_some]
      rw [Int.mul_sub]; omega
    · have e : (zs.set k c).getD n 0 = zs.getD n 0 := by
        simp only [List.getD]
        rw [List.getElem?_set_ne (by omega)]
      rw [e]
      by_cases h2 : k < n
      · rw [if_pos h2, if_pos (by omega)]; omega
      · rw [if_neg h2, if_neg (by omega)]; omega
theorem coprime251 : ∀ a : Nat, a < 251 → a ≠ 0 → Nat.gcd 251 a = 1 := by decide +kernel
theorem not_dvd (a : Nat) (h0 : a ≠ 0) (h1 : a < 251) (x y : Int) (hne : x % 251 ≠ y % 251) : ((a : Int) * (x - y)) % 251 ≠ 0 := by
  intro h
  have hd : (251 : Int) ∣ (a : Int) * (x - y) := Int.dvd_of_emod_eq_zero h
  have hd2 : 251 ∣ a * (x - y).natAbs := by
    have := Int.natAbs_dvd_natAbs.2 hd
    simpa [Int.natAbs_mul] using this
  have hc : Nat.Coprime 251 a := coprime251 a h1 h0
  have hd3 : 251 ∣ (x - y).natAbs := hc.dvd_of_dvd_mul_left hd2
  omega
theorem check_set (zs : List Int) (k : Nat) (c : Int) (hk : k < zs.length) (hk2 : k < 250) (hne : zs[k] % 251 ≠ c % 251) : checkZ (zs.set k c) ≠ checkZ zs := by
  unfold checkZ
  rw [List.length_set, wsum_set zs k c hk, if_pos hk]
  intro h
  have := not_dvd (k + 1) (by omega) (by omega) c zs[k] (fun e => hne e.symm)
  rw [Int.natCast_add] at this
  apply this
  have e1 : ((k : Int) + 1) * (c - zs[k]) = (wsum zs zs.length + ((k : Int) + 1) * (c - zs[k])) - wsum zs zs.length := by omega
  rw [show ((1 : Nat) : Int) = 1 from rfl, e1]
  generalize wsum zs zs.length + ((k : Int) + 1) * (c - zs[k]) = p at *
  generalize wsum zs zs.length = q at *
  omega
/-- Of a frame in which one byte of the payload is another one nothing is opened. -/
theorem open_turned (zs : List Int) (h1 : 1 ≤ zs.length) (h2 : zs.length ≤ 240) (k : Nat) (hk : k < zs.length) (c : Int) (hne : zs[k] % 251 ≠ c % 251) : openZ ((frameZ zs).set (k + 2) c) = ([], 11) := by
  have hlen : ((frameZ zs).set (k + 2) c).length = zs.length + 3 := by simp [frame_len]
  have hs : (frameZ zs).set (k + 2) c = ((headZ zs.length ++ zs).set (k + 2) c) ++ [checkZ (headZ zs.length ++ zs)] := by
    rw [frame_eq, List.set_append_left _ _ (by simp [headZ]; omega)]
  have hhd : (headZ zs.length ++ zs).set (k + 2) c = headZ zs.length ++ zs.set k c := by
    simp [headZ]
  have hl : lenZ ((frameZ zs).set (k + 2) c) = zs.length := by
    rw [hs, hhd, List.append_assoc]; exact len_head _ h2 _
  have hn : nextZ ((frameZ zs).set (k + 2) c) = ([], 0, 11) := by
    refine next_form (by omega) (by omega) ?_
    rw [hl, Int.toNat_natCast]
    have ht : ((frameZ zs).set (k + 2) c).take (zs.length + 2) = (headZ zs.length ++ zs).set (k + 2) c := by
      rw [hs, List.take_append_of_le_length (by simp [headZ]), List.take_of_length_le (by simp [headZ])]
    have hg : ((frameZ zs).set (k + 2) c).getD (zs.length + 2) 0 = checkZ (headZ zs.length ++ zs) := by
      rw [hs]
      simp only [List.getD]
      rw [List.getElem?_append_right (by simp [headZ])]
      simp [headZ]
    rw [ht, hg]
    refine check_set _ _ _ (by simp [headZ]; omega) (by omega) ?_
    simpa [headZ] using hne
  unfold openZ
  rw [hn]
  simp
end Go.Proofs.Ytplbpahfellldaa
