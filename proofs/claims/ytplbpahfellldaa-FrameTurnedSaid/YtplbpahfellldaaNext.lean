/-
  Contracts of frame.Next, frame.Open and of their references.
-/
import Derived.Test.YtplbpahfellldaaMake
import Derived.WalkSmall
namespace Go.Proofs.Ytplbpahfellldaa
open Go.RowKit
set_option linter.unusedVariables false

/-- It returns a slice that reads as these bytes, a length and an error. -/
def Next3 (w : World) (l : List Int) (n er : Int) (e : Ending) (w' : World) : Prop :=
  ∃ A c, e = .returned (.tuple #[.slice A l.length c, .int .i64 n, .int .i64 er]) ∧ l.length ≤ c ∧ Row w' w'.heap.size A (bytes l) ∧ Below w.heap.size w w'
def Open2 (w : World) (l : List Int) (er : Int) (e : Ending) (w' : World) : Prop :=
  ∃ A c, e = .returned (.tuple #[.slice A l.length c, .int .i64 er]) ∧ l.length ≤ c ∧ Row w' w'.heap.size A (bytes l) ∧ Below w.heap.size w w'

theorem own_cap {w : World} {base : Nat} {e : TypeId} {size n c : Nat} {A : Option Addr} {xs : List Value} (h : w.ownsRow base e size (.slice A n c) n xs) : n ≤ c := by
  rcases h.2 with ⟨hv, hn⟩ | ⟨g, cap, cur, hv, _, _, hc, _⟩
  · omega
  · injection hv; omega

theorem next3_of {w w1 : World} {l : List Int} {n m er : Int} {k : Nat} {v : Value} {e : Ending} (he : e = .returned (.tuple #[v, .int .i64 m, .int .i64 er])) (hl : l.length = k) (hm : m = n) (hb : Below w.heap.size w w1)
    (ho : w1.ownsRow w.heap.size 5 1 v (0 + k) ([] ++ bytes l)) : Next3 w l n er e w1 := by
  subst hl hm he
  have ho2 : w1.ownsRow w.heap.size 5 1 v l.length (bytes l) := by simpa using ho
  obtain ⟨A, c, rfl⟩ := own_form ho2
  exact ⟨A, c, rfl, own_cap ho2, Row.of_own ho2, hb⟩
theorem quiet_left {P : Program} {f : FuncId} {args : Array Value} {w : World} {n : Nat} {v : Value}
    (h : Calls P f args (w.drewN n) fun e w' => e = .returned v ∧ w.drewN n = w') : Calls P f args (w.drewN n) fun e w'' => e = .returned v ∧ ∃ m, w'' = w.drewN m :=
  h.mono fun _ _ ⟨he, hm⟩ => ⟨he, n, hm.symm⟩

theorem quiet_add_left {P : Program} {f : FuncId} {args : Array Value} {w : World} {a n : Nat} {v : Value}
    (h : Calls P f args (w.drewN (a + n)) fun e w' => e = .returned v ∧ w.drewN (a + n) = w') : Calls P f args (w.drewN (a + n)) fun e w'' => e = .returned v ∧ ∃ m, w'' = w.drewN (a + m) :=
  h.mono fun _ _ ⟨he, hm⟩ => ⟨he, n, hm.symm⟩
theorem checksum_at (A : Option Addr) (cap B n : Nat) (zs : List Int) (w : World) (hl : zs.length = n) (hr : Row w B A (bytes zs)) (hB : IsB zs) (hn : n ≤ 3000) :
    Calls Try.prog 15 #[.slice A n cap] w fun e w' => e = .returned (.int .u8 (checkZ zs)) ∧ w = w' := by
  subst hl; exact checksum_any A cap B zs w hr hB hn

/-- What the two bytes of the length tell. -/
theorem len_of {zs : List Int} (hB : IsB zs) (h : 2 ≤ zs.length) : ∃ n : Nat, (256 : Int) * zs[0] + zs[1] = (n : Int) ∧ lenZ zs = n ∧ n ≤ 65535 := by
  have a := hB.at_ 0 (by omega)
  have b := hB.at_ 1 (by omega)
  refine ⟨((256 : Int) * zs[0] + zs[1]).toNat, by omega, ?_, by omega⟩
  unfold lenZ
  rw [getD_in (show 0 < zs.length by omega), getD_in (show 1 < zs.length by omega)]
  omega

set_option maxHeartbeats 1000000 in
theorem next_any (A : Option Addr) (cap : Nat) (zs : List Int) (w : World) (B : Nat) (hr : Row w B A (bytes zs)) (hB : IsB zs) (hb : B ≤ w.heap.size) (hn : zs.length ≤ 3000) (hcap : zs.length ≤ cap) :
    Calls Try.prog 9 #[.slice A zs.length cap] w (Next3 w (nextZ zs).1 (nextZ zs).2.1 (nextZ zs).2.2) := by
  obtain ⟨i0, hi0, hz0, hz1, hz2⟩ := info_parts info5
  by_cases h2 : zs.length < 2
  · rw [next_short h2]
    go_enter Try.func9, Try.ntmps9
    go_wp2
    go_ret3
    exact ⟨none, 0, rfl, Nat.le_refl _, Row.empty, Below.refl _ _⟩
  have h2 : 2 ≤ zs.length := by omega
  obtain ⟨n, hn0, hn1, hn2⟩ := len_of hB h2
  have HN0 := Lib.hid hn0
  have HN1 := Lib.hid hn1
  obtain ⟨b, off, rfl, hbB, hc0⟩ := hr.get (show 0 < zs.length by omega)
  rw [Nat.add_zero] at hc0
  have hc1 := hr.cell 1 (by omega)
  have hl0 : 0 < zs.length := by omega
  have hl1 : 1 < zs.length := by omega
  have hx0 := hB.at_ 0 (by omega)
  have hx1 := hB.at_ 1 (by omega)
  clear hn0 hn1
  by_cases hp : n < 1 ∨ 240 < n
  · have hpay := payB_no (n := (n : Int)) (by omega)
    rw [next_size h2 (by rw [HN1.out]; omega)]
    go_enter Try.func9, Try.ntmps9
    go_wp2
    go_region
    rw [HN0.out]
    go_wp2_with (go_at_call 14; refine (payload_any _ _).mono ?_; rintro e w' ⟨rfl, rfl⟩)
    go_ret3
    exact ⟨none, 0, rfl, Nat.le_refl _, Row.empty, (Below.refl _ _).drew⟩
  have hpay := payB_yes (n := (n : Int)) (by omega)
  have hp1 : 1 ≤ n := by omega
  have hp2 : n ≤ 240 := by omega
  by_cases h3 : zs.length < n + 3
  · rw [next_cut h2 (by rw [HN1.out]; omega) (by rw [HN1.out]; omega)]
    go_enter Try.func9, Try.ntmps9
    go_wp2
    go_region
    rw [HN0.out]
    go_wp2_with (go_at_call 14; refine (payload_any _ _).mono ?_; rintro e w' ⟨rfl, rfl⟩)
    go_ret3
    exact ⟨none, 0, rfl, Nat.le_refl _, Row.empty, (Below.refl _ _).drew⟩
  have h3 : n + 3 ≤ zs.length := by omega
  have hcn := hr.cell (n + 2) (by omega)
  have hrt : Row w B (some ⟨b, off, none⟩) (bytes (zs.take (n + 2))) := by
    have := hr.take (n + 2)
    rwa [bytes, ← List.map_take] at this
  have hlt : Hid ((zs.take (n + 2)).length = n + 2) := by show (zs.take (n + 2)).length = n + 2; simp; omega
  have hw2 : 0 ≤ 2 + (n : Int) := by omega
  have hw3 : 2 + (n : Int) ≤ (cap : Int) := by omega
  have hw4 : 2 + (n : Int) < (zs.length : Int) := by omega
  have hi1 : (2 + (n : Int)).toNat = n + 2 := by omega
  have hw1 : IntKind.i64.wrap (2 + (n : Int)) = 2 + (n : Int) := IntWalk.i64_in _ (by omega)
  have hw5 : IntKind.i64.wrap (256 * zs[0] + zs[1]) = 256 * zs[0] + zs[1] := IntWalk.i64_in _ (by omega)
  have hw6 : IntKind.i64.wrap (256 * zs[0]) = 256 * zs[0] := IntWalk.i64_in _ (by omega)
  by_cases h4 : checkZ (zs.take (n + 2)) = zs[n + 2]
  · have h4b : (checkZ (zs.take (n + 2)) != zs[n + 2]) = false := by simp [h4]
    rw [next_ok (by rw [HN1.out]; omega) (by rw [HN1.out]; omega) (by rw [HN1.out, Int.toNat_natCast, getD_in (by omega)]; exact h4)]
    rw [HN1.out, Int.toNat_natCast]
    clear h4
    have hload : Row w B (some ⟨b, off + 2, none⟩) (bytes ((zs.drop 2).take n)) := by
      have := (hr.drop 2).take n
      rwa [bytes, ← List.map_drop, ← List.map_take] at this
    have hll : Hid (((zs.drop 2).take n).length = n) := by show ((zs.drop 2).take n).length = n; simp; omega
    have hc2 : ¬ cap = 2 := by omega
    go_enter Try.func9, Try.ntmps9
    go_wp2
    go_quiet (fail)
    rw [HN0.out]
    go_wp2_with (go_at_call 14; refine (payload_any _ _).mono ?_; rintro e w' ⟨rfl, rfl⟩)
    go_quiet ((go_at_call 15; exact quiet_add_left (checksum_at _ _ _ _ _ _ hlt.out hrt (hB.take _) (by omega))))
    go_wp2_with (at_builtin; refine wpList_append_row rfl (.const (.slice none 0 0)) (.tmp 42) 22 rfl w.heap.size 5 i0 (.int .u8 0) 1 1 Try.underlying22 hi0 hz0 hz1 hz2 rfl (by decide) (.slice none 0 0) 0 [] rfl (World.ownsRow_nil _ _ _ _) B (some ⟨b, off + 2, none⟩) n (cap - 2) (bytes ((zs.drop 2).take n)) rfl hload (by rw [bytes, List.length_map, hll.out, Nat.mul_one]) (one_bytes _) (by unfold maxLen; omega) (by omega) (Nat.le_refl _) ?_; intro v' w1 hown1 hg1)
    go_ret3
    refine next3_of (m := 2 + (n : Int) + 1) ?_ hll.out ?_ ?_ hown1
    · rfl
    · go_num
    · exact (below_drewN (Below.refl w.heap.size w) _).grown hg1 (Nat.le_refl _) (fun k hk => by cases hk)
  · have h4b : (checkZ (zs.take (n + 2)) != zs[n + 2]) = true := by simp [h4]
    rw [next_form (by rw [HN1.out]; omega) (by rw [HN1.out]; omega) (by rw [HN1.out, Int.toNat_natCast, getD_in (by omega)]; exact h4)]
    clear h4
    go_enter Try.func9, Try.ntmps9
    go_wp2
    go_quiet (fail)
    rw [HN0.out]
    go_wp2_with (go_at_call 14; refine (payload_any _ _).mono ?_; rintro e w' ⟨rfl, rfl⟩)
    go_quiet ((go_at_call 15; exact quiet_add_left (checksum_at _ _ _ _ _ _ hlt.out hrt (hB.take _) (by omega))))
    go_wp2
    go_ret3
    exact ⟨none, 0, rfl, Nat.le_refl _, Row.empty, (below_drewN (below_drewN (Below.refl _ _) _) _)⟩
theorem next3_eq {A : Option Addr} {c k : Nat} {l : List Int} {n er m : Int} (hl : l.length = k) (hm : m = n) : Ending.returned (.tuple #[.slice A k c, .int .i64 m, .int .i64 er]) = .returned (.tuple #[.slice A l.length c, .int .i64 n, .int .i64 er]) := by
  rw [hl, hm]
theorem own_last {w : World} {base : Nat} {v : Value} {ys : List Int} {m : Nat} {x : Int} (h : w.ownsRow base 5 1 v ys.length (bytes ys)) (hm : ys.length = m) (k : Nat) (hk : k < m) (hx : ys.getD k 0 = x) :
    ∃ g c, v = .slice (some ⟨g, 0, none⟩) m c ∧ w.cell? ⟨g, k, none⟩ = some (.int .u8 x) := by
  subst hm hx
  rcases h.2 with ⟨rfl, hn⟩ | ⟨g, cap, cur, rfl, _⟩
  · omega
  · refine ⟨g, cap, rfl, ?_⟩
    rw [World.ownsRow.cellAt h k (by omega)]
    simp [List.getD, List.getElem?_eq_getElem hk]
theorem rmake_at (A : Option Addr) (cap n : Nat) (zs : List Int) (w : World) (B : Nat) (hl : zs.length = n) (hr : Row w B A (bytes zs)) (hB : IsB zs) (hb : B ≤ w.heap.size) (h2 : n ≤ 2000) :
    Calls Try.prog 11 #[.slice A n cap] w (Made1 w (frameZ zs)) := by
  subst hl; exact rmake_any A cap zs w B hr hB hb h2

set_option maxHeartbeats 1000000 in
theorem rnext_any (A : Option Addr) (cap : Nat) (zs : List Int) (w : World) (B : Nat) (hr : Row w B A (bytes zs)) (hB : IsB zs) (hb : B ≤ w.heap.size) (hn : zs.length ≤ 3000) (hcap : zs.length ≤ cap) :
    Calls Try.prog 13 #[.slice A zs.length cap] w (Next3 w (nextZ zs).1 (nextZ zs).2.1 (nextZ zs).2.2) := by
  obtain ⟨i0, hi0, hz0, hz1, hz2⟩ := info_parts info5
  by_cases h2 : zs.length < 2
  · rw [next_short h2]
    go_enter Try.func13, Try.ntmps13
    go_wp2
    go_ret3
    exact ⟨none, 0, rfl, Nat.le_refl _, Row.empty, Below.refl _ _⟩
  have h2 : 2 ≤ zs.length := by omega
  obtain ⟨n, hn0, hn1, hn2⟩ := len_of hB h2
  have HN0 := Lib.hid hn0
  have HN1 := Lib.hid hn1
  obtain ⟨b, off, rfl, hbB, hc0⟩ := hr.get (show 0 < zs.length by omega)
  rw [Nat.add_zero] at hc0
  have hc1 := hr.cell 1 (by omega)
  have hl0 : 0 < zs.length := by omega
  have hl1 : 1 < zs.length := by omega
  have hx0 := hB.at_ 0 (by omega)
  have hx1 := hB.at_ 1 (by omega)
  clear hn0 hn1
  by_cases hp : n < 1 ∨ 240 < n
  · rw [next_size h2 (by rw [HN1.out]; omega)]
    by_cases hp0 : n = 0
    · subst hp0
      go_enter Try.func13, Try.ntmps13
      go_wp2
      go_region
      rw [HN0.out]
      go_wp2
      go_ret3
      exact ⟨none, 0, rfl, Nat.le_refl _, Row.empty, (Below.refl _ _).drew⟩
    · have hpe : ((n : Int) == 0) = false := by simp [hp0]
      have hpg : 240 < n := by omega
      clear hp hp0
      go_enter Try.func13, Try.ntmps13
      go_wp2
      go_region
      rw [HN0.out]
      go_wp2
      go_ret3
      exact ⟨none, 0, rfl, Nat.le_refl _, Row.empty, (Below.refl _ _).drew⟩
  have hp1 : 1 ≤ n := by omega
  have hp2 : n ≤ 240 := by omega
  have hpe : ((n : Int) == 0) = false := by simp; omega
  by_cases h3 : zs.length < n + 3
  · rw [next_cut h2 (by rw [HN1.out]; omega) (by rw [HN1.out]; omega)]
    go_enter Try.func13, Try.ntmps13
    go_wp2
    go_region
    rw [HN0.out]
    go_wp2
    go_ret3
    exact ⟨none, 0, rfl, Nat.le_refl _, Row.empty, (Below.refl _ _).drew⟩
  have h3 : n + 3 ≤ zs.length := by omega
  have hcn := hr.cell (n + 2) (by omega)
  have hload : Row w w.heap.size (some ⟨b, off + 2, none⟩) (bytes ((zs.drop 2).take n)) := by
    have := ((hr.drop 2).take n).more hb
    rwa [bytes, ← List.map_drop, ← List.map_take] at this
  have hll : Hid (((zs.drop 2).take n).length = n) := by show ((zs.drop 2).take n).length = n; simp; omega
  have hmc := Lib.hid (made_check hB (by rw [HN1.out]; omega) (by rw [HN1.out]; omega))
  rw [HN1.out, Int.toNat_natCast] at hmc
  have hc2 : ¬ cap = 2 := by omega
  have hw2 : 0 ≤ (n : Int) + 2 := by omega
  have hw3 : (n : Int) + 2 ≤ (cap : Int) := by omega
  have hw4 : (n : Int) + 2 < (zs.length : Int) := by omega
  have hi1 : ((n : Int) + 2).toNat = n + 2 := by omega
  have hfl : Hid ((frameZ ((zs.drop 2).take n)).length = n + 3) := by show _ = _; rw [frame_len, hll.out]
  by_cases h4 : checkZ (zs.take (n + 2)) = zs[n + 2]
  · have h4b : (checkZ (zs.take (n + 2)) != zs[n + 2]) = false := by simp [h4]
    rw [next_ok (by rw [HN1.out]; omega) (by rw [HN1.out]; omega) (by rw [HN1.out, Int.toNat_natCast, getD_in (by omega)]; exact h4)]
    rw [HN1.out, Int.toNat_natCast]
    clear h4
    go_enter Try.func13, Try.ntmps13
    go_wp2
    go_region
    rw [HN0.out]
    go_wp2_with fail
    refine (rmake_at _ _ _ _ _ w.heap.size hll.out (by exact hload) (hB.drop 2 |>.take n) (by simp) (by omega)).mono ?_
    rintro e w1 ⟨v, rfl, ho, hb1⟩
    obtain ⟨g, c, rfl, hcg⟩ := own_last ho hfl.out (n + 2) (by omega) hmc.out
    have hcn1 : w1.cell? ⟨b, off + (n + 2), none⟩ = some (.int .u8 zs[n + 2]) := (hb1.cell (by simp; omega)).trans hcn
    have hb2 : Below w.heap.size w w1 := (Below.refl _ _).drew.trans hb1
    clear ho hb1
    have hw7 : (n : Int) + 2 < ((n + 3 : Nat) : Int) := by omega
    go_wp2
    go_region
    go_wp2
    go_ret3
    exact ⟨_, cap - 2, next3_eq hll.out rfl, by rw [hll.out]; omega, (hload.below hb2).more hb2.size, hb2.drew⟩
  · have h4b : (checkZ (zs.take (n + 2)) != zs[n + 2]) = true := by simp [h4]
    rw [next_form (by rw [HN1.out]; omega) (by rw [HN1.out]; omega) (by rw [HN1.out, Int.toNat_natCast, getD_in (by omega)]; exact h4)]
    clear h4
    go_enter Try.func13, Try.ntmps13
    go_wp2
    go_region
    rw [HN0.out]
    go_wp2_with fail
    refine (rmake_at _ _ _ _ _ w.heap.size hll.out (by exact hload) (hB.drop 2 |>.take n) (by simp) (by omega)).mono ?_
    rintro e w1 ⟨v, rfl, ho, hb1⟩
    obtain ⟨g, c, rfl, hcg⟩ := own_last ho hfl.out (n + 2) (by omega) hmc.out
    have hcn1 : w1.cell? ⟨b, off + (n + 2), none⟩ = some (.int .u8 zs[n + 2]) := (hb1.cell (by simp; omega)).trans hcn
    have hb2 : Below w.heap.size w w1 := (Below.refl _ _).drew.trans hb1
    clear ho hb1
    have hw7 : (n : Int) + 2 < ((n + 3 : Nat) : Int) := by omega
    go_wp2
    go_region
    go_wp2
    go_ret3
    exact ⟨none, 0, rfl, Nat.le_refl _, Row.empty, hb2.drew⟩
end Go.Proofs.Ytplbpahfellldaa
