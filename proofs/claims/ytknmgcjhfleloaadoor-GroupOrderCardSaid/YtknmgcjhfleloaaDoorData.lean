/-
  A batch of calls in memory; contracts of the small functions: Such of package alter, Concerns of package group, Such and Concerns of the reference.
-/
import Derived.Test.YtknmgcjhfleloaaDoorRows
import Derived.Test.YtknmgcjhfleloaaDoorPlain
import Derived.Test.YtknmgcjhfleloaaDoorLater
import Derived.WalkKit
import Derived.WalkSpells
import Derived.WalkLawsBesides
import Derived.Outline
import Derived.RegionTactic
namespace Go.Proofs.YtknmgcjhfleloaaDoor
open Go.RowKit Go.BigFrame
set_option linter.unusedVariables false

/-- A call: its user and its request. -/
structure Cl where
  u : Int
  k : Int
  y : Int
  j : Int
  v : Int
  q : Int
  m : Int
  nc : Int
  nm : Int
  ng : Int
  nl : Int
  wl : Int
  ts : Int
  fa : Option Addr
  fn : Nat
  fc : Nat
  nd : Int
  fr : Int
  to : Int
  id : Int

def Cl.cs (b : Cl) : List Value := [.int .i64 b.u, .int .i64 b.k, .int .i64 b.y, .int .i64 b.j, .int .i64 b.v, .int .i64 b.q, .int .i64 b.m, .int .i64 b.nc, .int .i64 b.nm, .int .i64 b.ng, .int .i64 b.nl, .int .i64 b.wl, .int .i64 b.ts, .slice b.fa b.fn b.fc, .int .i64 b.nd, .int .i64 b.fr, .int .i64 b.to, .int .i64 b.id]
abbrev Cl.val (b : Cl) : Value := .agg #[.int .i64 b.u, .int .i64 b.k, .int .i64 b.y, .int .i64 b.j, .int .i64 b.v, .int .i64 b.q, .int .i64 b.m, .int .i64 b.nc, .int .i64 b.nm, .int .i64 b.ng, .int .i64 b.nl, .int .i64 b.wl, .int .i64 b.ts, .slice b.fa b.fn b.fc, .int .i64 b.nd, .int .i64 b.fr, .int .i64 b.to, .int .i64 b.id]
abbrev Cl.obj (b : Cl) : Obj := .cells #[.int .i64 b.u, .int .i64 b.k, .int .i64 b.y, .int .i64 b.j, .int .i64 b.v, .int .i64 b.q, .int .i64 b.m, .int .i64 b.nc, .int .i64 b.nm, .int .i64 b.ng, .int .i64 b.nl, .int .i64 b.wl, .int .i64 b.ts, .slice b.fa b.fn b.fc, .int .i64 b.nd, .int .i64 b.fr, .int .i64 b.to, .int .i64 b.id] 35
abbrev Cl.req (b : Cl) : Value := .agg #[.int .i64 b.k, .int .i64 b.y, .int .i64 b.j, .int .i64 b.v, .int .i64 b.q, .int .i64 b.m, .int .i64 b.nc, .int .i64 b.nm, .int .i64 b.ng, .int .i64 b.nl, .int .i64 b.wl, .int .i64 b.ts, .slice b.fa b.fn b.fc, .int .i64 b.nd, .int .i64 b.fr, .int .i64 b.to, .int .i64 b.id]
abbrev Cl.robj (b : Cl) : Obj := .cells #[.int .i64 b.k, .int .i64 b.y, .int .i64 b.j, .int .i64 b.v, .int .i64 b.q, .int .i64 b.m, .int .i64 b.nc, .int .i64 b.nm, .int .i64 b.ng, .int .i64 b.nl, .int .i64 b.wl, .int .i64 b.ts, .slice b.fa b.fn b.fc, .int .i64 b.nd, .int .i64 b.fr, .int .i64 b.to, .int .i64 b.id] 33
def Cl.rq (b : Cl) : Rq := ⟨b.k, b.j⟩
def flatC (l : List Cl) : List Value := l.flatMap Cl.cs
theorem flatC_len (l : List Cl) : (flatC l).length = l.length * 18 := by
  induction l with
  | nil => rfl
  | cons b r ih => simp [flatC, Cl.cs] at *; omega
theorem flatC_get (l : List Cl) (k : Nat) (hk : k < l.length) (i : Nat) (hi : i < 18) : (flatC l)[k * 18 + i]? = l[k].cs[i]? := by
  induction l generalizing k with
  | nil => simp at hk
  | cons b r ih =>
    have hb : b.cs.length = 18 := rfl
    cases k with
    | zero =>
      simp only [flatC, List.flatMap_cons, Nat.zero_mul, Nat.zero_add, List.getElem_cons_zero]
      rw [List.getElem?_append_left (by omega)]
    | succ k =>
      have := ih k (by simpa using hk)
      have e : (k + 1) * 18 + i = b.cs.length + (k * 18 + i) := by omega
      rw [e]
      simp only [flatC, List.flatMap_cons, List.getElem_cons_succ] at this ⊢
      rw [List.getElem?_append_right (by omega), Nat.add_sub_cancel_left]
      exact this
/-- From place o of block p on a call lies. -/
def CallAt (p o : Nat) (b : Cl) (u : World) : Prop :=
  u.cell? ⟨p, o, none⟩ = some (.int .i64 b.u) ∧ u.cell? ⟨p, o + 1, none⟩ = some (.int .i64 b.k) ∧ u.cell? ⟨p, o + 2, none⟩ = some (.int .i64 b.y) ∧ u.cell? ⟨p, o + 3, none⟩ = some (.int .i64 b.j) ∧ u.cell? ⟨p, o + 4, none⟩ = some (.int .i64 b.v) ∧ u.cell? ⟨p, o + 5, none⟩ = some (.int .i64 b.q) ∧ u.cell? ⟨p, o + 6, none⟩ = some (.int .i64 b.m) ∧ u.cell? ⟨p, o + 7, none⟩ = some (.int .i64 b.nc) ∧ u.cell? ⟨p, o + 8, none⟩ = some (.int .i64 b.nm) ∧ u.cell? ⟨p, o + 9, none⟩ = some (.int .i64 b.ng) ∧ u.cell? ⟨p, o + 10, none⟩ = some (.int .i64 b.nl) ∧ u.cell? ⟨p, o + 11, none⟩ = some (.int .i64 b.wl) ∧ u.cell? ⟨p, o + 12, none⟩ = some (.int .i64 b.ts) ∧ u.cell? ⟨p, o + 13, none⟩ = some (.slice b.fa b.fn b.fc) ∧ u.cell? ⟨p, o + 14, none⟩ = some (.int .i64 b.nd) ∧ u.cell? ⟨p, o + 15, none⟩ = some (.int .i64 b.fr) ∧ u.cell? ⟨p, o + 16, none⟩ = some (.int .i64 b.to) ∧ u.cell? ⟨p, o + 17, none⟩ = some (.int .i64 b.id)
theorem CallAt.later {p o : Nat} {b : Cl} {u v : World} {B : Nat} (h : CallAt p o b u) (hb : Below B u v) (hp : p < B) : CallAt p o b v := by
  obtain ⟨h0, h1, h2, h3, h4, h5, h6, h7, h8, h9, h10, h11, h12, h13, h14, h15, h16, h17⟩ := h
  exact ⟨(hb.cell hp).trans h0, (hb.cell hp).trans h1, (hb.cell hp).trans h2, (hb.cell hp).trans h3, (hb.cell hp).trans h4, (hb.cell hp).trans h5, (hb.cell hp).trans h6, (hb.cell hp).trans h7, (hb.cell hp).trans h8, (hb.cell hp).trans h9, (hb.cell hp).trans h10, (hb.cell hp).trans h11, (hb.cell hp).trans h12, (hb.cell hp).trans h13, (hb.cell hp).trans h14, (hb.cell hp).trans h15, (hb.cell hp).trans h16, (hb.cell hp).trans h17⟩
theorem Row.call {w : World} {B : Nat} {A : Option Addr} {l : List Cl} {k : Nat} (h : Row w B A (flatC l)) (hk : k < l.length) :
    ∃ b off, A = some ⟨b, off, none⟩ ∧ b < B ∧ CallAt b (off + k * 18) l[k] w := by
  obtain ⟨b, off, e, hb, hc⟩ := h (by rw [flatC_len]; omega)
  have g : ∀ i u, i < 18 → l[k].cs[i]? = some u → w.cell? ⟨b, off + k * 18 + i, none⟩ = some u := fun i u hi hu => by
    rw [Nat.add_assoc]
    exact hc _ u ((flatC_get l k hk i hi).trans hu)
  exact ⟨b, off, e, hb, g 0 _ (by omega) rfl, g 1 _ (by omega) rfl, g 2 _ (by omega) rfl, g 3 _ (by omega) rfl, g 4 _ (by omega) rfl, g 5 _ (by omega) rfl, g 6 _ (by omega) rfl, g 7 _ (by omega) rfl, g 8 _ (by omega) rfl, g 9 _ (by omega) rfl, g 10 _ (by omega) rfl, g 11 _ (by omega) rfl, g 12 _ (by omega) rfl, g 13 _ (by omega) rfl, g 14 _ (by omega) rfl, g 15 _ (by omega) rfl, g 16 _ (by omega) rfl, g 17 _ (by omega) rfl⟩
/-- The kinds of requests that change one job alone, as package alter keeps them. -/
def Chg (w : World) : Prop := 0 < w.heap.size ∧ w.cell? ⟨0, 0, none⟩ = some (.int .i64 0) ∧ w.cell? ⟨0, 1, none⟩ = some (.int .i64 0) ∧ w.cell? ⟨0, 2, none⟩ = some (.int .i64 (-1)) ∧ w.cell? ⟨0, 3, none⟩ = some (.int .i64 1) ∧ w.cell? ⟨0, 4, none⟩ = some (.int .i64 2) ∧ w.cell? ⟨0, 5, none⟩ = some (.int .i64 6)
theorem Chg.later {u v : World} (h : Chg u) (hb : Below u.heap.size u v) : Chg v := by
  obtain ⟨h0, c0, c1, c2, c3, c4, c5⟩ := h
  exact ⟨by have := hb.size; omega, (hb.cell h0).trans c0, (hb.cell h0).trans c1, (hb.cell h0).trans c2, (hb.cell h0).trans c3, (hb.cell h0).trans c4, (hb.cell h0).trans c5⟩

def suchB (k : Int) : Bool := decide (2 ≤ k) && decide (k ≤ 5)
def concB (k : Int) : Bool := decide (2 ≤ k) && decide (k ≤ 8)
theorem such_rq (b : Cl) : b.rq.such = suchB b.k := rfl
theorem conc_rq (b : Cl) : b.rq.conc = concB b.k := rfl
theorem suchB_no {k : Int} (h : ¬ (2 ≤ k ∧ k ≤ 5)) : suchB k = false := by
  unfold suchB; by_cases h1 : 2 ≤ k <;> by_cases h2 : k ≤ 5 <;> simp [h1, h2]
  exact h ⟨h1, h2⟩
theorem suchB_yes {k : Int} (h : 2 ≤ k ∧ k ≤ 5) : suchB k = true := by simp [suchB, h.1, h.2]
theorem concB_no {k : Int} (h : ¬ (2 ≤ k ∧ k ≤ 8)) : concB k = false := by
  unfold concB; by_cases h1 : 2 ≤ k <;> by_cases h2 : k ≤ 8 <;> simp [h1, h2]
  exact h ⟨h1, h2⟩
theorem concB_yes {k : Int} (h : 2 ≤ k ∧ k ≤ 8) : concB k = true := by simp [concB, h.1, h.2]

set_option maxHeartbeats 1000000 in
theorem such_any (k : Int) (w : World) (hc : Chg w) : Calls Tryd.prog 15 #[.int .i64 k] w fun e w' => e = .returned (.bool (suchB k)) ∧ w = w' := by
  obtain ⟨h0, c0, c1, c2, c3, c4, c5⟩ := hc
  by_cases h1 : k < 0
  · have HS := Lib.hid (suchB_no (k := k) (by omega))
    go_enter Tryd.func15, Tryd.ntmps15
    go_wp2
    go_ret
    exact ⟨retBool HS.out.symm, rfl⟩
  by_cases h2 : 6 ≤ k
  · have HS := Lib.hid (suchB_no (k := k) (by omega))
    go_enter Tryd.func15, Tryd.ntmps15
    go_wp2
    go_ret
    exact ⟨retBool HS.out.symm, rfl⟩
  have h3 : k = 0 ∨ k = 1 ∨ k = 2 ∨ k = 3 ∨ k = 4 ∨ k = 5 := by omega
  rcases h3 with rfl | rfl | rfl | rfl | rfl | rfl
  all_goals
    go_enter Tryd.func15, Tryd.ntmps15
    go_wp2
    go_ret
    exact ⟨rfl, rfl⟩

set_option maxHeartbeats 1000000 in
theorem rsuch_any (b : Cl) (w : World) : Calls Tryd.prog 14 #[b.req] w fun e w' => e = .returned (.bool (suchB b.k)) ∧ Below w.heap.size w w' := by
  have hb : Below w.heap.size w (w.alloc b.robj) := (Below.refl _ _).alloc (Nat.le_refl _) _
  by_cases h1 : 2 ≤ b.k
  · by_cases h2 : b.k ≤ 5
    · have HS := Lib.hid (suchB_yes ⟨h1, h2⟩)
      go_enter Tryd.func14, Tryd.ntmps14
      go_wp2
      go_ret
      exact ⟨retBool HS.out.symm, hb⟩
    · have HS := Lib.hid (suchB_no (k := b.k) (by omega))
      go_enter Tryd.func14, Tryd.ntmps14
      go_wp2
      go_ret
      exact ⟨retBool HS.out.symm, hb⟩
  · have HS := Lib.hid (suchB_no (k := b.k) (by omega))
    go_enter Tryd.func14, Tryd.ntmps14
    go_wp2
    go_ret
    exact ⟨retBool HS.out.symm, hb⟩
set_option maxHeartbeats 1000000 in
theorem rconc_any (b : Cl) (w : World) : Calls Tryd.prog 13 #[b.req] w fun e w' => e = .returned (.bool (concB b.k)) ∧ Below w.heap.size w w' := by
  have hb : Below w.heap.size w (w.alloc b.robj) := (Below.refl _ _).alloc (Nat.le_refl _) _
  by_cases h1 : 2 ≤ b.k
  · by_cases h2 : b.k ≤ 8
    · have HS := Lib.hid (concB_yes ⟨h1, h2⟩)
      go_enter Tryd.func13, Tryd.ntmps13
      go_wp2
      go_ret
      exact ⟨retBool HS.out.symm, hb⟩
    · have HS := Lib.hid (concB_no (k := b.k) (by omega))
      go_enter Tryd.func13, Tryd.ntmps13
      go_wp2
      go_ret
      exact ⟨retBool HS.out.symm, hb⟩
  · have HS := Lib.hid (concB_no (k := b.k) (by omega))
    go_enter Tryd.func13, Tryd.ntmps13
    go_wp2
    go_ret
    exact ⟨retBool HS.out.symm, hb⟩
/-- The job that a request concerns. -/
def jobOf (b : Cl) : Int := if concB b.k then b.j else 0
set_option maxHeartbeats 2000000 in
theorem conc_any (b : Cl) (w : World) : Calls Tryd.prog 12 #[b.req] w fun e w' => e = .returned (.tuple #[.int .i64 (jobOf b), .bool (concB b.k)]) ∧ Below w.heap.size w w' := by
  have hb : Below w.heap.size w (w.alloc b.robj) := (Below.refl _ _).alloc (Nat.le_refl _) _
  by_cases h : 2 ≤ b.k ∧ b.k ≤ 8
  · have h3 : b.k = 2 ∨ b.k = 3 ∨ b.k = 4 ∨ b.k = 5 ∨ b.k = 6 ∨ b.k = 7 ∨ b.k = 8 := by omega
    have e1 : concB b.k = true := concB_yes h
    have e2 : jobOf b = b.j := by unfold jobOf; rw [e1]; rfl
    rw [e1, e2]
    clear e1 e2 h
    rcases h3 with h | h | h | h | h | h | h
    all_goals
      go_enter Tryd.func12, Tryd.ntmps12
      go_wp2
      go_ret2
      exact ⟨rfl, (Below.refl _ _).alloc (Nat.le_refl _) _⟩
  · have e1 : concB b.k = false := concB_no h
    have e2 : jobOf b = 0 := by unfold jobOf; rw [e1]; rfl
    rw [e1, e2]
    have d2 : (b.k == 2) = false := by simp; omega
    have d3 : (b.k == 3) = false := by simp; omega
    have d4 : (b.k == 4) = false := by simp; omega
    have d5 : (b.k == 5) = false := by simp; omega
    have d6 : (b.k == 6) = false := by simp; omega
    have d7 : (b.k == 7) = false := by simp; omega
    have d8 : (b.k == 8) = false := by simp; omega
    clear e1 e2 h
    go_enter Tryd.func12, Tryd.ntmps12
    go_wp2
    go_ret2
    exact ⟨rfl, hb⟩
end Go.Proofs.YtknmgcjhfleloaaDoor
