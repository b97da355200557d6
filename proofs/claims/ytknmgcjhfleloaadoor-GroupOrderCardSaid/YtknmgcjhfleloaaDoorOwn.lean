/-
  A slice of slices of the call's own: chains in memory; what an append to the outer slice, and to one of the inner ones, leaves. And the contract of the reference's Ints.
-/
import Derived.Test.YtknmgcjhfleloaaDoorFirst
import Derived.OneCell
import Derived.Laws.OwnMore
namespace Go.Proofs.YtknmgcjhfleloaaDoor
open Go.RowKit Go.BigFrame
set_option linter.unusedVariables false

/-- Numbers of requests, as values. -/
def nvs (xs : List Nat) : List Value := xs.map fun (k : Nat) => Value.int .i64 (k : Int)
theorem nvs_len (xs : List Nat) : (nvs xs).length = xs.length := by simp [nvs]
theorem nvs_app (xs : List Nat) (k : Nat) : nvs (xs ++ [k]) = nvs xs ++ [.int .i64 (k : Int)] := by simp [nvs]
theorem nvs_get {xs : List Nat} {i : Nat} (h : i < xs.length) : (nvs xs)[i]? = some (.int .i64 (xs[i] : Int)) := by simp [nvs, h]
theorem one_nvs (xs : List Nat) : ∀ u ∈ nvs xs, u.oneCell' = true := by
  intro u hu
  simp only [nvs, List.mem_map] at hu
  obtain ⟨k, _, rfl⟩ := hu
  rfl
theorem nvs_inj {xs ys : List Nat} (h : nvs xs = nvs ys) : xs = ys := by
  induction xs generalizing ys with
  | nil => cases ys with
    | nil => rfl
    | cons y r => simp [nvs] at h
  | cons x r ih => cases ys with
    | nil => simp [nvs] at h
    | cons y s =>
      simp [nvs] at h
      have := ih (ys := s) (by simpa [nvs] using h.2)
      rw [this]; congr 1; omega

section
variable {w w' : World} {base : Nat} {e e' : TypeId} {size size' n m : Nat} {v v' : Value} {xs ys : List Value}
theorem own_some (h : w.ownsRow base e size v n xs) (hn : 0 < n) : ∃ g cap, v = .slice (some ⟨g, 0, none⟩) n cap ∧ base ≤ g ∧ g < w.heap.size := by
  rcases h.2 with ⟨_, rfl⟩ | ⟨g, cap, cur, rfl, hb, hg, _⟩
  · omega
  · exact ⟨g, cap, rfl, hb, (Array.getElem?_eq_some_iff.1 hg).1⟩
theorem own_at {g cap : Nat} (h : w.ownsRow base e size (.slice (some ⟨g, 0, none⟩) n cap) n xs) {i : Nat} (hi : i < xs.length) : w.cell? ⟨g, i, none⟩ = some xs[i] := by
  have := h.cells (g := g) rfl i xs[i] (List.getElem?_eq_getElem hi)
  rw [Go.WideShapes.add_plain, Nat.zero_add] at this
  exact this
/-- Rows of elements of two types lie in two blocks. -/
theorem own_types (h : w.ownsRow base e size v n xs) (h' : w.ownsRow base e' size' v' m ys) (hne : e ≠ e') {q : Nat} (hq : v.ownBlock = some q) : v'.ownBlock ≠ some q := by
  intro hq'
  rcases h.2 with ⟨rfl, _⟩ | ⟨g, cap, cur, rfl, _, hg, _⟩
  · cases hq
  rcases h'.2 with ⟨rfl, _⟩ | ⟨g', cap', cur', rfl, _, hg', _⟩
  · cases hq'
  simp only [Value.ownBlock, Option.some.injEq] at hq hq'
  subst hq hq'
  rw [hg] at hg'
  cases hg'
  exact hne rfl
/-- Rows that begin otherwise lie in two blocks. -/
theorem own_heads (h : w.ownsRow base e size v n xs) (h' : w.ownsRow base e' size' v' m ys) {a b : Value} (ha : xs[0]? = some a) (hb : ys[0]? = some b) (hne : a ≠ b) {q : Nat} (hq : v.ownBlock = some q) : v'.ownBlock ≠ some q := by
  intro hq'
  have h1 := h.cells hq 0 a ha
  have h2 := h'.cells hq' 0 b hb
  rw [h1] at h2
  exact hne (Option.some.inj h2)
theorem own_grown {row : Option Nat} (h : w.ownsRow base e size v n xs) (hg : w.grownBy w' row) (hr : ∀ q, row = some q → v.ownBlock ≠ some q) : w'.ownsRow base e size v n xs :=
  h.kept hg (by
    cases row with
    | none => cases hv : v.ownBlock <;> simp
    | some q => right; exact hr q rfl)
theorem own_below (h : w.ownsRow base e size v n xs) (hb : Below w.heap.size w w') : w'.ownsRow base e size v n xs :=
  h.kept (row := none) ⟨hb.os, hb.tape, hb.output, hb.size, fun j hj _ => hb.block j hj⟩ (by cases hv : v.ownBlock <;> simp)
/-- A literal's own new block. -/
theorem own_lit (w : World) (x : Value) (e : TypeId) (hb : base ≤ w.heap.size) : (w.alloc (.cells #[x] e)).ownsRow base e 1 (.slice (some ⟨w.heap.size, 0, none⟩) 1 1) 1 [x] :=
  ⟨rfl, .inr ⟨w.heap.size, 1, #[x], rfl, hb, heap_alloc_new w _, Nat.le_refl _, by unfold maxLen; omega, rfl, rfl⟩⟩
end

def nth (cs : List (List Nat)) (i : Nat) : List Nat := cs.getD i []
theorem nth_at {cs : List (List Nat)} {i : Nat} (h : i < cs.length) : nth cs i = cs[i] := by simp [nth, h]
theorem nth_app_lt {cs : List (List Nat)} {x : List Nat} {i : Nat} (h : i < cs.length) : nth (cs ++ [x]) i = nth cs i := by
  simp [nth, List.getD_eq_getElem?_getD, List.getElem?_append_left h]
theorem nth_app_eq {cs : List (List Nat)} {x : List Nat} : nth (cs ++ [x]) cs.length = x := by
  simp [nth, List.getD_eq_getElem?_getD]
theorem nth_set_ne {cs : List (List Nat)} {x : List Nat} {i j : Nat} (h : j ≠ i) : nth (cs.set i x) j = nth cs j := by
  simp [nth, List.getD_eq_getElem?_getD, List.getElem?_set_ne (Ne.symm h)]
theorem nth_set_eq {cs : List (List Nat)} {x : List Nat} {i : Nat} (h : i < cs.length) : nth (cs.set i x) i = x := by
  simp [nth, List.getD_eq_getElem?_getD, h]
/-- Slices, as values, that hold the chains. -/
def Inner (w : World) (base : Nat) (ss : List Value) (cs : List (List Nat)) : Prop :=
  ss.length = cs.length ∧ ∀ i (h : i < ss.length), w.ownsRow base 3 1 ss[i] (nth cs i).length (nvs (nth cs i))
/-- The chains, as a slice of slices of the call's own. -/
def OwnG (w : World) (base : Nat) (v : Value) (cs : List (List Nat)) : Prop := ∃ ss, Inner w base ss cs ∧ w.ownsRow base 27 1 v cs.length ss
/-- No two chains begin alike, and none is empty. -/
def Heads (cs : List (List Nat)) : Prop := (∀ i, i < cs.length → 0 < (nth cs i).length) ∧ ∀ i j, i < cs.length → j < cs.length → i ≠ j → (nth cs i)[0]? ≠ (nth cs j)[0]?

section
variable {w w' : World} {base : Nat} {v : Value} {ss : List Value} {cs : List (List Nat)}
theorem Inner.below (h : Inner w base ss cs) (hb : Below w.heap.size w w') : Inner w' base ss cs := ⟨h.1, fun i hi => own_below (h.2 i hi) hb⟩
theorem OwnG.below (h : OwnG w base v cs) (hb : Below w.heap.size w w') : OwnG w' base v cs := by
  obtain ⟨ss, h1, h2⟩ := h
  exact ⟨ss, h1.below hb, own_below h2 hb⟩
theorem Inner.grown {row : Option Nat} (h : Inner w base ss cs) (hg : w.grownBy w' row) (hr : ∀ q, row = some q → q < base) : Inner w' base ss cs :=
  ⟨h.1, fun i hi => own_grown (h.2 i hi) hg fun q hq e => by have := ((h.2 i hi).lt q e).1; have := hr q hq; omega⟩
theorem OwnG.grown {row : Option Nat} (h : OwnG w base v cs) (hg : w.grownBy w' row) (hr : ∀ q, row = some q → q < base) : OwnG w' base v cs := by
  obtain ⟨ss, h1, h2⟩ := h
  exact ⟨ss, h1.grown hg hr, own_grown h2 hg fun q hq e => by have := (h2.lt q e).1; have := hr q hq; omega⟩
/-- The outer row grows: the inner ones stay. -/
theorem Inner.outer {n : Nat} {ts : List Value} (h : Inner w base ss cs) (ho : w.ownsRow base 27 1 v n ts) (hg : w.grownBy w' v.ownBlock) : Inner w' base ss cs :=
  ⟨h.1, fun i hi => own_grown (h.2 i hi) hg fun q hq e => own_types (h.2 i hi) ho (by decide) e hq⟩
/-- A chain more. -/
theorem OwnG.push {v' : Value} {s : Value} {x : List Nat} {w1 : World} (hi : Inner w base ss cs) (ho : w.ownsRow base 27 1 v cs.length ss) (hs : w.ownsRow base 3 1 s x.length (nvs x))
    (ho' : w1.ownsRow base 27 1 v' (cs.length + 1) (ss ++ [s])) (hg : w.grownBy w1 v.ownBlock) : OwnG w1 base v' (cs ++ [x]) := by
  refine ⟨ss ++ [s], ⟨by simp [hi.1], fun i h => ?_⟩, by simpa using ho'⟩
  rcases Nat.lt_or_ge i ss.length with h1 | h1
  · rw [List.getElem_append_left h1, nth_app_lt (by rw [← hi.1]; exact h1)]
    exact (hi.outer ho hg).2 i h1
  · have h2 : i = cs.length := by simp at h; have := hi.1; omega
    subst h2
    rw [List.getElem_append_right h1, nth_app_eq]
    simp only [hi.1, Nat.sub_self, List.getElem_cons_zero]
    exact own_grown hs hg fun q hq e => own_types hs ho (by decide) e hq
end

def sameB (xs ys : List Int) : Bool := decide (xs = ys)
theorem sameB_len {xs ys : List Int} (h : xs.length ≠ ys.length) : sameB xs ys = false := by
  unfold sameB; rw [decide_eq_false_iff_not]; intro e; exact h (by rw [e])
theorem sameB_all {xs ys : List Int} (h : xs.length = ys.length) (h2 : ∀ j (a : j < xs.length) (b : j < ys.length), j < xs.length → xs[j] = ys[j]) : sameB xs ys = true := by
  unfold sameB; rw [decide_eq_true_eq]
  exact List.ext_getElem h fun i a b => h2 i a b a
theorem sameB_at {xs ys : List Int} (k : Nat) (h1 : k < xs.length) (h2 : k < ys.length) (h : xs[k] ≠ ys[k]) : sameB xs ys = false := by
  unfold sameB; rw [decide_eq_false_iff_not]; intro e; subst e; exact h rfl
set_option maxHeartbeats 1000000 in
theorem ints_any (A A' : Option Addr) (c c' B B' : Nat) (xs ys : List Int) (w : World) (h1 : Row w B A (ints xs)) (h2 : Row w B' A' (ints ys)) (hn : xs.length ≤ 100000) (hB : B ≤ w.heap.size) (hB' : B' ≤ w.heap.size) :
    Calls Tryd.prog 9 #[.slice A xs.length c, .slice A' ys.length c'] w fun e w' => e = .returned (.bool (sameB xs ys)) ∧ Below w.heap.size w w' := by
  by_cases hl : xs.length = ys.length
  · have hq : (((xs.length : Nat) : Int) != ((ys.length : Nat) : Int)) = false := by simp [hl]
    have hq2 : (xs.length != ys.length) = false := by simp [hl]
    have HL := Lib.hid hl
    have hle : ys.length ≤ xs.length := by omega
    have hle2 : xs.length ≤ ys.length := by omega
    clear hl
    go_enter Tryd.func9, Tryd.ntmps9
    go_wp2
    go_loopw [5] (fun i wr => ∃ k : Nat, k ≤ xs.length ∧ i = .int .i64 k ∧ Hid (∀ j (a : j < xs.length) (b : j < ys.length), j < k → xs[j] = ys[j]) ∧ Below w.heap.size w wr) (fun i _ => xs.length - (intOf i).toNat)
    case atStart => exact ⟨0, Nat.zero_le _, rfl, fun j _ _ hj => by omega, Below.refl _ _⟩
    case round =>
      obtain ⟨k, hk, rfl, hall, hbel⟩ := hrel
      by_cases hlt : k < xs.length
      · have hlt2 : k < ys.length := by omega
        obtain ⟨b, off, rfl, _, g0⟩ := ((h1.more hB).below hbel).int hlt
        obtain ⟨b', off', rfl, _, g0'⟩ := ((h2.more hB').below hbel).int hlt2
        by_cases e0 : xs[k] = ys[k]
        rotate_left
        · have HE := Lib.hid (sameB_at k hlt hlt2 e0)
          go_wp2
          go_region
          go_wp2
          go_ret
          exact ⟨retBool HE.out.symm, hbel.drew⟩
        have HE := Lib.hid e0
        go_wp2
        go_region
        go_wp2
        go_roundw
        case rel =>
          refine ⟨k + 1, by omega, by go_num, fun j a b hj => ?_, hbel.drew⟩
          rcases Nat.lt_or_ge j k with h | h
          · exact hall.out j a b h
          · obtain rfl : j = k := by omega
            exact HE.out
        case measure => simp [intOf]; omega
      · obtain rfl : k = xs.length := by omega
        go_wp2
        go_ret
        exact ⟨retBool (sameB_all HL.out hall.out).symm, hbel⟩
  · have hq : (((xs.length : Nat) : Int) != ((ys.length : Nat) : Int)) = true := by simp; omega
    have hq2 : (xs.length != ys.length) = true := by simp [hl]
    have HL := Lib.hid (sameB_len hl)
    clear hl
    go_enter Tryd.func9, Tryd.ntmps9
    go_wp2
    go_ret
    exact ⟨retBool HL.out.symm, Below.refl _ _⟩
end Go.Proofs.YtknmgcjhfleloaaDoor
