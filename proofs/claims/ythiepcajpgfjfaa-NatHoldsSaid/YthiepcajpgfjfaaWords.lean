/-
  Words for memory, no program in sight: a slice that reads as a list of cells, and how it is kept. No condition.
-/
import Derived.Below
import Derived.Laws.OwnMore
import Derived.OwnWalk
import Derived.Carry
import Derived.Lib.Hide
namespace Go.Proofs.Ythiepcajpgfjfaa
open Go.RowKit
set_option linter.unusedVariables false

theorem retInt {k : IntKind} {a b : Int} (h : a = b) : Ending.returned (.int k a) = .returned (.int k b) := by rw [h]
theorem retBool {a b : Bool} (h : a = b) : Ending.returned (.bool a) = .returned (.bool b) := by rw [h]

/-- The slice that begins at A holds the cells vs, and they lie below block B. -/
def Row (w : World) (B : Nat) (A : Option Addr) (vs : List Value) : Prop :=
  0 < vs.length → ∃ b off, A = some ⟨b, off, none⟩ ∧ b < B ∧ ∀ j u, vs[j]? = some u → w.cell? ⟨b, off + j, none⟩ = some u

section
variable {w w' : World} {B B' : Nat} {A : Option Addr} {vs : List Value}
theorem Row.empty : Row w B A [] := fun h => absurd h (by simp)
theorem Row.keep (h : Row w B A vs) (hk : ∀ p : Addr, p.block < B → w'.cell? p = w.cell? p) : Row w' B A vs := fun hn => by
  obtain ⟨b, off, e, hb, hc⟩ := h hn
  exact ⟨b, off, e, hb, fun j u hu => (hk _ hb).trans (hc j u hu)⟩
theorem Row.more (h : Row w B A vs) (hB : B ≤ B') : Row w B' A vs := fun hn => by
  obtain ⟨b, off, e, hb, hc⟩ := h hn
  exact ⟨b, off, e, by omega, hc⟩
theorem Row.below (h : Row w B A vs) (hb : Below B w w') : Row w' B A vs := h.keep fun _ hp => hb.cell hp
theorem Row.of_add {x : Addr} (h : ∀ i u, vs[i]? = some u → w.cell? (x.add i) = some u) : Row w w.heap.size (some x) vs := fun hn => by
  obtain ⟨b, off, spot⟩ := x
  have h0 := h 0 vs[0] (List.getElem?_eq_getElem hn)
  have hs : spot = none := by simpa [Addr.add] using World.cell?_spot h0
  subst hs
  refine ⟨b, off, rfl, by simpa [Addr.add] using World.block_lt_of_cell? w _ h0, fun j u hu => ?_⟩
  rw [← Go.WideShapes.add_plain]; exact h j u hu
theorem Row.of_own {base : Nat} {e : TypeId} {size n c : Nat} (h : w.ownsRow base e size (.slice A n c) n vs) : Row w w.heap.size A vs := fun hn => by
  rcases h.2 with ⟨hv, hz⟩ | ⟨g, cap, cur, hv, _, hg, _⟩
  · have := h.1; rw [hz, Nat.zero_mul] at this; omega
  · injection hv with hA _ _
    subst hA
    refine ⟨g, 0, rfl, (Array.getElem?_eq_some_iff.1 hg).1, fun j u hu => ?_⟩
    have := h.cells (g := g) rfl j u hu
    rw [Go.WideShapes.add_plain] at this
    exact this
/-- At a place of the row: its address written out, and its cell. -/
theorem Row.at_ {k : Nat} (h : Row w B A vs) (hk : k < vs.length) : ∃ b off, A = some ⟨b, off, none⟩ ∧ b < B ∧ w.cell? ⟨b, off + k, none⟩ = some vs[k] := by
  obtain ⟨b, off, e, hb, hc⟩ := h (by omega)
  exact ⟨b, off, e, hb, hc k _ (List.getElem?_eq_getElem hk)⟩
end

/-- A slice of ints. -/
abbrev ints (xs : List Int) : List Value := xs.map (Value.int .i64)
theorem Row.int {w : World} {B : Nat} {A : Option Addr} {xs : List Int} {k : Nat} (h : Row w B A (ints xs)) (hk : k < xs.length) :
    ∃ b off, A = some ⟨b, off, none⟩ ∧ b < B ∧ w.cell? ⟨b, off + k, none⟩ = some (.int .i64 xs[k]) := by
  obtain ⟨b, off, e, hb, hc⟩ := h.at_ (k := k) (by simpa using hk)
  exact ⟨b, off, e, hb, by simpa using hc⟩
end Go.Proofs.Ythiepcajpgfjfaa
