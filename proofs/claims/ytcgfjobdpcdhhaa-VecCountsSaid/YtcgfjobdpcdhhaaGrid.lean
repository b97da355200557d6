/-
  An argument that is a slice of structs whose fields are all integers of one kind, opened to its cells. No program in sight. No condition.
-/
import Derived.Test.YtcgfjobdpcdhhaaWords
import Derived.Deep.Slices
import Derived.Deep.Fields
import Derived.ChangeSame
import Derived.ProofKit
namespace Go.Proofs.Ytcgfjobdpcdhhaa
open Go.ChangeShapes Go.WideShapes Go.Deep Go.RowKit
set_option linter.unusedVariables false

section
variable {H : Type} {enc : TypeId × Value → H} {P : Program} {w : World} {base : Nat} {spare : Nat → Bool} {held : Bool}
theorem trod_ints {e : TypeId} {fs : Array Field} {k : IntKind} {n : Nat} {cs : List Value} {y : DataW H × List MemPlace} (he : P.underlying e = some (.struct fs)) (hone : oneCellFields P fs = true) (hC : P.cellsOf e = fs.size)
    (hint : ∀ (j : Nat) (f : Field), fs[j]? = some f → P.underlying f.type = some (.int k)) (h : DataW.trod enc P w base spare held n e cs = some y) :
    cs.length = fs.size ∧ ∀ j, j < fs.size → ∃ x : Int, cs[j]? = some (.int k x) ∧ (Lit.int k x).wf = true := by
  obtain ⟨xs, m, _, _, hl, hlen, hf⟩ := DataW.trod_struct he h
  rw [hC] at hl
  refine ⟨hl, fun j hj => ?_⟩
  have hfj : fs[j]? = some fs[j] := Array.getElem?_eq_getElem hj
  obtain ⟨ho, hk⟩ := hone_of hone j _ hfj
  have h1 := hf j _ hfj
  rw [ho, hk] at h1
  have h2 : (cs.drop j).take 1 = [cs[j]'(by omega)] := by rw [List.drop_eq_getElem_cons (by omega)]; rfl
  rw [h2, List.getElem?_eq_getElem (by omega)] at h1
  obtain ⟨x, hx, _, wx⟩ := DataW.trod_int (hint j _ hfj) h1
  refine ⟨x, ?_, wx⟩
  rw [List.getElem?_eq_getElem (by omega)]
  simp at hx
  rw [hx]

theorem open_grid {t e : TypeId} {fs : Array Field} {k : IntKind} {fuel : Nat} {cs : List Value} {x : DataW H × List MemPlace} (ht : P.underlying t = some (.slice e)) (he : P.underlying e = some (.struct fs))
    (hone : oneCellFields P fs = true) (hC : P.cellsOf e = fs.size) (hint : ∀ (j : Nat) (f : Field), fs[j]? = some f → P.underlying f.type = some (.int k)) (h : DataW.trod enc P w base (fun _ => true) held fuel t cs = some x) :
    cs = [.slice none 0 0] ∨ ∃ (a : Addr) (len cap : Nat) (f : Nat → Nat → Int), cs = [.slice (some a) len cap] ∧ len ≤ cap ∧ cap ≤ maxLen ∧
      ∀ i j, i < len → j < fs.size → w.cell? (a.add (i * fs.size + j)) = some (.int k (f i j)) ∧ (Lit.int k (f i j)).wf = true := by
  rcases open_slice ht h with ⟨h0, _⟩ | ⟨a, len, cap, m, n, D, Pl, hcs, hb, hl, hm, hmm, hx, hi⟩
  · exact .inl h0
  · right
    have key : ∀ i j, i < len → j < fs.size → ∃ x : Int, w.cell? (a.add (i * fs.size + j)) = some (.int k x) ∧ (Lit.int k x).wf = true := by
      intro i j hil hj
      obtain ⟨cs', hc, ht'⟩ := hi i (by simp at hmm; omega)
      rw [hC] at hc
      obtain ⟨_, hcl, hat⟩ := World.cells?_some hc
      obtain ⟨_, hf⟩ := trod_ints he hone hC hint ht'
      obtain ⟨x, hx, wx⟩ := hf j hj
      refine ⟨x, ?_, wx⟩
      rw [← Go.Deep.add_add, hat j hj, hx]
    have key2 : ∀ i j, ∃ x : Int, i < len → j < fs.size → w.cell? (a.add (i * fs.size + j)) = some (.int k x) ∧ (Lit.int k x).wf = true := by
      intro i j
      by_cases h : i < len ∧ j < fs.size
      · obtain ⟨x, hx⟩ := key i j h.1 h.2
        exact ⟨x, fun _ _ => hx⟩
      · exact ⟨0, fun a b => absurd ⟨a, b⟩ h⟩
    refine ⟨a, len, cap, fun i j => Classical.choose (key2 i j), hcs, hl, hm, fun i j a b => Classical.choose_spec (key2 i j) a b⟩
end
end Go.Proofs.Ytcgfjobdpcdhhaa
