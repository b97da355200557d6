/-
  The chapter's example of layer 2.
-/
import Derived.Test.YtcgfjobdpcdhhaaVadd
import Derived.Test.YtcgfjobdpcdhhaaVsub
import Derived.Test.YtcgfjobdpcdhhaaVcount
namespace Go.Proofs.Ytcgfjobdpcdhhaa
open Go.RowKit Go.BigFrame
set_option linter.unusedVariables false

theorem exAdd : ((⟨1, 2, 0, 0⟩ : Rs).add ⟨0, 3, 0, 4⟩).outR = ⟨1, 5, 0, 4⟩ := by decide
theorem exAddE : ((⟨1, 2, 0, 0⟩ : Rs).add ⟨0, 3, 0, 4⟩).outE = 0 := by decide
theorem exCount : (⟨7, 9, 0, 0⟩ : Rs).count ⟨2, 3, 0, 0⟩ = 3 := by decide
set_option maxHeartbeats 1000000 in
theorem vawake_any (w : World) : Calls Try.prog 9 #[] w fun e w' => e = .returned (.bool true) ∧ Below w.heap.size w w' := by
  go_enter Try.func9, Try.ntmps9
  go_wp2_with fail
  refine (vadd_yes ⟨1, 2, 0, 0⟩ ⟨0, 3, 0, 4⟩ _ (by decide) (by decide)).mono ?_
  rw [exAdd, exAddE]
  rintro e w1 ⟨rfl, hb1⟩
  have z1 := hb1.size
  have k1 := Blk.made w1 ⟨1, 5, 0, 4⟩
  have hW1 : Below w.heap.size w (w1.alloc ((⟨1, 5, 0, 4⟩ : Rs).obj 23)) := hb1.alloc z1 _
  simp only [Rs.obj] at k1 hW1
  go_wp2_with fail
  generalize w1.alloc (.cells #[.int .i64 1, .int .i64 5, .int .i64 0, .int .i64 4] 23) = wq at k1 hW1 ⊢
  refine (count_any ⟨7, 9, 0, 0⟩ ⟨2, 3, 0, 0⟩ _).mono ?_
  rw [exCount]
  rintro e w2 ⟨rfl, hb2⟩
  obtain ⟨x0, x1, x2, x3⟩ := (k1.below hb2 k1.lt).held
  simp only [] at x0 x1 x2 x3
  go_wp2
  go_ret
  exact ⟨rfl, hW1.trans (hb2.mono hW1.size)⟩
end Go.Proofs.Ytcgfjobdpcdhhaa
