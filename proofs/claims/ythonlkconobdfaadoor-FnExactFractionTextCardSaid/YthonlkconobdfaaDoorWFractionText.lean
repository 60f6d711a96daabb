/- The walk of laws.FnExactFractionText: it returns true, and nothing that was there has turned. -/
import Derived.Test.YthonlkconobdfaaDoorFtx
namespace Go.Proofs.YthonlkconobdfaaDoor
open Go.RowKit
set_option linter.unusedVariables false

theorem walkFractionText (t0 b0 : Int) (w : World) (wt0 : -9223372036854775808 ≤ t0 ∧ t0 ≤ 9223372036854775807) (wb0 : -9223372036854775808 ≤ b0 ∧ b0 ≤ 9223372036854775807) (ht : Tab w) :
    Calls Tryd.prog 4 #[.agg #[.int .i64 t0, .int .i64 b0]] w fun e w' => e = .returned (.bool true) ∧ Below w.heap.size w w' := by
  obtain ⟨X, eX⟩ : ∃ X, X = ftx t0 b0 := ⟨_, rfl⟩
  replace eX := Lib.hid eX
  go_enter Tryd.func4, Tryd.ntmps4
  go_wp2_with fail
  refine (toFrac _ _ _).mono ?_
  rintro e w1 ⟨rfl, b1⟩
  have hz1 : w.heap.size < w1.heap.size := by have := b1.size; simp at this; omega
  have bb1 : Below w.heap.size w w1 := bThen (bAlloc (Below.refl _ _) _) b1
  obtain ⟨c1, f1⟩ := bcell b1
  go_wp2_with fail
  refine (specFtx _ _ _ (ht.on bb1)).mono ?_
  rintro e w2 ⟨rfl, b2⟩
  rw [← eX.out]
  have bb2 := bThen bb1 b2
  have hz2 : w.heap.size < w2.heap.size := by have := b2.size; omega
  obtain ⟨c2, f2⟩ := bcell b2
  go_wp2_with fail
  refine (toFrac _ _ _).mono ?_
  rintro e w3 ⟨rfl, b3⟩
  have bb3 := bThen bb2 b3
  go_wp2_with fail
  refine (implFtx _ _ _ (ht.on bb3)).mono ?_
  rintro e w4 ⟨rfl, b4⟩
  rw [← eX.out]
  have bb4 := bThen bb3 b4
  go_wp2
  go_ret
  exact ⟨rfl, bb4⟩
end Go.Proofs.YthonlkconobdfaaDoor
