/- The walk of laws.FnExactFractionOk: it returns true, and nothing that was there has turned. -/
import Derived.Test.YtbppdjglmgnggaaFrac
namespace Go.Proofs.Ytbppdjglmgnggaa
open Go.RowKit
set_option linter.unusedVariables false

theorem walkFractionOk (t0 b0 : Int) (w : World) (wt0 : -9223372036854775808 ≤ t0 ∧ t0 ≤ 9223372036854775807) (wb0 : -9223372036854775808 ≤ b0 ∧ b0 ≤ 9223372036854775807) :
    Calls Try.prog 3 #[.agg #[.int .i64 t0, .int .i64 b0]] w fun e w' => e = .returned (.bool true) ∧ Below w.heap.size w w' := by
  go_enter Try.func3, Try.ntmps3
  go_wp2_with fail
  refine (toFrac _ _ _).mono ?_
  rintro e w1 ⟨rfl, b1⟩
  have hz1 : w.heap.size < w1.heap.size := by have := b1.size; simp at this; omega
  obtain ⟨c1, f1⟩ := bcell b1
  go_wp2_with fail
  refine (specFractionOk _ _ _).mono ?_
  rintro e w' ⟨rfl, n, rfl⟩
  go_wp2_with fail
  refine (toFrac _ _ _).mono ?_
  rintro e w2 ⟨rfl, b2⟩
  have hz2 : w1.heap.size < w2.heap.size := by have := b2.size; simp at this; omega
  obtain ⟨c2, f2⟩ := bcell b2
  go_wp2_with fail
  refine (implFractionOk _ _ _).mono ?_
  rintro e w' ⟨rfl, m, rfl⟩
  go_wp2
  go_ret
  exact ⟨rfl, (by repeat (first | exact Below.refl _ _ | (refine Below.alloc ?_ (by first | omega | (simp <;> omega)) _) | (refine Below.setCell ?_ (by first | omega | (simp <;> omega)) _) | (refine bDrewN ?_ _) | (refine Below.drew ?_) | (refine Below.trans ?_ (Below.mono b1 (by first | omega | (simp <;> omega)))) | (refine Below.trans ?_ (Below.mono b2 (by first | omega | (simp <;> omega))))))⟩
end Go.Proofs.Ytbppdjglmgnggaa
