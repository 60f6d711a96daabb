/- The walk of laws.FnExactParseUint: it returns true, and nothing that was there has turned. -/
import Derived.Test.YthonlkconobdfaaDoorPuS
namespace Go.Proofs.YthonlkconobdfaaDoor
open Go.RowKit
set_option linter.unusedVariables false

theorem walkParseUint (a0 : ByteArray) (w : World) (w0 : a0.size ≤ maxLen) (ht : Tab w) (hs : Syn w) :
    Calls Tryd.prog 7 #[.string a0] w fun e w' => e = .returned (.bool true) ∧ Below w.heap.size w w' := by
  unfold maxLen at w0
  by_cases hbig : 1048576 < a0.size
  · have hd : decide ((1048576 : Int) < (a0.size : Int)) = true := decide_eq_true (by omega)
    go_enter Tryd.func7, Tryd.ntmps7
    go_wp2
    go_ret
    exact ⟨rfl, Below.refl _ _⟩
  · have hd : decide ((1048576 : Int) < (a0.size : Int)) = false := decide_eq_false (by omega)
    obtain ⟨X, eX⟩ : ∃ X, X = puV a0 := ⟨_, rfl⟩
    obtain ⟨B, eB⟩ : ∃ B, B = puB a0 := ⟨_, rfl⟩
    replace eX := Lib.hid eX
    replace eB := Lib.hid eB
    have nx : (X != X) = false := by simp
    have nb : (B != B) = false := by simp
    go_enter Tryd.func7, Tryd.ntmps7
    go_wp2_with fail
    refine (specPu _ _).mono ?_
    rintro e w1 ⟨rfl, b1⟩
    rw [← eX.out, ← eB.out]
    go_wp2_with fail
    refine (implPu _ _ (ht.on b1) (hs.on b1)).mono ?_
    rintro e w2 ⟨rfl, b2⟩
    rw [← eX.out, ← eB.out]
    have bb := bThen b1 b2
    go_wp2
    go_ret
    exact ⟨rfl, bb⟩
end Go.Proofs.YthonlkconobdfaaDoor
