/- The walk of laws.FnExactShortestGolomb: it returns true, and nothing that was there has turned. -/
import Derived.Test.YtemeechmemhokaaShort
namespace Go.Proofs.Ytemeechmemhokaa
open Go.RowKit
set_option linter.unusedVariables false

theorem walkShortestGolomb (a0 : Int) (w : World) (w0 : -9223372036854775808 ≤ a0 ∧ a0 ≤ 9223372036854775807) :
    Calls Try.prog 7 #[.int .i64 a0] w fun e w' => e = .returned (.bool true) ∧ Below w.heap.size w w' := by
  go_enter Try.func7, Try.ntmps7
  go_wp2_with fail
  refine (specShortest _ _).mono ?_
  rintro e w1x ⟨v1, rfl, h1, b1⟩
  have BASEv1 := Nat.le_refl w.heap.size
  have bb1 := b1
  go_wp2_with fail
  refine (implShortest _ _).mono ?_
  rintro e w2x ⟨v2, rfl, h2, b2⟩
  have Av1_v2 := apart_new h1 h2
  have BASEv2 := bb1.size
  have h1 := h1.stay b2
  have bb2 := bThen bb1 b2
  go_wp2_with fail
  refine (eqIntS_any h2 h1).mono ?_
  rintro e w' ⟨rfl, n1, rfl⟩
  have bb3 := bDrewN bb2 n1
  have h1q := h1.drewN n1
  have h2q := h2.drewN n1
  go_wp2_with fail
  refine (markIntS_any h2q (by omega) (by omega) (Nat.le_trans (shoL_length _) (by omega))).mono ?_
  rintro e w3x ⟨rfl, hm4, hg4⟩
  have bb4 := bMark bb3 h2q BASEv2 hg4
  have h1q := h1q.keptBy Av1_v2 hg4
  go_wp2_with fail
  refine (heldIntS_any hm4 (by omega) (by omega) (Nat.le_trans (shoL_length _) (by omega))).mono ?_
  rintro e w' ⟨rfl, rfl⟩
  go_wp2_with fail
  refine (implShortest _ _).mono ?_
  rintro e w4x ⟨v5, rfl, h5, b5⟩
  have Av1_v5 := apart_new h1q h5
  have Av2_v5 := apart_new hm4 h5
  have BASEv5 := bb4.size
  have h1q := h1q.stay b5
  have hm4 := hm4.stay b5
  have bb5 := bThen bb4 b5
  go_wp2_with fail
  refine (eqIntS_any h5 h1q).mono ?_
  rintro e w' ⟨rfl, n2, rfl⟩
  have bb6 := bDrewN bb5 n2
  have h1qq := h1q.drewN n2
  have hm4q := hm4.drewN n2
  have h5q := h5.drewN n2
  go_wp2_with fail
  refine (heldIntS_any hm4q (by omega) (by omega) (Nat.le_trans (shoL_length _) (by omega))).mono ?_
  rintro e w' ⟨rfl, rfl⟩
  go_wp2
  go_ret
  exact ⟨rfl, bb6⟩
end Go.Proofs.Ytemeechmemhokaa
