/- The walk of laws.FnExactPansFor: it returns true, and nothing that was there has turned. -/
import Derived.Test.YtfbecjeogbjnpaaPans
namespace Go.Proofs.Ytfbecjeogbjnpaa
open Go.RowKit
set_option linter.unusedVariables false

theorem walkPansFor (a0 : Int) (w : World) (w0 : -9223372036854775808 ≤ a0 ∧ a0 ≤ 9223372036854775807) :
    Calls Try.prog 14 #[.int .i64 a0] w fun e w' => e = .returned (.bool true) ∧ Below w.heap.size w w' := by
  have l1 := pans_len (-1) a0
  have l2 := pans_len 1 a0
  go_enter Try.func14, Try.ntmps14
  go_wp2_with fail
  refine (specPansFor _ _).mono ?_
  rintro e w1x ⟨v1, v1r, rfl, h1, h1r, Av1_v1r, b1⟩
  have BASEv1 := Nat.le_refl w.heap.size
  have BASEv1r := Nat.le_refl w.heap.size
  have bb1 := b1
  go_wp2_with fail
  refine (implPansFor _ _).mono ?_
  rintro e w2x ⟨v2, v2r, rfl, h2, h2r, Av2_v2r, b2⟩
  have Av1_v2 := apart_new h1 h2
  have Av1_v2r := apart_new h1 h2r
  have Av1r_v2 := apart_new h1r h2
  have Av1r_v2r := apart_new h1r h2r
  have BASEv2 := bb1.size
  have BASEv2r := bb1.size
  have h1 := h1.stay b2
  have h1r := h1r.stay b2
  have bb2 := bThen bb1 b2
  go_wp2_with fail
  refine (eqIntS_any h2 h1).mono ?_
  rintro e w' ⟨rfl, n1, rfl⟩
  have bb3 := bDrewN bb2 n1
  have h1q := h1.drewN n1
  have h1rq := h1r.drewN n1
  have h2q := h2.drewN n1
  have h2rq := h2r.drewN n1
  go_wp2_with fail
  refine (eqIntS_any h2rq h1rq).mono ?_
  rintro e w' ⟨rfl, n2, rfl⟩
  have bb4 := bDrewN bb2 (n1 + n2)
  have h1q := h1.drewN (n1 + n2)
  have h1rq := h1r.drewN (n1 + n2)
  have h2q := h2.drewN (n1 + n2)
  have h2rq := h2r.drewN (n1 + n2)
  go_wp2_with fail
  refine (markIntS_any h2q (by omega) (by omega) (Nat.le_trans (pans_len _ _) (by omega))).mono ?_
  rintro e w3x ⟨rfl, hm5, hg5⟩
  have bb5 := bMark bb4 h2q BASEv2 hg5
  have h1q := h1q.keptBy Av1_v2 hg5
  have h1rq := h1rq.keptBy Av1r_v2 hg5
  have h2rq := h2rq.keptBy Av2_v2r.symm hg5
  go_wp2_with fail
  refine (markIntS_any h2rq (by omega) (by omega) (Nat.le_trans (pans_len _ _) (by omega))).mono ?_
  rintro e w4x ⟨rfl, hm6, hg6⟩
  have bb6 := bMark bb5 h2rq BASEv2r hg6
  have h1q := h1q.keptBy Av1_v2r hg6
  have h1rq := h1rq.keptBy Av1r_v2r hg6
  have hm5 := hm5.keptBy Av2_v2r hg6
  go_wp2_with fail
  refine (heldIntS_any hm5 (by omega) (by omega) (Nat.le_trans (pans_len _ _) (by omega))).mono ?_
  rintro e w' ⟨rfl, rfl⟩
  go_wp2_with fail
  refine (heldIntS_any hm6 (by omega) (by omega) (Nat.le_trans (pans_len _ _) (by omega))).mono ?_
  rintro e w' ⟨rfl, rfl⟩
  go_wp2_with fail
  refine (implPansFor _ _).mono ?_
  rintro e w5x ⟨v7, v7r, rfl, h7, h7r, Av7_v7r, b7⟩
  have Av1_v7 := apart_new h1q h7
  have Av1_v7r := apart_new h1q h7r
  have Av1r_v7 := apart_new h1rq h7
  have Av1r_v7r := apart_new h1rq h7r
  have Av2_v7 := apart_new hm5 h7
  have Av2_v7r := apart_new hm5 h7r
  have Av2r_v7 := apart_new hm6 h7
  have Av2r_v7r := apart_new hm6 h7r
  have BASEv7 := bb6.size
  have BASEv7r := bb6.size
  have h1q := h1q.stay b7
  have h1rq := h1rq.stay b7
  have hm5 := hm5.stay b7
  have hm6 := hm6.stay b7
  have bb7 := bThen bb6 b7
  go_wp2_with fail
  refine (eqIntS_any h7 h1q).mono ?_
  rintro e w' ⟨rfl, n3, rfl⟩
  have bb8 := bDrewN bb7 n3
  have h1qq := h1q.drewN n3
  have h1rqq := h1rq.drewN n3
  have hm5q := hm5.drewN n3
  have hm6q := hm6.drewN n3
  have h7q := h7.drewN n3
  have h7rq := h7r.drewN n3
  go_wp2_with fail
  refine (eqIntS_any h7rq h1rqq).mono ?_
  rintro e w' ⟨rfl, n4, rfl⟩
  have bb9 := bDrewN bb7 (n3 + n4)
  have h1qq := h1q.drewN (n3 + n4)
  have h1rqq := h1rq.drewN (n3 + n4)
  have hm5q := hm5.drewN (n3 + n4)
  have hm6q := hm6.drewN (n3 + n4)
  have h7q := h7.drewN (n3 + n4)
  have h7rq := h7r.drewN (n3 + n4)
  go_wp2_with fail
  refine (heldIntS_any hm5q (by omega) (by omega) (Nat.le_trans (pans_len _ _) (by omega))).mono ?_
  rintro e w' ⟨rfl, rfl⟩
  go_wp2_with fail
  refine (heldIntS_any hm6q (by omega) (by omega) (Nat.le_trans (pans_len _ _) (by omega))).mono ?_
  rintro e w' ⟨rfl, rfl⟩
  go_wp2
  go_ret
  exact ⟨rfl, bb9⟩
end Go.Proofs.Ytfbecjeogbjnpaa
