/- The walk of laws.FnExactLengthsOf: it returns true, and nothing that was there has turned. -/
import Derived.Test.YtemeechmemhokaaGolI
import Derived.Test.YtemeechmemhokaaGolS
namespace Go.Proofs.Ytemeechmemhokaa
open Go.RowKit
set_option linter.unusedVariables false

theorem walkLengthsOf (a0 : Option Addr) (len0 cap0 : Nat) (z0 : List Int) (w : World) (hr0 : IsRow .i64 w a0 len0 cap0 z0) :
    Calls Try.prog 3 #[.slice a0 len0 cap0] w fun e w' => e = .returned (.bool true) ∧ Below w.heap.size w w' := by
  by_cases hbig : 1048576 < len0
  · go_enter Try.func3, Try.ntmps3
    go_wp2
    go_ret
    exact ⟨rfl, Below.refl _ _⟩
  · have hl0 : len0 ≤ 1048576 := by omega
    clear hbig
    go_enter Try.func3, Try.ntmps3
    go_wp2_with fail
    refine (toIntS_any hr0 hl0).mono ?_
    rintro e w1x ⟨v1, rfl, h1, b1⟩
    have BASEv1 := Nat.le_refl w.heap.size
    have bb1 := b1
    go_wp2_with fail
    refine (specLengthsOf h1).mono ?_
    rintro e w2x ⟨v2, rfl, h2, b2⟩
    have Av1_v2 := apart_new h1 h2
    have BASEv2 := bb1.size
    have h1 := h1.stay b2
    have bb2 := bThen bb1 b2
    go_wp2_with fail
    refine (toIntS_any (hr0.below bb2) hl0).mono ?_
    rintro e w3x ⟨v3, rfl, h3, b3⟩
    have Av1_v3 := apart_new h1 h3
    have Av2_v3 := apart_new h2 h3
    have BASEv3 := bb2.size
    have h1 := h1.stay b3
    have h2 := h2.stay b3
    have bb3 := bThen bb2 b3
    go_wp2_with fail
    refine (implLengthsOf h3).mono ?_
    rintro e w4x ⟨v4, rfl, h4, b4⟩
    have Av1_v4 := apart_new h1 h4
    have Av2_v4 := apart_new h2 h4
    have Av3_v4 := apart_new h3 h4
    have BASEv4 := bb3.size
    have h1 := h1.stay b4
    have h2 := h2.stay b4
    have h3 := h3.stay b4
    have bb4 := bThen bb3 b4
    go_wp2_with fail
    refine (eqIntS_any h4 h2).mono ?_
    rintro e w' ⟨rfl, n1, rfl⟩
    have bb5 := bDrewN bb4 n1
    have h1q := h1.drewN n1
    have h2q := h2.drewN n1
    have h3q := h3.drewN n1
    have h4q := h4.drewN n1
    go_wp2_with fail
    refine (toIntS_any (hr0.below bb5) hl0).mono ?_
    rintro e w5x ⟨v6, rfl, h6, b6⟩
    have Av1_v6 := apart_new h1q h6
    have Av2_v6 := apart_new h2q h6
    have Av3_v6 := apart_new h3q h6
    have Av4_v6 := apart_new h4q h6
    have BASEv6 := bb5.size
    have h1q := h1q.stay b6
    have h2q := h2q.stay b6
    have h3q := h3q.stay b6
    have h4q := h4q.stay b6
    have bb6 := bThen bb5 b6
    go_wp2_with fail
    refine (eqIntS_any h3q h6).mono ?_
    rintro e w' ⟨rfl, n2, rfl⟩
    have bb7 := bDrewN bb6 n2
    have h1qq := h1q.drewN n2
    have h2qq := h2q.drewN n2
    have h3qq := h3q.drewN n2
    have h4qq := h4q.drewN n2
    have h6q := h6.drewN n2
    go_wp2_with fail
    refine (markIntS_any h3qq (by omega) (by omega) (Nat.le_trans (List.length_take_le _ _) (by omega))).mono ?_
    rintro e w6x ⟨rfl, hm8, hg8⟩
    have bb8 := bMark bb7 h3qq BASEv3 hg8
    have h1qq := h1qq.keptBy Av1_v3 hg8
    have h2qq := h2qq.keptBy Av2_v3 hg8
    have h4qq := h4qq.keptBy Av3_v4.symm hg8
    have h6q := h6q.keptBy Av3_v6.symm hg8
    go_wp2_with fail
    refine (eqIntS_any h4qq h2qq).mono ?_
    rintro e w' ⟨rfl, n3, rfl⟩
    have bb9 := bDrewN bb8 n3
    have h1qqq := h1qq.drewN n3
    have h2qqq := h2qq.drewN n3
    have hm8q := hm8.drewN n3
    have h4qqq := h4qq.drewN n3
    have h6qq := h6q.drewN n3
    go_wp2_with fail
    refine (markIntS_any h4qqq (by omega) (by omega) (Nat.le_trans (lenL_length _) (by omega))).mono ?_
    rintro e w7x ⟨rfl, hm10, hg10⟩
    have bb10 := bMark bb9 h4qqq BASEv4 hg10
    have h1qqq := h1qqq.keptBy Av1_v4 hg10
    have h2qqq := h2qqq.keptBy Av2_v4 hg10
    have hm8q := hm8q.keptBy Av3_v4 hg10
    have h6qq := h6qq.keptBy Av4_v6.symm hg10
    go_wp2_with fail
    refine (heldIntS_any hm10 (by omega) (by omega) (Nat.le_trans (lenL_length _) (by omega))).mono ?_
    rintro e w' ⟨rfl, rfl⟩
    go_wp2_with fail
    refine (toIntS_any (hr0.below bb10) hl0).mono ?_
    rintro e w8x ⟨v11, rfl, h11, b11⟩
    have Av1_v11 := apart_new h1qqq h11
    have Av2_v11 := apart_new h2qqq h11
    have Av3_v11 := apart_new hm8q h11
    have Av4_v11 := apart_new hm10 h11
    have Av6_v11 := apart_new h6qq h11
    have BASEv11 := bb10.size
    have h1qqq := h1qqq.stay b11
    have h2qqq := h2qqq.stay b11
    have hm8q := hm8q.stay b11
    have hm10 := hm10.stay b11
    have h6qq := h6qq.stay b11
    have bb11 := bThen bb10 b11
    go_wp2_with fail
    refine (implLengthsOf h11).mono ?_
    rintro e w9x ⟨v12, rfl, h12, b12⟩
    have Av1_v12 := apart_new h1qqq h12
    have Av2_v12 := apart_new h2qqq h12
    have Av3_v12 := apart_new hm8q h12
    have Av4_v12 := apart_new hm10 h12
    have Av6_v12 := apart_new h6qq h12
    have Av11_v12 := apart_new h11 h12
    have BASEv12 := bb11.size
    have h1qqq := h1qqq.stay b12
    have h2qqq := h2qqq.stay b12
    have hm8q := hm8q.stay b12
    have hm10 := hm10.stay b12
    have h6qq := h6qq.stay b12
    have h11 := h11.stay b12
    have bb12 := bThen bb11 b12
    go_wp2_with fail
    refine (eqIntS_any h12 h2qqq).mono ?_
    rintro e w' ⟨rfl, n4, rfl⟩
    have bb13 := bDrewN bb12 n4
    have h1qqqq := h1qqq.drewN n4
    have h2qqqq := h2qqq.drewN n4
    have hm8qq := hm8q.drewN n4
    have hm10q := hm10.drewN n4
    have h6qqq := h6qq.drewN n4
    have h11q := h11.drewN n4
    have h12q := h12.drewN n4
    go_wp2_with fail
    refine (heldIntS_any hm10q (by omega) (by omega) (Nat.le_trans (lenL_length _) (by omega))).mono ?_
    rintro e w' ⟨rfl, rfl⟩
    go_wp2
    go_ret
    exact ⟨rfl, bb13⟩
end Go.Proofs.Ytemeechmemhokaa
