/- The walk of laws.FnClamped: it returns true, and nothing that was there has turned. -/
import Derived.Test.YtaejjbcmhapebaaNum
import Derived.Test.YtaejjbcmhapebaaClamp
import Derived.Test.YtaejjbcmhapebaaBig
namespace Go.Proofs.Ytaejjbcmhapebaa
open Go.RowKit
set_option linter.unusedVariables false

theorem clamp_low {n a b : Int} (h : b < a) : clampI n a b = a := clampI_a (.inl h)
theorem clamp_bd {n a b : Int} (h : ¬ b < a) : a ≤ clampI n a b ∧ clampI n a b ≤ b := by
  unfold clampI
  split
  · omega
  · split <;> omega
theorem clamp_in {n a b : Int} (h : a ≤ n) (h2 : n ≤ b) : clampI n a b = n := clampI_n (by omega) (by omega)

set_option maxRecDepth 100000 in
set_option maxHeartbeats 1000000 in
theorem walkClamped (a0 : Option Addr) (len0 cap0 : Nat) (z0 : List Int) (w : World) (hr0 : IsRow .u8 w a0 len0 cap0 z0) :
    Calls Try.prog 5 #[.slice a0 len0 cap0] w fun e w' => e = .returned (.bool true) ∧ Below w.heap.size w w' := by
  by_cases hbig : 1048576 < len0
  · have hd : decide (1048576 < len0) = true := decide_eq_true hbig
    go_enter Try.func5, Try.ntmps5
    go_wp2_with fail
    refine lawsBig.mono ?_
    rintro e w' ⟨rfl, rfl⟩
    go_wp2
    go_ret
    exact ⟨rfl, Below.refl _ _⟩
  · have hd : decide (1048576 < len0) = false := decide_eq_false hbig
    go_enter Try.func5, Try.ntmps5
    go_wp2_with fail
    refine lawsBig.mono ?_
    rintro e w' ⟨rfl, rfl⟩
    go_wp2_with fail
    refine (clampDraw hr0).mono ?_
    rintro e w1 ⟨n, a, b, rfl, b1, k1, k2, k3⟩
    by_cases hab : b < a
    · have hc := clamp_low (n := n) hab
      go_wp2_with fail
      refine (implClamp _ _ _ _).mono ?_
      rintro e w' ⟨he, rfl⟩
      rw [hc] at he
      subst he
      clear hc
      go_wp2_with fail
      refine (implClamp _ _ _ _).mono ?_
      rintro e w' ⟨he, rfl⟩
      rw [clampI_b (by decide) (by decide)] at he
      subst he
      go_wp2
      go_ret
      exact ⟨rfl, b1⟩
    · have hc := clamp_bd (n := n) hab
      obtain ⟨x, hx⟩ : ∃ x, x = clampI n a b := ⟨_, rfl⟩
      rw [← hx] at hc
      have HX := Lib.hid hx
      clear hx
      have H2 : Hid (clampI x a b = x) := clamp_in hc.1 hc.2
      obtain ⟨hc1, hc2⟩ := hc
      go_wp2_with fail
      refine (implClamp _ _ _ _).mono ?_
      rintro e w' ⟨he, rfl⟩
      rw [← HX.out] at he
      subst he
      by_cases hna : n < a
      · go_wp2_with fail
        refine (implClamp _ _ _ _).mono ?_
        rintro e w' ⟨he, rfl⟩
        rw [H2.out] at he
        subst he
        go_wp2_with fail
        refine (implClamp _ _ _ _).mono ?_
        rintro e w' ⟨he, rfl⟩
        rw [clampI_b (by decide) (by decide)] at he
        subst he
        go_wp2
        go_ret
        exact ⟨rfl, b1⟩
      · by_cases hnb : b < n
        · go_wp2_with fail
          refine (implClamp _ _ _ _).mono ?_
          rintro e w' ⟨he, rfl⟩
          rw [H2.out] at he
          subst he
          go_wp2_with fail
          refine (implClamp _ _ _ _).mono ?_
          rintro e w' ⟨he, rfl⟩
          rw [clampI_b (by decide) (by decide)] at he
          subst he
          go_wp2
          go_ret
          exact ⟨rfl, b1⟩
        · have hxn : x = n := by rw [HX.out]; exact clamp_in (by omega) (by omega)
          subst hxn
          go_wp2_with fail
          refine (implClamp _ _ _ _).mono ?_
          rintro e w' ⟨he, rfl⟩
          rw [H2.out] at he
          subst he
          go_wp2_with fail
          refine (implClamp _ _ _ _).mono ?_
          rintro e w' ⟨he, rfl⟩
          rw [clampI_b (by decide) (by decide)] at he
          subst he
          go_wp2
          go_ret
          exact ⟨rfl, b1⟩
end Go.Proofs.Ytaejjbcmhapebaa
