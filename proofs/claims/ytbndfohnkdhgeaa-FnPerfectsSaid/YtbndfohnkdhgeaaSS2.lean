/- Contract of heldIntSS. -/
import Derived.Test.YtbndfohnkdhgeaaSS
namespace Go.Proofs.Ytbndfohnkdhgeaa
open Go.RowKit

set_option maxHeartbeats 1000000 in
theorem heldIntSS_any {w : World} {base m : Nat} {v : Value} {xss : List (List Int)} {k : Int} (h : OSS w base m v (mkS k xss xss.length)) (hk0 : 0 ≤ k) (hk1 : k ≤ 1000000) (hn : cntS xss xss.length ≤ 1000000) :
    Calls Try.prog 43 #[v, .int .i64 k] w fun e w' => e = .returned (.int .i64 (k + (cntS xss xss.length : Int))) ∧ w = w' := by
  obtain ⟨vs, h⟩ := h
  have hml := mkS_length k xss xss.length
  obtain ⟨ad, cap, rfl, hmx⟩ := h.shape
  have hl := h.len
  rw [hml] at hmx
  rw [hml]
  rw [hml] at hl
  have hat := fun j (hj : j < (mkS k xss xss.length).length) => h.at hj
  rw [hml] at hat
  replace hml := Lib.hid hml
  go_enter Try.func43, Try.ntmps43
  go_wp2
  go_loop [1, 5] (fun kk i => ∃ j : Nat, j ≤ xss.length ∧ kk = .int .i64 (k + (cntS xss j : Int)) ∧ i = .int .i64 (j : Int)) (fun _ i => xss.length - (intOf i).toNat)
  case atStart => exact ⟨0, Nat.zero_le _, by simp [cntS], rfl⟩
  case round =>
    obtain ⟨j, hj, rfl, rfl⟩ := hrel
    by_cases hlt : j < xss.length
    · obtain ⟨ix, cx⟩ := hat j hlt
      have hx := h.el j (by omega)
      have e1 := mkS_new k xss j (xss.length - (j + 1)) hlt
      rw [show j + 1 + (xss.length - (j + 1)) = xss.length from by omega] at e1
      rw [e1] at hx
      have hc1 := cntS_mono xss (j + 1) (xss.length - (j + 1))
      rw [show j + 1 + (xss.length - (j + 1)) = xss.length from by omega] at hc1
      have hc2 : ((cntS xss (j + 1) : Nat) : Int) = (cntS xss j : Int) + ((xss.getD j []).length : Int) := by rw [cntS]; omega
      obtain ⟨u, hu⟩ : ∃ u, vs.getD j nilS = u := ⟨_, rfl⟩
      rw [hu] at cx hx
      obtain ⟨n, hn⟩ : ∃ z, (xss.getD j []).length = z := ⟨_, rfl⟩
      rw [hn] at hx hc2
      clear hu e1 hn hat
      have hneg : decide (k + (cntS xss j : Int) + (n : Int) < 0) = false := decide_eq_false (by omega)
      go_wp2_with fail
      refine (heldIntS_any hx (by omega) (by omega) (by omega)).mono ?_
      rintro e w' ⟨rfl, rfl⟩
      go_wp2
      go_round
      case rel => exact ⟨j + 1, by omega, by rw [hc2, Int.add_assoc], by go_num⟩
      case measure => simp only [intOf]; omega
    · obtain rfl : j = xss.length := by omega
      go_wp2
      go_ret
      exact ⟨rfl, rfl⟩
end Go.Proofs.Ytbndfohnkdhgeaa
