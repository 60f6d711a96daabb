/- The walk of laws.FnExactPerfectLists: it returns true, and nothing that was there has turned. -/
import Derived.Test.YtbndfohnkdhgeaaPerL
namespace Go.Proofs.Ytbndfohnkdhgeaa
open Go.RowKit
set_option linter.unusedVariables false

theorem OSS.bel {w w' : World} {base B m : Nat} {v : Value} {xss : List (List Int)} (h : OSS w base m v xss) (hb : Below B w w') (hm : m ≤ B) : OSS w' base m v xss := by
  obtain ⟨vs, h⟩ := h
  exact ⟨vs, row_below h.row hb fun g hg => Nat.lt_of_lt_of_le (h.lt g hg) hm, h.len, fun i hi => (h.el i hi).below hb fun g hg => Nat.lt_of_lt_of_le (h.lts i hi g hg) hm, h.ap, h.apv, h.lt, h.lts⟩
theorem OSS.drewN {w : World} {base m : Nat} {v : Value} {xss : List (List Int)} (h : OSS w base m v xss) (n : Nat) : OSS (w.drewN n) base m v xss := by
  obtain ⟨vs, h⟩ := h
  exact ⟨vs, ⟨h.row, h.len, fun i hi => (h.el i hi).drewN n, h.ap, h.apv, h.lt, h.lts⟩⟩

theorem walkPerfectLists (a0 : Int) (w : World) (w0 : -9223372036854775808 ≤ a0 ∧ a0 ≤ 9223372036854775807) :
    Calls Try.prog 13 #[.int .i64 a0] w fun e w' => e = .returned (.bool true) ∧ Below w.heap.size w w' := by
  have hcnt := perL_cnt a0
  obtain ⟨L, hL⟩ : ∃ L, L = perL a0 := ⟨_, rfl⟩
  obtain ⟨c, hc⟩ : ∃ c, c = cntS L L.length := ⟨_, rfl⟩
  rw [← hL, ← hc] at hcnt
  have hcn := hcnt
  rw [hc] at hcn
  replace hc := Lib.hid hc
  replace hL := Lib.hid hL
  replace hcn := Lib.hid hcn
  have hneg : decide ((1 : Int) + (c : Int) < 0) = false := decide_eq_false (by omega)
  have hne : ((1 : Int) + (c : Int) != 1 + (c : Int)) = false := by simp
  go_enter Try.func13, Try.ntmps13
  go_wp2_with fail
  refine (specPerL a0 _).mono ?_
  rintro e w1 ⟨v1, rfl, h1, b1⟩
  rw [← hL.out] at h1
  go_wp2_with fail
  refine (implPerL a0 _).mono ?_
  rintro e w2 ⟨v2, rfl, h2, b2⟩
  rw [← hL.out] at h2
  have h1b := h1.stay b2

  go_wp2_with fail
  refine (eqIntSS_any h2 h1b).mono ?_
  rintro e w' ⟨rfl, n1, rfl⟩
  rw [show decide (L = L) = true from decide_eq_true rfl]
  go_wp2_with fail
  refine (markIntSS_any (h2.drewN n1) b2.size (by omega) (by omega) hcn.out).mono ?_
  rintro e w3 ⟨rfl, hm, bm⟩
  rw [← hc.out]
  have b13 : Below w1.heap.size w1 w3 := (bDrewN b2 n1).trans bm
  have h1c := h1.bel b13 (Nat.le_refl _)
  have bw3 := bThen b1 b13
  clear h1b h2 b2 bm
  go_wp2_with fail
  refine (heldIntSS_any hm (by omega) (by omega) hcn.out).mono ?_
  rintro e w' ⟨rfl, rfl⟩
  rw [← hc.out]
  go_wp2_with fail
  refine (implPerL a0 _).mono ?_
  rintro e w4 ⟨v4, rfl, h4, b4⟩
  rw [← hL.out] at h4
  have h1d := h1c.stay b4
  have hm4 := hm.stay b4
  have bw4 := bThen bw3 b4
  clear h1c hm b4 bw3
  go_wp2_with fail
  refine (eqIntSS_any h4 h1d).mono ?_
  rintro e w' ⟨rfl, n2, rfl⟩
  rw [show decide (L = L) = true from decide_eq_true rfl]
  go_wp2_with fail
  refine (heldIntSS_any (hm4.drewN n2) (by omega) (by omega) hcn.out).mono ?_
  rintro e w' ⟨rfl, rfl⟩
  rw [← hc.out]
  go_wp2
  go_ret
  exact ⟨rfl, bDrewN bw4 n2⟩
end Go.Proofs.Ytbndfohnkdhgeaa
