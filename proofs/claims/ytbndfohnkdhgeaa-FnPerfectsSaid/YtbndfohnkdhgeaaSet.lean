/- Contracts of SetOk, in the program and in the reference. No conditions. -/
import Derived.Test.YtbndfohnkdhgeaaAsc0
namespace Go.Proofs.Ytbndfohnkdhgeaa
open Go.RowKit

/-- The test of place k: in the range, and no less than the one ahead. -/
def setP (xs : List Int) (k : Nat) : Bool := inB (xs.getD k 0) 1 1000 && (decide (k = 0) || decide (xs.getD (k - 1) 0 ≤ xs.getD k 0))
def setB (xs : List Int) : Bool := okTo (setP xs) xs.length && inB xs.length 1 8
theorem setP_zero {xs : List Int} {x : Int} (hx : x = xs.getD 0 0) : setP xs 0 = inB x 1 1000 := by rw [setP, ← hx]; simp
theorem setP_no {xs : List Int} {k : Nat} {x : Int} (hx : x = xs.getD k 0) (h : inB x 1 1000 = false) : setP xs k = false := by rw [setP, ← hx, h]; rfl
theorem setP_yes {xs : List Int} {k : Nat} {x y : Int} (hy : y = xs.getD k 0) (hx : x = xs.getD (k + 1) 0) (hi : inB x 1 1000 = true) (h : y ≤ x) : setP xs (k + 1) = true := by
  simp only [setP, Nat.add_sub_cancel, ← hx, ← hy, hi, decide_eq_true h, Bool.or_true, Bool.and_true]
theorem setP_less {xs : List Int} {k : Nat} {x y : Int} (hy : y = xs.getD k 0) (hx : x = xs.getD (k + 1) 0) (h : ¬ y ≤ x) : setP xs (k + 1) = false := by
  simp only [setP, Nat.add_sub_cancel, ← hx, ← hy, decide_eq_false h, Bool.or_false, decide_eq_false (show ¬ k + 1 = 0 from by omega), Bool.and_false]

theorem implSetOk {w : World} {base : Nat} {v : Value} {xs : List Int} (h : OI w base v xs) :
    Calls Try.prog 18 #[v] w fun e w' => e = .returned (.bool (setB xs)) ∧ Q w w' := by
  obtain ⟨ad, cap, rfl, hm⟩ := h.shape
  cases hr : inB xs.length 1 8
  · have HR := Lib.hid hr
    go_enter Try.func18, Try.ntmps18
    go_wp2_with (go_at_call 47; refine (implIn _ _ _ _).mono ?_; rintro e w' ⟨rfl, rfl⟩)
    go_ret
    exact ⟨ret_bool (by rw [setB, HR.out, Bool.and_false]), Q.refl _⟩
  · have HR := Lib.hid hr
    have hl := inB_iff.1 hr
    go_enter Try.func18, Try.ntmps18
    go_wp2_with (go_at_call 47; refine (implIn _ _ _ _).mono ?_; rintro e w' ⟨rfl, rfl⟩)
    go_loop [11] (fun i => ∃ k : Nat, i = .int .i64 (k : Int) ∧ k ≤ xs.length ∧ Hid (okTo (setP xs) k = true)) (fun i => xs.length - (intOf i).toNat)
    case atStart => exact ⟨0, rfl, Nat.zero_le _, rfl⟩
    case round =>
      obtain ⟨k, rfl, hk, HT⟩ := hrel
      by_cases hlt : k < xs.length
      · obtain ⟨x, HX, ix, c1⟩ := h.at hlt
        cases hin : inB x 1 1000
        · have HI := Lib.hid hin
          go_wp2_with (go_at_call 47; refine (implIn _ _ _ _).mono ?_; rintro e w' ⟨rfl, rfl⟩)
          go_ret
          exact ⟨ret_bool (by rw [setB, okTo_fail hlt (setP_no HX.out HI.out)]; rfl), Q.refl _⟩
        · have HI := Lib.hid hin
          by_cases hk0 : 0 < k
          · obtain ⟨j, rfl⟩ : ∃ j, k = j + 1 := ⟨k - 1, by omega⟩
            obtain ⟨y, HY, iy, c2⟩ := h.at (k := j) (by omega)
            have hcast : ((j + 1 : Nat) : Int) = (j : Int) + 1 := by omega
            rw [hcast] at ix ⊢
            clear hcast
            have e1 : IntKind.i64.wrap ((j : Int) + 1 - 1) = (j : Int) := by rw [show (j : Int) + 1 - 1 = (j : Int) from by omega]; exact IntWalk.i64_in _ (by omega)
            have hdk : decide ((0 : Int) < (j : Int) + 1) = true := decide_eq_true (by omega)
            by_cases hxy : y ≤ x
            · have hd : decide (x < y) = false := decide_eq_false (by omega)
              go_wp2_with (go_at_call 47; refine (implIn _ _ _ _).mono ?_; rintro e w' ⟨rfl, rfl⟩)
              go_round
              case rel => exact ⟨j + 1 + 1, by go_num, by omega, okTo_step HT.out (setP_yes HY.out HX.out HI.out hxy)⟩
              case measure => simp [intOf]; omega
            · have hd : decide (x < y) = true := decide_eq_true (by omega)
              go_wp2_with (go_at_call 47; refine (implIn _ _ _ _).mono ?_; rintro e w' ⟨rfl, rfl⟩)
              go_ret
              exact ⟨ret_bool (by rw [setB, okTo_fail hlt (setP_less HY.out HX.out (by omega))]; rfl), Q.refl _⟩
          · obtain rfl : k = 0 := by omega
            rw [show ((0 : Nat) : Int) = 0 from rfl] at ix ⊢
            go_wp2_with (go_at_call 47; refine (implIn _ _ _ _).mono ?_; rintro e w' ⟨rfl, rfl⟩)
            go_round
            case rel => exact ⟨1, rfl, by omega, okTo_step HT.out ((setP_zero HX.out).trans HI.out)⟩
            case measure => simp [intOf]; omega
      · have hfin : okTo (setP xs) xs.length = true := by
          have hT := HT.out
          rw [show k = xs.length from by omega] at hT; exact hT
        have HF := Lib.hid hfin
        clear hfin
        go_wp2
        go_ret
        exact ⟨ret_bool (by rw [setB, HR.out, HF.out]; rfl), Q.refl _⟩

theorem specSetOk {w : World} {base : Nat} {v : Value} {xs : List Int} (h : OI w base v xs) :
    Calls Try.prog 16 #[v] w fun e w' => e = .returned (.bool (setB xs)) ∧ Q w w' := by
  obtain ⟨ad, cap, rfl, hm⟩ := h.shape
  go_enter Try.func16, Try.ntmps16
  go_wp2
  go_loopw [3] (fun i wr => ∃ k : Nat, i = .int .i64 (k : Int) ∧ k ≤ xs.length ∧ Hid (okTo (setP xs) k = true) ∧ Q w wr) (fun i _ => xs.length - (intOf i).toNat)
  case atStart => exact ⟨0, rfl, Nat.zero_le _, rfl, Q.refl _⟩
  case round =>
    obtain ⟨k, rfl, hk, HT, nq, rfl⟩ := hrel
    by_cases hlt : k < xs.length
    · obtain ⟨x, HX, ix, c1⟩ := h.at hlt
      cases hin : inB x 1 1000
      · have HI := Lib.hid hin
        go_wp2
        go_quiet ((go_at_call 46; first | exact qAdd (specIn _ _ _ _) | exact qOne (specIn _ _ _ _)))
        go_wp2
        go_ret
        exact ⟨ret_bool (by rw [setB, okTo_fail hlt (setP_no HX.out HI.out)]; rfl), (by repeat (first | exact Q.refl _ | exact Q.mk _ _ | apply Q.drewN | apply Q.drew))⟩
      · have HI := Lib.hid hin
        by_cases hk0 : 0 < k
        · obtain ⟨j, rfl⟩ : ∃ j, k = j + 1 := ⟨k - 1, by omega⟩
          obtain ⟨y, HY, iy, c2⟩ := h.at (k := j) (by omega)
          have hcast : ((j + 1 : Nat) : Int) = (j : Int) + 1 := by omega
          rw [hcast] at ix ⊢
          clear hcast
          have e1 : IntKind.i64.wrap ((j : Int) + 1 - 1) = (j : Int) := by rw [show (j : Int) + 1 - 1 = (j : Int) from by omega]; exact IntWalk.i64_in _ (by omega)
          have hdk : decide ((0 : Int) < (j : Int) + 1) = true := decide_eq_true (by omega)
          by_cases hxy : y ≤ x
          · have hd : decide (x < y) = false := decide_eq_false (by omega)
            go_wp2
            go_quiet ((go_at_call 46; first | exact qAdd (specIn _ _ _ _) | exact qOne (specIn _ _ _ _)))
            go_wp2
            go_roundw
            case rel => exact ⟨j + 1 + 1, by go_num, by omega, okTo_step HT.out (setP_yes HY.out HX.out HI.out hxy), (by repeat (first | exact Q.refl _ | exact Q.mk _ _ | apply Q.drewN | apply Q.drew))⟩
            case measure => simp [intOf]; omega
          · have hd : decide (x < y) = true := decide_eq_true (by omega)
            go_wp2
            go_quiet ((go_at_call 46; first | exact qAdd (specIn _ _ _ _) | exact qOne (specIn _ _ _ _)))
            go_wp2
            go_ret
            exact ⟨ret_bool (by rw [setB, okTo_fail hlt (setP_less HY.out HX.out (by omega))]; rfl), (by repeat (first | exact Q.refl _ | exact Q.mk _ _ | apply Q.drewN | apply Q.drew))⟩
        · obtain rfl : k = 0 := by omega
          rw [show ((0 : Nat) : Int) = 0 from rfl] at ix ⊢
          go_wp2
          go_quiet ((go_at_call 46; first | exact qAdd (specIn _ _ _ _) | exact qOne (specIn _ _ _ _)))
          go_wp2
          go_roundw
          case rel => exact ⟨1, rfl, by omega, okTo_step HT.out ((setP_zero HX.out).trans HI.out), (by repeat (first | exact Q.refl _ | exact Q.mk _ _ | apply Q.drewN | apply Q.drew))⟩
          case measure => simp [intOf]; omega
    · have hfin : okTo (setP xs) xs.length = true := by
        have hT := HT.out
        rw [show k = xs.length from by omega] at hT; exact hT
      have HF := Lib.hid hfin
      clear hfin
      go_wp2_with (go_at_call 46; refine (specIn _ _ _ _).mono ?_; rintro e w' ⟨rfl, rfl⟩)
      go_ret
      exact ⟨ret_bool (by rw [setB, HF.out]; rfl), (by repeat (first | exact Q.refl _ | exact Q.mk _ _ | apply Q.drewN | apply Q.drew))⟩
end Go.Proofs.Ytbndfohnkdhgeaa
