/- Contracts of RulerOk, in the program and in the reference. No conditions. -/
import Derived.Test.YtemeechmemhokaaRuler0
namespace Go.Proofs.Ytemeechmemhokaa
open Go.RowKit

theorem implRulerOk {w : World} {base : Nat} {v : Value} {xs : List Int} (h : OI w base v xs) :
    Calls Try.prog 28 #[v] w fun e w' => e = .returned (.bool (rulerB xs)) ∧ Q w w' := by
  obtain ⟨ad, cap, rfl, hm⟩ := h.shape
  cases hr : inB xs.length 1 8
  · have HR := Lib.hid hr
    go_enter Try.func28, Try.ntmps28
    go_wp2_with (go_at_call 35; refine (implIn _ _ _ _).mono ?_; rintro e w' ⟨rfl, rfl⟩)
    go_ret
    exact ⟨ret_bool (by rw [rulerB, HR.out]; rfl), Q.refl _⟩
  · have HR := Lib.hid hr
    have hl := inB_iff.1 hr
    obtain ⟨x, HX, ix, c1⟩ := h.at0 (by omega)
    obtain ⟨y, HY, iy, c2⟩ := h.atLast (by omega)
    by_cases hx : x = 0
    · have hx2 : (x == 0) = true := by simpa using hx
      have HX0 := Lib.hid hx
      clear hx
      cases ha : ascB xs
      · have HA := Lib.hid ha
        go_enter Try.func28, Try.ntmps28
        go_wp2_with (first | (go_at_call 35; refine (implIn _ _ _ _).mono ?_; rintro e w' ⟨rfl, rfl⟩) | (go_at_call 32; refine (implAsc h).mono ?_; rintro e w' ⟨rfl, n, rfl⟩))
        go_ret
        exact ⟨ret_bool (by rw [rulerB, HA.out, Bool.false_and, Bool.and_false, Bool.and_false]), (by repeat (first | exact Q.refl _ | exact Q.mk _ _ | apply Q.drewN | apply Q.drew))⟩
      · have HA := Lib.hid ha
        go_enter Try.func28, Try.ntmps28
        go_wp2_with (first | (go_at_call 35; refine (implIn _ _ _ _).mono ?_; rintro e w' ⟨rfl, rfl⟩) | (go_at_call 32; refine (implAsc h).mono ?_; rintro e w' ⟨rfl, n, rfl⟩))
        go_ret
        exact ⟨ret_bool (by rw [rulerB, HR.out, HA.out, headB, ← HX.out, ← HY.out, decide_eq_true HX0.out]; rfl), (by repeat (first | exact Q.refl _ | exact Q.mk _ _ | apply Q.drewN | apply Q.drew))⟩
    · have hx2 : (x == 0) = false := by simpa using hx
      have HX0 := Lib.hid hx
      clear hx
      go_enter Try.func28, Try.ntmps28
      go_wp2_with (first | (go_at_call 35; refine (implIn _ _ _ _).mono ?_; rintro e w' ⟨rfl, rfl⟩))
      go_ret
      exact ⟨ret_bool (by rw [rulerB, headB, ← HX.out, decide_eq_false HX0.out, Bool.false_and, Bool.and_false]), Q.refl _⟩

theorem specRulerOk {w : World} {base : Nat} {v : Value} {xs : List Int} (h : OI w base v xs) :
    Calls Try.prog 29 #[v] w fun e w' => e = .returned (.bool (rulerB xs)) ∧ Q w w' := by
  rw [← rulerS_eq]
  obtain ⟨ad, cap, rfl, hm⟩ := h.shape
  go_enter Try.func29, Try.ntmps29
  go_wp2
  go_loopw [3] (fun i wr => ∃ k : Nat, i = .int .i64 (k : Int) ∧ k ≤ xs.length ∧ Hid (okTo (rngP 0 60 xs) k = true) ∧ Q w wr) (fun i _ => xs.length - (intOf i).toNat)
  case atStart => exact ⟨0, rfl, Nat.zero_le _, rfl, Q.refl _⟩
  case round =>
    obtain ⟨k, rfl, hk, HT, nq, rfl⟩ := hrel
    by_cases hlt : k < xs.length
    · obtain ⟨x, HX, ix, c1⟩ := h.at hlt
      cases hin : inB x 0 60
      · have HI := Lib.hid hin
        go_wp2
        go_quiet ((go_at_call 34; first | exact qAdd (specIn _ _ _ _) | exact qOne (specIn _ _ _ _)))
        go_wp2
        go_ret
        exact ⟨ret_bool (by rw [rulerS, okTo_fail hlt (by rw [rngP, ← HX.out, HI.out, Bool.false_and])]; rfl), (by repeat (first | exact Q.refl _ | exact Q.mk _ _ | apply Q.drewN | apply Q.drew))⟩
      · have HI := Lib.hid hin
        by_cases hk0 : 0 < k
        · obtain ⟨j, rfl⟩ : ∃ j, k = j + 1 := ⟨k - 1, by omega⟩
          obtain ⟨y, HY, iy, c2⟩ := h.at (k := j) (by omega)
          have hcast : ((j + 1 : Nat) : Int) = (j : Int) + 1 := by omega
          rw [hcast] at ix ⊢
          clear hcast
          have e1 : IntKind.i64.wrap ((j : Int) + 1 - 1) = (j : Int) := by rw [show (j : Int) + 1 - 1 = (j : Int) from by omega]; exact IntWalk.i64_in _ (by omega)
          have hdk : decide ((0 : Int) < (j : Int) + 1) = true := decide_eq_true (by omega)
          by_cases hxy : y < x
          · have hd : decide (x ≤ y) = false := decide_eq_false (by omega)
            go_wp2
            go_quiet ((go_at_call 34; first | exact qAdd (specIn _ _ _ _) | exact qOne (specIn _ _ _ _)))
            go_wp2
            go_roundw
            case rel => exact ⟨j + 1 + 1, by go_num, by omega, okTo_step HT.out (by rw [rngP, ← HX.out, HI.out, ascP_yes HY.out HX.out hxy]; rfl), (by repeat (first | exact Q.refl _ | exact Q.mk _ _ | apply Q.drewN | apply Q.drew))⟩
            case measure => simp [intOf]; omega
          · have hd : decide (x ≤ y) = true := decide_eq_true (by omega)
            go_wp2
            go_quiet ((go_at_call 34; first | exact qAdd (specIn _ _ _ _) | exact qOne (specIn _ _ _ _)))
            go_wp2
            go_ret
            exact ⟨ret_bool (by rw [rulerS, okTo_fail hlt (by rw [rngP, ascP_no HY.out HX.out (by omega), Bool.and_false])]; rfl), (by repeat (first | exact Q.refl _ | exact Q.mk _ _ | apply Q.drewN | apply Q.drew))⟩
        · obtain rfl : k = 0 := by omega
          rw [show ((0 : Nat) : Int) = 0 from rfl] at ix ⊢
          go_wp2
          go_quiet ((go_at_call 34; first | exact qAdd (specIn _ _ _ _) | exact qOne (specIn _ _ _ _)))
          go_wp2
          go_roundw
          case rel => exact ⟨1, rfl, by omega, okTo_step HT.out (by rw [rngP, ← HX.out, HI.out, ascP_zero]; rfl), (by repeat (first | exact Q.refl _ | exact Q.mk _ _ | apply Q.drewN | apply Q.drew))⟩
          case measure => simp [intOf]; omega
    · have hfin : okTo (rngP 0 60 xs) xs.length = true := by
        have hT := HT.out
        rw [show k = xs.length from by omega] at hT; exact hT
      have HF := Lib.hid hfin
      clear hfin
      cases hr : inB xs.length 1 8
      · have HR := Lib.hid hr
        go_wp2_with (go_at_call 34; refine (specIn _ _ _ _).mono ?_; rintro e w' ⟨rfl, rfl⟩)
        go_ret
        exact ⟨ret_bool (by rw [rulerS, HR.out, Bool.false_and, Bool.and_false]), (by repeat (first | exact Q.refl _ | exact Q.mk _ _ | apply Q.drewN | apply Q.drew))⟩
      · have HR := Lib.hid hr
        have hl := inB_iff.1 hr
        obtain ⟨x, HX, ix, c1⟩ := h.at0 (by omega)
        go_wp2_with (go_at_call 34; refine (specIn _ _ _ _).mono ?_; rintro e w' ⟨rfl, rfl⟩)
        go_ret
        exact ⟨ret_bool (by rw [rulerS, HR.out, HF.out, headB, ← HX.out, Bool.true_and, Bool.true_and]; rfl), (by repeat (first | exact Q.refl _ | exact Q.mk _ _ | apply Q.drewN | apply Q.drew))⟩
end Go.Proofs.Ytemeechmemhokaa
