/- Contracts of SystemOk, in the program and in the reference. No conditions. -/
import Derived.Test.YthbhappegepmdaaRuler0
namespace Go.Proofs.Ythbhappegepmdaa
open Go.RowKit

def sysB (xs : List Int) : Bool := inB xs.length 1 6 && (headB xs 1 && (ascB xs && decide (xs.getD (xs.length - 1) 0 ≤ 100)))
def sysS (xs : List Int) : Bool := okTo (rngP 1 100 xs) xs.length && (inB xs.length 1 6 && headB xs 1)
theorem sysS_eq (xs : List Int) : sysS xs = sysB xs := by
  unfold sysS sysB
  cases h1 : inB xs.length 1 6
  · simp
  · cases h2 : headB xs 1
    · simp
    · rw [rng_same (by have := inB_iff.1 h1; omega) (of_decide_eq_true h2)]; simp

theorem implSystemOk {w : World} {base : Nat} {v : Value} {xs : List Int} (h : OI w base v xs) :
    Calls Try.prog 16 #[v] w fun e w' => e = .returned (.bool (sysB xs)) ∧ Q w w' := by
  obtain ⟨ad, cap, rfl, hm⟩ := h.shape
  cases hr : inB xs.length 1 6
  · have hr2 : (!inB xs.length 1 6) = true := by rw [hr]; rfl
    have HR := Lib.hid hr
    clear hr
    go_enter Try.func16, Try.ntmps16
    go_wp2_with (go_at_call 20; refine (implIn _ _ _ _).mono ?_; rintro e w' ⟨rfl, rfl⟩)
    go_ret
    exact ⟨ret_bool (by rw [sysB, HR.out]; rfl), Q.refl _⟩
  · have hr2 : (!inB xs.length 1 6) = false := by rw [hr]; rfl
    have HR := Lib.hid hr
    have hl := inB_iff.1 hr
    clear hr
    obtain ⟨x, HX, ix, c1⟩ := h.at0 (by omega)
    obtain ⟨y, HY, iy, c2⟩ := h.atLast (by omega)
    by_cases hx : x = 1
    · have hx2 : (x != 1) = false := by simpa using hx
      have HX0 := Lib.hid hx
      clear hx
      cases ha : ascB xs
      · have HA := Lib.hid ha
        have ha2 : (!ascB xs) = true := by rw [ha]; rfl
        clear ha
        go_enter Try.func16, Try.ntmps16
        go_wp2_with (first | (go_at_call 20; refine (implIn _ _ _ _).mono ?_; rintro e w' ⟨rfl, rfl⟩) | (go_at_call 21; refine (implAsc h).mono ?_; rintro e w' ⟨rfl, n, rfl⟩))
        go_ret
        exact ⟨ret_bool (by rw [sysB, HA.out, Bool.false_and, Bool.and_false, Bool.and_false]), (by repeat (first | exact Q.refl _ | exact Q.mk _ _ | apply Q.drewN | apply Q.drew))⟩
      · have HA := Lib.hid ha
        have ha2 : (!ascB xs) = false := by rw [ha]; rfl
        clear ha
        go_enter Try.func16, Try.ntmps16
        go_wp2_with (first | (go_at_call 20; refine (implIn _ _ _ _).mono ?_; rintro e w' ⟨rfl, rfl⟩) | (go_at_call 21; refine (implAsc h).mono ?_; rintro e w' ⟨rfl, n, rfl⟩))
        go_ret
        exact ⟨ret_bool (by rw [sysB, HR.out, HA.out, headB, ← HX.out, ← HY.out, decide_eq_true HX0.out]; rfl), (by repeat (first | exact Q.refl _ | exact Q.mk _ _ | apply Q.drewN | apply Q.drew))⟩
    · have hx2 : (x != 1) = true := by simpa using hx
      have HX0 := Lib.hid hx
      clear hx
      go_enter Try.func16, Try.ntmps16
      go_wp2_with (first | (go_at_call 20; refine (implIn _ _ _ _).mono ?_; rintro e w' ⟨rfl, rfl⟩))
      go_ret
      exact ⟨ret_bool (by rw [sysB, headB, ← HX.out, decide_eq_false HX0.out, Bool.false_and, Bool.and_false]), Q.refl _⟩

theorem specSystemOk {w : World} {base : Nat} {v : Value} {xs : List Int} (h : OI w base v xs) :
    Calls Try.prog 15 #[v] w fun e w' => e = .returned (.bool (sysB xs)) ∧ Q w w' := by
  rw [← sysS_eq]
  obtain ⟨ad, cap, rfl, hm⟩ := h.shape
  go_enter Try.func15, Try.ntmps15
  go_wp2
  go_loopw [3] (fun i wr => ∃ k : Nat, i = .int .i64 (k : Int) ∧ k ≤ xs.length ∧ Hid (okTo (rngP 1 100 xs) k = true) ∧ Q w wr) (fun i _ => xs.length - (intOf i).toNat)
  case atStart => exact ⟨0, rfl, Nat.zero_le _, rfl, Q.refl _⟩
  case round =>
    obtain ⟨k, rfl, hk, HT, nq, rfl⟩ := hrel
    by_cases hlt : k < xs.length
    · obtain ⟨x, HX, ix, c1⟩ := h.at hlt
      cases hin : inB x 1 100
      · have HI := Lib.hid hin
        go_wp2
        go_quiet ((go_at_call 19; first | exact qAdd (specIn _ _ _ _) | exact qOne (specIn _ _ _ _)))
        go_wp2
        go_ret
        exact ⟨ret_bool (by rw [sysS, okTo_fail hlt (by rw [rngP, ← HX.out, HI.out, Bool.false_and])]; rfl), (by repeat (first | exact Q.refl _ | exact Q.mk _ _ | apply Q.drewN | apply Q.drew))⟩
      · have HI := Lib.hid hin
        by_cases hk0 : 0 < k
        · obtain ⟨j, rfl⟩ : ∃ j, k = j + 1 := ⟨k - 1, by omega⟩
          obtain ⟨y, HY, iy, c2⟩ := h.at (k := j) (by omega)
          have hcast : ((j + 1 : Nat) : Int) = (j : Int) + 1 := by omega
          rw [hcast] at ix ⊢
          clear hcast
          have e1 : IntKind.i64.wrap ((j : Int) + 1 - 1) = (j : Int) := by rw [show (j : Int) + 1 - 1 = (j : Int) from by omega]; exact IntWalk.i64_in _ (by omega)
          have hdk : decide ((0 : Int) < (j : Int) + 1) = true := decide_eq_true (by omega)
          by_cases hxy : y < x
          · have hd : decide (x ≤ y) = false := decide_eq_false (by omega)
            go_wp2
            go_quiet ((go_at_call 19; first | exact qAdd (specIn _ _ _ _) | exact qOne (specIn _ _ _ _)))
            go_wp2
            go_roundw
            case rel => exact ⟨j + 1 + 1, by go_num, by omega, okTo_step HT.out (by rw [rngP, ← HX.out, HI.out, ascP_yes HY.out HX.out hxy]; rfl), (by repeat (first | exact Q.refl _ | exact Q.mk _ _ | apply Q.drewN | apply Q.drew))⟩
            case measure => simp [intOf]; omega
          · have hd : decide (x ≤ y) = true := decide_eq_true (by omega)
            go_wp2
            go_quiet ((go_at_call 19; first | exact qAdd (specIn _ _ _ _) | exact qOne (specIn _ _ _ _)))
            go_wp2
            go_ret
            exact ⟨ret_bool (by rw [sysS, okTo_fail hlt (by rw [rngP, ascP_no HY.out HX.out (by omega), Bool.and_false])]; rfl), (by repeat (first | exact Q.refl _ | exact Q.mk _ _ | apply Q.drewN | apply Q.drew))⟩
        · obtain rfl : k = 0 := by omega
          rw [show ((0 : Nat) : Int) = 0 from rfl] at ix ⊢
          go_wp2
          go_quiet ((go_at_call 19; first | exact qAdd (specIn _ _ _ _) | exact qOne (specIn _ _ _ _)))
          go_wp2
          go_roundw
          case rel => exact ⟨1, rfl, by omega, okTo_step HT.out (by rw [rngP, ← HX.out, HI.out, ascP_zero]; rfl), (by repeat (first | exact Q.refl _ | exact Q.mk _ _ | apply Q.drewN | apply Q.drew))⟩
          case measure => simp [intOf]; omega
    · have hfin : okTo (rngP 1 100 xs) xs.length = true := by
        have hT := HT.out
        rw [show k = xs.length from by omega] at hT; exact hT
      have HF := Lib.hid hfin
      clear hfin
      cases hr : inB xs.length 1 6
      · have HR := Lib.hid hr
        go_wp2_with (go_at_call 19; refine (specIn _ _ _ _).mono ?_; rintro e w' ⟨rfl, rfl⟩)
        go_ret
        exact ⟨ret_bool (by rw [sysS, HR.out, Bool.false_and, Bool.and_false]), (by repeat (first | exact Q.refl _ | exact Q.mk _ _ | apply Q.drewN | apply Q.drew))⟩
      · have HR := Lib.hid hr
        have hl := inB_iff.1 hr
        obtain ⟨x, HX, ix, c1⟩ := h.at0 (by omega)
        go_wp2_with (go_at_call 19; refine (specIn _ _ _ _).mono ?_; rintro e w' ⟨rfl, rfl⟩)
        go_ret
        exact ⟨ret_bool (by rw [sysS, HR.out, HF.out, headB, ← HX.out, Bool.true_and, Bool.true_and]; rfl), (by repeat (first | exact Q.refl _ | exact Q.mk _ _ | apply Q.drewN | apply Q.drew))⟩
end Go.Proofs.Ythbhappegepmdaa
