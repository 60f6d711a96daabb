/- Contract of impl.isAscending. No conditions. -/
import Derived.Test.YtemeechmemhokaaAsc0
namespace Go.Proofs.Ytemeechmemhokaa
open Go.RowKit

/-- The number at place k is greater than the one ahead of it. -/
def ascP (xs : List Int) (k : Nat) : Bool := decide (k = 0) || decide (xs.getD (k - 1) 0 < xs.getD k 0)
def ascB (xs : List Int) : Bool := okTo (ascP xs) xs.length
theorem ascP_zero (xs : List Int) : ascP xs 0 = true := rfl
theorem ascP_yes {xs : List Int} {k : Nat} {x y : Int} (hx : x = xs.getD k 0) (hy : y = xs.getD (k + 1) 0) (h : x < y) : ascP xs (k + 1) = true := by
  simp only [ascP, Nat.add_sub_cancel, ← hx, ← hy, decide_eq_true h, Bool.or_true]
theorem ascP_no {xs : List Int} {k : Nat} {x y : Int} (hx : x = xs.getD k 0) (hy : y = xs.getD (k + 1) 0) (h : ¬ x < y) : ascP xs (k + 1) = false := by
  simp only [ascP, Nat.add_sub_cancel, ← hx, ← hy, decide_eq_false h, Bool.or_false, decide_eq_false (show ¬ k + 1 = 0 from by omega)]

theorem implAsc {w : World} {base : Nat} {v : Value} {xs : List Int} (h : OI w base v xs) :
    Calls Try.prog 32 #[v] w fun e w' => e = .returned (.bool (ascB xs)) ∧ Q w w' := by
  obtain ⟨ad, cap, rfl, hm⟩ := h.shape
  go_enter Try.func32, Try.ntmps32
  go_wp2
  go_loopw [3] (fun i wr => ∃ k : Nat, i = .int .i64 ((k : Int) + 1) ∧ (k + 1 ≤ xs.length ∨ k = 0) ∧ Hid (okTo (ascP xs) (k + 1) = true) ∧ Q w wr) (fun i _ => xs.length - (intOf i).toNat)
  case atStart => exact ⟨0, rfl, .inr rfl, rfl, Q.refl _⟩
  case round =>
    obtain ⟨k, rfl, hk, HT, nq, rfl⟩ := hrel
    by_cases hlt : k + 1 < xs.length
    · obtain ⟨x, HX, ix, c1⟩ := h.at (k := k) (by omega)
      obtain ⟨y, HY, iy, c2⟩ := h.at hlt
      have e1 : IntKind.i64.wrap ((k : Int) + 1 - 1) = (k : Int) := by rw [show (k : Int) + 1 - 1 = (k : Int) from by omega]; exact IntWalk.i64_in _ (by omega)
      rw [show ((k + 1 : Nat) : Int) = (k : Int) + 1 from by omega] at iy
      by_cases hxy : x < y
      · have hd : decide (y ≤ x) = false := decide_eq_false (by omega)
        go_wp2
        go_quiet (fail)
        go_wp2
        go_roundw
        case rel => exact ⟨k + 1, by go_num, .inl (by omega), okTo_step HT.out (ascP_yes HX.out HY.out hxy), (by repeat (first | exact Q.refl _ | exact Q.mk _ _ | apply Q.drewN | apply Q.drew))⟩
        case measure => simp [intOf]; omega
      · have hd : decide (y ≤ x) = true := decide_eq_true (by omega)
        go_wp2
        go_quiet (fail)
        go_wp2
        go_ret
        exact ⟨ret_bool (okTo_fail hlt (ascP_no HX.out HY.out (by omega))).symm, (by repeat (first | exact Q.refl _ | exact Q.mk _ _ | apply Q.drewN | apply Q.drew))⟩
    · have hfin : ascB xs = true := by
        have hT := HT.out
        rcases hk with hk | hk
        · rw [show k + 1 = xs.length from by omega] at hT; exact hT
        · unfold ascB
          rcases Nat.lt_or_ge 0 xs.length with h0 | h0
          · rw [show xs.length = k + 1 from by omega]; exact hT
          · rw [show xs.length = 0 from by omega]; rfl
      have HF := Lib.hid hfin
      clear hfin
      go_wp2
      go_ret
      exact ⟨ret_bool HF.out.symm, (by repeat (first | exact Q.refl _ | exact Q.mk _ _ | apply Q.drewN | apply Q.drew))⟩
end Go.Proofs.Ytemeechmemhokaa
