/- Contracts of MirrorRuler, in the program and in the reference. No conditions. -/
import Derived.Test.YtemeechmemhokaaRuler
import Derived.Test.YtemeechmemhokaaApp
import Derived.Deep.RegionHeld3
namespace Go.Proofs.Ytemeechmemhokaa
open Go.RowKit

/-- The first k of the mirrored marks. -/
def mirTo (xs : List Int) : Nat → List Int
  | 0 => []
  | k + 1 => mirTo xs k ++ [xs.getD (xs.length - 1) 0 - xs.getD (xs.length - 1 - k) 0]
def mirL (xs : List Int) : List Int := if rulerB xs = true then mirTo xs xs.length else []
theorem mirTo_length (xs : List Int) (k : Nat) : (mirTo xs k).length = k := by
  induction k with
  | zero => rfl
  | succ k ih => rw [mirTo, List.length_append, ih]; rfl
theorem mirL_length (xs : List Int) : (mirL xs).length ≤ xs.length := by
  unfold mirL; split
  · rw [mirTo_length]; exact Nat.le_refl _
  · exact Nat.zero_le _
theorem mirTo_step {xs : List Int} {j k : Nat} {x y : Int} (hy : y = xs.getD (xs.length - 1) 0) (hx : x = xs.getD j 0) (hj : j + 1 + k = xs.length) : mirTo xs (k + 1) = mirTo xs k ++ [y - x] := by
  rw [mirTo, hy, hx, show xs.length - 1 - k = j from by omega]
theorem ruler_len {xs : List Int} (h : rulerB xs = true) : 1 ≤ xs.length ∧ xs.length ≤ 8 := by
  rw [rulerB, Bool.and_eq_true] at h
  have := inB_iff.1 h.1
  omega
theorem ruler_asc {xs : List Int} (h : rulerB xs = true) : ascB xs = true ∧ xs.getD 0 0 = 0 ∧ xs.getD (xs.length - 1) 0 ≤ 60 := by
  rw [rulerB, Bool.and_eq_true, Bool.and_eq_true, Bool.and_eq_true] at h
  exact ⟨h.2.2.1, of_decide_eq_true h.2.1, of_decide_eq_true h.2.2.2⟩
theorem ruler_at {xs : List Int} {k : Nat} {x : Int} (h : rulerB xs = true) (hk : k < xs.length) (hx : x = xs.getD k 0) : 0 ≤ x ∧ x ≤ 60 := by
  obtain ⟨ha, h0, hl⟩ := ruler_asc h
  have h1 := asc_mono ha k 0 (by omega) hk
  have h2 := asc_mono ha (xs.length - 1) k (by omega) (by omega)
  omega

theorem implMirror {w : World} {base : Nat} {v : Value} {xs : List Int} (h : OI w base v xs) : Calls Try.prog 25 #[v] w (RetOI w (mirL xs)) := by
  obtain ⟨ad, cap, rfl, hm⟩ := h.shape
  cases hr : rulerB xs
  · have hr2 : (!rulerB xs) = true := by rw [hr]; rfl
    have HR := Lib.hid hr
    clear hr
    go_enter Try.func25, Try.ntmps25
    go_wp2_with fail
    refine (implRulerOk h).mono ?_
    rintro e w' ⟨rfl, n, rfl⟩
    go_wp2
    go_ret
    exact ⟨_, rfl, by rw [mirL, HR.out]; exact OI.nil _ _, bDrewN (Below.refl _ _) _⟩
  · have hr2 : (!rulerB xs) = false := by rw [hr]; rfl
    have HR := Lib.hid hr
    clear hr
    have hl := ruler_len HR.out
    go_enter Try.func25, Try.ntmps25
    go_wp2_with fail
    refine (implRulerOk h).mono ?_
    rintro e w' ⟨rfl, n, rfl⟩
    obtain ⟨y, HY, iy, c2⟩ := h.atLast (by omega)
    have hyb := ruler_at HR.out (by omega) HY.out
    go_wp2
    go_loopw [3, 5] (fun o i wr => ∃ j k : Nat, i = .int .i64 ((j : Int) - 1) ∧ j + k = xs.length ∧ OI wr w.heap.size o (mirTo xs k) ∧ Below w.heap.size w wr) (fun _ i _ => (intOf i + 1).toNat)
    case atStart => exact ⟨xs.length, 0, rfl, rfl, OI.nil _ _, bDrewN (Below.refl _ _) _⟩
    case round =>
      obtain ⟨j, k, rfl, hjk, ho, hb⟩ := hrel
      have HJ := Lib.hid hjk
      have hjl : j + k ≤ xs.length := by omega
      clear hjk
      by_cases hj0 : 0 < j
      · obtain ⟨i, rfl⟩ : ∃ i, j = i + 1 := ⟨j - 1, by omega⟩
        rw [show (((i + 1 : Nat) : Int) - 1) = (i : Int) from by omega]
        obtain ⟨x, HX, ix, c1⟩ := (h.stay hb).at (k := i) (by omega)
        have hxb := ruler_at HR.out (by omega) HX.out
        go_wp2_with (at_builtin; refine app_int rfl (.tmp 22) (.tmp 29) rfl rfl ho rfl hb.size (by rw [mirTo_length]; omega) ?_; intro v' w1 ho1 hg1)
        go_roundw
        case rel => exact ⟨i, k + 1, rfl, by have := HJ.out; omega, by rw [mirTo_step HY.out HX.out (by have := HJ.out; omega)]; exact ho1, hb.grown hg1 hb.size (fun j hj => (ho.lt j hj).1)⟩
        case measure => simp only [intOf]; omega
      · have hj1 : j = 0 := by omega
        subst hj1
        have hfin : OI wr w.heap.size u3 (mirL xs) := by
          rw [mirL, if_pos HR.out]
          have hk := HJ.out
          rw [Nat.zero_add] at hk
          rw [← hk]
          exact ho
        clear ho
        go_wp2
        go_ret
        exact ⟨_, rfl, hfin, hb⟩

end Go.Proofs.Ytemeechmemhokaa
