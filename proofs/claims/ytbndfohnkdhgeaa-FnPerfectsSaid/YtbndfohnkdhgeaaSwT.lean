/- The plain law of the table of sumF. -/
import Derived.Test.YtbndfohnkdhgeaaSw
namespace Go.Proofs.Ytbndfohnkdhgeaa
open Go.RowKit Go.Maps

/-- The numbers from n on are still to come. -/
def leftN (n : Nat) (z : Lit) : Bool := match z with
  | .int .i64 k => decide ((n : Int) ≤ k)
  | _ => false
theorem l_yes {n : Nat} {k : Int} (h : (n : Int) ≤ k) : leftN n (.int .i64 k) = true := decide_eq_true h
theorem l_no {n : Nat} {k : Int} (h : ¬ (n : Int) ≤ k) : ¬ leftN n (.int .i64 k) = true := fun q => h (of_decide_eq_true q)
theorem cL_zero {m : Nat} {x : Int} {f : Int → Int} (hf : ∀ n, n < 0 → f n = 0) (i : Int) : convL (leftN 0) q1 m x f i = 0 := by
  refine (sumN_congr fun t _ => ?_).trans (sumN_zero m)
  by_cases e : ((0 : Nat) : Int) ≤ i - q1 t * x
  · rw [if_pos (l_yes e)]
  · rw [if_neg (l_no e)]; exact hf _ (by omega)
theorem cL_same {m n : Nat} {x : Int} {f : Int → Int} (hf : f n = 0) (i : Int) : convL (leftN n) q1 m x f i = convL (leftN (n + 1)) q1 m x f i := by
  refine sumN_congr fun t _ => ?_
  generalize i - q1 t * x = z
  by_cases e : (n : Int) ≤ z
  · rw [if_pos (l_yes e)]
    by_cases e2 : z = n
    · rw [e2, hf]; split <;> rfl
    · rw [if_pos (l_yes (by omega))]
  · rw [if_neg (l_no e), if_neg (l_no (by omega))]
theorem cJ_end {m n : Nat} {x : Int} {f : Int → Int} (hw : (Lit.int .i64 (n : Int)).wf = true) (i : Int) : convJ (leftN n) q1 m x f n m i = convL (leftN (n + 1)) q1 m x f i := by
  rw [convJ_end (l_yes (Int.le_refl _)) hw]
  refine sumN_congr fun t _ => ?_
  generalize i - q1 t * x = z
  have hL : (leftN n (.int .i64 z) && !(Lit.int .i64 z).sameKey (.int .i64 (n : Int))) = leftN (n + 1) (.int .i64 z) := by
    rw [same_int hw]
    show (decide ((n : Int) ≤ z) && !decide (z = (n : Int))) = decide (((n + 1 : Nat) : Int) ≤ z)
    by_cases e : (n : Int) ≤ z
    · by_cases e2 : z = n
      · rw [decide_eq_true e, decide_eq_true e2, decide_eq_false (by omega)]; rfl
      · rw [decide_eq_true e, decide_eq_false e2, decide_eq_true (by omega)]; rfl
    · rw [decide_eq_false e, decide_eq_false (by omega : ¬ ((n + 1 : Nat) : Int) ≤ z)]; rfl
  show (if (leftN n (.int .i64 z) && !(Lit.int .i64 z).sameKey (.int .i64 (n : Int))) = true then (0 : Int) else f z) = _
  rw [hL]
theorem cL_end {m T : Nat} {x : Int} {f : Int → Int} (hf : ∀ n : Int, (T : Int) < n → f n = 0) (i : Int) : convL (leftN (T + 1)) q1 m x f i = conv q1 m x f i := by
  refine sumN_congr fun t _ => ?_
  by_cases e : ((T + 1 : Nat) : Int) ≤ i - q1 t * x
  · rw [if_pos (l_yes e), hf _ (by omega)]
  · rw [if_neg (l_no e)]
def tabI (f : Int → Int) (N : Nat) : List Int := tab (fun i => f (i : Int)) N
theorem tabI_length (f : Int → Int) (N : Nat) : (tabI f N).length = N := tab_length _ _
theorem tabI_getD {f : Int → Int} {N i : Nat} (h : i < N) : (tabI f N).getD i 0 = f i := tab_getD h
theorem tabI_congr {f g : Int → Int} {N : Nat} (e : ∀ i : Nat, i < N → f i = g i) : tabI f N = tabI g N := tab_congr e
theorem tabI_set {f : Int → Int} {N j : Nat} {v : Int} : (tabI f N).set j v = tabI (fun i => if i = j then v else f i) N := by
  unfold tabI
  rw [tab_set]
  refine tab_congr fun i _ => ?_
  show (if i = j then v else f i) = (if (i : Int) = (j : Int) then v else f i)
  by_cases e : i = j
  · rw [if_pos e, if_pos (by omega)]
  · rw [if_neg e, if_neg (by omega)]
theorem tabI_zero (N : Nat) : List.replicate N 0 = tabI (fun _ => 0) N := tab_zero N

end Go.Proofs.Ytbndfohnkdhgeaa
