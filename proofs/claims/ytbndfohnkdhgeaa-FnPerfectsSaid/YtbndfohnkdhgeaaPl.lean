/- Perfect lists as plain Lean, the program's way and the reference's way: they are the same lists up to 24. No program in sight. -/
import Derived.Test.YtbndfohnkdhgeaaSumW
namespace Go.Proofs.Ytbndfohnkdhgeaa

/-- Sums of natural numbers, for reckoning. -/
def sumQ (h : Nat → Nat) : Nat → Nat
  | 0 => 0
  | j + 1 => sumQ h j + h j
def convQ (m w : Nat) (f : Nat → Nat) (n : Nat) : Nat := sumQ (fun t => f (n - t * w)) (min m (n / w + 1))
def swQ : Nat → List Int → (Nat → Nat) → (Nat → Nat)
  | 0, _, f => f
  | _ + 1, [], f => f
  | n + 1, x :: ys, f => swQ n (ys.drop (runLen x ys)) (convQ (runLen x ys + 2) x.toNat f)
def sumQF (xs : List Int) : Nat → Nat := swQ xs.length xs (fun n => if n = 0 then 1 else 0)
def perfQ (xs : List Int) : Bool := okTo (fun k => decide (sumQF xs (k + 1) = 1)) (topN xs)

/-- Both functions are one, and below 0 there is nothing. -/
structure SameF (f : Int → Int) (g : Nat → Nat) : Prop where
  at' : ∀ n : Nat, f (n : Int) = (g n : Int)
  neg : ∀ n : Int, n < 0 → f n = 0
theorem sumN_cut {h : Nat → Int} {a : Nat} (d : Nat) (e : ∀ t, a ≤ t → t < a + d → h t = 0) : sumN h (a + d) = sumN h a := by
  induction d with
  | zero => rfl
  | succ d ih => rw [← Nat.add_assoc, sumN, ih (fun t h1 h2 => e t h1 (by omega)), e (a + d) (by omega) (by omega), Int.add_zero]
theorem sumQ_cast {h : Nat → Int} {g : Nat → Nat} (n : Nat) (e : ∀ t, t < n → h t = (g t : Int)) : sumN h n = (sumQ g n : Int) := by
  induction n with
  | zero => rfl
  | succ n ih => rw [sumN, sumQ, ih (fun t ht => e t (by omega)), e n (by omega)]; omega
theorem SameF.conv {f : Int → Int} {g : Nat → Nat} (h : SameF f g) {m w : Nat} (hw : 1 ≤ w) : SameF (conv q1 m (w : Int) f) (convQ m w g) where
  at' n := by
    have hd : ∀ t : Nat, t < n / w + 1 ↔ t * w ≤ n := fun t => by
      rw [Nat.lt_succ_iff, Nat.le_div_iff_mul_le (by omega)]
    have hq : ∀ t : Nat, q1 t * (w : Int) = ((t * w : Nat) : Int) := fun t => by rw [q1, Int.natCast_mul]
    have e1 : sumN (fun t => f ((n : Int) - q1 t * w)) m = sumN (fun t => f ((n : Int) - q1 t * w)) (min m (n / w + 1)) := by
      by_cases c : m ≤ n / w + 1
      · rw [Nat.min_eq_left c]
      · rw [Nat.min_eq_right (by omega)]
        obtain ⟨d, rfl⟩ : ∃ d, m = n / w + 1 + d := ⟨m - (n / w + 1), by omega⟩
        refine sumN_cut d fun t h1 _ => ?_
        have h2 : ¬ t * w ≤ n := fun q => by have := (hd t).2 q; omega
        exact h.neg _ (by rw [hq]; omega)
    show sumN (fun t => f ((n : Int) - q1 t * w)) m = _
    rw [e1]
    refine sumQ_cast _ fun t ht => ?_
    have h2 : t * w ≤ n := (hd t).1 (Nat.lt_of_lt_of_le ht (Nat.min_le_right _ _))
    rw [hq, ← h.at', show ((n - t * w : Nat) : Int) = (n : Int) - ((t * w : Nat) : Int) from by omega]
  neg n hn := by
    refine (sumN_congr fun t _ => ?_).trans (sumN_zero m)
    have : 0 ≤ q1 t * (w : Int) := Int.mul_nonneg (by unfold q1; omega) (by omega)
    exact h.neg _ (by omega)
theorem sw_same (n : Nat) : ∀ (xs : List Int) (f : Int → Int) (g : Nat → Nat), (∀ x ∈ xs, 1 ≤ x ∧ x ≤ 1000) → SameF f g → SameF (swL n xs f) (swQ n xs g) := by
  induction n with
  | zero => intro xs f g _ h; exact h
  | succ n ih =>
    intro xs f g hx h
    cases xs with
    | nil => exact h
    | cons x ys =>
      have hx1 := (hx x (List.mem_cons_self ..)).1
      have e : ((x.toNat : Nat) : Int) = x := by omega
      have hc := h.conv (m := runLen x ys + 2) (w := x.toNat) (by omega)
      rw [e] at hc
      exact ih _ _ _ (fun y hy => hx y (List.mem_cons_of_mem _ (List.mem_of_mem_drop hy))) hc
theorem sumQ_same {xs : List Int} (V : Val xs) : SameF (sumF xs) (sumQF xs) := by
  refine sw_same _ _ _ _ V.each ⟨fun n => ?_, fun n hn => if_neg (by omega)⟩
  show (if (n : Int) = 0 then (1 : Int) else 0) = ((if n = 0 then 1 else 0 : Nat) : Int)
  by_cases h : n = 0
  · rw [if_pos h, if_pos (by omega)]; rfl
  · rw [if_neg h, if_neg (by omega)]; rfl
theorem perfQ_eq {xs : List Int} (V : Val xs) : perfB xs = perfQ xs := by
  have h := sumQ_same V
  have key : ∀ n, okTo (fun k => decide (sumF xs ((k : Int) + 1) = 1)) n = okTo (fun k => decide (sumQF xs (k + 1) = 1)) n := by
    intro n
    induction n with
    | zero => rfl
    | succ n ih =>
      rw [okTo, okTo, ih]
      congr 1
      have h1 := h.at' (n + 1)
      rw [show ((n + 1 : Nat) : Int) = (n : Int) + 1 from by omega] at h1
      rw [h1]
      exact decide_eq_decide.2 (by omega)
  exact key _

/-- g a ++ g (a + 1) ++ .. (j of them). -/
def upL (g : Nat → List (List Int)) (a : Nat) : Nat → List (List Int)
  | 0 => []
  | j + 1 => upL g a j ++ g (a + j)
theorem upL_mono (g : Nat → List (List Int)) (a j : Nat) : ∀ d, (upL g a j).length ≤ (upL g a (j + d)).length
  | 0 => Nat.le_refl _
  | d + 1 => by have := upL_mono g a j d; rw [← Nat.add_assoc, upL, List.length_append]; omega
/-- The number that a next one is not less than. -/
def lastN (fs : List Int) : Nat := if fs.length = 0 then 1 else (fs.getD (fs.length - 1) 0).toNat
def perI : Nat → List Int → Nat → List (List Int)
  | 0, _, _ => []
  | f + 1, fs, rest => if rest = 0 then (if perfQ fs = true then [fs] else []) else upL (fun x => perI f (fs ++ [(x : Int)]) (rest - x)) (lastN fs) (rest + 1 - lastN fs)
def perS : Nat → Nat → List Int → Nat → List (List Int)
  | 0, _, _, _ => []
  | f + 1, n, fs, reach => if reach = n then [fs] else
      upL (fun x => if x = lastN fs ∨ x = reach + 1 then (if perfQ (fs ++ [(x : Int)]) = true then perS f n (fs ++ [(x : Int)]) (reach + x) else []) else []) (lastN fs) (min (reach + 1) (n - reach) + 1 - lastN fs)
end Go.Proofs.Ytbndfohnkdhgeaa
