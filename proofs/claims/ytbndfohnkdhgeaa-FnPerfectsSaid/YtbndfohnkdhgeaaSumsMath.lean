/- The plain law of the reference's table of sums: one table holds what the map of ways holds. No program in sight. -/
import Derived.Test.YtbndfohnkdhgeaaWays
namespace Go.Proofs.Ytbndfohnkdhgeaa

def preS (xs : List Int) : Nat → Int
  | 0 => 0
  | i + 1 => preS xs i + xs.getD i 0
def tab (g : Nat → Int) (N : Nat) : List Int := (List.range N).map g
theorem tab_length (g : Nat → Int) (N : Nat) : (tab g N).length = N := by simp [tab]
theorem tab_getD {g : Nat → Int} {N i : Nat} (h : i < N) : (tab g N).getD i 0 = g i := by simp [tab, List.getD, h]
theorem tab_congr {g h : Nat → Int} {N : Nat} (e : ∀ i, i < N → g i = h i) : tab g N = tab h N := List.map_congr_left fun i hi => e i (List.mem_range.1 hi)
theorem tab_set {g : Nat → Int} {N j : Nat} {v : Int} : (tab g N).set j v = tab (fun i => if i = j then v else g i) N := by
  refine List.ext_getElem (by simp [tab]) fun i h1 h2 => ?_
  rw [List.getElem_set]
  simp only [tab, List.getElem_map, List.getElem_range]
  by_cases e : j = i
  · rw [if_pos e, if_pos e.symm]
  · rw [if_neg e, if_neg (fun q => e q.symm)]
theorem tab_zero (N : Nat) : List.replicate N 0 = tab (fun _ => 0) N := by
  refine List.ext_getElem (by simp [tab]) fun i h1 h2 => ?_
  simp [tab]

/-- The table of f around its middle T. -/
def sft (T : Nat) (f : Int → Int) (i : Nat) : Int := f ((i : Int) - T)
def facs (two : Bool) : List Int := if two = true then [-1, 0, 1] else [0, 1]
theorem facs_len (two : Bool) : (facs two).length ≤ 3 := by cases two <;> decide
theorem facs_unit (two : Bool) : ∀ q ∈ facs two, -1 ≤ q ∧ q ≤ 1 := by
  cases two
  · intro q hq; simp [facs] at hq; omega
  · intro q hq; simp [facs] at hq; omega
/-- The ways of the set xs, with one pan or with two. -/
def wF (two : Bool) (xs : List Int) (i : Nat) : Int → Int := waysF (facF (facs two)) (facs two).length xs i
theorem wF_zero (two : Bool) (xs : List Int) (n : Int) : wF two xs 0 n = if n = 0 then 1 else 0 := rfl
theorem wF_step (two : Bool) (xs : List Int) (i : Nat) (n : Int) : wF two xs (i + 1) n = wF two xs i n + (wF two xs i (n - xs.getD i 0) + (if two = true then wF two xs i (n + xs.getD i 0) else 0)) := by
  cases two
  · show conv (facF [0, 1]) 2 _ _ n = _
    simp only [conv, sumN, facF, List.getD_cons_zero, List.getD_cons_succ, Int.zero_mul, Int.one_mul, Int.sub_zero, if_neg Bool.false_ne_true]
    unfold wF facs
    simp
  · show conv (facF [-1, 0, 1]) 3 _ _ n = _
    have e : n - (-1) * xs.getD i 0 = n + xs.getD i 0 := by omega
    simp only [conv, sumN, facF, List.getD_cons_zero, List.getD_cons_succ, Int.zero_mul, Int.one_mul, Int.sub_zero, e, if_true]
    unfold wF facs
    simp
    omega
theorem wF_bd (two : Bool) (xs : List Int) (i : Nat) (n : Int) : 0 ≤ wF two xs i n ∧ wF two xs i n ≤ p3 i := waysF_bd (facs_len two) i n
theorem preS_nonneg {xs : List Int} (hx : ∀ x ∈ xs, 1 ≤ x ∧ x ≤ 1000) : ∀ i, i ≤ xs.length → 0 ≤ preS xs i ∧ preS xs i ≤ 1000 * i
  | 0, _ => by rw [preS]; omega
  | i + 1, h => by
    have h1 := preS_nonneg hx i (by omega)
    have h2 := hx _ (mem_getD (xs := xs) (k := i) (by omega) rfl)
    rw [preS]
    omega
theorem preS_mono {xs : List Int} (hx : ∀ x ∈ xs, 1 ≤ x ∧ x ≤ 1000) (i : Nat) : ∀ d, i + d ≤ xs.length → preS xs i ≤ preS xs (i + d)
  | 0, _ => Int.le_refl _
  | d + 1, h => by
    have h1 := preS_mono hx i d (by omega)
    have h2 := hx _ (mem_getD (xs := xs) (k := i + d) (by omega) rfl)
    rw [← Nat.add_assoc, preS]
    omega
theorem wF_sup {xs : List Int} (hx : ∀ x ∈ xs, 1 ≤ x ∧ x ≤ 1000) (two : Bool) : ∀ i, i ≤ xs.length → ∀ n, ¬ (-preS xs i ≤ n ∧ n ≤ preS xs i) → wF two xs i n = 0
  | 0, _, n, h => by
    rw [preS] at h
    rw [wF_zero, if_neg (by omega)]
  | i + 1, hi, n, h => by
    have h2 := hx _ (mem_getD (xs := xs) (k := i) (by omega) rfl)
    rw [preS] at h
    rw [wF_step, wF_sup hx two i (by omega) n (by omega), wF_sup hx two i (by omega) (n - xs.getD i 0) (by omega), wF_sup hx two i (by omega) (n + xs.getD i 0) (by omega)]
    split <;> rfl

/-- The next table, when the numbers below n have been carried over. -/
def nxtAt (T : Nat) (f : Int → Int) (x : Int) (two : Bool) (n : Nat) (i : Nat) : Int :=
  f ((i : Int) - T) + ((if (i : Int) - x < n then f ((i : Int) - x - T) else 0) + (if two = true ∧ (i : Int) + x < n then f ((i : Int) + x - T) else 0))
theorem nxt_zero {T : Nat} {f : Int → Int} {x : Int} (two : Bool) (hx : 1 ≤ x) (hf : ∀ n, ¬ (-(T : Int) ≤ n ∧ n ≤ T) → f n = 0) (i : Nat) : nxtAt T f x two 0 i = sft T f i := by
  unfold nxtAt sft
  rw [if_neg (c := two = true ∧ (i : Int) + x < (0 : Nat)) (by omega)]
  by_cases e : (i : Int) - x < (0 : Nat)
  · rw [if_pos e, hf ((i : Int) - x - T) (by omega)]; omega
  · rw [if_neg e]; omega
theorem nxt_same {T : Nat} {f : Int → Int} {x : Int} (two : Bool) {n : Nat} (h0 : f ((n : Int) - T) = 0) (i : Nat) : nxtAt T f x two n i = nxtAt T f x two (n + 1) i := by
  have hA : (i : Int) - x = n → f ((i : Int) - x - T) = 0 := fun h => by rw [h]; exact h0
  have hB : (i : Int) + x = n → f ((i : Int) + x - T) = 0 := fun h => by rw [h]; exact h0
  unfold nxtAt
  generalize f ((i : Int) - x - T) = A at *
  generalize f ((i : Int) + x - T) = B at *
  cases two
  · simp only [Bool.false_eq_true, false_and, if_false]
    split <;> split <;> omega
  · simp only [true_and]
    split <;> split <;> split <;> split <;> omega
/-- The table when n has been carried upwards alone. -/
def halfAt (T : Nat) (f : Int → Int) (x : Int) (two : Bool) (n : Nat) (i : Nat) : Int := if (i : Int) = n + x then nxtAt T f x two n i + f ((n : Int) - T) else nxtAt T f x two n i
theorem half_one {T : Nat} {f : Int → Int} {x : Int} {n : Nat} (i : Nat) : halfAt T f x false n i = nxtAt T f x false (n + 1) i := by
  have hA : (i : Int) - x = n → f ((i : Int) - x - T) = f ((n : Int) - T) := fun h => by rw [h]
  unfold halfAt nxtAt
  generalize f ((i : Int) - x - T) = A at *
  simp only [Bool.false_eq_true, false_and, if_false]
  split <;> split <;> split <;> omega
theorem half_two {T : Nat} {f : Int → Int} {x : Int} {n : Nat} (hx : 1 ≤ x) (i : Nat) : (if (i : Int) = n - x then halfAt T f x true n i + f ((n : Int) - T) else halfAt T f x true n i) = nxtAt T f x true (n + 1) i := by
  have hA : (i : Int) - x = n → f ((i : Int) - x - T) = f ((n : Int) - T) := fun h => by rw [h]
  have hB : (i : Int) + x = n → f ((i : Int) + x - T) = f ((n : Int) - T) := fun h => by rw [h]
  unfold halfAt nxtAt
  generalize f ((i : Int) - x - T) = A at *
  generalize f ((i : Int) + x - T) = B at *
  simp only [true_and]
  by_cases h1 : (i : Int) = n - x
  · rw [if_pos h1, if_neg (show ¬ (i : Int) = n + x by omega)]
    split <;> split <;> split <;> split <;> omega
  · rw [if_neg h1]
    split <;> split <;> split <;> split <;> (try split) <;> omega
theorem nxt_end {T : Nat} {xs : List Int} {k : Nat} (two : Bool) (hf : ∀ n, ¬ (-(T : Int) ≤ n ∧ n ≤ T) → wF two xs k n = 0) {N : Nat} (hN : N = 2 * T + 1) (i : Nat) (hi : i < N) (hx : 1 ≤ xs.getD k 0) :
    nxtAt T (wF two xs k) (xs.getD k 0) two N i = sft T (wF two xs (k + 1)) i := by
  unfold nxtAt sft
  rw [wF_step, if_pos (by omega), show (i : Int) - xs.getD k 0 - T = (i : Int) - T - xs.getD k 0 from by omega, show (i : Int) + xs.getD k 0 - T = (i : Int) - T + xs.getD k 0 from by omega]
  congr 2
  cases two
  · simp
  · simp only [true_and]
    by_cases e : (i : Int) + xs.getD k 0 < N
    · rw [if_pos e, if_pos trivial]
    · rw [if_neg e, if_pos trivial, hf _ (by omega)]
end Go.Proofs.Ytbndfohnkdhgeaa
