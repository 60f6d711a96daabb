/- The plain law of FnSets: how far a set reaches, and that no set of its size reaches further than powers of two, or of three. No program in sight. -/
import Derived.Test.YtbndfohnkdhgeaaReach
namespace Go.Proofs.Ytbndfohnkdhgeaa

def powI (m : Nat) : Nat → Int
  | 0 => 1
  | i + 1 => (m : Int) * powI m i
def powL (m : Nat) : Nat → List Int
  | 0 => []
  | i + 1 => powL m i ++ [powI m i]
theorem powL_length (m i : Nat) : (powL m i).length = i := by
  induction i with
  | zero => rfl
  | succ i ih => rw [powL, List.length_append, ih]; rfl
theorem sumN_comm (h : Nat → Nat → Int) (m n : Nat) : sumN (fun j => sumN (fun t => h j t) m) n = sumN (fun t => sumN (fun j => h j t) n) m := by
  induction n with
  | zero => exact (sumN_zero m).symm
  | succ n ih =>
    show sumN (fun j => sumN (fun t => h j t) m) n + sumN (fun t => h n t) m = sumN (fun t => sumN (fun j => h j t) n + h n t) m
    rw [ih, sumN_add]
theorem sumN_one (lo : Int) (n : Nat) : sumN (fun j => if lo + (j : Int) = 0 then 1 else 0) n = if 0 ≤ -lo ∧ -lo < n then 1 else 0 := by
  induction n with
  | zero => rw [sumN, if_neg (by omega)]
  | succ n ih =>
    rw [sumN, ih]
    split <;> split <;> split <;> omega
theorem sumN_ge {h : Nat → Int} {n : Nat} (e : ∀ t, t < n → 1 ≤ h t) : (n : Int) ≤ sumN h n := by
  induction n with
  | zero => exact Int.le_refl _
  | succ n ih =>
    have h1 := ih (fun t ht => e t (by omega))
    have h2 := e n (by omega)
    rw [sumN]
    omega
/-- In any stretch of numbers there are no more ways than the factors allow. -/
theorem win_le {q : Nat → Int} {m : Nat} {xs : List Int} (i : Nat) : ∀ (lo : Int) (n : Nat), 0 ≤ sumN (fun j => waysF q m xs i (lo + (j : Int))) n ∧ sumN (fun j => waysF q m xs i (lo + (j : Int))) n ≤ powI m i := by
  induction i with
  | zero =>
    intro lo n
    show 0 ≤ sumN (fun j => if lo + (j : Int) = 0 then 1 else 0) n ∧ sumN (fun j => if lo + (j : Int) = 0 then 1 else 0) n ≤ 1
    rw [sumN_one]
    split <;> omega
  | succ i ih =>
    intro lo n
    have e : sumN (fun j => waysF q m xs (i + 1) (lo + (j : Int))) n = sumN (fun t => sumN (fun j => waysF q m xs i ((lo - q t * xs.getD i 0) + (j : Int))) n) m := by
      rw [← sumN_comm]
      refine sumN_congr fun j _ => ?_
      show sumN (fun t => waysF q m xs i (lo + (j : Int) - q t * xs.getD i 0)) m = _
      exact sumN_congr fun t _ => by rw [show lo + (j : Int) - q t * xs.getD i 0 = lo - q t * xs.getD i 0 + (j : Int) from by omega]
    rw [e, powI]
    exact sumN_bd fun t _ => ih _ _
theorem wF_sym (xs : List Int) (i : Nat) : ∀ n, wF true xs i (-n) = wF true xs i n := by
  induction i with
  | zero => intro n; rw [wF_zero, wF_zero]; split <;> split <;> omega
  | succ i ih =>
    intro n
    rw [wF_step, wF_step, if_pos rfl, if_pos rfl, ih n, show -n - xs.getD i 0 = -(n + xs.getD i 0) from by omega, ih, show -n + xs.getD i 0 = -(n - xs.getD i 0) from by omega, ih]
    omega
theorem wF_le (xs : List Int) (i : Nat) : ∀ n, wF false xs i n ≤ wF true xs i n := by
  induction i with
  | zero => intro n; rw [wF_zero, wF_zero]; exact Int.le_refl _
  | succ i ih =>
    intro n
    have h1 := ih n
    have h2 := ih (n - xs.getD i 0)
    have h3 := (wF_bd true xs i (n + xs.getD i 0)).1
    rw [wF_step, wF_step, if_pos rfl, if_neg Bool.false_ne_true]
    omega
theorem wF_nil (two : Bool) (xs : List Int) (i : Nat) : 1 ≤ wF two xs i 0 := by
  induction i with
  | zero => rw [wF_zero, if_pos rfl]; exact Int.le_refl _
  | succ i ih =>
    have h2 := (wF_bd two xs i (0 - xs.getD i 0)).1
    have h3 := (wF_bd two xs i (0 + xs.getD i 0)).1
    rw [wF_step]
    split <;> omega
theorem reach_ex {f : Int → Int} {T : Nat} (hn : ∀ n, 0 ≤ f n) (ho : ∀ j : Nat, T < j → f j = 0) : ∃ R, IsReach f R := by
  have key : ∀ d R, T + 1 - R = d → (∀ j : Nat, 1 ≤ j → j ≤ R → 0 < f j) → ∃ R, IsReach f R := by
    intro d
    induction d with
    | zero =>
      intro R hd h
      exact absurd (h (T + 1) (by omega) (by omega)) (by rw [ho (T + 1) (by omega)]; omega)
    | succ d ih =>
      intro R hd h
      have h0 := hn ((R : Int) + 1)
      by_cases e : f ((R : Int) + 1) = 0
      · exact ⟨R, h, e⟩
      · refine ih (R + 1) (by omega) fun j h1 h2 => ?_
        by_cases q : j = R + 1
        · rw [q, show ((R + 1 : Nat) : Int) = (R : Int) + 1 from by omega]; omega
        · exact h j h1 (by omega)
  exact key _ 0 rfl fun j h1 h2 => by omega
theorem reach_of {f : Int → Int} {R : Nat} (h : okTo (fun j => decide (0 < f ((j : Int) + 1))) R = true) (h0 : f ((R : Int) + 1) = 0) : IsReach f R := by
  refine ⟨fun j h1 h2 => ?_, h0⟩
  obtain ⟨k, rfl⟩ : ∃ k, j = k + 1 := ⟨j - 1, by omega⟩
  have := of_decide_eq_true (okTo_iff.1 h k (by omega))
  rw [show ((k + 1 : Nat) : Int) = (k : Int) + 1 from by omega]
  exact this

structure SetsLaw (xs : List Int) (a b : Int) : Prop where
  ra : reachN xs 1 = a
  rb : reachN xs 2 = b
  miss : missN xs = a + 1
  ap : 0 ≤ a ∧ a ≤ powI 2 xs.length - 1
  bq : 0 ≤ b ∧ 2 * b ≤ powI 3 xs.length - 1
  ab : a ≤ b
  oa : panB false xs (a + 1) = false
  ob : panB true xs (b + 1) = false
  sym : ∀ m, panB true xs (-m) = panB true xs m
  symW : ∀ m, waysN xs (-m) = waysN xs m
  pan : ∀ m, panB false xs m = true → panB true xs m = true
  ways : ∀ m, decide (0 < waysN xs m) = panB true xs m
theorem setsLaw {xs : List Int} (hs : setB xs = true) : ∃ a b, SetsLaw xs a b := by
  have F := setFacts hs
  obtain ⟨T1, H1⟩ := tot F false
  obtain ⟨T2, H2⟩ := tot F true
  obtain ⟨A, hA⟩ := reach_ex H1.nn H1.out
  obtain ⟨B, hB⟩ := reach_ex H2.nn H2.out
  have r1 := reach_one hs hA
  have r2 := reach_two hs hB
  have w1 := (win_le (q := facF (facs false)) (m := 2) (xs := xs) xs.length 0 (A + 1)).2
  have w2 := (win_le (q := facF (facs true)) (m := 3) (xs := xs) xs.length (-(B : Int)) (2 * B + 1)).2
  have g1 : ((A + 1 : Nat) : Int) ≤ sumN (fun j => waysF (facF (facs false)) 2 xs xs.length (0 + (j : Int))) (A + 1) := sumN_ge fun t ht => by
    show 1 ≤ wF false xs xs.length (0 + (t : Int))
    rw [Int.zero_add]
    by_cases q : t = 0
    · subst q; exact wF_nil false xs _
    · have := hA.1 t (by omega) (by omega); omega
  have g2 : ((2 * B + 1 : Nat) : Int) ≤ sumN (fun j => waysF (facF (facs true)) 3 xs xs.length (-(B : Int) + (j : Int))) (2 * B + 1) := sumN_ge fun t ht => by
    show 1 ≤ wF true xs xs.length (-(B : Int) + (t : Int))
    by_cases q : t = B
    · rw [q, show -(B : Int) + (B : Int) = 0 from by omega]; exact wF_nil true xs _
    · by_cases q2 : t < B
      · have := hB.1 (B - t) (by omega) (by omega)
        rw [show -(B : Int) + (t : Int) = -((B - t : Nat) : Int) from by omega, wF_sym]; omega
      · have := hB.1 (t - B) (by omega) (by omega)
        rw [show -(B : Int) + (t : Int) = ((t - B : Nat) : Int) from by omega]; omega
  refine ⟨A, B, r1, r2, ?_, ⟨by omega, by omega⟩, ⟨by omega, by omega⟩, ?_, ?_, ?_, ?_, ?_, ?_, ?_⟩
  · rw [missN, if_pos hs, r1]
  · rcases Nat.lt_or_ge B A with q | q
    · have h1 := hA.1 (B + 1) (by omega) (by omega)
      have h2 := wF_le xs xs.length ((B + 1 : Nat) : Int)
      have h3 := hB.2
      rw [show ((B + 1 : Nat) : Int) = (B : Int) + 1 from by omega] at h1 h2
      omega
    · omega
  · rw [panB, hA.2, hs]; rfl
  · rw [panB, hB.2, hs]; rfl
  · intro m; rw [panB, panB, wF_sym]
  · intro m; rw [waysN, waysN, wF_sym]
  · intro m hm
    rw [panB, hs, Bool.true_and] at hm ⊢
    have h1 := of_decide_eq_true hm
    have h2 := wF_le xs xs.length m
    exact decide_eq_true (by omega)
  · intro m; rw [waysN, if_pos hs, panB, hs, Bool.true_and]

theorem twosReach {n : Nat} (h : 1 ≤ n ∧ n ≤ 5) : reachN (powL 2 n) 1 = powI 2 n - 1 := by
  have e : ∀ (R : Nat), setB (powL 2 n) = true → okTo (fun j => decide (0 < wF false (powL 2 n) (powL 2 n).length ((j : Int) + 1))) R = true → wF false (powL 2 n) (powL 2 n).length ((R : Int) + 1) = 0 → (R : Int) = powI 2 n - 1 → reachN (powL 2 n) 1 = powI 2 n - 1 := fun R h1 h2 h3 h4 => by
    rw [reach_one h1 (reach_of h2 h3), h4]
  rcases (show n = 1 ∨ n = 2 ∨ n = 3 ∨ n = 4 ∨ n = 5 by omega) with rfl | rfl | rfl | rfl | rfl
  · exact e 1 (by decide +kernel) (by decide +kernel) (by decide +kernel) (by decide +kernel)
  · exact e 3 (by decide +kernel) (by decide +kernel) (by decide +kernel) (by decide +kernel)
  · exact e 7 (by decide +kernel) (by decide +kernel) (by decide +kernel) (by decide +kernel)
  · exact e 15 (by decide +kernel) (by decide +kernel) (by decide +kernel) (by decide +kernel)
  · exact e 31 (by decide +kernel) (by decide +kernel) (by decide +kernel) (by decide +kernel)
theorem threesReach {n : Nat} (h : 1 ≤ n ∧ n ≤ 5) : reachN (powL 3 n) 2 = (powI 3 n - 1) / 2 := by
  have e : ∀ (R : Nat), setB (powL 3 n) = true → okTo (fun j => decide (0 < wF true (powL 3 n) (powL 3 n).length ((j : Int) + 1))) R = true → wF true (powL 3 n) (powL 3 n).length ((R : Int) + 1) = 0 → (R : Int) = (powI 3 n - 1) / 2 → reachN (powL 3 n) 2 = (powI 3 n - 1) / 2 := fun R h1 h2 h3 h4 => by
    rw [reach_two h1 (reach_of h2 h3), h4]
  rcases (show n = 1 ∨ n = 2 ∨ n = 3 ∨ n = 4 ∨ n = 5 by omega) with rfl | rfl | rfl | rfl | rfl
  · exact e 1 (by decide +kernel) (by decide +kernel) (by decide +kernel) (by decide +kernel)
  · exact e 4 (by decide +kernel) (by decide +kernel) (by decide +kernel) (by decide +kernel)
  · exact e 13 (by decide +kernel) (by decide +kernel) (by decide +kernel) (by decide +kernel)
  · exact e 40 (by decide +kernel) (by decide +kernel) (by decide +kernel) (by decide +kernel)
  · exact e 121 (by decide +kernel) (by decide +kernel) (by decide +kernel) (by decide +kernel)
theorem pow_bd {n : Nat} (h : n ≤ 5) : 1 ≤ powI 2 n ∧ powI 2 n ≤ 32 ∧ 1 ≤ powI 3 n ∧ powI 3 n ≤ 243 := by
  rcases (show n = 0 ∨ n = 1 ∨ n = 2 ∨ n = 3 ∨ n = 4 ∨ n = 5 by omega) with rfl | rfl | rfl | rfl | rfl | rfl <;> decide
end Go.Proofs.Ytbndfohnkdhgeaa
