/- The plain words of sumWays: equal numbers, which stand together, are not told apart. No program in sight. -/
import Derived.Test.YtbndfohnkdhgeaaSumsMath
namespace Go.Proofs.Ytbndfohnkdhgeaa

def runLen (x : Int) : List Int → Nat
  | [] => 0
  | y :: ys => if y = x then runLen x ys + 1 else 0
/-- The ways, run by run; a fuel of the list's length is enough. -/
def swL : Nat → List Int → (Int → Int) → (Int → Int)
  | 0, _, f => f
  | _ + 1, [], f => f
  | n + 1, x :: ys, f => swL n (ys.drop (runLen x ys)) (conv (fun t => (t : Int)) (runLen x ys + 2) x f)
def sumF (xs : List Int) : Int → Int := swL xs.length xs (fun n => if n = 0 then 1 else 0)

structure IsRun (xs : List Int) (i k : Nat) : Prop where
  pos : 1 ≤ k
  le : i + k ≤ xs.length
  eq : ∀ t, t < k → xs.getD (i + t) 0 = xs.getD i 0
  stop : i + k = xs.length ∨ xs.getD (i + k) 0 ≠ xs.getD i 0
theorem run_of {xs : List Int} {x : Int} (r : Nat) : ∀ j, (∀ t, t < r → xs.getD (j + t) 0 = x) → j + r ≤ xs.length → (j + r = xs.length ∨ xs.getD (j + r) 0 ≠ x) → runLen x (xs.drop j) = r := by
  induction r with
  | zero =>
    intro j _ hl hs
    by_cases e : j < xs.length
    · rw [List.drop_eq_getElem_cons e, runLen, if_neg]
      rcases hs with hs | hs
      · omega
      · rw [Nat.add_zero, List.getD, List.getElem?_eq_getElem e] at hs; exact hs
    · rw [List.drop_eq_nil_of_le (by omega)]; rfl
  | succ r ih =>
    intro j h hl hs
    have e : j < xs.length := by omega
    have h0 := h 0 (by omega)
    rw [Nat.add_zero, List.getD, List.getElem?_eq_getElem e, Option.getD_some] at h0
    rw [List.drop_eq_getElem_cons e, runLen, if_pos h0, ih (j + 1) (fun t ht => by have := h (t + 1) (by omega); rw [show j + 1 + t = j + (t + 1) from by omega]; exact this) (by omega) (by rw [show j + 1 + r = j + (r + 1) from by omega]; exact hs)]
structure Val (xs : List Int) : Prop where
  len : xs.length ≤ 24
  each : ∀ x ∈ xs, 1 ≤ x ∧ x ≤ 1000
theorem preS_run {xs : List Int} {i : Nat} (k : Nat) (h : ∀ t, t < k → xs.getD (i + t) 0 = xs.getD i 0) : preS xs (i + k) = preS xs i + k * xs.getD i 0 := by
  induction k with
  | zero => simp
  | succ k ih =>
    rw [← Nat.add_assoc, preS, ih (fun t ht => h t (by omega)), h k (by omega)]
    have : ((k + 1 : Nat) : Int) * xs.getD i 0 = k * xs.getD i 0 + xs.getD i 0 := by rw [Int.natCast_succ, Int.add_mul, Int.one_mul]
    omega
def q1 (t : Nat) : Int := t

/-- i numbers have gone by, and f are the ways. -/
structure St (xs : List Int) (i : Nat) (f : Int → Int) : Prop where
  fin : ∃ n, xs.length ≤ i + n ∧ swL n (xs.drop i) f = sumF xs
  bd : ∀ n, 0 ≤ f n ∧ f n ≤ ((2 ^ i : Nat) : Int)
  sup : ∀ n, ¬ (0 ≤ n ∧ n ≤ preS xs i) → f n = 0
  one : f 0 = 1
theorem sumN_first {h : Nat → Int} (n : Nat) (e : ∀ t, 1 ≤ t → t < n + 1 → h t = 0) : sumN h (n + 1) = h 0 := by
  induction n with
  | zero => rw [sumN, sumN]; omega
  | succ n ih => rw [sumN, ih (fun t h1 h2 => e t h1 (by omega)), e (n + 1) (by omega) (by omega)]; omega
theorem St.zero (xs : List Int) : St xs 0 (fun n => if n = 0 then 1 else 0) where
  fin := ⟨xs.length, by omega, rfl⟩
  bd n := by
    show 0 ≤ (if n = 0 then (1 : Int) else 0) ∧ (if n = 0 then (1 : Int) else 0) ≤ ((2 ^ 0 : Nat) : Int)
    split <;> omega
  sup n h := by
    rw [preS] at h
    show (if n = 0 then (1 : Int) else 0) = 0
    rw [if_neg (by omega)]
  one := rfl
theorem pow_run (i k : Nat) : (k + 1) * 2 ^ i ≤ 2 ^ (i + k) := by
  rw [Nat.pow_add, Nat.mul_comm]
  exact Nat.mul_le_mul_left _ (Nat.lt_two_pow_self)
theorem mul_mono {t k : Nat} {x : Int} (h : t ≤ k) (hx : 1 ≤ x) : 0 ≤ (t : Int) * x ∧ (t : Int) * x ≤ k * x :=
  ⟨Int.mul_nonneg (by omega) (by omega), Int.mul_le_mul_of_nonneg_right (by omega) (by omega)⟩
theorem St.step {xs : List Int} {i k : Nat} {f : Int → Int} (h : St xs i f) (V : Val xs) (R : IsRun xs i k) : St xs (i + k) (conv q1 (k + 1) (xs.getD i 0) f) where
  fin := by
    obtain ⟨n, hn, hf⟩ := h.fin
    have hp := R.pos
    have hl := R.le
    have hi : i < xs.length := by omega
    obtain ⟨m, rfl⟩ : ∃ m, n = m + 1 := ⟨n - 1, by omega⟩
    have hr := run_of (xs := xs) (x := xs.getD i 0) (k - 1) (i + 1) (fun t ht => by have := R.eq (t + 1) (by omega); rw [show i + 1 + t = i + (t + 1) from by omega]; exact this) (by omega) (by rw [show i + 1 + (k - 1) = i + k from by omega]; exact R.stop)
    refine ⟨m, by omega, ?_⟩
    rw [← hf, List.drop_eq_getElem_cons hi, swL]
    have hx : xs[i] = xs.getD i 0 := by rw [List.getD, List.getElem?_eq_getElem hi]; rfl
    rw [hx, hr, List.drop_drop, show i + 1 + (k - 1) = i + k from by omega, show k - 1 + 2 = k + 1 from by omega]
    rfl
  bd n := by
    have h1 := conv_bd (q := q1) (m := k + 1) (w := xs.getD i 0) h.bd n
    have h2 : ((k + 1 : Nat) : Int) * ((2 ^ i : Nat) : Int) ≤ ((2 ^ (i + k) : Nat) : Int) := by rw [← Int.natCast_mul]; exact Int.ofNat_le.2 (pow_run i k)
    exact ⟨h1.1, Int.le_trans h1.2 h2⟩
  sup n hn := by
    have hp := R.pos
    have hl := R.le
    have hx := V.each _ (mem_getD (xs := xs) (k := i) (by omega) rfl)
    rw [preS_run k R.eq] at hn
    refine (sumN_congr fun t ht => ?_).trans (sumN_zero _)
    have hm := mul_mono (t := t) (k := k) (x := xs.getD i 0) (by omega) hx.1
    exact h.sup _ (by unfold q1; omega)
  one := by
    have hx := V.each _ (mem_getD (xs := xs) (k := i) (by have := R.pos; have := R.le; omega) rfl)
    refine (sumN_first k fun t h1 h2 => ?_).trans ?_
    · have hm := mul_mono (t := 1) (k := t) (x := xs.getD i 0) h1 hx.1
      exact h.sup _ (by unfold q1; omega)
    · show f (0 - q1 0 * xs.getD i 0) = 1
      rw [show q1 0 = 0 from rfl, Int.zero_mul]
      exact h.one
theorem St.done {xs : List Int} {f : Int → Int} (h : St xs xs.length f) : f = sumF xs := by
  obtain ⟨n, _, hf⟩ := h.fin
  rw [List.drop_length] at hf
  cases n
  · exact hf
  · exact hf
theorem sum_st {xs : List Int} (V : Val xs) : St xs xs.length (sumF xs) := by
  have key : ∀ d i f, xs.length - i = d → i ≤ xs.length → St xs i f → ∃ g, St xs xs.length g := by
    intro d
    induction d using Nat.strongRecOn with
    | _ d ih =>
      intro i f hd hi h
      by_cases e : i = xs.length
      · subst e; exact ⟨f, h⟩
      · have hr : ∃ k, IsRun xs i k := by
          have ex : ∀ c, ∃ k, 1 ≤ k ∧ i + k ≤ xs.length ∧ (∀ t, t < k → xs.getD (i + t) 0 = xs.getD i 0) ∧ (i + k = xs.length ∨ xs.getD (i + k) 0 ≠ xs.getD i 0 ∨ c ≤ k) := by
            intro c
            induction c with
            | zero => exact ⟨1, by omega, by omega, fun t ht => by rw [show t = 0 from by omega]; rfl, .inr (.inr (by omega))⟩
            | succ c ihc =>
              obtain ⟨k, h1, h2, h3, h4⟩ := ihc
              by_cases e1 : i + k = xs.length
              · exact ⟨k, h1, h2, h3, .inl e1⟩
              · by_cases e2 : xs.getD (i + k) 0 = xs.getD i 0
                · refine ⟨k + 1, by omega, by omega, fun t ht => ?_, .inr (.inr ?_)⟩
                  · by_cases e3 : t = k
                    · rw [e3]; exact e2
                    · exact h3 t (by omega)
                  · rcases h4 with h4 | h4 | h4
                    · omega
                    · exact absurd e2 h4
                    · omega
                · exact ⟨k, h1, h2, h3, .inr (.inl e2)⟩
          obtain ⟨k, h1, h2, h3, h4⟩ := ex (xs.length + 1)
          exact ⟨k, h1, h2, h3, by rcases h4 with h4 | h4 | h4; exact .inl h4; exact .inr h4; omega⟩
        obtain ⟨k, R⟩ := hr
        have := R.pos
        have := R.le
        exact ih (xs.length - (i + k)) (by omega) (i + k) _ rfl (by omega) (h.step V R)
  obtain ⟨g, hg⟩ := key _ 0 _ rfl (by omega) (St.zero xs)
  rw [← hg.done]
  exact hg
end Go.Proofs.Ytbndfohnkdhgeaa
