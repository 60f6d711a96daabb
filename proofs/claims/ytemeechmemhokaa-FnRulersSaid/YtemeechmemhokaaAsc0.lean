/- The words for a test of each place of a list. No conditions. -/
import Derived.Test.YtemeechmemhokaaInts
namespace Go.Proofs.Ytemeechmemhokaa
open Go.RowKit

/-- The test p holds at the places below k. -/
def okTo (p : Nat → Bool) : Nat → Bool
  | 0 => true
  | k + 1 => okTo p k && p k
theorem okTo_step {p : Nat → Bool} {k : Nat} (h : okTo p k = true) (hp : p k = true) : okTo p (k + 1) = true := by rw [okTo, h, hp]; rfl
theorem okTo_fail {p : Nat → Bool} {k n : Nat} (hk : k < n) (hp : p k = false) : okTo p n = false := by
  induction n with
  | zero => omega
  | succ n ih =>
    rw [okTo]
    by_cases e : k = n
    · rw [← e, hp, Bool.and_false]
    · rw [ih (by omega), Bool.false_and]
theorem okTo_iff {p : Nat → Bool} {n : Nat} : okTo p n = true ↔ ∀ k, k < n → p k = true := by
  induction n with
  | zero => exact ⟨fun _ k hk => absurd hk (by omega), fun _ => rfl⟩
  | succ n ih =>
    rw [okTo, Bool.and_eq_true, ih]
    constructor
    · intro h k hk
      by_cases e : k = n
      · rw [e]; exact h.2
      · exact h.1 k (by omega)
    · intro h
      exact ⟨fun k hk => h k (by omega), h n (by omega)⟩

end Go.Proofs.Ytemeechmemhokaa
