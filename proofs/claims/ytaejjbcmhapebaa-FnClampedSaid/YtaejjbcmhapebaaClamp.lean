/- Contracts of impl.Clamp and spec.Clamp: both return the clamped number, for all arguments. No conditions. -/
import Derived.Test.YtaejjbcmhapebaaRows
import Derived.Test.YtaejjbcmhapebaaPre
namespace Go.Proofs.Ytaejjbcmhapebaa
open Go.RowKit

def clampI (n a b : Int) : Int := if b < a ∨ n < a then a else if b < n then b else n

theorem clampI_a {n a b : Int} (h : b < a ∨ n < a) : clampI n a b = a := if_pos h
theorem clampI_b {n a b : Int} (h : ¬ (b < a ∨ n < a)) (h2 : b < n) : clampI n a b = b := by rw [clampI, if_neg h, if_pos h2]
theorem clampI_n {n a b : Int} (h : ¬ (b < a ∨ n < a)) (h2 : ¬ b < n) : clampI n a b = n := by rw [clampI, if_neg h, if_neg h2]

theorem implClamp (n a b : Int) (w : World) :
    Calls Try.prog 10 #[.int .i64 n, .int .i64 a, .int .i64 b] w fun e w' => e = .returned (.int .i64 (clampI n a b)) ∧ w = w' := by
  by_cases h1 : b < a
  · rw [clampI_a (.inl h1)]
    go_enter Try.func10, Try.ntmps10
    go_wp2
    go_ret
    exact ⟨rfl, rfl⟩
  · by_cases h2 : n < a
    · rw [clampI_a (.inr h2)]
      go_enter Try.func10, Try.ntmps10
      go_wp2
      go_ret
      exact ⟨rfl, rfl⟩
    · by_cases h3 : b < n
      · rw [clampI_b (by omega) h3]
        go_enter Try.func10, Try.ntmps10
        go_wp2
        go_ret
        exact ⟨rfl, rfl⟩
      · rw [clampI_n (by omega) h3]
        go_enter Try.func10, Try.ntmps10
        go_wp2
        go_ret
        exact ⟨rfl, rfl⟩

theorem specClamp (n a b : Int) (w : World) :
    Calls Try.prog 9 #[.int .i64 n, .int .i64 a, .int .i64 b] w fun e w' => e = .returned (.int .i64 (clampI n a b)) ∧ w = w' := by
  by_cases h1 : b < a
  · rw [clampI_a (.inl h1)]
    go_enter Try.func9, Try.ntmps9
    go_wp2
    go_ret
    exact ⟨rfl, rfl⟩
  · by_cases h2 : n < a
    · rw [clampI_a (.inr h2)]
      go_enter Try.func9, Try.ntmps9
      go_wp2
      go_ret
      exact ⟨rfl, rfl⟩
    · by_cases h3 : b < n
      · rw [clampI_b (by omega) h3]
        go_enter Try.func9, Try.ntmps9
        go_wp2
        go_ret
        exact ⟨rfl, rfl⟩
      · rw [clampI_n (by omega) h3]
        go_enter Try.func9, Try.ntmps9
        go_wp2
        go_ret
        exact ⟨rfl, rfl⟩

theorem walkClamp (n a b : Int) (w : World) (_ : -9223372036854775808 ≤ n ∧ n ≤ 9223372036854775807) (_ : -9223372036854775808 ≤ a ∧ a ≤ 9223372036854775807) (_ : -9223372036854775808 ≤ b ∧ b ≤ 9223372036854775807) :
    Calls Try.prog 4 #[.int .i64 n, .int .i64 a, .int .i64 b] w fun e w' => e = .returned (.bool true) ∧ Below w.heap.size w w' := by
  go_enter Try.func4, Try.ntmps4
  go_wp2_with (first | (go_at_call 9; refine (specClamp _ _ _ _).mono ?_; rintro e w' ⟨rfl, rfl⟩) | (go_at_call 10; refine (implClamp _ _ _ _).mono ?_; rintro e w' ⟨rfl, rfl⟩))
  go_ret
  exact ⟨rfl, Below.refl _ _⟩
end Go.Proofs.Ytaejjbcmhapebaa
