/- The words and plain laws for RulerOk and SystemOk. No conditions. -/
import Derived.Test.YtemeechmemhokaaAsc
namespace Go.Proofs.Ytemeechmemhokaa
open Go.RowKit

/-- The reference's test of place k: in the range, and greater than the one ahead. -/
def rngP (lo hi : Int) (xs : List Int) (k : Nat) : Bool := inB (xs.getD k 0) lo hi && ascP xs k
def headB (xs : List Int) (t : Int) : Bool := decide (xs.getD 0 0 = t)
def rulerB (xs : List Int) : Bool := inB xs.length 1 8 && (headB xs 0 && (ascB xs && decide (xs.getD (xs.length - 1) 0 ≤ 60)))
def rulerS (xs : List Int) : Bool := okTo (rngP 0 60 xs) xs.length && (inB xs.length 1 8 && headB xs 0)

theorem asc_mono {xs : List Int} (h : ascB xs = true) : ∀ j i, i ≤ j → j < xs.length → xs.getD i 0 ≤ xs.getD j 0 := by
  intro j
  induction j with
  | zero => intro i hi _; rw [show i = 0 from by omega]; exact Int.le_refl _
  | succ j ih =>
    intro i hi hj
    by_cases e : i = j + 1
    · rw [e]; exact Int.le_refl _
    · have h1 := ih i (by omega) (by omega)
      have h2 := okTo_iff.1 h (j + 1) hj
      simp only [ascP, Nat.add_sub_cancel, decide_eq_false (show ¬ j + 1 = 0 from by omega), Bool.false_or, decide_eq_true_eq] at h2
      omega
/-- The two ways to say it are one: of a list that begins at lo, in ascending order, the range is the last one's. -/
theorem rng_same {xs : List Int} {lo hi : Int} (hn : 0 < xs.length) (h0 : xs.getD 0 0 = lo) : okTo (rngP lo hi xs) xs.length = (ascB xs && decide (xs.getD (xs.length - 1) 0 ≤ hi)) := by
  rw [Bool.eq_iff_iff, okTo_iff, Bool.and_eq_true, decide_eq_true_eq]
  constructor
  · intro h
    have ha : ascB xs = true := okTo_iff.2 fun k hk => ((Bool.and_eq_true _ _).mp (h k hk)).2
    have hl := (inB_iff.1 ((Bool.and_eq_true _ _).mp (h (xs.length - 1) (by omega))).1).2
    exact ⟨ha, hl⟩
  · intro ⟨ha, hl⟩ k hk
    rw [rngP, Bool.and_eq_true]
    have h1 := asc_mono ha k 0 (by omega) hk
    have h2 := asc_mono ha (xs.length - 1) k (by omega) (by omega)
    exact ⟨inB_iff.2 (by omega), okTo_iff.1 ha k hk⟩
theorem rulerS_eq (xs : List Int) : rulerS xs = rulerB xs := by
  unfold rulerS rulerB
  cases h1 : inB xs.length 1 8
  · simp
  · cases h2 : headB xs 0
    · simp
    · rw [rng_same (by have := inB_iff.1 h1; omega) (of_decide_eq_true h2)]; simp

end Go.Proofs.Ytemeechmemhokaa
