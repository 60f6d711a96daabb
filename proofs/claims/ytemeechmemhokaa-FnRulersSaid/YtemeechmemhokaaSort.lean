/- Contract of sort.Ints on a slice of the call's own. The library's proved summary, in the words of OI. -/
import Derived.Test.YtemeechmemhokaaShelf
import Derived.Test.YtemeechmemhokaaDif
import Derived.Sort.OwnSortedInts
namespace Go.Proofs.Ytemeechmemhokaa
open Go.RowKit

theorem sortOwn {w : World} {base : Nat} {v : Value} {xs : List Int} (h : OI w base v xs) (hn : xs.length ≤ 1099511627776) :
    Calls Try.prog 40 #[v] w fun e w' => e = .returned (.tuple #[]) ∧ OI w' base v (srt xs) ∧ w.grownBy w' v.ownBlock := by
  obtain ⟨h1, h2⟩ := h
  rcases h2 with ⟨rfl, h2⟩ | ⟨g, cap, cur, rfl, hg, hh, hc1, hc2, hc3, ht⟩
  · have hx : xs = [] := List.eq_nil_of_length_eq_zero h2
    subst hx
    exact (Try.sort_Ints_none none 0 w).mono fun e w' ⟨he, hw⟩ => by
      subst hw
      exact ⟨he, by rw [srt_eq (List.Perm.refl _) List.Pairwise.nil]; exact OI.nil _ _, World.grownBy.refl _ _⟩
  · rw [Nat.mul_one] at ht
    have hlt : g < w.heap.size := (Array.getElem?_eq_some_iff.1 hh).1
    exact (Try.sort_Ints g 0 cap xs w (holds_of_blockI hh ht) hlt (by omega)).mono fun e w' ⟨he, n, os, hw⟩ => by
      subst hw
      refine ⟨he, ?_, grownBy_sortedI _⟩
      have h3 := ownsRow_sortedI (n := n) (os := os) (srt_length xs) hg hh hc1 hc2 hc3
      unfold OI
      rw [srt_length]
      exact h3
end Go.Proofs.Ytemeechmemhokaa
