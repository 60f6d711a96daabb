/- Contract of impl.copyInts. No conditions but a bound on the length. -/
import Derived.Test.YtemeechmemhokaaAppAll
namespace Go.Proofs.Ytemeechmemhokaa
open Go.RowKit

theorem implCopy {w : World} {base : Nat} {v : Value} {xs : List Int} (h : OI w base v xs) (hn : xs.length ≤ 1000000000) : Calls Try.prog 41 #[v] w (RetOI w xs) := by
  by_cases hx : xs = []
  · subst hx
    obtain ⟨h1, h2⟩ := h
    rcases h2 with ⟨rfl, _⟩ | ⟨g, cap, cur, rfl, hg, hh, hc1, hc2, _, _⟩
    · go_enter Try.func41, Try.ntmps41
      go_wp2
      go_ret
      exact ⟨_, rfl, OI.nil _ _, Below.refl _ _⟩
    · go_enter Try.func41, Try.ntmps41
      go_wp2
      go_ret
      exact ⟨_, rfl, OI.nil _ _, Below.refl _ _⟩
  · have hp : 0 < xs.length := List.length_pos_iff.2 hx
    go_enter Try.func41, Try.ntmps41
    go_wp2_with (first | (at_builtin; refine app_ints rfl _ _ rfl rfl (OI.nil w w.heap.size) rfl h hp (Nat.le_refl _) (by simp) (by omega) ?_; intro v' w' ho hg hl) | fail)
    rw [List.nil_append] at ho
    go_wp2
    go_ret
    exact ⟨_, rfl, ho, (Below.refl _ _).grown hg (Nat.le_refl _) (fun _ e => by cases e)⟩
end Go.Proofs.Ytemeechmemhokaa
