/- Plain lemmas on lists of integers, for the relations of the loops. -/
import Derived.Test.YthonlkconobdfaaDoorPre
namespace Go.Proofs.YthonlkconobdfaaDoor

theorem take_succ_getD (xs : List Int) (k : Nat) (h : k < xs.length) : xs.take (k + 1) = xs.take k ++ [xs.getD k 0] := by
  rw [List.take_succ_eq_append_getElem h, List.getD, List.getElem?_eq_getElem h]; rfl

theorem all_start (xs : List Int) (p : Int → Bool) : (xs.take 0).all p = true := rfl
theorem all_step {xs : List Int} {p : Int → Bool} {k : Nat} (hk : k < xs.length) (h : (xs.take k).all p = true) (hp : p (xs.getD k 0) = true) : (xs.take (k + 1)).all p = true := by
  rw [take_succ_getD xs k hk, List.all_append, h, List.all_cons, hp]; rfl
theorem all_fail {xs : List Int} {p : Int → Bool} {k : Nat} (hk : k < xs.length) (hp : p (xs.getD k 0) = false) : xs.all p = false := by
  rw [List.all_eq_false]
  refine ⟨xs[k], List.getElem_mem hk, ?_⟩
  rw [List.getD, List.getElem?_eq_getElem hk] at hp
  simpa using hp
theorem all_done {xs : List Int} {p : Int → Bool} {k : Nat} (hk : xs.length ≤ k) (h : (xs.take k).all p = true) : xs.all p = true := by
  rwa [List.take_of_length_le hk] at h
end Go.Proofs.YthonlkconobdfaaDoor
