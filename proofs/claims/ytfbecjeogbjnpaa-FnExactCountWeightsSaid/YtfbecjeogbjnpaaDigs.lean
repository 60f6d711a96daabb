/- The plain law of the balanced ternary digits: no program in sight. -/
import Derived.Test.YtfbecjeogbjnpaaLists
namespace Go.Proofs.Ytfbecjeogbjnpaa

/-- The lowest balanced digit of n, and what is left. -/
def dig (n : Int) : Int := (n + 1) % 3 - 1
def nxt (n : Int) : Int := (n - dig n) / 3
theorem dig_bd (n : Int) : -1 ≤ dig n ∧ dig n ≤ 1 := by unfold dig; omega
theorem nxt_eq (n : Int) : n = 3 * nxt n + dig n := by unfold nxt dig; omega
theorem nxt_lt (n : Int) (h : n ≠ 0) : (nxt n).natAbs < n.natAbs := by unfold nxt dig; omega
theorem nxt_bd (n : Int) (B : Int) (h : -B ≤ n ∧ n ≤ B) : -B ≤ nxt n ∧ nxt n ≤ B := by
  have := nxt_eq n; have := dig_bd n; omega
theorem tmod3 (a : Int) : -2 ≤ a.tmod 3 ∧ a.tmod 3 ≤ 2 := by rw [Int.tmod_eq_emod]; split <;> omega
theorem dig_impl (n : Int) : ((n + 1).tmod 3 + 3) % 3 = dig n + 1 := by rw [Int.tmod_eq_emod]; unfold dig; split <;> omega
theorem dig_spec (n : Int) : (n.tmod 3 + 4) % 3 = dig n + 1 := by rw [Int.tmod_eq_emod]; unfold dig; split <;> omega
theorem nxt_tdiv (n : Int) : (n - dig n).tdiv 3 = nxt n := by
  have h := nxt_eq n
  rw [show n - dig n = 3 * nxt n from by omega, Int.mul_tdiv_cancel_left _ (by decide)]

def digF : Nat → Int → List Int
  | 0, _ => []
  | f + 1, n => if n = 0 then [] else dig n :: digF f (nxt n)
theorem digF_zero (f : Nat) : digF f 0 = [] := by cases f <;> rfl
theorem digF_step (f : Nat) (n : Int) (h : n ≠ 0) : digF (f + 1) n = dig n :: digF f (nxt n) := by rw [digF, if_neg h]
theorem digF_more (f : Nat) : ∀ (g : Nat) (n : Int), n.natAbs ≤ f → n.natAbs ≤ g → digF f n = digF g n := by
  induction f with
  | zero => intro g n h1 _; rw [show n = 0 from by omega, digF_zero, digF_zero]
  | succ f ih =>
    intro g n h1 h2
    by_cases h : n = 0
    · rw [h, digF_zero, digF_zero]
    · cases g with
      | zero => exact absurd h2 (by omega)
      | succ g =>
        have hl := nxt_lt n h
        rw [digF_step f n h, digF_step g n h, ih g (nxt n) (by omega) (by omega)]

/-- The digits of n, the lowest first. -/
def digs (n : Int) : List Int := digF n.natAbs n
theorem digs_zero : digs 0 = [] := rfl
theorem digs_step (n : Int) (h : n ≠ 0) : digs n = dig n :: digs (nxt n) := by
  have hl := nxt_lt n h
  unfold digs
  rw [digF_more n.natAbs (n.natAbs - 1 + 1) n (Nat.le_refl _) (by omega), digF_step _ n h, digF_more (n.natAbs - 1) (nxt n).natAbs (nxt n) (by omega) (Nat.le_refl _)]
theorem digs_len (n : Int) : (digs n).length ≤ n.natAbs := by
  have h : ∀ f (m : Int), (digF f m).length ≤ f := by
    intro f
    induction f with
    | zero => intro m; exact Nat.le_refl _
    | succ f ih => intro m; rw [digF]; split <;> simp; exact ih _
  exact h _ _

/-- The digits that DigitsOf gives: none outside the range. -/
def digsC (n : Int) : List Int := if -29524 ≤ n ∧ n ≤ 29524 then digs n else []
theorem digsC_in {n : Int} (h : -29524 ≤ n ∧ n ≤ 29524) : digsC n = digs n := if_pos h
theorem digsC_out {n : Int} (h : ¬ (-29524 ≤ n ∧ n ≤ 29524)) : digsC n = [] := if_neg h
theorem digsC_len (n : Int) : (digsC n).length ≤ 29524 := by
  unfold digsC; split
  · have := digs_len n; omega
  · exact Nat.zero_le _

/-- What the loop has done so far, and what is left. -/
def digRel (n m : Int) (done : List Int) : Prop := done ++ digs m = digs n
theorem digRel.start (n : Int) : digRel n n [] := rfl
theorem digRel.step {n m : Int} {done : List Int} (h : digRel n m done) (hm : m ≠ 0) : digRel n (nxt m) (done ++ [dig m]) := by
  unfold digRel at h ⊢
  rw [← h, digs_step m hm]; simp
theorem digRel.done {n : Int} {done : List Int} (h : digRel n 0 done) : done = digs n := by
  unfold digRel at h; rw [digs_zero, List.append_nil] at h; exact h
theorem digRel.len {n m : Int} {done : List Int} (h : digRel n m done) : done.length ≤ n.natAbs := by
  have h2 : (done ++ digs m).length = (digs n).length := by rw [h]
  have := digs_len n
  rw [List.length_append] at h2; omega
end Go.Proofs.Ytfbecjeogbjnpaa
