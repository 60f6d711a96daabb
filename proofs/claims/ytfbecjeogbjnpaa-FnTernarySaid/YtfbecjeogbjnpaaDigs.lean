/- The plain law of the balanced ternary digits: no program in sight. -/
import Derived.Test.YtfbecjeogbjnpaaLists
namespace Go.Proofs.Ytfbecjeogbjnpaa

/-- The lowest balanced digit of n, and what is left. -/
def dig (n : Int) : Int := (n + 1) % 3 - 1
def nxt (n : Int) : Int := (n - dig n) / 3
theorem dig_bd (n : Int) : -1 ≤ dig n ∧ dig n ≤ 1 := by unfold dig; omega
theorem nxt_eq (n : Int) : n = 3 * nxt n + dig n := by unfold nxt dig; omega
theorem nxt_lt (n : Int) (h : n ≠ 0) : (nxt n).natAbs < n.natAbs := by unfold nxt dig; omega
theorem nxt_bd (n : Int) (B : Int) (h : -B ≤ n ∧ n ≤ B) : -B ≤ nxt n ∧ nxt n ≤ B := by
  have := nxt_eq n; have := dig_bd n; omega
theorem tmod3 (a : Int) : -2 ≤ a.tmod 3 ∧ a.tmod 3 ≤ 2 := by rw [Int.tmod_eq_emod]; split <;> omega
theorem dig_impl (n : Int) : ((n + 1).tmod 3 + 3) % 3 = dig n + 1 := by rw [Int.tmod_eq_emod]; unfold dig; split <;> omega
theorem dig_spec (n : Int) : (n.tmod 3 + 4) % 3 = dig n + 1 := by rw [Int.tmod_eq_emod]; unfold dig; split <;> omega
theorem nxt_tdiv (n : Int) : (n - dig n).tdiv 3 = nxt n := by
  have h := nxt_eq n
  rw [show n - dig n = 3 * nxt n from by omega, Int.mul_tdiv_cancel_left _ (by decide)]

def digF : Nat → Int → List Int
  | 0, _ => []
  | f + 1, n => if n = 0 then [] else dig n :: digF f (nxt n)
theorem digF_zero (f : Nat) : digF f 0 = [] := by cases f <;> rfl
theorem digF_step (f : Nat) (n : Int) (h : n ≠ 0) : digF (f + 1) n = dig n :: digF f (nxt n) := by rw [digF, if_neg h]
theorem digF_more (f : Nat) : ∀ (g : Nat) (n : Int), n.natAbs ≤ f → n.natAbs ≤ g → digF f n = digF g n := by
  induction f with
  | zero => intro g n h1 _; rw [show n = 0 from by omega, digF_zero, digF_zero]
  | succ f ih =>
    intro g n h1 h2
    by_cases h : n = 0
    · rw [h, digF_zero, digF_zero]
    · cases g with
      | zero => exact absurd h2 (by omega)
      | succ g =>
        have hl := nxt_lt n h
        rw [digF_step f n h, digF_step g n h, ih g (nxt n) (by omega) (by omega)]

/-- The digits of n, the lowest first. -/
def digs (n : Int) : List Int := digF n.natAbs n
theorem digs_zero : digs 0 = [] := rfl
theorem digs_step (n : Int) (h : n ≠ 0) : digs n = dig n :: digs (nxt n) := by
  have hl := nxt_lt n h
  unfold digs
  rw [digF_more n.natAbs (n.natAbs - 1 + 1) n (Nat.le_refl _) (by omega), digF_step _ n h, digF_more (n.natAbs - 1) (nxt n).natAbs (nxt n) (by omega) (Nat.le_refl _)]
theorem digs_len (n : Int) : (digs n).length ≤ n.natAbs := by
  have h : ∀ f (m : Int), (digF f m).length ≤ f := by
    intro f
    induction f with
    | zero => intro m; exact Nat.le_refl _
    | succ f ih => intro m; rw [digF]; split <;> simp; exact ih _
  exact h _ _

/-- The digits that DigitsOf gives: none outside the range. -/
def digsC (n : Int) : List Int := if -29524 ≤ n ∧ n ≤ 29524 then digs n else []
theorem digsC_in {n : Int} (h : -29524 ≤ n ∧ n ≤ 29524) : digsC n = digs n := if_pos h
theorem digsC_out {n : Int} (h : ¬ (-29524 ≤ n ∧ n ≤ 29524)) : digsC n = [] := if_neg h
theorem digsC_len (n : Int) : (digsC n).length ≤ 29524 := by
  unfold digsC; split
  · have := digs_len n; omega
  · exact Nat.zero_le _

/-- What the loop has done so far, and what is left. -/
def digRel (n m : Int) (done : List Int) : Prop := done ++ digs m = digs n
theorem digRel.start (n : Int) : digRel n n [] := rfl
theorem digRel.step {n m : Int} {done : List Int} (h : digRel n m done) (hm : m ≠ 0) : digRel n (nxt m) (done ++ [dig m]) := by
  unfold digRel at h ⊢
  rw [← h, digs_step m hm]; simp
theorem digRel.done {n : Int} {done : List Int} (h : digRel n 0 done) : done = digs n := by
  unfold digRel at h; rw [digs_zero, List.append_nil] at h; exact h
theorem digRel.len {n m : Int} {done : List Int} (h : digRel n m done) : done.length ≤ n.natAbs := by
  have h2 : (done ++ digs m).length = (digs n).length := by rw [h]
  have := digs_len n
  rw [List.length_append] at h2; omega

theorem odd3 (f : Nat) : 3 ^ f % 2 = 1 := by
  induction f with
  | zero => rfl
  | succ f ih => rw [Nat.pow_succ]; omega
theorem digs_len_lt (f : Nat) : ∀ n : Int, 2 * n.natAbs < 3 ^ f → (digs n).length ≤ f := by
  induction f with
  | zero => intro n h; rw [show n = 0 from by omega]; exact Nat.le_refl _
  | succ f ih =>
    intro n h
    by_cases hz : n = 0
    · rw [hz]; exact Nat.zero_le _
    · have h1 := nxt_eq n
      have h2 := dig_bd n
      have h3 := odd3 f
      rw [Nat.pow_succ] at h
      rw [digs_step n hz, List.length_cons]
      have := ih (nxt n) (by omega)
      omega
theorem digs_len10 {n : Int} (h : -29524 ≤ n ∧ n ≤ 29524) : (digs n).length ≤ 10 := digs_len_lt 10 n (by have h3 : 3 ^ 10 = 59049 := (by decide); omega)
theorem digs_pos {n : Int} (h : n ≠ 0) : 1 ≤ (digs n).length := by rw [digs_step n h]; simp

/-- The powers of 3. -/
def pw (k : Nat) : Int := 3 ^ k
theorem pw_zero : pw 0 = 1 := rfl
theorem pw_succ (k : Nat) : pw (k + 1) = 3 * pw k := by rw [pw, Int.pow_succ, Int.mul_comm]; rfl
theorem pw_bd (k : Nat) (h : k ≤ 10) : 1 ≤ pw k ∧ pw k ≤ 59049 := by
  have h1 : (3 : Nat) ^ k ≤ 3 ^ 10 := Nat.pow_le_pow_right (by decide) h
  have h2 : 1 ≤ (3 : Nat) ^ k := Nat.one_le_pow _ _ (by decide)
  have e : pw k = ((3 ^ k : Nat) : Int) := by rw [pw]; simp
  have : (3 : Nat) ^ 10 = 59049 := by decide
  omega

/-- The powers at the places where the digit is t, among the first k. -/
def pansTo (t : Int) (ds : List Int) : Nat → List Int
  | 0 => []
  | k + 1 => pansTo t ds k ++ if ds.getD k 0 = t then [pw k] else []
theorem pansTo_hit {t x : Int} {ds : List Int} {k : Nat} (hx : x = ds.getD k 0) (h : x = t) : pansTo t ds (k + 1) = pansTo t ds k ++ [pw k] := by rw [pansTo, ← hx, if_pos h]
theorem pansTo_miss {t x : Int} {ds : List Int} {k : Nat} (hx : x = ds.getD k 0) (h : ¬ x = t) : pansTo t ds (k + 1) = pansTo t ds k := by rw [pansTo, ← hx, if_neg h, List.append_nil]
theorem pansTo_len (t : Int) (ds : List Int) (k : Nat) : (pansTo t ds k).length ≤ k := by
  induction k with
  | zero => exact Nat.le_refl _
  | succ k ih => rw [pansTo, List.length_append]; split <;> simp <;> omega

def pansL (t n : Int) : List Int := if 1 ≤ n ∧ n ≤ 29524 then pansTo t (digs n) (digs n).length else []
def pansB (n : Int) : Bool := decide (1 ≤ n) && decide (n ≤ 29524)
theorem pansL_in {t n : Int} (h : 1 ≤ n ∧ n ≤ 29524) : pansL t n = pansTo t (digs n) (digs n).length := if_pos h
theorem pansL_out {t n : Int} (h : ¬ (1 ≤ n ∧ n ≤ 29524)) : pansL t n = [] := if_neg h
theorem pansB_in {n : Int} (h : 1 ≤ n ∧ n ≤ 29524) : pansB n = true := by simp [pansB, h.1, h.2]
theorem pansB_out {n : Int} (h : ¬ (1 ≤ n ∧ n ≤ 29524)) : pansB n = false := by simp [pansB]; omega
theorem pans_len (t n : Int) : (pansL t n).length ≤ 10 := by
  unfold pansL; split
  · exact Nat.le_trans (pansTo_len _ _ _) (digs_len10 (by omega))
  · exact Nat.zero_le _
end Go.Proofs.Ytfbecjeogbjnpaa
