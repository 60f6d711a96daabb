/- The plain law of FnTernary: the digits of n are worth n, the pans balance, no power lies in both pans. -/
import Derived.Test.YtfbecjeogbjnpaaVal
import Derived.Test.YtfbecjeogbjnpaaPans
namespace Go.Proofs.Ytfbecjeogbjnpaa

def vTo (ds : List Int) : Nat → Int
  | 0 => 0
  | k + 1 => vTo ds k + ds.getD k 0 * pw k
theorem valR_split (ds : List Int) (k : Nat) (hk : k ≤ ds.length) : valR ds = vTo ds k + pw k * valR (ds.drop k) := by
  induction k with
  | zero => rw [vTo, pw_zero, List.drop_zero]; omega
  | succ k ih =>
    rw [ih (by omega), valR_drop (k := k) (by omega) rfl, vTo, pw_succ, Int.mul_add]
    have e1 : pw k * (3 * valR (ds.drop (k + 1))) = 3 * pw k * valR (ds.drop (k + 1)) := by rw [← Int.mul_assoc, Int.mul_comm (pw k) 3]
    have e2 : pw k * ds.getD k 0 = ds.getD k 0 * pw k := Int.mul_comm _ _
    omega
theorem valR_vTo (ds : List Int) : valR ds = vTo ds ds.length := by
  have h := valR_split ds ds.length (Nat.le_refl _)
  rw [valR_end (Nat.le_refl _), Int.mul_zero] at h
  omega
theorem valR_digF (f : Nat) : ∀ n : Int, n.natAbs ≤ f → valR (digF f n) = n := by
  induction f with
  | zero => intro n h; rw [show n = 0 from by omega]; rfl
  | succ f ih =>
    intro n h
    by_cases hz : n = 0
    · rw [hz, digF_zero]; rfl
    · have h1 := nxt_lt n hz
      have h2 := nxt_eq n
      rw [digF_step f n hz]
      show 3 * valR (digF f (nxt n)) + dig n = n
      rw [ih (nxt n) (by omega)]
      omega
theorem valR_digs (n : Int) : valR (digs n) = n := valR_digF _ n (Nat.le_refl _)

/-- The sum of the first k. -/
def sumTo (xs : List Int) : Nat → Int
  | 0 => 0
  | k + 1 => sumTo xs k + xs.getD k 0
theorem sumTo_append (xs ys : List Int) (k : Nat) (hk : k ≤ xs.length) : sumTo (xs ++ ys) k = sumTo xs k := by
  induction k with
  | zero => rfl
  | succ k ih => rw [sumTo, sumTo, ih (by omega), List.getD, List.getD, List.getElem?_append_left (by omega)]
theorem sumAll_snoc (xs : List Int) (y : Int) : sumTo (xs ++ [y]) (xs ++ [y]).length = sumTo xs xs.length + y := by
  rw [List.length_append, List.length_singleton, sumTo, sumTo_append xs [y] _ (Nat.le_refl _)]
  simp [List.getD]
theorem pans_sum (ds : List Int) (h : ∀ y ∈ ds, -1 ≤ y ∧ y ≤ 1) (k : Nat) (hk : k ≤ ds.length) :
    vTo ds k = sumTo (pansTo 1 ds k) (pansTo 1 ds k).length - sumTo (pansTo (-1) ds k) (pansTo (-1) ds k).length := by
  induction k with
  | zero => rfl
  | succ k ih =>
    have h1 := ih (by omega)
    have h2 := h (ds.getD k 0) (by rw [List.getD, List.getElem?_eq_getElem (by omega)]; exact List.getElem_mem _)
    have h3 : ds.getD k 0 = -1 ∨ ds.getD k 0 = 0 ∨ ds.getD k 0 = 1 := by omega
    rcases h3 with e | e | e
    · rw [vTo, pansTo_hit (t := -1) (x := -1) e.symm rfl, pansTo_miss (t := 1) (x := -1) e.symm (by decide), sumAll_snoc, e]; omega
    · rw [vTo, pansTo_miss (t := -1) (x := 0) e.symm (by decide), pansTo_miss (t := 1) (x := 0) e.symm (by decide), e]; omega
    · rw [vTo, pansTo_miss (t := -1) (x := 1) e.symm (by decide), pansTo_hit (t := 1) (x := 1) e.symm rfl, sumAll_snoc, e]; omega

theorem pansTo_mem {t q : Int} {ds : List Int} {k : Nat} (h : q ∈ pansTo t ds k) : ∃ i, i < k ∧ ds.getD i 0 = t ∧ q = pw i := by
  induction k with
  | zero => cases h
  | succ k ih =>
    rw [pansTo, List.mem_append] at h
    rcases h with h | h
    · obtain ⟨i, h1, h2⟩ := ih h
      exact ⟨i, by omega, h2⟩
    · split at h
      · rename_i e
        exact ⟨k, by omega, e, by simpa using h⟩
      · cases h
theorem pw_lt (i d : Nat) : pw i < pw (i + d + 1) := by
  induction d with
  | zero => rw [Nat.add_zero, pw_succ]; have : 0 < pw i := Int.pow_pos (by decide); omega
  | succ d ih => rw [show i + (d + 1) + 1 = (i + d + 1) + 1 from by omega, pw_succ]; have : 0 < pw (i + d + 1) := Int.pow_pos (by decide); omega
theorem pw_inj {i j : Nat} (h : pw i = pw j) : i = j := by
  rcases Nat.lt_trichotomy i j with h1 | h1 | h1
  · have := pw_lt i (j - i - 1)
    rw [show i + (j - i - 1) + 1 = j from by omega] at this
    omega
  · exact h1
  · have := pw_lt j (i - j - 1)
    rw [show j + (i - j - 1) + 1 = i from by omega] at this
    omega
theorem pans_disjoint {ds : List Int} {q : Int} {k : Nat} (h : q ∈ pansTo 1 ds k) : ¬ q ∈ pansTo (-1) ds k := by
  intro h2
  obtain ⟨i, _, e1, e2⟩ := pansTo_mem h
  obtain ⟨j, _, e3, e4⟩ := pansTo_mem h2
  have := pw_inj (e2.symm.trans e4)
  subst this
  omega
theorem pansTo_cnt (t : Int) (ds : List Int) (k : Nat) (hk : k ≤ ds.length) : (pansTo t ds k).length = cnt t (ds.take k) := by
  induction k with
  | zero => rfl
  | succ k ih =>
    by_cases e : ds.getD k 0 = t
    · rw [pansTo_hit rfl e, cnt_hit (by omega) rfl e, List.length_append, ih (by omega)]; rfl
    · rw [pansTo_miss rfl e, cnt_miss (by omega) rfl e, ih (by omega)]
theorem last_one (f : Nat) : ∀ n : Int, 0 < n → n.natAbs ≤ f → (digF f n).getD ((digF f n).length - 1) 0 = 1 := by
  induction f with
  | zero => intro n h1 h2; omega
  | succ f ih =>
    intro n h1 h2
    have hz : n ≠ 0 := by omega
    have h3 := nxt_lt n hz
    have h4 := nxt_eq n
    have h5 := dig_bd n
    rw [digF_step f n hz, List.length_cons, Nat.add_sub_cancel]
    by_cases e : nxt n = 0
    · rw [e, digF_zero]
      show dig n = 1
      omega
    · have h6 := ih (nxt n) (by omega) (by omega)
      cases f with
      | zero => omega
      | succ f =>
        rw [digF_step f (nxt n) e] at h6 ⊢
        exact h6
theorem digs_last {n : Int} (h : 0 < n) : (digs n).getD ((digs n).length - 1) 0 = 1 := last_one _ n h (Nat.le_refl _)

theorem dig_neg (n : Int) : dig (-n) = -dig n := by unfold dig; omega
theorem nxt_neg (n : Int) : nxt (-n) = -nxt n := by have h1 := nxt_eq n; have h2 := nxt_eq (-n); rw [dig_neg] at h2; omega
theorem digF_neg (f : Nat) : ∀ n : Int, digF f (-n) = negs (digF f n) := by
  induction f with
  | zero => intro n; rfl
  | succ f ih =>
    intro n
    by_cases hz : n = 0
    · rw [hz]; show digF (f + 1) 0 = _; rw [digF_zero]; rfl
    · rw [digF_step f n hz, digF_step f (-n) (by omega), dig_neg, nxt_neg, ih]; rfl
theorem digs_neg (n : Int) : digs (-n) = negs (digs n) := by unfold digs; rw [Int.natAbs_neg, digF_neg]
theorem valR_negs (ds : List Int) : valR (negs ds) = -valR ds := by
  induction ds with
  | nil => rfl
  | cons d ds ih =>
    show 3 * valR (negs ds) + -d = -(3 * valR ds + d)
    rw [ih]; omega
theorem sides_digs (n : Int) : sidesB (digs n) = true := List.all_eq_true.2 fun y hy => inB_iff.2 (digF_sides _ _ y hy)
theorem sides_negs {ds : List Int} (h : sidesB ds = true) : sidesB (negs ds) = true := by
  refine List.all_eq_true.2 fun y hy => ?_
  obtain ⟨x, hx, rfl⟩ := List.mem_map.1 hy
  have := inB_iff.1 (List.all_eq_true.1 h x hx)
  exact inB_iff.2 (by omega)

/-- All that the law asks of a number in the range. -/
structure TernFacts (n : Int) : Prop where
  dc : digsC n = digs n
  len : (digs n).length ≤ 10
  pos : 1 ≤ (digs n).length
  last : (digs n).getD ((digs n).length - 1) 0 = 1
  sum : n + sumTo (pansL (-1) n) (pansL (-1) n).length - sumTo (pansL 1 n) (pansL 1 n).length = 0
  dis : ∀ q, q ∈ pansL 1 n → decide (q ∈ pansL (-1) n) = false
  val : valC (digs n) = n
  nval : valC (negD (digs n)) = -n
  ndig : digsC (-n) = negD (digs n)
  cw : ((nzc (digsC n) : Nat) : Int) = ((pansL (-1) n).length : Int) + ((pansL 1 n).length : Int)

theorem ternFacts {n : Int} (h : 1 ≤ n ∧ n ≤ 29524) : TernFacts n := by
  have hl := digs_len10 (n := n) (by omega)
  have hs := sides_digs n
  have hnd : negD (digs n) = negs (digs n) := by rw [negD, if_pos hl, turnL, if_pos hs]
  have ha : ∀ y ∈ digs n, -1 ≤ y ∧ y ≤ 1 := sides_all hs
  refine ⟨digsC_in (by omega), hl, digs_pos (by omega), digs_last (by omega), ?_, ?_, ?_, ?_, ?_, ?_⟩
  · have h1 := valR_vTo (digs n)
    have h2 := pans_sum (digs n) ha (digs n).length (Nat.le_refl _)
    rw [pansL_in h, pansL_in h]
    rw [valR_digs] at h1
    omega
  · intro q hq
    rw [pansL_in h] at hq ⊢
    exact decide_eq_false (pans_disjoint hq)
  · rw [valC_yes hl hs, valR_digs]
  · rw [hnd, valC_yes (by rw [negs_length]; exact hl) (sides_negs hs), valR_negs, valR_digs]
  · rw [hnd, digsC_in (by omega), digs_neg]
  · rw [digsC_in (by omega), pansL_in h, pansL_in h, pansTo_cnt _ _ _ (Nat.le_refl _), pansTo_cnt _ _ _ (Nat.le_refl _), List.take_of_length_le (Nat.le_refl _), ← nzc_sides _ ha]
    omega
theorem pansL_el {t n : Int} {k : Nat} (hk : k < (pansL t n).length) : 1 ≤ (pansL t n).getD k 0 ∧ (pansL t n).getD k 0 ≤ 59049 := by
  have hm : (pansL t n).getD k 0 ∈ pansL t n := by rw [List.getD, List.getElem?_eq_getElem hk]; exact List.getElem_mem hk
  unfold pansL at hm ⊢
  split at hm
  · rename_i h
    rw [if_pos h]
    obtain ⟨i, h1, _, h3⟩ := pansTo_mem hm
    rw [h3]
    exact pw_bd i (by have := digs_len10 (n := n) (by omega); omega)
  · cases hm
theorem pansL_sum {t n : Int} (k : Nat) (hk : k ≤ (pansL t n).length) : 0 ≤ sumTo (pansL t n) k ∧ sumTo (pansL t n) k ≤ 59049 * k := by
  induction k with
  | zero => simp [sumTo]
  | succ k ih =>
    have h1 := ih (by omega)
    have h2 := pansL_el (t := t) (n := n) (k := k) (by omega)
    rw [sumTo]
    omega
end Go.Proofs.Ytfbecjeogbjnpaa
