/- The plain law of FnWeighings. -/
import Derived.Test.YtfbecjeogbjnpaaWeigh
import Derived.Test.YtfbecjeogbjnpaaCount
namespace Go.Proofs.Ytfbecjeogbjnpaa

theorem signI_neg (n : Int) : signI (-n) = -signI n := by
  unfold signI
  split <;> split <;> (try split) <;> (try split) <;> omega
theorem signI_bd (n : Int) : -1 ≤ signI n ∧ signI n ≤ 1 := by unfold signI; split <;> (try split) <;> omega
theorem negs_getD (ys : List Int) (k : Nat) : (negs ys).getD k 0 = -(ys.getD k 0) := by
  rcases Nat.lt_or_ge k ys.length with h | h
  · simp [negs, List.getD, h]
  · simp [negs, List.getD, h]
theorem dot_negs (xs ys : List Int) (k : Nat) : dotTo xs (negs ys) k = -dotTo xs ys k := by
  induction k with
  | zero => rfl
  | succ k ih => rw [dotTo, dotTo, ih, negs_getD, Int.mul_neg]; omega
theorem negs_negs (ys : List Int) : negs (negs ys) = ys := by
  induction ys with
  | nil => rfl
  | cons y ys ih =>
    show - -y :: negs (negs ys) = _
    rw [ih, Int.neg_neg]
def plus7 (xs : List Int) : List Int := xs.map (fun x => x + 7)
theorem plus7_length (xs : List Int) : (plus7 xs).length = xs.length := by simp [plus7]
theorem plus7_take_succ {xs : List Int} {k : Nat} {x : Int} (hk : k < xs.length) (hx : x = xs.getD k 0) : plus7 (xs.take (k + 1)) = plus7 (xs.take k) ++ [x + 7] := by
  rw [take_succ_getD xs k hk, plus7, List.map_append, hx]; rfl
theorem plus7_getD {xs : List Int} {k : Nat} (h : k < xs.length) : (plus7 xs).getD k 0 = xs.getD k 0 + 7 := by simp [plus7, List.getD, h]
theorem dot_plus7 (xs ys : List Int) (k : Nat) (hk : k ≤ xs.length) (hl : ys.length = xs.length) (hy : ∀ y ∈ ys, -1 ≤ y ∧ y ≤ 1) :
    dotTo (plus7 xs) ys k = dotTo xs ys k + 7 * ((cnt 1 (ys.take k) : Int) - (cnt (-1) (ys.take k) : Int)) := by
  induction k with
  | zero => rfl
  | succ k ih =>
    have h1 := ih (by omega)
    have hkl : k < ys.length := by omega
    have h2 := hy (ys.getD k 0) (by rw [List.getD, List.getElem?_eq_getElem hkl]; exact List.getElem_mem hkl)
    rw [dotTo, dotTo, h1, plus7_getD (by omega), cnt_step hkl, cnt_step hkl]
    have h3 : ys.getD k 0 = -1 ∨ ys.getD k 0 = 0 ∨ ys.getD k 0 = 1 := by omega
    rcases h3 with e | e | e <;> rw [e] <;> simp <;> omega

structure WeighFacts (xs ys : List Int) : Prop where
  b1 : weighB xs ys = true
  b2 : weighB xs (turnL ys) = true
  b3 : weighB (plus7 xs) ys = true
  y : weighN xs (turnL ys) = -weighN xs ys
  bd : -1 ≤ weighN xs ys ∧ weighN xs ys ≤ 1
  tt : turnL (turnL ys) = ys
  z : fairB xs.length ys = true → weighN (plus7 xs) ys = weighN xs ys
  f : fairB xs.length ys = (decide ((cnt 1 ys : Int) = (cnt (-1) ys : Int)) && decide (1 ≤ cnt 1 ys))

theorem weighFacts {xs ys : List Int} (h1 : 1 ≤ xs.length) (h2 : xs.length ≤ 8) (h3 : ys.length = xs.length) (h4 : ∀ x ∈ xs, 0 ≤ x ∧ x ≤ 29) (h5 : ∀ y ∈ ys, -1 ≤ y ∧ y ≤ 1) : WeighFacts xs ys := by
  have hc : coinsB xs = true := by
    rw [coinsB, Bool.and_eq_true]
    exact ⟨inB_iff.2 (by omega), List.all_eq_true.2 fun x hx => inB_iff.2 (by have := h4 x hx; omega)⟩
  have hc7 : coinsB (plus7 xs) = true := by
    rw [coinsB, Bool.and_eq_true]
    refine ⟨inB_iff.2 (by rw [plus7_length]; omega), List.all_eq_true.2 fun x hx => ?_⟩
    obtain ⟨z, hz, rfl⟩ := List.mem_map.1 hx
    exact inB_iff.2 (by have := h4 z hz; omega)
  have hs : sidesB ys = true := List.all_eq_true.2 fun y hy => inB_iff.2 (h5 y hy)
  have ht : turnL ys = negs ys := by rw [turnL, if_pos hs]
  have hsn : sidesB (negs ys) = true := by
    refine List.all_eq_true.2 fun y hy => ?_
    obtain ⟨x, hx, rfl⟩ := List.mem_map.1 hy
    have := h5 x hx
    exact inB_iff.2 (by omega)
  have hl : ∀ (us vs : List Int), us.length = xs.length → vs.length = xs.length → sidesB vs = true → loadB us.length vs = true := by
    intro us vs hu hv hsv
    rw [loadB, Bool.and_eq_true, Bool.and_eq_true]
    exact ⟨inB_iff.2 (by omega), decide_eq_true (by omega), hsv⟩
  have l1 := hl xs ys rfl h3 hs
  have l2 := hl xs (negs ys) rfl (by rw [negs_length]; omega) hsn
  have l3 := hl (plus7 xs) ys (plus7_length xs) h3 hs
  have n1 : weighN xs ys = signI (dotTo xs ys xs.length) := if_pos ⟨hc, l1⟩
  have hf : fairB xs.length ys = (decide ((cnt 1 ys : Int) = (cnt (-1) ys : Int)) && decide (1 ≤ cnt 1 ys)) := by rw [fairB, l1, Bool.true_and]
  refine ⟨by rw [weighB, hc, l1]; rfl, by rw [ht, weighB, hc, l2]; rfl, by rw [weighB, hc7, l3]; rfl, ?_, by rw [n1]; exact signI_bd _, ?_, ?_, hf⟩
  · rw [ht, n1, show weighN xs (negs ys) = signI (dotTo xs (negs ys) xs.length) from if_pos ⟨hc, l2⟩, dot_negs, signI_neg]
  · rw [ht, turnL, if_pos hsn, negs_negs]
  · intro h
    rw [hf, Bool.and_eq_true] at h
    have e := of_decide_eq_true h.1
    rw [n1, show weighN (plus7 xs) ys = signI (dotTo (plus7 xs) ys (plus7 xs).length) from if_pos ⟨hc7, l3⟩, plus7_length, dot_plus7 xs ys _ (Nat.le_refl _) h3 h5,
      List.take_of_length_le (by omega), e, Int.sub_self, Int.mul_zero, Int.add_zero]
end Go.Proofs.Ytfbecjeogbjnpaa
