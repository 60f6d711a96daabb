/- The mirrored ruler and drawn rulers, as plain Lean: the law of FnRulers. -/
import Derived.Test.YtemeechmemhokaaNatR
import Derived.Test.YtemeechmemhokaaMirror
namespace Go.Proofs.Ytemeechmemhokaa

theorem okN_iff {fs : List Nat} : okN fs = true ↔ 1 ≤ fs.length ∧ fs.length ≤ 8 ∧ fs.getD 0 0 = 0 ∧ fs.Pairwise (fun x y => x < y) ∧ lastN fs ≤ 60 := by
  rw [okN, Bool.and_eq_true, Bool.and_eq_true, Bool.and_eq_true, Bool.and_eq_true, Nat.ble_eq, Nat.ble_eq, Nat.ble_eq, Nat.beq_eq, descN_iff, List.pairwise_reverse]
theorem lastN_getElem {fs : List Nat} (h : 1 ≤ fs.length) : lastN fs = fs[fs.length - 1] := by rw [lastN, List.getD, List.getElem?_eq_getElem (by omega)]; rfl
theorem le_last {fs : List Nat} (h : fs.Pairwise (fun x y => x < y)) : ∀ x ∈ fs, x ≤ lastN fs := by
  intro x hx
  obtain ⟨i, hi, rfl⟩ := List.getElem_of_mem hx
  rw [lastN_getElem (by omega)]
  by_cases e : i = fs.length - 1
  · subst e; exact Nat.le_refl _
  · exact Nat.le_of_lt (List.pairwise_iff_getElem.1 h i (fs.length - 1) hi (by omega) (by omega))
def mirN (fs : List Nat) : List Nat := (fs.map fun m => lastN fs - m).reverse
theorem mirN_length (fs : List Nat) : (mirN fs).length = fs.length := by simp [mirN]
theorem mirN_get {fs : List Nat} {i : Nat} (h : i < fs.length) : (mirN fs).getD i 0 = lastN fs - fs.getD (fs.length - 1 - i) 0 := by
  rw [mirN, List.getD, List.getElem?_reverse (by simpa using h), List.getElem?_map, List.length_map, List.getD, List.getElem?_eq_getElem (show fs.length - 1 - i < fs.length by omega)]
  rfl
theorem mirN_last {fs : List Nat} (h : okN fs = true) : lastN (mirN fs) = lastN fs := by
  obtain ⟨h1, h2, h3, h4, h5⟩ := okN_iff.1 h
  show (mirN fs).getD ((mirN fs).length - 1) 0 = lastN fs
  rw [mirN_length, mirN_get (by omega), show fs.length - 1 - (fs.length - 1) = 0 from by omega, h3]
  rfl
theorem mirN_ok {fs : List Nat} (h : okN fs = true) : okN (mirN fs) = true := by
  have hl := mirN_last h
  obtain ⟨h1, h2, h3, h4, h5⟩ := okN_iff.1 h
  refine okN_iff.2 ⟨by rw [mirN_length]; exact h1, by rw [mirN_length]; exact h2, ?_, ?_, by rw [hl]; exact h5⟩
  · rw [mirN_get (by omega), Nat.sub_zero]
    show lastN fs - lastN fs = 0
    omega
  · rw [mirN, List.pairwise_reverse, List.pairwise_map]
    refine (List.Pairwise.and_mem.1 h4).imp fun {a b} q => ?_
    have := le_last h4 a q.1
    have := le_last h4 b q.2.1
    omega
theorem mirN_mirN {fs : List Nat} (h : okN fs = true) : mirN (mirN fs) = fs := by
  have hl := mirN_last h
  obtain ⟨h1, h2, h3, h4, h5⟩ := okN_iff.1 h
  rw [mirN, hl, mirN, List.map_reverse, List.reverse_reverse, List.map_map]
  conv => rhs; rw [← List.map_id fs]
  refine List.map_congr_left fun a ha => ?_
  have := le_last h4 a ha
  simp only [Function.comp_apply, id]
  omega
theorem mirTo_il {fs : List Nat} (h : okN fs = true) : ∀ k, k ≤ fs.length → mirTo (il fs) k = il ((mirN fs).take k) := by
  obtain ⟨h1, h2, h3, h4, h5⟩ := okN_iff.1 h
  intro k
  induction k with
  | zero => intro _; rfl
  | succ k ih =>
    intro hk
    rw [mirTo, ih (by omega), List.take_succ_eq_append_getElem (show k < (mirN fs).length by rw [mirN_length]; omega), il_app, il_length, il_getD, il_getD]
    have e : (mirN fs)[k]'(by rw [mirN_length]; omega) = lastN fs - fs.getD (fs.length - 1 - k) 0 := by
      rw [← mirN_get (show k < fs.length by omega), List.getD, List.getElem?_eq_getElem (show k < (mirN fs).length by rw [mirN_length]; omega)]; rfl
    have hle : fs.getD (fs.length - 1 - k) 0 ≤ lastN fs := by
      rw [List.getD, List.getElem?_eq_getElem (show fs.length - 1 - k < fs.length by omega)]
      exact le_last h4 _ (List.getElem_mem _)
    rw [e]
    have : fs.getD (fs.length - 1) 0 = lastN fs := rfl
    rw [this, show (((lastN fs - fs.getD (fs.length - 1 - k) 0 : Nat)) : Int) = (lastN fs : Int) - (fs.getD (fs.length - 1 - k) 0 : Int) from by omega]
theorem mirL_il {fs : List Nat} (h : okN fs = true) : mirL (il fs) = il (mirN fs) := by
  rw [mirL, if_pos (by rw [← okN_eq]; exact h), il_length, mirTo_il h _ (Nat.le_refl _), List.take_of_length_le (by rw [mirN_length]; exact Nat.le_refl _)]

/-- The lengths, from the lowest mark. -/
def difA : List Nat → List Nat
  | [] => []
  | x :: rs => rs.map (fun m => m - x) ++ difA rs
theorem difR_snoc (l : List Nat) (x : Nat) : (difR (l ++ [x])).Perm (difR l ++ l.map (fun m => m - x)) := by
  induction l with
  | nil => exact List.Perm.refl _
  | cons y l ih =>
    rw [List.cons_append, difR, difR, List.map_append, List.map_cons, List.map_nil, List.map_cons]
    have h1 : (List.map (fun m => y - m) l ++ [y - x] ++ difR (l ++ [x])).Perm (List.map (fun m => y - m) l ++ [y - x] ++ (difR l ++ l.map (fun m => m - x))) := ih.append_left _
    refine h1.trans ?_
    rw [List.append_assoc, List.append_assoc]
    refine List.Perm.append_left _ ?_
    rw [List.singleton_append]
    exact (List.perm_middle (l₁ := difR l) (l₂ := l.map (fun m => m - x)) (a := y - x)).symm
theorem difA_perm (l : List Nat) : (difR l.reverse).Perm (difA l) := by
  induction l with
  | nil => exact List.Perm.refl _
  | cons x l ih =>
    rw [List.reverse_cons, difA]
    refine (difR_snoc _ _).trans (List.perm_append_comm.trans ?_)
    exact (List.Perm.append_right _ ((List.reverse_perm l).map _)).trans (ih.append_left _)
theorem difR_flip {T : Nat} : ∀ {l : List Nat}, l.Pairwise (fun x y => x < y) → (∀ x ∈ l, x ≤ T) → difR (l.map fun m => T - m) = difA l
  | [], _, _ => rfl
  | x :: l, h, hT => by
    rw [List.map_cons, difR, difA, difR_flip (List.pairwise_cons.1 h).2 (fun y hy => hT y (List.mem_cons_of_mem _ hy)), List.map_map]
    congr 1
    refine List.map_congr_left fun m hm => ?_
    have h1 := (List.pairwise_cons.1 h).1 m hm
    have h2 := hT m (List.mem_cons_of_mem _ hm)
    simp only [Function.comp_apply]
    omega
theorem difR_mir {fs : List Nat} (h : okN fs = true) : (difR (mirN fs).reverse).Perm (difR fs.reverse) := by
  obtain ⟨h1, h2, h3, h4, h5⟩ := okN_iff.1 h
  rw [mirN, List.reverse_reverse, difR_flip h4 (le_last h4)]
  exact (difA_perm fs).symm
theorem lenL_mir {fs : List Nat} (h : okN fs = true) : lenL (il (mirN fs)) = lenL (il fs) := by
  have h1 : rulerB (il fs) = true := by rw [← okN_eq]; exact h
  have h2 : rulerB (il (mirN fs)) = true := by rw [← okN_eq]; exact mirN_ok h
  rw [lenL, if_pos h2, lenL, if_pos h1]
  exact srt_congr ((difs_il h2).trans (((difR_mir h).map _).trans (difs_il h1).symm))
theorem golF_mir {fs : List Nat} (h : okN fs = true) : golF (mirN fs) = golF fs := by
  rw [golF, golF, h, mirN_ok h, Bool.true_and, Bool.true_and, Bool.eq_iff_iff, Bool.not_eq_true', Bool.not_eq_true', dupN_iff, dupN_iff]
  exact (difR_mir h).nodup_iff
theorem difR_length : ∀ l : List Nat, (difR l).length * 2 = l.length * (l.length - 1)
  | [] => rfl
  | x :: l => by
    have := difR_length l
    rw [difR, List.length_append, List.length_map, List.length_cons, Nat.add_sub_cancel, Nat.add_mul, this]
    cases l with
    | nil => rfl
    | cons y r =>
      rw [List.length_cons, Nat.add_sub_cancel, Nat.add_mul (r.length + 1) 1, Nat.mul_comm (r.length + 1) (r.length + 1)]
      rw [show (r.length + 1) * (r.length + 1) = (r.length + 1) * r.length + (r.length + 1) from by rw [Nat.mul_add, Nat.mul_one]]
      omega
theorem lenL_il {fs : List Nat} (h : okN fs = true) : (lenL (il fs)).length * 2 = fs.length * (fs.length - 1) := by
  have h1 : rulerB (il fs) = true := by rw [← okN_eq]; exact h
  rw [lenL, if_pos h1, srt_length, (difs_il h1).length_eq, il_length, difR_length, List.length_reverse]

/-- The marks of a drawn ruler, the last first, from the gaps, the last first. -/
def desc : List Nat → List Nat
  | [] => [0]
  | g :: gs => ((desc gs).headD 0 + g) :: desc gs
def rul (gs : List Nat) : List Nat := (desc gs).reverse
def Gaps (gs : List Nat) : Prop := ∀ g ∈ gs, 1 ≤ g ∧ g ≤ 6
theorem desc_length (gs : List Nat) : (desc gs).length = gs.length + 1 := by
  induction gs with
  | nil => rfl
  | cons g gs ih => rw [desc, List.length_cons, ih, List.length_cons]
theorem rul_length (gs : List Nat) : (rul gs).length = gs.length + 1 := by rw [rul, List.length_reverse, desc_length]
theorem desc_head (gs : List Nat) : ∃ l, desc gs = (desc gs).headD 0 :: l := by
  cases gs with
  | nil => exact ⟨_, rfl⟩
  | cons g gs => exact ⟨_, rfl⟩
theorem rul_last (gs : List Nat) : lastN (rul gs) = (desc gs).headD 0 := by
  obtain ⟨l, hl⟩ := desc_head gs
  rw [rul, hl, List.reverse_cons, lastN_app]
  rfl
theorem rul_step (gs : List Nat) (g : Nat) : rul (g :: gs) = rul gs ++ [lastN (rul gs) + g] := by
  rw [rul_last, rul, desc, List.reverse_cons]; rfl
theorem desc_le {gs : List Nat} (h : Gaps gs) : (desc gs).headD 0 ≤ 6 * gs.length ∧ (desc gs).Pairwise (fun x y => y < x) := by
  induction gs with
  | nil => exact ⟨Nat.le_refl _, List.pairwise_singleton _ _⟩
  | cons g gs ih =>
    obtain ⟨h1, h2⟩ := ih fun x hx => h x (List.mem_cons_of_mem _ hx)
    have hg := h g (List.mem_cons_self ..)
    refine ⟨?_, ?_⟩
    · show (desc gs).headD 0 + g ≤ 6 * (gs.length + 1)
      omega
    · rw [desc, List.pairwise_cons]
      refine ⟨fun a ha => ?_, h2⟩
      obtain ⟨l, hl⟩ := desc_head gs
      rw [hl] at ha h2
      rcases List.mem_cons.1 ha with e | e
      · omega
      · have := (List.pairwise_cons.1 h2).1 a e; omega
theorem rul_zero (gs : List Nat) : (rul gs).getD 0 0 = 0 := by
  induction gs with
  | nil => rfl
  | cons g gs ih =>
    rw [rul_step, List.getD, List.getElem?_append_left (by rw [rul_length]; omega)]
    exact ih
theorem rul_ok {gs : List Nat} (h : Gaps gs) (hl : gs.length ≤ 5) : okN (rul gs) = true := by
  obtain ⟨h1, h2⟩ := desc_le h
  refine okN_iff.2 ⟨by rw [rul_length]; omega, by rw [rul_length]; omega, rul_zero gs, by rw [rul, List.pairwise_reverse]; exact h2, by rw [rul_last]; omega⟩

/-- Five or six marks never measure every length just once. -/
def allG (p : List Nat → Bool) : Nat → List Nat → Bool
  | 0, a => p a
  | n + 1, a => allG p n (1 :: a) && (allG p n (2 :: a) && (allG p n (3 :: a) && (allG p n (4 :: a) && (allG p n (5 :: a) && allG p n (6 :: a)))))
theorem allG_iff {p : List Nat → Bool} : ∀ n a, allG p n a = true → ∀ gs, gs.length = n → Gaps gs → p (gs ++ a) = true
  | 0, a, h, gs, hl, _ => by rw [List.length_eq_zero_iff.1 hl]; exact h
  | n + 1, a, h, gs, hl, hg => by
    obtain ⟨gs', g, rfl⟩ : ∃ gs' g, gs = gs' ++ [g] := ⟨gs.dropLast, gs.getLast (by intro e; rw [e] at hl; cases hl), (List.dropLast_concat_getLast _).symm⟩
    have hl2 : gs'.length = n := by rw [List.length_append] at hl; simpa using hl
    have hg2 : Gaps gs' := fun x hx => hg x (List.mem_append_left _ hx)
    have h1 := hg g (List.mem_append_right _ (List.mem_singleton.2 rfl))
    rw [List.append_assoc, List.singleton_append]
    simp only [allG, Bool.and_eq_true] at h
    obtain ⟨a1, a2, a3, a4, a5, a6⟩ := h
    rcases (show g = 1 ∨ g = 2 ∨ g = 3 ∨ g = 4 ∨ g = 5 ∨ g = 6 by omega) with rfl | rfl | rfl | rfl | rfl | rfl
    · exact allG_iff n _ a1 gs' hl2 hg2
    · exact allG_iff n _ a2 gs' hl2 hg2
    · exact allG_iff n _ a3 gs' hl2 hg2
    · exact allG_iff n _ a4 gs' hl2 hg2
    · exact allG_iff n _ a5 gs' hl2 hg2
    · exact allG_iff n _ a6 gs' hl2 hg2
def notAll (gs : List Nat) : Bool := !(allTo (fun k => memN ((desc gs).headD 0 - k) (difR (desc gs))) ((desc gs).headD 0) && !dupN (difR (desc gs)))
theorem no5 : allG notAll 4 [] = true := by decide +kernel
theorem no6 : allG notAll 5 [] = true := by decide +kernel
theorem rul_four {gs : List Nat} (h : Gaps gs) (hl : gs.length ≤ 5) (hg : golF (rul gs) = true) (hm : measF (rul gs) = true) : gs.length + 1 ≤ 4 := by
  rw [golF, Bool.and_eq_true] at hg
  rw [measF, Bool.and_eq_true, rul_last, allTo_iff] at hm
  have hn : notAll gs = false := by
    rw [notAll, Bool.not_eq_false', Bool.and_eq_true, allTo_iff]
    have e : (rul gs).reverse = desc gs := by rw [rul, List.reverse_reverse]
    rw [e] at hg hm
    refine ⟨fun k hk => ?_, hg.2⟩
    have := hm.2 ((desc gs).headD 0 - k - 1) (by omega)
    rwa [show (desc gs).headD 0 - k - 1 + 1 = (desc gs).headD 0 - k from by omega] at this
  rcases (show gs.length ≤ 3 ∨ gs.length = 4 ∨ gs.length = 5 by omega) with q | q | q
  · omega
  · have := allG_iff 4 [] no5 gs q h
    rw [List.append_nil, hn] at this
    cases this
  · have := allG_iff 5 [] no6 gs q h
    rw [List.append_nil, hn] at this
    cases this
end Go.Proofs.Ytemeechmemhokaa
