/- The tests of rulers on lists of naturals, for the kernel; that they are the program's tests. Plain. -/
import Derived.Test.YtemeechmemhokaaSeek
namespace Go.Proofs.Ytemeechmemhokaa

def difR : List Nat → List Nat
  | [] => []
  | x :: rs => rs.map (fun m => x - m) ++ difR rs
def descN : List Nat → Bool
  | [] => true
  | [_] => true
  | x :: y :: rs => Nat.blt y x && descN (y :: rs)
def memN (k : Nat) : List Nat → Bool
  | [] => false
  | x :: l => Nat.beq x k || memN k l
def dupN : List Nat → Bool
  | [] => false
  | x :: l => memN x l || dupN l
def allTo (p : Nat → Bool) : Nat → Bool
  | 0 => true
  | k + 1 => p k && allTo p k
def okN (fs : List Nat) : Bool := Nat.ble 1 fs.length && (Nat.ble fs.length 8 && (Nat.beq (fs.getD 0 0) 0 && (descN fs.reverse && Nat.ble (lastN fs) 60)))
def golF (fs : List Nat) : Bool := okN fs && !dupN (difR fs.reverse)
def measF (fs : List Nat) : Bool := okN fs && allTo (fun k => memN (k + 1) (difR fs.reverse)) (lastN fs)

theorem allTo_iff {p : Nat → Bool} {n : Nat} : allTo p n = true ↔ ∀ k, k < n → p k = true := by
  induction n with
  | zero => exact ⟨fun _ k hk => absurd hk (by omega), fun _ => rfl⟩
  | succ n ih =>
    rw [allTo, Bool.and_eq_true, ih]
    constructor
    · intro h k hk
      by_cases e : k = n
      · rw [e]; exact h.1
      · exact h.2 k (by omega)
    · intro h
      exact ⟨h n (by omega), fun k hk => h k (by omega)⟩
theorem memN_iff {k : Nat} {l : List Nat} : memN k l = true ↔ k ∈ l := by
  induction l with
  | nil => simp [memN]
  | cons x l ih =>
    rw [memN, Bool.or_eq_true, ih, List.mem_cons, Nat.beq_eq]
    constructor
    · rintro (h | h)
      · exact .inl h.symm
      · exact .inr h
    · rintro (h | h)
      · exact .inl h.symm
      · exact .inr h
theorem dupN_iff {l : List Nat} : dupN l = false ↔ l.Nodup := by
  induction l with
  | nil => simp [dupN]
  | cons x l ih =>
    rw [dupN, Bool.or_eq_false_iff, ih, List.nodup_cons, ← memN_iff]
    simp
theorem descN_iff {l : List Nat} : descN l = true ↔ l.Pairwise (fun x y => y < x) := by
  induction l with
  | nil => simp [descN]
  | cons x l ih =>
    cases l with
    | nil => simp [descN]
    | cons y rs =>
      rw [descN, Bool.and_eq_true, ih, List.pairwise_cons (a := x), Nat.blt_eq]
      constructor
      · intro ⟨h1, h2⟩
        refine ⟨fun a ha => ?_, h2⟩
        rcases List.mem_cons.1 ha with rfl | ha
        · exact h1
        · have := (List.pairwise_cons.1 h2).1 a ha; omega
      · intro ⟨h1, h2⟩
        exact ⟨h1 y (List.mem_cons_self ..), h2⟩
theorem asc_il {fs : List Nat} : ascB (il fs) = descN fs.reverse := by
  rw [Bool.eq_iff_iff, asc_iff, descN_iff, List.pairwise_reverse, il, List.pairwise_map]
  constructor <;> (intro h; exact h.imp (fun {a b} h => by omega))
theorem okN_eq (fs : List Nat) : okN fs = rulerB (il fs) := by
  rw [okN, rulerB, asc_il, headB, inB, il_length, il_getD, il_getD, lastN]
  have e1 : decide ((1 : Int) ≤ (fs.length : Int)) = Nat.ble 1 fs.length := by rw [Bool.eq_iff_iff, decide_eq_true_eq, Nat.ble_eq]; omega
  have e2 : decide ((fs.length : Int) ≤ 8) = Nat.ble fs.length 8 := by rw [Bool.eq_iff_iff, decide_eq_true_eq, Nat.ble_eq]; omega
  have e3 : decide (((fs.getD 0 0 : Nat) : Int) = 0) = Nat.beq (fs.getD 0 0) 0 := by rw [Bool.eq_iff_iff, decide_eq_true_eq, Nat.beq_eq]; omega
  have e4 : decide (((fs.getD (fs.length - 1) 0 : Nat) : Int) ≤ 60) = Nat.ble (fs.getD (fs.length - 1) 0) 60 := by rw [Bool.eq_iff_iff, decide_eq_true_eq, Nat.ble_eq]; omega
  rw [e1, e2, e3, e4, Bool.and_assoc]

theorem rowTo_eq (xs : List Int) (i : Nat) : ∀ j, j ≤ xs.length → rowTo xs i j = (xs.take j).map (fun m => xs.getD i 0 - m) := by
  intro j
  induction j with
  | zero => intro _; rfl
  | succ j ih =>
    intro h
    rw [rowTo, ih (by omega), take_succ_getD xs j (by omega), List.map_append]
    rfl
theorem difR_perm {fs : List Nat} (h : fs.Pairwise (fun x y => x < y)) : ∀ k, k ≤ fs.length → (difTo (il fs) k).Perm (il (difR (fs.take k).reverse)) := by
  intro k
  induction k with
  | zero => intro _; exact List.Perm.refl _
  | succ k ih =>
    intro hk
    rw [List.take_succ_eq_append_getElem (show k < fs.length by omega), List.reverse_append, List.reverse_singleton, List.singleton_append, difR, difTo, rowTo_eq _ _ _ (by rw [il_length]; omega)]
    have e : ((il fs).take k).map (fun m => (il fs).getD k 0 - m) = il ((fs.take k).map (fun m => fs[k] - m)) := by
      rw [il_getD, List.getD, List.getElem?_eq_getElem (show k < fs.length by omega)]
      unfold il
      rw [← List.map_take, List.map_map, List.map_map]
      refine List.map_congr_left fun m hm => ?_
      have hm2 : m < fs[k] := by
        obtain ⟨i, hi, rfl⟩ := List.mem_take_iff_getElem.1 hm
        exact List.pairwise_iff_getElem.1 h i k (by omega) (by omega) (by omega)
      simp only [Function.comp_apply, Option.getD_some]
      omega
    rw [e]
    have e2 : il ((fs.take k).reverse.map (fun m => fs[k] - m) ++ difR (fs.take k).reverse) = (il ((fs.take k).map (fun m => fs[k] - m))).reverse ++ il (difR (fs.take k).reverse) := by
      unfold il
      rw [List.map_append, List.map_reverse, List.map_reverse]
    rw [e2]
    exact (((ih (by omega)).append_right _).trans List.perm_append_comm).trans ((List.reverse_perm _).symm.append_right _)
theorem difs_il {fs : List Nat} (h : rulerB (il fs) = true) : (difs (il fs)).Perm (il (difR fs.reverse)) := by
  have h1 := (rlr_asc h).1
  rw [asc_il, descN_iff, List.pairwise_reverse] at h1
  have h2 := difR_perm h1 fs.length (Nat.le_refl _)
  rw [List.take_length] at h2
  rw [difs, il_length]
  exact h2
theorem cnt_il {fs : List Nat} (h : rulerB (il fs) = true) (k : Nat) : cnt (difs (il fs)) k = (((difR fs.reverse).count k : Nat) : Int) := by
  rw [cnt, List.perm_iff_count.1 (difs_il h)]
  congr 1
  generalize difR fs.reverse = l
  induction l with
  | nil => rfl
  | cons x l ih =>
    rw [il, List.map_cons, List.count_cons, List.count_cons]
    rw [il] at ih
    rw [ih]
    by_cases e : x = k
    · rw [e]; simp
    · rw [if_neg (by simp; omega), if_neg (by simp; omega)]
theorem difR_bd {fs : List Nat} (h : rulerB (il fs) = true) : ∀ t ∈ difR fs.reverse, 1 ≤ t ∧ t ≤ 60 := by
  intro t ht
  have h1 : (t : Int) ∈ difs (il fs) := (difs_il h).mem_iff.2 (List.mem_map.2 ⟨t, ht, rfl⟩)
  have := difs_bd h _ h1
  omega
theorem golF_eq (fs : List Nat) : golF fs = golB (il fs) := by
  rw [golF, golB, okN_eq]
  cases h : rulerB (il fs)
  · rfl
  · rw [Bool.true_and, Bool.true_and, Bool.eq_iff_iff, Bool.not_eq_true', dupN_iff, okTo_iff, List.nodup_iff_count]
    constructor
    · intro hc k _
      rw [oneP, cnt_il h, decide_eq_true_eq]
      have := hc (k + 1)
      omega
    · intro hc a
      by_cases q : 1 ≤ a ∧ a ≤ 60
      · have h1 := of_decide_eq_true (hc (a - 1) (by omega))
        rw [show a - 1 + 1 = a from by omega, cnt_il h] at h1
        omega
      · rw [List.count_eq_zero.2 fun hm => q (difR_bd h a hm)]; omega
theorem lastN_il (fs : List Nat) : ((il fs).getD ((il fs).length - 1) 0).toNat = lastN fs := by
  rw [il_length, il_getD, Int.toNat_natCast]; rfl
theorem measF_eq (fs : List Nat) : measF fs = measB (il fs) := by
  rw [measF, measB, okN_eq, lastN_il]
  cases h : rulerB (il fs)
  · rfl
  · rw [Bool.true_and, Bool.true_and, Bool.eq_iff_iff, allTo_iff, okTo_iff]
    constructor
    · intro hc k hk
      have := List.count_pos_iff.2 (memN_iff.1 (hc k hk))
      rw [someP, cnt_il h, decide_eq_true_eq]
      omega
    · intro hc k hk
      have h1 := of_decide_eq_true (hc k hk)
      rw [cnt_il h] at h1
      exact memN_iff.2 (List.count_pos_iff.1 (by omega))
end Go.Proofs.Ytemeechmemhokaa
