/- The lengths between the marks of a ruler: the list, the sorted list, the counts. Plain laws, no program in sight. -/
import Derived.Test.YtemeechmemhokaaRuler0
namespace Go.Proofs.Ytemeechmemhokaa

def rowTo (xs : List Int) (i : Nat) : Nat → List Int
  | 0 => []
  | j + 1 => rowTo xs i j ++ [xs.getD i 0 - xs.getD j 0]
def difTo (xs : List Int) : Nat → List Int
  | 0 => []
  | i + 1 => difTo xs i ++ rowTo xs i i
def difs (xs : List Int) : List Int := difTo xs xs.length
theorem rowTo_length (xs : List Int) (i j : Nat) : (rowTo xs i j).length = j := by
  induction j with
  | zero => rfl
  | succ j ih => rw [rowTo, List.length_append, ih]; rfl
theorem difTo_length (xs : List Int) (k : Nat) : (difTo xs k).length ≤ k * k := by
  induction k with
  | zero => simp [difTo]
  | succ k ih => rw [difTo, List.length_append, rowTo_length, Nat.succ_mul, Nat.mul_succ]; omega
theorem row_step {xs d : List Int} {i j : Nat} {x y : Int} (hx : x = xs.getD i 0) (hy : y = xs.getD j 0) : d ++ rowTo xs i (j + 1) = (d ++ rowTo xs i j) ++ [x - y] := by
  rw [rowTo, hx, hy, List.append_assoc]
theorem difTo_le {xs : List Int} {i k : Nat} (h : i ≤ k) (hk : k ≤ 8) : (difTo xs i).length ≤ 64 := by
  have h1 := difTo_length xs i
  have h2 : i * i ≤ 8 * 8 := Nat.mul_le_mul (by omega) (by omega)
  omega
theorem asc_lt {xs : List Int} (h : ascB xs = true) : ∀ j i, i < j → j < xs.length → xs.getD i 0 < xs.getD j 0 := by
  intro j i hij hj
  obtain ⟨k, rfl⟩ : ∃ k, j = k + 1 := ⟨j - 1, by omega⟩
  have h1 := asc_mono h k i (by omega) (by omega)
  have h2 := okTo_iff.1 h (k + 1) hj
  simp only [ascP, Nat.add_sub_cancel, decide_eq_false (show ¬ k + 1 = 0 from by omega), Bool.false_or, decide_eq_true_eq] at h2
  omega
theorem mem_rowTo {xs : List Int} {i k : Nat} {t : Int} (h : t ∈ rowTo xs i k) : ∃ j, j < k ∧ t = xs.getD i 0 - xs.getD j 0 := by
  induction k with
  | zero => simp [rowTo] at h
  | succ k ih =>
    rw [rowTo, List.mem_append, List.mem_singleton] at h
    rcases h with h | h
    · obtain ⟨j, h1, h2⟩ := ih h
      exact ⟨j, by omega, h2⟩
    · exact ⟨k, by omega, h⟩
theorem mem_difTo {xs : List Int} {k : Nat} {t : Int} (h : t ∈ difTo xs k) : ∃ i j, j < i ∧ i < k ∧ t = xs.getD i 0 - xs.getD j 0 := by
  induction k with
  | zero => simp [difTo] at h
  | succ k ih =>
    rw [difTo, List.mem_append] at h
    rcases h with h | h
    · obtain ⟨i, j, h1, h2, h3⟩ := ih h
      exact ⟨i, j, h1, by omega, h3⟩
    · obtain ⟨j, h1, h2⟩ := mem_rowTo h
      exact ⟨k, j, h1, by omega, h2⟩
theorem rlr_len {xs : List Int} (h : rulerB xs = true) : 1 ≤ xs.length ∧ xs.length ≤ 8 := by
  rw [rulerB, Bool.and_eq_true] at h
  have := inB_iff.1 h.1
  omega
theorem rlr_asc {xs : List Int} (h : rulerB xs = true) : ascB xs = true ∧ xs.getD 0 0 = 0 ∧ xs.getD (xs.length - 1) 0 ≤ 60 := by
  rw [rulerB, Bool.and_eq_true, Bool.and_eq_true, Bool.and_eq_true] at h
  exact ⟨h.2.2.1, of_decide_eq_true h.2.1, of_decide_eq_true h.2.2.2⟩
theorem rlr_at {xs : List Int} {k : Nat} {x : Int} (h : rulerB xs = true) (hk : k < xs.length) (hx : x = xs.getD k 0) : 0 ≤ x ∧ x ≤ 60 := by
  obtain ⟨ha, h0, hl⟩ := rlr_asc h
  have h1 := asc_mono ha k 0 (by omega) hk
  have h2 := asc_mono ha (xs.length - 1) k (by omega) (by omega)
  omega
theorem dif_bd {xs : List Int} (h : rulerB xs = true) {i j : Nat} (hj : j < i) (hi : i < xs.length) : 1 ≤ xs.getD i 0 - xs.getD j 0 ∧ xs.getD i 0 - xs.getD j 0 ≤ 60 := by
  have h1 := asc_lt (rlr_asc h).1 i j hj hi
  have h2 := rlr_at h hi rfl
  have h3 := rlr_at h (k := j) (by omega) rfl
  omega
theorem difs_bd {xs : List Int} (h : rulerB xs = true) : ∀ t ∈ difs xs, 1 ≤ t ∧ t ≤ 60 := by
  intro t ht
  obtain ⟨i, j, h1, h2, rfl⟩ := mem_difTo ht
  exact dif_bd h h1 h2

/-- The sorted list. -/
def srt (d : List Int) : List Int := d.mergeSort fun x y => decide (x ≤ y)
theorem srt_perm (d : List Int) : (srt d).Perm d := List.mergeSort_perm _ _
theorem srt_length (d : List Int) : (srt d).length = d.length := (srt_perm d).length_eq
theorem srt_sorted (d : List Int) : (srt d).Pairwise (fun x y => x ≤ y) := by
  have h := List.pairwise_mergeSort (le := fun x y : Int => decide (x ≤ y)) (by simp; omega) (by simp; omega) d
  rw [srt]
  simpa using h
theorem srt_eq {d e : List Int} (h1 : d.Perm e) (h2 : e.Pairwise (fun x y => x ≤ y)) : srt d = e :=
  List.Perm.eq_of_pairwise (le := fun x y => x ≤ y) (fun _ _ _ _ h3 h4 => Int.le_antisymm h3 h4) (srt_sorted d) h2 ((srt_perm d).trans h1)
theorem srt_congr {d e : List Int} (h : d.Perm e) : srt d = srt e := srt_eq (h.trans (srt_perm e).symm) (srt_sorted e)

/-- The counts, as a table. -/
def tb (g : Nat → Int) (N : Nat) : List Int := (List.range N).map g
theorem tb_length (g : Nat → Int) (N : Nat) : (tb g N).length = N := by simp [tb]
theorem tb_getD {g : Nat → Int} {N i : Nat} (h : i < N) : (tb g N).getD i 0 = g i := by simp [tb, List.getD, h]
theorem tb_congr {g h : Nat → Int} {N : Nat} (e : ∀ i, i < N → g i = h i) : tb g N = tb h N := List.map_congr_left fun i hi => e i (List.mem_range.1 hi)
theorem tb_set {g : Nat → Int} {N j : Nat} {v : Int} : (tb g N).set j v = tb (fun i => if i = j then v else g i) N := by
  refine List.ext_getElem (by simp [tb]) fun i h1 h2 => ?_
  rw [List.getElem_set]
  simp only [tb, List.getElem_map, List.getElem_range]
  by_cases e : j = i
  · rw [if_pos e, if_pos e.symm]
  · rw [if_neg e, if_neg (fun q => e q.symm)]
theorem tb_zero (N : Nat) : List.replicate N 0 = tb (fun _ => 0) N := by
  refine List.ext_getElem (by simp [tb]) fun i h1 h2 => ?_
  simp [tb]
def cnt (d : List Int) (k : Nat) : Int := ((d.count (k : Int) : Nat) : Int)
def cntT (d : List Int) : List Int := tb (cnt d) 61
theorem cntT_length (d : List Int) : (cntT d).length = 61 := tb_length _ _
theorem cntT_zero : List.replicate 61 0 = cntT [] := tb_zero 61
theorem cnt_bd (d : List Int) (k : Nat) : 0 ≤ cnt d k ∧ cnt d k ≤ d.length := by
  have := List.count_le_length (l := d) (a := (k : Int))
  unfold cnt; omega
theorem cntT_at {d : List Int} {k : Nat} {x : Int} (hk : k < 61) (h : x = (cntT d).getD k 0) : x = cnt d k := by rw [h]; exact tb_getD hk
theorem cntT_set {d : List Int} {k : Nat} {t u : Int} (ht : t = (k : Int)) (hu : u = cnt d k) : (cntT d).set k (u + 1) = cntT (d ++ [t]) := by
  unfold cntT
  rw [tb_set]
  refine tb_congr fun i _ => ?_
  unfold cnt
  rw [List.count_append, ht]
  by_cases e : i = k
  · rw [if_pos e, hu, e, cnt]; simp
  · rw [if_neg e, List.count_singleton]
    have : ((k : Int) == (i : Int)) = false := by simp; omega
    rw [this]; simp

/-- The reference's list: each length as often as it is counted. -/
def expTo (d : List Int) : Nat → List Int
  | 0 => []
  | k + 1 => expTo d k ++ List.replicate (d.count ((k + 1 : Nat) : Int)) ((k + 1 : Nat) : Int)
theorem expTo_mem {d : List Int} {k : Nat} {t : Int} (h : t ∈ expTo d k) : 1 ≤ t ∧ t ≤ k := by
  induction k with
  | zero => simp [expTo] at h
  | succ k ih =>
    rw [expTo, List.mem_append] at h
    rcases h with h | h
    · have := ih h; omega
    · have := List.eq_of_mem_replicate h; omega
theorem expTo_sorted (d : List Int) (k : Nat) : (expTo d k).Pairwise (fun x y => x ≤ y) := by
  induction k with
  | zero => simp [expTo]
  | succ k ih =>
    rw [expTo, List.pairwise_append]
    refine ⟨ih, List.pairwise_replicate.2 (.inr (Int.le_refl _)), fun a ha b hb => ?_⟩
    have h1 := expTo_mem ha
    have h2 := List.eq_of_mem_replicate hb
    omega
theorem expTo_count (d : List Int) (k : Nat) (t : Int) : (expTo d k).count t = if 1 ≤ t ∧ t ≤ k then d.count t else 0 := by
  induction k with
  | zero => rw [if_neg (by omega)]; rfl
  | succ k ih =>
    rw [expTo, List.count_append, ih, List.count_replicate]
    by_cases e : t = ((k + 1 : Nat) : Int)
    · rw [e, if_neg (by omega), if_pos (by simp), if_pos (by omega)]; omega
    · rw [if_neg (show ¬ ((((k + 1 : Nat) : Int)) == t) = true from by simp; omega)]
      by_cases q : 1 ≤ t ∧ t ≤ k
      · rw [if_pos q, if_pos (by omega)]; rfl
      · rw [if_neg q, if_neg (by omega)]
theorem expTo_eq {d : List Int} (h : ∀ t ∈ d, 1 ≤ t ∧ t ≤ 60) : expTo d 60 = srt d := by
  refine (srt_eq ?_ (expTo_sorted d 60)).symm
  rw [List.perm_iff_count]
  intro a
  rw [expTo_count]
  by_cases q : 1 ≤ a ∧ a ≤ 60
  · rw [if_pos (by omega)]
  · rw [if_neg (by omega)]
    exact List.count_eq_zero.2 fun hm => q (h a hm)
theorem expTo_step {d : List Int} {k m : Nat} (h : (m : Int) = cnt d (k + 1)) : expTo d k ++ List.replicate m ((k + 1 : Nat) : Int) = expTo d (k + 1) := by
  have : m = d.count ((k + 1 : Nat) : Int) := by unfold cnt at h; omega
  rw [expTo, this]

/-- No length twice; all lengths up to the last mark. -/
def oneP (d : List Int) (k : Nat) : Bool := decide (cnt d (k + 1) ≤ 1)
def someP (d : List Int) (k : Nat) : Bool := decide (cnt d (k + 1) ≠ 0)
def golB (xs : List Int) : Bool := rulerB xs && okTo (oneP (difs xs)) 60
def measB (xs : List Int) : Bool := rulerB xs && okTo (someP (difs xs)) (xs.getD (xs.length - 1) 0).toNat
def lenL (xs : List Int) : List Int := if rulerB xs = true then srt (difs xs) else []
theorem lenL_length (xs : List Int) : (lenL xs).length ≤ 64 := by
  unfold lenL
  split
  next h => rw [srt_length]; exact difTo_le (Nat.le_refl _) (rlr_len h).2
  next => simp
theorem asc_iff (l : List Int) : ascB l = true ↔ l.Pairwise (fun x y => x < y) := by
  rw [List.pairwise_iff_getElem]
  constructor
  · intro h i j hi hj hij
    have := asc_lt h j i hij hj
    rwa [List.getD, List.getD, List.getElem?_eq_getElem hi, List.getElem?_eq_getElem hj] at this
  · intro h
    refine okTo_iff.2 fun k hk => ?_
    rw [ascP]
    by_cases e : k = 0
    · rw [decide_eq_true e]; rfl
    · have := h (k - 1) k (by omega) hk (by omega)
      rw [List.getD, List.getD, List.getElem?_eq_getElem hk, List.getElem?_eq_getElem (show k - 1 < l.length from by omega)]
      simp [this]
theorem asc_srt {d : List Int} (hd : ∀ t ∈ d, 1 ≤ t ∧ t ≤ 60) : ascB (srt d) = okTo (oneP d) 60 := by
  rw [Bool.eq_iff_iff, asc_iff, okTo_iff]
  constructor
  · intro h k hk
    have hn : (srt d).Nodup := h.imp fun {a b} hab => by omega
    have h1 := (List.nodup_iff_count.1 hn) ((k + 1 : Nat) : Int)
    rw [List.perm_iff_count.1 (srt_perm d)] at h1
    rw [oneP, decide_eq_true_eq, cnt]
    omega
  · intro h
    have hn : (srt d).Nodup := List.nodup_iff_count.2 fun a => by
      rw [List.perm_iff_count.1 (srt_perm d)]
      by_cases q : 1 ≤ a ∧ a ≤ 60
      · have h1 := of_decide_eq_true (h (a - 1).toNat (by omega))
        rw [cnt, show (((a - 1).toNat + 1 : Nat) : Int) = a from by omega] at h1
        omega
      · rw [List.count_eq_zero.2 fun hm => q (hd a hm)]; omega
    exact ((srt_sorted d).and hn).imp fun {a b} hab => by have := hab.1; have := hab.2; omega
theorem has_srt {d : List Int} (k : Nat) : decide (((k + 1 : Nat) : Int) ∈ srt d) = someP d k := by
  rw [someP]
  congr 1
  rw [(srt_perm d).mem_iff, cnt, eq_iff_iff, ← List.count_pos_iff]
  omega
theorem golB_eq {xs : List Int} (h : rulerB xs = true) : golB xs = ascB (srt (difs xs)) := by rw [golB, h, Bool.true_and, asc_srt (difs_bd h)]
end Go.Proofs.Ytemeechmemhokaa
