/- Contracts of CountLoad and IsFair, in the program and in the reference. No conditions. -/
import Derived.Test.YtfbecjeogbjnpaaBal
namespace Go.Proofs.Ytfbecjeogbjnpaa
open Go.RowKit

def cnt (t : Int) (xs : List Int) : Nat := xs.count t
theorem cnt_le (t : Int) (xs : List Int) : cnt t xs ≤ xs.length := List.count_le_length
theorem cnt_step {t : Int} {xs : List Int} {k : Nat} (hk : k < xs.length) : cnt t (xs.take (k + 1)) = cnt t (xs.take k) + if xs.getD k 0 = t then 1 else 0 := by
  rw [take_succ_getD xs k hk, cnt, List.count_append, List.count_singleton]
  by_cases h : xs.getD k 0 = t <;> simp [cnt]
theorem cnt_hit {t x : Int} {xs : List Int} {k : Nat} (hk : k < xs.length) (hx : x = xs.getD k 0) (h : x = t) : cnt t (xs.take (k + 1)) = cnt t (xs.take k) + 1 := by rw [cnt_step hk, ← hx, if_pos h]
theorem cnt_miss {t x : Int} {xs : List Int} {k : Nat} (hk : k < xs.length) (hx : x = xs.getD k 0) (h : ¬ x = t) : cnt t (xs.take (k + 1)) = cnt t (xs.take k) := by rw [cnt_step hk, ← hx, if_neg h]; rfl
theorem cnt_all {t : Int} {xs : List Int} {k : Nat} (h : xs.length ≤ k) : cnt t (xs.take k) = cnt t xs := by rw [List.take_of_length_le h]
theorem ret_int2 {k q : IntKind} {a b c d : Int} (h : a = b) (h2 : c = d) : Ending.returned (.tuple #[.int k a, .int q c]) = .returned (.tuple #[.int k b, .int q d]) := by rw [h, h2]

theorem specCountLoad {w : World} {base : Nat} {v : Value} {xs : List Int} (h : OI w base v xs) :
    Calls Try.prog 22 #[v] w fun e w' => e = .returned (.tuple #[.int .i64 (cnt 1 xs), .int .i64 (cnt (-1) xs)]) ∧ w = w' := by
  obtain ⟨ad, cap, rfl, hm⟩ := h.shape
  go_enter Try.func22, Try.ntmps22
  go_wp2
  go_loop [4, 5, 6] (fun a b i => ∃ k : Nat, k ≤ xs.length ∧ i = .int .i64 k ∧ a = .int .i64 (cnt 1 (xs.take k)) ∧ b = .int .i64 (cnt (-1) (xs.take k))) (fun _ _ i => xs.length - (intOf i).toNat)
  case atStart => exact ⟨0, Nat.zero_le _, rfl, rfl, rfl⟩
  case round =>
    obtain ⟨k, hk, rfl, rfl, rfl⟩ := hrel
    have l1 := cnt_le 1 (xs.take k)
    have l2 := cnt_le (-1) (xs.take k)
    have l3 : (xs.take k).length ≤ k := List.length_take_le _ _
    by_cases hlt : k < xs.length
    · obtain ⟨x, HX, ix, c1⟩ := h.at hlt
      go_wp2
      · have ht : (x == 1) = true := by assumption
        have e1 : x = 1 := by simpa using ht
        have H1 := Lib.hid (cnt_hit hlt HX.out e1)
        have H2 := Lib.hid (cnt_miss (t := -1) hlt HX.out (by omega))
        clear e1
        go_round
        case rel => exact ⟨k + 1, by omega, by go_num, by rw [H1.out]; go_num, by rw [H2.out]⟩
        case measure => simp [intOf]; omega
      · have ht : (x == 1) = false := by assumption
        have ht2 : (x == -1) = true := by assumption
        have e1 : x = -1 := by simpa using ht2
        have H1 := Lib.hid (cnt_miss (t := 1) hlt HX.out (by omega))
        have H2 := Lib.hid (cnt_hit hlt HX.out e1)
        clear e1
        go_round
        case rel => exact ⟨k + 1, by omega, by go_num, by rw [H1.out], by rw [H2.out]; go_num⟩
        case measure => simp [intOf]; omega
      · have ht : (x == 1) = false := by assumption
        have ht2 : (x == -1) = false := by assumption
        have H1 := Lib.hid (cnt_miss (t := 1) hlt HX.out (by simpa using ht))
        have H2 := Lib.hid (cnt_miss (t := -1) hlt HX.out (by simpa using ht2))
        go_round
        case rel => exact ⟨k + 1, by omega, by go_num, by rw [H1.out], by rw [H2.out]⟩
        case measure => simp [intOf]; omega
    · go_wp2
      go_ret2
      exact ⟨ret_int2 (by rw [cnt_all (by omega)]) (by rw [cnt_all (by omega)]), rfl⟩
theorem implCountLoad {w : World} {base : Nat} {v : Value} {xs : List Int} (h : OI w base v xs) :
    Calls Try.prog 23 #[v] w fun e w' => e = .returned (.tuple #[.int .i64 (cnt 1 xs), .int .i64 (cnt (-1) xs)]) ∧ w = w' := by
  obtain ⟨ad, cap, rfl, hm⟩ := h.shape
  go_enter Try.func23, Try.ntmps23
  go_wp2
  go_loop [4, 5, 10] (fun a b i => ∃ k : Nat, k ≤ xs.length ∧ i = .int .i64 k ∧ a = .int .i64 (cnt 1 (xs.take k)) ∧ b = .int .i64 (cnt (-1) (xs.take k))) (fun _ _ i => xs.length - (intOf i).toNat)
  case atStart => exact ⟨0, Nat.zero_le _, rfl, rfl, rfl⟩
  case round =>
    obtain ⟨k, hk, rfl, rfl, rfl⟩ := hrel
    have l1 := cnt_le 1 (xs.take k)
    have l2 := cnt_le (-1) (xs.take k)
    have l3 : (xs.take k).length ≤ k := List.length_take_le _ _
    by_cases hlt : k < xs.length
    · obtain ⟨x, HX, ix, c1⟩ := h.at hlt
      go_wp2
      · have ht : (x == 1) = true := by assumption
        have e1 : x = 1 := by simpa using ht
        have H1 := Lib.hid (cnt_hit hlt HX.out e1)
        have H2 := Lib.hid (cnt_miss (t := -1) hlt HX.out (by omega))
        clear e1
        go_round
        case rel => exact ⟨k + 1, by omega, by go_num, by rw [H1.out]; go_num, by rw [H2.out]⟩
        case measure => simp [intOf]; omega
      · have ht : (x == 1) = false := by assumption
        have ht2 : (x == -1) = true := by assumption
        have e1 : x = -1 := by simpa using ht2
        have H1 := Lib.hid (cnt_miss (t := 1) hlt HX.out (by omega))
        have H2 := Lib.hid (cnt_hit hlt HX.out e1)
        clear e1
        go_round
        case rel => exact ⟨k + 1, by omega, by go_num, by rw [H1.out], by rw [H2.out]; go_num⟩
        case measure => simp [intOf]; omega
      · have ht : (x == 1) = false := by assumption
        have ht2 : (x == -1) = false := by assumption
        have H1 := Lib.hid (cnt_miss (t := 1) hlt HX.out (by simpa using ht))
        have H2 := Lib.hid (cnt_miss (t := -1) hlt HX.out (by simpa using ht2))
        go_round
        case rel => exact ⟨k + 1, by omega, by go_num, by rw [H1.out], by rw [H2.out]⟩
        case measure => simp [intOf]; omega
    · go_wp2
      go_ret2
      exact ⟨ret_int2 (by rw [cnt_all (by omega)]) (by rw [cnt_all (by omega)]), rfl⟩

def fairB (n : Int) (xs : List Int) : Bool := loadB n xs && (decide ((cnt 1 xs : Int) = (cnt (-1) xs : Int)) && decide (1 ≤ cnt 1 xs))

theorem fairB_yes {n : Int} {xs : List Int} (h1 : loadB n xs = true) (h2 : (cnt 1 xs : Int) = (cnt (-1) xs : Int)) : fairB n xs = decide (0 < cnt (-1) xs) := by
  rw [fairB, h1, Bool.true_and, decide_eq_true h2, Bool.true_and, decide_eq_decide]; omega
theorem fairB_yes1 {n : Int} {xs : List Int} (h1 : loadB n xs = true) (h2 : (cnt 1 xs : Int) = (cnt (-1) xs : Int)) : fairB n xs = decide (1 ≤ cnt (-1) xs) := by
  rw [fairB_yes h1 h2, decide_eq_decide]; omega
theorem fairB_no {n : Int} {xs : List Int} (h2 : ¬ (cnt 1 xs : Int) = (cnt (-1) xs : Int)) : fairB n xs = false := by
  rw [fairB, decide_eq_false h2, Bool.false_and, Bool.and_false]
theorem fairB_no1 {n : Int} {xs : List Int} (h1 : ¬ loadB n xs = true) : fairB n xs = false := by
  rw [fairB, Bool.eq_false_iff.2 h1, Bool.false_and]

theorem specIsFair {w : World} {base : Nat} {v : Value} {xs : List Int} {n : Int} (h : OI w base v xs) :
    Calls Try.prog 28 #[.int .i64 n, v] w fun e w' => e = .returned (.bool (fairB n xs)) ∧ w = w' := by
  go_enter Try.func28, Try.ntmps28
  go_wp2_with fail
  refine (specCountLoad h).mono ?_
  rintro e w' ⟨rfl, rfl⟩
  go_wp2_with (go_at_call 20; refine (specLoadOk h).mono ?_; rintro e w' ⟨rfl, rfl⟩)
  · have h1 : loadB n xs = true := by assumption
    have h2 : (cnt 1 xs : Int) = (cnt (-1) xs : Int) := by assumption
    go_ret
    exact ⟨ret_bool (by first | exact (fairB_yes h1 h2).symm | exact (fairB_yes1 h1 h2).symm | (rw [fairB_yes h1 h2, decide_eq_decide]; omega)), rfl⟩
  · have h2 : ¬ (cnt 1 xs : Int) = (cnt (-1) xs : Int) := by assumption
    go_ret
    exact ⟨ret_bool (fairB_no h2).symm, rfl⟩
  · have h1 : ¬ loadB n xs = true := by assumption
    go_ret
    exact ⟨ret_bool (fairB_no1 h1).symm, rfl⟩

theorem implIsFair {w : World} {base : Nat} {v : Value} {xs : List Int} {n : Int} (h : OI w base v xs) :
    Calls Try.prog 29 #[.int .i64 n, v] w fun e w' => e = .returned (.bool (fairB n xs)) ∧ w = w' := by
  go_enter Try.func29, Try.ntmps29
  go_wp2_with fail
  refine (implCountLoad h).mono ?_
  rintro e w' ⟨rfl, rfl⟩
  go_wp2_with (go_at_call 21; refine (implLoadOk h).mono ?_; rintro e w' ⟨rfl, rfl⟩)
  · have h1 : loadB n xs = true := by assumption
    have h2 : (cnt 1 xs : Int) = (cnt (-1) xs : Int) := by assumption
    go_ret
    exact ⟨ret_bool (by first | exact (fairB_yes h1 h2).symm | exact (fairB_yes1 h1 h2).symm | (rw [fairB_yes h1 h2, decide_eq_decide]; omega)), rfl⟩
  · have h2 : ¬ (cnt 1 xs : Int) = (cnt (-1) xs : Int) := by assumption
    go_ret
    exact ⟨ret_bool (fairB_no h2).symm, rfl⟩
  · have h1 : ¬ loadB n xs = true := by assumption
    go_ret
    exact ⟨ret_bool (fairB_no1 h1).symm, rfl⟩
end Go.Proofs.Ytfbecjeogbjnpaa
