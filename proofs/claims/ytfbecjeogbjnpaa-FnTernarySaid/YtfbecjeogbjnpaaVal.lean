/- Contracts of ValueOf, NegateDigits and CountWeights, in the program and in the reference. Condition: the list is not longer than 2^20. -/
import Derived.Test.YtfbecjeogbjnpaaTurn
import Derived.Test.YtfbecjeogbjnpaaCount
import Derived.Test.YtfbecjeogbjnpaaDigits
namespace Go.Proofs.Ytfbecjeogbjnpaa
open Go.RowKit

def valR (xs : List Int) : Int := xs.foldr (fun d n => 3 * n + d) 0
theorem valR_drop {xs : List Int} {k : Nat} {x : Int} (hk : k < xs.length) (hx : x = xs.getD k 0) : valR (xs.drop k) = 3 * valR (xs.drop (k + 1)) + x := by
  rw [List.drop_eq_getElem_cons hk, valR, List.foldr_cons, hx, List.getD, List.getElem?_eq_getElem hk]; rfl
theorem valR_end {xs : List Int} {k : Nat} (hk : xs.length ≤ k) : valR (xs.drop k) = 0 := by rw [List.drop_of_length_le hk]; rfl
theorem valR_pow (ys : List Int) : (∀ y ∈ ys, -1 ≤ y ∧ y ≤ 1) → -(3 : Int) ^ ys.length < 2 * valR ys ∧ 2 * valR ys < (3 : Int) ^ ys.length := by
  induction ys with
  | nil => intro _; exact ⟨by decide, by decide⟩
  | cons y ys ih =>
    intro h
    have h1 := ih fun z hz => h z (List.mem_cons_of_mem _ hz)
    have h2 := h y List.mem_cons_self
    have e : valR (y :: ys) = 3 * valR ys + y := rfl
    rw [e, List.length_cons, Int.pow_succ]
    omega
theorem sides_all {xs : List Int} (h : sidesB xs = true) : ∀ y ∈ xs, -1 ≤ y ∧ y ≤ 1 := fun y hy => inB_iff.1 (List.all_eq_true.1 h y hy)
theorem pow3_le (n : Nat) (h : n ≤ 10) : (3 : Int) ^ n ≤ 59049 := by
  have : (3 : Nat) ^ n ≤ 3 ^ 10 := Nat.pow_le_pow_right (by decide) h
  have h2 : ((3 ^ n : Nat) : Int) ≤ ((3 ^ 10 : Nat) : Int) := by exact_mod_cast this
  simpa using h2
theorem valR_bd {xs : List Int} (h : sidesB xs = true) (hl : xs.length ≤ 10) (k : Nat) : -59049 ≤ valR (xs.drop k) ∧ valR (xs.drop k) ≤ 59049 := by
  have h1 := valR_pow (xs.drop k) fun y hy => sides_all h y (List.mem_of_mem_drop hy)
  have h2 := pow3_le (xs.drop k).length (by rw [List.length_drop]; omega)
  omega

def valC (xs : List Int) : Int := if xs.length ≤ 10 ∧ sidesB xs = true then valR xs else 0
theorem valC_yes {xs : List Int} (h1 : xs.length ≤ 10) (h2 : sidesB xs = true) : valC xs = valR xs := if_pos ⟨h1, h2⟩
theorem valC_long {xs : List Int} (h1 : 10 < xs.length) : valC xs = 0 := if_neg (by omega)
theorem valC_no {xs : List Int} (h2 : sidesB xs = false) : valC xs = 0 := if_neg (by rw [h2]; simp)

theorem implValueOf {w : World} {base : Nat} {v : Value} {xs : List Int} (h : OI w base v xs) :
    Calls Try.prog 38 #[v] w fun e w' => e = .returned (.int .i64 (valC xs)) ∧ w = w' := by
  obtain ⟨ad, cap, rfl, hm⟩ := h.shape
  by_cases hlen : 10 < xs.length
  · go_enter Try.func38, Try.ntmps38
    go_wp2_with fail
    go_wp2
    go_ret
    exact ⟨ret_int (valC_long hlen).symm, rfl⟩
  · have hl : xs.length ≤ 10 := by omega
    have hd : decide ((10 : Int) < (xs.length : Int)) = false := decide_eq_false (by omega)
    cases hs : sidesB xs
    · have hn : (!sidesB xs) = true := by rw [hs]; rfl
      have HS := Lib.hid hs
      clear hs
      go_enter Try.func38, Try.ntmps38
      go_wp2_with (go_at_call 50; refine (implSides h).mono ?_; rintro e w' ⟨rfl, rfl⟩)
      go_ret
      exact ⟨ret_int (valC_no HS.out).symm, rfl⟩
    · have hn : (!sidesB xs) = false := by rw [hs]; rfl
      have HS := Lib.hid hs
      clear hs
      go_enter Try.func38, Try.ntmps38
      go_wp2_with (go_at_call 50; refine (implSides h).mono ?_; rintro e w' ⟨rfl, rfl⟩)
      go_loop [3, 4] (fun n i => ∃ k : Nat, k ≤ xs.length ∧ i = .int .i64 ((k : Int) - 1) ∧ n = .int .i64 (valR (xs.drop k))) (fun _ i => (intOf i + 1).toNat)
      case atStart => exact ⟨xs.length, Nat.le_refl _, rfl, by rw [valR_end (Nat.le_refl _)]⟩
      case round =>
        obtain ⟨k, hk, rfl, rfl⟩ := hrel
        by_cases hk0 : 0 < k
        · obtain ⟨j, rfl⟩ : ∃ j, k = j + 1 := ⟨k - 1, by omega⟩
          rw [show (((j + 1 : Nat) : Int) - 1) = (j : Int) from by omega]
          obtain ⟨x, HX, ix, c1⟩ := h.at (k := j) (by omega)
          have hb1 := valR_bd HS.out hl (j + 1)
          have hx1 := sides_at HS.out (by omega) HX.out
          obtain ⟨n, hn⟩ : ∃ n, n = valR (xs.drop (j + 1)) := ⟨_, rfl⟩
          rw [← hn] at hb1 ⊢
          have HN := Lib.hid hn
          clear hn
          go_wp2
          go_round
          case rel => exact ⟨j, by omega, rfl, by rw [valR_drop (by omega) HX.out, HN.out]⟩
          case measure => simp only [intOf]; omega
        · have hk1 : k = 0 := by omega
          subst hk1
          go_wp2
          go_ret
          exact ⟨ret_int (by rw [valC_yes hl HS.out]), rfl⟩
theorem specValueOf {w : World} {base : Nat} {v : Value} {xs : List Int} (h : OI w base v xs) :
    Calls Try.prog 37 #[v] w fun e w' => e = .returned (.int .i64 (valC xs)) ∧ w = w' := by
  obtain ⟨ad, cap, rfl, hm⟩ := h.shape
  by_cases hlen : 10 < xs.length
  · have hd : decide ((10 : Int) < (xs.length : Int)) = true := decide_eq_true (by omega)
    cases hs : sidesB xs
    all_goals
      go_enter Try.func37, Try.ntmps37
      go_wp2_with (go_at_call 49; refine (specSides h).mono ?_; rintro e w' ⟨rfl, rfl⟩)
      go_ret
      exact ⟨ret_int (valC_long hlen).symm, rfl⟩
  · have hl : xs.length ≤ 10 := by omega
    have hd : decide ((10 : Int) < (xs.length : Int)) = false := decide_eq_false (by omega)
    cases hs : sidesB xs
    · have hn : (!sidesB xs) = true := by rw [hs]; rfl
      have HS := Lib.hid hs
      clear hs
      go_enter Try.func37, Try.ntmps37
      go_wp2_with (go_at_call 49; refine (specSides h).mono ?_; rintro e w' ⟨rfl, rfl⟩)
      go_ret
      exact ⟨ret_int (valC_no HS.out).symm, rfl⟩
    · have hn : (!sidesB xs) = false := by rw [hs]; rfl
      have HS := Lib.hid hs
      clear hs
      go_enter Try.func37, Try.ntmps37
      go_wp2_with (go_at_call 49; refine (specSides h).mono ?_; rintro e w' ⟨rfl, rfl⟩)
      go_loop [3, 4] (fun n i => ∃ k : Nat, k ≤ xs.length ∧ i = .int .i64 ((k : Int) - 1) ∧ n = .int .i64 (valR (xs.drop k))) (fun _ i => (intOf i + 1).toNat)
      case atStart => exact ⟨xs.length, Nat.le_refl _, rfl, by rw [valR_end (Nat.le_refl _)]⟩
      case round =>
        obtain ⟨k, hk, rfl, rfl⟩ := hrel
        by_cases hk0 : 0 < k
        · obtain ⟨j, rfl⟩ : ∃ j, k = j + 1 := ⟨k - 1, by omega⟩
          rw [show (((j + 1 : Nat) : Int) - 1) = (j : Int) from by omega]
          obtain ⟨x, HX, ix, c1⟩ := h.at (k := j) (by omega)
          have hb1 := valR_bd HS.out hl (j + 1)
          have hx1 := sides_at HS.out (by omega) HX.out
          obtain ⟨n, hn⟩ : ∃ n, n = valR (xs.drop (j + 1)) := ⟨_, rfl⟩
          rw [← hn] at hb1 ⊢
          have HN := Lib.hid hn
          clear hn
          go_wp2
          go_round
          case rel => exact ⟨j, by omega, rfl, by rw [valR_drop (by omega) HX.out, HN.out]⟩
          case measure => simp only [intOf]; omega
        · have hk1 : k = 0 := by omega
          subst hk1
          go_wp2
          go_ret
          exact ⟨ret_int (by rw [valC_yes hl HS.out]), rfl⟩

def negD (xs : List Int) : List Int := if xs.length ≤ 10 then turnL xs else []
theorem negD_length (xs : List Int) : (negD xs).length ≤ xs.length := by
  unfold negD; split
  · exact turnL_length xs
  · exact Nat.zero_le _

theorem specNegateDigits {w : World} {base : Nat} {v : Value} {xs : List Int} (h : OI w base v xs) :
    Calls Try.prog 41 #[v] w (RetOI w (negD xs)) := by
  obtain ⟨ad, cap, rfl, hm⟩ := h.shape
  by_cases hlen : 10 < xs.length
  · go_enter Try.func41, Try.ntmps41
    go_wp2_with fail
    go_ret
    exact ⟨_, rfl, by rw [negD, if_neg (by omega)]; exact World.ownsRow_made _ _ _ (Nat.le_refl _) (Nat.zero_le _) rfl, (Below.refl _ _).alloc (Nat.le_refl _) _⟩
  · have hl : xs.length ≤ 10 := by omega
    go_enter Try.func41, Try.ntmps41
    go_wp2_with fail
    refine (specTurnLoad h (by omega)).mono ?_
    rintro e w1 ⟨v1, rfl, h1, b1⟩
    go_wp2
    go_ret
    exact ⟨_, rfl, by rw [negD, if_pos hl]; exact h1, b1⟩

theorem implNegateDigits {w : World} {base : Nat} {v : Value} {xs : List Int} (h : OI w base v xs) :
    Calls Try.prog 42 #[v] w (RetOI w (negD xs)) := by
  obtain ⟨ad, cap, rfl, hm⟩ := h.shape
  by_cases hlen : 10 < xs.length
  · go_enter Try.func42, Try.ntmps42
    go_wp2_with fail
    go_ret
    exact ⟨_, rfl, by rw [negD, if_neg (by omega)]; exact OI.nil _ _, Below.refl _ _⟩
  · have hl : xs.length ≤ 10 := by omega
    have hd : decide ((10 : Int) < (xs.length : Int)) = false := decide_eq_false (by omega)
    cases hs : sidesB xs
    · have hn : (!sidesB xs) = true := by rw [hs]; rfl
      have HS := Lib.hid hs
      clear hs
      go_enter Try.func42, Try.ntmps42
      go_wp2_with (go_at_call 50; refine (implSides h).mono ?_; rintro e w' ⟨rfl, rfl⟩)
      go_ret
      exact ⟨_, rfl, by rw [negD, if_pos hl, turnL, HS.out]; exact OI.nil _ _, Below.refl _ _⟩
    · have hn : (!sidesB xs) = false := by rw [hs]; rfl
      have HS := Lib.hid hs
      clear hs
      go_enter Try.func42, Try.ntmps42
      go_wp2_with (go_at_call 50; refine (implSides h).mono ?_; rintro e w' ⟨rfl, rfl⟩)
      refine (implNegated h HS.out (by omega)).mono ?_
      rintro e w1 ⟨v1, rfl, h1, b1⟩
      go_wp2
      go_ret
      exact ⟨_, rfl, by rw [negD, if_pos hl, turnL, HS.out]; exact h1, b1⟩

/-- How many numbers are not 0. -/
def nzc (xs : List Int) : Nat := xs.countP (fun x => x != 0)
theorem nzc_step {xs : List Int} {k : Nat} {x : Int} (hk : k < xs.length) (hx : x = xs.getD k 0) : nzc (xs.take (k + 1)) = nzc (xs.take k) + if (x != 0) = true then 1 else 0 := by
  rw [take_succ_getD xs k hk, nzc, List.countP_append, List.countP_singleton, ← hx]; rfl
theorem nzc_hit {xs : List Int} {k : Nat} {x : Int} (hk : k < xs.length) (hx : x = xs.getD k 0) (h : (x != 0) = true) : nzc (xs.take (k + 1)) = nzc (xs.take k) + 1 := by rw [nzc_step hk hx, if_pos h]
theorem nzc_miss {xs : List Int} {k : Nat} {x : Int} (hk : k < xs.length) (hx : x = xs.getD k 0) (h : (x != 0) = false) : nzc (xs.take (k + 1)) = nzc (xs.take k) := by rw [nzc_step hk hx, h]; rfl
theorem nzc_le (xs : List Int) : nzc xs ≤ xs.length := List.countP_le_length
theorem nzc_sides (xs : List Int) : (∀ y ∈ xs, -1 ≤ y ∧ y ≤ 1) → cnt 1 xs + cnt (-1) xs = nzc xs := by
  induction xs with
  | nil => intro _; rfl
  | cons y ys ih =>
    intro h
    have h1 := ih fun z hz => h z (List.mem_cons_of_mem _ hz)
    have h2 := h y List.mem_cons_self
    simp only [cnt, nzc] at h1 ⊢
    rw [List.count_cons, List.count_cons, List.countP_cons]
    have h3 : y = -1 ∨ y = 0 ∨ y = 1 := by omega
    rcases h3 with rfl | rfl | rfl <;> simp <;> omega
theorem digF_sides (f : Nat) : ∀ n, ∀ y ∈ digF f n, -1 ≤ y ∧ y ≤ 1 := by
  induction f with
  | zero => intro n y hy; cases hy
  | succ f ih =>
    intro n y hy
    rw [digF] at hy
    split at hy
    · cases hy
    · rcases List.mem_cons.1 hy with rfl | hy
      · exact dig_bd n
      · exact ih _ _ hy
theorem digsC_sides (n : Int) : ∀ y ∈ digsC n, -1 ≤ y ∧ y ≤ 1 := by
  unfold digsC; split
  · exact digF_sides _ _
  · intro y hy; cases hy

theorem specCountWeights (n : Int) (w : World) : Calls Try.prog 39 #[.int .i64 n] w fun e w' => e = .returned (.int .i64 (nzc (digsC n))) ∧ Below w.heap.size w w' := by
  have l0 := digsC_len n
  have l1 := cnt_le 1 (digsC n)
  have l2 := cnt_le (-1) (digsC n)
  go_enter Try.func39, Try.ntmps39
  go_wp2_with fail
  refine (specDigitsOf _ _).mono ?_
  rintro e w1 ⟨v1, rfl, h1, b1⟩
  go_wp2_with fail
  refine (specCountLoad h1).mono ?_
  rintro e w' ⟨rfl, rfl⟩
  go_wp2
  go_ret
  exact ⟨ret_int (by rw [← nzc_sides _ (digsC_sides n)]; omega), b1⟩

theorem implCountWeights (n : Int) (w : World) : Calls Try.prog 40 #[.int .i64 n] w fun e w' => e = .returned (.int .i64 (nzc (digsC n))) ∧ Below w.heap.size w w' := by
  have l0 := digsC_len n
  obtain ⟨xs, hxs⟩ : ∃ xs, xs = digsC n := ⟨_, rfl⟩
  rw [← hxs] at l0 ⊢
  have HXS := Lib.hid hxs
  clear hxs
  go_enter Try.func40, Try.ntmps40
  go_wp2_with fail
  refine (implDigitsOf _ _).mono ?_
  rintro e w1 ⟨v1, rfl, h1, b1⟩
  rw [← HXS.out] at h1
  obtain ⟨ad, cap, rfl, hm⟩ := h1.shape
  go_wp2
  go_loop [3, 9] (fun c i => ∃ k : Nat, k ≤ xs.length ∧ i = .int .i64 k ∧ c = .int .i64 (nzc (xs.take k))) (fun _ i => xs.length - (intOf i).toNat)
  case atStart => exact ⟨0, Nat.zero_le _, rfl, rfl⟩
  case round =>
    obtain ⟨k, hk, rfl, rfl⟩ := hrel
    have l2 := nzc_le (xs.take k)
    have l3 : (xs.take k).length ≤ k := List.length_take_le _ _
    by_cases hlt : k < xs.length
    · obtain ⟨x, HX, ix, c1⟩ := h1.at hlt
      cases hx : (x != 0)
      · have H1 := Lib.hid (nzc_miss hlt HX.out hx)
        go_wp2
        go_round
        case rel => exact ⟨k + 1, by omega, by go_num, by rw [H1.out]⟩
        case measure => simp [intOf]; omega
      · have H1 := Lib.hid (nzc_hit hlt HX.out hx)
        go_wp2
        go_round
        case rel => exact ⟨k + 1, by omega, by go_num, by rw [H1.out]; go_num⟩
        case measure => simp [intOf]; omega
    · go_wp2
      go_ret
      exact ⟨ret_int (by rw [List.take_of_length_le (by omega)]), b1⟩
end Go.Proofs.Ytfbecjeogbjnpaa
