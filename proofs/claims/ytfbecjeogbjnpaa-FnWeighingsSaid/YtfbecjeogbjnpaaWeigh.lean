/- Contracts of sign and Weigh, in the program and in the reference. No conditions. -/
import Derived.Test.YtfbecjeogbjnpaaTurn
namespace Go.Proofs.Ytfbecjeogbjnpaa
open Go.RowKit

def signI (n : Int) : Int := if 0 < n then 1 else if n < 0 then -1 else 0
theorem specSign (n : Int) (w : World) : Calls Try.prog 52 #[.int .i64 n] w fun e w' => e = .returned (.int .i64 (signI n)) ∧ w = w' := by
  by_cases h1 : 0 < n
  · go_enter Try.func52, Try.ntmps52
    go_wp2
    go_ret
    exact ⟨ret_int (by rw [signI, if_pos h1]), rfl⟩
  · by_cases h2 : n < 0
    · go_enter Try.func52, Try.ntmps52
      go_wp2
      go_ret
      exact ⟨ret_int (by rw [signI, if_neg (by omega), if_pos h2]), rfl⟩
    · go_enter Try.func52, Try.ntmps52
      go_wp2
      go_ret
      exact ⟨ret_int (by rw [signI, if_neg (by omega), if_neg (by omega)]), rfl⟩
theorem implSign (n : Int) (w : World) : Calls Try.prog 53 #[.int .i64 n] w fun e w' => e = .returned (.int .i64 (signI n)) ∧ w = w' := by
  by_cases h1 : 0 < n
  · go_enter Try.func53, Try.ntmps53
    go_wp2
    go_ret
    exact ⟨ret_int (by rw [signI, if_pos h1]), rfl⟩
  · by_cases h2 : n < 0
    · go_enter Try.func53, Try.ntmps53
      go_wp2
      go_ret
      exact ⟨ret_int (by rw [signI, if_neg (by omega), if_pos h2]), rfl⟩
    · go_enter Try.func53, Try.ntmps53
      go_wp2
      go_ret
      exact ⟨ret_int (by rw [signI, if_neg (by omega), if_neg (by omega)]), rfl⟩

/-- The sum of weight times side over the first k. -/
def dotTo (xs ys : List Int) : Nat → Int
  | 0 => 0
  | k + 1 => dotTo xs ys k + xs.getD k 0 * ys.getD k 0
theorem dotTo_succ {xs ys : List Int} {k : Nat} {x y : Int} (hx : x = xs.getD k 0) (hy : y = ys.getD k 0) : dotTo xs ys (k + 1) = dotTo xs ys k + x * y := by rw [dotTo, hx, hy]
theorem coin_at {xs : List Int} {k : Nat} {x : Int} (h : coinsB xs = true) (hk : k < xs.length) (hx : x = xs.getD k 0) : 0 ≤ x ∧ x ≤ 10000 := by
  have h0 : xs.all coinB = true := by rw [coinsB, Bool.and_eq_true] at h; exact h.2
  have h1 := List.all_eq_true.1 h0 x (by rw [hx, List.getD, List.getElem?_eq_getElem hk]; exact List.getElem_mem hk)
  exact inB_iff.1 h1
theorem coins_len {xs : List Int} (h : coinsB xs = true) : 1 ≤ xs.length ∧ xs.length ≤ 12 := by
  rw [coinsB, Bool.and_eq_true] at h
  have := inB_iff.1 h.1
  omega
theorem load_len {n : Int} {xs : List Int} (h : loadB n xs = true) : (xs.length : Int) = n ∧ sidesB xs = true := by
  rw [loadB, Bool.and_eq_true, Bool.and_eq_true] at h
  exact ⟨of_decide_eq_true h.2.1, h.2.2⟩
theorem prod_bd {x y : Int} (hx : 0 ≤ x ∧ x ≤ 10000) (hy : -1 ≤ y ∧ y ≤ 1) : -10000 ≤ x * y ∧ x * y ≤ 10000 := by
  have h : y = -1 ∨ y = 0 ∨ y = 1 := by omega
  rcases h with rfl | rfl | rfl <;> omega
theorem dotTo_bd {xs ys : List Int} (h1 : coinsB xs = true) (h2 : sidesB ys = true) (hl : ys.length = xs.length) (k : Nat) (hk : k ≤ xs.length) : -(10000 * (k : Int)) ≤ dotTo xs ys k ∧ dotTo xs ys k ≤ 10000 * (k : Int) := by
  induction k with
  | zero => simp [dotTo]
  | succ k ih =>
    have h3 := ih (by omega)
    have h4 := prod_bd (coin_at (xs := xs) (k := k) h1 (by omega) rfl) (sides_at (xs := ys) (k := k) h2 (by omega) rfl)
    rw [dotTo]
    omega

def weighN (xs ys : List Int) : Int := if coinsB xs = true ∧ loadB xs.length ys = true then signI (dotTo xs ys xs.length) else 0
def weighB (xs ys : List Int) : Bool := coinsB xs && loadB xs.length ys
theorem ret_weigh {a b : Int} {c d : Bool} (h : a = b) (h2 : c = d) : Ending.returned (.tuple #[.int .i64 a, .bool c]) = .returned (.tuple #[.int .i64 b, .bool d]) := by rw [h, h2]

theorem implWeigh {w : World} {b0 b1 : Nat} {v0 v1 : Value} {xs ys : List Int} (h0 : OI w b0 v0 xs) (h1 : OI w b1 v1 ys) :
    Calls Try.prog 31 #[v0, v1] w fun e w' => e = .returned (.tuple #[.int .i64 (weighN xs ys), .bool (weighB xs ys)]) ∧ w = w' := by
  obtain ⟨ad0, cap0, rfl, hm0⟩ := h0.shape
  obtain ⟨ad1, cap1, rfl, hm1⟩ := h1.shape
  cases hc : coinsB xs
  · have hn : (!coinsB xs) = true := by rw [hc]; rfl
    have HC := Lib.hid hc
    clear hc
    go_enter Try.func31, Try.ntmps31
    go_wp2_with (go_at_call 18; refine (implCoinsOk h0).mono ?_; rintro e w' ⟨rfl, rfl⟩)
    go_ret2
    exact ⟨ret_weigh (by rw [weighN, HC.out]; rfl) (by rw [weighB, HC.out]; rfl), rfl⟩
  · have hn : (!coinsB xs) = false := by rw [hc]; rfl
    have HC := Lib.hid hc
    clear hc
    cases hl : loadB xs.length ys
    · have hn2 : (!loadB xs.length ys) = true := by rw [hl]; rfl
      have HL := Lib.hid hl
      clear hl
      go_enter Try.func31, Try.ntmps31
      go_wp2_with (first | (go_at_call 18; refine (implCoinsOk h0).mono ?_; rintro e w' ⟨rfl, rfl⟩) | (go_at_call 21; refine (implLoadOk h1).mono ?_; rintro e w' ⟨rfl, rfl⟩))
      go_ret2
      exact ⟨ret_weigh (by rw [weighN, HC.out, HL.out]; rfl) (by rw [weighB, HC.out, HL.out]; rfl), rfl⟩
    · have hn2 : (!loadB xs.length ys) = false := by rw [hl]; rfl
      have HL := Lib.hid hl
      clear hl
      have hcl := coins_len HC.out
      have hll := load_len HL.out
      have hyl : ys.length ≤ xs.length := by omega
      have hyl2 : xs.length ≤ ys.length := by omega
      have HLL := Lib.hid hll
      clear hll
      go_enter Try.func31, Try.ntmps31
      go_wp2_with (first | (go_at_call 18; refine (implCoinsOk h0).mono ?_; rintro e w' ⟨rfl, rfl⟩) | (go_at_call 21; refine (implLoadOk h1).mono ?_; rintro e w' ⟨rfl, rfl⟩))
      go_loop [6, 21] (fun n i => ∃ k : Nat, k ≤ xs.length ∧ i = .int .i64 k ∧ n = .int .i64 (dotTo xs ys k)) (fun _ i => xs.length - (intOf i).toNat)
      case atStart => exact ⟨0, Nat.zero_le _, rfl, rfl⟩
      case round =>
        obtain ⟨k, hk, rfl, rfl⟩ := hrel
        have hdb := dotTo_bd HC.out HLL.out.2 (by omega) k hk
        by_cases hlt : k < xs.length
        · obtain ⟨x, HX, ix, c1⟩ := h0.at hlt
          obtain ⟨y, HY, iy, c2⟩ := h1.at (k := k) (by omega)
          have hpb := prod_bd (coin_at HC.out hlt HX.out) (sides_at HLL.out.2 (by omega) HY.out)
          obtain ⟨d, hd⟩ : ∃ d, d = dotTo xs ys k := ⟨_, rfl⟩
          rw [← hd] at hdb ⊢
          have HD := Lib.hid hd
          clear hd
          go_wp2
          go_round
          case rel => exact ⟨k + 1, by omega, by go_num, by rw [dotTo_succ HX.out HY.out, HD.out]⟩
          case measure => simp [intOf]; omega
        · have hk2 : k = xs.length := by omega
          subst hk2
          go_wp2_with (go_at_call 53; refine (implSign _ _).mono ?_; rintro e w' ⟨rfl, rfl⟩)
          go_ret2
          exact ⟨ret_weigh (by rw [weighN, if_pos ⟨HC.out, HL.out⟩]) (by rw [weighB, HC.out, HL.out]; rfl), rfl⟩

theorem specWeigh {w : World} {b0 b1 : Nat} {v0 v1 : Value} {xs ys : List Int} (h0 : OI w b0 v0 xs) (h1 : OI w b1 v1 ys) :
    Calls Try.prog 30 #[v0, v1] w fun e w' => e = .returned (.tuple #[.int .i64 (weighN xs ys), .bool (weighB xs ys)]) ∧ Q w w' := by
  obtain ⟨ad0, cap0, rfl, hm0⟩ := h0.shape
  obtain ⟨ad1, cap1, rfl, hm1⟩ := h1.shape
  cases hc : coinsB xs
  · have hn : (!coinsB xs) = true := by rw [hc]; rfl
    have HC := Lib.hid hc
    clear hc
    go_enter Try.func30, Try.ntmps30
    go_wp2_with (go_at_call 16; refine (specCoinsOk h0).mono ?_; rintro e w' ⟨rfl, rfl⟩)
    go_ret2
    exact ⟨ret_weigh (by rw [weighN, HC.out]; rfl) (by rw [weighB, HC.out]; rfl), Q.refl _⟩
  · have hn : (!coinsB xs) = false := by rw [hc]; rfl
    have HC := Lib.hid hc
    clear hc
    cases hl : loadB xs.length ys
    · have hn2 : (!loadB xs.length ys) = true := by rw [hl]; rfl
      have HL := Lib.hid hl
      clear hl
      go_enter Try.func30, Try.ntmps30
      go_wp2_with (first | (go_at_call 16; refine (specCoinsOk h0).mono ?_; rintro e w' ⟨rfl, rfl⟩) | (go_at_call 20; refine (specLoadOk h1).mono ?_; rintro e w' ⟨rfl, rfl⟩))
      go_ret2
      exact ⟨ret_weigh (by rw [weighN, HC.out, HL.out]; rfl) (by rw [weighB, HC.out, HL.out]; rfl), Q.refl _⟩
    · have hn2 : (!loadB xs.length ys) = false := by rw [hl]; rfl
      have HL := Lib.hid hl
      clear hl
      have hcl := coins_len HC.out
      have hll := load_len HL.out
      have hyl : ys.length ≤ xs.length := by omega
      have hyl2 : xs.length ≤ ys.length := by omega
      have HLL := Lib.hid hll
      clear hll
      go_enter Try.func30, Try.ntmps30
      go_wp2_with (first | (go_at_call 16; refine (specCoinsOk h0).mono ?_; rintro e w' ⟨rfl, rfl⟩) | (go_at_call 20; refine (specLoadOk h1).mono ?_; rintro e w' ⟨rfl, rfl⟩))
      go_loopw [6, 7] (fun n i wr => ∃ k : Nat, k ≤ xs.length ∧ i = .int .i64 k ∧ n = .int .i64 (dotTo xs ys k) ∧ Q w wr) (fun _ i _ => xs.length - (intOf i).toNat)
      case atStart => exact ⟨0, Nat.zero_le _, rfl, rfl, Q.refl _⟩
      case round =>
        obtain ⟨k, hk, rfl, rfl, nq, rfl⟩ := hrel
        have hdb := dotTo_bd HC.out HLL.out.2 (by omega) k hk
        by_cases hlt : k < xs.length
        · obtain ⟨x, HX, ix, c1⟩ := h0.at hlt
          obtain ⟨y, HY, iy, c2⟩ := h1.at (k := k) (by omega)
          have hpb := prod_bd (coin_at HC.out hlt HX.out) (sides_at HLL.out.2 (by omega) HY.out)
          obtain ⟨d, hd⟩ : ∃ d, d = dotTo xs ys k := ⟨_, rfl⟩
          rw [← hd] at hdb ⊢
          have HD := Lib.hid hd
          clear hd
          have hlt2 : k < ys.length := by omega
          have hlt3 : (k : Int) < (ys.length : Int) := by omega
          have e1 : IntKind.i64.wrap (y * x) = x * y := by rw [Int.mul_comm]; exact IntWalk.i64_in _ (by omega)
          have e2 : IntKind.i64.wrap (d + x * y) = d + x * y := IntWalk.i64_in _ (by omega)
          go_wp2
          go_quiet (fail)
          go_wp2
          go_roundw
          case rel => exact ⟨k + 1, by omega, by go_num, by rw [dotTo_succ HX.out HY.out, HD.out], (by repeat (first | exact Q.refl _ | exact Q.mk _ _ | apply Q.drewN | apply Q.drew))⟩
          case measure => simp [intOf]; omega
        · have hk2 : k = xs.length := by omega
          subst hk2
          go_wp2_with (go_at_call 52; refine (specSign _ _).mono ?_; rintro e w' ⟨rfl, rfl⟩)
          go_ret2
          exact ⟨ret_weigh (by rw [weighN, if_pos ⟨HC.out, HL.out⟩]) (by rw [weighB, HC.out, HL.out]; rfl), (by repeat (first | exact Q.refl _ | exact Q.mk _ _ | apply Q.drewN | apply Q.drew))⟩
end Go.Proofs.Ytfbecjeogbjnpaa
