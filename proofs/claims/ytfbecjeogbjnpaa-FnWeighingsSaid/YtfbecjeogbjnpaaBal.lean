/- Contracts of CoinsOk, areSides, LoadOk, in the program and in the reference. No conditions. -/
import Derived.Test.YtfbecjeogbjnpaaInts
namespace Go.Proofs.Ytfbecjeogbjnpaa
open Go.RowKit

def coinB (x : Int) : Bool := inB x 0 10000
def coinsB (xs : List Int) : Bool := inB xs.length 1 12 && xs.all coinB
def sideB (x : Int) : Bool := inB x (-1) 1
def sidesB (xs : List Int) : Bool := xs.all sideB
def loadB (n : Int) (xs : List Int) : Bool := inB n 1 12 && (decide ((xs.length : Int) = n) && sidesB xs)

theorem specCoinsOk {w : World} {base : Nat} {v : Value} {xs : List Int} (h : OI w base v xs) :
    Calls Try.prog 16 #[v] w fun e w' => e = .returned (.bool (coinsB xs)) ∧ w = w' := by
  obtain ⟨ad, cap, rfl, hm⟩ := h.shape
  go_enter Try.func16, Try.ntmps16
  go_wp2
  go_loop [3] (fun i => ∃ k : Nat, k ≤ xs.length ∧ i = .int .i64 k ∧ Hid ((xs.take k).all coinB = true)) (fun i => xs.length - (intOf i).toNat)
  case atStart => exact ⟨0, Nat.zero_le _, rfl, all_start _ _⟩
  case round =>
    obtain ⟨k, hk, rfl, HT⟩ := hrel
    by_cases hlt : k < xs.length
    · obtain ⟨x, HX, ix, c1⟩ := h.at hlt
      go_wp2_with (go_at_call 47; refine (specIn _ _ _ _).mono ?_; rintro e w' ⟨rfl, rfl⟩)
      · have ht : (!inB x 0 10000) = true := by assumption
        go_ret
        exact ⟨ret_bool (by rw [coinsB, all_fail hlt (by rw [← HX.out]; simpa [coinB] using ht), Bool.and_false]), rfl⟩
      · have ht : (!inB x 0 10000) = false := by assumption
        go_round
        case rel => exact ⟨k + 1, by omega, by go_num, all_step hlt HT.out (by rw [← HX.out]; simpa [coinB] using ht)⟩
        case measure => simp [intOf]; omega
    · go_wp2_with (go_at_call 47; refine (specIn _ _ _ _).mono ?_; rintro e w' ⟨rfl, rfl⟩)
      go_ret
      exact ⟨ret_bool (by rw [coinsB, all_done (by omega) HT.out, Bool.and_true]), rfl⟩

theorem specSides {w : World} {base : Nat} {v : Value} {xs : List Int} (h : OI w base v xs) :
    Calls Try.prog 49 #[v] w fun e w' => e = .returned (.bool (sidesB xs)) ∧ w = w' := by
  obtain ⟨ad, cap, rfl, hm⟩ := h.shape
  go_enter Try.func49, Try.ntmps49
  go_wp2
  go_loop [3] (fun i => ∃ k : Nat, k ≤ xs.length ∧ i = .int .i64 k ∧ Hid ((xs.take k).all sideB = true)) (fun i => xs.length - (intOf i).toNat)
  case atStart => exact ⟨0, Nat.zero_le _, rfl, all_start _ _⟩
  case round =>
    obtain ⟨k, hk, rfl, HT⟩ := hrel
    by_cases hlt : k < xs.length
    · obtain ⟨x, HX, ix, c1⟩ := h.at hlt
      go_wp2_with (go_at_call 47; refine (specIn _ _ _ _).mono ?_; rintro e w' ⟨rfl, rfl⟩)
      · have ht : (!inB x (-1) 1) = true := by assumption
        go_ret
        exact ⟨ret_bool (by rw [sidesB, all_fail hlt (by rw [← HX.out]; simpa [sideB] using ht)]), rfl⟩
      · have ht : (!inB x (-1) 1) = false := by assumption
        go_round
        case rel => exact ⟨k + 1, by omega, by go_num, all_step hlt HT.out (by rw [← HX.out]; simpa [sideB] using ht)⟩
        case measure => simp [intOf]; omega
    · go_wp2
      go_ret
      exact ⟨ret_bool (by rw [sidesB, all_done (by omega) HT.out]), rfl⟩

theorem implSides {w : World} {base : Nat} {v : Value} {xs : List Int} (h : OI w base v xs) :
    Calls Try.prog 50 #[v] w fun e w' => e = .returned (.bool (sidesB xs)) ∧ w = w' := by
  obtain ⟨ad, cap, rfl, hm⟩ := h.shape
  go_enter Try.func50, Try.ntmps50
  go_wp2
  go_loop [7] (fun i => ∃ k : Nat, k ≤ xs.length ∧ i = .int .i64 k ∧ Hid ((xs.take k).all sideB = true)) (fun i => xs.length - (intOf i).toNat)
  case atStart => exact ⟨0, Nat.zero_le _, rfl, all_start _ _⟩
  case round =>
    obtain ⟨k, hk, rfl, HT⟩ := hrel
    by_cases hlt : k < xs.length
    · obtain ⟨x, HX, ix, c1⟩ := h.at hlt
      go_wp2_with (go_at_call 48; refine (implIn _ _ _ _).mono ?_; rintro e w' ⟨rfl, rfl⟩)
      · have ht : (!inB x (-1) 1) = true := by assumption
        go_ret
        exact ⟨ret_bool (by rw [sidesB, all_fail hlt (by rw [← HX.out]; simpa [sideB] using ht)]), rfl⟩
      · have ht : (!inB x (-1) 1) = false := by assumption
        go_round
        case rel => exact ⟨k + 1, by omega, by go_num, all_step hlt HT.out (by rw [← HX.out]; simpa [sideB] using ht)⟩
        case measure => simp [intOf]; omega
    · go_wp2
      go_ret
      exact ⟨ret_bool (by rw [sidesB, all_done (by omega) HT.out]), rfl⟩

theorem implCoinsOk {w : World} {base : Nat} {v : Value} {xs : List Int} (h : OI w base v xs) :
    Calls Try.prog 18 #[v] w fun e w' => e = .returned (.bool (coinsB xs)) ∧ w = w' := by
  obtain ⟨ad, cap, rfl, hm⟩ := h.shape
  cases hlen : inB xs.length 1 12
  · have hl : (!inB xs.length 1 12) = true := by rw [hlen]; rfl
    have HL := Lib.hid hlen
    clear hlen
    go_enter Try.func18, Try.ntmps18
    go_wp2_with (go_at_call 48; refine (implIn _ _ _ _).mono ?_; rintro e w' ⟨rfl, rfl⟩)
    go_ret
    exact ⟨ret_bool (by rw [coinsB, HL.out, Bool.false_and]), rfl⟩
  · have hl : (!inB xs.length 1 12) = false := by rw [hlen]; rfl
    have HL := Lib.hid hlen
    clear hlen
    go_enter Try.func18, Try.ntmps18
    go_wp2_with (go_at_call 48; refine (implIn _ _ _ _).mono ?_; rintro e w' ⟨rfl, rfl⟩)
    go_loop [11] (fun i => ∃ k : Nat, k ≤ xs.length ∧ i = .int .i64 k ∧ Hid ((xs.take k).all coinB = true)) (fun i => xs.length - (intOf i).toNat)
    case atStart => exact ⟨0, Nat.zero_le _, rfl, all_start _ _⟩
    case round =>
      obtain ⟨k, hk, rfl, HT⟩ := hrel
      by_cases hlt : k < xs.length
      · obtain ⟨x, HX, ix, c1⟩ := h.at hlt
        go_wp2_with (go_at_call 48; refine (implIn _ _ _ _).mono ?_; rintro e w' ⟨rfl, rfl⟩)
        · have ht : (!inB x 0 10000) = true := by assumption
          go_ret
          exact ⟨ret_bool (by rw [coinsB, all_fail hlt (by rw [← HX.out]; simpa [coinB] using ht), Bool.and_false]), rfl⟩
        · have ht : (!inB x 0 10000) = false := by assumption
          go_round
          case rel => exact ⟨k + 1, by omega, by go_num, all_step hlt HT.out (by rw [← HX.out]; simpa [coinB] using ht)⟩
          case measure => simp [intOf]; omega
      · go_wp2
        go_ret
        exact ⟨ret_bool (by rw [coinsB, all_done (by omega) HT.out, HL.out, Bool.and_true]), rfl⟩

theorem specLoadOk {w : World} {base : Nat} {v : Value} {xs : List Int} {n : Int} (h : OI w base v xs) :
    Calls Try.prog 20 #[.int .i64 n, v] w fun e w' => e = .returned (.bool (loadB n xs)) ∧ w = w' := by
  obtain ⟨ad, cap, rfl, hm⟩ := h.shape
  go_enter Try.func20, Try.ntmps20
  go_wp2_with (first | (go_at_call 47; refine (specIn _ _ _ _).mono ?_; rintro e w' ⟨rfl, rfl⟩) | (go_at_call 49; refine (specSides h).mono ?_; rintro e w' ⟨rfl, rfl⟩))
  · have h1 : inB n 1 12 = true := by assumption
    have h2 : (xs.length : Int) = n := by assumption
    go_ret
    exact ⟨ret_bool (by simp [loadB, h1, h2]), rfl⟩
  · have h1 : inB n 1 12 = true := by assumption
    have h2 : ¬ (xs.length : Int) = n := by assumption
    go_ret
    exact ⟨ret_bool (by simp [loadB, h2]), rfl⟩
  · have h1 : ¬ inB n 1 12 = true := by assumption
    go_ret
    exact ⟨ret_bool (by simp [loadB, h1]), rfl⟩
theorem implLoadOk {w : World} {base : Nat} {v : Value} {xs : List Int} {n : Int} (h : OI w base v xs) :
    Calls Try.prog 21 #[.int .i64 n, v] w fun e w' => e = .returned (.bool (loadB n xs)) ∧ w = w' := by
  obtain ⟨ad, cap, rfl, hm⟩ := h.shape
  go_enter Try.func21, Try.ntmps21
  go_wp2_with (first | (go_at_call 48; refine (implIn _ _ _ _).mono ?_; rintro e w' ⟨rfl, rfl⟩) | (go_at_call 50; refine (implSides h).mono ?_; rintro e w' ⟨rfl, rfl⟩))
  · have h1 : inB n 1 12 = true := by assumption
    have h2 : (xs.length : Int) = n := by assumption
    go_ret
    exact ⟨ret_bool (by simp [loadB, h1, h2]), rfl⟩
  · have h1 : inB n 1 12 = true := by assumption
    have h2 : ¬ (xs.length : Int) = n := by assumption
    go_ret
    exact ⟨ret_bool (by simp [loadB, h2]), rfl⟩
  · have h1 : ¬ inB n 1 12 = true := by assumption
    go_ret
    exact ⟨ret_bool (by simp [loadB, h1]), rfl⟩
end Go.Proofs.Ytfbecjeogbjnpaa
