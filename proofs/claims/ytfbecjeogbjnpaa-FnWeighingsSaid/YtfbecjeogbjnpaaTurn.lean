/- Contracts of negated, TurnLoad and NegateDigits, in the program and in the reference. Condition: all numbers are ints, the list is not longer than 2^20. -/
import Derived.Test.YtfbecjeogbjnpaaBal
import Derived.Test.YtfbecjeogbjnpaaApp
namespace Go.Proofs.Ytfbecjeogbjnpaa
open Go.RowKit

def negs (xs : List Int) : List Int := xs.map (fun x => -x)
def turnL (xs : List Int) : List Int := if sidesB xs then negs xs else []
theorem negs_length (xs : List Int) : (negs xs).length = xs.length := by simp [negs]
theorem negs_take_succ {xs : List Int} {k : Nat} {x : Int} (hk : k < xs.length) (hx : x = xs.getD k 0) : negs (xs.take (k + 1)) = negs (xs.take k) ++ [-x] := by
  rw [take_succ_getD xs k hk, negs, List.map_append, hx]; rfl
theorem sides_at {xs : List Int} {k : Nat} {x : Int} (h : sidesB xs = true) (hk : k < xs.length) (hx : x = xs.getD k 0) : -1 ≤ x ∧ x ≤ 1 := by
  have h1 := List.all_eq_true.1 h x (by rw [hx, List.getD, List.getElem?_eq_getElem hk]; exact List.getElem_mem hk)
  exact inB_iff.1 h1
theorem turnL_length (xs : List Int) : (turnL xs).length ≤ xs.length := by
  unfold turnL; split
  · rw [negs_length]; exact Nat.le_refl _
  · exact Nat.zero_le _

theorem implNegated {w : World} {base : Nat} {v : Value} {xs : List Int} (h : OI w base v xs) (hs : sidesB xs = true) (hl : xs.length ≤ 1048576) :
    Calls Try.prog 51 #[v] w (RetOI w (negs xs)) := by
  obtain ⟨ad, cap, rfl, hm⟩ := h.shape
  have HS := Lib.hid hs
  clear hs
  go_enter Try.func51, Try.ntmps51
  go_wp2
  go_loopw [3, 8] (fun o i wr => ∃ k : Nat, k ≤ xs.length ∧ i = .int .i64 k ∧ OI wr w.heap.size o (negs (xs.take k)) ∧ Below w.heap.size w wr) (fun _ i _ => xs.length - (intOf i).toNat)
  case atStart => exact ⟨0, Nat.zero_le _, rfl, OI.nil _ _, Below.refl _ _⟩
  case round =>
    obtain ⟨k, hk, rfl, ho, hb⟩ := hrel
    by_cases hlt : k < xs.length
    · obtain ⟨x, HX, ix, c1⟩ := (h.stay hb).at hlt
      have hxb := sides_at HS.out hlt HX.out
      go_wp2_with (at_builtin; refine app_int rfl (.tmp 12) (.tmp 15) rfl rfl ho rfl hb.size (by rw [negs_length, List.length_take]; omega) ?_; intro v' w1 ho1 hg1)
      go_roundw
      case rel => exact ⟨k + 1, by omega, by go_num, by rw [negs_take_succ hlt HX.out]; exact ho1, hb.grown hg1 hb.size (fun j hj => (ho.lt j hj).1)⟩
      case measure => simp [intOf]; omega
    · have hfin : OI wr w.heap.size u3 (negs xs) := by rw [List.take_of_length_le (by omega)] at ho; exact ho
      clear ho
      go_wp2
      go_ret
      exact ⟨_, rfl, hfin, hb⟩

theorem implTurnLoad {w : World} {base : Nat} {v : Value} {xs : List Int} (h : OI w base v xs) (hl : xs.length ≤ 1048576) :
    Calls Try.prog 25 #[v] w (RetOI w (turnL xs)) := by
  cases hs : sidesB xs
  · have hn : (!sidesB xs) = true := by rw [hs]; rfl
    have HS := Lib.hid hs
    clear hs
    go_enter Try.func25, Try.ntmps25
    go_wp2_with (go_at_call 50; refine (implSides h).mono ?_; rintro e w' ⟨rfl, rfl⟩)
    go_ret
    exact ⟨_, rfl, by rw [turnL, HS.out]; exact OI.nil _ _, Below.refl _ _⟩
  · have hn : (!sidesB xs) = false := by rw [hs]; rfl
    have HS := Lib.hid hs
    clear hs
    go_enter Try.func25, Try.ntmps25
    go_wp2_with (go_at_call 50; refine (implSides h).mono ?_; rintro e w' ⟨rfl, rfl⟩)
    refine (implNegated h HS.out hl).mono ?_
    rintro e w1 ⟨v1, rfl, h1, b1⟩
    go_wp2
    go_ret
    exact ⟨_, rfl, by rw [turnL, HS.out]; exact h1, b1⟩

theorem specTurnLoad {w : World} {base : Nat} {v : Value} {xs : List Int} (h : OI w base v xs) (hl : xs.length ≤ 1048576) :
    Calls Try.prog 24 #[v] w (RetOI w (turnL xs)) := by
  obtain ⟨ad, cap, rfl, hm⟩ := h.shape
  cases hs : sidesB xs
  · have HS := Lib.hid hs
    go_enter Try.func24, Try.ntmps24
    go_wp2
    go_loopw [3, 4] (fun o i wr => i = .int .i64 0 ∧ OI wr w.heap.size o [] ∧ Below w.heap.size w wr) (fun _ i _ => xs.length - (intOf i).toNat)
    case atStart => exact ⟨rfl, World.ownsRow_made _ _ _ (Nat.le_refl _) (Nat.zero_le _) rfl, (Below.refl _ _).alloc (Nat.le_refl _) _⟩
    case round =>
      obtain ⟨rfl, ho, hb⟩ := hrel
      have HO := Lib.hid ho
      clear ho
      by_cases hlt : 0 < xs.length
      · go_wp2_with (go_at_call 49; refine (specSides (h.stay hb)).mono ?_; rintro e w' ⟨rfl, rfl⟩)
        go_ret
        exact ⟨_, rfl, by rw [turnL, HS.out]; exact HO.out, hb⟩
      · have hz : decide ((0 : Int) < (xs.length : Int)) = false := decide_eq_false (by omega)
        go_wp2
        go_ret
        exact ⟨_, rfl, by rw [turnL, HS.out]; exact HO.out, hb⟩
  · have HS := Lib.hid hs
    go_enter Try.func24, Try.ntmps24
    go_wp2
    go_loopw [3, 4] (fun o i wr => ∃ k : Nat, k ≤ xs.length ∧ i = .int .i64 k ∧ OI wr w.heap.size o (negs (xs.take k)) ∧ Below w.heap.size w wr) (fun _ i _ => xs.length - (intOf i).toNat)
    case atStart => exact ⟨0, Nat.zero_le _, rfl, World.ownsRow_made _ _ _ (Nat.le_refl _) (Nat.zero_le _) rfl, (Below.refl _ _).alloc (Nat.le_refl _) _⟩
    case round =>
      obtain ⟨k, hk, rfl, ho, hb⟩ := hrel
      by_cases hlt : k < xs.length
      · obtain ⟨x, HX, ix, c1⟩ := (h.stay hb).at hlt
        have hxb := sides_at HS.out hlt HX.out
        go_wp2_with (first | (go_at_call 49; refine (specSides (h.stay hb)).mono ?_; rintro e w' ⟨rfl, rfl⟩) | (at_builtin; refine app_int rfl (.tmp 16) (.tmp 22) rfl rfl ho rfl hb.size (by rw [negs_length, List.length_take]; omega) ?_; intro v' w1 ho1 hg1))
        go_roundw
        case rel => exact ⟨k + 1, by omega, by go_num, by rw [negs_take_succ hlt HX.out]; exact ho1, hb.grown hg1 hb.size (fun j hj => (ho.lt j hj).1)⟩
        case measure => simp [intOf]; omega
      · have hfin : OI wr w.heap.size u3 (negs xs) := by rw [List.take_of_length_le (by omega)] at ho; exact ho
        have hz : decide ((k : Int) < (xs.length : Int)) = false := decide_eq_false (by omega)
        clear ho
        go_wp2
        go_ret
        exact ⟨_, rfl, by rw [turnL, HS.out]; exact hfin, hb⟩
end Go.Proofs.Ytfbecjeogbjnpaa
