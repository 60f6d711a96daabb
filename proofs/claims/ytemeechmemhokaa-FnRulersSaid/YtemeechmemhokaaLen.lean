/- Contract of impl.lengths: the lengths between the marks, sorted. -/
import Derived.Test.YtemeechmemhokaaSort
import Derived.Test.YtemeechmemhokaaApp
import Derived.Deep.RegionHeld3
namespace Go.Proofs.Ytemeechmemhokaa
open Go.RowKit

theorem implLengths {w : World} {base : Nat} {v : Value} {xs : List Int} (h : OI w base v xs) (hr : rulerB xs = true) : Calls Try.prog 31 #[v] w (RetOI w (srt (difs xs))) := by
  obtain ⟨ad, cap, rfl, hm⟩ := h.shape
  have HR := Lib.hid hr
  have hl := rlr_len hr
  obtain ⟨_, _, _, cw⟩ := h.at0 (by omega)
  have lx : gOf ad < w.heap.size := World.cell_lt cw
  clear hr cw
  go_enter Try.func31, Try.ntmps31
  go_wp2
  go_loopw [3, 4, 5, 8] (fun o _ _ i wr => ∃ k : Nat, k ≤ xs.length ∧ i = .int .i64 (k : Int) ∧ OI wr w.heap.size o (difTo xs k) ∧ Below w.heap.size w wr) (fun _ _ _ i _ => xs.length - (intOf i).toNat)
  case atStart => exact ⟨0, Nat.zero_le _, rfl, OI.nil _ _, Below.refl _ _⟩
  case round =>
    obtain ⟨wo, rfl⟩ : ∃ wo, wo = wr := ⟨_, rfl⟩
    obtain ⟨k, hk, rfl, ho, hb⟩ := hrel
    by_cases hlt : k < xs.length
    · go_wp2
      go_loopw [3, 5, 12] (fun o _ i wi => ∃ j : Nat, j ≤ k ∧ i = .int .i64 (j : Int) ∧ OI wi w.heap.size o (difTo xs k ++ rowTo xs k j) ∧ Below w.heap.size w wi) (fun _ _ i _ => k - (intOf i).toNat)
      case atStart => exact ⟨0, Nat.zero_le _, rfl, by rw [rowTo, List.append_nil]; exact ho, hb⟩
      case round =>
        clear ho hb
        obtain ⟨j, hj, rfl, ho, hb⟩ := hrel
        by_cases hlt2 : j < k
        · obtain ⟨x, HX, ix, c1⟩ := (h.stay hb).at hlt
          obtain ⟨y, HY, iy, c2⟩ := (h.stay hb).at (k := j) (by omega)
          have hxy := dif_bd HR.out hlt2 hlt
          rw [← HX.out, ← HY.out] at hxy
          have e2 : IntKind.i64.wrap (x - y) = x - y := IntWalk.i64_in _ (by omega)
          have hn8 : (difTo xs k ++ rowTo xs k j).length ≤ 1099511627776 := by
            have := difTo_le (xs := xs) (Nat.le_of_lt hlt) hl.2
            rw [List.length_append, rowTo_length]; omega
          have hj2 : (difTo xs k ++ rowTo xs k (j + 1)) = (difTo xs k ++ rowTo xs k j) ++ [x - y] := row_step HX.out HY.out
          have HJ := Lib.hid hj2
          have hbs := hb.size
          clear hj2
          obtain ⟨L, hL⟩ : ∃ L, L = difTo xs k ++ rowTo xs k j := ⟨_, rfl⟩
          rw [← hL] at ho hn8
          have HL := Lib.hid hL
          clear hL
          go_wp2
          go_region_held3 (fun w' => w'.cell? ⟨gOf ad, k, none⟩ = some (.int .i64 x) ∧ w'.cell? ⟨gOf ad, j, none⟩ = some (.int .i64 y))
            (first
              | go_keep
              | (exact ⟨keepCell (hp := lx) (ho.drewN 1) (by assumption) c1, keepCell (hp := lx) (ho.drewN 1) (by assumption) c2⟩))
            ((refine step_app (.tmp 15) (.tmp 25) (by rfl) (by rfl) (ho.drewN 1) (by rfl) (by rfl) (by rfl) hbs hn8 ?_; intro v' w1 ho1 hg1 _))
          go_wp2
          go_roundw
          case rel => exact ⟨j + 1, by omega, by go_num, by rw [HJ.out, ← HL.out]; exact ho1, (bDrewN hb 1).grown hg1 hbs (fun j hj => (ho.lt j hj).1)⟩
          case measure => simp only [intOf]; omega
        · obtain rfl : j = k := by omega
          go_wp2
          go_roundw
          case rel => exact ⟨j + 1, by omega, by go_num, ho, hb⟩
          case measure => simp only [intOf]; omega
    · obtain rfl : k = xs.length := by omega
      have hn8 : (difTo xs xs.length).length ≤ 1099511627776 := by
        have := difTo_le (xs := xs) (Nat.le_refl _) hl.2
        omega
      go_wp2_with (first | (go_at_call 40; refine (sortOwn ho hn8).mono ?_; rintro e w' ⟨rfl, hs, hg⟩) | fail)
      go_wp2
      go_ret
      exact ⟨_, rfl, hs, hb.grown hg hb.size (fun j hj => (ho.lt j hj).1)⟩
end Go.Proofs.Ytemeechmemhokaa
