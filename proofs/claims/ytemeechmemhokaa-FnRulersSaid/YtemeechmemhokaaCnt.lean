/- Contract of spec.l07Counts: how often each length occurs. -/
import Derived.Test.YtemeechmemhokaaDif
import Derived.Test.YtemeechmemhokaaArr
import Derived.Test.YtemeechmemhokaaAppAll
import Derived.BigRegion
namespace Go.Proofs.Ytemeechmemhokaa
open Go.RowKit

set_option maxRecDepth 100000 in
set_option maxHeartbeats 4000000 in
theorem specCounts {w : World} {base : Nat} {v : Value} {xs : List Int} (h : OI w base v xs) (hr : rulerB xs = true) : Calls Try.prog 30 #[v] w (RetOI w (cntT (difs xs))) := by
  obtain ⟨ad, cap, rfl, hm⟩ := h.shape
  have HR := Lib.hid hr
  have hl := rlr_len hr
  clear hr
  go_enter Try.func30, Try.ntmps30
  go_wp2_with (first | (at_make; refine make_ints rfl (.const (.int .i64 61)) (.const (.int .i64 61)) rfl 61 rfl rfl (by omega) (by omega) (by omega) ?_; intro oad w1 hmade hb1) | fail)
  rw [cntT_zero] at hmade
  go_loopw [4, 5] (fun k _ wr => ∃ i : Nat, i ≤ xs.length ∧ k = .int .i64 (i : Int) ∧ OI wr w.heap.size (.slice oad 61 61) (cntT (difTo xs i)) ∧ Below w.heap.size w wr) (fun k _ _ => xs.length - (intOf k).toNat)
  case atStart => exact ⟨0, Nat.zero_le _, rfl, hmade, hb1⟩
  case round =>
    clear hmade hb1
    obtain ⟨wo, rfl⟩ : ∃ wo, wo = wr := ⟨_, rfl⟩
    obtain ⟨k, hk, rfl, ho, hb⟩ := hrel
    by_cases hlt : k < xs.length
    · go_wp2
      go_loopw [5] (fun i wi => ∃ j : Nat, j ≤ k ∧ i = .int .i64 (j : Int) ∧ OI wi w.heap.size (.slice oad 61 61) (cntT (difTo xs k ++ rowTo xs k j)) ∧ Below w.heap.size w wi) (fun i _ => k - (intOf i).toNat)
      case atStart => exact ⟨0, Nat.zero_le _, rfl, by rw [rowTo, List.append_nil]; exact ho, hb⟩
      case round =>
        clear ho hb
        obtain ⟨j, hj, rfl, ho, hb⟩ := hrel
        by_cases hlt2 : j < k
        · obtain ⟨x, HX, ix, c1⟩ := (h.stay hb).at hlt
          obtain ⟨y, HY, iy, c2⟩ := (h.stay hb).at (k := j) (by omega)
          have hxy := dif_bd HR.out hlt2 hlt
          rw [← HX.out, ← HY.out] at hxy
          obtain ⟨t, ht⟩ : ∃ t : Nat, (t : Int) = x - y := ⟨(x - y).toNat, by omega⟩
          have e2 : IntKind.i64.wrap (x - y) = (t : Int) := by rw [← ht]; exact IntWalk.i64_in _ (by omega)
          have hj2 : (difTo xs k ++ rowTo xs k (j + 1)) = (difTo xs k ++ rowTo xs k j) ++ [x - y] := row_step HX.out HY.out
          have hn8 : (difTo xs k ++ rowTo xs k j).length ≤ 100 := by
            have := difTo_le (xs := xs) (Nat.le_of_lt hlt) hl.2
            rw [List.length_append, rowTo_length]; omega
          obtain ⟨d, hd⟩ : ∃ d, d = difTo xs k ++ rowTo xs k j := ⟨_, rfl⟩
          rw [← hd] at hj2 hn8 ho
          obtain ⟨u, HU, iu, cu, fu⟩ := ho.atN (k := t) (cntT_length _) (by omega)
          have hu : u = cnt d t := cntT_at (by omega) HU.out
          have hub := cnt_bd d t
          rw [← hu] at hub
          have e3 : IntKind.i64.wrap (u + 1) = u + 1 := IntWalk.i64_in _ (by omega)
          have hst := ho.storeN (k := t) (cntT_length _) (by omega) (u + 1)
          rw [cntT_set ht.symm hu, ← hj2] at hst
          replace hst := Lib.hid hst
          replace ho := Lib.hid ho
          replace hd := Lib.hid hd
          replace ht := Lib.hid ht
          replace hu := Lib.hid hu
          clear hj2
          go_wp2
          go_region
          go_wp2
          go_roundw
          case rel => exact ⟨j + 1, by omega, by go_num, hst.out.1, (hb.setCell hst.out.2.1 _).drew⟩
          case measure => simp only [intOf]; omega
        · obtain rfl : j = k := by omega
          go_wp2
          go_roundw
          case rel => exact ⟨j + 1, by omega, by go_num, ho, hb⟩
          case measure => simp only [intOf]; omega
    · obtain rfl : k = xs.length := by omega
      go_wp2
      go_ret
      exact ⟨_, rfl, ho, hb⟩
end Go.Proofs.Ytemeechmemhokaa
