/- Contract of laws.sameInts. No conditions. -/
import Derived.Test.YtemeechmemhokaaInts
namespace Go.Proofs.Ytemeechmemhokaa
open Go.RowKit

theorem sameInts_any {w : World} {b0 b1 : Nat} {v0 v1 : Value} {xs ys : List Int} (h0 : OI w b0 v0 xs) (h1 : OI w b1 v1 ys) :
    Calls Try.prog 27 #[v0, v1] w fun e w' => e = .returned (.bool (decide (xs = ys))) ∧ Q w w' := by
  obtain ⟨i0, hi, hz0, hz1, hz2⟩ := info_parts info_int
  obtain ⟨ad0, cap0, g0, rfl, hc0, hm0, hn0, hx0⟩ := h0.view
  obtain ⟨ad1, cap1, g1, rfl, hc1, hm1, hn1, hx1⟩ := h1.view
  clear h0 h1 hn0 hn1
  unfold maxLen at hm0 hm1
  have HI := Lib.hid hi
  clear hi
  by_cases hne : xs.length = ys.length
  · have l1 : xs.length ≤ ys.length := by omega
    have l2 : ys.length ≤ xs.length := by omega
    have HN := Lib.hid hne
    clear hne
    go_enter Try.func27, Try.ntmps27
    go_wp2
    go_loopw [5] (fun i wr => ∃ k : Nat, k ≤ xs.length ∧ i = .int .i64 k ∧ xs.take k = ys.take k ∧ Q w wr) (fun i _ => xs.length - (intOf i).toNat)
    case atStart => exact ⟨0, Nat.zero_le _, rfl, rfl, (by repeat (first | exact Q.refl _ | exact Q.mk _ _ | apply Q.drewN | apply Q.drew))⟩
    case round =>
      obtain ⟨k, hk, rfl, htk, nq, rfl⟩ := hrel
      have HT := Lib.hid htk
      clear htk
      by_cases hlt : k < xs.length
      · have i0 := indexAt_some Try.underlying22 HI.out hz1 (hx0 k hlt).1 hlt .i64 (cap := cap0)
        have i1 := indexAt_some Try.underlying22 HI.out hz1 (hx1 k (by omega)).1 (n := ys.length) (i := k) (by omega) .i64 (cap := cap1)
        have c0 := (hx0 k hlt).2.2.2.1
        have c1 := (hx1 k (by omega)).2.2.2.1
        obtain ⟨x, hx⟩ : ∃ x, x = xs.getD k 0 := ⟨_, rfl⟩
        obtain ⟨y, hy⟩ : ∃ y, y = ys.getD k 0 := ⟨_, rfl⟩
        rw [← hx] at c0
        rw [← hy] at c1
        have HX := Lib.hid hx
        have HY := Lib.hid hy
        clear hx0 hx1 hx hy
        go_wp2
        go_quiet (fail)
        go_wp2
        · have ht : (x != y) = true := by assumption
          go_ret
          exact ⟨ret_bool (eq_of_ne (k := k) (by rw [← HX.out, ← HY.out]; exact bne_iff_ne.1 ht)).symm, (by repeat (first | exact Q.refl _ | exact Q.mk _ _ | apply Q.drewN | apply Q.drew))⟩
        · have ht : (x != y) = false := by assumption
          have hxy : x = y := by simpa using ht
          have HE := Lib.hid hxy
          clear hxy ht
          go_roundw
          case rel => exact ⟨k + 1, by omega, by go_num, by rw [take_succ_getD _ _ hlt, take_succ_getD _ _ (by omega), HT.out, ← HX.out, ← HY.out, HE.out], (by repeat (first | exact Q.refl _ | exact Q.mk _ _ | apply Q.drewN | apply Q.drew))⟩
          case measure => simp [intOf]; omega
      · have hk2 : k = xs.length := by omega
        have hfin : xs = ys := by
          have h := HT.out
          rw [List.take_of_length_le (by omega), List.take_of_length_le (by omega)] at h
          exact h
        clear hx0 hx1
        go_wp2
        go_ret
        exact ⟨ret_bool (by simp [hfin]), (by repeat (first | exact Q.refl _ | exact Q.mk _ _ | apply Q.drewN | apply Q.drew))⟩
  · have hne2 : ((xs.length : Int) != (ys.length : Int)) = true := by simp; omega
    go_enter Try.func27, Try.ntmps27
    go_wp2
    go_ret
    exact ⟨ret_bool (by symm; simp only [decide_eq_false_iff_not]; intro e; rw [e] at hne; exact hne rfl), (by repeat (first | exact Q.refl _ | exact Q.mk _ _ | apply Q.drewN | apply Q.drew))⟩

end Go.Proofs.Ytemeechmemhokaa
