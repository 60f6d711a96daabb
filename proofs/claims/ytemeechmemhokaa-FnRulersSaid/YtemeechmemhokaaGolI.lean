/- Contracts of LengthsOf, IsGolomb, MeasuresAll (and hasInt) in the program. No conditions. -/
import Derived.Test.YtemeechmemhokaaLen
import Derived.Test.YtemeechmemhokaaRuler
namespace Go.Proofs.Ytemeechmemhokaa
open Go.RowKit

theorem not_mem_step {xs : List Int} {k : Nat} {x q : Int} (hk : k < xs.length) (hx : x = xs.getD k 0) (h : ¬ q ∈ xs.take k) (hq : ¬ x = q) : ¬ q ∈ xs.take (k + 1) := by
  rw [take_succ_getD xs k hk, List.mem_append, ← hx]
  simp only [List.mem_singleton]
  intro e
  rcases e with e | e
  · exact h e
  · exact hq e.symm

theorem implHasInt {w : World} {base : Nat} {v : Value} {xs : List Int} {q : Int} (h : OI w base v xs) :
    Calls Try.prog 33 #[v, .int .i64 q] w fun e w' => e = .returned (.bool (decide (q ∈ xs))) ∧ w = w' := by
  obtain ⟨ad, cap, rfl, hm⟩ := h.shape
  go_enter Try.func33, Try.ntmps33
  go_wp2
  go_loop [6, 9] (fun _ i => ∃ k : Nat, k ≤ xs.length ∧ i = .int .i64 k ∧ Hid (¬ q ∈ xs.take k)) (fun _ i => xs.length - (intOf i).toNat)
  case atStart => exact ⟨0, Nat.zero_le _, rfl, by unfold Hid; simp⟩
  case round =>
    obtain ⟨k, hk, rfl, HT⟩ := hrel
    by_cases hlt : k < xs.length
    · obtain ⟨x, HX, ix, c1⟩ := h.at hlt
      by_cases hq : x = q
      · have hq2 : (x == q) = true := by simpa using hq
        have HQ := Lib.hid hq
        clear hq
        go_wp2
        go_ret
        exact ⟨ret_bool (by
          symm
          rw [decide_eq_true_iff, ← HQ.out, HX.out, List.getD, List.getElem?_eq_getElem hlt]
          exact List.getElem_mem hlt), rfl⟩
      · have hq2 : (x == q) = false := by simpa using hq
        have HQ := Lib.hid hq
        clear hq
        go_wp2
        go_round
        case rel => exact ⟨k + 1, by omega, by go_num, not_mem_step hlt HX.out HT.out HQ.out⟩
        case measure => simp [intOf]; omega
    · go_wp2
      go_ret
      exact ⟨ret_bool (by
        symm
        rw [decide_eq_false_iff_not]
        have h1 := HT.out
        rwa [List.take_of_length_le (by omega)] at h1), rfl⟩

theorem implLengthsOf {w : World} {base : Nat} {v : Value} {xs : List Int} (h : OI w base v xs) : Calls Try.prog 11 #[v] w (RetOI w (lenL xs)) := by
  cases hr : rulerB xs
  · have hr2 : (!rulerB xs) = true := by rw [hr]; rfl
    have HR := Lib.hid hr
    clear hr
    go_enter Try.func11, Try.ntmps11
    go_wp2_with (first | (go_at_call 28; refine (implRulerOk h).mono ?_; rintro e w' ⟨rfl, n, rfl⟩) | fail)
    go_wp2
    go_ret
    exact ⟨_, rfl, by rw [lenL, HR.out]; exact OI.nil _ _, bDrewN (Below.refl _ _) _⟩
  · have hr2 : (!rulerB xs) = false := by rw [hr]; rfl
    have HR := Lib.hid hr
    clear hr
    go_enter Try.func11, Try.ntmps11
    go_wp2_with (first | (go_at_call 28; refine (implRulerOk h).mono ?_; rintro e w' ⟨rfl, n, rfl⟩) | (go_at_call 31; refine (implLengths (h.drewN n) HR.out).mono ?_; rintro e w' ⟨o, rfl, ho, hb⟩) | fail)
    go_wp2
    go_ret
    exact ⟨_, rfl, by rw [lenL, if_pos HR.out]; exact ho, (bDrewN (Below.refl _ _) n).trans hb⟩

theorem implGolomb {w : World} {base : Nat} {v : Value} {xs : List Int} (h : OI w base v xs) : Calls Try.prog 16 #[v] w fun e w' => e = .returned (.bool (golB xs)) ∧ Below w.heap.size w w' := by
  cases hr : rulerB xs
  · have HR := Lib.hid hr
    go_enter Try.func16, Try.ntmps16
    go_wp2_with (first | (go_at_call 28; refine (implRulerOk h).mono ?_; rintro e w' ⟨rfl, n, rfl⟩) | fail)
    go_wp2
    go_ret
    exact ⟨ret_bool (by rw [golB, HR.out, Bool.false_and]), bDrewN (Below.refl _ _) _⟩
  · have HR := Lib.hid hr
    go_enter Try.func16, Try.ntmps16
    go_wp2_with (first | (go_at_call 28; refine (implRulerOk h).mono ?_; rintro e w' ⟨rfl, n, rfl⟩) | (go_at_call 31; refine (implLengths (h.drewN n) HR.out).mono ?_; rintro e w' ⟨o, rfl, ho, hb⟩) | (go_at_call 32; refine (implAsc ho).mono ?_; rintro e w' ⟨rfl, n2, rfl⟩) | fail)
    go_wp2
    go_ret
    exact ⟨ret_bool (golB_eq HR.out).symm, bDrewN ((bDrewN (Below.refl _ _) n).trans hb) _⟩

theorem implMeasures {w : World} {base : Nat} {v : Value} {xs : List Int} (h : OI w base v xs) : Calls Try.prog 18 #[v] w fun e w' => e = .returned (.bool (measB xs)) ∧ Below w.heap.size w w' := by
  obtain ⟨ad, cap, rfl, hm⟩ := h.shape
  cases hr : rulerB xs
  · have hr2 : (!rulerB xs) = true := by rw [hr]; rfl
    have HR := Lib.hid hr
    clear hr
    go_enter Try.func18, Try.ntmps18
    go_wp2_with (first | (go_at_call 28; refine (implRulerOk h).mono ?_; rintro e w' ⟨rfl, n, rfl⟩) | fail)
    go_wp2
    go_ret
    exact ⟨ret_bool (by rw [measB, HR.out, Bool.false_and]), bDrewN (Below.refl _ _) _⟩
  · have hr2 : (!rulerB xs) = false := by rw [hr]; rfl
    have HR := Lib.hid hr
    clear hr
    have hl := rlr_len HR.out
    go_enter Try.func18, Try.ntmps18
    go_wp2_with (first | (go_at_call 28; refine (implRulerOk h).mono ?_; rintro e w' ⟨rfl, n, rfl⟩) | (go_at_call 31; refine (implLengths (h.drewN n) HR.out).mono ?_; rintro e w' ⟨o, rfl, ho, hb⟩) | fail)
    have hb2 : Below w.heap.size w w' := (bDrewN (Below.refl _ _) n).trans hb
    clear hb
    go_wp2
    go_loopw [4] (fun i wr => ∃ k : Nat, i = .int .i64 ((k : Int) + 1) ∧ k ≤ (xs.getD (xs.length - 1) 0).toNat ∧ Hid (okTo (someP (difs xs)) k = true) ∧ Below w.heap.size w wr ∧ Hid (OI wr w.heap.size o (srt (difs xs)))) (fun i _ => 62 - (intOf i).toNat)
    case atStart => exact ⟨0, rfl, Nat.zero_le _, rfl, hb2, ho⟩
    case round =>
      clear hb2 ho
      obtain ⟨k, rfl, hk, HT, hbr, hor⟩ := hrel
      obtain ⟨y, HY, iy, c2⟩ := (h.stay hbr).atLast (by omega)
      have hyb := rlr_at HR.out (by omega) HY.out
      obtain ⟨T, hT⟩ : ∃ T : Nat, (T : Int) = y := ⟨y.toNat, by omega⟩
      have hTe : (xs.getD (xs.length - 1) 0).toNat = T := by rw [← HY.out]; omega
      rw [hTe] at hk
      replace HY := Lib.hid HY.out
      by_cases hlt : k < T
      · have hd : decide ((k : Int) + 1 ≤ y) = true := decide_eq_true (by omega)
        have hkb : k < 60 := by omega
        cases hsm : someP (difs xs) k
        · have hn : (!decide ((k : Int) + 1 ∈ srt (difs xs))) = true := by
            have := has_srt (d := difs xs) k
            rw [show ((k + 1 : Nat) : Int) = (k : Int) + 1 from by omega] at this
            rw [this, hsm]; rfl
          have HS := Lib.hid hsm
          replace hTe := Lib.hid hTe
          replace hT := Lib.hid hT
          clear hsm
          go_wp2_with (first | (go_at_call 33; refine (implHasInt (hor.out)).mono ?_; rintro e w' ⟨rfl, rfl⟩) | fail)
          go_wp2
          go_ret
          exact ⟨ret_bool (by rw [measB, HR.out, hTe.out, okTo_fail hlt HS.out]; rfl), hbr⟩
        · have hn : (!decide ((k : Int) + 1 ∈ srt (difs xs))) = false := by
            have := has_srt (d := difs xs) k
            rw [show ((k + 1 : Nat) : Int) = (k : Int) + 1 from by omega] at this
            rw [this, hsm]; rfl
          have HS := Lib.hid hsm
          replace hTe := Lib.hid hTe
          replace hT := Lib.hid hT
          clear hsm
          go_wp2_with (first | (go_at_call 33; refine (implHasInt (hor.out)).mono ?_; rintro e w' ⟨rfl, rfl⟩) | fail)
          go_wp2
          go_roundw
          case rel => exact ⟨k + 1, by go_num, by rw [hTe.out]; omega, okTo_step HT.out HS.out, hbr, hor⟩
          case measure => simp only [intOf]; have := hT.out; omega
      · have hd : decide ((k : Int) + 1 ≤ y) = false := decide_eq_false (by omega)
        replace hTe := Lib.hid hTe
        replace hT := Lib.hid hT
        obtain rfl : k = T := by omega
        go_wp2
        go_ret
        exact ⟨ret_bool (by rw [measB, HR.out, hTe.out, HT.out]; rfl), hbr⟩
end Go.Proofs.Ytemeechmemhokaa
