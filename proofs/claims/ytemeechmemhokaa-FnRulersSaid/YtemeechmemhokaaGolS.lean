/- Contracts of LengthsOf, IsGolomb, MeasuresAll in the reference. No conditions. -/
import Derived.Test.YtemeechmemhokaaCnt
import Derived.Test.YtemeechmemhokaaRuler
namespace Go.Proofs.Ytemeechmemhokaa
open Go.RowKit

theorem rep_step {e : List Int} {k j : Nat} : e ++ List.replicate (j + 1) ((k + 1 : Nat) : Int) = (e ++ List.replicate j ((k + 1 : Nat) : Int)) ++ [((k : Int) + 1)] := by
  rw [List.replicate_succ', List.append_assoc, show ((k + 1 : Nat) : Int) = (k : Int) + 1 from by omega]

theorem expTo_len {d : List Int} (h : ∀ t ∈ d, 1 ≤ t ∧ t ≤ 60) (k : Nat) (hk : k ≤ 60) : (expTo d k).length ≤ d.length := by
  have h1 : (expTo d 60).length = d.length := by rw [expTo_eq h, srt_length]
  have h2 : ∀ m, (expTo d k).length ≤ (expTo d (k + m)).length := fun m => by
    induction m with
    | zero => exact Nat.le_refl _
    | succ m ih => rw [← Nat.add_assoc, expTo, List.length_append]; omega
  have h3 := h2 (60 - k)
  rw [show k + (60 - k) = 60 from by omega] at h3
  omega

set_option maxRecDepth 100000 in
set_option maxHeartbeats 4000000 in
theorem specLengthsOf {w : World} {base : Nat} {v : Value} {xs : List Int} (h : OI w base v xs) : Calls Try.prog 9 #[v] w (RetOI w (lenL xs)) := by
  have hA : OI (w.alloc (.cells #[] 3)) base v xs := h.stay (bAl (Below.refl _ _) _)
  have hE := oi_empty w w.heap.size (Nat.le_refl _)
  have hAb : Below w.heap.size w (w.alloc (.cells #[] 3)) := bAl (Below.refl _ _) _
  cases hr : rulerB xs
  · have hr2 : (!rulerB xs) = true := by rw [hr]; rfl
    have HR := Lib.hid hr
    clear hr
    go_enter Try.func9, Try.ntmps9
    go_wp2_with (first | (go_at_call 29; refine (specRulerOk hA).mono ?_; rintro e w' ⟨rfl, n, rfl⟩) | fail)
    go_wp2
    go_ret
    exact ⟨_, rfl, by rw [lenL, HR.out]; exact hE, bDrewN hAb _⟩
  · have hr2 : (!rulerB xs) = false := by rw [hr]; rfl
    have HR := Lib.hid hr
    have hd := difs_bd hr
    have hdl : (difs xs).length ≤ 64 := difTo_le (Nat.le_refl _) (rlr_len hr).2
    have hel := Lib.hid (expTo_len hd)
    have hee := expTo_eq hd
    clear hr hd
    obtain ⟨d, ed⟩ : ∃ d, d = difs xs := ⟨_, rfl⟩
    rw [← ed] at hel hee hdl
    replace hee := Lib.hid hee
    replace ed := Lib.hid ed
    go_enter Try.func9, Try.ntmps9
    go_wp2_with (first | (go_at_call 29; refine (specRulerOk hA).mono ?_; rintro e w' ⟨rfl, n, rfl⟩) | (go_at_call 30; refine (specCounts (hA.drewN n) HR.out).mono ?_; rintro e w' ⟨o, rfl, ho, hb⟩) | fail)
    rw [← ed.out] at ho
    have hO : OI w' w.heap.size (.slice (some ⟨w.heap.size, 0, none⟩) 0 0) [] := (hE.drewN n).stay hb
    have hap : Apart (.slice (some ⟨w.heap.size, 0, none⟩) 0 0) o := apart_new (hE.drewN n) ho
    have hb2 : Below w.heap.size w w' := hAb.trans ((bDrewN (Below.refl _ _) n).trans (hb.mono (by simp)))
    have ho2 : OI w' w.heap.size o (cntT d) := ho.mono (by simp)
    obtain ⟨na, nc, rfl⟩ := ho2.shapeN (cntT_length _)
    clear hb ho
    go_wp2
    go_loopw [3, 5, 6] (fun u k _ wr => ∃ i : Nat, i ≤ 60 ∧ k = .int .i64 ((i : Int) + 1) ∧ OI wr w.heap.size u (expTo d i) ∧ OI wr w.heap.size (.slice na 61 nc) (cntT d) ∧ Hid (Apart u (.slice na 61 nc)) ∧ Below w.heap.size w wr) (fun _ k _ _ => 61 - (intOf k).toNat)
    case atStart => exact ⟨0, Nat.zero_le _, rfl, hO, ho2, hap, hb2⟩
    case round =>
      clear hO ho2 hap hb2 hA hE hAb
      obtain ⟨wo, rfl⟩ : ∃ wo, wo = wr := ⟨_, rfl⟩
      obtain ⟨k, hk, rfl, hu, hn, hap, hb⟩ := hrel
      by_cases hlt : k < 60
      · have hd1 : decide ((k : Int) + 1 < 61) = true := decide_eq_true (by omega)
        replace hu := Lib.hid hu
        replace hn := Lib.hid hn
        go_wp2
        go_loopw [3, 6] (fun u i wi => ∃ j : Nat, (j : Int) ≤ cnt d (k + 1) ∧ i = .int .i64 (j : Int) ∧ OI wi w.heap.size u (expTo d k ++ List.replicate j ((k + 1 : Nat) : Int)) ∧ OI wi w.heap.size (.slice na 61 nc) (cntT d) ∧ Hid (Apart u (.slice na 61 nc)) ∧ Below w.heap.size w wi) (fun _ i _ => 100 - (intOf i).toNat)
        case atStart => exact ⟨0, (cnt_bd d (k + 1)).1, rfl, by rw [List.replicate_zero, List.append_nil]; exact hu.out, hn.out, hap, hb⟩
        case round =>
          clear hu hn hap hb
          obtain ⟨j, hj, rfl, hu, hn, hap, hb⟩ := hrel
          obtain ⟨c, HC, ic, cc, _⟩ := hn.atN (k := k + 1) (cntT_length _) (by omega)
          have hc : c = cnt d (k + 1) := cntT_at (by omega) HC.out
          have hcb := cnt_bd d (k + 1)
          rw [← hc] at hcb hj
          rw [show ((k + 1 : Nat) : Int) = (k : Int) + 1 from by omega] at ic
          by_cases hlt2 : (j : Int) < c
          · have hdd : decide ((j : Int) < c) = true := decide_eq_true hlt2
            have hln : (expTo d k ++ List.replicate j ((k + 1 : Nat) : Int)).length ≤ 1099511627776 := by
              have := hel.out k (by omega)
              rw [List.length_append, List.length_replicate]; omega
            have hrs := rep_step (e := expTo d k) (k := k) (j := j)
            obtain ⟨L, hL⟩ : ∃ L, L = expTo d k ++ List.replicate j ((k + 1 : Nat) : Int) := ⟨_, rfl⟩
            rw [← hL] at hu hln hrs
            have hbs := hb.size
            replace hL := Lib.hid hL
            replace hc := Lib.hid hc
            replace hrs := Lib.hid hrs
            go_wp2_with (first | (at_builtin; refine app_int_at rfl (.tmp 28) (.tmp 30) rfl rfl hu rfl hbs hln ?_; intro v' w1 ho1 hg1 hl1) | fail)
            have hn1 := hn.keptBy hap.out.symm hg1
            have hap1 := hap.out.app hl1 hn
            have hb1 := hb.grown hg1 hbs (fun j hj => (hu.lt j hj).1)
            clear hu hn hap hb hg1 hl1
            go_wp2
            go_roundw
            case rel => exact ⟨j + 1, by have := hc.out; omega, by go_num, by rw [hrs.out]; exact ho1, hn1, hap1, hb1⟩
            case measure => simp only [intOf]; omega
          · have hdd : decide ((j : Int) < c) = false := decide_eq_false hlt2
            rw [expTo_step (by omega)] at hu
            replace hc := Lib.hid hc
            go_wp2
            go_roundw
            case rel => exact ⟨k + 1, by omega, by go_num, hu, hn, hap, hb⟩
            case measure => simp only [intOf]; omega
      · obtain rfl : k = 60 := by omega
        rw [show ((60 : Nat) : Int) + 1 = 61 from rfl]
        go_wp2
        go_ret
        exact ⟨_, rfl, by rw [lenL, if_pos HR.out, ← ed.out, ← hee.out]; exact hu, hb⟩

theorem specGolomb {w : World} {base : Nat} {v : Value} {xs : List Int} (h : OI w base v xs) : Calls Try.prog 15 #[v] w fun e w' => e = .returned (.bool (golB xs)) ∧ Below w.heap.size w w' := by
  cases hr : rulerB xs
  · have hr2 : (!rulerB xs) = true := by rw [hr]; rfl
    have HR := Lib.hid hr
    clear hr
    go_enter Try.func15, Try.ntmps15
    go_wp2_with (first | (go_at_call 29; refine (specRulerOk h).mono ?_; rintro e w' ⟨rfl, n, rfl⟩) | fail)
    go_wp2
    go_ret
    exact ⟨ret_bool (by rw [golB, HR.out, Bool.false_and]), bDrewN (Below.refl _ _) _⟩
  · have hr2 : (!rulerB xs) = false := by rw [hr]; rfl
    have HR := Lib.hid hr
    clear hr
    go_enter Try.func15, Try.ntmps15
    go_wp2_with (first | (go_at_call 29; refine (specRulerOk h).mono ?_; rintro e w' ⟨rfl, n, rfl⟩) | (go_at_call 30; refine (specCounts (h.drewN n) HR.out).mono ?_; rintro e w' ⟨o, rfl, ho, hb⟩) | fail)
    obtain ⟨d, ed⟩ : ∃ d, d = difs xs := ⟨_, rfl⟩
    rw [← ed] at ho
    replace ed := Lib.hid ed
    have hb2 : Below w.heap.size w w' := (bDrewN (Below.refl _ _) n).trans hb
    obtain ⟨na, nc, rfl⟩ := ho.shapeN (cntT_length _)
    clear hb
    go_wp2
    go_loop [4] (fun i => ∃ k : Nat, i = .int .i64 ((k : Int) + 1) ∧ k ≤ 60 ∧ Hid (okTo (oneP d) k = true)) (fun i => 62 - (intOf i).toNat)
    case atStart => exact ⟨0, rfl, Nat.zero_le _, rfl⟩
    case round =>
      obtain ⟨k, rfl, hk, HT⟩ := hrel
      by_cases hlt : k < 60
      · obtain ⟨c, HC, ic, cc, _⟩ := ho.atN (k := k + 1) (cntT_length _) (by omega)
        have hc : c = cnt d (k + 1) := cntT_at (by omega) HC.out
        rw [show ((k + 1 : Nat) : Int) = (k : Int) + 1 from by omega] at ic
        replace hc := Lib.hid hc
        by_cases h1 : c ≤ 1
        · have hdd : decide (1 < c) = false := decide_eq_false (by omega)
          go_wp2
          go_round
          case rel => exact ⟨k + 1, by go_num, by omega, okTo_step HT.out (by rw [oneP, ← hc.out]; exact decide_eq_true h1)⟩
          case measure => simp only [intOf]; omega
        · have hdd : decide (1 < c) = true := decide_eq_true (by omega)
          go_wp2
          go_ret
          exact ⟨ret_bool (by rw [golB, HR.out, ← ed.out, okTo_fail hlt (by rw [oneP, ← hc.out]; exact decide_eq_false (by omega))]; rfl), hb2⟩
      · obtain rfl : k = 60 := by omega
        rw [show ((60 : Nat) : Int) + 1 = 61 from rfl]
        go_wp2
        go_ret
        exact ⟨ret_bool (by rw [golB, HR.out, ← ed.out, HT.out]; rfl), hb2⟩

theorem specMeasures {w : World} {base : Nat} {v : Value} {xs : List Int} (h : OI w base v xs) : Calls Try.prog 17 #[v] w fun e w' => e = .returned (.bool (measB xs)) ∧ Below w.heap.size w w' := by
  obtain ⟨ad, cap, rfl, hm⟩ := h.shape
  cases hr : rulerB xs
  · have hr2 : (!rulerB xs) = true := by rw [hr]; rfl
    have HR := Lib.hid hr
    clear hr
    go_enter Try.func17, Try.ntmps17
    go_wp2_with (first | (go_at_call 29; refine (specRulerOk h).mono ?_; rintro e w' ⟨rfl, n, rfl⟩) | fail)
    go_wp2
    go_ret
    exact ⟨ret_bool (by rw [measB, HR.out, Bool.false_and]), bDrewN (Below.refl _ _) _⟩
  · have hr2 : (!rulerB xs) = false := by rw [hr]; rfl
    have HR := Lib.hid hr
    clear hr
    have hl := rlr_len HR.out
    go_enter Try.func17, Try.ntmps17
    go_wp2_with (first | (go_at_call 29; refine (specRulerOk h).mono ?_; rintro e w' ⟨rfl, n, rfl⟩) | (go_at_call 30; refine (specCounts (h.drewN n) HR.out).mono ?_; rintro e w' ⟨o, rfl, ho, hb⟩) | fail)
    obtain ⟨d, ed⟩ : ∃ d, d = difs xs := ⟨_, rfl⟩
    rw [← ed] at ho
    replace ed := Lib.hid ed
    have hb2 : Below w.heap.size w w' := (bDrewN (Below.refl _ _) n).trans hb
    obtain ⟨na, nc, rfl⟩ := ho.shapeN (cntT_length _)
    clear hb
    obtain ⟨y, HY, iy, c2⟩ := (h.stay hb2).atLast (by omega)
    have hyb := rlr_at HR.out (by omega) HY.out
    obtain ⟨T, hT⟩ : ∃ T : Nat, (T : Int) = y := ⟨y.toNat, by omega⟩
    have hTe : (xs.getD (xs.length - 1) 0).toNat = T := by rw [← HY.out]; omega
    replace HY := Lib.hid HY.out
    replace hTe := Lib.hid hTe
    go_wp2
    go_loop [4] (fun i => ∃ k : Nat, i = .int .i64 ((k : Int) + 1) ∧ k ≤ T ∧ Hid (okTo (someP d) k = true)) (fun i => 62 - (intOf i).toNat)
    case atStart => exact ⟨0, rfl, Nat.zero_le _, rfl⟩
    case round =>
      obtain ⟨k, rfl, hk, HT⟩ := hrel
      by_cases hlt : k < T
      · have hd : decide ((k : Int) + 1 ≤ y) = true := decide_eq_true (by omega)
        have hkb : k < 60 := by omega
        obtain ⟨c, HC, ic, cc, _⟩ := ho.atN (k := k + 1) (cntT_length _) (by omega)
        have hc : c = cnt d (k + 1) := cntT_at (by omega) HC.out
        rw [show ((k + 1 : Nat) : Int) = (k : Int) + 1 from by omega] at ic
        replace hc := Lib.hid hc
        replace hT := Lib.hid hT
        by_cases h1 : c = 0
        · have hdd : (c == 0) = true := by simpa using h1
          have H1 := Lib.hid h1
          clear h1
          go_wp2
          go_ret
          exact ⟨ret_bool (by rw [measB, HR.out, ← ed.out, hTe.out, okTo_fail hlt (by rw [someP, ← hc.out, H1.out]; rfl)]; rfl), hb2⟩
        · have hdd : (c == 0) = false := by simpa using h1
          have H1 := Lib.hid h1
          clear h1
          go_wp2
          go_round
          case rel => exact ⟨k + 1, by go_num, by omega, okTo_step HT.out (by rw [someP, ← hc.out]; exact decide_eq_true H1.out)⟩
          case measure => simp only [intOf]; omega
      · have hd : decide ((k : Int) + 1 ≤ y) = false := decide_eq_false (by omega)
        replace hT := Lib.hid hT
        obtain rfl : k = T := by omega
        go_wp2
        go_ret
        exact ⟨ret_bool (by rw [measB, HR.out, ← ed.out, hTe.out, HT.out]; rfl), hb2⟩
end Go.Proofs.Ytemeechmemhokaa
