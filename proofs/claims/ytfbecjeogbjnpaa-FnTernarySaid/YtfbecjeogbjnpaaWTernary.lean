/- The walk of laws.FnTernary: it returns true, and nothing that was there has turned. -/
import Derived.Test.YtfbecjeogbjnpaaTernMath
import Derived.Test.YtfbecjeogbjnpaaAt
import Derived.Test.YtfbecjeogbjnpaaHas
import Derived.Test.YtfbecjeogbjnpaaSame
namespace Go.Proofs.Ytfbecjeogbjnpaa
open Go.RowKit
set_option linter.unusedVariables false

theorem lawsBig {w : World} {a : Option Addr} {len cap : Nat} : Calls Try.prog 32 #[.slice a len cap] w fun e w' => e = .returned (.bool (decide (1048576 < len))) ∧ w = w' := by
  go_enter Try.func32, Try.ntmps32
  go_wp2
  go_ret
  exact ⟨ret_bool (by rw [decide_eq_decide]; omega), rfl⟩

set_option maxRecDepth 100000 in
set_option maxHeartbeats 1000000 in
theorem walkTernary (a0 : Option Addr) (len0 cap0 : Nat) (z0 : List Int) (w : World) (hr0 : IsRow .u8 w a0 len0 cap0 z0) :
    Calls Try.prog 15 #[.slice a0 len0 cap0] w fun e w' => e = .returned (.bool true) ∧ Below w.heap.size w w' := by
  by_cases hbig : 1048576 < len0
  · have hd : decide (1048576 < len0) = true := decide_eq_true hbig
    go_enter Try.func15, Try.ntmps15
    go_wp2_with fail
    refine lawsBig.mono ?_
    rintro e w' ⟨rfl, rfl⟩
    go_wp2
    go_ret
    exact ⟨rfl, Below.refl _ _⟩
  · have hd : decide (1048576 < len0) = false := decide_eq_false hbig
    go_enter Try.func15, Try.ntmps15
    go_wp2_with fail
    refine lawsBig.mono ?_
    rintro e w' ⟨rfl, rfl⟩
    go_wp2_with fail
    refine (lawsAt hr0 (by omega) (by omega)).mono ?_
    rintro e w' ⟨x, hx0, hx1, rfl, rfl⟩
    go_wp2_with fail
    refine (lawsAt hr0 (by omega) (by omega)).mono ?_
    rintro e w' ⟨y, hy0, hy1, rfl, rfl⟩
    go_wp2_with fail
    have hnb : 1 ≤ 1 + (x * 256 + y) % 29524 ∧ 1 + (x * 256 + y) % 29524 ≤ 29524 := by omega
    generalize 1 + (x * 256 + y) % 29524 = n at hnb ⊢
    have F : Hid (TernFacts n) := ternFacts hnb
    have hnl : 1 ≤ n := hnb.1
    have hnh : n ≤ 29524 := hnb.2
    refine (implDigitsOf n _).mono ?_
    rintro e w1 ⟨dv, rfl, hd1, b1⟩
    rw [F.out.dc] at hd1
    go_wp2_with fail
    refine (implPansFor n _).mono ?_
    rintro e w2 ⟨lv, rv, rfl, hL, hR, hap, b2⟩
    rw [pansB_in hnb]
    have hd2 := hd1.stay b2
    have bb2 := bThen b1 b2
    clear hd1 b1 b2 hap hr0 hx0 hx1 hy0 hy1 hd hnb
    have ll := pans_len (-1) n
    have lr := pans_len 1 n
    have ld := F.out.len
    have lp := F.out.pos
    obtain ⟨L, hLe⟩ : ∃ L, L = pansL (-1) n := ⟨_, rfl⟩
    obtain ⟨R, hRe⟩ : ∃ R, R = pansL 1 n := ⟨_, rfl⟩
    obtain ⟨ds, hde⟩ : ∃ ds, ds = digs n := ⟨_, rfl⟩
    rw [← hLe] at hL ll
    rw [← hRe] at hR lr
    rw [← hde] at hd2 ld lp
    have HL := Lib.hid hLe
    have HR := Lib.hid hRe
    have HD := Lib.hid hde
    clear hLe hRe hde
    obtain ⟨lad, lcap, rfl, _⟩ := hL.shape
    obtain ⟨rad, rcap, rfl, _⟩ := hR.shape
    obtain ⟨dad, dcap, rfl, _⟩ := hd2.shape
    go_wp2
    go_loop [8, 9] (fun s i => ∃ k : Nat, k ≤ L.length ∧ i = .int .i64 k ∧ s = .int .i64 (n + sumTo L k)) (fun _ i => L.length - (intOf i).toNat)
    case atStart => exact ⟨0, Nat.zero_le _, rfl, by rw [sumTo, Int.add_zero]⟩
    case round =>
      obtain ⟨k, hk, rfl, rfl⟩ := hrel
      have hsb := pansL_sum (t := -1) (n := n) k (by rw [← HL.out]; exact hk)
      rw [← HL.out] at hsb
      by_cases hlt : k < L.length
      · obtain ⟨x, HX, ix, c1⟩ := hL.at hlt
        have hxb := pansL_el (t := -1) (n := n) (k := k) (by rw [← HL.out]; exact hlt)
        rw [← HL.out, ← HX.out] at hxb
        obtain ⟨sm, hsm⟩ : ∃ sm, sm = sumTo L k := ⟨_, rfl⟩
        rw [← hsm] at hsb ⊢
        have HS := Lib.hid hsm
        clear hsm
        go_wp2
        go_round
        case rel => exact ⟨k + 1, by omega, by go_num, by rw [sumTo, ← HX.out, ← HS.out]; go_num⟩
        case measure => simp [intOf]; omega
      · have hk2 : k = L.length := by omega
        subst hk2
        obtain ⟨sl, hsl⟩ : ∃ sl, sl = sumTo L L.length := ⟨_, rfl⟩
        rw [← hsl] at hsb ⊢
        have HSL := Lib.hid hsl
        clear hsl
        go_wp2
        go_loop [8, 10] (fun s i => ∃ k : Nat, k ≤ R.length ∧ i = .int .i64 k ∧ s = .int .i64 (n + sl - sumTo R k)) (fun _ i => R.length - (intOf i).toNat)
        case atStart => exact ⟨0, Nat.zero_le _, rfl, by rw [sumTo, Int.sub_zero]⟩
        case round =>
          obtain ⟨k, hk, rfl, rfl⟩ := hrel
          have hsr := pansL_sum (t := 1) (n := n) k (by rw [← HR.out]; exact hk)
          rw [← HR.out] at hsr
          by_cases hlt : k < R.length
          · obtain ⟨x, HX, ix, c1⟩ := hR.at hlt
            have hxb := pansL_el (t := 1) (n := n) (k := k) (by rw [← HR.out]; exact hlt)
            rw [← HR.out, ← HX.out] at hxb
            have hno : decide (x ∈ L) = false := by
              rw [HL.out]
              exact F.out.dis x (by rw [← HR.out, HX.out, List.getD, List.getElem?_eq_getElem hlt]; exact List.getElem_mem hlt)
            obtain ⟨sm, hsm⟩ : ∃ sm, sm = sumTo R k := ⟨_, rfl⟩
            rw [← hsm] at hsr ⊢
            have HS := Lib.hid hsm
            clear hsm
            go_wp2_with (go_at_call 46; refine (lawsHas hL).mono ?_; rintro e w' ⟨rfl, rfl⟩)
            go_round
            case rel => exact ⟨k + 1, by omega, by go_num, by rw [sumTo, ← HX.out, ← HS.out]; go_num⟩
            case measure => simp [intOf]; omega
          · have hk3 : k = R.length := by omega
            subst hk3
            have hs0 : n + sl - sumTo R R.length = 0 := by
              have h := F.out.sum
              rw [← HL.out, ← HR.out, ← HSL.out] at h
              exact h
            rw [hs0]
            clear hs0 hsr hsb hL hR
            obtain ⟨x, HX, ix, c1⟩ := hd2.at (k := ds.length - 1) (by omega)
            have hx1 : x = 1 := by rw [HX.out, HD.out]; exact F.out.last
            subst hx1
            have hcast : (((ds.length - 1 : Nat)) : Int) = (ds.length : Int) - 1 := by omega
            rw [hcast] at ix
            clear hcast
            have hz1 : ((ds.length : Int) == 0) = false := by
              rw [beq_eq_false_iff_ne]; omega
            have hz2 : decide ((10 : Int) < (ds.length : Int)) = false := decide_eq_false (by omega)
            have hv1 : valC ds = n := by rw [HD.out]; exact F.out.val
            have hv2 : valC (negD ds) = -n := by rw [HD.out]; exact F.out.nval
            have hv3 : decide (digsC (-n) = negD ds) = true := decide_eq_true (by rw [HD.out]; exact F.out.ndig)
            have hv4 : ((nzc (digsC n) : Nat) : Int) = (L.length : Int) + (R.length : Int) := by rw [HL.out, HR.out]; exact F.out.cw
            go_wp2_with fail
            refine (implValueOf hd2).mono ?_
            rintro e w' ⟨rfl, rfl⟩
            go_wp2_with fail
            refine (implNegateDigits hd2).mono ?_
            rintro e w3 ⟨nv, rfl, hn3, b3⟩
            have hd3 := hd2.stay b3
            have bb3 := bThen bb2 b3
            go_wp2_with fail
            refine (implValueOf hn3).mono ?_
            rintro e w' ⟨rfl, rfl⟩
            go_wp2_with fail
            refine (implDigitsOf (-n) _).mono ?_
            rintro e w4 ⟨mv, rfl, hm4, b4⟩
            have hd4 := hd3.stay b4
            have bb4 := bThen bb3 b4
            go_wp2_with fail
            refine (implNegateDigits hd4).mono ?_
            rintro e w5 ⟨nv2, rfl, hn5, b5⟩
            have hm5 := hm4.stay b5
            have bb5 := bThen bb4 b5
            go_wp2_with fail
            refine (sameInts_any hm5 hn5).mono ?_
            rintro e w' ⟨rfl, q, rfl⟩
            have bb6 := bDrewN bb5 q
            go_wp2_with fail
            refine (implCountWeights n _).mono ?_
            rintro e w6 ⟨rfl, b6⟩
            have bb7 := bThen bb6 b6
            go_wp2
            go_ret
            exact ⟨rfl, bb7⟩
end Go.Proofs.Ytfbecjeogbjnpaa
