/- The walk of laws.FnWeighings: it returns true, and nothing that was there has turned. -/
import Derived.Test.YtfbecjeogbjnpaaWeighMath
import Derived.Test.YtfbecjeogbjnpaaDrawW
import Derived.Test.YtfbecjeogbjnpaaBig
import Derived.Test.YtfbecjeogbjnpaaSame
namespace Go.Proofs.Ytfbecjeogbjnpaa
open Go.RowKit
set_option linter.unusedVariables false

set_option maxRecDepth 100000 in
set_option maxHeartbeats 1000000 in
theorem walkWeighings (a0 : Option Addr) (len0 cap0 : Nat) (z0 : List Int) (w : World) (hr0 : IsRow .u8 w a0 len0 cap0 z0) :
    Calls Try.prog 9 #[.slice a0 len0 cap0] w fun e w' => e = .returned (.bool true) ∧ Below w.heap.size w w' := by
  by_cases hbig : 1048576 < len0
  · have hd : decide (1048576 < len0) = true := decide_eq_true hbig
    go_enter Try.func9, Try.ntmps9
    go_wp2_with fail
    refine lawsBig.mono ?_
    rintro e w' ⟨rfl, rfl⟩
    go_wp2
    go_ret
    exact ⟨rfl, Below.refl _ _⟩
  · have hd : decide (1048576 < len0) = false := decide_eq_false hbig
    go_enter Try.func9, Try.ntmps9
    go_wp2_with fail
    refine lawsBig.mono ?_
    rintro e w' ⟨rfl, rfl⟩
    go_wp2_with fail
    refine (weighingDraw hr0).mono ?_
    rintro e w1 ⟨v, u, xs, ys, rfl, hx, hy, hap, b1, k1, k2, k3, k4, k5⟩
    have F : Hid (WeighFacts xs ys) := weighFacts k1 k2 k3 k4 k5
    have K3 := Lib.hid k3
    have K4 := Lib.hid k4
    clear k3 k4 k5 hap hr0 hd
    obtain ⟨vad, vcap, rfl, _⟩ := hx.shape
    obtain ⟨uad, ucap, rfl, _⟩ := hy.shape
    go_wp2_with fail
    refine (implWeigh hx hy).mono ?_
    rintro e w' ⟨he, rfl⟩
    obtain ⟨q, hq⟩ : ∃ q, q = weighN xs ys := ⟨_, rfl⟩
    rw [F.out.b1, ← hq] at he
    subst he
    have hq1 : -1 ≤ q := by rw [hq]; exact F.out.bd.1
    have hq2 : q ≤ 1 := by rw [hq]; exact F.out.bd.2
    have HQ := Lib.hid hq
    clear hq
    go_wp2_with fail
    refine (implTurnLoad hy (by rw [K3.out]; omega)).mono ?_
    rintro e w2 ⟨tv, rfl, ht, b2⟩
    have hx := hx.stay b2
    have hy := hy.stay b2
    have bb2 := bThen b1 b2
    go_wp2_with fail
    refine (implWeigh hx ht).mono ?_
    rintro e w' ⟨he, rfl⟩
    rw [F.out.b2, F.out.y, ← HQ.out] at he
    subst he
    go_wp2
    go_loopw [9, 10] (fun o i wr => ∃ k : Nat, k ≤ xs.length ∧ i = .int .i64 k ∧ OI wr w2.heap.size o (plus7 (xs.take k)) ∧ Below w2.heap.size w2 wr) (fun _ i _ => xs.length - (intOf i).toNat)
    case atStart => exact ⟨0, Nat.zero_le _, rfl, World.ownsRow_made _ _ _ (Nat.le_refl _) (Nat.zero_le _) rfl, (Below.refl _ _).alloc (Nat.le_refl _) _⟩
    case round =>
      obtain ⟨k, hk, rfl, ho, hb⟩ := hrel
      by_cases hlt : k < xs.length
      · obtain ⟨x, HX, ix, c1⟩ := (hx.stay hb).at hlt
        have hxb := K4.out x (by rw [HX.out, List.getD, List.getElem?_eq_getElem hlt]; exact List.getElem_mem hlt)
        go_wp2_with (at_builtin; refine app_int rfl (.tmp 42) (.tmp 48) rfl rfl ho rfl hb.size (by rw [plus7_length, List.length_take]; omega) ?_; intro v' w3 ho3 hg3)
        go_roundw
        case rel => exact ⟨k + 1, by omega, by go_num, by rw [plus7_take_succ hlt HX.out]; exact ho3, hb.grown hg3 hb.size (fun j hj => (ho.lt j hj).1)⟩
        case measure => simp [intOf]; omega
      · have hm : OI wr w2.heap.size u9 (plus7 xs) := by rw [List.take_of_length_le (by omega)] at ho; exact ho
        have hx := hx.stay hb
        have hy := hy.stay hb
        have bb3 := bThen bb2 hb
        clear ho hb ht
        go_wp2_with fail
        refine (implWeigh hm hy).mono ?_
        rintro e w' ⟨he, rfl⟩
        obtain ⟨z, hz⟩ : ∃ z, z = weighN (plus7 xs) ys := ⟨_, rfl⟩
        rw [F.out.b3, ← hz] at he
        subst he
        have HZ := Lib.hid hz
        clear hz
        go_wp2_with fail
        refine (implCountLoad hy).mono ?_
        rintro e w' ⟨rfl, rfl⟩
        have e5 := F.out.tt
        have cl := cnt_le 1 ys
        have cl2 := cnt_le (-1) ys
        have hys : ys.length ≤ 8 := by rw [K3.out]; omega
        have TT : Hid (decide (turnL (turnL ys) = ys) = true) := decide_eq_true F.out.tt
        have hfin : ∀ fb : Bool, fairB (xs.length : Int) ys = fb → True := fun _ _ => trivial
        clear hfin e5
        cases hf : fairB (xs.length : Int) ys
        · have hff := F.out.f
          rw [hf] at hff
          have HF := Lib.hid hf
          clear hf
          by_cases c1 : (cnt 1 ys : Int) = (cnt (-1) ys : Int)
          · have c2 : cnt 1 ys ≤ 0 := by
              rw [decide_eq_true c1, Bool.true_and] at hff
              have := of_decide_eq_false hff.symm
              omega
            have C1 : ((cnt 1 ys : Int) == (cnt (-1) ys : Int)) = true := by rw [c1]; exact beq_self_eq_true _
            have C2 : cnt (-1) ys ≤ 0 := by omega
            have C3 : decide (0 < cnt 1 ys) = false := decide_eq_false (by omega)
            clear hff c1
            go_wp2_with fail
            refine (implIsFair hy).mono ?_
            rintro e w' ⟨he, rfl⟩
            rw [HF.out] at he
            subst he
            go_wp2_with fail
            refine (implIsFair hy).mono ?_
            rintro e w' ⟨he, rfl⟩
            rw [HF.out] at he
            subst he
            go_wp2_with fail
            refine (implTurnLoad hy (by omega)).mono ?_
            rintro e w4 ⟨t1, rfl, ht1, b4⟩
            have hy := hy.stay b4
            have bb4 := bThen bb3 b4
            go_wp2_with fail
            refine (implTurnLoad ht1 (Nat.le_trans (turnL_length _) (by omega))).mono ?_
            rintro e w5 ⟨t2, rfl, ht2, b5⟩
            have hy := hy.stay b5
            have bb5 := bThen bb4 b5
            go_wp2_with fail
            refine (sameInts_any ht2 hy).mono ?_
            rintro e w' ⟨he, n, rfl⟩
            rw [TT.out] at he
            subst he
            have bb6 := bDrewN bb5 n
            go_wp2
            go_ret
            exact ⟨rfl, bb6⟩
          · have C1 : ((cnt 1 ys : Int) == (cnt (-1) ys : Int)) = false := by rw [beq_eq_false_iff_ne]; exact c1
            clear hff c1
            go_wp2_with fail
            refine (implIsFair hy).mono ?_
            rintro e w' ⟨he, rfl⟩
            rw [HF.out] at he
            subst he
            go_wp2_with fail
            refine (implIsFair hy).mono ?_
            rintro e w' ⟨he, rfl⟩
            rw [HF.out] at he
            subst he
            go_wp2_with fail
            refine (implTurnLoad hy (by omega)).mono ?_
            rintro e w4 ⟨t1, rfl, ht1, b4⟩
            have hy := hy.stay b4
            have bb4 := bThen bb3 b4
            go_wp2_with fail
            refine (implTurnLoad ht1 (Nat.le_trans (turnL_length _) (by omega))).mono ?_
            rintro e w5 ⟨t2, rfl, ht2, b5⟩
            have hy := hy.stay b5
            have bb5 := bThen bb4 b5
            go_wp2_with fail
            refine (sameInts_any ht2 hy).mono ?_
            rintro e w' ⟨he, n, rfl⟩
            rw [TT.out] at he
            subst he
            have bb6 := bDrewN bb5 n
            go_wp2
            go_ret
            exact ⟨rfl, bb6⟩
        · have hzq : z = q := by rw [HZ.out, HQ.out]; exact F.out.z hf
          have hff := F.out.f
          rw [hf] at hff
          have hff2 := (Bool.and_eq_true _ _).mp hff.symm
          have c1 : (cnt 1 ys : Int) = (cnt (-1) ys : Int) := of_decide_eq_true hff2.1
          have c2 : 1 ≤ cnt 1 ys := of_decide_eq_true hff2.2
          subst hzq
          have HF := Lib.hid hf
          have C1 : ((cnt 1 ys : Int) == (cnt (-1) ys : Int)) = true := by rw [c1]; exact beq_self_eq_true _
          clear hff hff2 c1 hf
          go_wp2_with fail
          refine (implIsFair hy).mono ?_
          rintro e w' ⟨he, rfl⟩
          rw [HF.out] at he
          subst he
          go_wp2_with fail
          refine (implIsFair hy).mono ?_
          rintro e w' ⟨he, rfl⟩
          rw [HF.out] at he
          subst he
          go_wp2_with fail
          refine (implTurnLoad hy (by omega)).mono ?_
          rintro e w4 ⟨t1, rfl, ht1, b4⟩
          have hy := hy.stay b4
          have bb4 := bThen bb3 b4
          go_wp2_with fail
          refine (implTurnLoad ht1 (Nat.le_trans (turnL_length _) (by omega))).mono ?_
          rintro e w5 ⟨t2, rfl, ht2, b5⟩
          have hy := hy.stay b5
          have bb5 := bThen bb4 b5
          go_wp2_with fail
          refine (sameInts_any ht2 hy).mono ?_
          rintro e w' ⟨he, n, rfl⟩
          rw [TT.out] at he
          subst he
          have bb6 := bDrewN bb5 n
          go_wp2
          go_ret
          exact ⟨rfl, bb6⟩
end Go.Proofs.Ytfbecjeogbjnpaa
