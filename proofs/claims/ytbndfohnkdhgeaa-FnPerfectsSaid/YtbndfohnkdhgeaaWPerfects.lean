/- The walk of laws.FnPerfects: it returns true, and nothing that was there has turned. -/
import Derived.Test.YtbndfohnkdhgeaaPerfLaw
import Derived.Test.YtbndfohnkdhgeaaBig
import Derived.Test.YtbndfohnkdhgeaaAt
namespace Go.Proofs.Ytbndfohnkdhgeaa
open Go.RowKit
set_option linter.unusedVariables false

theorem perfLawI {n : Nat} {ni : Int} (h : ni = (n : Int)) (hb : 1 ≤ n ∧ n ≤ 24) : PerfLaw n (perL ni) (ordL (ni + 1)) := by subst h; exact perfLaw hb

set_option maxRecDepth 100000 in
set_option maxHeartbeats 4000000 in
theorem walkPerfects (a0 : Option Addr) (len0 cap0 : Nat) (z0 : List Int) (w : World) (hr0 : IsRow .u8 w a0 len0 cap0 z0) :
    Calls Try.prog 15 #[.slice a0 len0 cap0] w fun e w' => e = .returned (.bool true) ∧ Below w.heap.size w w' := by
  by_cases hbig : 1048576 < len0
  · have hd : decide (1048576 < len0) = true := decide_eq_true hbig
    go_enter Try.func15, Try.ntmps15
    go_wp2_with fail
    refine lawsBig.mono ?_
    rintro e w' ⟨rfl, rfl⟩
    go_wp2
    go_ret
    exact ⟨rfl, Below.refl _ _⟩
  · have hd : decide (1048576 < len0) = false := decide_eq_false hbig
    go_enter Try.func15, Try.ntmps15
    go_wp2_with fail
    refine lawsBig.mono ?_
    rintro e w' ⟨rfl, rfl⟩
    go_wp2_with fail
    refine (lawsAt hr0 (by omega) (by omega)).mono ?_
    rintro e w' ⟨x, hx0, hx1, rfl, rfl⟩
    obtain ⟨ni, eni⟩ : ∃ z, z = 1 + x % 24 := ⟨_, rfl⟩
    obtain ⟨n, hn⟩ : ∃ n : Nat, ni = (n : Int) := ⟨ni.toNat, by omega⟩
    have hnb : 1 ≤ n ∧ n ≤ 24 := by omega
    have P := Lib.hid (perfLawI hn hnb)
    have hnl : 1 ≤ ni ∧ ni ≤ 24 := by omega
    replace hn := Lib.hid hn
    have wn1 : IntKind.i64.wrap (ni + 1) = ni + 1 := IntWalk.i64_in _ (by omega)
    go_wp2_with fail
    rw [← eni]
    clear eni hx0 hx1 hd
    refine (implPerL ni _).mono ?_
    rintro e w1 ⟨v1, rfl, h1, b1⟩
    go_wp2_with fail
    refine (implOrd (ni + 1) _).mono ?_
    rintro e w2 ⟨v2, rfl, h2, b2⟩
    have h1b := h1.stay b2
    have bw := bThen b1 b2
    have hr2 := hr0.below bw
    obtain ⟨L, eL⟩ : ∃ L, L = perL ni := ⟨_, rfl⟩
    obtain ⟨F, eF⟩ : ∃ F, F = ordL (ni + 1) := ⟨_, rfl⟩
    rw [← eL] at h1b P
    rw [← eF] at h2 P
    clear h1 b1 b2 eL eF
    obtain ⟨vs, h1⟩ := h1b
    obtain ⟨us, h2⟩ := h2
    obtain ⟨ad1, cap1, rfl, _⟩ := h1.shape
    obtain ⟨ad2, cap2, rfl, _⟩ := h2.shape
    have hlL := h1.len
    have hlF := h2.len
    have A1 := fun k (hk : k < L.length) => h1.at hk
    have A2 := fun k (hk : k < F.length) => h2.at hk
    have E1 := fun k (hk : k < L.length) => h1.el k (by omega)
    have E2 := fun k (hk : k < F.length) => h2.el k (by omega)
    have hpos := P.out.pos
    have htop := P.out.top
    obtain ⟨l, el⟩ : ∃ l, l = L.length := ⟨_, rfl⟩
    have ef : F.length = l := by rw [el, P.out.len]
    rw [← el] at hpos htop A1 E1 ⊢
    rw [ef] at A2 E2 ⊢
    have hz : ((l : Int) == 0) = false := by rw [beq_eq_false_iff_ne]; omega
    replace A1 := Lib.hid A1
    replace A2 := Lib.hid A2
    replace E1 := Lib.hid E1
    replace E2 := Lib.hid E2
    replace el := Lib.hid el
    replace ef := Lib.hid ef
    clear h1 h2 hlL hlF
    go_wp2_with fail
    refine (lawsAt hr2 (by omega) (by omega)).mono ?_
    rintro e w' ⟨x, hx0, hx1, rfl, rfl⟩
    obtain ⟨k, hk⟩ : ∃ k : Nat, (k : Int) = x % (l : Int) := ⟨(x % (l : Int)).toNat, by have := Int.emod_nonneg x (show (l : Int) ≠ 0 by omega); omega⟩
    have hkl : k < l := by have := Int.emod_lt_of_pos x (show (0 : Int) < (l : Int) by omega); omega
    have hk1 : x % (l : Int) = (k : Int) := hk.symm
    have hk2 : x.tmod (l : Int) = (k : Int) := by rw [Int.tmod_eq_emod_of_nonneg hx0]; exact hk1
    clear hk
    go_wp2_with fail
    refine (lawsAt hr2 (by omega) (by omega)).mono ?_
    rintro e w' ⟨y, hy0, hy1, rfl, rfl⟩
    obtain ⟨i, hi⟩ : ∃ i : Nat, (i : Int) = y % (l : Int) := ⟨(y % (l : Int)).toNat, by have := Int.emod_nonneg y (show (l : Int) ≠ 0 by omega); omega⟩
    have hil : i < l := by have := Int.emod_lt_of_pos y (show (0 : Int) < (l : Int) by omega); omega
    have hi1 : y % (l : Int) = (i : Int) := hi.symm
    have hi2 : y.tmod (l : Int) = (i : Int) := by rw [Int.tmod_eq_emod_of_nonneg hy0]; exact hi1
    clear hi
    have gL := P.out.good k (by rw [← el.out]; exact hkl)
    have gF := P.out.goodf i (by rw [ef.out]; exact hil)
    obtain ⟨ix1, cx1⟩ := A1.out k hkl
    obtain ⟨ix2, cx2⟩ := A2.out i hil
    have o1 := E1.out k hkl
    have o2 := E2.out i hil
    obtain ⟨xs, exs⟩ : ∃ z, L.getD k [] = z := ⟨_, rfl⟩
    obtain ⟨fs, efs⟩ : ∃ z, F.getD i [] = z := ⟨_, rfl⟩
    rw [exs] at o1 gL
    rw [efs] at o2 gF
    obtain ⟨u1, eu1⟩ : ∃ z, vs.getD k nilS = z := ⟨_, rfl⟩
    obtain ⟨u2, eu2⟩ : ∃ z, us.getD i nilS = z := ⟨_, rfl⟩
    rw [eu1] at o1 cx1
    rw [eu2] at o2 cx2
    clear exs efs eu1 eu2 A1 A2 E1 E2
    obtain ⟨ua1, uc1, rfl, _⟩ := o1.shape
    obtain ⟨ua2, uc2, rfl, _⟩ := o2.shape
    obtain ⟨g1, g2, g3⟩ := gF
    have hxl := gL.2.1
    have V : Val xs := ⟨gL.2.1, gL.2.2.1⟩
    have hsum : preS xs xs.length = ni := by rw [gL.1, hn.out]
    have hprod : prodTo fs fs.length = ni + 1 := by rw [g1, hn.out]
    have G := Lib.hid gL
    have G3 := Lib.hid g3
    have hsum := Lib.hid hsum
    have hprod := Lib.hid hprod
    clear gL g1 g3
    go_wp2
    go_loop [8, 9] (fun p j => ∃ t : Nat, t ≤ fs.length ∧ j = .int .i64 (t : Int) ∧ p = .int .i64 (prodTo fs t)) (fun _ j => fs.length - (intOf j).toNat)
    case atStart => exact ⟨0, Nat.zero_le _, rfl, rfl⟩
    case round =>
      obtain ⟨t, ht, rfl, rfl⟩ := hrel
      by_cases hlt : t < fs.length
      · obtain ⟨z, HZ, iz, cz⟩ := o2.at hlt
        obtain ⟨q1', q2, q3, q4⟩ := G3.out t hlt
        have hs1 : prodTo fs (t + 1) = prodTo fs t * z := by rw [prodTo, HZ.out]
        have hb : 1 ≤ prodTo fs (t + 1) ∧ prodTo fs (t + 1) ≤ 1000 := by
          by_cases e : t + 1 < fs.length
          · have := G3.out (t + 1) e; omega
          · rw [show t + 1 = fs.length from by omega, hprod.out]; omega
        rw [hs1] at hb
        obtain ⟨s, es⟩ : ∃ s, s = prodTo fs t := ⟨_, rfl⟩
        rw [← es] at hs1 hb ⊢
        have e : IntKind.i64.wrap (s * z) = s * z := IntWalk.i64_in _ (by omega)
        replace hs1 := Lib.hid hs1
        clear es q1' q2 q3 q4 hb
        go_wp2
        go_round
        case rel => exact ⟨t + 1, by omega, by go_num, by rw [hs1.out]⟩
        case measure => simp only [intOf]; omega
      · obtain rfl : t = fs.length := by omega
        rw [hprod.out]
        go_wp2
        go_loop [10, 11] (fun p j => ∃ t : Nat, t ≤ xs.length ∧ j = .int .i64 (t : Int) ∧ p = .int .i64 (preS xs t)) (fun _ j => xs.length - (intOf j).toNat)
        case atStart => exact ⟨0, Nat.zero_le _, rfl, rfl⟩
        case round =>
          obtain ⟨t, ht, rfl, rfl⟩ := hrel
          by_cases hlt : t < xs.length
          · obtain ⟨z, HZ, iz, cz⟩ := o1.at hlt
            have hp := preS_nonneg V.each t (by omega)
            have hzb := V.each z (mem_getD hlt HZ.out)
            obtain ⟨s, es⟩ : ∃ s, s = preS xs t := ⟨_, rfl⟩
            rw [← es] at hp ⊢
            have hs1 : preS xs (t + 1) = s + z := by rw [preS, ← es, ← HZ.out]
            have e : IntKind.i64.wrap (s + z) = s + z := IntWalk.i64_in _ (by omega)
            replace hs1 := Lib.hid hs1
            clear es
            go_wp2
            go_round
            case rel => exact ⟨t + 1, by omega, by go_num, by rw [hs1.out]⟩
            case measure => simp only [intOf]; omega
          · obtain rfl : t = xs.length := by omega
            rw [hsum.out]
            by_cases h8 : 8 < xs.length
            · have d8 : decide ((8 : Int) < (xs.length : Int)) = true := decide_eq_true (by omega)
              have d9 : decide (8 < xs.length) = true := decide_eq_true h8
              go_wp2
              go_quiet (fail)
              go_wp2
              go_ret
              exact ⟨rfl, bDrewN bw _⟩
            · have d8 : decide ((8 : Int) < (xs.length : Int)) = false := decide_eq_false (by omega)
              have d9 : decide (8 < xs.length) = false := decide_eq_false h8
              have O := perfOne G.out h8
              have hnz : (ni == 0) = false := by rw [beq_eq_false_iff_ne]; omega
              have hnz2 : ¬ ni = 0 := by omega
              have oP := Lib.hid O.perf
              have oC := Lib.hid O.compl
              have oW := Lib.hid O.ways
              have oQ : OI w2.drew w.heap.size (.slice ua1 xs.length uc1) xs := o1
              have hrQ : IsRow .u8 w2.drew a0 len0 cap0 z0 := hr2
              have cQ : w2.drew.cell? ⟨gOf ad1, k, none⟩ = some (.slice ua1 xs.length uc1) := cx1
              clear O
              go_wp2
              go_region_held3 (fun wz => wz.cell? ⟨gOf ad1, k, none⟩ = some (.slice ua1 xs.length uc1))
                (first
                  | go_keep
                  | (with_reducible exact cA)
                  | (with_reducible exact cB)
                  | (with_reducible exact cC)
                  | fail)
                ((first
                  | (go_at_call 38; refine (implIsPerfectSet oQ).mono ?_; rintro e wA ⟨rfl, bA⟩; rw [oP.out]; have oA := oQ.stay bA; have cA := cellStay0 bA cQ; have bwA := bThen bw.drew bA; have hrA := hrQ.below bA)
                  | (go_at_call 36; refine (implIsComplete oA).mono ?_; rintro e wB ⟨rfl, bB⟩; rw [oC.out]; have oB := oA.stay bB; have cB := cellStay0 bB cA; have bwB := bThen bwA bB; have hrB := hrA.below bB)
                  | (go_at_call 32; refine (lawsAt hrB (by omega) (by omega)).mono ?_; rintro e wz ⟨q, hq0, hq1, rfl, rfl⟩; have tq : q.tmod ni = q % ni := Int.tmod_eq_emod_of_nonneg hq0; have mq0 := Int.emod_nonneg q (show ni ≠ 0 by omega); have mq1 := Int.emod_lt_of_pos q (show 0 < ni by omega); have wq1 : IntKind.i64.wrap (q % ni) = q % ni := IntWalk.i64_in _ (by omega); have wq2 : IntKind.i64.wrap (1 + q % ni) = 1 + q % ni := IntWalk.i64_in _ (by omega))
                  | (go_at_call 34; refine (implSumWays oB (n := 1 + q % ni) (by omega)).mono ?_; rintro e wC ⟨rfl, bC⟩; rw [oW.out (1 + q % ni) (by omega) (by have := hn.out; omega)]; have bwC := bThen bwB bC; have cC := cellStay0 bC cB)
                  | fail))
              all_goals
                go_wp2
                go_ret
                exact ⟨rfl, bwC⟩
end Go.Proofs.Ytbndfohnkdhgeaa
