/- Contract of spec.l06Ways: the table of sumF. -/
import Derived.Test.YtbndfohnkdhgeaaSwT
import Derived.Test.YtbndfohnkdhgeaaAppAll
namespace Go.Proofs.Ytbndfohnkdhgeaa
open Go.RowKit Go.Maps

set_option maxRecDepth 100000 in
set_option maxHeartbeats 2000000 in
theorem specSumF {w : World} {base : Nat} {v : Value} {xs : List Int} (h : OI w base v xs) (V : Val xs) {T : Nat} (hT : (T : Int) = preS xs xs.length) :
    Calls Try.prog 54 #[v] w (RetOI w (tabI (sumF xs) (T + 1))) := by
  obtain ⟨ad, cap, rfl, _⟩ := h.shape
  have hlen := V.len
  have hTb : T ≤ 24000 := by have := (preS_nonneg V.each xs.length (Nat.le_refl _)).2; omega
  replace hT := Lib.hid hT
  go_enter Try.func54, Try.ntmps54
  go_wp2
  go_loop [3, 4] (fun t i => ∃ k : Nat, k ≤ xs.length ∧ i = .int .i64 (k : Int) ∧ t = .int .i64 (preS xs k)) (fun _ i => xs.length - (intOf i).toNat)
  case atStart => exact ⟨0, Nat.zero_le _, rfl, rfl⟩
  case round =>
    obtain ⟨k, hk, rfl, rfl⟩ := hrel
    by_cases hlt : k < xs.length
    · obtain ⟨x, HX, ix, c1⟩ := h.at hlt
      have hp := preS_nonneg V.each k (by omega)
      have hxb := V.each x (mem_getD hlt HX.out)
      obtain ⟨s, hs⟩ : ∃ s, s = preS xs k := ⟨_, rfl⟩
      rw [← hs] at hp ⊢
      have hs1 : preS xs (k + 1) = s + x := by rw [preS, ← hs, ← HX.out]
      have e : IntKind.i64.wrap (s + x) = s + x := IntWalk.i64_in _ (by omega)
      replace hs1 := Lib.hid hs1
      clear hs
      go_wp2
      go_round
      case rel => exact ⟨k + 1, by omega, by go_num, by rw [hs1.out]⟩
      case measure => simp only [intOf]; omega
    · obtain rfl : k = xs.length := by omega
      rw [← hT.out]
      have e2 : IntKind.i64.wrap ((T : Int) + 1) = T + 1 := IntWalk.i64_in _ (by omega)
      obtain ⟨i0, hi, hz0, hz1, hz2⟩ := info_parts info_int
      go_wp2_with (first | (at_make; refine make_ints rfl (.tmp 24) (.tmp 24) rfl (T + 1) rfl rfl (by omega) (by omega) (by omega) ?_; intro oad w1 hmade hb1; obtain ⟨z0, _, iz, cz, fz⟩ := hmade.atN (k := 0) (by simp) (by omega); rw [show ((0 : Nat) : Int) = 0 from rfl] at iz) | fail)
      have hm0 : OI (w1.setCell ⟨gOf oad, 0, none⟩ (.int .i64 1)) w.heap.size (.slice oad (T + 1) (T + 1)) (tabI (fun n => if n = 0 then 1 else 0) (T + 1)) := by
        have h1 := (hmade.storeN (by simp) (show 0 < T + 1 by omega) 1).1
        rw [tabI_zero, tabI_set] at h1
        exact h1
      have hb2 : Below w.heap.size w (w1.setCell ⟨gOf oad, 0, none⟩ (.int .i64 1)) := hb1.setCell (hmade.storeN (by simp) (show 0 < T + 1 by omega) 1).2.1 _
      clear hmade hb1 cz fz iz e2
      go_loopw [5, 6] (fun o i wr => ∃ (k : Nat) (oa : Option Addr) (oc : Nat) (f : Int → Int), k ≤ xs.length ∧ i = .int .i64 (k : Int) ∧ o = .slice oa (T + 1) oc ∧ OI wr w.heap.size (.slice oa (T + 1) oc) (tabI f (T + 1)) ∧ Hid (St xs k f) ∧ Below w.heap.size w wr) (fun _ i _ => xs.length - (intOf i).toNat)
      case atStart => exact ⟨0, oad, _, _, Nat.zero_le _, rfl, rfl, hm0, St.zero xs, hb2⟩
      case round =>
        clear hm0 hb2
        obtain ⟨wo, rfl⟩ : ∃ wo, wo = wr := ⟨_, rfl⟩
        obtain ⟨i, oa, oc, f, hk, rfl, rfl, ho, HS, bb⟩ := hrel
        by_cases hlt : i < xs.length
        · obtain ⟨x, HX, ix, c1⟩ := (h.stay bb).at hlt
          have hxb := V.each x (mem_getD hlt HX.out)
          obtain ⟨c, rfl⟩ : ∃ c : Nat, x = (c : Int) := ⟨x.toNat, by omega⟩
          go_wp2
          go_loopw [7] (fun ee wr => ∃ k : Nat, ee = .int .i64 ((i : Int) + (k : Int)) ∧ i + k ≤ xs.length ∧ Hid (∀ t, t < k → xs.getD (i + t) 0 = xs.getD i 0) ∧ Q wo wr) (fun ee _ => xs.length - (intOf ee).toNat)
          case atStart => exact ⟨0, by simp, by omega, fun t ht => by omega, Q.refl _⟩
          case round =>
            obtain ⟨k, rfl, hk2, HE, n1, rfl⟩ := hrel
            by_cases hlt2 : i + k < xs.length
            · have hd : decide ((i : Int) + (k : Int) < (xs.length : Int)) = true := decide_eq_true (by omega)
              obtain ⟨y, HY, iy, cy⟩ := (h.stay bb).at hlt2
              rw [show ((i + k : Nat) : Int) = (i : Int) + (k : Int) from by omega] at iy
              by_cases hxy : y = c
              · have hd2 : (y == (c : Int)) = true := by simpa using hxy
                have e1 : IntKind.i64.wrap ((i : Int) + (k : Int) + 1) = (i : Int) + ((k + 1 : Nat) : Int) := by rw [show (i : Int) + (k : Int) + 1 = (i : Int) + ((k + 1 : Nat) : Int) from by omega]; exact IntWalk.i64_in _ (by omega)
                have hE2 : ∀ t, t < k + 1 → xs.getD (i + t) 0 = xs.getD i 0 := fun t ht => by
                  by_cases q : t = k
                  · rw [q, ← HY.out, ← HX.out]; exact hxy
                  · exact HE.out t (by omega)
                replace hE2 := Lib.hid hE2
                clear hxy
                go_wp2
                go_quiet (fail)
                go_wp2
                go_roundw
                case rel => exact ⟨k + 1, by go_num, by omega, hE2.out, (by repeat (first | exact Q.refl _ | exact Q.mk _ _ | apply Q.drewN | apply Q.drew))⟩
                case measure => simp only [intOf]; omega
              · have hd2 : (y == (c : Int)) = false := by simpa using hxy
                have hk1 : 1 ≤ k := by
                  rcases Nat.eq_zero_or_pos k with q | q
                  · subst q; exact absurd (HY.out.trans HX.out.symm) hxy
                  · exact q
                have hR : IsRun xs i k := ⟨hk1, hk2, HE.out, .inr (by rw [← HY.out, ← HX.out]; exact hxy)⟩
                replace hR := Lib.hid hR
                clear hxy
                go_wp2
                go_quiet (fail)
                obtain ⟨wq, hwq⟩ : ∃ u, u = (wo.drewN n1).drewN nq := ⟨_, rfl⟩
                have hoq : OI wq w.heap.size (.slice oa (T + 1) oc) (tabI f (T + 1)) := by rw [hwq]; exact ho
                have bbq : Below w.heap.size w wq := by rw [hwq]; exact bDrewN (bDrewN bb n1) nq
                rw [← hwq]
                clear hwq c1 HE ho
                have hfb := HS.out.bd
                have hst := HS.out.step V hR.out
                have hsup := HS.out.sup
                rw [← HX.out] at hst
                have hS1 := preS_run k hR.out.eq
                rw [← HX.out] at hS1
                have hS2 := preS_mono V.each (i + k) (xs.length - (i + k)) (by omega)
                rw [show i + k + (xs.length - (i + k)) = xs.length from by omega, ← hT.out, hS1] at hS2
                have hSn := (preS_nonneg V.each i (by omega)).1
                obtain ⟨S, eS⟩ : ∃ S, S = preS xs i := ⟨_, rfl⟩
                rw [← eS] at hS2 hSn hsup
                replace eS := Lib.hid eS
                have hP : 2 ^ i ≤ 16777216 := Nat.pow_le_pow_right (n := 2) (by omega) (show i ≤ 24 by omega)
                have hPk : (k + 1) * 2 ^ i ≤ 16777216 := Nat.le_trans (pow_run i k) (Nat.pow_le_pow_right (n := 2) (by omega) (show i + k ≤ 24 by omega))
                obtain ⟨P, eP⟩ : ∃ P, P = 2 ^ i := ⟨_, rfl⟩
                rw [← eP] at hfb hP hPk
                replace eP := Lib.hid eP
                replace hst := Lib.hid hst
                replace hsup := Lib.hid hsup
                replace HX := Lib.hid HX.out
                clear hS1
                have hkc : 0 ≤ (k : Int) * c ∧ (k : Int) * c ≤ 24000 := ⟨Int.mul_nonneg (by omega) (by omega), by have := Int.mul_le_mul (show (k : Int) ≤ 24 by omega) hxb.2 (by omega) (by omega); omega⟩
                have e2 : IntKind.i64.wrap ((T : Int) + 1) = T + 1 := IntWalk.i64_in _ (by omega)
                have e3 : IntKind.i64.wrap ((i : Int) + (k : Int) - (i : Int)) = k := by rw [show (i : Int) + (k : Int) - (i : Int) = (k : Int) from by omega]; exact IntWalk.i64_in _ (by omega)
                go_wp2_with (first | (at_make; refine make_ints rfl (.tmp 51) (.tmp 51) rfl (T + 1) rfl rfl (by omega) (by omega) (by omega) ?_; intro na w2 hn2 hb2) | fail)
                have ho2 := hoq.stay hb2
                have hap : Apart (.slice oa (T + 1) oc) (.slice na (T + 1) (T + 1)) := apart_new hoq hn2
                rw [tabI_zero, tabI_congr (g := convL (leftN 0) q1 (k + 1) c f) (fun n _ => (cL_zero (fun n hn => hsup.out n (by omega)) n).symm)] at hn2
                replace hap := Lib.hid hap
                go_loopw [9] (fun nn wi => ∃ n : Nat, n ≤ T + 1 ∧ nn = .int .i64 (n : Int) ∧ OI wi wq.heap.size (.slice na (T + 1) (T + 1)) (tabI (convL (leftN n) q1 (k + 1) c f) (T + 1)) ∧ OI wi w.heap.size (.slice oa (T + 1) oc) (tabI f (T + 1)) ∧ Below wq.heap.size wq wi) (fun nn _ => T + 1 - (intOf nn).toNat)
                case atStart => exact ⟨0, Nat.zero_le _, rfl, hn2, ho2, hb2⟩
                case round =>
                  clear hn2 ho2 hb2
                  obtain ⟨wn, rfl⟩ : ∃ wn, wn = wr := ⟨_, rfl⟩
                  obtain ⟨n, hn, rfl, hnx, hwy, hbi⟩ := hrel
                  by_cases hltn : n < T + 1
                  · have hdn : decide ((n : Int) ≤ (T : Int)) = true := decide_eq_true (by omega)
                    have hdn2 : decide (n ≤ T) = true := decide_eq_true (by omega)
                    have hwn : (Lit.int .i64 (n : Int)).wf = true := wfI (by omega)
                    go_wp2
                    go_loopw [10] (fun jj wi => ∃ j : Nat, j ≤ k + 1 ∧ (f n = 0 → j = 0) ∧ jj = .int .i64 (j : Int) ∧ OI wi wq.heap.size (.slice na (T + 1) (T + 1)) (tabI (convJ (leftN n) q1 (k + 1) c f n j) (T + 1)) ∧ OI wi w.heap.size (.slice oa (T + 1) oc) (tabI f (T + 1)) ∧ Below wq.heap.size wq wi) (fun jj _ => k + 1 - (intOf jj).toNat)
                    case atStart => exact ⟨0, by omega, fun _ => rfl, rfl, by rw [tabI_congr (fun i _ => convJ_zero (leftN n) q1 (k + 1) c f n i)]; exact hnx, hwy, hbi⟩
                    case round =>
                      clear hnx hwy hbi
                      obtain ⟨j, hj, hj0, rfl, hnj, hwj, hbj⟩ := hrel
                      obtain ⟨v, HV, iv, cv, _⟩ := hwj.atN (tabI_length _ _) hltn
                      have hv : v = f n := HV.out.trans (tabI_getD hltn)
                      have hvb := hfb n
                      rw [← hv] at hvb hj0
                      by_cases hv0 : v = 0
                      · obtain rfl := hj0 hv0
                        have hdk : decide (((0 : Nat) : Int) ≤ (k : Int)) = true := decide_eq_true (by omega)
                        have hd0 : decide (0 < v) = false := decide_eq_false (by omega)
                        rw [tabI_congr (fun i _ => (convJ_zero (leftN n) q1 (k + 1) c f n i).trans (cL_same (hv.symm.trans hv0) i))] at hnj
                        rw [show ((0 : Nat) : Int) = 0 from rfl] at hdk ⊢
                        replace hv := Lib.hid hv
                        clear hv0 hj0
                        go_wp2
                        go_roundw
                        case rel => exact ⟨n + 1, by omega, by go_num, hnj, hwj, hbj⟩
                        case measure => simp only [intOf]; omega
                      · have hd0 : decide (0 < v) = true := decide_eq_true (by omega)
                        by_cases hlj : j < k + 1
                        · have hdk : decide ((j : Int) ≤ (k : Int)) = true := decide_eq_true (by omega)
                          obtain ⟨x', HX', _, c1⟩ := (h.stay (bThen bbq hbj)).at hlt
                          obtain rfl : x' = c := HX'.out.trans HX.out.symm
                          have hin : (n : Int) ≤ S := by
                            rcases Classical.em ((n : Int) ≤ S) with q | q
                            · exact q
                            · exact absurd (hv.trans (hsup.out _ (by omega))) hv0
                          have hjc := mul_mono (t := j) (k := k) (x := (c : Int)) (by omega) hxb.1
                          obtain ⟨jc, hjc2⟩ : ∃ z : Nat, (z : Int) = (j : Int) * c := ⟨((j : Int) * c).toNat, by omega⟩
                          have hm : ((n + jc : Nat) : Int) = (n : Int) + (j : Int) * c := by omega
                          obtain ⟨u, HU, iu, cu, fu⟩ := hnj.atN (k := n + jc) (tabI_length _ _) (by omega)
                          have hu : u = convJ (leftN n) q1 (k + 1) c f n j ((n : Int) + (j : Int) * c) := by rw [HU.out, tabI_getD (by omega), hm]
                          have hcj := convJ_bd (left := leftN n) (q := q1) (m := k + 1) (w := (c : Int)) (M := (P : Int)) (x := (n : Int)) (j := j) hfb ((n : Int) + (j : Int) * c)
                          rw [← hu] at hcj
                          have hcb : u ≤ 40000000 := by
                            have h1 : ((k + 1 : Nat) : Int) * (P : Int) ≤ 16777216 := by rw [← Int.natCast_mul]; exact Int.ofNat_le.2 hPk
                            have h2 : (j : Int) * (P : Int) ≤ 16777216 := by rw [← Int.natCast_mul]; exact Int.ofNat_le.2 (Nat.le_trans (Nat.mul_le_mul_right _ (by omega)) hPk)
                            omega
                          have hq : q1 j * c = (j : Int) * c := rfl
                          have hstep : ∀ i : Nat, i < T + 1 → (if (i : Int) = ((n + jc : Nat) : Int) then u + v else convJ (leftN n) q1 (k + 1) c f n j i) = convJ (leftN n) q1 (k + 1) c f n (j + 1) i := fun i _ => by
                            have := convJ_step (leftN n) q1 (k + 1) c f n j i
                            rw [hq, ← hu, ← hv] at this
                            rw [hm]; exact this
                          have hst1 := hnj.storeN (k := n + jc) (tabI_length _ _) (by omega) (u + v)
                          rw [tabI_set, tabI_congr hstep] at hst1
                          have hw3 := hwj.keptBy hap.out hst1.2.2
                          have hb3 := hbj.setCell hst1.2.1 (.int .i64 (u + v)) (p := ⟨gOf na, n + jc, none⟩)
                          have e4 : IntKind.i64.wrap ((j : Int) * c) = j * c := IntWalk.i64_in _ (by omega)
                          have e5 : IntKind.i64.wrap ((n : Int) + (j : Int) * c) = n + j * c := IntWalk.i64_in _ (by omega)
                          have e6 : IntKind.i64.wrap (u + v) = u + v := IntWalk.i64_in _ (by omega)
                          have hdT : decide ((n : Int) + (j : Int) * c ≤ (T : Int)) = true := decide_eq_true (by omega)
                          rw [hm] at iu
                          replace hst1 := Lib.hid hst1
                          replace hw3 := Lib.hid hw3
                          replace hb3 := Lib.hid hb3
                          replace hv := Lib.hid hv
                          replace hu := Lib.hid hu
                          replace hjc2 := Lib.hid hjc2
                          replace hm := Lib.hid hm
                          clear hstep hcj hcb hj0 hq hjc
                          go_wp2
                          go_region
                          go_wp2
                          go_roundw
                          case rel => exact ⟨j + 1, by omega, fun q => absurd (hv.out.trans q) hv0, by go_num, hst1.out.1, hw3.out, hb3.out.drew⟩
                          case measure => simp only [intOf]; omega
                        · obtain rfl : j = k + 1 := by omega
                          have hdk : decide (((k + 1 : Nat) : Int) ≤ (k : Int)) = false := decide_eq_false (by omega)
                          rw [tabI_congr (fun i _ => cJ_end (m := k + 1) (x := c) (f := f) hwn i)] at hnj
                          replace hv := Lib.hid hv
                          clear hj0
                          go_wp2
                          go_roundw
                          case rel => exact ⟨n + 1, by omega, by go_num, hnj, hwj, hbj⟩
                          case measure => simp only [intOf]; omega
                  · obtain rfl : n = T + 1 := by omega
                    have hdn : decide (((T + 1 : Nat) : Int) ≤ (T : Int)) = false := decide_eq_false (by omega)
                    rw [tabI_congr (fun i _ => cL_end (fun n hn => hsup.out n (by omega)) i)] at hnx
                    have hbb := bThen bbq hbi
                    have hnx2 := hnx.mono (base' := w.heap.size) bbq.size
                    clear hnx
                    go_wp2
                    go_roundw
                    case rel => exact ⟨i + k, na, _, _, hk2, by rw [show ((i + k : Nat) : Int) = (i : Int) + (k : Int) from by omega], rfl, hnx2, hst.out, hbb⟩
                    case measure => simp only [intOf]; omega
            · have hd : decide ((i : Int) + (k : Int) < (xs.length : Int)) = false := decide_eq_false (by omega)
              have hk1 : 1 ≤ k := by omega
              have hR : IsRun xs i k := ⟨hk1, hk2, HE.out, .inl (by omega)⟩
              replace hR := Lib.hid hR
              go_wp2
              go_quiet (fail)
              obtain ⟨wq, hwq⟩ : ∃ u, u = (wo.drewN n1).drewN nq := ⟨_, rfl⟩
              have hoq : OI wq w.heap.size (.slice oa (T + 1) oc) (tabI f (T + 1)) := by rw [hwq]; exact ho
              have bbq : Below w.heap.size w wq := by rw [hwq]; exact bDrewN (bDrewN bb n1) nq
              rw [← hwq]
              clear hwq c1 HE ho
              have hfb := HS.out.bd
              have hst := HS.out.step V hR.out
              have hsup := HS.out.sup
              rw [← HX.out] at hst
              have hS1 := preS_run k hR.out.eq
              rw [← HX.out] at hS1
              have hS2 := preS_mono V.each (i + k) (xs.length - (i + k)) (by omega)
              rw [show i + k + (xs.length - (i + k)) = xs.length from by omega, ← hT.out, hS1] at hS2
              have hSn := (preS_nonneg V.each i (by omega)).1
              obtain ⟨S, eS⟩ : ∃ S, S = preS xs i := ⟨_, rfl⟩
              rw [← eS] at hS2 hSn hsup
              replace eS := Lib.hid eS
              have hP : 2 ^ i ≤ 16777216 := Nat.pow_le_pow_right (n := 2) (by omega) (show i ≤ 24 by omega)
              have hPk : (k + 1) * 2 ^ i ≤ 16777216 := Nat.le_trans (pow_run i k) (Nat.pow_le_pow_right (n := 2) (by omega) (show i + k ≤ 24 by omega))
              obtain ⟨P, eP⟩ : ∃ P, P = 2 ^ i := ⟨_, rfl⟩
              rw [← eP] at hfb hP hPk
              replace eP := Lib.hid eP
              replace hst := Lib.hid hst
              replace hsup := Lib.hid hsup
              replace HX := Lib.hid HX.out
              clear hS1
              have hkc : 0 ≤ (k : Int) * c ∧ (k : Int) * c ≤ 24000 := ⟨Int.mul_nonneg (by omega) (by omega), by have := Int.mul_le_mul (show (k : Int) ≤ 24 by omega) hxb.2 (by omega) (by omega); omega⟩
              have e2 : IntKind.i64.wrap ((T : Int) + 1) = T + 1 := IntWalk.i64_in _ (by omega)
              have e3 : IntKind.i64.wrap ((i : Int) + (k : Int) - (i : Int)) = k := by rw [show (i : Int) + (k : Int) - (i : Int) = (k : Int) from by omega]; exact IntWalk.i64_in _ (by omega)
              go_wp2_with (first | (at_make; refine make_ints rfl (.tmp 51) (.tmp 51) rfl (T + 1) rfl rfl (by omega) (by omega) (by omega) ?_; intro na w2 hn2 hb2) | fail)
              have ho2 := hoq.stay hb2
              have hap : Apart (.slice oa (T + 1) oc) (.slice na (T + 1) (T + 1)) := apart_new hoq hn2
              rw [tabI_zero, tabI_congr (g := convL (leftN 0) q1 (k + 1) c f) (fun n _ => (cL_zero (fun n hn => hsup.out n (by omega)) n).symm)] at hn2
              replace hap := Lib.hid hap
              go_loopw [9] (fun nn wi => ∃ n : Nat, n ≤ T + 1 ∧ nn = .int .i64 (n : Int) ∧ OI wi wq.heap.size (.slice na (T + 1) (T + 1)) (tabI (convL (leftN n) q1 (k + 1) c f) (T + 1)) ∧ OI wi w.heap.size (.slice oa (T + 1) oc) (tabI f (T + 1)) ∧ Below wq.heap.size wq wi) (fun nn _ => T + 1 - (intOf nn).toNat)
              case atStart => exact ⟨0, Nat.zero_le _, rfl, hn2, ho2, hb2⟩
              case round =>
                clear hn2 ho2 hb2
                obtain ⟨wn, rfl⟩ : ∃ wn, wn = wr := ⟨_, rfl⟩
                obtain ⟨n, hn, rfl, hnx, hwy, hbi⟩ := hrel
                by_cases hltn : n < T + 1
                · have hdn : decide ((n : Int) ≤ (T : Int)) = true := decide_eq_true (by omega)
                  have hdn2 : decide (n ≤ T) = true := decide_eq_true (by omega)
                  have hwn : (Lit.int .i64 (n : Int)).wf = true := wfI (by omega)
                  go_wp2
                  go_loopw [10] (fun jj wi => ∃ j : Nat, j ≤ k + 1 ∧ (f n = 0 → j = 0) ∧ jj = .int .i64 (j : Int) ∧ OI wi wq.heap.size (.slice na (T + 1) (T + 1)) (tabI (convJ (leftN n) q1 (k + 1) c f n j) (T + 1)) ∧ OI wi w.heap.size (.slice oa (T + 1) oc) (tabI f (T + 1)) ∧ Below wq.heap.size wq wi) (fun jj _ => k + 1 - (intOf jj).toNat)
                  case atStart => exact ⟨0, by omega, fun _ => rfl, rfl, by rw [tabI_congr (fun i _ => convJ_zero (leftN n) q1 (k + 1) c f n i)]; exact hnx, hwy, hbi⟩
                  case round =>
                    clear hnx hwy hbi
                    obtain ⟨j, hj, hj0, rfl, hnj, hwj, hbj⟩ := hrel
                    obtain ⟨v, HV, iv, cv, _⟩ := hwj.atN (tabI_length _ _) hltn
                    have hv : v = f n := HV.out.trans (tabI_getD hltn)
                    have hvb := hfb n
                    rw [← hv] at hvb hj0
                    by_cases hv0 : v = 0
                    · obtain rfl := hj0 hv0
                      have hdk : decide (((0 : Nat) : Int) ≤ (k : Int)) = true := decide_eq_true (by omega)
                      have hd0 : decide (0 < v) = false := decide_eq_false (by omega)
                      rw [tabI_congr (fun i _ => (convJ_zero (leftN n) q1 (k + 1) c f n i).trans (cL_same (hv.symm.trans hv0) i))] at hnj
                      rw [show ((0 : Nat) : Int) = 0 from rfl] at hdk ⊢
                      replace hv := Lib.hid hv
                      clear hv0 hj0
                      go_wp2
                      go_roundw
                      case rel => exact ⟨n + 1, by omega, by go_num, hnj, hwj, hbj⟩
                      case measure => simp only [intOf]; omega
                    · have hd0 : decide (0 < v) = true := decide_eq_true (by omega)
                      by_cases hlj : j < k + 1
                      · have hdk : decide ((j : Int) ≤ (k : Int)) = true := decide_eq_true (by omega)
                        obtain ⟨x', HX', _, c1⟩ := (h.stay (bThen bbq hbj)).at hlt
                        obtain rfl : x' = c := HX'.out.trans HX.out.symm
                        have hin : (n : Int) ≤ S := by
                          rcases Classical.em ((n : Int) ≤ S) with q | q
                          · exact q
                          · exact absurd (hv.trans (hsup.out _ (by omega))) hv0
                        have hjc := mul_mono (t := j) (k := k) (x := (c : Int)) (by omega) hxb.1
                        obtain ⟨jc, hjc2⟩ : ∃ z : Nat, (z : Int) = (j : Int) * c := ⟨((j : Int) * c).toNat, by omega⟩
                        have hm : ((n + jc : Nat) : Int) = (n : Int) + (j : Int) * c := by omega
                        obtain ⟨u, HU, iu, cu, fu⟩ := hnj.atN (k := n + jc) (tabI_length _ _) (by omega)
                        have hu : u = convJ (leftN n) q1 (k + 1) c f n j ((n : Int) + (j : Int) * c) := by rw [HU.out, tabI_getD (by omega), hm]
                        have hcj := convJ_bd (left := leftN n) (q := q1) (m := k + 1) (w := (c : Int)) (M := (P : Int)) (x := (n : Int)) (j := j) hfb ((n : Int) + (j : Int) * c)
                        rw [← hu] at hcj
                        have hcb : u ≤ 40000000 := by
                          have h1 : ((k + 1 : Nat) : Int) * (P : Int) ≤ 16777216 := by rw [← Int.natCast_mul]; exact Int.ofNat_le.2 hPk
                          have h2 : (j : Int) * (P : Int) ≤ 16777216 := by rw [← Int.natCast_mul]; exact Int.ofNat_le.2 (Nat.le_trans (Nat.mul_le_mul_right _ (by omega)) hPk)
                          omega
                        have hq : q1 j * c = (j : Int) * c := rfl
                        have hstep : ∀ i : Nat, i < T + 1 → (if (i : Int) = ((n + jc : Nat) : Int) then u + v else convJ (leftN n) q1 (k + 1) c f n j i) = convJ (leftN n) q1 (k + 1) c f n (j + 1) i := fun i _ => by
                          have := convJ_step (leftN n) q1 (k + 1) c f n j i
                          rw [hq, ← hu, ← hv] at this
                          rw [hm]; exact this
                        have hst1 := hnj.storeN (k := n + jc) (tabI_length _ _) (by omega) (u + v)
                        rw [tabI_set, tabI_congr hstep] at hst1
                        have hw3 := hwj.keptBy hap.out hst1.2.2
                        have hb3 := hbj.setCell hst1.2.1 (.int .i64 (u + v)) (p := ⟨gOf na, n + jc, none⟩)
                        have e4 : IntKind.i64.wrap ((j : Int) * c) = j * c := IntWalk.i64_in _ (by omega)
                        have e5 : IntKind.i64.wrap ((n : Int) + (j : Int) * c) = n + j * c := IntWalk.i64_in _ (by omega)
                        have e6 : IntKind.i64.wrap (u + v) = u + v := IntWalk.i64_in _ (by omega)
                        have hdT : decide ((n : Int) + (j : Int) * c ≤ (T : Int)) = true := decide_eq_true (by omega)
                        rw [hm] at iu
                        replace hst1 := Lib.hid hst1
                        replace hw3 := Lib.hid hw3
                        replace hb3 := Lib.hid hb3
                        replace hv := Lib.hid hv
                        replace hu := Lib.hid hu
                        replace hjc2 := Lib.hid hjc2
                        replace hm := Lib.hid hm
                        clear hstep hcj hcb hj0 hq hjc
                        go_wp2
                        go_region
                        go_wp2
                        go_roundw
                        case rel => exact ⟨j + 1, by omega, fun q => absurd (hv.out.trans q) hv0, by go_num, hst1.out.1, hw3.out, hb3.out.drew⟩
                        case measure => simp only [intOf]; omega
                      · obtain rfl : j = k + 1 := by omega
                        have hdk : decide (((k + 1 : Nat) : Int) ≤ (k : Int)) = false := decide_eq_false (by omega)
                        rw [tabI_congr (fun i _ => cJ_end (m := k + 1) (x := c) (f := f) hwn i)] at hnj
                        replace hv := Lib.hid hv
                        clear hj0
                        go_wp2
                        go_roundw
                        case rel => exact ⟨n + 1, by omega, by go_num, hnj, hwj, hbj⟩
                        case measure => simp only [intOf]; omega
                · obtain rfl : n = T + 1 := by omega
                  have hdn : decide (((T + 1 : Nat) : Int) ≤ (T : Int)) = false := decide_eq_false (by omega)
                  rw [tabI_congr (fun i _ => cL_end (fun n hn => hsup.out n (by omega)) i)] at hnx
                  have hbb := bThen bbq hbi
                  have hnx2 := hnx.mono (base' := w.heap.size) bbq.size
                  clear hnx
                  go_wp2
                  go_roundw
                  case rel => exact ⟨i + k, na, _, _, hk2, by rw [show ((i + k : Nat) : Int) = (i : Int) + (k : Int) from by omega], rfl, hnx2, hst.out, hbb⟩
                  case measure => simp only [intOf]; omega
        · obtain rfl : i = xs.length := by omega
          have hf := HS.out.done
          subst hf
          go_wp2
          go_ret
          exact ⟨_, rfl, ho, bb⟩
end Go.Proofs.Ytbndfohnkdhgeaa
