/- Contract of impl.sumWays: the map that it makes reads as sumF. -/
import Derived.Test.YtbndfohnkdhgeaaSw
import Derived.Test.YtbndfohnkdhgeaaAppAll
namespace Go.Proofs.Ytbndfohnkdhgeaa
open Go.RowKit Go.Maps

theorem ownDrewN {w : World} {b n : Nat} {D : DataW Unit} (h : w.ownsMap Try.prog 3 (plainElem Try.prog 3) b n D) (m : Nat) : (w.drewN m).ownsMap Try.prog 3 (plainElem Try.prog 3) b n D := h

set_option maxRecDepth 100000 in
set_option maxHeartbeats 2000000 in
theorem implSumF {w : World} {base : Nat} {v : Value} {xs : List Int} (h : OI w base v xs) (V : Val xs) :
    Calls Try.prog 55 #[v] w (RetMap w (sumF xs) (1000 * xs.length) (2 ^ xs.length)) := by
  obtain ⟨ad, cap, rfl, _⟩ := h.shape
  have hmm := @run_makeMap Try.prog
  have hlen := V.len
  go_enter Try.func55, Try.ntmps55
  go_wp2_with (first
    | (refine wpList_insertF _ rfl _ _ _ rfl (b := w.heap.size) (n := 0) (D := .map []) rfl (World.ownsMap_made _ _ _ _) (by unfold maxLen; omega) 0 1 rfl rfl (wfI (by omega)) (wfI (by omega)) ?_; intro w1 hown1 hgrow1)
    | fail)
  go_loopw [3, 4] (fun o i wr => ∃ (k bo : Nat) (f : Int → Int), k ≤ xs.length ∧ i = .int .i64 (k : Int) ∧ o = .map (some bo) ∧ w.heap.size ≤ bo ∧ MapAt wr bo (2 ^ k) f (1000 * k) ∧ Hid (St xs k f) ∧ Below w.heap.size w wr) (fun _ i _ => xs.length - (intOf i).toNat)
  case atStart => exact ⟨0, w.heap.size, _, Nat.zero_le _, rfl, rfl, Nat.le_refl _, ⟨_, hown1, (Rep.empty 0).put (wfI (by omega)) (by omega)⟩, St.zero xs, ((Below.refl _ _).alloc (Nat.le_refl _) _).grown hgrow1 (by simp) (fun j hj => by cases hj; exact Nat.le_refl _)⟩
  case round =>
    obtain ⟨wo, rfl⟩ : ∃ wo, wo = wr := ⟨_, rfl⟩
    obtain ⟨i, bo, f, hk, rfl, rfl, hbo, ⟨D0, hown, hrep⟩, HS, bb⟩ := hrel
    by_cases hlt : i < xs.length
    · obtain ⟨x, HX, ix, c1⟩ := (h.stay bb).at hlt
      have hxb := V.each x (mem_getD hlt HX.out)
      go_wp2
      go_loopw [5] (fun kk wr => ∃ k : Nat, kk = .int .i64 (k : Int) ∧ 1 ≤ k ∧ i + k ≤ xs.length ∧ Hid (∀ t, t < k → xs.getD (i + t) 0 = xs.getD i 0) ∧ Q wo wr) (fun kk _ => xs.length - (intOf kk).toNat)
      case atStart => exact ⟨1, rfl, by omega, by omega, fun t ht => by rw [show t = 0 from by omega]; rfl, Q.refl _⟩
      case round =>
        obtain ⟨k, rfl, hk1, hk2, HE, n1, rfl⟩ := hrel
        have e1 : IntKind.i64.wrap ((i : Int) + (k : Int)) = (i : Int) + k := IntWalk.i64_in _ (by omega)
        by_cases hlt2 : i + k < xs.length
        · have hd : decide ((i : Int) + (k : Int) < (xs.length : Int)) = true := decide_eq_true (by omega)
          obtain ⟨y, HY, iy, cy⟩ := (h.stay bb).at hlt2
          rw [show ((i + k : Nat) : Int) = (i : Int) + (k : Int) from by omega] at iy
          by_cases hxy : y = x
          · have hd2 : (y == x) = true := by simpa using hxy
            have hE2 : ∀ t, t < k + 1 → xs.getD (i + t) 0 = xs.getD i 0 := fun t ht => by
              by_cases q : t = k
              · rw [q, ← HY.out, ← HX.out]; exact hxy
              · exact HE.out t (by omega)
            replace hE2 := Lib.hid hE2
            clear hxy
            go_wp2
            go_quiet (fail)
            go_wp2
            go_roundw
            case rel => exact ⟨k + 1, by go_num, by omega, by omega, hE2.out, (by repeat (first | exact Q.refl _ | exact Q.mk _ _ | apply Q.drewN | apply Q.drew))⟩
            case measure => simp only [intOf]; omega
          · have hd2 : (y == x) = false := by simpa using hxy
            have hR : IsRun xs i k := ⟨hk1, hk2, HE.out, .inr (by rw [← HY.out, ← HX.out]; exact hxy)⟩
            replace hR := Lib.hid hR
            clear hxy
            go_wp2
            go_quiet (fail)
            obtain ⟨wq, hwq⟩ : ∃ u, u = (wo.drewN n1).drewN nq := ⟨_, rfl⟩
            have hownq : wq.ownsMap Try.prog 3 (plainElem Try.prog 3) bo (2 ^ i) D0 := by rw [hwq]; exact hown
            have bbq : Below w.heap.size w wq := by rw [hwq]; exact bDrewN (bDrewN bb n1) nq
            rw [← hwq]
            clear hwq e1 c1 HE
            have hfb := HS.out.bd
            have hst := HS.out.step V hR.out
            rw [← HX.out] at hst
            have hP : 2 ^ i ≤ 16777216 := Nat.pow_le_pow_right (n := 2) (by omega) (show i ≤ 24 by omega)
            have hPk : (k + 1) * 2 ^ i ≤ 16777216 := Nat.le_trans (pow_run i k) (Nat.pow_le_pow_right (n := 2) (by omega) (show i + k ≤ 24 by omega))
            have hPn : (k + 1) * 2 ^ i ≤ 2 ^ (i + k) := pow_run i k
            obtain ⟨P, eP⟩ : ∃ P, P = 2 ^ i := ⟨_, rfl⟩
            rw [← eP] at hfb hP hPk hPn hownq
            replace eP := Lib.hid eP
            replace hst := Lib.hid hst
            have e1 : (wq.alloc (.map #[] 0)).heap.size = wq.heap.size + 1 := by simp
            have hbl := hownq.lt
            clear hown
            go_wp2_with (first
              | (at_range; refine wpList_rangeF _ rfl _ rfl rfl (hownq.alloc _) ?_; intro w0 hrg0 hg0 hs0)
              | go_in)
            go_frame
            rw [e1] at hrg0 hs0 ⊢
            go_loopw [7] (fun _ wm => ∃ (left : Lit → Bool) (cnt : Nat) (Dn : DataW Unit), wm.ranges Try.prog 3 (plainElem Try.prog 3) bo (wq.heap.size + 1) P D0 left cnt ∧ cnt ≤ Maps.size D0 ∧
                wm.ownsMap Try.prog 3 (plainElem Try.prog 3) wq.heap.size ((Maps.size D0 - cnt) * (k + 1)) Dn ∧ Rep Dn (convL left q1 (k + 1) x f) (1000 * ((i + k : Nat) : Int)) ∧ Below wq.heap.size wq wm)
              (fun _ wm => wm.rangeLeft bo (wq.heap.size + 1))
            case atStart =>
              exact ⟨_, _, .map [], hrg0, Nat.le_refl _, ((World.ownsMap_made _ _ _ _).kept hg0 (by simp)).mono (Nat.zero_le _), (Rep.empty _).congr (fun n => (convL_start hrep _ _ _ n).symm), ((Below.refl _ _).alloc (Nat.le_refl _) _).grown hg0 (by simp) (fun j hj => by cases hj)⟩
            case round =>
              obtain ⟨left, cnt, Dn, hrg, hcs, hn, hR2, hnx⟩ := hrel
              have hD := size_le hownq
              go_wp2_with (first
                | (at_next; refine wpList_next_ranges_ii _ rfl _ rfl 3 3 .i64 .i64 lawInt Try.underlying3 Try.underlying3 bo (wq.heap.size + 1) P _ _ _ rfl hrg ?_ ?_)
                | go_in)
              · intro hc0 hl0
                subst hc0
                have hn2 := hn.mono (n' := 2 ^ (i + k)) (Nat.le_trans (by rw [Nat.mul_comm]; exact Nat.mul_le_mul_left _ (by omega)) hPn)
                have hR3 := hR2.congr (fun n => convL_end hl0 q1 (k + 1) x f n)
                have bb2 := bThen bbq hnx
                replace hn2 := Lib.hid hn2
                replace hR3 := Lib.hid hR3
                have hsz := bbq.size
                have e2 : IntKind.i64.wrap ((i : Int) + (k : Int)) = (i : Int) + k := IntWalk.i64_in _ (by omega)
                clear hPk hPn hP hfb
                go_wp2
                go_roundw
                case rel => exact ⟨i + k, wq.heap.size, conv q1 (k + 1) x f, hk2, by rw [show ((i + k : Nat) : Int) = (i : Int) + (k : Int) from by omega], rfl, hsz, ⟨_, hn2.out, hR3.out⟩, hst.out, bb2⟩
                case measure => simp only [intOf]; omega
              · intro y c w2 cnt1 hwy hwc hly hat hrg1 hlt1 hg1 hs1 hen
                have hcf : c = f y := by have := hat (.lit (.int .i64 0)); rw [hrep.val] at this; exact (datInj this).symm
                have hyb := hrep.sup y (has_true_of_atKey hat)
                have hn1 := hn.kept hg1 (by intro q; have := Option.some.inj q; omega)
                have hnx1 := hnx.grown hg1 hnx.size (fun j hj => by cases hj; omega)
                have hfy := hfb y
                have HC := Lib.hid hcf
                clear hcf
                replace hat := Lib.hid hat
                replace hly := Lib.hid hly
                go_wp2
                go_loopw [9] (fun t wi => ∃ (j : Nat) (Dj : DataW Unit), j ≤ k + 1 ∧ t = .int .i64 (j : Int) ∧ wi.ranges Try.prog 3 (plainElem Try.prog 3) bo (wq.heap.size + 1) P D0 (fun z => left z && !z.sameKey (.int .i64 y)) cnt1 ∧
                    wi.ownsMap Try.prog 3 (plainElem Try.prog 3) wq.heap.size ((Maps.size D0 - cnt) * (k + 1) + j) Dj ∧ Rep Dj (convJ left q1 (k + 1) x f y j) (1000 * ((i + k : Nat) : Int)) ∧ Below wq.heap.size wq wi)
                  (fun t _ => k + 1 - (intOf t).toNat)
                case atStart => exact ⟨0, Dn, Nat.zero_le _, rfl, hrg1, hn1, hR2.congr (fun n => (convJ_zero _ _ _ _ _ _ n).symm), hnx1⟩
                case round =>
                  obtain ⟨j, Dj, hj, rfl, hri, hni, hRi, hbi⟩ := hrel
                  by_cases hlt4 : j < k + 1
                  · have hdj : decide ((j : Int) ≤ (k : Int)) = true := decide_eq_true (by omega)
                    obtain ⟨x', HX', _, cq⟩ := (h.stay (bThen bbq hbi)).at hlt
                    obtain rfl : x' = x := HX'.out.trans HX.out.symm
                    have hqx := mul_mono (t := j) (k := k) (x := x') (by omega) hxb.1
                    have hkx : (k : Int) * x' ≤ 1000 * k := by rw [Int.mul_comm]; exact Int.mul_le_mul_of_nonneg_right hxb.2 (by omega)
                    have hqe : q1 j = (j : Int) := rfl
                    have hcj := convJ_bd (left := left) (q := q1) (m := k + 1) (w := x') (M := (P : Int)) (x := y) (j := j) hfb (y + j * x')
                    have hcb : convJ left q1 (k + 1) x' f y j (y + j * x') ≤ 40000000 := by
                      have h1 : ((k + 1 : Nat) : Int) * (P : Int) ≤ 16777216 := by rw [← Int.natCast_mul]; exact Int.ofNat_le.2 hPk
                      have h2 : (j : Int) * (P : Int) ≤ 16777216 := by rw [← Int.natCast_mul]; exact Int.ofNat_le.2 (Nat.le_trans (Nat.mul_le_mul_right _ (by omega)) hPk)
                      omega
                    have hstep := fun n => convJ_step left q1 (k + 1) x' f y j n
                    rw [hqe] at hstep
                    obtain ⟨u, hu⟩ : ∃ u, convJ left q1 (k + 1) x' f y j (y + j * x') = u := ⟨_, rfl⟩
                    rw [hu] at hcj hcb hstep
                    have e2 : IntKind.i64.wrap ((j : Int) * x') = j * x' := IntWalk.i64_in _ (by omega)
                    have e3 : IntKind.i64.wrap (y + (j : Int) * x') = y + j * x' := IntWalk.i64_in _ (by omega)
                    have e4 : IntKind.i64.wrap (u + c) = u + c := IntWalk.i64_in _ (by rw [HC.out]; omega)
                    have hwk : (Lit.int .i64 (y + (j : Int) * x')).wf = true := wfI (by omega)
                    have hwv : (Lit.int .i64 (u + c)).wf = true := wfI (by rw [HC.out]; omega)
                    have hnm : (Maps.size D0 - cnt) * (k + 1) + j < maxLen := by
                      have : (Maps.size D0 - cnt) * (k + 1) ≤ 16777216 := Nat.le_trans (by rw [Nat.mul_comm]; exact Nat.mul_le_mul_left _ (by omega)) hPk
                      unfold maxLen; omega
                    have hput := (hRi.put (c := u + c) hwk (by omega)).congr (g := convJ left q1 (k + 1) x' f y (j + 1)) (fun n => by have := hstep n; rw [HC.out]; exact this)
                    replace hput := Lib.hid hput
                    replace hstep := Lib.hid hstep
                    replace hu := Lib.hid hu
                    clear hcj hcb hqx hkx hqe hfy hPk hPn hP hfb
                    go_wp2_with (first
                      | (at_lookup; refine wpList_lookF _ rfl _ _ rfl rfl hni hRi (y + (j : Int) * x') u rfl hwk hu.out ?_)
                      | (at_mapUpdate; refine wpList_storeF _ rfl _ _ _ rfl rfl hni hnm (y + (j : Int) * x') (u + c) rfl rfl hwk hwv ?_; intro w3 hn3 hg3; go_frame)
                      | go_in)
                    have hr3 := hri.kept hg3 (fun e => by have := Option.some.inj e; omega) (fun e => by have := Option.some.inj e; omega)
                    have hb3 := hbi.grown hg3 hbi.size (fun j hj => by cases hj; exact Nat.le_refl _)
                    go_wp2
                    go_roundw
                    case rel => exact ⟨j + 1, _, by omega, by go_num, hr3, hn3, hput.out, hb3⟩
                    case measure => simp only [intOf]; omega
                  · obtain rfl : j = k + 1 := by omega
                    have hdj : decide (((k + 1 : Nat) : Int) ≤ (k : Int)) = false := decide_eq_false (by omega)
                    have hR3 := hRi.congr (fun n => convJ_end hly.out hwy q1 (k + 1) x f n)
                    have hn3 := hni.mono (n' := (Maps.size D0 - cnt1) * (k + 1)) (by
                      have : (Maps.size D0 - cnt + 1) * (k + 1) ≤ (Maps.size D0 - cnt1) * (k + 1) := Nat.mul_le_mul_right _ (by omega)
                      rw [Nat.add_mul, Nat.one_mul] at this
                      exact this)
                    replace hR3 := Lib.hid hR3
                    clear hfy hPk hPn hP hfb
                    go_wp2
                    go_roundw
                    case rel => exact ⟨_, cnt1, Dj, hri, by omega, hn3, hR3.out, hbi⟩
                    case measure => rw [hri.left_eq, hrg.left_eq]; exact hlt1
        · have hd : decide ((i : Int) + (k : Int) < (xs.length : Int)) = false := decide_eq_false (by omega)
          have hR : IsRun xs i k := ⟨hk1, hk2, HE.out, .inl (by omega)⟩
          replace hR := Lib.hid hR
          go_wp2
          go_quiet (fail)
          obtain ⟨wq, hwq⟩ : ∃ u, u = (wo.drewN n1).drewN nq := ⟨_, rfl⟩
          have hownq : wq.ownsMap Try.prog 3 (plainElem Try.prog 3) bo (2 ^ i) D0 := by rw [hwq]; exact hown
          have bbq : Below w.heap.size w wq := by rw [hwq]; exact bDrewN (bDrewN bb n1) nq
          rw [← hwq]
          clear hwq e1 c1 HE
          have hfb := HS.out.bd
          have hst := HS.out.step V hR.out
          rw [← HX.out] at hst
          have hP : 2 ^ i ≤ 16777216 := Nat.pow_le_pow_right (n := 2) (by omega) (show i ≤ 24 by omega)
          have hPk : (k + 1) * 2 ^ i ≤ 16777216 := Nat.le_trans (pow_run i k) (Nat.pow_le_pow_right (n := 2) (by omega) (show i + k ≤ 24 by omega))
          have hPn : (k + 1) * 2 ^ i ≤ 2 ^ (i + k) := pow_run i k
          obtain ⟨P, eP⟩ : ∃ P, P = 2 ^ i := ⟨_, rfl⟩
          rw [← eP] at hfb hP hPk hPn hownq
          replace eP := Lib.hid eP
          replace hst := Lib.hid hst
          have e1 : (wq.alloc (.map #[] 0)).heap.size = wq.heap.size + 1 := by simp
          have hbl := hownq.lt
          clear hown
          go_wp2_with (first
            | (at_range; refine wpList_rangeF _ rfl _ rfl rfl (hownq.alloc _) ?_; intro w0 hrg0 hg0 hs0)
            | go_in)
          go_frame
          rw [e1] at hrg0 hs0 ⊢
          go_loopw [7] (fun _ wm => ∃ (left : Lit → Bool) (cnt : Nat) (Dn : DataW Unit), wm.ranges Try.prog 3 (plainElem Try.prog 3) bo (wq.heap.size + 1) P D0 left cnt ∧ cnt ≤ Maps.size D0 ∧
              wm.ownsMap Try.prog 3 (plainElem Try.prog 3) wq.heap.size ((Maps.size D0 - cnt) * (k + 1)) Dn ∧ Rep Dn (convL left q1 (k + 1) x f) (1000 * ((i + k : Nat) : Int)) ∧ Below wq.heap.size wq wm)
            (fun _ wm => wm.rangeLeft bo (wq.heap.size + 1))
          case atStart =>
            exact ⟨_, _, .map [], hrg0, Nat.le_refl _, ((World.ownsMap_made _ _ _ _).kept hg0 (by simp)).mono (Nat.zero_le _), (Rep.empty _).congr (fun n => (convL_start hrep _ _ _ n).symm), ((Below.refl _ _).alloc (Nat.le_refl _) _).grown hg0 (by simp) (fun j hj => by cases hj)⟩
          case round =>
            obtain ⟨left, cnt, Dn, hrg, hcs, hn, hR2, hnx⟩ := hrel
            have hD := size_le hownq
            go_wp2_with (first
              | (at_next; refine wpList_next_ranges_ii _ rfl _ rfl 3 3 .i64 .i64 lawInt Try.underlying3 Try.underlying3 bo (wq.heap.size + 1) P _ _ _ rfl hrg ?_ ?_)
              | go_in)
            · intro hc0 hl0
              subst hc0
              have hn2 := hn.mono (n' := 2 ^ (i + k)) (Nat.le_trans (by rw [Nat.mul_comm]; exact Nat.mul_le_mul_left _ (by omega)) hPn)
              have hR3 := hR2.congr (fun n => convL_end hl0 q1 (k + 1) x f n)
              have bb2 := bThen bbq hnx
              replace hn2 := Lib.hid hn2
              replace hR3 := Lib.hid hR3
              have hsz := bbq.size
              have e2 : IntKind.i64.wrap ((i : Int) + (k : Int)) = (i : Int) + k := IntWalk.i64_in _ (by omega)
              clear hPk hPn hP hfb
              go_wp2
              go_roundw
              case rel => exact ⟨i + k, wq.heap.size, conv q1 (k + 1) x f, hk2, by rw [show ((i + k : Nat) : Int) = (i : Int) + (k : Int) from by omega], rfl, hsz, ⟨_, hn2.out, hR3.out⟩, hst.out, bb2⟩
              case measure => simp only [intOf]; omega
            · intro y c w2 cnt1 hwy hwc hly hat hrg1 hlt1 hg1 hs1 hen
              have hcf : c = f y := by have := hat (.lit (.int .i64 0)); rw [hrep.val] at this; exact (datInj this).symm
              have hyb := hrep.sup y (has_true_of_atKey hat)
              have hn1 := hn.kept hg1 (by intro q; have := Option.some.inj q; omega)
              have hnx1 := hnx.grown hg1 hnx.size (fun j hj => by cases hj; omega)
              have hfy := hfb y
              have HC := Lib.hid hcf
              clear hcf
              replace hat := Lib.hid hat
              replace hly := Lib.hid hly
              go_wp2
              go_loopw [9] (fun t wi => ∃ (j : Nat) (Dj : DataW Unit), j ≤ k + 1 ∧ t = .int .i64 (j : Int) ∧ wi.ranges Try.prog 3 (plainElem Try.prog 3) bo (wq.heap.size + 1) P D0 (fun z => left z && !z.sameKey (.int .i64 y)) cnt1 ∧
                  wi.ownsMap Try.prog 3 (plainElem Try.prog 3) wq.heap.size ((Maps.size D0 - cnt) * (k + 1) + j) Dj ∧ Rep Dj (convJ left q1 (k + 1) x f y j) (1000 * ((i + k : Nat) : Int)) ∧ Below wq.heap.size wq wi)
                (fun t _ => k + 1 - (intOf t).toNat)
              case atStart => exact ⟨0, Dn, Nat.zero_le _, rfl, hrg1, hn1, hR2.congr (fun n => (convJ_zero _ _ _ _ _ _ n).symm), hnx1⟩
              case round =>
                obtain ⟨j, Dj, hj, rfl, hri, hni, hRi, hbi⟩ := hrel
                by_cases hlt4 : j < k + 1
                · have hdj : decide ((j : Int) ≤ (k : Int)) = true := decide_eq_true (by omega)
                  obtain ⟨x', HX', _, cq⟩ := (h.stay (bThen bbq hbi)).at hlt
                  obtain rfl : x' = x := HX'.out.trans HX.out.symm
                  have hqx := mul_mono (t := j) (k := k) (x := x') (by omega) hxb.1
                  have hkx : (k : Int) * x' ≤ 1000 * k := by rw [Int.mul_comm]; exact Int.mul_le_mul_of_nonneg_right hxb.2 (by omega)
                  have hqe : q1 j = (j : Int) := rfl
                  have hcj := convJ_bd (left := left) (q := q1) (m := k + 1) (w := x') (M := (P : Int)) (x := y) (j := j) hfb (y + j * x')
                  have hcb : convJ left q1 (k + 1) x' f y j (y + j * x') ≤ 40000000 := by
                    have h1 : ((k + 1 : Nat) : Int) * (P : Int) ≤ 16777216 := by rw [← Int.natCast_mul]; exact Int.ofNat_le.2 hPk
                    have h2 : (j : Int) * (P : Int) ≤ 16777216 := by rw [← Int.natCast_mul]; exact Int.ofNat_le.2 (Nat.le_trans (Nat.mul_le_mul_right _ (by omega)) hPk)
                    omega
                  have hstep := fun n => convJ_step left q1 (k + 1) x' f y j n
                  rw [hqe] at hstep
                  obtain ⟨u, hu⟩ : ∃ u, convJ left q1 (k + 1) x' f y j (y + j * x') = u := ⟨_, rfl⟩
                  rw [hu] at hcj hcb hstep
                  have e2 : IntKind.i64.wrap ((j : Int) * x') = j * x' := IntWalk.i64_in _ (by omega)
                  have e3 : IntKind.i64.wrap (y + (j : Int) * x') = y + j * x' := IntWalk.i64_in _ (by omega)
                  have e4 : IntKind.i64.wrap (u + c) = u + c := IntWalk.i64_in _ (by rw [HC.out]; omega)
                  have hwk : (Lit.int .i64 (y + (j : Int) * x')).wf = true := wfI (by omega)
                  have hwv : (Lit.int .i64 (u + c)).wf = true := wfI (by rw [HC.out]; omega)
                  have hnm : (Maps.size D0 - cnt) * (k + 1) + j < maxLen := by
                    have : (Maps.size D0 - cnt) * (k + 1) ≤ 16777216 := Nat.le_trans (by rw [Nat.mul_comm]; exact Nat.mul_le_mul_left _ (by omega)) hPk
                    unfold maxLen; omega
                  have hput := (hRi.put (c := u + c) hwk (by omega)).congr (g := convJ left q1 (k + 1) x' f y (j + 1)) (fun n => by have := hstep n; rw [HC.out]; exact this)
                  replace hput := Lib.hid hput
                  replace hstep := Lib.hid hstep
                  replace hu := Lib.hid hu
                  clear hcj hcb hqx hkx hqe hfy hPk hPn hP hfb
                  go_wp2_with (first
                    | (at_lookup; refine wpList_lookF _ rfl _ _ rfl rfl hni hRi (y + (j : Int) * x') u rfl hwk hu.out ?_)
                    | (at_mapUpdate; refine wpList_storeF _ rfl _ _ _ rfl rfl hni hnm (y + (j : Int) * x') (u + c) rfl rfl hwk hwv ?_; intro w3 hn3 hg3; go_frame)
                    | go_in)
                  have hr3 := hri.kept hg3 (fun e => by have := Option.some.inj e; omega) (fun e => by have := Option.some.inj e; omega)
                  have hb3 := hbi.grown hg3 hbi.size (fun j hj => by cases hj; exact Nat.le_refl _)
                  go_wp2
                  go_roundw
                  case rel => exact ⟨j + 1, _, by omega, by go_num, hr3, hn3, hput.out, hb3⟩
                  case measure => simp only [intOf]; omega
                · obtain rfl : j = k + 1 := by omega
                  have hdj : decide (((k + 1 : Nat) : Int) ≤ (k : Int)) = false := decide_eq_false (by omega)
                  have hR3 := hRi.congr (fun n => convJ_end hly.out hwy q1 (k + 1) x f n)
                  have hn3 := hni.mono (n' := (Maps.size D0 - cnt1) * (k + 1)) (by
                    have : (Maps.size D0 - cnt + 1) * (k + 1) ≤ (Maps.size D0 - cnt1) * (k + 1) := Nat.mul_le_mul_right _ (by omega)
                    rw [Nat.add_mul, Nat.one_mul] at this
                    exact this)
                  replace hR3 := Lib.hid hR3
                  clear hfy hPk hPn hP hfb
                  go_wp2
                  go_roundw
                  case rel => exact ⟨_, cnt1, Dj, hri, by omega, hn3, hR3.out, hbi⟩
                  case measure => rw [hri.left_eq, hrg.left_eq]; exact hlt1
    · obtain rfl : i = xs.length := by omega
      have hf := HS.out.done
      subst hf
      go_wp2
      go_ret
      exact ⟨bo, rfl, hbo, ⟨D0, hown, hrep⟩, bb⟩
end Go.Proofs.Ytbndfohnkdhgeaa
