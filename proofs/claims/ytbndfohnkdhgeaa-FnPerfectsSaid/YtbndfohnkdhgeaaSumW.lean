/- Contracts of SumWays, IsComplete, IsPerfectSet and of what they call. Conditions: the number's range; of isPerfect: a short list of small numbers. -/
import Derived.Test.YtbndfohnkdhgeaaSwI
import Derived.Test.YtbndfohnkdhgeaaSwS
import Derived.Test.YtbndfohnkdhgeaaPan2
namespace Go.Proofs.Ytbndfohnkdhgeaa
open Go.RowKit Go.Maps

def sumWaysN (xs : List Int) (n : Int) : Int := if setB xs = true then sumF xs n else 0
def topN (xs : List Int) : Nat := (preS xs xs.length).toNat
def perfB (xs : List Int) : Bool := okTo (fun k => decide (sumF xs ((k : Int) + 1) = 1)) (topN xs)
def complB (xs : List Int) : Bool := okTo (fun k => decide (sumF xs ((k : Int) + 1) ≠ 0)) (topN xs)
def perfSetB (xs : List Int) : Bool := setB xs && perfB xs
def complSetB (xs : List Int) : Bool := setB xs && complB xs
theorem SetFacts.val {xs : List Int} (F : SetFacts xs) : Val xs := ⟨by have := F.len; omega, F.each⟩

structure SwTot (xs : List Int) (T : Nat) : Prop where
  eq : (T : Int) = preS xs xs.length
  top : topN xs = T
  le : T ≤ 24000
  out : ∀ n, ¬ (0 ≤ n ∧ n ≤ (T : Int)) → sumF xs n = 0
  nn : ∀ n, 0 ≤ sumF xs n
  one : sumF xs 0 = 1
theorem swTot {xs : List Int} (V : Val xs) : ∃ T, SwTot xs T := by
  have h1 := preS_nonneg V.each xs.length (Nat.le_refl _)
  have h2 := V.len
  have h3 := sum_st V
  exact ⟨(preS xs xs.length).toNat, by omega, rfl, by omega, fun n hn => h3.sup n (by omega), fun n => (h3.bd n).1, h3.one⟩

theorem implSumOf {w : World} {base : Nat} {v : Value} {xs : List Int} (h : OI w base v xs) (V : Val xs) : Calls Try.prog 56 #[v] w fun e w' => e = .returned (.int .i64 (preS xs xs.length)) ∧ w = w' := by
  obtain ⟨ad, cap, rfl, _⟩ := h.shape
  have hlen := V.len
  go_enter Try.func56, Try.ntmps56
  go_wp2
  go_loop [3, 8] (fun t i => ∃ k : Nat, k ≤ xs.length ∧ i = .int .i64 (k : Int) ∧ t = .int .i64 (preS xs k)) (fun _ i => xs.length - (intOf i).toNat)
  case atStart => exact ⟨0, Nat.zero_le _, rfl, rfl⟩
  case round =>
    obtain ⟨k, hk, rfl, rfl⟩ := hrel
    by_cases hlt : k < xs.length
    · obtain ⟨x, HX, ix, c1⟩ := h.at hlt
      have hp := preS_nonneg V.each k (by omega)
      have hxb := V.each x (mem_getD hlt HX.out)
      obtain ⟨s, hs⟩ : ∃ s, s = preS xs k := ⟨_, rfl⟩
      rw [← hs] at hp ⊢
      have hs1 : preS xs (k + 1) = s + x := by rw [preS, ← hs, ← HX.out]
      have e : IntKind.i64.wrap (s + x) = s + x := IntWalk.i64_in _ (by omega)
      replace hs1 := Lib.hid hs1
      clear hs
      go_wp2
      go_round
      case rel => exact ⟨k + 1, by omega, by go_num, by rw [hs1.out]⟩
      case measure => simp only [intOf]; omega
    · obtain rfl : k = xs.length := by omega
      go_wp2
      go_ret
      exact ⟨rfl, rfl⟩

theorem implPerf {w : World} {base : Nat} {v : Value} {xs : List Int} (h : OI w base v xs) (V : Val xs) : Calls Try.prog 58 #[v] w (RetBl w (.bool (perfB xs))) := by
  go_enter Try.func58, Try.ntmps58
  go_wp2_with fail
  refine (implSumF h V).mono ?_
  rintro e w1 ⟨b, rfl, hb, hm, bb2⟩
  have h1 := h.stay bb2
  obtain ⟨T, HT⟩ := swTot V
  have hTl := HT.le
  have hnn := HT.nn
  have hS := Lib.hid (implSumOf h1 V)
  have hTe := HT.eq
  have htop := Lib.hid HT.top
  replace HT := Lib.hid HT
  have hm := Lib.hid hm
  go_wp2
  go_loop [4] (fun n => ∃ k : Nat, k ≤ T ∧ n = .int .i64 ((k : Int) + 1) ∧ Hid (okTo (fun k => decide (sumF xs ((k : Int) + 1) = 1)) k = true)) (fun n => T + 1 - (intOf n).toNat)
  case atStart => exact ⟨0, Nat.zero_le _, rfl, rfl⟩
  case round =>
    obtain ⟨k, hk, rfl, HK⟩ := hrel
    by_cases hlt : k < T
    · have hd : decide ((k : Int) + 1 ≤ (T : Int)) = true := decide_eq_true (by omega)
      have hk1 := hm.out.look (k := (k : Int) + 1) (wfI (by omega))
      have e1 : IntKind.i64.wrap ((k : Int) + 1 + 1) = (k : Int) + 1 + 1 := IntWalk.i64_in _ (by omega)
      obtain ⟨y, hy⟩ : ∃ y, sumF xs ((k : Int) + 1) = y := ⟨_, rfl⟩
      rw [hy] at hk1
      replace hy := Lib.hid hy
      by_cases hp : y = 1
      · have hd2 : (y != 1) = false := by simpa using hp
        have hok := Lib.hid (okTo_step HK.out (show (fun k : Nat => decide (sumF xs ((k : Int) + 1) = 1)) k = true from decide_eq_true (by rw [hy.out]; exact hp)))
        clear hp
        go_wp2_with (go_at_call 56; refine hS.out.mono ?_; rintro e w' ⟨rfl, rfl⟩; rw [← hTe])
        go_round
        case rel => exact ⟨k + 1, hlt, by go_num, hok.out⟩
        case measure => simp only [intOf]; omega
      · have hd2 : (y != 1) = true := by simpa using hp
        have hno := Lib.hid (okTo_fail (p := fun k : Nat => decide (sumF xs ((k : Int) + 1) = 1)) hlt (decide_eq_false (by rw [hy.out]; exact hp)))
        clear hp
        go_wp2_with (go_at_call 56; refine hS.out.mono ?_; rintro e w' ⟨rfl, rfl⟩; rw [← hTe])
        go_ret
        exact ⟨ret_bool (by rw [perfB, htop.out]; exact hno.out.symm), bb2⟩
    · obtain rfl : k = T := by omega
      have hd : decide ((k : Int) + 1 ≤ (k : Int)) = false := decide_eq_false (by omega)
      go_wp2_with (go_at_call 56; refine hS.out.mono ?_; rintro e w' ⟨rfl, rfl⟩; rw [← hTe])
      go_ret
      exact ⟨ret_bool (by rw [perfB, htop.out]; exact HK.out.symm), bb2⟩

theorem specPerf {w : World} {base : Nat} {v : Value} {xs : List Int} (h0 : OI w base v xs) (V : Val xs) : Calls Try.prog 57 #[v] w (RetBl w (.bool (perfB xs))) := by
  have b0 := Below.refl w.heap.size w
  go_enter Try.func57, Try.ntmps57
  obtain ⟨T, HT⟩ := swTot V
  have hTl := HT.le
  have htop := Lib.hid HT.top
  have hone := HT.one
  have hS := Lib.hid (specSumF h0 V HT.eq)
  have hnn := HT.nn
  clear HT
  go_wp2_with fail
  refine hS.out.mono ?_
  rintro e w1 ⟨v1, rfl, h1, b1⟩
  obtain ⟨ad, cap, rfl⟩ := h1.shapeN (tabI_length _ _)
  have bb2 := bThen b0 b1
  clear b1 hS
  go_wp2
  go_loop [4] (fun n => ∃ k : Nat, k ≤ T + 1 ∧ n = .int .i64 (k : Int) ∧ Hid (okTo (fun k => decide (sumF xs ((k : Int) + 1) = 1)) (k - 1) = true)) (fun n => T + 1 - (intOf n).toNat)
  case atStart => exact ⟨0, Nat.zero_le _, rfl, rfl⟩
  case round =>
    obtain ⟨k, hk, rfl, HK⟩ := hrel
    by_cases hlt : k < T + 1
    · obtain ⟨y, HY, iy, cy, _⟩ := h1.atN (tabI_length _ _) hlt
      have hy : y = sumF xs k := HY.out.trans (tabI_getD hlt)
      have hny := hnn (k : Int)
      rw [← hy] at hny
      have hstep : y = 1 → okTo (fun k => decide (sumF xs ((k : Int) + 1) = 1)) (k + 1 - 1) = true := fun q => by
        rcases Nat.eq_zero_or_pos k with r | r
        · subst r; rfl
        · obtain ⟨j, rfl⟩ : ∃ j, k = j + 1 := ⟨k - 1, by omega⟩
          refine okTo_step (k := j) HK.out (decide_eq_true ?_)
          rw [show ((j + 1 : Nat) : Int) = (j : Int) + 1 from by omega] at hy
          rw [← hy]; exact q
      have hfail : ¬ y = 1 → okTo (fun k => decide (sumF xs ((k : Int) + 1) = 1)) T = false := fun q => by
        rcases Nat.eq_zero_or_pos k with r | r
        · subst r; rw [hy] at q; exact absurd (by exact hone) q
        · obtain ⟨j, rfl⟩ : ∃ j, k = j + 1 := ⟨k - 1, by omega⟩
          refine okTo_fail (k := j) (by omega) (decide_eq_false ?_)
          rw [show ((j + 1 : Nat) : Int) = (j : Int) + 1 from by omega] at hy
          rw [← hy]; exact q
      replace hy := Lib.hid hy
      by_cases hp : y = 1
      · have hd2 : (y != 1) = false := by simpa using hp
        have hok := Lib.hid (hstep hp)
        clear hp hstep hfail
        go_wp2
        go_round
        case rel => exact ⟨k + 1, by omega, by go_num, hok.out⟩
        case measure => simp only [intOf]; omega
      · have hd2 : (y != 1) = true := by simpa using hp
        have hno := Lib.hid (hfail hp)
        clear hp hstep hfail
        go_wp2
        go_ret
        exact ⟨ret_bool (by rw [perfB, htop.out]; exact hno.out.symm), bb2⟩
    · obtain rfl : k = T + 1 := by omega
      have HF := HK.out
      rw [Nat.add_sub_cancel] at HF
      replace HF := Lib.hid HF
      go_wp2
      go_ret
      exact ⟨ret_bool (by rw [perfB, htop.out]; exact HF.out.symm), bb2⟩

theorem implSumWays {w : World} {base : Nat} {v : Value} {xs : List Int} (h : OI w base v xs) {n : Int} (hn : -9223372036854775808 ≤ n ∧ n ≤ 9223372036854775807) : Calls Try.prog 34 #[v, .int .i64 n] w (RetBl w (.int .i64 (sumWaysN xs n))) := by
  cases hs : setB xs
  · go_enter Try.func34, Try.ntmps34
    go_wp2_with (go_at_call 18; refine (implSetOk h).mono ?_; rintro e w' ⟨rfl, nq, rfl⟩)
    go_ret
    exact ⟨ret_int (by rw [sumWaysN, hs]; rfl), bDrewN (Below.refl _ _) _⟩
  · have V := (setFacts hs).val
    go_enter Try.func34, Try.ntmps34
    go_wp2_with fail
    refine (implSetOk h).mono ?_
    rintro e w' ⟨rfl, nq, rfl⟩
    go_wp2_with fail
    refine (implSumF (h.drewN nq) V).mono ?_
    rintro e w1 ⟨b, rfl, hb, hm, bb⟩
    have hk := hm.look (wfI hn)
    have bb2 := bThen (bDrewN (Below.refl w.heap.size w) nq) bb
    replace hs := Lib.hid hs
    clear bb
    go_wp2
    go_ret
    exact ⟨ret_int (by rw [sumWaysN, if_pos hs.out]), bb2⟩

theorem implIsPerfectSet {w : World} {base : Nat} {v : Value} {xs : List Int} (h : OI w base v xs) : Calls Try.prog 38 #[v] w (RetBl w (.bool (perfSetB xs))) := by
  cases hs : setB xs
  · go_enter Try.func38, Try.ntmps38
    go_wp2_with (go_at_call 18; refine (implSetOk h).mono ?_; rintro e w' ⟨rfl, nq, rfl⟩)
    go_ret
    exact ⟨ret_bool (by rw [perfSetB, hs]; rfl), bDrewN (Below.refl _ _) _⟩
  · have V := (setFacts hs).val
    go_enter Try.func38, Try.ntmps38
    go_wp2_with fail
    refine (implSetOk h).mono ?_
    rintro e w' ⟨rfl, nq, rfl⟩
    go_wp2_with fail
    refine (implPerf (h.drewN nq) V).mono ?_
    rintro e w1 ⟨rfl, bb⟩
    have bb2 := bThen (bDrewN (Below.refl w.heap.size w) nq) bb
    replace hs := Lib.hid hs
    clear bb
    go_wp2
    go_ret
    exact ⟨ret_bool (by rw [perfSetB, hs.out]; rfl), bb2⟩

theorem implIsComplete {w : World} {base : Nat} {v : Value} {xs : List Int} (h : OI w base v xs) : Calls Try.prog 36 #[v] w (RetBl w (.bool (complSetB xs))) := by
  cases hs : setB xs
  · go_enter Try.func36, Try.ntmps36
    go_wp2_with (go_at_call 18; refine (implSetOk h).mono ?_; rintro e w' ⟨rfl, nq, rfl⟩)
    go_ret
    exact ⟨ret_bool (by rw [complSetB, hs]; rfl), bDrewN (Below.refl _ _) _⟩
  · have V := (setFacts hs).val
    go_enter Try.func36, Try.ntmps36
    go_wp2_with fail
    refine (implSetOk h).mono ?_
    rintro e w' ⟨rfl, nq, rfl⟩
    have h0 := h.drewN nq
    have b0 := bDrewN (Below.refl w.heap.size w) nq
    have HC := Lib.hid hs
    go_wp2_with fail
    refine (implSumF h0 V).mono ?_
    rintro e w1 ⟨b, rfl, hb, hm, bb⟩
    have h1 := h0.stay bb
    have bb2 := bThen b0 bb
    clear bb b0
    obtain ⟨T, HT⟩ := swTot V
    have hTl := HT.le
    have hnn := HT.nn
    have hS := Lib.hid (implSumOf h1 V)
    have hTe := HT.eq
    have htop := Lib.hid HT.top
    replace HT := Lib.hid HT
    have hm := Lib.hid hm
    go_wp2
    go_loop [4] (fun n => ∃ k : Nat, k ≤ T ∧ n = .int .i64 ((k : Int) + 1) ∧ Hid (okTo (fun k => decide (sumF xs ((k : Int) + 1) ≠ 0)) k = true)) (fun n => T + 1 - (intOf n).toNat)
    case atStart => exact ⟨0, Nat.zero_le _, rfl, rfl⟩
    case round =>
      obtain ⟨k, hk, rfl, HK⟩ := hrel
      by_cases hlt : k < T
      · have hd : decide ((k : Int) + 1 ≤ (T : Int)) = true := decide_eq_true (by omega)
        have hk1 := hm.out.look (k := (k : Int) + 1) (wfI (by omega))
        have e1 : IntKind.i64.wrap ((k : Int) + 1 + 1) = (k : Int) + 1 + 1 := IntWalk.i64_in _ (by omega)
        obtain ⟨y, hy⟩ : ∃ y, sumF xs ((k : Int) + 1) = y := ⟨_, rfl⟩
        rw [hy] at hk1
        replace hy := Lib.hid hy
        by_cases hp : y ≠ 0
        · have hd2 : (y == 0) = false := by simpa using hp
          have hok := Lib.hid (okTo_step HK.out (show (fun k : Nat => decide (sumF xs ((k : Int) + 1) ≠ 0)) k = true from decide_eq_true (by rw [hy.out]; exact hp)))
          clear hp
          go_wp2_with (go_at_call 56; refine hS.out.mono ?_; rintro e w' ⟨rfl, rfl⟩; rw [← hTe])
          go_round
          case rel => exact ⟨k + 1, hlt, by go_num, hok.out⟩
          case measure => simp only [intOf]; omega
        · have hd2 : (y == 0) = true := by simpa using hp
          have hno := Lib.hid (okTo_fail (p := fun k : Nat => decide (sumF xs ((k : Int) + 1) ≠ 0)) hlt (decide_eq_false (by rw [hy.out]; exact hp)))
          clear hp
          go_wp2_with (go_at_call 56; refine hS.out.mono ?_; rintro e w' ⟨rfl, rfl⟩; rw [← hTe])
          go_ret
          exact ⟨ret_bool (by rw [complSetB, complB, HC.out, htop.out]; exact hno.out.symm), bb2⟩
      · obtain rfl : k = T := by omega
        have hd : decide ((k : Int) + 1 ≤ (k : Int)) = false := decide_eq_false (by omega)
        go_wp2_with (go_at_call 56; refine hS.out.mono ?_; rintro e w' ⟨rfl, rfl⟩; rw [← hTe])
        go_ret
        exact ⟨ret_bool (by rw [complSetB, complB, HC.out, htop.out]; exact HK.out.symm), bb2⟩

theorem specSumWays {w : World} {base : Nat} {v : Value} {xs : List Int} (h : OI w base v xs) {n : Int} (_ : -9223372036854775808 ≤ n ∧ n ≤ 9223372036854775807) : Calls Try.prog 33 #[v, .int .i64 n] w (RetBl w (.int .i64 (sumWaysN xs n))) := by
  cases hs : setB xs
  · go_enter Try.func33, Try.ntmps33
    go_wp2_with (go_at_call 16; refine (specSetOk h).mono ?_; rintro e w' ⟨rfl, nq, rfl⟩)
    go_ret
    exact ⟨ret_int (by rw [sumWaysN, hs]; rfl), bDrewN (Below.refl _ _) _⟩
  · have V := (setFacts hs).val
    go_enter Try.func33, Try.ntmps33
    go_wp2_with fail
    refine (specSetOk h).mono ?_
    rintro e w' ⟨rfl, nq, rfl⟩
    obtain ⟨T, HT⟩ := swTot V
    have hTl := HT.le
    have hout := HT.out n
    have hS := Lib.hid (specSumF (h.drewN nq) V HT.eq)
    clear HT
    go_wp2_with fail
    refine hS.out.mono ?_
    rintro e w1 ⟨v1, rfl, h1, b1⟩
    obtain ⟨ad, cap, rfl⟩ := h1.shapeN (tabI_length _ _)
    have bb2 := bThen (bDrewN (Below.refl w.heap.size w) nq) b1
    have e1 : IntKind.i64.wrap (((T + 1 : Nat) : Int) - 1) = T := by rw [show ((T + 1 : Nat) : Int) - 1 = (T : Int) from by omega]; exact IntWalk.i64_in _ (by omega)
    have e2 : IntKind.i64.wrap ((T : Int) + 1 - 1) = T := by rw [show (T : Int) + 1 - 1 = (T : Int) from by omega]; exact IntWalk.i64_in _ (by omega)
    replace hs := Lib.hid hs
    clear b1 hS
    cases hr : inB n 0 T
    · have hr2 := inB_not.1 hr
      have HR := Lib.hid (hout hr2)
      clear hout hr2
      go_wp2_with (go_at_call 46; refine (specIn _ _ _ _).mono ?_; rintro e w' ⟨rfl, rfl⟩)
      go_ret
      exact ⟨ret_int (by rw [sumWaysN, if_pos hs.out, HR.out]), bb2⟩
    · have hr2 := inB_iff.1 hr
      obtain ⟨m, rfl⟩ : ∃ m : Nat, n = (m : Int) := ⟨n.toNat, by omega⟩
      obtain ⟨x, HX, ix, cx, _⟩ := h1.atN (k := m) (tabI_length _ _) (by omega)
      have hx : x = sumF xs m := HX.out.trans (tabI_getD (by omega))
      replace hx := Lib.hid hx
      clear hout hr2
      go_wp2_with (go_at_call 46; refine (specIn _ _ _ _).mono ?_; rintro e w' ⟨rfl, rfl⟩)
      go_ret
      exact ⟨ret_int (by rw [sumWaysN, if_pos hs.out, hx.out]), bb2⟩

theorem specIsPerfectSet {w : World} {base : Nat} {v : Value} {xs : List Int} (h : OI w base v xs) : Calls Try.prog 37 #[v] w (RetBl w (.bool (perfSetB xs))) := by
  cases hs : setB xs
  · go_enter Try.func37, Try.ntmps37
    go_wp2_with (go_at_call 16; refine (specSetOk h).mono ?_; rintro e w' ⟨rfl, nq, rfl⟩)
    go_ret
    exact ⟨ret_bool (by rw [perfSetB, hs]; rfl), bDrewN (Below.refl _ _) _⟩
  · have V := (setFacts hs).val
    go_enter Try.func37, Try.ntmps37
    go_wp2_with fail
    refine (specSetOk h).mono ?_
    rintro e w' ⟨rfl, nq, rfl⟩
    go_wp2_with fail
    refine (specPerf (h.drewN nq) V).mono ?_
    rintro e w1 ⟨rfl, bb⟩
    have bb2 := bThen (bDrewN (Below.refl w.heap.size w) nq) bb
    replace hs := Lib.hid hs
    clear bb
    go_wp2
    go_ret
    exact ⟨ret_bool (by rw [perfSetB, hs.out]; rfl), bb2⟩

theorem specIsComplete {w : World} {base : Nat} {v : Value} {xs : List Int} (h : OI w base v xs) : Calls Try.prog 35 #[v] w (RetBl w (.bool (complSetB xs))) := by
  cases hs : setB xs
  · go_enter Try.func35, Try.ntmps35
    go_wp2_with (go_at_call 16; refine (specSetOk h).mono ?_; rintro e w' ⟨rfl, nq, rfl⟩)
    go_ret
    exact ⟨ret_bool (by rw [complSetB, hs]; rfl), bDrewN (Below.refl _ _) _⟩
  · have V := (setFacts hs).val
    go_enter Try.func35, Try.ntmps35
    go_wp2_with fail
    refine (specSetOk h).mono ?_
    rintro e w' ⟨rfl, nq, rfl⟩
    have h0 := h.drewN nq
    have b0 := bDrewN (Below.refl w.heap.size w) nq
    have HC := Lib.hid hs
    obtain ⟨T, HT⟩ := swTot V
    have hTl := HT.le
    have htop := Lib.hid HT.top
    have hone := HT.one
    have hS := Lib.hid (specSumF h0 V HT.eq)
    have hnn := HT.nn
    clear HT
    go_wp2_with fail
    refine hS.out.mono ?_
    rintro e w1 ⟨v1, rfl, h1, b1⟩
    obtain ⟨ad, cap, rfl⟩ := h1.shapeN (tabI_length _ _)
    have bb2 := bThen b0 b1
    clear b1 hS
    go_wp2
    go_loop [4] (fun n => ∃ k : Nat, k ≤ T + 1 ∧ n = .int .i64 (k : Int) ∧ Hid (okTo (fun k => decide (sumF xs ((k : Int) + 1) ≠ 0)) (k - 1) = true)) (fun n => T + 1 - (intOf n).toNat)
    case atStart => exact ⟨0, Nat.zero_le _, rfl, rfl⟩
    case round =>
      obtain ⟨k, hk, rfl, HK⟩ := hrel
      by_cases hlt : k < T + 1
      · obtain ⟨y, HY, iy, cy, _⟩ := h1.atN (tabI_length _ _) hlt
        have hy : y = sumF xs k := HY.out.trans (tabI_getD hlt)
        have hny := hnn (k : Int)
        rw [← hy] at hny
        have hstep : y ≠ 0 → okTo (fun k => decide (sumF xs ((k : Int) + 1) ≠ 0)) (k + 1 - 1) = true := fun q => by
          rcases Nat.eq_zero_or_pos k with r | r
          · subst r; rfl
          · obtain ⟨j, rfl⟩ : ∃ j, k = j + 1 := ⟨k - 1, by omega⟩
            refine okTo_step (k := j) HK.out (decide_eq_true ?_)
            rw [show ((j + 1 : Nat) : Int) = (j : Int) + 1 from by omega] at hy
            rw [← hy]; exact q
        have hfail : ¬ y ≠ 0 → okTo (fun k => decide (sumF xs ((k : Int) + 1) ≠ 0)) T = false := fun q => by
          rcases Nat.eq_zero_or_pos k with r | r
          · subst r; rw [hy] at q; exact absurd (by rw [show ((0 : Nat) : Int) = 0 from rfl, hone]; decide) q
          · obtain ⟨j, rfl⟩ : ∃ j, k = j + 1 := ⟨k - 1, by omega⟩
            refine okTo_fail (k := j) (by omega) (decide_eq_false ?_)
            rw [show ((j + 1 : Nat) : Int) = (j : Int) + 1 from by omega] at hy
            rw [← hy]; exact q
        replace hy := Lib.hid hy
        by_cases hp : y ≠ 0
        · have hd2 : decide (y < 1) = false := decide_eq_false (by omega)
          have hok := Lib.hid (hstep hp)
          clear hp hstep hfail
          go_wp2
          go_round
          case rel => exact ⟨k + 1, by omega, by go_num, hok.out⟩
          case measure => simp only [intOf]; omega
        · have hd2 : decide (y < 1) = true := decide_eq_true (by omega)
          have hno := Lib.hid (hfail hp)
          clear hp hstep hfail
          go_wp2
          go_ret
          exact ⟨ret_bool (by rw [complSetB, complB, HC.out, htop.out]; exact hno.out.symm), bb2⟩
      · obtain rfl : k = T + 1 := by omega
        have HF := HK.out
        rw [Nat.add_sub_cancel] at HF
        replace HF := Lib.hid HF
        go_wp2
        go_ret
        exact ⟨ret_bool (by rw [complSetB, complB, HC.out, htop.out]; exact HF.out.symm), bb2⟩
end Go.Proofs.Ytbndfohnkdhgeaa
