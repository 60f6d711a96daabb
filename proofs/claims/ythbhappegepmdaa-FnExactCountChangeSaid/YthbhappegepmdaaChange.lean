/- Contracts of CountChange, in the program and in the reference. No conditions. -/
import Derived.Test.YthbhappegepmdaaSys
import Derived.Test.YthbhappegepmdaaArr
namespace Go.Proofs.Ythbhappegepmdaa
open Go.RowKit

/-- One step of the table: place a takes what place a - c has, wrapping as int does. -/
def chg (c : Nat) (out : List Int) (a : Nat) : List Int := out.set a (IntKind.i64.wrap (out.getD a 0 + out.getD (a - c) 0))
def innerTo (c : Nat) (out : List Int) : Nat → List Int
  | 0 => out
  | j + 1 => chg c (innerTo c out j) (c + j)
theorem innerTo_length (c : Nat) (out : List Int) (j : Nat) : (innerTo c out j).length = out.length := by
  induction j with
  | zero => rfl
  | succ j ih => rw [innerTo, chg, List.length_set, ih]
/-- The table after k coins, for the amounts up to m. -/
def coinsTo (xs : List Int) (m : Nat) : Nat → List Int
  | 0 => (List.replicate (m + 1) 0).set 0 1
  | k + 1 => innerTo (xs.getD k 0).toNat (coinsTo xs m k) (m + 1 - (xs.getD k 0).toNat)
theorem coinsTo_length (xs : List Int) (m k : Nat) : (coinsTo xs m k).length = m + 1 := by
  induction k with
  | zero => simp [coinsTo]
  | succ k ih => rw [coinsTo, innerTo_length, ih]
def chgN (xs : List Int) (n : Int) : Int := if sysB xs = true ∧ inB n 0 200 = true then (coinsTo xs n.toNat xs.length).getD n.toNat 0 else 0
theorem chgN_no {xs : List Int} {n : Int} (h : ¬ (sysB xs = true ∧ inB n 0 200 = true)) : chgN xs n = 0 := if_neg h
theorem chgN_yes {xs : List Int} {m : Nat} (h : sysB xs = true) (h2 : inB m 0 200 = true) : chgN xs m = (coinsTo xs m xs.length).getD m 0 := if_pos ⟨h, h2⟩
theorem sys_len {xs : List Int} (h : sysB xs = true) : 1 ≤ xs.length ∧ xs.length ≤ 6 := by
  rw [sysB, Bool.and_eq_true] at h
  have := inB_iff.1 h.1
  omega
theorem sys_at {xs : List Int} {k : Nat} {x : Int} (h : sysB xs = true) (hk : k < xs.length) (hx : x = xs.getD k 0) : 1 ≤ x ∧ x ≤ 100 := by
  rw [sysB, Bool.and_eq_true, Bool.and_eq_true, Bool.and_eq_true] at h
  have h0 := of_decide_eq_true h.2.1
  have hl := of_decide_eq_true h.2.2.2
  have h1 := asc_mono h.2.2.1 k 0 (by omega) hk
  have h2 := asc_mono h.2.2.1 (xs.length - 1) k (by omega) (by omega)
  omega

theorem implChange {w : World} {base : Nat} {v : Value} {xs : List Int} {n : Int} (h : OI w base v xs) :
    Calls Try.prog 18 #[v, .int .i64 n] w fun e w' => e = .returned (.int .i64 (chgN xs n)) ∧ Below w.heap.size w w' := by
  obtain ⟨ad, cap, rfl, hm⟩ := h.shape
  cases hs : sysB xs
  · have hs2 : (!sysB xs) = true := by rw [hs]; rfl
    have HS := Lib.hid hs
    clear hs
    go_enter Try.func18, Try.ntmps18
    go_wp2_with (go_at_call 16; refine (implSystemOk h).mono ?_; rintro e w' ⟨rfl, nq, rfl⟩)
    go_ret
    exact ⟨ret_int (chgN_no (by rw [HS.out]; simp)).symm, bDrewN (Below.refl _ _) _⟩
  · have hs2 : (!sysB xs) = false := by rw [hs]; rfl
    have HS := Lib.hid hs
    clear hs
    cases hr : inB n 0 200
    · have hr2 : (!inB n 0 200) = true := by rw [hr]; rfl
      have HR := Lib.hid hr
      clear hr
      go_enter Try.func18, Try.ntmps18
      go_wp2_with (first | (go_at_call 16; refine (implSystemOk h).mono ?_; rintro e w' ⟨rfl, nq, rfl⟩) | (go_at_call 20; refine (implIn _ _ _ _).mono ?_; rintro e w' ⟨rfl, rfl⟩))
      go_ret
      exact ⟨ret_int (chgN_no (by rw [HR.out]; simp)).symm, bDrewN (Below.refl _ _) _⟩
    · have hnb := inB_iff.1 hr
      obtain ⟨m, rfl⟩ : ∃ m : Nat, n = (m : Int) := ⟨n.toNat, by omega⟩
      have hr2 : (!inB (m : Int) 0 200) = false := by rw [hr]; rfl
      have HR := Lib.hid hr
      clear hr
      have hml : m ≤ 200 := by omega
      clear hnb
      have hxl := sys_len HS.out
      obtain ⟨i0, hi, hz0, hz1, hz2⟩ := info_parts info_int
      go_enter Try.func18, Try.ntmps18
      go_wp2_with (first | (go_at_call 16; refine (implSystemOk h).mono ?_; rintro e w' ⟨rfl, nq, rfl⟩) | (go_at_call 20; refine (implIn _ _ _ _).mono ?_; rintro e w' ⟨rfl, rfl⟩) | (at_make; refine make_ints rfl (.tmp 18) (.tmp 18) rfl (m + 1) rfl rfl (by omega) (by omega) (by omega) ?_; intro oad w1 hmade hb1; obtain ⟨z0, _, iz, cz, fz⟩ := hmade.atN (k := 0) (by simp) (by omega); rw [show ((0 : Nat) : Int) = 0 from rfl] at iz))
      have hm0 : OI (w1.setCell ⟨gOf oad, 0, none⟩ (.int .i64 1)) w.heap.size (.slice oad (m + 1) (m + 1)) (coinsTo xs m 0) := (hmade.setN (by simp) (by omega) 1).1
      have hgb := (hmade.setN (k := 0) (by simp) (by omega) 1).2.1
      have hb2 : Below w.heap.size w (w1.setCell ⟨gOf oad, 0, none⟩ (.int .i64 1)) := ((bDrewN (Below.refl _ _) nq).trans hb1).setCell hgb _
      clear hmade hb1 cz fz iz
      go_loopw [7, 8, 24] (fun _ _ i wr => ∃ k : Nat, k ≤ xs.length ∧ i = .int .i64 k ∧ OI wr w.heap.size (.slice oad (m + 1) (m + 1)) (coinsTo xs m k) ∧ Below w.heap.size w wr) (fun _ _ i _ => xs.length - (intOf i).toNat)
      case atStart => exact ⟨0, Nat.zero_le _, rfl, hm0, hb2⟩
      case round =>
        clear hm0 hb2
        obtain ⟨k, hk, rfl, ho, hb⟩ := hrel
        by_cases hlt : k < xs.length
        · obtain ⟨x, HX, ix, c1⟩ := (h.stay hb).at hlt
          have hxb := sys_at HS.out hlt HX.out
          obtain ⟨c, rfl⟩ : ∃ c : Nat, x = (c : Int) := ⟨x.toNat, by omega⟩
          have hcb : 1 ≤ c ∧ c ≤ 100 := by omega
          clear hxb
          obtain ⟨out, hout⟩ : ∃ out, out = coinsTo xs m k := ⟨_, rfl⟩
          have hol : out.length = m + 1 := by rw [hout]; exact coinsTo_length _ _ _
          rw [← hout] at ho
          have HO := Lib.hid hout
          have HOL := Lib.hid hol
          clear hout hol
          go_wp2
          go_loopw [8] (fun a wi => ∃ j : Nat, (c + j ≤ m + 1 ∨ j = 0) ∧ a = .int .i64 ((c : Int) + (j : Int)) ∧ OI wi w.heap.size (.slice oad (m + 1) (m + 1)) (innerTo c out j) ∧ Below w.heap.size w wi) (fun a _ => (m + 1 - intOf a).toNat)
          case atStart => exact ⟨0, .inr rfl, by simp, ho, hb⟩
          case round =>
            obtain ⟨j, hj, rfl, hoi, hbi⟩ := hrel
            have HO2 := Lib.hid hoi
            have hil : (innerTo c out j).length = m + 1 := by rw [innerTo_length, HOL.out]
            have HIL := Lib.hid hil
            clear hil hoi
            by_cases hlt2 : c + j ≤ m
            · obtain ⟨u, HU, iu, cu, fu⟩ := HO2.out.atN (k := c + j) HIL.out (by omega)
              obtain ⟨v, HV, iv, cv, fv⟩ := HO2.out.atN (k := j) HIL.out (by omega)
              have hst := HO2.out.setN (k := c + j) HIL.out (by omega) (IntKind.i64.wrap (u + v))
              rw [show ((c + j : Nat) : Int) = (c : Int) + (j : Int) from by omega] at iu
              have e1 : IntKind.i64.wrap ((c : Int) + (j : Int) - (c : Int)) = (j : Int) := by rw [show (c : Int) + (j : Int) - (c : Int) = (j : Int) from by omega]; exact IntWalk.i64_in _ (by omega)
              have hnew : innerTo c out (j + 1) = (innerTo c out j).set (c + j) (IntKind.i64.wrap (u + v)) := by
                rw [innerTo, chg, HU.out, HV.out, show c + j - c = j from by omega]
              rw [← hnew] at hst
              obtain ⟨s, hs⟩ : ∃ s, IntKind.i64.wrap (u + v) = s := ⟨_, rfl⟩
              rw [hs] at hst
              have HST := Lib.hid hst
              clear hst hnew
              go_wp2
              go_region
              go_wp2
              go_roundw
              case rel => exact ⟨j + 1, .inl (by omega), by go_num, HST.out.1, (hbi.drew).setCell HST.out.2.1 _⟩
              case measure => simp only [intOf]; omega
            · have hjm : j = m + 1 - c := by omega
              have hnext : OI wr w.heap.size (.slice oad (m + 1) (m + 1)) (coinsTo xs m (k + 1)) := by
                rw [coinsTo, ← HX.out, Int.toNat_natCast, ← HO.out, ← hjm]
                exact HO2.out
              have HNX := Lib.hid hnext
              clear hnext hjm
              go_wp2
              go_roundw
              case rel => exact ⟨k + 1, by omega, by go_num, HNX.out, hbi⟩
              case measure => simp only [intOf]; omega
        · have hk2 : k = xs.length := by omega
          have HO2 := Lib.hid ho
          clear ho
          obtain ⟨r, HRr, ir, cr, _⟩ := HO2.out.atN (k := m) (coinsTo_length _ _ _) (by omega)
          go_wp2
          go_ret
          exact ⟨ret_int (by rw [chgN_yes HS.out HR.out, HRr.out, hk2]), hb⟩
theorem specChange {w : World} {base : Nat} {v : Value} {xs : List Int} {n : Int} (h : OI w base v xs) :
    Calls Try.prog 17 #[v, .int .i64 n] w fun e w' => e = .returned (.int .i64 (chgN xs n)) ∧ Below w.heap.size w w' := by
  obtain ⟨ad, cap, rfl, hm⟩ := h.shape
  cases hs : sysB xs
  · have hs2 : (!sysB xs) = true := by rw [hs]; rfl
    have HS := Lib.hid hs
    clear hs
    go_enter Try.func17, Try.ntmps17
    go_wp2_with (go_at_call 15; refine (specSystemOk h).mono ?_; rintro e w' ⟨rfl, nq, rfl⟩)
    go_ret
    exact ⟨ret_int (chgN_no (by rw [HS.out]; simp)).symm, bDrewN (Below.refl _ _) _⟩
  · have hs2 : (!sysB xs) = false := by rw [hs]; rfl
    have HS := Lib.hid hs
    clear hs
    cases hr : inB n 0 200
    · have hr2 : (!inB n 0 200) = true := by rw [hr]; rfl
      have HR := Lib.hid hr
      clear hr
      go_enter Try.func17, Try.ntmps17
      go_wp2_with (first | (go_at_call 15; refine (specSystemOk h).mono ?_; rintro e w' ⟨rfl, nq, rfl⟩) | (go_at_call 19; refine (specIn _ _ _ _).mono ?_; rintro e w' ⟨rfl, rfl⟩))
      go_ret
      exact ⟨ret_int (chgN_no (by rw [HR.out]; simp)).symm, bDrewN (Below.refl _ _) _⟩
    · have hnb := inB_iff.1 hr
      obtain ⟨m, rfl⟩ : ∃ m : Nat, n = (m : Int) := ⟨n.toNat, by omega⟩
      have hr2 : (!inB (m : Int) 0 200) = false := by rw [hr]; rfl
      have HR := Lib.hid hr
      clear hr
      have hml : m ≤ 200 := by omega
      clear hnb
      have hxl := sys_len HS.out
      obtain ⟨i0, hi, hz0, hz1, hz2⟩ := info_parts info_int
      go_enter Try.func17, Try.ntmps17
      go_wp2_with (first | (go_at_call 15; refine (specSystemOk h).mono ?_; rintro e w' ⟨rfl, nq, rfl⟩) | (go_at_call 19; refine (specIn _ _ _ _).mono ?_; rintro e w' ⟨rfl, rfl⟩) | (at_make; refine make_ints rfl (.tmp 17) (.tmp 17) rfl (m + 1) rfl rfl (by omega) (by omega) (by omega) ?_; intro oad w1 hmade hb1; obtain ⟨z0, _, iz, cz, fz⟩ := hmade.atN (k := 0) (by simp) (by omega); rw [show ((0 : Nat) : Int) = 0 from rfl] at iz))
      have hm0 : OI (w1.setCell ⟨gOf oad, 0, none⟩ (.int .i64 1)) w.heap.size (.slice oad (m + 1) (m + 1)) (coinsTo xs m 0) := (hmade.setN (by simp) (by omega) 1).1
      have hgb := (hmade.setN (k := 0) (by simp) (by omega) 1).2.1
      have hb2 : Below w.heap.size w (w1.setCell ⟨gOf oad, 0, none⟩ (.int .i64 1)) := ((bDrewN (Below.refl _ _) nq).trans hb1).setCell hgb _
      clear hmade hb1 cz fz iz
      go_loopw [6, 7] (fun i _ wr => ∃ k : Nat, k ≤ xs.length ∧ i = .int .i64 k ∧ OI wr w.heap.size (.slice oad (m + 1) (m + 1)) (coinsTo xs m k) ∧ Below w.heap.size w wr) (fun i _ _ => xs.length - (intOf i).toNat)
      case atStart => exact ⟨0, Nat.zero_le _, rfl, hm0, hb2⟩
      case round =>
        clear hm0 hb2
        obtain ⟨k, hk, rfl, ho, hb⟩ := hrel
        by_cases hlt : k < xs.length
        · obtain ⟨x, HX, ix, c1⟩ := (h.stay hb).at hlt
          have hxb := sys_at HS.out hlt HX.out
          obtain ⟨c, rfl⟩ : ∃ c : Nat, x = (c : Int) := ⟨x.toNat, by omega⟩
          have hcb : 1 ≤ c ∧ c ≤ 100 := by omega
          clear hxb
          obtain ⟨out, hout⟩ : ∃ out, out = coinsTo xs m k := ⟨_, rfl⟩
          have hol : out.length = m + 1 := by rw [hout]; exact coinsTo_length _ _ _
          rw [← hout] at ho
          have HO := Lib.hid hout
          have HOL := Lib.hid hol
          clear hout hol
          go_wp2
          go_loopw [7] (fun a wi => ∃ j : Nat, (c + j ≤ m + 1 ∨ j = 0) ∧ a = .int .i64 ((c : Int) + (j : Int)) ∧ OI wi w.heap.size (.slice oad (m + 1) (m + 1)) (innerTo c out j) ∧ Below w.heap.size w wi) (fun a _ => (m + 1 - intOf a).toNat)
          case atStart => exact ⟨0, .inr rfl, by simp, ho, hb⟩
          case round =>
            obtain ⟨j, hj, rfl, hoi, hbi⟩ := hrel
            have HO2 := Lib.hid hoi
            have hil : (innerTo c out j).length = m + 1 := by rw [innerTo_length, HOL.out]
            have HIL := Lib.hid hil
            clear hil hoi
            by_cases hlt2 : c + j ≤ m
            · obtain ⟨u, HU, iu, cu, fu⟩ := HO2.out.atN (k := c + j) HIL.out (by omega)
              obtain ⟨v, HV, iv, cv, fv⟩ := HO2.out.atN (k := j) HIL.out (by omega)
              have hst := HO2.out.setN (k := c + j) HIL.out (by omega) (IntKind.i64.wrap (u + v))
              rw [show ((c + j : Nat) : Int) = (c : Int) + (j : Int) from by omega] at iu
              have e1 : IntKind.i64.wrap ((c : Int) + (j : Int) - (c : Int)) = (j : Int) := by rw [show (c : Int) + (j : Int) - (c : Int) = (j : Int) from by omega]; exact IntWalk.i64_in _ (by omega)
              have hnew : innerTo c out (j + 1) = (innerTo c out j).set (c + j) (IntKind.i64.wrap (u + v)) := by
                rw [innerTo, chg, HU.out, HV.out, show c + j - c = j from by omega]
              rw [← hnew] at hst
              have hcc := (h.stay hbi).at hlt
              obtain ⟨x', HX', ix', c1'⟩ := hcc
              have hxx : x' = (c : Int) := by rw [HX'.out, ← HX.out]
              subst hxx
              obtain ⟨s, hs⟩ : ∃ s, IntKind.i64.wrap (u + v) = s := ⟨_, rfl⟩
              rw [hs] at hst
              have HST := Lib.hid hst
              clear hst hnew
              go_wp2
              go_region
              go_wp2
              go_roundw
              case rel => exact ⟨j + 1, .inl (by omega), by go_num, HST.out.1, (hbi.drew).setCell HST.out.2.1 _⟩
              case measure => simp only [intOf]; omega
            · have hjm : j = m + 1 - c := by omega
              have hnext : OI wr w.heap.size (.slice oad (m + 1) (m + 1)) (coinsTo xs m (k + 1)) := by
                rw [coinsTo, ← HX.out, Int.toNat_natCast, ← HO.out, ← hjm]
                exact HO2.out
              have HNX := Lib.hid hnext
              clear hnext hjm
              go_wp2
              go_roundw
              case rel => exact ⟨k + 1, by omega, by go_num, HNX.out, hbi⟩
              case measure => simp only [intOf]; omega
        · have hk2 : k = xs.length := by omega
          have HO2 := Lib.hid ho
          clear ho
          obtain ⟨r, HRr, ir, cr, _⟩ := HO2.out.atN (k := m) (coinsTo_length _ _ _) (by omega)
          go_wp2
          go_ret
          exact ⟨ret_int (by rw [chgN_yes HS.out HR.out, HRr.out, hk2]), hb⟩
end Go.Proofs.Ythbhappegepmdaa
