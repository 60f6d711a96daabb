/- Contracts of ReachOf and LeastMissing. No conditions. -/
import Derived.Test.YtbndfohnkdhgeaaPan2
namespace Go.Proofs.Ytbndfohnkdhgeaa
open Go.RowKit Go.Maps

/-- R is how far f reaches. -/
def IsReach (f : Int → Int) (R : Nat) : Prop := (∀ j : Nat, 1 ≤ j → j ≤ R → 0 < f j) ∧ f ((R : Int) + 1) = 0
theorem IsReach.unique {f : Int → Int} {R S : Nat} (h : IsReach f R) (k : IsReach f S) : R = S := by
  have aux : ∀ {R S : Nat}, IsReach f R → IsReach f S → ¬ R < S := fun {R S} h k hlt => by
    have h1 := k.1 (R + 1) (by omega) (by omega)
    have h2 := h.2
    rw [show ((R + 1 : Nat) : Int) = (R : Int) + 1 from by omega] at h1
    omega
  have h1 := aux h k
  have h2 := aux k h
  omega
open Classical in
noncomputable def reachF (f : Int → Int) : Int := if h : ∃ R, IsReach f R then (h.choose : Int) else 0
theorem reachF_eq {f : Int → Int} {R : Nat} (h : IsReach f R) : reachF f = R := by
  have hx : ∃ R, IsReach f R := ⟨R, h⟩
  rw [reachF, dif_pos hx, hx.choose_spec.unique h]
open Classical in
noncomputable def reachN (xs : List Int) (pans : Int) : Int := if setB xs = true ∧ (pans = 1 ∨ pans = 2) then reachF (wF (decide (pans = 2)) xs xs.length) else 0
noncomputable def missN (xs : List Int) : Int := if setB xs = true then reachN xs 1 + 1 else 0
theorem reach_no {xs : List Int} {pans : Int} (h : ¬ (setB xs = true ∧ (pans = 1 ∨ pans = 2))) : reachN xs pans = 0 := if_neg h
theorem reach_one {xs : List Int} (h : setB xs = true) {R : Nat} (hR : IsReach (wF false xs xs.length) R) : reachN xs 1 = R := by
  rw [reachN, if_pos ⟨h, .inl rfl⟩]
  exact reachF_eq hR
theorem reach_two {xs : List Int} (h : setB xs = true) {R : Nat} (hR : IsReach (wF true xs xs.length) R) : reachN xs 2 = R := by
  rw [reachN, if_pos ⟨h, .inr rfl⟩]
  exact reachF_eq hR

/-- What both loops need to know of the set. -/
structure Tot (two : Bool) (xs : List Int) (T : Nat) : Prop where
  eq : (T : Int) = preS xs xs.length
  le : T ≤ 8000
  out : ∀ j : Nat, T < j → wF two xs xs.length j = 0
  nn : ∀ n, 0 ≤ wF two xs xs.length n
theorem tot {xs : List Int} (F : SetFacts xs) (two : Bool) : ∃ T, Tot two xs T := by
  have h1 := preS_nonneg F.each xs.length (Nat.le_refl _)
  have h2 := F.len
  refine ⟨(preS xs xs.length).toNat, by omega, by omega, fun j hj => wF_sup F.each two xs.length (Nat.le_refl _) j (by omega), fun n => (wF_bd two xs xs.length n).1⟩

theorem implReachOf {w : World} {base : Nat} {v : Value} {xs : List Int} (h : OI w base v xs) {n : Int} (_ : -9223372036854775808 ≤ n ∧ n ≤ 9223372036854775807) : Calls Try.prog 27 #[v, .int .i64 n] w (RetBl w (.int .i64 (reachN xs n))) := by
  cases hs : setB xs
  · go_enter Try.func27, Try.ntmps27
    go_wp2_with (go_at_call 18; refine (implSetOk h).mono ?_; rintro e w' ⟨rfl, nq, rfl⟩)
    go_ret
    exact ⟨ret_int (by rw [reach_no (by rw [hs]; intro q; cases q.1)]), bDrewN (Below.refl _ _) _⟩
  · have F := setFacts hs
    by_cases h1 : n = 1
    · subst h1
      go_enter Try.func27, Try.ntmps27
      go_wp2_with fail
      refine (implSetOk h).mono ?_
      rintro e w' ⟨rfl, nq, rfl⟩
      go_wp2_with fail
      refine (onePanM (h.drewN nq) F).mono ?_
      rintro e w1 ⟨b, rfl, hb, hm, bb⟩
      have bb2 := bThen (bDrewN (Below.refl w.heap.size w) nq) bb
      replace hs := Lib.hid hs
      clear bb
      obtain ⟨T, HT⟩ := tot F false
      have hm := Lib.hid hm
      obtain ⟨f, ef⟩ : ∃ f, wF false xs xs.length = f := ⟨_, rfl⟩
      have hout := HT.out
      have hnn := HT.nn
      have hTl := HT.le
      rw [ef] at hout hnn hm
      replace ef := Lib.hid ef
      replace HT := Lib.hid HT
      go_wp2
      go_loop [6] (fun n => ∃ R : Nat, R ≤ T ∧ n = .int .i64 (R : Int) ∧ Hid (∀ j : Nat, 1 ≤ j → j ≤ R → 0 < f j)) (fun n => T + 1 - (intOf n).toNat)
      case atStart => exact ⟨0, Nat.zero_le _, rfl, fun j h1 h2 => by omega⟩
      case round =>
        obtain ⟨R, hR, rfl, HJ⟩ := hrel
        have e1 : IntKind.i64.wrap ((R : Int) + 1) = (R : Int) + 1 := IntWalk.i64_in _ (by omega)
        have hk := hm.out.look (k := (R : Int) + 1) (wfI (by omega))
        have hn1 := hnn ((R : Int) + 1)
        have ho1 := hout (R + 1)
        rw [show ((R + 1 : Nat) : Int) = (R : Int) + 1 from by omega] at ho1
        have hj : 0 < f ((R : Int) + 1) → ∀ j : Nat, 1 ≤ j → j ≤ R + 1 → 0 < f j := fun hp j h1 h2 => by
          rcases (show j ≤ R ∨ j = R + 1 by omega) with q | rfl
          · exact HJ.out j h1 q
          · rw [show ((R + 1 : Nat) : Int) = (R : Int) + 1 from by omega]; exact hp
        obtain ⟨y, hy⟩ : ∃ y, f ((R : Int) + 1) = y := ⟨_, rfl⟩
        rw [hy] at hk hn1 ho1 hj
        by_cases hp : 0 < y
        · have hd : decide (0 < y) = true := decide_eq_true hp
          have hJ := Lib.hid (hj hp)
          have hRT : R + 1 ≤ T := by rcases (show R + 1 ≤ T ∨ T < R + 1 by omega) with q | q; exact q; have := ho1 q; omega
          replace hy := Lib.hid hy
          clear hj ho1 hn1 hout hnn hp
          go_wp2
          go_round
          case rel => exact ⟨R + 1, hRT, by go_num, hJ.out⟩
          case measure => simp only [intOf]; omega
        · have hd : decide (0 < y) = false := decide_eq_false hp
          have hfin : IsReach f R := ⟨HJ.out, by rw [hy]; omega⟩
          rw [← ef.out] at hfin
          have hres := reach_one hs.out hfin
          replace hres := Lib.hid hres
          replace hy := Lib.hid hy
          clear hj ho1 hn1 hout hnn hp hfin
          go_wp2
          go_ret
          exact ⟨ret_int hres.out.symm, bb2⟩
    · by_cases h2 : n = 2
      · subst h2
        go_enter Try.func27, Try.ntmps27
        go_wp2_with fail
        refine (implSetOk h).mono ?_
        rintro e w' ⟨rfl, nq, rfl⟩
        go_wp2_with fail
        refine (onePanM (h.drewN nq) F).mono ?_
        rintro e w1 ⟨b1, rfl, _, _, bb1⟩
        go_wp2_with fail
        refine (twoPansM ((h.drewN nq).stay bb1) F).mono ?_
        rintro e w2 ⟨b, rfl, hb, hm, bb⟩
        have bb2 := bThen (bThen (bDrewN (Below.refl w.heap.size w) nq) bb1) bb
        replace hs := Lib.hid hs
        clear bb bb1
        obtain ⟨T, HT⟩ := tot F true
        have hm := Lib.hid hm
        obtain ⟨f, ef⟩ : ∃ f, wF true xs xs.length = f := ⟨_, rfl⟩
        have hout := HT.out
        have hnn := HT.nn
        have hTl := HT.le
        rw [ef] at hout hnn hm
        replace ef := Lib.hid ef
        replace HT := Lib.hid HT
        go_wp2
        go_loop [6] (fun n => ∃ R : Nat, R ≤ T ∧ n = .int .i64 (R : Int) ∧ Hid (∀ j : Nat, 1 ≤ j → j ≤ R → 0 < f j)) (fun n => T + 1 - (intOf n).toNat)
        case atStart => exact ⟨0, Nat.zero_le _, rfl, fun j h1 h2 => by omega⟩
        case round =>
          obtain ⟨R, hR, rfl, HJ⟩ := hrel
          have e1 : IntKind.i64.wrap ((R : Int) + 1) = (R : Int) + 1 := IntWalk.i64_in _ (by omega)
          have hk := hm.out.look (k := (R : Int) + 1) (wfI (by omega))
          have hn1 := hnn ((R : Int) + 1)
          have ho1 := hout (R + 1)
          rw [show ((R + 1 : Nat) : Int) = (R : Int) + 1 from by omega] at ho1
          have hj : 0 < f ((R : Int) + 1) → ∀ j : Nat, 1 ≤ j → j ≤ R + 1 → 0 < f j := fun hp j h1 h2 => by
            rcases (show j ≤ R ∨ j = R + 1 by omega) with q | rfl
            · exact HJ.out j h1 q
            · rw [show ((R + 1 : Nat) : Int) = (R : Int) + 1 from by omega]; exact hp
          obtain ⟨y, hy⟩ : ∃ y, f ((R : Int) + 1) = y := ⟨_, rfl⟩
          rw [hy] at hk hn1 ho1 hj
          by_cases hp : 0 < y
          · have hd : decide (0 < y) = true := decide_eq_true hp
            have hJ := Lib.hid (hj hp)
            have hRT : R + 1 ≤ T := by rcases (show R + 1 ≤ T ∨ T < R + 1 by omega) with q | q; exact q; have := ho1 q; omega
            replace hy := Lib.hid hy
            clear hj ho1 hn1 hout hnn hp
            go_wp2
            go_round
            case rel => exact ⟨R + 1, hRT, by go_num, hJ.out⟩
            case measure => simp only [intOf]; omega
          · have hd : decide (0 < y) = false := decide_eq_false hp
            have hfin : IsReach f R := ⟨HJ.out, by rw [hy]; omega⟩
            rw [← ef.out] at hfin
            have hres := reach_two hs.out hfin
            replace hres := Lib.hid hres
            replace hy := Lib.hid hy
            clear hj ho1 hn1 hout hnn hp hfin
            go_wp2
            go_ret
            exact ⟨ret_int hres.out.symm, bb2⟩
      · have n1 : (n != 1) = true := by simpa using h1
        have n2 : (n != 2) = true := by simpa using h2
        have hno := Lib.hid (reach_no (xs := xs) (pans := n) (by omega))
        clear h1 h2
        go_enter Try.func27, Try.ntmps27
        go_wp2_with fail
        refine (implSetOk h).mono ?_
        rintro e w' ⟨rfl, nq, rfl⟩
        go_wp2
        go_ret
        exact ⟨ret_int hno.out.symm, bDrewN (Below.refl _ _) _⟩

theorem specReachOf {w : World} {base : Nat} {v : Value} {xs : List Int} (h : OI w base v xs) {n : Int} (_ : -9223372036854775808 ≤ n ∧ n ≤ 9223372036854775807) : Calls Try.prog 26 #[v, .int .i64 n] w (RetBl w (.int .i64 (reachN xs n))) := by
  cases hs : setB xs
  · go_enter Try.func26, Try.ntmps26
    go_wp2_with (go_at_call 16; refine (specSetOk h).mono ?_; rintro e w' ⟨rfl, nq, rfl⟩)
    go_ret
    exact ⟨ret_int (by rw [reach_no (by rw [hs]; intro q; cases q.1)]), bDrewN (Below.refl _ _) _⟩
  · have F := setFacts hs
    by_cases h1 : n = 1
    · subst h1
      go_enter Try.func26, Try.ntmps26
      go_wp2_with fail
      refine (specSetOk h).mono ?_
      rintro e w' ⟨rfl, nq, rfl⟩
      go_wp2_with fail
      refine (specIn _ _ _ _).mono ?_
      rintro e w' ⟨rfl, rfl⟩
      rw [show inB 1 1 2 = true from rfl]
      replace hs := Lib.hid hs
      obtain ⟨T, HT⟩ := tot F false
      have hTl := HT.le
      have hout := HT.out
      have hnn := HT.nn
      have HS := Lib.hid (specSums (h.drewN nq) false F.len F.each HT.eq)
      clear HT
      go_wp2_with fail
      refine HS.out.mono ?_
      rintro e w1 ⟨v1, rfl, h1, b1⟩
      obtain ⟨ad, cap, rfl⟩ := h1.shapeN (tab_length _ _)
      have e0 : (2 * (T : Int) + 1) / 2 = T := by omega
      have bb2 := bThen (bDrewN (Below.refl w.heap.size w) nq) b1
      clear HS b1
      obtain ⟨f, ef⟩ : ∃ f, wF false xs xs.length = f := ⟨_, rfl⟩
      rw [ef] at hout hnn h1
      replace ef := Lib.hid ef
      go_wp2
      go_loop [7] (fun n => ∃ R : Nat, R ≤ T ∧ n = .int .i64 (R : Int) ∧ Hid (∀ j : Nat, 1 ≤ j → j ≤ R → 0 < f j)) (fun n => T + 1 - (intOf n).toNat)
      case atStart => exact ⟨0, Nat.zero_le _, rfl, fun j h1 h2 => by omega⟩
      case round =>
        obtain ⟨R, hR, rfl, HJ⟩ := hrel
        have hn1 := hnn ((R : Int) + 1)
        have ho1 := hout (R + 1)
        rw [show ((R + 1 : Nat) : Int) = (R : Int) + 1 from by omega] at ho1
        have hj : 0 < f ((R : Int) + 1) → ∀ j : Nat, 1 ≤ j → j ≤ R + 1 → 0 < f j := fun hp j h1 h2 => by
          rcases (show j ≤ R ∨ j = R + 1 by omega) with q | rfl
          · exact HJ.out j h1 q
          · rw [show ((R + 1 : Nat) : Int) = (R : Int) + 1 from by omega]; exact hp
        by_cases hlt : R < T
        · have hdl : decide ((R : Int) < T) = true := decide_eq_true (by omega)
          have e1 : IntKind.i64.wrap ((T : Int) + R) = T + R := IntWalk.i64_in _ (by omega)
          have e2 : IntKind.i64.wrap ((T : Int) + R + 1) = (T : Int) + R + 1 := IntWalk.i64_in _ (by omega)
          obtain ⟨y, HY, iy, cy, _⟩ := h1.atN (k := T + R + 1) (tab_length _ _) (by omega)
          rw [show ((T + R + 1 : Nat) : Int) = (T : Int) + R + 1 from by omega] at iy
          have hy : f ((R : Int) + 1) = y := by
            rw [HY.out, tab_getD (by omega), sft]
            congr 1
            omega
          rw [hy] at hn1 ho1 hj
          by_cases hp : 0 < y
          · have hd : decide (0 < y) = true := decide_eq_true hp
            have hJ := Lib.hid (hj hp)
            replace hy := Lib.hid hy
            clear hj ho1 hn1 hout hnn hp
            go_wp2
            go_round
            case rel => exact ⟨R + 1, by omega, by go_num, hJ.out⟩
            case measure => simp only [intOf]; omega
          · have hd : decide (0 < y) = false := decide_eq_false hp
            have hfin : IsReach f R := ⟨HJ.out, by rw [hy]; omega⟩
            rw [← ef.out] at hfin
            have hres := reach_one hs.out hfin
            replace hres := Lib.hid hres
            replace hy := Lib.hid hy
            clear hj ho1 hn1 hout hnn hp hfin
            go_wp2
            go_ret
            exact ⟨ret_int hres.out.symm, bb2⟩
        · have hdl : decide ((R : Int) < T) = false := decide_eq_false (by omega)
          have hfin : IsReach f R := ⟨HJ.out, ho1 (by omega)⟩
          rw [← ef.out] at hfin
          have hres := reach_one hs.out hfin
          replace hres := Lib.hid hres
          clear hj ho1 hn1 hout hnn hfin
          go_wp2
          go_ret
          exact ⟨ret_int hres.out.symm, bb2⟩
    · by_cases h2 : n = 2
      · subst h2
        go_enter Try.func26, Try.ntmps26
        go_wp2_with fail
        refine (specSetOk h).mono ?_
        rintro e w' ⟨rfl, nq, rfl⟩
        go_wp2_with fail
        refine (specIn _ _ _ _).mono ?_
        rintro e w' ⟨rfl, rfl⟩
        rw [show inB 2 1 2 = true from rfl]
        replace hs := Lib.hid hs
        obtain ⟨T, HT⟩ := tot F true
        have hTl := HT.le
        have hout := HT.out
        have hnn := HT.nn
        have HS := Lib.hid (specSums (h.drewN nq) true F.len F.each HT.eq)
        clear HT
        go_wp2_with fail
        refine HS.out.mono ?_
        rintro e w1 ⟨v1, rfl, h1, b1⟩
        obtain ⟨ad, cap, rfl⟩ := h1.shapeN (tab_length _ _)
        have e0 : (2 * (T : Int) + 1) / 2 = T := by omega
        have bb2 := bThen (bDrewN (Below.refl w.heap.size w) nq) b1
        clear HS b1
        obtain ⟨f, ef⟩ : ∃ f, wF true xs xs.length = f := ⟨_, rfl⟩
        rw [ef] at hout hnn h1
        replace ef := Lib.hid ef
        go_wp2
        go_loop [7] (fun n => ∃ R : Nat, R ≤ T ∧ n = .int .i64 (R : Int) ∧ Hid (∀ j : Nat, 1 ≤ j → j ≤ R → 0 < f j)) (fun n => T + 1 - (intOf n).toNat)
        case atStart => exact ⟨0, Nat.zero_le _, rfl, fun j h1 h2 => by omega⟩
        case round =>
          obtain ⟨R, hR, rfl, HJ⟩ := hrel
          have hn1 := hnn ((R : Int) + 1)
          have ho1 := hout (R + 1)
          rw [show ((R + 1 : Nat) : Int) = (R : Int) + 1 from by omega] at ho1
          have hj : 0 < f ((R : Int) + 1) → ∀ j : Nat, 1 ≤ j → j ≤ R + 1 → 0 < f j := fun hp j h1 h2 => by
            rcases (show j ≤ R ∨ j = R + 1 by omega) with q | rfl
            · exact HJ.out j h1 q
            · rw [show ((R + 1 : Nat) : Int) = (R : Int) + 1 from by omega]; exact hp
          by_cases hlt : R < T
          · have hdl : decide ((R : Int) < T) = true := decide_eq_true (by omega)
            have e1 : IntKind.i64.wrap ((T : Int) + R) = T + R := IntWalk.i64_in _ (by omega)
            have e2 : IntKind.i64.wrap ((T : Int) + R + 1) = (T : Int) + R + 1 := IntWalk.i64_in _ (by omega)
            obtain ⟨y, HY, iy, cy, _⟩ := h1.atN (k := T + R + 1) (tab_length _ _) (by omega)
            rw [show ((T + R + 1 : Nat) : Int) = (T : Int) + R + 1 from by omega] at iy
            have hy : f ((R : Int) + 1) = y := by
              rw [HY.out, tab_getD (by omega), sft]
              congr 1
              omega
            rw [hy] at hn1 ho1 hj
            by_cases hp : 0 < y
            · have hd : decide (0 < y) = true := decide_eq_true hp
              have hJ := Lib.hid (hj hp)
              replace hy := Lib.hid hy
              clear hj ho1 hn1 hout hnn hp
              go_wp2
              go_round
              case rel => exact ⟨R + 1, by omega, by go_num, hJ.out⟩
              case measure => simp only [intOf]; omega
            · have hd : decide (0 < y) = false := decide_eq_false hp
              have hfin : IsReach f R := ⟨HJ.out, by rw [hy]; omega⟩
              rw [← ef.out] at hfin
              have hres := reach_two hs.out hfin
              replace hres := Lib.hid hres
              replace hy := Lib.hid hy
              clear hj ho1 hn1 hout hnn hp hfin
              go_wp2
              go_ret
              exact ⟨ret_int hres.out.symm, bb2⟩
          · have hdl : decide ((R : Int) < T) = false := decide_eq_false (by omega)
            have hfin : IsReach f R := ⟨HJ.out, ho1 (by omega)⟩
            rw [← ef.out] at hfin
            have hres := reach_two hs.out hfin
            replace hres := Lib.hid hres
            clear hj ho1 hn1 hout hnn hfin
            go_wp2
            go_ret
            exact ⟨ret_int hres.out.symm, bb2⟩
      · have n1 : inB n 1 2 = false := inB_not.2 (by omega)
        have hno := Lib.hid (reach_no (xs := xs) (pans := n) (by omega))
        clear h1 h2
        go_enter Try.func26, Try.ntmps26
        go_wp2_with fail
        refine (specSetOk h).mono ?_
        rintro e w' ⟨rfl, nq, rfl⟩
        go_wp2_with fail
        refine (specIn _ _ _ _).mono ?_
        rintro e w' ⟨rfl, rfl⟩
        go_wp2
        go_ret
        exact ⟨ret_int hno.out.symm, bDrewN (Below.refl _ _) _⟩

theorem reach_bd (xs : List Int) (p : Int) : 0 ≤ reachN xs p ∧ reachN xs p ≤ 8000 := by
  by_cases h : setB xs = true ∧ (p = 1 ∨ p = 2)
  · rw [reachN, if_pos h]
    obtain ⟨T, HT⟩ := tot (setFacts h.1) (decide (p = 2))
    rw [reachF]
    split
    · rename_i hx
      have hs := hx.choose_spec
      refine ⟨by omega, ?_⟩
      rcases (show hx.choose ≤ T ∨ T < hx.choose by omega) with q | q
      · have := HT.le; omega
      · have h1 := hs.1 (T + 1) (by omega) (by omega)
        have h2 := HT.out (T + 1) (by omega)
        omega
    · omega
  · rw [reach_no h]; omega
theorem implLeastMissing {w : World} {base : Nat} {v : Value} {xs : List Int} (h : OI w base v xs) : Calls Try.prog 29 #[v] w (RetBl w (.int .i64 (missN xs))) := by
  cases hs : setB xs
  · go_enter Try.func29, Try.ntmps29
    go_wp2_with (go_at_call 18; refine (implSetOk h).mono ?_; rintro e w' ⟨rfl, nq, rfl⟩)
    go_ret
    exact ⟨ret_int (by rw [missN, hs]; rfl), bDrewN (Below.refl _ _) _⟩
  · have hb := reach_bd xs 1
    go_enter Try.func29, Try.ntmps29
    go_wp2_with fail
    refine (implSetOk h).mono ?_
    rintro e w' ⟨rfl, nq, rfl⟩
    go_wp2_with fail
    refine (implReachOf (h.drewN nq) (by omega)).mono ?_
    rintro e w1 ⟨rfl, bb⟩
    have bb2 := bThen (bDrewN (Below.refl w.heap.size w) nq) bb
    have hm : missN xs = reachN xs 1 + 1 := by rw [missN, if_pos hs]
    obtain ⟨r, hr⟩ : ∃ r, reachN xs 1 = r := ⟨_, rfl⟩
    rw [hr] at hb hm ⊢
    have e1 : IntKind.i64.wrap (r + 1) = r + 1 := IntWalk.i64_in _ (by omega)
    replace hm := Lib.hid hm
    replace hr := Lib.hid hr
    clear bb
    go_wp2
    go_ret
    exact ⟨ret_int hm.out.symm, bb2⟩
theorem specLeastMissing {w : World} {base : Nat} {v : Value} {xs : List Int} (h : OI w base v xs) : Calls Try.prog 28 #[v] w (RetBl w (.int .i64 (missN xs))) := by
  cases hs : setB xs
  · go_enter Try.func28, Try.ntmps28
    go_wp2_with (go_at_call 16; refine (specSetOk h).mono ?_; rintro e w' ⟨rfl, nq, rfl⟩)
    go_ret
    exact ⟨ret_int (by rw [missN, hs]; rfl), bDrewN (Below.refl _ _) _⟩
  · have hb := reach_bd xs 1
    go_enter Try.func28, Try.ntmps28
    go_wp2_with fail
    refine (specSetOk h).mono ?_
    rintro e w' ⟨rfl, nq, rfl⟩
    go_wp2_with fail
    refine (specReachOf (h.drewN nq) (by omega)).mono ?_
    rintro e w1 ⟨rfl, bb⟩
    have bb2 := bThen (bDrewN (Below.refl w.heap.size w) nq) bb
    have hm : missN xs = reachN xs 1 + 1 := by rw [missN, if_pos hs]
    obtain ⟨r, hr⟩ : ∃ r, reachN xs 1 = r := ⟨_, rfl⟩
    rw [hr] at hb hm ⊢
    have e1 : IntKind.i64.wrap (r + 1) = r + 1 := IntWalk.i64_in _ (by omega)
    replace hm := Lib.hid hm
    replace hr := Lib.hid hr
    clear bb
    go_wp2
    go_ret
    exact ⟨ret_int hm.out.symm, bb2⟩
end Go.Proofs.Ytbndfohnkdhgeaa