/- Contract of spec.MakeFraction. No conditions. -/
import Derived.Test.YtbppdjglmgnggaaMake
namespace Go.Proofs.Ytbppdjglmgnggaa
open Go.RowKit

theorem specMake (t b : Int) (w : World) : Calls Try.prog 14 #[.int .i64 t, .int .i64 b] w (RetB w (.tuple #[.agg #[.int .i64 (mkT t b), .int .i64 (mkB t b)], .bool (mkOk t b)])) := by
  by_cases hb : b = 0
  · have hb2 : (b == 0) = true := by simpa using hb
    have hno : mkIn t b = false := by rw [mkIn, decide_eq_false (by omega), Bool.false_and]
    have HN := Lib.hid (mk_no hno)
    clear hb hno
    go_enter Try.func14, Try.ntmps14
    go_wp2
    exact bodyPost_ret (v := .tuple #[.agg #[.int .i64 0, .int .i64 0], .bool false]) (by simp [results, Try.results14, go_sem]) rfl ⟨ret_red HN.out.1.symm HN.out.2.1.symm HN.out.2.2.symm, (by repeat (first | exact Below.refl _ _ | (refine Below.alloc ?_ (by first | omega | (simp <;> omega)) _) | (refine Below.setCell ?_ (by first | omega | (simp <;> omega)) _) | (refine bDrewN ?_ _) | (refine Below.drew ?_)))⟩
  · have hb2 : (b == 0) = false := by simpa using hb
    have HB := Lib.hid hb
    clear hb
    cases h1 : inB t (-1000000000000) 1000000000000
    · have hn1 : (!inB t (-1000000000000) 1000000000000) = true := by rw [h1]; rfl
      have HN := Lib.hid (mk_no (t := t) (b := b) (by rw [mkIn, h1, Bool.false_and, Bool.and_false]))
      clear h1
      go_enter Try.func14, Try.ntmps14
      go_wp2_with (go_at_call 23; refine (specIn _ _ _ _).mono ?_; rintro e w' ⟨rfl, rfl⟩)
      exact bodyPost_ret (v := .tuple #[.agg #[.int .i64 0, .int .i64 0], .bool false]) (by simp [results, Try.results14, go_sem]) rfl ⟨ret_red HN.out.1.symm HN.out.2.1.symm HN.out.2.2.symm, (by repeat (first | exact Below.refl _ _ | (refine Below.alloc ?_ (by first | omega | (simp <;> omega)) _) | (refine Below.setCell ?_ (by first | omega | (simp <;> omega)) _) | (refine bDrewN ?_ _) | (refine Below.drew ?_)))⟩
    · have hn1 : (!inB t (-1000000000000) 1000000000000) = false := by rw [h1]; rfl
      cases h2 : inB b (-1000000000000) 1000000000000
      · have hn2 : (!inB b (-1000000000000) 1000000000000) = true := by rw [h2]; rfl
        have HN := Lib.hid (mk_no (t := t) (b := b) (by rw [mkIn, h2, Bool.and_false, Bool.and_false]))
        clear h1 h2
        go_enter Try.func14, Try.ntmps14
        go_wp2_with (go_at_call 23; refine (specIn _ _ _ _).mono ?_; rintro e w' ⟨rfl, rfl⟩)
        exact bodyPost_ret (v := .tuple #[.agg #[.int .i64 0, .int .i64 0], .bool false]) (by simp [results, Try.results14, go_sem]) rfl ⟨ret_red HN.out.1.symm HN.out.2.1.symm HN.out.2.2.symm, (by repeat (first | exact Below.refl _ _ | (refine Below.alloc ?_ (by first | omega | (simp <;> omega)) _) | (refine Below.setCell ?_ (by first | omega | (simp <;> omega)) _) | (refine bDrewN ?_ _) | (refine Below.drew ?_)))⟩
      · have hn2 : (!inB b (-1000000000000) 1000000000000) = false := by rw [h2]; rfl
        have HN := Lib.hid (mk_yes (t := t) (b := b) (by rw [mkIn, h1, h2, decide_eq_true HB.out]; rfl))
        have k1 := inB_iff.1 h1
        have k2 := inB_iff.1 h2
        clear h1 h2
        have hg := gcdI_pos (t := t) HB.out
        have hgl := gcdI_le (t := t) (B := 4611686018427387904) HB.out (by omega)
        have hTb := normT_bd HB.out (by decide) (show -4611686018427387904 ≤ t ∧ t ≤ 4611686018427387904 by omega)
        have hBb := normB_bd (t := t) HB.out (by decide) (show -4611686018427387904 ≤ b ∧ b ≤ 4611686018427387904 by omega)
        have hTd := normT_tdiv t b
        have hBd := normB_tdiv t b
        by_cases h1 : b < 0
        · have hgn := gcdI_neg t b
          rw [flipI, if_pos h1] at hTd hBd
          obtain ⟨g, hge⟩ : ∃ g, g = gcdI t b := ⟨_, rfl⟩
          obtain ⟨T, hT⟩ : ∃ T, T = normT t b := ⟨_, rfl⟩
          obtain ⟨B, hB⟩ : ∃ B, B = normB t b := ⟨_, rfl⟩
          rw [← hge] at hg hgl hTd hBd hgn
          rw [← hT] at hTb hTd
          rw [← hB] at hBb hBd
          have e1 : t.tdiv g = -T := by rw [Int.neg_tdiv] at hTd; omega
          have e2 : b.tdiv g = -B := by rw [Int.neg_tdiv] at hBd; omega
          have HT := Lib.hid hT
          have HBB := Lib.hid hB
          have HG := Lib.hid hge
          have HGN : Hid (gcdI t b = g) := HG.out.symm
          clear hT hB hge hgn hTd hBd
          cases hok : fracB T B
          · have hno : (!fracB T B) = true := by rw [hok]; rfl
            have HOK := Lib.hid hok
            clear hok
            go_enter Try.func14, Try.ntmps14
            go_wp2_with (go_at_call 23; refine (specIn _ _ _ _).mono ?_; rintro e w' ⟨rfl, rfl⟩)
            refine (specGcd _ (by omega) (by omega)).mono ?_
            rintro e w' ⟨rfl, n, rfl⟩
            rw [HGN.out]
            go_wp2
            go_region
            go_wp2_with fail
            refine (specFractionOkB _ _ _).mono ?_
            rintro e w2 ⟨rfl, b2⟩
            obtain ⟨r0, r1, f0, f1, hs1, _⟩ := pairAt (g := w.heap.size) b2 (by refine heap_old_at ?_; exact heap_new_at rfl)
            obtain ⟨q0, q1, _, _, hs2, _⟩ := pairAt (g := w.heap.size + 1) b2 (heap_new_at (by simp))
            go_wp2
            exact bodyPost_ret (v := .tuple #[.agg #[.int .i64 0, .int .i64 0], .bool false]) (by simp [results, Try.results14, go_sem, r0, r1]) rfl ⟨ret_red (by rw [HN.out.1, redT, redOk, ← HT.out, ← HBB.out, HOK.out]; rfl) (by rw [HN.out.2.1, redB, redOk, ← HT.out, ← HBB.out, HOK.out]; rfl) (by rw [HN.out.2.2, redOk, ← HT.out, ← HBB.out, HOK.out]), (by repeat (first | exact Below.refl _ _ | (refine Below.alloc ?_ (by first | omega | (simp <;> omega)) _) | (refine Below.setCell ?_ (by first | omega | (simp <;> omega)) _) | (refine bDrewN ?_ _) | (refine Below.drew ?_) | (refine Below.trans ?_ (Below.mono b2 (by first | omega | (simp <;> omega))))))⟩
          · have hno : (!fracB T B) = false := by rw [hok]; rfl
            have HOK := Lib.hid hok
            clear hok
            go_enter Try.func14, Try.ntmps14
            go_wp2_with (go_at_call 23; refine (specIn _ _ _ _).mono ?_; rintro e w' ⟨rfl, rfl⟩)
            refine (specGcd _ (by omega) (by omega)).mono ?_
            rintro e w' ⟨rfl, n, rfl⟩
            rw [HGN.out]
            go_wp2
            go_region
            go_wp2_with fail
            refine (specFractionOkB _ _ _).mono ?_
            rintro e w2 ⟨rfl, b2⟩
            obtain ⟨r0, r1, f0, f1, hs1, _⟩ := pairAt (g := w.heap.size) b2 (by refine heap_old_at ?_; exact heap_new_at rfl)
            obtain ⟨q0, q1, _, _, hs2, _⟩ := pairAt (g := w.heap.size + 1) b2 (heap_new_at (by simp))
            go_wp2
            exact bodyPost_ret (v := .tuple #[.agg #[.int .i64 T, .int .i64 B], .bool true]) (by simp [results, Try.results14, go_sem, r0, r1]) rfl ⟨ret_red (by rw [HN.out.1, redT, redOk, ← HT.out, ← HBB.out, HOK.out]; rfl) (by rw [HN.out.2.1, redB, redOk, ← HT.out, ← HBB.out, HOK.out]; rfl) (by rw [HN.out.2.2, redOk, ← HT.out, ← HBB.out, HOK.out]), (by repeat (first | exact Below.refl _ _ | (refine Below.alloc ?_ (by first | omega | (simp <;> omega)) _) | (refine Below.setCell ?_ (by first | omega | (simp <;> omega)) _) | (refine bDrewN ?_ _) | (refine Below.drew ?_) | (refine Below.trans ?_ (Below.mono b2 (by first | omega | (simp <;> omega))))))⟩
        · have hgn : gcdI t b = gcdI t b := rfl
          rw [flipI, if_neg h1] at hTd hBd
          obtain ⟨g, hge⟩ : ∃ g, g = gcdI t b := ⟨_, rfl⟩
          obtain ⟨T, hT⟩ : ∃ T, T = normT t b := ⟨_, rfl⟩
          obtain ⟨B, hB⟩ : ∃ B, B = normB t b := ⟨_, rfl⟩
          rw [← hge] at hg hgl hTd hBd hgn
          rw [← hT] at hTb hTd
          rw [← hB] at hBb hBd
          have e1 : t.tdiv g = T := hTd
          have e2 : b.tdiv g = B := hBd
          have e3 : b / g = B := by rw [← hBd]; exact (Int.tdiv_eq_ediv_of_dvd (by rw [hge]; exact gcdI_dvd_right t b)).symm
          have HT := Lib.hid hT
          have HBB := Lib.hid hB
          have HG := Lib.hid hge
          have HGN : Hid (gcdI t b = g) := HG.out.symm
          clear hT hB hge hgn hTd hBd
          cases hok : fracB T B
          · have hno : (!fracB T B) = true := by rw [hok]; rfl
            have HOK := Lib.hid hok
            clear hok
            go_enter Try.func14, Try.ntmps14
            go_wp2_with (go_at_call 23; refine (specIn _ _ _ _).mono ?_; rintro e w' ⟨rfl, rfl⟩)
            refine (specGcd _ (by omega) (by omega)).mono ?_
            rintro e w' ⟨rfl, n, rfl⟩
            rw [HGN.out]
            go_wp2
            go_region
            go_wp2_with fail
            refine (specFractionOkB _ _ _).mono ?_
            rintro e w2 ⟨rfl, b2⟩
            obtain ⟨r0, r1, f0, f1, hs1, _⟩ := pairAt (g := w.heap.size) b2 (by refine heap_old_at ?_; exact heap_new_at rfl)
            obtain ⟨q0, q1, _, _, hs2, _⟩ := pairAt (g := w.heap.size + 1) b2 (heap_new_at (by simp))
            go_wp2
            exact bodyPost_ret (v := .tuple #[.agg #[.int .i64 0, .int .i64 0], .bool false]) (by simp [results, Try.results14, go_sem, r0, r1]) rfl ⟨ret_red (by rw [HN.out.1, redT, redOk, ← HT.out, ← HBB.out, HOK.out]; rfl) (by rw [HN.out.2.1, redB, redOk, ← HT.out, ← HBB.out, HOK.out]; rfl) (by rw [HN.out.2.2, redOk, ← HT.out, ← HBB.out, HOK.out]), (by repeat (first | exact Below.refl _ _ | (refine Below.alloc ?_ (by first | omega | (simp <;> omega)) _) | (refine Below.setCell ?_ (by first | omega | (simp <;> omega)) _) | (refine bDrewN ?_ _) | (refine Below.drew ?_) | (refine Below.trans ?_ (Below.mono b2 (by first | omega | (simp <;> omega))))))⟩
          · have hno : (!fracB T B) = false := by rw [hok]; rfl
            have HOK := Lib.hid hok
            clear hok
            go_enter Try.func14, Try.ntmps14
            go_wp2_with (go_at_call 23; refine (specIn _ _ _ _).mono ?_; rintro e w' ⟨rfl, rfl⟩)
            refine (specGcd _ (by omega) (by omega)).mono ?_
            rintro e w' ⟨rfl, n, rfl⟩
            rw [HGN.out]
            go_wp2
            go_region
            go_wp2_with fail
            refine (specFractionOkB _ _ _).mono ?_
            rintro e w2 ⟨rfl, b2⟩
            obtain ⟨r0, r1, f0, f1, hs1, _⟩ := pairAt (g := w.heap.size) b2 (by refine heap_old_at ?_; exact heap_new_at rfl)
            obtain ⟨q0, q1, _, _, hs2, _⟩ := pairAt (g := w.heap.size + 1) b2 (heap_new_at (by simp))
            go_wp2
            exact bodyPost_ret (v := .tuple #[.agg #[.int .i64 T, .int .i64 B], .bool true]) (by simp [results, Try.results14, go_sem, r0, r1]) rfl ⟨ret_red (by rw [HN.out.1, redT, redOk, ← HT.out, ← HBB.out, HOK.out]; rfl) (by rw [HN.out.2.1, redB, redOk, ← HT.out, ← HBB.out, HOK.out]; rfl) (by rw [HN.out.2.2, redOk, ← HT.out, ← HBB.out, HOK.out]), (by repeat (first | exact Below.refl _ _ | (refine Below.alloc ?_ (by first | omega | (simp <;> omega)) _) | (refine Below.setCell ?_ (by first | omega | (simp <;> omega)) _) | (refine bDrewN ?_ _) | (refine Below.drew ?_) | (refine Below.trans ?_ (Below.mono b2 (by first | omega | (simp <;> omega))))))⟩
end Go.Proofs.Ytbppdjglmgnggaa
