/- Contract of impl.reduced. Condition: both numbers from -2^62 to 2^62, the bottom not 0. -/
import Derived.Test.YtbppdjglmgnggaaFracMath
namespace Go.Proofs.Ytbppdjglmgnggaa
open Go.RowKit

theorem ret_red {t b : Int} {c : Bool} {t' b' : Int} {c' : Bool} (h1 : t = t') (h2 : b = b') (h3 : c = c') : Ending.returned (.tuple #[.agg #[.int .i64 t, .int .i64 b], .bool c]) = .returned (.tuple #[.agg #[.int .i64 t', .int .i64 b'], .bool c']) := by rw [h1, h2, h3]

theorem implReduced {t b : Int} (w : World) (ht : -4611686018427387904 ≤ t ∧ t ≤ 4611686018427387904) (hb : -4611686018427387904 ≤ b ∧ b ≤ 4611686018427387904) (hb0 : b ≠ 0) :
    Calls Try.prog 27 #[.int .i64 t, .int .i64 b] w (RetB w (.tuple #[.agg #[.int .i64 (redT t b), .int .i64 (redB t b)], .bool (redOk t b)])) := by
  have hg := gcdI_pos (t := t) hb0
  have hTb := normT_bd hb0 (by decide) ht
  have hBb := normB_bd (t := t) hb0 (by decide) hb
  have hTd := normT_tdiv t b
  have hBd := normB_tdiv t b
  have HB0 := Lib.hid hb0
  clear hb0
  by_cases h1 : b < 0
  · have hgn := gcdI_neg t b
    rw [flipI, if_pos h1] at hTd hBd
    obtain ⟨g, hge⟩ : ∃ g, g = gcdI t b := ⟨_, rfl⟩
    obtain ⟨T, hT⟩ : ∃ T, T = normT t b := ⟨_, rfl⟩
    obtain ⟨B, hB⟩ : ∃ B, B = normB t b := ⟨_, rfl⟩
    rw [← hge] at hg hTd hBd hgn
    rw [← hT] at hTb hTd
    rw [← hB] at hBb hBd
    have e1 : t.tdiv g = -T := by rw [Int.neg_tdiv] at hTd; omega
    have e2 : b.tdiv g = -B := by rw [Int.neg_tdiv] at hBd; omega
    have HT := Lib.hid hT
    have HB := Lib.hid hB
    have HG := Lib.hid hge
    have HGN := Lib.hid hgn
    clear hT hB hge hgn hTd hBd
    cases hok : fracB T B
    · have hno : (!fracB T B) = true := by rw [hok]; rfl
      have HOK := Lib.hid hok
      clear hok
      go_enter Try.func27, Try.ntmps27
      go_wp2_with fail
      refine (implGcd _ (by omega) (by omega)).mono ?_
      rintro e w' ⟨rfl, n, rfl⟩
      rw [HGN.out]
      go_wp2
      go_region
      go_wp2_with fail
      refine (implFractionOkB _ _ _).mono ?_
      rintro e w2 ⟨rfl, b2⟩
      obtain ⟨r0, r1, f0, f1, hs1, _⟩ := pairAt (g := w.heap.size) b2 (by refine heap_old_at ?_; exact heap_new_at rfl)
      obtain ⟨q0, q1, _, _, hs2, _⟩ := pairAt (g := w.heap.size + 1) b2 (heap_new_at (by simp))
      go_wp2
      exact bodyPost_ret (v := .tuple #[.agg #[.int .i64 0, .int .i64 0], .bool false]) (by simp [results, Try.results27, go_sem, r0, r1]) rfl ⟨ret_red (by rw [redT, redOk, ← HT.out, ← HB.out, HOK.out]; rfl) (by rw [redB, redOk, ← HT.out, ← HB.out, HOK.out]; rfl) (by rw [redOk, ← HT.out, ← HB.out, HOK.out]), (by repeat (first | exact Below.refl _ _ | (refine Below.alloc ?_ (by first | omega | (simp <;> omega)) _) | (refine Below.setCell ?_ (by first | omega | (simp <;> omega)) _) | (refine bDrewN ?_ _) | (refine Below.drew ?_) | (refine Below.trans ?_ (Below.mono b2 (by first | omega | (simp <;> omega))))))⟩
    · have hno : (!fracB T B) = false := by rw [hok]; rfl
      have HOK := Lib.hid hok
      clear hok
      go_enter Try.func27, Try.ntmps27
      go_wp2_with fail
      refine (implGcd _ (by omega) (by omega)).mono ?_
      rintro e w' ⟨rfl, n, rfl⟩
      rw [HGN.out]
      go_wp2
      go_region
      go_wp2_with fail
      refine (implFractionOkB _ _ _).mono ?_
      rintro e w2 ⟨rfl, b2⟩
      obtain ⟨r0, r1, f0, f1, hs1, _⟩ := pairAt (g := w.heap.size) b2 (by refine heap_old_at ?_; exact heap_new_at rfl)
      obtain ⟨q0, q1, _, _, hs2, _⟩ := pairAt (g := w.heap.size + 1) b2 (heap_new_at (by simp))
      go_wp2
      exact bodyPost_ret (v := .tuple #[.agg #[.int .i64 T, .int .i64 B], .bool true]) (by simp [results, Try.results27, go_sem, r0, r1]) rfl ⟨ret_red (by rw [redT, redOk, ← HT.out, ← HB.out, HOK.out]; rfl) (by rw [redB, redOk, ← HT.out, ← HB.out, HOK.out]; rfl) (by rw [redOk, ← HT.out, ← HB.out, HOK.out]), (by repeat (first | exact Below.refl _ _ | (refine Below.alloc ?_ (by first | omega | (simp <;> omega)) _) | (refine Below.setCell ?_ (by first | omega | (simp <;> omega)) _) | (refine bDrewN ?_ _) | (refine Below.drew ?_) | (refine Below.trans ?_ (Below.mono b2 (by first | omega | (simp <;> omega))))))⟩
  · have hgn : gcdI t b = gcdI t b := rfl
    rw [flipI, if_neg h1] at hTd hBd
    obtain ⟨g, hge⟩ : ∃ g, g = gcdI t b := ⟨_, rfl⟩
    obtain ⟨T, hT⟩ : ∃ T, T = normT t b := ⟨_, rfl⟩
    obtain ⟨B, hB⟩ : ∃ B, B = normB t b := ⟨_, rfl⟩
    rw [← hge] at hg hTd hBd hgn
    rw [← hT] at hTb hTd
    rw [← hB] at hBb hBd
    have e1 : t.tdiv g = T := hTd
    have e2 : b.tdiv g = B := hBd
    have e3 : b / g = B := by rw [← hBd]; exact (Int.tdiv_eq_ediv_of_dvd (by rw [hge]; exact gcdI_dvd_right t b)).symm
    have HT := Lib.hid hT
    have HB := Lib.hid hB
    have HG := Lib.hid hge
    have HGN : Hid (gcdI t b = g) := HG.out.symm
    clear hT hB hge hgn hTd hBd
    cases hok : fracB T B
    · have hno : (!fracB T B) = true := by rw [hok]; rfl
      have HOK := Lib.hid hok
      clear hok
      go_enter Try.func27, Try.ntmps27
      go_wp2_with fail
      refine (implGcd _ (by omega) (by omega)).mono ?_
      rintro e w' ⟨rfl, n, rfl⟩
      rw [HGN.out]
      go_wp2
      go_region
      go_wp2_with fail
      refine (implFractionOkB _ _ _).mono ?_
      rintro e w2 ⟨rfl, b2⟩
      obtain ⟨r0, r1, f0, f1, hs1, _⟩ := pairAt (g := w.heap.size) b2 (by refine heap_old_at ?_; exact heap_new_at rfl)
      obtain ⟨q0, q1, _, _, hs2, _⟩ := pairAt (g := w.heap.size + 1) b2 (heap_new_at (by simp))
      go_wp2
      exact bodyPost_ret (v := .tuple #[.agg #[.int .i64 0, .int .i64 0], .bool false]) (by simp [results, Try.results27, go_sem, r0, r1]) rfl ⟨ret_red (by rw [redT, redOk, ← HT.out, ← HB.out, HOK.out]; rfl) (by rw [redB, redOk, ← HT.out, ← HB.out, HOK.out]; rfl) (by rw [redOk, ← HT.out, ← HB.out, HOK.out]), (by repeat (first | exact Below.refl _ _ | (refine Below.alloc ?_ (by first | omega | (simp <;> omega)) _) | (refine Below.setCell ?_ (by first | omega | (simp <;> omega)) _) | (refine bDrewN ?_ _) | (refine Below.drew ?_) | (refine Below.trans ?_ (Below.mono b2 (by first | omega | (simp <;> omega))))))⟩
    · have hno : (!fracB T B) = false := by rw [hok]; rfl
      have HOK := Lib.hid hok
      clear hok
      go_enter Try.func27, Try.ntmps27
      go_wp2_with fail
      refine (implGcd _ (by omega) (by omega)).mono ?_
      rintro e w' ⟨rfl, n, rfl⟩
      rw [HGN.out]
      go_wp2
      go_region
      go_wp2_with fail
      refine (implFractionOkB _ _ _).mono ?_
      rintro e w2 ⟨rfl, b2⟩
      obtain ⟨r0, r1, f0, f1, hs1, _⟩ := pairAt (g := w.heap.size) b2 (by refine heap_old_at ?_; exact heap_new_at rfl)
      obtain ⟨q0, q1, _, _, hs2, _⟩ := pairAt (g := w.heap.size + 1) b2 (heap_new_at (by simp))
      go_wp2
      exact bodyPost_ret (v := .tuple #[.agg #[.int .i64 T, .int .i64 B], .bool true]) (by simp [results, Try.results27, go_sem, r0, r1]) rfl ⟨ret_red (by rw [redT, redOk, ← HT.out, ← HB.out, HOK.out]; rfl) (by rw [redB, redOk, ← HT.out, ← HB.out, HOK.out]; rfl) (by rw [redOk, ← HT.out, ← HB.out, HOK.out]), (by repeat (first | exact Below.refl _ _ | (refine Below.alloc ?_ (by first | omega | (simp <;> omega)) _) | (refine Below.setCell ?_ (by first | omega | (simp <;> omega)) _) | (refine bDrewN ?_ _) | (refine Below.drew ?_) | (refine Below.trans ?_ (Below.mono b2 (by first | omega | (simp <;> omega))))))⟩
end Go.Proofs.Ytbppdjglmgnggaa
