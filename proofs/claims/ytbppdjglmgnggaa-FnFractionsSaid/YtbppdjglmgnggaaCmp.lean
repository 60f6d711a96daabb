/- Contracts of CompareFractions, in the program and in the reference. No conditions. -/
import Derived.Test.YtbppdjglmgnggaaAdd
namespace Go.Proofs.Ytbppdjglmgnggaa
open Go.RowKit

def cmpN (t b u c : Int) : Int := if twoIn t b u c = true then (if t * c < u * b then -1 else if u * b < t * c then 1 else 0) else -2
theorem cmp_no {t b u c : Int} (h : twoIn t b u c = false) : cmpN t b u c = -2 := by unfold cmpN; rw [h]; rfl
theorem cmp_lt {t b u c : Int} (h : twoIn t b u c = true) (h1 : t * c < u * b) : cmpN t b u c = -1 := by unfold cmpN; rw [if_pos h, if_pos h1]
theorem cmp_gt {t b u c : Int} (h : twoIn t b u c = true) (h1 : u * b < t * c) : cmpN t b u c = 1 := by unfold cmpN; rw [if_pos h, if_neg (by omega), if_pos h1]
theorem cmp_eq {t b u c : Int} (h : twoIn t b u c = true) (h1 : ¬ t * c < u * b) (h2 : ¬ u * b < t * c) : cmpN t b u c = 0 := by unfold cmpN; rw [if_pos h, if_neg h1, if_neg h2]

theorem twoA {w w2 : World} {T : TypeId} {x0 x1 y0 y1 : Value} (hb : Below ((w.alloc (.cells #[x0, x1] T)).alloc (.cells #[y0, y1] T)).heap.size ((w.alloc (.cells #[x0, x1] T)).alloc (.cells #[y0, y1] T)) w2) :
    (w2.cell? ⟨w.heap.size, 0, none⟩ = some x0 ∧ w2.cell? ⟨w.heap.size, 1, none⟩ = some x1) ∧ (w2.cell? ⟨w.heap.size + 1, 0, none⟩ = some y0 ∧ w2.cell? ⟨w.heap.size + 1, 1, none⟩ = some y1) ∧ w.heap.size + 1 < w2.heap.size := by
  obtain ⟨a0, a1, _⟩ := pairAt (g := w.heap.size) hb (heap_old_at (heap_new_at rfl))
  obtain ⟨b0, b1, _, _, hs, _⟩ := pairAt (g := w.heap.size + 1) hb (heap_new_at (by simp))
  exact ⟨⟨a0, a1⟩, ⟨b0, b1⟩, hs⟩

theorem implCmp (t b u c : Int) (w : World) : Calls Try.prog 13 #[.agg #[.int .i64 t, .int .i64 b], .agg #[.int .i64 u, .int .i64 c]] w (RetB w (.int .i64 (cmpN t b u c))) := by
  cases h1 : fracB t b
  · have hn1 : (!fracB t b) = true := by rw [h1]; rfl
    have HN := Lib.hid (cmp_no (t := t) (b := b) (u := u) (c := c) (by rw [twoIn, h1]; rfl))
    clear h1
    go_enter Try.func13, Try.ntmps13
    go_wp2_with fail
    refine (implFractionOkB _ _ _).mono ?_
    rintro e w1 ⟨rfl, b1⟩
    obtain ⟨⟨x0, x1⟩, ⟨y0, y1⟩, hs1⟩ := twoA b1
    go_wp2
    go_ret
    exact ⟨ret_int HN.out.symm, (by repeat (first | exact Below.refl _ _ | (refine Below.alloc ?_ (by first | omega | (simp <;> omega)) _) | (refine Below.setCell ?_ (by first | omega | (simp <;> omega)) _) | (refine bDrewN ?_ _) | (refine Below.drew ?_) | (refine Below.trans ?_ (Below.mono b1 (by first | omega | (simp <;> omega))))))⟩
  · have hn1 : (!fracB t b) = false := by rw [h1]; rfl
    cases h2 : fracB u c
    · have hn2 : (!fracB u c) = true := by rw [h2]; rfl
      have HN := Lib.hid (cmp_no (t := t) (b := b) (u := u) (c := c) (by rw [twoIn, h2, Bool.and_false]))
      clear h1 h2
      go_enter Try.func13, Try.ntmps13
      go_wp2_with fail
      refine (implFractionOkB _ _ _).mono ?_
      rintro e w1 ⟨rfl, b1⟩
      obtain ⟨⟨x0, x1⟩, ⟨y0, y1⟩, hs1⟩ := twoA b1
      go_wp2_with fail
      refine (implFractionOkB _ _ _).mono ?_
      rintro e w2 ⟨rfl, b2⟩
      have hz2 := b2.size
      go_wp2
      go_ret
      exact ⟨ret_int HN.out.symm, (by repeat (first | exact Below.refl _ _ | (refine Below.alloc ?_ (by first | omega | (simp <;> omega)) _) | (refine Below.setCell ?_ (by first | omega | (simp <;> omega)) _) | (refine bDrewN ?_ _) | (refine Below.drew ?_) | (refine Below.trans ?_ (Below.mono b1 (by first | omega | (simp <;> omega)))) | (refine Below.trans ?_ (Below.mono b2 (by first | omega | (simp <;> omega))))))⟩
    · have hn2 : (!fracB u c) = false := by rw [h2]; rfl
      have HY : Hid (twoIn t b u c = true) := by unfold Hid; rw [twoIn, h1, h2]; rfl
      obtain ⟨kt, kb, _⟩ := fracB_bd h1
      obtain ⟨ku, kc, _⟩ := fracB_bd h2
      have mtc := mul_bd kt (show -1000000 ≤ c ∧ c ≤ 1000000 by omega)
      have mub := mul_bd ku (show -1000000 ≤ b ∧ b ≤ 1000000 by omega)
      have e1 : IntKind.i64.wrap (t * c) = t * c := IntWalk.i64_in _ (by omega)
      have e2 : IntKind.i64.wrap (u * b) = u * b := IntWalk.i64_in _ (by omega)
      clear h1 h2
      rcases Int.lt_trichotomy (t * c) (u * b) with hc | hc | hc
      · have HC := Lib.hid hc
        go_enter Try.func13, Try.ntmps13
        go_wp2_with fail
        refine (implFractionOkB _ _ _).mono ?_
        rintro e w1 ⟨rfl, b1⟩
        obtain ⟨⟨x0, x1⟩, ⟨y0, y1⟩, hs1⟩ := twoA b1
        go_wp2_with fail
        refine (implFractionOkB _ _ _).mono ?_
        rintro e w2 ⟨rfl, b2⟩
        have hz2 := b2.size
        obtain ⟨⟨x0, x1⟩, ⟨y0, y1⟩, hs2⟩ := twoA (bThen b1 b2)
        go_wp2
        go_quiet (fail)
        go_wp2
        go_ret
        exact ⟨ret_int (cmp_lt HY.out HC.out).symm, (by repeat (first | exact Below.refl _ _ | (refine Below.alloc ?_ (by first | omega | (simp <;> omega)) _) | (refine Below.setCell ?_ (by first | omega | (simp <;> omega)) _) | (refine bDrewN ?_ _) | (refine Below.drew ?_) | (refine Below.trans ?_ (Below.mono b1 (by first | omega | (simp <;> omega)))) | (refine Below.trans ?_ (Below.mono b2 (by first | omega | (simp <;> omega))))))⟩
      · have HC := Lib.hid hc
        have hle : t * c ≤ u * b := by omega
        have hge : u * b ≤ t * c := by omega
        clear hc
        go_enter Try.func13, Try.ntmps13
        go_wp2_with fail
        refine (implFractionOkB _ _ _).mono ?_
        rintro e w1 ⟨rfl, b1⟩
        obtain ⟨⟨x0, x1⟩, ⟨y0, y1⟩, hs1⟩ := twoA b1
        go_wp2_with fail
        refine (implFractionOkB _ _ _).mono ?_
        rintro e w2 ⟨rfl, b2⟩
        have hz2 := b2.size
        obtain ⟨⟨x0, x1⟩, ⟨y0, y1⟩, hs2⟩ := twoA (bThen b1 b2)
        go_wp2
        go_quiet (fail)
        go_wp2
        go_ret
        exact ⟨ret_int (cmp_eq HY.out (by have := HC.out; omega) (by have := HC.out; omega)).symm, (by repeat (first | exact Below.refl _ _ | (refine Below.alloc ?_ (by first | omega | (simp <;> omega)) _) | (refine Below.setCell ?_ (by first | omega | (simp <;> omega)) _) | (refine bDrewN ?_ _) | (refine Below.drew ?_) | (refine Below.trans ?_ (Below.mono b1 (by first | omega | (simp <;> omega)))) | (refine Below.trans ?_ (Below.mono b2 (by first | omega | (simp <;> omega))))))⟩
      · have HC := Lib.hid hc
        go_enter Try.func13, Try.ntmps13
        go_wp2_with fail
        refine (implFractionOkB _ _ _).mono ?_
        rintro e w1 ⟨rfl, b1⟩
        obtain ⟨⟨x0, x1⟩, ⟨y0, y1⟩, hs1⟩ := twoA b1
        go_wp2_with fail
        refine (implFractionOkB _ _ _).mono ?_
        rintro e w2 ⟨rfl, b2⟩
        have hz2 := b2.size
        obtain ⟨⟨x0, x1⟩, ⟨y0, y1⟩, hs2⟩ := twoA (bThen b1 b2)
        go_wp2
        go_quiet (fail)
        go_wp2
        go_ret
        exact ⟨ret_int (cmp_gt HY.out HC.out).symm, (by repeat (first | exact Below.refl _ _ | (refine Below.alloc ?_ (by first | omega | (simp <;> omega)) _) | (refine Below.setCell ?_ (by first | omega | (simp <;> omega)) _) | (refine bDrewN ?_ _) | (refine Below.drew ?_) | (refine Below.trans ?_ (Below.mono b1 (by first | omega | (simp <;> omega)))) | (refine Below.trans ?_ (Below.mono b2 (by first | omega | (simp <;> omega))))))⟩

theorem specCmp (t b u c : Int) (w : World) : Calls Try.prog 12 #[.agg #[.int .i64 t, .int .i64 b], .agg #[.int .i64 u, .int .i64 c]] w (RetB w (.int .i64 (cmpN t b u c))) := by
  cases h1 : fracB t b
  · have hn1 : (!fracB t b) = true := by rw [h1]; rfl
    have HN := Lib.hid (cmp_no (t := t) (b := b) (u := u) (c := c) (by rw [twoIn, h1]; rfl))
    clear h1
    go_enter Try.func12, Try.ntmps12
    go_wp2_with fail
    refine (specFractionOkB _ _ _).mono ?_
    rintro e w1 ⟨rfl, b1⟩
    obtain ⟨⟨x0, x1⟩, ⟨y0, y1⟩, hs1⟩ := twoA b1
    go_wp2
    go_ret
    exact ⟨ret_int HN.out.symm, (by repeat (first | exact Below.refl _ _ | (refine Below.alloc ?_ (by first | omega | (simp <;> omega)) _) | (refine Below.setCell ?_ (by first | omega | (simp <;> omega)) _) | (refine bDrewN ?_ _) | (refine Below.drew ?_) | (refine Below.trans ?_ (Below.mono b1 (by first | omega | (simp <;> omega))))))⟩
  · have hn1 : (!fracB t b) = false := by rw [h1]; rfl
    cases h2 : fracB u c
    · have hn2 : (!fracB u c) = true := by rw [h2]; rfl
      have HN := Lib.hid (cmp_no (t := t) (b := b) (u := u) (c := c) (by rw [twoIn, h2, Bool.and_false]))
      clear h1 h2
      go_enter Try.func12, Try.ntmps12
      go_wp2_with fail
      refine (specFractionOkB _ _ _).mono ?_
      rintro e w1 ⟨rfl, b1⟩
      obtain ⟨⟨x0, x1⟩, ⟨y0, y1⟩, hs1⟩ := twoA b1
      go_wp2_with fail
      refine (specFractionOkB _ _ _).mono ?_
      rintro e w2 ⟨rfl, b2⟩
      have hz2 := b2.size
      go_wp2
      go_ret
      exact ⟨ret_int HN.out.symm, (by repeat (first | exact Below.refl _ _ | (refine Below.alloc ?_ (by first | omega | (simp <;> omega)) _) | (refine Below.setCell ?_ (by first | omega | (simp <;> omega)) _) | (refine bDrewN ?_ _) | (refine Below.drew ?_) | (refine Below.trans ?_ (Below.mono b1 (by first | omega | (simp <;> omega)))) | (refine Below.trans ?_ (Below.mono b2 (by first | omega | (simp <;> omega))))))⟩
    · have hn2 : (!fracB u c) = false := by rw [h2]; rfl
      have HY : Hid (twoIn t b u c = true) := by unfold Hid; rw [twoIn, h1, h2]; rfl
      obtain ⟨kt, kb, _⟩ := fracB_bd h1
      obtain ⟨ku, kc, _⟩ := fracB_bd h2
      have mtc := mul_bd kt (show -1000000 ≤ c ∧ c ≤ 1000000 by omega)
      have mub := mul_bd ku (show -1000000 ≤ b ∧ b ≤ 1000000 by omega)
      have e1 : IntKind.i64.wrap (t * c) = t * c := IntWalk.i64_in _ (by omega)
      have e2 : IntKind.i64.wrap (u * b) = u * b := IntWalk.i64_in _ (by omega)
      clear h1 h2
      rcases Int.lt_trichotomy (t * c) (u * b) with hc | hc | hc
      · have HC := Lib.hid hc
        go_enter Try.func12, Try.ntmps12
        go_wp2_with fail
        refine (specFractionOkB _ _ _).mono ?_
        rintro e w1 ⟨rfl, b1⟩
        obtain ⟨⟨x0, x1⟩, ⟨y0, y1⟩, hs1⟩ := twoA b1
        go_wp2_with fail
        refine (specFractionOkB _ _ _).mono ?_
        rintro e w2 ⟨rfl, b2⟩
        have hz2 := b2.size
        obtain ⟨⟨x0, x1⟩, ⟨y0, y1⟩, hs2⟩ := twoA (bThen b1 b2)
        go_wp2
        go_ret
        exact ⟨ret_int (cmp_lt HY.out HC.out).symm, (by repeat (first | exact Below.refl _ _ | (refine Below.alloc ?_ (by first | omega | (simp <;> omega)) _) | (refine Below.setCell ?_ (by first | omega | (simp <;> omega)) _) | (refine bDrewN ?_ _) | (refine Below.drew ?_) | (refine Below.trans ?_ (Below.mono b1 (by first | omega | (simp <;> omega)))) | (refine Below.trans ?_ (Below.mono b2 (by first | omega | (simp <;> omega))))))⟩
      · have HC := Lib.hid hc
        have hle : t * c ≤ u * b := by omega
        have hge : u * b ≤ t * c := by omega
        clear hc
        go_enter Try.func12, Try.ntmps12
        go_wp2_with fail
        refine (specFractionOkB _ _ _).mono ?_
        rintro e w1 ⟨rfl, b1⟩
        obtain ⟨⟨x0, x1⟩, ⟨y0, y1⟩, hs1⟩ := twoA b1
        go_wp2_with fail
        refine (specFractionOkB _ _ _).mono ?_
        rintro e w2 ⟨rfl, b2⟩
        have hz2 := b2.size
        obtain ⟨⟨x0, x1⟩, ⟨y0, y1⟩, hs2⟩ := twoA (bThen b1 b2)
        go_wp2
        go_ret
        exact ⟨ret_int (cmp_eq HY.out (by have := HC.out; omega) (by have := HC.out; omega)).symm, (by repeat (first | exact Below.refl _ _ | (refine Below.alloc ?_ (by first | omega | (simp <;> omega)) _) | (refine Below.setCell ?_ (by first | omega | (simp <;> omega)) _) | (refine bDrewN ?_ _) | (refine Below.drew ?_) | (refine Below.trans ?_ (Below.mono b1 (by first | omega | (simp <;> omega)))) | (refine Below.trans ?_ (Below.mono b2 (by first | omega | (simp <;> omega))))))⟩
      · have HC := Lib.hid hc
        go_enter Try.func12, Try.ntmps12
        go_wp2_with fail
        refine (specFractionOkB _ _ _).mono ?_
        rintro e w1 ⟨rfl, b1⟩
        obtain ⟨⟨x0, x1⟩, ⟨y0, y1⟩, hs1⟩ := twoA b1
        go_wp2_with fail
        refine (specFractionOkB _ _ _).mono ?_
        rintro e w2 ⟨rfl, b2⟩
        have hz2 := b2.size
        obtain ⟨⟨x0, x1⟩, ⟨y0, y1⟩, hs2⟩ := twoA (bThen b1 b2)
        go_wp2
        go_ret
        exact ⟨ret_int (cmp_gt HY.out HC.out).symm, (by repeat (first | exact Below.refl _ _ | (refine Below.alloc ?_ (by first | omega | (simp <;> omega)) _) | (refine Below.setCell ?_ (by first | omega | (simp <;> omega)) _) | (refine bDrewN ?_ _) | (refine Below.drew ?_) | (refine Below.trans ?_ (Below.mono b1 (by first | omega | (simp <;> omega)))) | (refine Below.trans ?_ (Below.mono b2 (by first | omega | (simp <;> omega))))))⟩

end Go.Proofs.Ytbppdjglmgnggaa
