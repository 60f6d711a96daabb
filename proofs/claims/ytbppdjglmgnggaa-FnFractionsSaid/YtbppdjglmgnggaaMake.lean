/- Contracts of MakeFraction, in the program and in the reference. No conditions. -/
import Derived.Test.YtbppdjglmgnggaaReduced
namespace Go.Proofs.Ytbppdjglmgnggaa
open Go.RowKit

def mkIn (t b : Int) : Bool := decide (b ≠ 0) && (inB t (-1000000000000) 1000000000000 && inB b (-1000000000000) 1000000000000)
def mkT (t b : Int) : Int := if mkIn t b = true then redT t b else 0
def mkB (t b : Int) : Int := if mkIn t b = true then redB t b else 0
def mkOk (t b : Int) : Bool := mkIn t b && redOk t b
theorem mk_no {t b : Int} (h : mkIn t b = false) : mkT t b = 0 ∧ mkB t b = 0 ∧ mkOk t b = false := by unfold mkT mkB mkOk; rw [h]; exact ⟨rfl, rfl, rfl⟩
theorem mk_yes {t b : Int} (h : mkIn t b = true) : mkT t b = redT t b ∧ mkB t b = redB t b ∧ mkOk t b = redOk t b := by unfold mkT mkB mkOk; rw [h]; exact ⟨rfl, rfl, rfl⟩

theorem implMake (t b : Int) (w : World) : Calls Try.prog 15 #[.int .i64 t, .int .i64 b] w (RetB w (.tuple #[.agg #[.int .i64 (mkT t b), .int .i64 (mkB t b)], .bool (mkOk t b)])) := by
  by_cases hb : b = 0
  · have hb2 : (b == 0) = true := by simpa using hb
    have hno : mkIn t b = false := by rw [mkIn, decide_eq_false (by omega), Bool.false_and]
    have HN := Lib.hid (mk_no hno)
    clear hb hno
    go_enter Try.func15, Try.ntmps15
    go_wp2
    exact bodyPost_ret (v := .tuple #[.agg #[.int .i64 0, .int .i64 0], .bool false]) (by simp [results, Try.results15, go_sem]) rfl ⟨ret_red HN.out.1.symm HN.out.2.1.symm HN.out.2.2.symm, (by repeat (first | exact Below.refl _ _ | (refine Below.alloc ?_ (by first | omega | (simp <;> omega)) _) | (refine Below.setCell ?_ (by first | omega | (simp <;> omega)) _) | (refine bDrewN ?_ _) | (refine Below.drew ?_)))⟩
  · have hb2 : (b == 0) = false := by simpa using hb
    have HB := Lib.hid hb
    clear hb
    cases h1 : inB t (-1000000000000) 1000000000000
    · have hn1 : (!inB t (-1000000000000) 1000000000000) = true := by rw [h1]; rfl
      have HN := Lib.hid (mk_no (t := t) (b := b) (by rw [mkIn, h1, Bool.false_and, Bool.and_false]))
      clear h1
      go_enter Try.func15, Try.ntmps15
      go_wp2_with (go_at_call 25; refine (implIn _ _ _ _).mono ?_; rintro e w' ⟨rfl, rfl⟩)
      exact bodyPost_ret (v := .tuple #[.agg #[.int .i64 0, .int .i64 0], .bool false]) (by simp [results, Try.results15, go_sem]) rfl ⟨ret_red HN.out.1.symm HN.out.2.1.symm HN.out.2.2.symm, (by repeat (first | exact Below.refl _ _ | (refine Below.alloc ?_ (by first | omega | (simp <;> omega)) _) | (refine Below.setCell ?_ (by first | omega | (simp <;> omega)) _) | (refine bDrewN ?_ _) | (refine Below.drew ?_)))⟩
    · have hn1 : (!inB t (-1000000000000) 1000000000000) = false := by rw [h1]; rfl
      cases h2 : inB b (-1000000000000) 1000000000000
      · have hn2 : (!inB b (-1000000000000) 1000000000000) = true := by rw [h2]; rfl
        have HN := Lib.hid (mk_no (t := t) (b := b) (by rw [mkIn, h2, Bool.and_false, Bool.and_false]))
        clear h1 h2
        go_enter Try.func15, Try.ntmps15
        go_wp2_with (go_at_call 25; refine (implIn _ _ _ _).mono ?_; rintro e w' ⟨rfl, rfl⟩)
        exact bodyPost_ret (v := .tuple #[.agg #[.int .i64 0, .int .i64 0], .bool false]) (by simp [results, Try.results15, go_sem]) rfl ⟨ret_red HN.out.1.symm HN.out.2.1.symm HN.out.2.2.symm, (by repeat (first | exact Below.refl _ _ | (refine Below.alloc ?_ (by first | omega | (simp <;> omega)) _) | (refine Below.setCell ?_ (by first | omega | (simp <;> omega)) _) | (refine bDrewN ?_ _) | (refine Below.drew ?_)))⟩
      · have hn2 : (!inB b (-1000000000000) 1000000000000) = false := by rw [h2]; rfl
        have HN := Lib.hid (mk_yes (t := t) (b := b) (by rw [mkIn, h1, h2, decide_eq_true HB.out]; rfl))
        have k1 := inB_iff.1 h1
        have k2 := inB_iff.1 h2
        clear h1 h2
        go_enter Try.func15, Try.ntmps15
        go_wp2_with (go_at_call 25; refine (implIn _ _ _ _).mono ?_; rintro e w' ⟨rfl, rfl⟩)
        refine (implReduced _ (by omega) (by omega) HB.out).mono ?_
        rintro e w1 ⟨rfl, b1⟩
        obtain ⟨r0, r1, f0, f1, hs1, _⟩ := pairAt (g := w.heap.size) b1 (heap_new_at rfl)
        go_wp2
        exact bodyPost_ret (v := .tuple #[.agg #[.int .i64 (redT t b), .int .i64 (redB t b)], .bool (redOk t b)]) (by simp [results, Try.results15, go_sem, r0, r1]) rfl ⟨ret_red HN.out.1.symm HN.out.2.1.symm HN.out.2.2.symm, (by repeat (first | exact Below.refl _ _ | (refine Below.alloc ?_ (by first | omega | (simp <;> omega)) _) | (refine Below.setCell ?_ (by first | omega | (simp <;> omega)) _) | (refine bDrewN ?_ _) | (refine Below.drew ?_) | (refine Below.trans ?_ (Below.mono b1 (by first | omega | (simp <;> omega))))))⟩
end Go.Proofs.Ytbppdjglmgnggaa
