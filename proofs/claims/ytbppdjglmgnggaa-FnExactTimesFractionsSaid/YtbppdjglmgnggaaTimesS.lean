/- Contract of spec.TimesFractions. No conditions. -/
import Derived.Test.YtbppdjglmgnggaaAdd
import Derived.Test.YtbppdjglmgnggaaMakeS
namespace Go.Proofs.Ytbppdjglmgnggaa
open Go.RowKit

theorem specTimes (t b u c : Int) (w : World) : Calls Try.prog 19 #[.agg #[.int .i64 t, .int .i64 b], .agg #[.int .i64 u, .int .i64 c]] w (RetB w (.tuple #[.agg #[.int .i64 (mulT t b u c), .int .i64 (mulB t b u c)], .bool (mulOk t b u c)])) := by
  cases h1 : fracB t b
  · have hn1 : (!fracB t b) = true := by rw [h1]; rfl
    have HN := Lib.hid (mul_no (t := t) (b := b) (u := u) (c := c) (by rw [twoIn, h1]; rfl))
    clear h1
    go_enter Try.func19, Try.ntmps19
    go_wp2_with fail
    refine (specFractionOkB _ _ _).mono ?_
    rintro e w1 ⟨rfl, b1⟩
    obtain ⟨⟨x0, x1⟩, ⟨y0, y1⟩, ⟨r0, r1⟩, ⟨f0, f1⟩, hs1⟩ := three b1
    go_wp2
    exact bodyPost_ret (v := .tuple #[.agg #[.int .i64 0, .int .i64 0], .bool false]) (by simp [results, Try.results19, go_sem, r0, r1]) rfl ⟨ret_red HN.out.1.symm HN.out.2.1.symm HN.out.2.2.symm, (by repeat (first | exact Below.refl _ _ | (refine Below.alloc ?_ (by first | omega | (simp <;> omega)) _) | (refine Below.setCell ?_ (by first | omega | (simp <;> omega)) _) | (refine bDrewN ?_ _) | (refine Below.drew ?_) | (refine Below.trans ?_ (Below.mono b1 (by first | omega | (simp <;> omega))))))⟩
  · have hn1 : (!fracB t b) = false := by rw [h1]; rfl
    cases h2 : fracB u c
    · have hn2 : (!fracB u c) = true := by rw [h2]; rfl
      have HN := Lib.hid (mul_no (t := t) (b := b) (u := u) (c := c) (by rw [twoIn, h2, Bool.and_false]))
      clear h1 h2
      go_enter Try.func19, Try.ntmps19
      go_wp2_with fail
      refine (specFractionOkB _ _ _).mono ?_
      rintro e w1 ⟨rfl, b1⟩
      obtain ⟨⟨x0, x1⟩, ⟨y0, y1⟩, ⟨r0, r1⟩, ⟨f0, f1⟩, hs1⟩ := three b1
      go_wp2_with fail
      refine (specFractionOkB _ _ _).mono ?_
      rintro e w2 ⟨rfl, b2⟩
      have hz2 := b2.size
      obtain ⟨⟨x0, x1⟩, ⟨y0, y1⟩, ⟨r0, r1⟩, ⟨f0, f1⟩, hs2⟩ := three (bThen b1 b2)
      go_wp2
      exact bodyPost_ret (v := .tuple #[.agg #[.int .i64 0, .int .i64 0], .bool false]) (by simp [results, Try.results19, go_sem, r0, r1]) rfl ⟨ret_red HN.out.1.symm HN.out.2.1.symm HN.out.2.2.symm, (by repeat (first | exact Below.refl _ _ | (refine Below.alloc ?_ (by first | omega | (simp <;> omega)) _) | (refine Below.setCell ?_ (by first | omega | (simp <;> omega)) _) | (refine bDrewN ?_ _) | (refine Below.drew ?_) | (refine Below.trans ?_ (Below.mono b1 (by first | omega | (simp <;> omega)))) | (refine Below.trans ?_ (Below.mono b2 (by first | omega | (simp <;> omega))))))⟩
    · have hn2 : (!fracB u c) = false := by rw [h2]; rfl
      have HN := Lib.hid (mul_yes (t := t) (b := b) (u := u) (c := c) (by rw [twoIn, h1, h2]; rfl))
      obtain ⟨kt, kb, _⟩ := fracB_bd h1
      obtain ⟨ku, kc, _⟩ := fracB_bd h2
      have mtc := mul_bd kt (show -1000000 ≤ c ∧ c ≤ 1000000 by omega)
      have mub := mul_bd ku (show -1000000 ≤ b ∧ b ≤ 1000000 by omega)
      have mtu := mul_bd kt ku
      have mbc := mul_bd (show -1000000 ≤ b ∧ b ≤ 1000000 by omega) (show -1000000 ≤ c ∧ c ≤ 1000000 by omega)
      have NZ : Hid (b * c ≠ 0) := by
        intro e
        rcases Int.mul_eq_zero.1 e with e | e <;> omega
      have HM := Lib.hid (mk_yes (t := t * u) (b := b * c) (by rw [mkIn, decide_eq_true NZ.out, inB_iff.2 mtu, inB_iff.2 mbc]; rfl))
      clear h1 h2
      go_enter Try.func19, Try.ntmps19
      go_wp2_with fail
      refine (specFractionOkB _ _ _).mono ?_
      rintro e w1 ⟨rfl, b1⟩
      obtain ⟨⟨x0, x1⟩, ⟨y0, y1⟩, ⟨r0, r1⟩, ⟨f0, f1⟩, hs1⟩ := three b1
      go_wp2_with fail
      refine (specFractionOkB _ _ _).mono ?_
      rintro e w2 ⟨rfl, b2⟩
      have hz2 := b2.size
      obtain ⟨⟨x0, x1⟩, ⟨y0, y1⟩, ⟨r0, r1⟩, ⟨f0, f1⟩, hs2⟩ := three (bThen b1 b2)
      go_wp2_with fail
      refine (specMake _ _ _).mono ?_
      rintro e w3 ⟨he, b3⟩
      rw [HM.out.1, HM.out.2.1, HM.out.2.2] at he
      subst he
      have hz3 := b3.size
      obtain ⟨_, _, ⟨r0, r1⟩, ⟨f0, f1⟩, hs3⟩ := three (bThen (bThen b1 b2) b3)
      go_wp2
      exact bodyPost_ret (v := .tuple #[.agg #[.int .i64 (redT (t * u) (b * c)), .int .i64 (redB (t * u) (b * c))], .bool (redOk (t * u) (b * c))]) (by simp [results, Try.results19, go_sem, r0, r1]) rfl ⟨ret_red HN.out.1.symm HN.out.2.1.symm HN.out.2.2.symm, (by repeat (first | exact Below.refl _ _ | (refine Below.alloc ?_ (by first | omega | (simp <;> omega)) _) | (refine Below.setCell ?_ (by first | omega | (simp <;> omega)) _) | (refine bDrewN ?_ _) | (refine Below.drew ?_) | (refine Below.trans ?_ (Below.mono b1 (by first | omega | (simp <;> omega)))) | (refine Below.trans ?_ (Below.mono b2 (by first | omega | (simp <;> omega)))) | (refine Below.trans ?_ (Below.mono b3 (by first | omega | (simp <;> omega))))))⟩

end Go.Proofs.Ytbppdjglmgnggaa
