/- The walk of laws.FnHexText: it returns true, and nothing that was there has turned. -/
import Derived.Test.YthonlkconobdfaaDoorHexLaw
import Derived.Test.YthonlkconobdfaaDoorDrawT
import Derived.Test.YthonlkconobdfaaDoorFmt
import Derived.Test.YthonlkconobdfaaDoorBig
namespace Go.Proofs.YthonlkconobdfaaDoor
open Go.RowKit
set_option linter.unusedVariables false

theorem itx_ten : itx 10 = ⟨#[49, 48]⟩ := by
  rw [itx, show (10 : Int) = ((10 : Nat) : Int) from rfl, Lib.itoa_nonneg, Lib.decDigits_two (by decide) (by decide)]
  rfl

set_option maxRecDepth 100000 in
theorem walkHexText (a0 : Option Addr) (len0 cap0 : Nat) (z0 : List Int) (w : World) (hr0 : IsRow .u8 w a0 len0 cap0 z0) (ht : Tab w) :
    Calls Tryd.prog 5 #[.slice a0 len0 cap0] w fun e w' => e = .returned (.bool true) ∧ Below w.heap.size w w' := by
  by_cases hbig : 1048576 < len0
  · have hd : decide (1048576 < len0) = true := decide_eq_true hbig
    go_enter Tryd.func5, Tryd.ntmps5
    go_wp2_with fail
    refine lawsBig.mono ?_
    rintro e w' ⟨rfl, rfl⟩
    go_wp2
    go_ret
    exact ⟨rfl, Below.refl _ _⟩
  · have hd : decide (1048576 < len0) = false := decide_eq_false hbig
    go_enter Tryd.func5, Tryd.ntmps5
    go_wp2_with fail
    refine lawsBig.mono ?_
    rintro e w' ⟨rfl, rfl⟩
    go_wp2_with fail
    refine (drawEnc hr0).mono ?_
    rintro e w1 ⟨s, rfl, hs, b1⟩
    by_cases h : s.size ≤ 20000
    · have hd2 : decide (s.size ≤ 20000) = true := decide_eq_true h
      have hd3 : decide ((20000 : Int) < (s.size : Int)) = false := decide_eq_false (by omega)
      have hz := enc_size h
      obtain ⟨hB, hS⟩ := dec_enc h
      obtain ⟨H, eH⟩ : ∃ H, H = encS s := ⟨_, rfl⟩
      rw [← eH] at hz hB hS
      replace eH := Lib.hid eH
      have e1 : IntKind.i64.wrap (2 * (s.size : Int)) = 2 * (s.size : Int) := IntWalk.i64_in _ (by omega)
      have q : ((H.size : Int) == 2 * (s.size : Int)) = true := by rw [beq_iff_eq]; omega
      have hm : H.size ≤ 1099511627776 := by omega
      replace hz := Lib.hid hz
      replace hB := Lib.hid hB
      replace hS := Lib.hid hS
      go_wp2_with fail
      refine (implEnc _ _).mono ?_
      rintro e w2 ⟨rfl, b2⟩
      rw [← eH.out, hd2]
      have bb2 := bThen b1 b2
      go_wp2_with fail
      refine (implDec _ _ hm).mono ?_
      rintro e w3 ⟨rfl, b3⟩
      rw [hB.out, hS.out]
      have bb3 := bThen bb2 b3
      clear b1 b2 b3 bb2
      go_wp2
      go_ret
      exact ⟨rfl, bb3⟩
    · have hd2 : decide (s.size ≤ 20000) = false := decide_eq_false h
      have hd3 : decide ((20000 : Int) < (s.size : Int)) = true := decide_eq_true (by omega)
      have hE : Hid (encS s = ⟨#[]⟩) := if_neg h
      go_wp2_with fail
      refine (implEnc _ _).mono ?_
      rintro e w2 ⟨rfl, b2⟩
      rw [hE.out, hd2]
      have bb2 := bThen b1 b2
      go_wp2_with fail
      refine (implFmt _ _ (by omega) (ht.on bb2)).mono ?_
      rintro e w3 ⟨rfl, b3⟩
      rw [itx_ten]
      have bb3 := bThen bb2 b3
      clear b1 b2 b3 bb2
      go_wp2
      go_ret
      exact ⟨rfl, bb3⟩
end Go.Proofs.YthonlkconobdfaaDoor
