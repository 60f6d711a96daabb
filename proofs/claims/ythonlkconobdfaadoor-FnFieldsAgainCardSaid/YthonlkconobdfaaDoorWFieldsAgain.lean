/- Contract of laws.sameTexts (the same texts); the walk of laws.FnFieldsAgain: it returns true, and nothing that was there has turned. -/
import Derived.Test.YthonlkconobdfaaDoorFldLaw
import Derived.Test.YthonlkconobdfaaDoorDrawS
import Derived.Test.YthonlkconobdfaaDoorFmt
import Derived.Test.YthonlkconobdfaaDoorBig
import Derived.BigQuiet
namespace Go.Proofs.YthonlkconobdfaaDoor
open Go.RowKit
set_option linter.unusedVariables false

theorem sameTexts_same {w : World} {b0 b1 : Nat} {v0 v1 : Value} {xs : List ByteArray} (h0 : OS w b0 v0 xs) (h1 : OS w b1 v1 xs) :
    Calls Tryd.prog 21 #[v0, v1] w fun e w' => e = .returned (.bool true) ∧ Q w w' := by
  obtain ⟨i0, hi, hz0, hz1, hz2⟩ := info_parts info_str
  obtain ⟨ad0, cap0, g0, rfl, hc0, hm0, hn0, hx0⟩ := h0.view
  obtain ⟨ad1, cap1, g1, rfl, hc1, hm1, hn1, hx1⟩ := h1.view
  clear h0 h1 hn0 hn1
  unfold maxLen at hm0 hm1
  have HI := Lib.hid hi
  clear hi
  go_enter Tryd.func21, Tryd.ntmps21
  go_wp2
  go_loopw [5] (fun i wr => ∃ k : Nat, k ≤ xs.length ∧ i = .int .i64 k ∧ Q w wr) (fun i _ => xs.length - (intOf i).toNat)
  case atStart => exact ⟨0, Nat.zero_le _, rfl, (by repeat (first | exact Q.refl _ | exact Q.mk _ _ | apply Q.drewN | apply Q.drew))⟩
  case round =>
    obtain ⟨k, hk, rfl, nq, rfl⟩ := hrel
    by_cases hlt : k < xs.length
    · have i0 := indexAt_some Tryd.underlying35 HI.out hz1 (hx0 k hlt).1 hlt .i64 (cap := cap0)
      have i1 := indexAt_some Tryd.underlying35 HI.out hz1 (hx1 k hlt).1 hlt .i64 (cap := cap1)
      have c0 := (hx0 k hlt).2.2.2.1
      have c1 := (hx1 k hlt).2.2.2.1
      obtain ⟨x, hx⟩ : ∃ x, x = strAt xs k := ⟨_, rfl⟩
      rw [← hx] at c0 c1
      clear hx0 hx1 hx
      go_wp2
      go_quiet (fail)
      go_wp2
      go_roundw
      case rel => exact ⟨k + 1, by omega, by go_num, (by repeat (first | exact Q.refl _ | exact Q.mk _ _ | apply Q.drewN | apply Q.drew))⟩
      case measure => simp [intOf]; omega
    · clear hx0 hx1
      go_wp2
      go_ret
      exact ⟨rfl, (by repeat (first | exact Q.refl _ | exact Q.mk _ _ | apply Q.drewN | apply Q.drew))⟩

theorem itx_minus3 : itx (-3) = ⟨#[45, 51]⟩ := by
  rw [itx, show (-3 : Int) = -((3 : Nat) : Int) from rfl, Lib.itoa_neg 3 (by decide), Lib.decDigits_one (by decide)]
  rfl

set_option maxRecDepth 100000 in
set_option maxHeartbeats 1000000 in
theorem walkFieldsAgain (a0 : Option Addr) (len0 cap0 : Nat) (z0 : List Int) (w : World) (hr0 : IsRow .u8 w a0 len0 cap0 z0) (ht : Tab w) :
    Calls Tryd.prog 6 #[.slice a0 len0 cap0] w fun e w' => e = .returned (.bool true) ∧ Below w.heap.size w w' := by
  by_cases hbig : 1048576 < len0
  · have hd : decide (1048576 < len0) = true := decide_eq_true hbig
    go_enter Tryd.func6, Tryd.ntmps6
    go_wp2_with fail
    refine lawsBig.mono ?_
    rintro e w' ⟨rfl, rfl⟩
    go_wp2
    go_ret
    exact ⟨rfl, Below.refl _ _⟩
  · have hd : decide (1048576 < len0) = false := decide_eq_false hbig
    go_enter Tryd.func6, Tryd.ntmps6
    go_wp2_with fail
    refine lawsBig.mono ?_
    rintro e w' ⟨rfl, rfl⟩
    go_wp2_with fail
    refine (drawSplit hr0).mono ?_
    rintro e w1 ⟨line, rfl, hls, b1⟩
    go_wp2_with fail
    refine (implSplit line _).mono ?_
    rintro e w2 ⟨vp, rfl, hp, b2⟩
    have bb2 := bThen b1 b2
    cases hB : fldB line
    · rw [(fld_no hB).1] at hp
      obtain ⟨ad, cap, rfl, _⟩ := hp.shape
      replace hB := Lib.hid hB
      go_wp2_with fail
      refine (specSplit line _).mono ?_
      rintro e w3 ⟨vq, rfl, hq, b3⟩
      rw [hB.out]
      have bb3 := bThen bb2 b3
      go_wp2_with fail
      refine (implFmt _ _ (by omega) (ht.on bb3)).mono ?_
      rintro e w4 ⟨rfl, b4⟩
      rw [itx_minus3]
      have bb4 := bThen bb3 b4
      clear b1 b2 b3 b4 bb2 bb3
      go_wp2
      go_ret
      exact ⟨rfl, bb4⟩
    · have hfl := fld_len line
      have hfs : Hid (∀ k, (strAt (fldL line) k).size ≤ 600) := fun k => fld_size k
      have hjs : Hid (∀ k, (joinTo (fldL line) k).size ≤ 601 * k) := fun k => join_size k
      have hag : Hid ((joinTo (fldL line) (fldL line).length).size ≤ 600 → fldB (joinTo (fldL line) (fldL line).length) = true ∧ fldL (joinTo (fldL line) (fldL line).length) = fldL line) := fields_again hB
      obtain ⟨P, eP⟩ : ∃ P, P = fldL line := ⟨_, rfl⟩
      rw [← eP] at hp hfl hfs hjs hag
      replace hB := Lib.hid hB
      replace eP := Lib.hid eP
      go_wp2_with fail
      refine (specSplit line _).mono ?_
      rintro e w3 ⟨vq, rfl, hq, b3⟩
      rw [hB.out]
      have bb3 := bThen bb2 b3
      have hp := hp.stay b3
      clear hq b1 b2 b3 bb2
      obtain ⟨i0, hi, hz0, hz1, hz2⟩ := info_parts info_str
      have hp0 := hp
      obtain ⟨ad, cap, g, rfl, hc0, hm0, hn0, hx0⟩ := hp0.view
      clear hp0 hn0
      unfold maxLen at hm0
      have HI := Lib.hid hi
      clear hi
      obtain ⟨J, eJ⟩ : ∃ J : Nat → ByteArray, J = joinTo P := ⟨_, rfl⟩
      have hJ0 : Hid (J 0 = ⟨#[]⟩) := by rw [eJ]; rfl
      have hJs : Hid (∀ k, J (k + 1) = J k ++ strAt P k ++ ⟨#[32]⟩) := by rw [eJ]; exact fun k => rfl
      rw [← eJ] at hjs hag
      clear eJ
      go_wp2
      go_loop [8, 9] (fun s i => ∃ k : Nat, k ≤ P.length ∧ i = .int .i64 (k : Int) ∧ s = .string (J k)) (fun _ i => P.length - (intOf i).toNat)
      case atStart => exact ⟨0, Nat.zero_le _, rfl, by rw [hJ0.out]⟩
      case round =>
        obtain ⟨k, hk, rfl, rfl⟩ := hrel
        have hjk := hjs.out k
        by_cases hlt : k < P.length
        · have i0 := indexAt_some Tryd.underlying35 HI.out hz1 (hx0 k hlt).1 hlt .i64 (cap := cap)
          have c0 := (hx0 k hlt).2.2.2.1
          have hxs := hfs.out k
          have hst := hJs.out k
          obtain ⟨x, hx⟩ : ∃ x, x = strAt P k := ⟨_, rfl⟩
          obtain ⟨t, et⟩ : ∃ t, t = J k := ⟨_, rfl⟩
          rw [← hx] at c0 hxs hst
          rw [← et] at hst hjk ⊢
          have e1 : t.size + x.size ≤ 9223372036854775807 := by omega
          have e2 : t.size + x.size + 1 ≤ 9223372036854775807 := by omega
          replace hst := Lib.hid hst
          clear hx0 hx et
          go_wp2
          go_round
          case rel => exact ⟨k + 1, by omega, by go_num, by rw [hst.out]⟩
          case measure => simp [intOf]; omega
        · obtain rfl : k = P.length := by omega
          obtain ⟨t, et⟩ : ∃ t, t = J P.length := ⟨_, rfl⟩
          rw [← et] at hag hjk ⊢
          clear hx0 et
          go_wp2_with fail
          refine (implSplit t _).mono ?_
          rintro e w4 ⟨v4, rfl, h4, b4⟩
          have bb4 := bThen bb3 b4
          have hp4 := hp.stay b4
          by_cases hs : t.size ≤ 600
          · obtain ⟨g1, g2⟩ := hag.out hs
            rw [g2] at h4
            have hd6 : decide ((600 : Int) < (t.size : Int)) = false := decide_eq_false (by omega)
            rw [g1]
            clear g1 g2 b4
            go_wp2_with fail
            refine (sameTexts_same hp4 h4).mono ?_
            rintro e w' ⟨rfl, n, rfl⟩
            go_wp2
            go_ret
            exact ⟨rfl, bDrewN bb4 n⟩
          · have hd6 : decide ((600 : Int) < (t.size : Int)) = true := decide_eq_true (by omega)
            go_wp2
            go_ret
            exact ⟨rfl, bb4⟩
end Go.Proofs.YthonlkconobdfaaDoor
