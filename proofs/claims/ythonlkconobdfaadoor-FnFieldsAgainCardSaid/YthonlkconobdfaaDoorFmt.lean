/- Contracts of FormatInt in the program (strconv.Itoa) and in the reference. Condition: the library's table of powers of ten reads as its text lays it. -/
import Derived.Test.YthonlkconobdfaaDoorStrs
import Derived.Test.YthonlkconobdfaaDoorHex
import Derived.Test.YthonlkconobdfaaDoorShelfS
import Derived.Lib.ItoaLen
import Derived.Lib.AppendIntMem
namespace Go.Proofs.YthonlkconobdfaaDoor
open Go.RowKit

/-- A number's decimal text. -/
def itx (n : Int) : ByteArray := ⟨(Lib.itoa n).toArray⟩
/-- The library's table reads so, whatever is laid behind. -/
def Tab (w : World) : Prop := Lib.TabBelow Tryd.prog w.heap.size w "internal/strconv.uint64pow10" .u64 Lib.pow10Tab
theorem Tab.at {w w' : World} (h : Tab w) (hb : Below w.heap.size w w') : Lib.TabIs Tryd.prog w' "internal/strconv.uint64pow10" .u64 Lib.pow10Tab := h w' hb
theorem Tab.on {w w' : World} (h : Tab w) (hb : Below w.heap.size w w') : Tab w' := Lib.tabBelow_of_tabIs (h w' hb)

theorem implFmt (n : Int) (w : World) (hn : -9223372036854775808 ≤ n ∧ n ≤ 9223372036854775807) (ht : Tab w) : Calls Tryd.prog 10 #[.int .i64 n] w fun e w' => e = .returned (.string (itx n)) ∧ Below w.heap.size w w' := by
  have htab := ht.at (Below.refl _ _)
  go_enter Tryd.func10, Tryd.ntmps10
  go_wp2_with fail
  refine (Tryd.strconv_Itoa n hn.1 hn.2 w htab).mono ?_
  rintro e w' ⟨rfl, k, os, rfl⟩
  have hb : Below w.heap.size w (Sort.grow (w.drewN k) os) := Lib.below_grow _ w (Nat.le_refl _) k os
  generalize Sort.grow (w.drewN k) os = w2 at hb ⊢
  go_wp2
  go_ret
  exact ⟨rfl, hb⟩

/-- The digits that are left, as the reference's loop sees them: none for 0. -/
def dz (v : Nat) : List UInt8 := if v = 0 then [] else Lib.decDigits v
theorem dz_step {v : Nat} (h : ¬ v = 0) : dz v = dz (v / 10) ++ [UInt8.ofNat (48 + v % 10)] := by
  rw [dz, if_neg h]
  by_cases q : v < 10
  · rw [Lib.decDigits_one q, dz, if_pos (by omega), Nat.mod_eq_of_lt q]; rfl
  · rw [Lib.decDigits, dif_neg q, dz, if_neg (by omega)]
theorem fig_push (d : Nat) (D : List UInt8) : bstr [48 + (d : Int)] ++ (⟨D.toArray⟩ : ByteArray) = ⟨(UInt8.ofNat (48 + d) :: D).toArray⟩ := by
  have e : bstr [48 + (d : Int)] = ⟨#[UInt8.ofNat (48 + d)]⟩ := by
    show ByteArray.empty.push (UInt8.ofNat (48 + (d : Int)).toNat) = _
    rw [show (48 + (d : Int)).toNat = 48 + d from by omega]
    rfl
  rw [e]
  apply ByteArray.ext
  rw [ByteArray.data_append]
  simp

theorem itoa_pos {u : Nat} (h : 1 ≤ u) : itx (u : Int) = ⟨(dz u).toArray⟩ := by rw [itx, Lib.itoa_nonneg, dz, if_neg (by omega)]
theorem itoa_neg {u : Nat} (h : 1 ≤ u) : itx (-(u : Int)) = (⟨#[45]⟩ : ByteArray) ++ ⟨(dz u).toArray⟩ := by
  rw [itx, Lib.itoa_neg u h, dz, if_neg (by omega)]
  apply ByteArray.ext
  rw [ByteArray.data_append]
  simp

/-- What holds at the head of the loop: the digits that are left, and those that stand. -/
def fmtRel (neg : Bool) (u : Nat) (j : Int) (t : ByteArray) : Prop := ∃ (v : Nat) (D : List UInt8), j = (if neg then -(v : Int) else (v : Int)) ∧ t = ⟨D.toArray⟩ ∧ dz v ++ D = dz u ∧ v ≤ u
theorem fmtRel.step {neg : Bool} {u : Nat} {j : Int} {t : ByteArray} (h : fmtRel neg u j t) (hj : ¬ j = 0) :
    ∃ d : Nat, d ≤ 9 ∧ j.tmod 10 = (if neg then -(d : Int) else (d : Int)) ∧ fmtRel neg u (j.tdiv 10) (bstr [48 + (d : Int)] ++ t) ∧ (j.tdiv 10).natAbs < j.natAbs := by
  obtain ⟨v, D, rfl, rfl, hD, hv⟩ := h
  have hv0 : ¬ v = 0 := by intro e; subst e; cases neg <;> exact hj rfl
  refine ⟨v % 10, by omega, ?_, ⟨v / 10, UInt8.ofNat (48 + v % 10) :: D, ?_, fig_push _ _, ?_, by omega⟩, ?_⟩
  · cases neg
    · show ((v : Int)).tmod 10 = ((v % 10 : Nat) : Int)
      rw [Int.tmod_eq_emod_of_nonneg (by omega)]; omega
    · show (-(v : Int)).tmod 10 = -((v % 10 : Nat) : Int)
      rw [Int.neg_tmod, Int.tmod_eq_emod_of_nonneg (by omega)]; omega
  · cases neg
    · show ((v : Int)).tdiv 10 = ((v / 10 : Nat) : Int)
      rw [Int.tdiv_eq_ediv_of_nonneg (by omega)]; omega
    · show (-(v : Int)).tdiv 10 = -((v / 10 : Nat) : Int)
      rw [Int.neg_tdiv, Int.tdiv_eq_ediv_of_nonneg (by omega)]; omega
  · rw [dz_step hv0, List.append_assoc, List.singleton_append] at hD
    exact hD
  · cases neg
    · show (((v : Int)).tdiv 10).natAbs < ((v : Int)).natAbs
      rw [Int.tdiv_eq_ediv_of_nonneg (by omega)]; omega
    · show ((-(v : Int)).tdiv 10).natAbs < (-(v : Int)).natAbs
      rw [Int.neg_tdiv, Int.tdiv_eq_ediv_of_nonneg (by omega)]; omega
theorem fmtRel.size {neg : Bool} {u : Nat} {j : Int} {t : ByteArray} (h : fmtRel neg u j t) (hu : u ≤ 9223372036854775808) : t.size ≤ 20 := by
  obtain ⟨v, D, rfl, rfl, hD, hv⟩ := h
  have h1 : D.length ≤ (dz u).length := by rw [← hD, List.length_append]; omega
  have h2 : (dz u).length ≤ 20 := by
    unfold dz
    split
    · exact Nat.zero_le _
    · rw [Lib.decDigits_length]; exact Lib.nDigits_le20 u (by omega)
  show D.toArray.size ≤ 20
  simp
  omega
theorem fmtRel.done {neg : Bool} {u : Nat} {t : ByteArray} (h : fmtRel neg u 0 t) : t = ⟨(dz u).toArray⟩ := by
  obtain ⟨v, D, hj, rfl, hD, hv⟩ := h
  have : v = 0 := by cases neg <;> simp at hj <;> omega
  subst this
  rw [← hD]; rfl

set_option maxRecDepth 100000 in
set_option maxHeartbeats 2000000 in
theorem specFmt (n : Int) (w : World) (hn : -9223372036854775808 ≤ n ∧ n ≤ 9223372036854775807) : Calls Tryd.prog 9 #[.int .i64 n] w fun e w' => e = .returned (.string (itx n)) ∧ Below w.heap.size w w' := by
  by_cases hz : n = 0
  · subst hz
    go_enter Tryd.func9, Tryd.ntmps9
    go_wp2
    go_ret
    exact ⟨ret_str (by rw [itx, show (0 : Int) = ((0 : Nat) : Int) from rfl, Lib.itoa_nonneg, Lib.decDigits_one (by decide)]; rfl), Below.refl _ _⟩
  · have hz2 : (n == 0) = false := by rw [beq_eq_false_iff_ne]; exact hz
    obtain ⟨neg, hneg⟩ : ∃ b, b = decide (n < 0) := ⟨_, rfl⟩
    obtain ⟨u, hu⟩ : ∃ u, u = n.natAbs := ⟨_, rfl⟩
    have hu1 : 1 ≤ u := by omega
    have hub : u ≤ 9223372036854775808 := by omega
    have hr0 : fmtRel neg u n ⟨#[]⟩ := ⟨u, [], by rw [hneg, hu]; by_cases q : n < 0 <;> simp [q] <;> omega, rfl, List.append_nil _, Nat.le_refl _⟩
    have hfin : itx n = if neg then (⟨#[45]⟩ : ByteArray) ++ ⟨(dz u).toArray⟩ else ⟨(dz u).toArray⟩ := by
      by_cases q : n < 0
      · rw [hneg, decide_eq_true q, if_pos rfl, ← itoa_neg hu1, show -(u : Int) = n from by omega]
      · rw [hneg, decide_eq_false q, if_neg (by decide), ← itoa_pos hu1, show (u : Int) = n from by omega]
    have hdn : decide (n < 0) = neg := hneg.symm
    have hr0 := Lib.hid hr0
    replace hfin := Lib.hid hfin
    replace hz := Lib.hid hz
    obtain ⟨R, eR⟩ : ∃ R : Int → ByteArray → Prop, R = fmtRel neg u := ⟨_, rfl⟩
    rw [← eR] at hr0
    replace eR := Lib.hid eR
    clear hneg hu
    go_enter Tryd.func9, Tryd.ntmps9
    go_wp2
    go_loopw [0, 4, 5] (fun x s _ wr => ∃ (j : Int) (t : ByteArray), x = .int .i64 j ∧ s = .string t ∧ -9223372036854775808 ≤ j ∧ j ≤ 9223372036854775807 ∧ Hid (R j t) ∧ Below w.heap.size w wr) (fun x _ _ _ => (intOf x).natAbs)
    case atStart => exact ⟨n, ⟨#[]⟩, rfl, rfl, hn.1, hn.2, hr0, Below.refl _ _⟩
    case round =>
      obtain ⟨j, t, rfl, rfl, hj0, hj1, hr, hb⟩ := hrel
      have hsz : t.size ≤ 20 := by have h := hr.out; rw [eR.out] at h; exact h.size hub
      by_cases hj : j = 0
      · have hq : (j != 0) = false := by rw [hj]; rfl
        have ht : t = ⟨(dz u).toArray⟩ := by have h := hr.out; rw [eR.out, hj] at h; exact h.done
        replace ht := Lib.hid ht
        replace hj := Lib.hid hj
        have e1 : (1 : Int) + (t.size : Int) ≤ 9223372036854775807 := by omega
        have e2 : 1 + t.size ≤ 9223372036854775807 := by omega
        cases neg
        · go_wp2
          go_ret
          exact ⟨ret_str (by rw [hfin.out, ht.out]; rfl), hb⟩
        · go_wp2
          go_ret
          exact ⟨ret_str (by rw [hfin.out, ht.out]; rfl), hb⟩
      · have hq : (j != 0) = true := by rw [bne_iff_ne]; exact hj
        obtain ⟨d, hd, hm, hst, hlt⟩ : ∃ d : Nat, d ≤ 9 ∧ j.tmod 10 = (if neg then -(d : Int) else (d : Int)) ∧ R (j.tdiv 10) (bstr [48 + (d : Int)] ++ t) ∧ (j.tdiv 10).natAbs < j.natAbs := by
          have h := hr.out; rw [eR.out] at h ⊢; exact h.step hj
        obtain ⟨q, eq⟩ : ∃ q, q = j.tdiv 10 := ⟨_, rfl⟩
        rw [← eq] at hst hlt
        have hqb : -9223372036854775808 ≤ q ∧ q ≤ 9223372036854775807 := by omega
        have tq : j.tdiv 10 = q := eq.symm
        have hcv := own_string (OB.lit wr (48 + (d : Int))) _ rfl
        have hs1 := bstr_size [48 + (d : Int)]
        obtain ⟨b, hbe⟩ : ∃ b, b = bstr [48 + (d : Int)] := ⟨_, rfl⟩
        rw [← hbe] at hcv hs1 hst
        have hs2 : b.size = 1 := hs1
        have e2 : b.size + t.size ≤ 9223372036854775807 := by omega
        have hdi : digI (d : Int) = 48 + (d : Int) := if_pos (by omega)
        replace hst := Lib.hid hst
        replace hdi := Lib.hid hdi
        replace hj := Lib.hid hj
        clear hbe hs1 eq hr
        cases neg
        · have tm : j.tmod 10 = (d : Int) := hm
          replace hm := Lib.hid hm
          go_wp2_with (first | (go_at_call 25; refine (specFig _ _ (by omega) (by omega)).mono ?_; rintro e w' ⟨rfl, rfl⟩; rw [hdi.out]) | fail)
          go_wp2
          go_roundw
          case rel => exact ⟨q, b ++ t, rfl, rfl, hqb.1, hqb.2, hst, hb.alloc hb.size _⟩
          case measure => simp only [intOf]; omega
        · by_cases hd0 : d = 0
          · subst hd0
            have tm : j.tmod 10 = 0 := hm
            rw [show (48 : Int) + ((0 : Nat) : Int) = 48 from rfl] at hcv
            have hdi0 : Hid (digI 0 = 48) := if_pos (by omega)
            replace hm := Lib.hid hm
            go_wp2_with (first | (go_at_call 25; refine (specFig _ _ (by omega) (by omega)).mono ?_; rintro e w' ⟨rfl, rfl⟩; rw [hdi0.out]) | fail)
            go_wp2
            go_roundw
            case rel => exact ⟨q, b ++ t, rfl, rfl, hqb.1, hqb.2, hst, hb.alloc hb.size _⟩
            case measure => simp only [intOf]; omega
          · have tm : j.tmod 10 = -(d : Int) := hm
            replace hm := Lib.hid hm
            have ng : IntKind.i64.wrap (-(-(d : Int))) = (d : Int) := by rw [Int.neg_neg]; exact IntWalk.i64_in _ (by omega)
            go_wp2_with (first | (go_at_call 25; refine (specFig _ _ (by omega) (by omega)).mono ?_; rintro e w' ⟨rfl, rfl⟩; rw [hdi.out]) | fail)
            go_wp2
            go_roundw
            case rel => exact ⟨q, b ++ t, rfl, rfl, hqb.1, hqb.2, hst, hb.alloc hb.size _⟩
            case measure => simp only [intOf]; omega
end Go.Proofs.YthonlkconobdfaaDoor
