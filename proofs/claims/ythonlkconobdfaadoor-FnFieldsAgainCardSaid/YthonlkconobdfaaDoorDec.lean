/- Contracts of impl.DecodeHex and spec.DecodeHex. -/
import Derived.Test.YthonlkconobdfaaDoorByt
import Derived.Deep.RegionHeld3
namespace Go.Proofs.YthonlkconobdfaaDoor
open Go.RowKit

def valI (b : Int) : Int := if 48 ≤ b ∧ b ≤ 57 then b - 48 else if 97 ≤ b ∧ b ≤ 102 then b - 87 else -1
theorem valI_bd (b : Int) : -1 ≤ valI b ∧ valI b ≤ 15 := by
  unfold valI
  split
  · omega
  · split <;> omega

set_option maxRecDepth 100000 in
theorem implDigit (b : Int) (hb : 0 ≤ b ∧ b ≤ 255) (w : World) : Calls Tryd.prog 34 #[.int .u8 b] w fun e w' => e = .returned (.int .i64 (valI b)) ∧ w = w' := by
  by_cases h1 : 48 ≤ b
  · by_cases h2 : b ≤ 57
    · have HV : Hid (valI b = b - 48) := if_pos ⟨h1, h2⟩
      have e1 : IntKind.u8.wrap (b - 48) = b - 48 := by rw [IntKind.wrap_u8]; omega
      have e2 : IntKind.i64.wrap (b - 48) = b - 48 := IntWalk.i64_in _ (by omega)
      go_enter Tryd.func34, Tryd.ntmps34
      go_wp2
      go_ret
      exact ⟨ret_int HV.out.symm, rfl⟩
    · by_cases h3 : 97 ≤ b
      · by_cases h4 : b ≤ 102
        · have HV : Hid (valI b = b - 87) := by unfold Hid valI; rw [if_neg (by omega), if_pos ⟨h3, h4⟩]
          have e1 : IntKind.u8.wrap (b - 97) = b - 97 := by rw [IntKind.wrap_u8]; omega
          have e2 : IntKind.i64.wrap (b - 97) = b - 97 := IntWalk.i64_in _ (by omega)
          have e3 : IntKind.i64.wrap (b - 97 + 10) = b - 87 := by rw [IntWalk.i64_in _ (by omega)]; omega
          go_enter Tryd.func34, Tryd.ntmps34
          go_wp2
          go_ret
          exact ⟨ret_int HV.out.symm, rfl⟩
        · have HV : Hid (valI b = -1) := by unfold Hid valI; rw [if_neg (by omega), if_neg (by omega)]
          go_enter Tryd.func34, Tryd.ntmps34
          go_wp2
          go_ret
          exact ⟨ret_int HV.out.symm, rfl⟩
      · have HV : Hid (valI b = -1) := by unfold Hid valI; rw [if_neg (by omega), if_neg (by omega)]
        go_enter Tryd.func34, Tryd.ntmps34
        go_wp2
        go_ret
        exact ⟨ret_int HV.out.symm, rfl⟩
  · have HV : Hid (valI b = -1) := by unfold Hid valI; rw [if_neg (by omega), if_neg (by omega)]
    have h3 : ¬ 97 ≤ b := by omega
    go_enter Tryd.func34, Tryd.ntmps34
    go_wp2
    go_ret
    exact ⟨ret_int HV.out.symm, rfl⟩

def decTo (s : ByteArray) : Nat → List Int
  | 0 => []
  | k + 1 => decTo s k ++ [16 * valI (cd s (2 * k)) + valI (cd s (2 * k + 1))]
theorem decTo_length (s : ByteArray) (k : Nat) : (decTo s k).length = k := by
  induction k with
  | zero => rfl
  | succ k ih => simp [decTo, ih]
def goodTo (s : ByteArray) (m : Nat) : Prop := ∀ j, j < m → 0 ≤ valI (cd s (2 * j)) ∧ 0 ≤ valI (cd s (2 * j + 1))
instance (s : ByteArray) (m : Nat) : Decidable (goodTo s m) := by unfold goodTo; exact inferInstance
def decB (s : ByteArray) : Bool := decide (s.size ≤ 40000 ∧ s.size % 2 = 0 ∧ goodTo s (s.size / 2))
def decS (s : ByteArray) : ByteArray := if decB s = true then bstr (decTo s (s.size / 2)) else ⟨#[]⟩
theorem dec_no {s : ByteArray} (h : decB s = false) : decS s = ⟨#[]⟩ ∧ decB s = false := ⟨by rw [decS, if_neg (by rw [h]; decide)], h⟩
theorem dec_yes {s : ByteArray} (h : decB s = true) : decS s = bstr (decTo s (s.size / 2)) ∧ decB s = true := ⟨by rw [decS, if_pos h], h⟩
theorem goodTo.step {s : ByteArray} {k : Nat} (h : goodTo s k) (h1 : 0 ≤ valI (cd s (2 * k))) (h2 : 0 ≤ valI (cd s (2 * k + 1))) : goodTo s (k + 1) := by
  intro j hj
  rcases Nat.lt_or_ge j k with h3 | h3
  · exact h j h3
  · obtain rfl : j = k := by omega
    exact ⟨h1, h2⟩

set_option maxRecDepth 100000 in
set_option maxHeartbeats 1000000 in
theorem implDec (s : ByteArray) (w : World) (hmx : s.size ≤ 1099511627776) : Calls Tryd.prog 17 #[.string s] w (RetSB w (decS s) (decB s)) := by
  by_cases hev : s.size % 2 = 0
  · have tm : (s.size : Int).tmod 2 = 0 := by rw [Int.tmod_eq_emod_of_nonneg (by omega)]; omega
    by_cases hs : s.size ≤ 40000
    · have hd : (s.size : Int) ≤ 40000 := by omega
      have HE := Lib.hid hev
      go_enter Tryd.func17, Tryd.ntmps17
      go_wp2
      go_loopw [4, 5, 6, 7] (fun o i _ _ wr => ∃ k : Nat, 2 * k ≤ s.size ∧ i = .int .i64 ((2 * k : Nat) : Int) ∧ OB wr w.heap.size o (decTo s k) ∧ Below w.heap.size w wr ∧ Hid (goodTo s k)) (fun _ i _ _ _ => s.size - (intOf i).toNat)
      case atStart => exact ⟨0, by omega, rfl, OB.nil _ _, Below.refl _ _, fun j hj => absurd hj (by omega)⟩
      case round =>
        obtain ⟨k, hk, rfl, ho, hb, hg⟩ := hrel
        by_cases hlt : 2 * k < s.size
        · have hlt2 : 2 * k + 1 < s.size := by have := HE.out; omega
          have hcd := cd_eq hlt
          have hbd := cd_bd s (2 * k)
          have hcd2 := cd_eq hlt2
          have hbd2 := cd_bd s (2 * k + 1)
          obtain ⟨x, hx⟩ : ∃ x, x = cd s (2 * k) := ⟨_, rfl⟩
          obtain ⟨y, hy⟩ : ∃ y, y = cd s (2 * k + 1) := ⟨_, rfl⟩
          rw [← hx] at hcd hbd
          rw [← hy] at hcd2 hbd2
          have HX := Lib.hid hx
          have HY := Lib.hid hy
          clear hx hy
          have vx := valI_bd x
          have vy := valI_bd y
          obtain ⟨j, hj⟩ : ∃ j, j = 2 * k := ⟨_, rfl⟩
          rw [← hj] at hlt
          have hcd2' : ∀ h, ((s[j + 1]'h).toNat : Int) = y := by intro h; subst hj; exact hcd2
          have hcd' : ∀ h, ((s[j]'h).toNat : Int) = x := by intro h; subst hj; exact hcd
          rw [← hj]
          have HJ := Lib.hid hj
          have h2 : (j : Int) < (s.size : Int) := by omega
          have h3 : (j : Int) + 1 < (s.size : Int) := by omega
          clear hj hcd hcd2
          have h1 : (0 : Int) ≤ (j : Int) := by omega
          have h4 : (0 : Int) ≤ (j : Int) + 1 := by omega
          have e1 : IntKind.i64.wrap ((j : Int) + 1) = (j : Int) + 1 := IntWalk.i64_in _ (by omega)
          have e2 : ((j : Int) + 1).toNat = j + 1 := by omega
          obtain ⟨p, hp⟩ : ∃ p, p = valI x := ⟨_, rfl⟩
          obtain ⟨q, hq⟩ : ∃ q, q = valI y := ⟨_, rfl⟩
          rw [← hp] at vx
          rw [← hq] at vy
          have hp2 : valI x = p := hp.symm
          have hq2 : valI y = q := hq.symm
          have HP := Lib.hid hp
          have HQ := Lib.hid hq
          clear hp hq
          go_wp2
          go_quiet ((go_at_call 34; first | exact qAdd (implDigit _ (by assumption) _) | exact qOne (implDigit _ (by assumption) _)))
          by_cases hp0 : p < 0
          · have HN := Lib.hid (dec_no (s := s) (decide_eq_false (fun h => by
              have := (h.2.2 k (by have := HJ.out; omega)).1
              rw [← HX.out, ← HP.out] at this
              omega)))
            go_wp2
            go_ret2
            exact ⟨ret_sb HN.out.1.symm HN.out.2.symm, bDrewN hb _⟩
          · by_cases hq0 : q < 0
            · have HN := Lib.hid (dec_no (s := s) (decide_eq_false (fun h => by
                have := (h.2.2 k (by have := HJ.out; omega)).2
                rw [← HY.out, ← HQ.out] at this
                omega)))
              go_wp2
              go_ret2
              exact ⟨ret_sb HN.out.1.symm HN.out.2.symm, bDrewN hb _⟩
            · have e3 : IntKind.i64.wrap (16 * p) = 16 * p := IntWalk.i64_in _ (by omega)
              have e4 : IntKind.i64.wrap (16 * p + q) = 16 * p + q := IntWalk.i64_in _ (by omega)
              have e5 : IntKind.u8.wrap (16 * p + q) = 16 * p + q := by rw [IntKind.wrap_u8]; omega
              go_wp2_with (at_builtin; refine app_byte rfl (.tmp 38) (.tmp 44) rfl rfl (ho.drewN _) rfl hb.size (by rw [decTo_length]; omega) ?_; intro v' w1 ho1 hg1)
              go_roundw
              case rel =>
                refine ⟨k + 1, by have := HJ.out; omega, ?_, by rw [decTo, ← HX.out, ← HY.out, ← HP.out, ← HQ.out]; exact ho1, bApp (bDrewN hb _) (ho.drewN _) (Nat.le_refl _) hg1, ?_⟩
                · have := HJ.out
                  go_num
                · exact goodTo.step hg (by rw [← HX.out, ← HP.out]; omega) (by rw [← HY.out, ← HQ.out]; omega)
              case measure => simp [intOf]; omega
        · have hke : s.size / 2 = k := by have := HE.out; omega
          have hsz : s.size = 2 * k := by omega
          have HYES := Lib.hid (dec_yes (s := s) (decide_eq_true ⟨hs, HE.out, by rw [hke]; exact hg⟩))
          rw [hke] at HYES
          have hcv := own_string ho wr rfl
          have hnl : (s.size : Int) ≤ ((2 * k : Nat) : Int) := by omega
          clear ho hlt hsz hke
          obtain ⟨j, hj⟩ : ∃ j, j = 2 * k := ⟨_, rfl⟩
          rw [← hj] at hnl
          rw [← hj]
          clear hj hk
          go_wp2
          go_ret2
          exact ⟨ret_sb HYES.out.1.symm HYES.out.2.symm, hb⟩
    · have hd : (40000 : Int) < (s.size : Int) := by omega
      have HN := Lib.hid (dec_no (s := s) (decide_eq_false (fun h => hs h.1)))
      clear hev hs
      go_enter Tryd.func17, Tryd.ntmps17
      go_wp2
      go_ret2
      exact ⟨ret_sb HN.out.1.symm HN.out.2.symm, Below.refl _ _⟩
  · have tm : (s.size : Int).tmod 2 = 1 := by rw [Int.tmod_eq_emod_of_nonneg (by omega)]; omega
    have HN := Lib.hid (dec_no (s := s) (decide_eq_false (fun h => hev h.2.1)))
    clear hev
    by_cases hs : s.size ≤ 40000
    · have hd : (s.size : Int) ≤ 40000 := by omega
      go_enter Tryd.func17, Tryd.ntmps17
      go_wp2
      go_ret2
      exact ⟨ret_sb HN.out.1.symm HN.out.2.symm, Below.refl _ _⟩
    · have hd : (40000 : Int) < (s.size : Int) := by omega
      go_enter Tryd.func17, Tryd.ntmps17
      go_wp2
      go_ret2
      exact ⟨ret_sb HN.out.1.symm HN.out.2.symm, Below.refl _ _⟩

end Go.Proofs.YthonlkconobdfaaDoor
