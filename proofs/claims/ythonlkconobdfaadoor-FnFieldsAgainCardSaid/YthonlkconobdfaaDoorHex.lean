/- Contracts of impl.EncodeHex and spec.EncodeHex. -/
import Derived.Test.YthonlkconobdfaaDoorByt
import Derived.Deep.RegionHeld3
namespace Go.Proofs.YthonlkconobdfaaDoor
open Go.RowKit

/-- The digit of x. -/
def digI (x : Int) : Int := if x < 10 then 48 + x else 87 + x
def hexTo (s : ByteArray) : Nat → List Int
  | 0 => []
  | k + 1 => hexTo s k ++ [digI (cd s k / 16), digI (cd s k % 16)]
theorem hexTo_length (s : ByteArray) (k : Nat) : (hexTo s k).length = 2 * k := by
  induction k with
  | zero => rfl
  | succ k ih => simp [hexTo, ih]; omega

abbrev hexD : ByteArray := ⟨#[48, 49, 50, 51, 52, 53, 54, 55, 56, 57, 97, 98, 99, 100, 101, 102]⟩
theorem hex_all : ∀ k : Fin 16, (((hexD[k.1]'k.2).toNat : Nat) : Int) = digI (k.1 : Int) := by decide
theorem hex_at {y : Int} (h0 : 0 ≤ y) (h1 : y < 16) (h : y.toNat < hexD.size) : (((hexD[y.toNat]'h).toNat : Nat) : Int) = digI y := by
  have := hex_all ⟨y.toNat, by omega⟩
  rw [this]
  show digI (y.toNat : Int) = digI y
  rw [Int.toNat_of_nonneg h0]
theorem pairC {x : Int} (hb : 0 ≤ x ∧ x ≤ 255) (h1 : (x / 16).toNat < hexD.size) (h2 : (x % 16).toNat < hexD.size) :
    #[Value.int .u8 (((hexD[(x / 16).toNat]'h1).toNat : Nat) : Int), Value.int .u8 (((hexD[(x % 16).toNat]'h2).toNat : Nat) : Int)] = ([digI (x / 16), digI (x % 16)].map (Value.int .u8)).toArray := by
  rw [hex_at (by omega) (by omega) h1, hex_at (by omega) (by omega) h2]
  rfl
theorem u8and15 (n : Int) : bits .and .u8 n 15 = n % 16 := by
  have h15 : (BitVec.ofInt 8 15).toNat = 2 ^ 4 - 1 := by decide
  have key : (BitVec.ofInt 8 n &&& BitVec.ofInt 8 15).toNat = (n % ((2 ^ 8 : Nat) : Int)).toNat % 2 ^ 4 := by
    rw [BitVec.toNat_and, BitVec.toNat_ofInt, h15, Nat.and_two_pow_sub_one_eq_mod]
  show IntKind.u8.wrap ((BitVec.ofInt 8 n &&& BitVec.ofInt 8 15).toNat : Nat) = n % 16
  rw [key, IntKind.wrap_u8]
  omega

def encS (s : ByteArray) : ByteArray := if s.size ≤ 20000 then bstr (hexTo s s.size) else ⟨#[]⟩

set_option maxRecDepth 100000 in
theorem implEnc (s : ByteArray) (w : World) : Calls Tryd.prog 16 #[.string s] w (RetSB w (encS s) (decide (s.size ≤ 20000))) := by
  by_cases hs : s.size ≤ 20000
  · have hd : (s.size : Int) ≤ 20000 := by omega
    have HE : Hid (encS s = bstr (hexTo s s.size)) := if_pos hs
    have HT : Hid (decide (s.size ≤ 20000) = true) := decide_eq_true hs
    go_enter Tryd.func16, Tryd.ntmps16
    go_wp2
    go_loopw [4, 5] (fun o i wr => ∃ k : Nat, k ≤ s.size ∧ i = .int .i64 k ∧ OB wr w.heap.size o (hexTo s k) ∧ Below w.heap.size w wr) (fun _ i _ => s.size - (intOf i).toNat)
    case atStart => exact ⟨0, Nat.zero_le _, rfl, OB.nil _ _, Below.refl _ _⟩
    case round =>
      obtain ⟨k, hk, rfl, ho, hb⟩ := hrel
      by_cases hlt : k < s.size
      · have h1 : (0 : Int) ≤ (k : Int) := by omega
        have h2 : (k : Int) < (s.size : Int) := by omega
        have hcd := cd_eq hlt
        have hbd := cd_bd s k
        obtain ⟨x, hx⟩ : ∃ x, x = cd s k := ⟨_, rfl⟩
        rw [← hx] at hcd hbd
        have HX := Lib.hid hx
        clear hx
        have hand : bits .and .u8 x 15 = x % 16 := u8and15 x
        have hm1 : 0 ≤ x % 16 := by omega
        have hm2 : x % 16 < 16 := by omega
        go_wp2
        go_region_held3 (fun w' => True) (trivial)
          ((refine step_appB (.tmp 15) (.tmp 26) (by rfl) [digI (x / 16), digI (x % 16)] (by rfl) (ho.drewN 1) (by rfl) (by exact pairC hbd _ _) (by rfl) (by rfl) (by rfl) hb.size (by simp [hexTo_length]; omega) ?_; intro v' w1 ho1 hg1))
        all_goals
          go_wp2
          go_roundw
          case rel => exact ⟨k + 1, by omega, by go_num, by rw [hexTo, ← HX.out]; exact ho1, bApp (bDrewN hb 1) (ho.drewN 1) (Nat.le_refl _) hg1⟩
          case measure => simp [intOf]; omega
      · have hke : k = s.size := by omega
        subst hke
        have hcv := own_string ho wr rfl
        clear ho
        go_wp2
        go_ret2
        exact ⟨ret_sb HE.out.symm HT.out.symm, hb⟩
  · have hd : (20000 : Int) < (s.size : Int) := by omega
    have HE : Hid (encS s = ⟨#[]⟩) := if_neg hs
    have HT : Hid (decide (s.size ≤ 20000) = false) := decide_eq_false hs
    clear hs
    go_enter Tryd.func16, Tryd.ntmps16
    go_wp2
    go_ret2
    exact ⟨ret_sb HE.out.symm HT.out.symm, Below.refl _ _⟩

theorem specFig (y : Int) (w : World) (h0 : 0 ≤ y) (h1 : y < 16) : Calls Tryd.prog 25 #[.int .i64 y] w fun e w' => e = .returned (.int .u8 (digI y)) ∧ w = w' := by
  by_cases h : y < 10
  · have HD : Hid (digI y = 48 + y) := if_pos h
    have e1 : IntKind.u8.wrap (48 + y) = 48 + y := by rw [IntKind.wrap_u8]; omega
    go_enter Tryd.func25, Tryd.ntmps25
    go_wp2
    go_ret
    exact ⟨ret_int HD.out.symm, rfl⟩
  · have HD : Hid (digI y = 87 + y) := if_neg h
    have e1 : IntKind.u8.wrap (97 + y - 10) = 87 + y := by rw [IntKind.wrap_u8]; omega
    go_enter Tryd.func25, Tryd.ntmps25
    go_wp2
    go_ret
    exact ⟨ret_int HD.out.symm, rfl⟩

end Go.Proofs.YthonlkconobdfaaDoor
