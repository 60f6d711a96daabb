/- Contracts of gcd, in the program and in the reference. Condition: both numbers from -2^62 to 2^62. -/
import Derived.Test.YthonlkconobdfaaDoorIn
import Derived.WalkLawsBesides
namespace Go.Proofs.YthonlkconobdfaaDoor
open Go.RowKit

def gcdI (a b : Int) : Int := (Int.gcd a b : Int)
theorem gcdI_abs {a b : Int} {x y : Nat} (hx : a.natAbs = x) (hy : b.natAbs = y) : gcdI a b = (Nat.gcd x y : Int) := by rw [gcdI, Int.gcd, hx, hy]
theorem gcd_round (x y : Nat) (_h : 0 < y) : Nat.gcd y (x % y) = Nat.gcd x y := by rw [Nat.gcd_comm x y, Nat.gcd_rec y x, Nat.gcd_comm]

theorem implGcd {a b : Int} (w : World) (ha : -4611686018427387904 ≤ a ∧ a ≤ 4611686018427387904) (hb : -4611686018427387904 ≤ b ∧ b ≤ 4611686018427387904) :
    Calls Tryd.prog 42 #[.int .i64 a, .int .i64 b] w fun e w' => e = .returned (.int .i64 (gcdI a b)) ∧ Q w w' := by
  obtain ⟨x, hx⟩ : ∃ x, a.natAbs = x := ⟨_, rfl⟩
  obtain ⟨y, hy⟩ : ∃ y, b.natAbs = y := ⟨_, rfl⟩
  rw [gcdI_abs hx hy]
  by_cases h1 : a < 0
  all_goals
    by_cases h2 : b < 0
    all_goals
      go_enter Tryd.func42, Tryd.ntmps42
      go_wp2
      go_loopw [0, 1] (fun u v wr => ∃ p q : Nat, p ≤ 4611686018427387904 ∧ q ≤ 4611686018427387904 ∧ u = .int .i64 p ∧ v = .int .i64 q ∧ Hid (Nat.gcd p q = Nat.gcd x y) ∧ Q w wr) (fun _ v _ => (intOf v).toNat)
      case atStart => exact ⟨x, y, by omega, by omega, by go_num, by go_num, rfl, Q.refl _⟩
      case round =>
        obtain ⟨p, q, hp, hq, rfl, rfl, HG, nq, rfl⟩ := hrel
        by_cases hq0 : q = 0
        · have hq2 : ((q : Int) != 0) = false := by rw [hq0]; rfl
          have hfin : (p : Int) = (Nat.gcd x y : Int) := by have h := HG.out; rw [hq0, Nat.gcd_zero_right] at h; rw [h]
          have HF := Lib.hid hfin
          clear hfin hq0
          go_wp2
          go_ret
          exact ⟨ret_int HF.out, (by repeat (first | exact Q.refl _ | exact Q.mk _ _ | apply Q.drewN | apply Q.drew))⟩
        · have hq2 : ((q : Int) != 0) = true := by rw [bne_iff_ne]; omega
          have hqp : 0 < q := by omega
          have hm : p % q < q := Nat.mod_lt _ hqp
          have hcast : (p : Int) % (q : Int) = ((p % q : Nat) : Int) := (Int.natCast_emod p q).symm
          obtain ⟨r, hr⟩ : ∃ r, r = p % q := ⟨_, rfl⟩
          rw [← hr] at hm hcast
          have HR := Lib.hid hr
          clear hr hq0
          go_wp2
          go_quiet (fail)
          go_wp2
          go_roundw
          case rel => exact ⟨q, r, hq, by omega, rfl, by rw [hcast], by unfold Hid; rw [HR.out, gcd_round p q hqp]; exact HG.out, (by repeat (first | exact Q.refl _ | exact Q.mk _ _ | apply Q.drewN | apply Q.drew))⟩
          case measure => simp only [intOf]; omega
theorem specGcd {a b : Int} (w : World) (ha : -4611686018427387904 ≤ a ∧ a ≤ 4611686018427387904) (hb : -4611686018427387904 ≤ b ∧ b ≤ 4611686018427387904) :
    Calls Tryd.prog 40 #[.int .i64 a, .int .i64 b] w fun e w' => e = .returned (.int .i64 (gcdI a b)) ∧ Q w w' := by
  obtain ⟨x, hx⟩ : ∃ x, a.natAbs = x := ⟨_, rfl⟩
  obtain ⟨y, hy⟩ : ∃ y, b.natAbs = y := ⟨_, rfl⟩
  rw [gcdI_abs hx hy]
  by_cases h1 : a < 0
  all_goals
    by_cases h2 : b < 0
    all_goals
      go_enter Tryd.func40, Tryd.ntmps40
      go_wp2
      go_loopw [0, 1] (fun u v wr => ∃ p q : Nat, p ≤ 4611686018427387904 ∧ q ≤ 4611686018427387904 ∧ u = .int .i64 p ∧ v = .int .i64 q ∧ Hid (Nat.gcd p q = Nat.gcd x y) ∧ Q w wr) (fun _ v _ => (intOf v).toNat)
      case atStart => exact ⟨x, y, by omega, by omega, by go_num, by go_num, rfl, Q.refl _⟩
      case round =>
        obtain ⟨p, q, hp, hq, rfl, rfl, HG, nq, rfl⟩ := hrel
        by_cases hq0 : q = 0
        · have hq2 : (q : Int) ≤ 0 := by omega
          have hfin : (p : Int) = (Nat.gcd x y : Int) := by have h := HG.out; rw [hq0, Nat.gcd_zero_right] at h; rw [h]
          have HF := Lib.hid hfin
          clear hfin hq0
          go_wp2
          go_ret
          exact ⟨ret_int HF.out, (by repeat (first | exact Q.refl _ | exact Q.mk _ _ | apply Q.drewN | apply Q.drew))⟩
        · have hq2 : (0 : Int) < (q : Int) := by omega
          have hqp : 0 < q := by omega
          have hm : p % q < q := Nat.mod_lt _ hqp
          have hcast : (p : Int) % (q : Int) = ((p % q : Nat) : Int) := (Int.natCast_emod p q).symm
          obtain ⟨r, hr⟩ : ∃ r, r = p % q := ⟨_, rfl⟩
          rw [← hr] at hm hcast
          have HR := Lib.hid hr
          clear hr hq0
          go_wp2
          go_quiet (fail)
          go_wp2
          go_roundw
          case rel => exact ⟨q, r, hq, by omega, rfl, by rw [hcast], by unfold Hid; rw [HR.out, gcd_round p q hqp]; exact HG.out, (by repeat (first | exact Q.refl _ | exact Q.mk _ _ | apply Q.drewN | apply Q.drew))⟩
          case measure => simp only [intOf]; omega
end Go.Proofs.YthonlkconobdfaaDoor
