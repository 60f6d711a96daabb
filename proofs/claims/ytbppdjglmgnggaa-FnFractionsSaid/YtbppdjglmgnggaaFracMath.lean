/- Plain laws on fractions in lowest terms: no program in sight. -/
import Derived.Test.YtbppdjglmgnggaaFrac
namespace Go.Proofs.Ytbppdjglmgnggaa

theorem gcdI_pos {t b : Int} (h : b ≠ 0) : 0 < gcdI t b := by
  unfold gcdI
  have : 0 < Int.gcd t b := Int.gcd_pos_of_ne_zero_right _ h
  omega
theorem gcdI_le {t b B : Int} (h : b ≠ 0) (hb : -B ≤ b ∧ b ≤ B) : gcdI t b ≤ B := by
  have h1 : Int.gcd t b ≤ b.natAbs := Nat.le_of_dvd (by omega) (Int.gcd_dvd_natAbs_right t b)
  unfold gcdI
  omega
theorem gcdI_dvd_left (t b : Int) : gcdI t b ∣ t := Int.gcd_dvd_left ..
theorem gcdI_dvd_right (t b : Int) : gcdI t b ∣ b := Int.gcd_dvd_right ..
theorem gcdI_neg (t b : Int) : gcdI (-t) (-b) = gcdI t b := by unfold gcdI; rw [Int.gcd_neg, Int.neg_gcd]
theorem gcdI_mul {k : Int} (t b : Int) (hk : 0 < k) : gcdI (k * t) (k * b) = k * gcdI t b := by
  unfold gcdI
  rw [Int.gcd_mul_left]
  have : (k.natAbs : Int) = k := Int.natAbs_of_nonneg (by omega)
  rw [Int.natCast_mul, this]

def flipI (t b : Int) : Int := if b < 0 then -t else t
def normT (t b : Int) : Int := flipI t b / gcdI t b
def normB (t b : Int) : Int := flipI b b / gcdI t b
theorem flip_dvd {g t b : Int} (h : g ∣ t) : g ∣ flipI t b := by
  unfold flipI; split
  · exact Int.dvd_neg.2 h
  · exact h
theorem normT_tdiv (t b : Int) : (flipI t b).tdiv (gcdI t b) = normT t b := Int.tdiv_eq_ediv_of_dvd (flip_dvd (gcdI_dvd_left t b))
theorem normB_tdiv (t b : Int) : (flipI b b).tdiv (gcdI t b) = normB t b := Int.tdiv_eq_ediv_of_dvd (flip_dvd (gcdI_dvd_right t b))
theorem ediv_bd {x g : Int} {B : Int} (hg : 0 < g) (_hB : 0 ≤ B) (h : -B ≤ x ∧ x ≤ B) (hd : g ∣ x) : -B ≤ x / g ∧ x / g ≤ B := by
  obtain ⟨q, rfl⟩ := hd
  rw [Int.mul_ediv_cancel_left _ (by omega)]
  rcases Int.le_total 0 q with h1 | h1
  · have : q ≤ g * q := by have := Int.mul_le_mul_of_nonneg_right (show (1 : Int) ≤ g by omega) h1; omega
    omega
  · have : g * q ≤ q := by have := Int.mul_le_mul_of_nonneg_right (show (1 : Int) ≤ g by omega) (show 0 ≤ -q by omega); rw [Int.mul_neg, Int.mul_neg] at this; omega
    omega
theorem flip_bd {t b B : Int} (h : -B ≤ t ∧ t ≤ B) : -B ≤ flipI t b ∧ flipI t b ≤ B := by unfold flipI; split <;> omega
theorem normT_bd {t b B : Int} (hb : b ≠ 0) (hB : 0 ≤ B) (h : -B ≤ t ∧ t ≤ B) : -B ≤ normT t b ∧ normT t b ≤ B := ediv_bd (gcdI_pos hb) hB (flip_bd h) (flip_dvd (gcdI_dvd_left t b))
theorem normB_bd {t b B : Int} (hb : b ≠ 0) (hB : 0 ≤ B) (h : -B ≤ b ∧ b ≤ B) : -B ≤ normB t b ∧ normB t b ≤ B := ediv_bd (gcdI_pos hb) hB (flip_bd h) (flip_dvd (gcdI_dvd_right t b))
theorem flip_mul {k : Int} (t b : Int) (hk : 0 < k) : flipI (k * t) (k * b) = k * flipI t b := by
  unfold flipI
  by_cases h : b < 0
  · rw [if_pos h, if_pos (Int.mul_neg_of_pos_of_neg hk h), Int.mul_neg]
  · rw [if_neg h, if_neg (by have := Int.mul_nonneg (show 0 ≤ k by omega) (show 0 ≤ b by omega); omega)]
theorem normT_mul {k : Int} (t b : Int) (hk : 0 < k) : normT (k * t) (k * b) = normT t b := by
  unfold normT; rw [flip_mul t b hk, gcdI_mul t b hk, Int.mul_ediv_mul_of_pos _ _ hk]
theorem normB_mul {k : Int} (t b : Int) (hk : 0 < k) : normB (k * t) (k * b) = normB t b := by
  unfold normB; rw [flip_mul b b hk, gcdI_mul t b hk, Int.mul_ediv_mul_of_pos _ _ hk]

/-- What 'reduced' gives: the lowest terms where they are valid. -/
def redOk (t b : Int) : Bool := fracB (normT t b) (normB t b)
def redT (t b : Int) : Int := if redOk t b = true then normT t b else 0
def redB (t b : Int) : Int := if redOk t b = true then normB t b else 0

theorem mul_bd {x y : Int} (hx : -1000000 ≤ x ∧ x ≤ 1000000) (hy : -1000000 ≤ y ∧ y ≤ 1000000) : -1000000000000 ≤ x * y ∧ x * y ≤ 1000000000000 := by
  have h : (x * y).natAbs ≤ 1000000 * 1000000 := by
    rw [Int.natAbs_mul]
    exact Nat.mul_le_mul (by omega) (by omega)
  omega
theorem fracB_bd {t b : Int} (h : fracB t b = true) : (-1000000 ≤ t ∧ t ≤ 1000000) ∧ (1 ≤ b ∧ b ≤ 1000000) ∧ gcdI t b = 1 := by
  rw [fracB, Bool.and_eq_true, Bool.and_eq_true] at h
  exact ⟨inB_iff.1 h.1, inB_iff.1 h.2.1, of_decide_eq_true h.2.2⟩
end Go.Proofs.Ytbppdjglmgnggaa
