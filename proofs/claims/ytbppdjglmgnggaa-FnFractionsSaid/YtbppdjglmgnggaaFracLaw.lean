/- The plain law of FnFractions: sums in any order, products over sums, signs of differences. No program in sight. -/
import Derived.Test.YtbppdjglmgnggaaCmp
namespace Go.Proofs.Ytbppdjglmgnggaa

theorem mul_bds {x y A B : Int} (hA : 0 ≤ A) (hx : -A ≤ x ∧ x ≤ A) (hy : -B ≤ y ∧ y ≤ B) (hB : 0 ≤ B) : -(A * B) ≤ x * y ∧ x * y ≤ A * B := by
  have h : (x * y).natAbs ≤ A.natAbs * B.natAbs := by
    rw [Int.natAbs_mul]
    exact Nat.mul_le_mul (by omega) (by omega)
  have h2 : ((A.natAbs * B.natAbs : Nat) : Int) = A * B := by rw [Int.natCast_mul, Int.natAbs_of_nonneg hA, Int.natAbs_of_nonneg hB]
  omega

theorem norm_rep (p : Int) {q : Int} (hq : 0 < q) : ∃ g, 0 < g ∧ p = g * normT p q ∧ q = g * normB p q := by
  refine ⟨gcdI p q, gcdI_pos (by omega), ?_, ?_⟩
  · rw [normT, flipI, if_neg (by omega), Int.mul_ediv_cancel' (gcdI_dvd_left p q)]
  · rw [normB, flipI, if_neg (by omega), Int.mul_ediv_cancel' (gcdI_dvd_right p q)]
theorem normB_pos (p : Int) {q : Int} (hq : 0 < q) : 1 ≤ normB p q := by
  obtain ⟨g, hg, _, h⟩ := norm_rep p hq
  rcases (show 0 < normB p q ∨ normB p q ≤ 0 by omega) with h1 | h1
  · omega
  · have := Int.mul_nonpos_of_nonneg_of_nonpos (show 0 ≤ g by omega) h1
    omega
theorem norm_gcd (p : Int) {q : Int} (hq : 0 < q) : gcdI (normT p q) (normB p q) = 1 := by
  obtain ⟨g, hg, h1, h2⟩ := norm_rep p hq
  have h3 := gcdI_mul (normT p q) (normB p q) hg
  have hg0 : g = gcdI p q := by
    have e1 : p = gcdI p q * normT p q := by rw [normT, flipI, if_neg (by omega), Int.mul_ediv_cancel' (gcdI_dvd_left p q)]
    have e2 : q = gcdI p q * normB p q := by rw [normB, flipI, if_neg (by omega), Int.mul_ediv_cancel' (gcdI_dvd_right p q)]
    have hb := normB_pos p hq
    have : g * normB p q = gcdI p q * normB p q := by rw [← h2, ← e2]
    exact Int.eq_of_mul_eq_mul_right (by omega) this
  rw [← h1, ← h2, ← hg0] at h3
  have h4 : g * 1 = g * gcdI (normT p q) (normB p q) := by omega
  exact (Int.eq_of_mul_eq_mul_left (by omega) h4).symm
theorem norm_self {t b : Int} (h : fracB t b = true) : normT t b = t ∧ normB t b = b := by
  obtain ⟨_, hb, hg⟩ := fracB_bd h
  rw [normT, normB, flipI, flipI, if_neg (by omega), if_neg (by omega), hg]
  exact ⟨Int.ediv_one _, Int.ediv_one _⟩
/-- Numbers that are small enough have lowest terms that are valid. -/
theorem red_small {p q P Q : Int} (hp : -P ≤ p ∧ p ≤ P) (hq : 1 ≤ q ∧ q ≤ Q) (hP : P ≤ 1000000) (hQ : Q ≤ 1000000) :
    redT p q = normT p q ∧ redB p q = normB p q ∧ redOk p q = true ∧ fracB (normT p q) (normB p q) = true ∧ (-P ≤ normT p q ∧ normT p q ≤ P) ∧ (1 ≤ normB p q ∧ normB p q ≤ Q) := by
  have h1 := normT_bd (t := p) (b := q) (B := P) (by omega) (by omega) hp
  have h2 := normB_bd (t := p) (b := q) (B := Q) (by omega) (by omega) (by omega)
  have h3 := normB_pos p (q := q) (by omega)
  have h4 : fracB (normT p q) (normB p q) = true := by
    rw [fracB, Bool.and_eq_true, Bool.and_eq_true]
    exact ⟨inB_iff.2 (by omega), inB_iff.2 (by omega), decide_eq_true (norm_gcd p (by omega))⟩
  exact ⟨by rw [redT, redOk, if_pos h4], by rw [redB, redOk, if_pos h4], h4, h4, h1, h3, h2.2⟩

structure SumOf (t b u c T B P Q : Int) : Prop where
  vt : addT t b u c = T
  vb : addB t b u c = B
  ok : addOk t b u c = true
  fr : fracB T B = true
  nt : T = normT (t * c + u * b) (b * c)
  nb : B = normB (t * c + u * b) (b * c)
  bt : -P ≤ T ∧ T ≤ P
  bb : 1 ≤ B ∧ B ≤ Q
structure ProdOf (t b u c T B P Q : Int) : Prop where
  vt : mulT t b u c = T
  vb : mulB t b u c = B
  ok : mulOk t b u c = true
  fr : fracB T B = true
  nt : T = normT (t * u) (b * c)
  nb : B = normB (t * u) (b * c)
  bt : -P ≤ T ∧ T ≤ P
  bb : 1 ≤ B ∧ B ≤ Q

theorem add_small {t b u c P1 Q1 P2 Q2 : Int} (h1 : fracB t b = true) (h2 : fracB u c = true) (a1 : -P1 ≤ t ∧ t ≤ P1) (a2 : 1 ≤ b ∧ b ≤ Q1) (a3 : -P2 ≤ u ∧ u ≤ P2) (a4 : 1 ≤ c ∧ c ≤ Q2) (hP : P1 * Q2 + P2 * Q1 ≤ 1000000) (hQ : Q1 * Q2 ≤ 1000000) :
    SumOf t b u c (normT (t * c + u * b) (b * c)) (normB (t * c + u * b) (b * c)) (P1 * Q2 + P2 * Q1) (Q1 * Q2) := by
  have m1 := mul_bds (by omega) a1 (show -Q2 ≤ c ∧ c ≤ Q2 by omega) (by omega)
  have m2 := mul_bds (by omega) a3 (show -Q1 ≤ b ∧ b ≤ Q1 by omega) (by omega)
  have m3 := mul_bds (by omega) (show -Q1 ≤ b ∧ b ≤ Q1 by omega) (show -Q2 ≤ c ∧ c ≤ Q2 by omega) (by omega)
  have m4 := Int.mul_pos (show 0 < b by omega) (show 0 < c by omega)
  obtain ⟨r1, r2, r3, r4, r5, r6⟩ := red_small (p := t * c + u * b) (q := b * c) (P := P1 * Q2 + P2 * Q1) (Q := Q1 * Q2) (by omega) (by omega) hP hQ
  obtain ⟨k1, k2, k3⟩ := add_yes (t := t) (b := b) (u := u) (c := c) (by rw [twoIn, h1, h2]; rfl)
  exact ⟨k1.trans r1, k2.trans r2, k3.trans r3, r4, rfl, rfl, r5, r6⟩
theorem mul_small {t b u c P1 Q1 P2 Q2 : Int} (h1 : fracB t b = true) (h2 : fracB u c = true) (a1 : -P1 ≤ t ∧ t ≤ P1) (a2 : 1 ≤ b ∧ b ≤ Q1) (a3 : -P2 ≤ u ∧ u ≤ P2) (a4 : 1 ≤ c ∧ c ≤ Q2) (hP : P1 * P2 ≤ 1000000) (hQ : Q1 * Q2 ≤ 1000000) :
    ProdOf t b u c (normT (t * u) (b * c)) (normB (t * u) (b * c)) (P1 * P2) (Q1 * Q2) := by
  have m1 := mul_bds (by omega) a1 a3 (by omega)
  have m3 := mul_bds (by omega) (show -Q1 ≤ b ∧ b ≤ Q1 by omega) (show -Q2 ≤ c ∧ c ≤ Q2 by omega) (by omega)
  have m4 := Int.mul_pos (show 0 < b by omega) (show 0 < c by omega)
  obtain ⟨r1, r2, r3, r4, r5, r6⟩ := red_small (p := t * u) (q := b * c) (P := P1 * P2) (Q := Q1 * Q2) m1 (by omega) hP hQ
  obtain ⟨k1, k2, k3⟩ := mul_yes (t := t) (b := b) (u := u) (c := c) (by rw [twoIn, h1, h2]; rfl)
  exact ⟨k1.trans r1, k2.trans r2, k3.trans r3, r4, rfl, rfl, r5, r6⟩

/-- Lowest terms in the place of a fraction's raw numbers change nothing. -/
theorem norm_left {p q u c : Int} (hq : 0 < q) : normT (normT p q * c + u * normB p q) (normB p q * c) = normT (p * c + u * q) (q * c) ∧ normB (normT p q * c + u * normB p q) (normB p q * c) = normB (p * c + u * q) (q * c) := by
  obtain ⟨g, hg, h1, h2⟩ := norm_rep p hq
  have k1 : p * c + u * q = g * (normT p q * c + u * normB p q) := by
    have e1 : p * c = g * (normT p q * c) := by rw [← Int.mul_assoc, ← h1]
    have e2 : u * q = g * (u * normB p q) := by rw [Int.mul_left_comm, ← h2]
    rw [e1, e2, Int.mul_add]
  have k2 : q * c = g * (normB p q * c) := by rw [← Int.mul_assoc, ← h2]
  rw [k1, k2, normT_mul _ _ hg, normB_mul _ _ hg]
  exact ⟨rfl, rfl⟩
theorem norm_right {t b p q : Int} (hq : 0 < q) : normT (t * normB p q + normT p q * b) (b * normB p q) = normT (t * q + p * b) (b * q) ∧ normB (t * normB p q + normT p q * b) (b * normB p q) = normB (t * q + p * b) (b * q) := by
  have h := norm_left (p := p) (q := q) (u := t) (c := b) hq
  rw [Int.add_comm (normT p q * b), Int.mul_comm (normB p q) b, Int.add_comm (p * b), Int.mul_comm q b] at h
  exact h
theorem norm_times {t b p q : Int} (hq : 0 < q) : normT (t * normT p q) (b * normB p q) = normT (t * p) (b * q) ∧ normB (t * normT p q) (b * normB p q) = normB (t * p) (b * q) := by
  obtain ⟨g, hg, h1, h2⟩ := norm_rep p hq
  have k1 : t * p = g * (t * normT p q) := by rw [Int.mul_left_comm, ← h1]
  have k2 : b * q = g * (b * normB p q) := by rw [Int.mul_left_comm, ← h2]
  rw [k1, k2, normT_mul _ _ hg, normB_mul _ _ hg]
  exact ⟨rfl, rfl⟩
theorem normT_sign (p : Int) {q : Int} (hq : 0 < q) : (0 < normT p q ↔ 0 < p) ∧ (normT p q < 0 ↔ p < 0) := by
  obtain ⟨g, hg, h1, _⟩ := norm_rep p hq
  obtain ⟨T, hT⟩ : ∃ T, T = normT p q := ⟨_, rfl⟩
  rw [← hT] at h1 ⊢
  subst h1
  exact ⟨⟨fun h => Int.mul_pos hg h, fun h => by
    rcases (show 0 < T ∨ T ≤ 0 by omega) with h2 | h2
    · exact h2
    · have := Int.mul_nonpos_of_nonneg_of_nonpos (show 0 ≤ g by omega) h2; omega⟩, ⟨fun h => Int.mul_neg_of_pos_of_neg hg h, fun h => by
    rcases (show T < 0 ∨ 0 ≤ T by omega) with h2 | h2
    · exact h2
    · have := Int.mul_nonneg (show 0 ≤ g by omega) h2; omega⟩⟩

/-- What the law asks of three small valid fractions. -/
structure FracLaw (t b u c v d xT xB yT yB zT zB wT wB pT pB qT qB rT rB sT sB dT dB : Int) : Prop where
  x : SumOf t b u c xT xB 480 144
  y : SumOf xT xB v d yT yB 8640 1728
  z : SumOf u c v d zT zB 480 144
  w : SumOf t b zT zB wT wB 8640 1728
  p : ProdOf t b zT zB pT pB 9600 1728
  q : ProdOf t b u c qT qB 400 144
  r : ProdOf t b v d rT rB 400 144
  s : SumOf qT qB rT rB sT sB 115200 20736
  d : SumOf t b (-u) c dT dB 480 144
  yw : yT = wT ∧ yB = wB
  ps : pT = sT ∧ pB = sB
  m : mkT (6 * t) (6 * b) = t ∧ mkB (6 * t) (6 * b) = b ∧ mkOk (6 * t) (6 * b) = true
  gt : 0 < dT ↔ cmpN t b u c = 1
  lt : dT < 0 ↔ cmpN t b u c = -1
  k : cmpN t b u c = -cmpN u c t b
  kb : -1 ≤ cmpN t b u c ∧ cmpN t b u c ≤ 1

theorem fracLaw {t b u c v d : Int} (h1 : fracB t b = true) (h2 : fracB u c = true) (h3 : fracB v d = true) (a1 : -20 ≤ t ∧ t ≤ 20) (a2 : 1 ≤ b ∧ b ≤ 12) (a3 : -20 ≤ u ∧ u ≤ 20) (a4 : 1 ≤ c ∧ c ≤ 12) (a5 : -20 ≤ v ∧ v ≤ 20) (a6 : 1 ≤ d ∧ d ≤ 12)
    (hneg : fracB (-u) c = true) : ∃ xT xB yT yB zT zB wT wB pT pB qT qB rT rB sT sB dT dB, FracLaw t b u c v d xT xB yT yB zT zB wT wB pT pB qT qB rT rB sT sB dT dB := by
  have X := add_small h1 h2 a1 a2 a3 a4 (by decide) (by decide)
  have Z := add_small h2 h3 a3 a4 a5 a6 (by decide) (by decide)
  have Q := mul_small h1 h2 a1 a2 a3 a4 (by decide) (by decide)
  have R := mul_small h1 h3 a1 a2 a5 a6 (by decide) (by decide)
  have D := add_small h1 hneg a1 a2 (show -20 ≤ -u ∧ -u ≤ 20 by omega) a4 (by decide) (by decide)
  have Y := add_small X.fr h3 X.bt X.bb a5 a6 (by decide) (by decide)
  have W := add_small h1 Z.fr a1 a2 Z.bt Z.bb (by decide) (by decide)
  have P := mul_small h1 Z.fr a1 a2 Z.bt Z.bb (by decide) (by decide)
  have S := add_small Q.fr R.fr Q.bt Q.bb R.bt R.bb (by decide) (by decide)
  have pbc := Int.mul_pos (show 0 < b by omega) (show 0 < c by omega)
  have pcd := Int.mul_pos (show 0 < c by omega) (show 0 < d by omega)
  have pbd := Int.mul_pos (show 0 < b by omega) (show 0 < d by omega)
  have two : twoIn t b u c = true := by rw [twoIn, h1, h2]; rfl
  have two2 : twoIn u c t b = true := by rw [twoIn, h1, h2]; rfl
  have hs := normT_sign (t * c + -u * b) pbc
  have hub : -u * b = -(u * b) := Int.neg_mul _ _
  refine ⟨_, _, _, _, _, _, _, _, _, _, _, _, _, _, _, _, _, _, X, Y, Z, W, P, Q, R, S, D, ?_, ?_, ?_, ?_, ?_, ?_, ?_⟩
  · have e1 := norm_left (p := t * c + u * b) (q := b * c) (u := v) (c := d) pbc
    have e2 := norm_right (t := t) (b := b) (p := u * d + v * c) (q := c * d) pcd
    have k1 : (t * c + u * b) * d + v * (b * c) = t * (c * d) + (u * d + v * c) * b := by
      rw [Int.add_mul, Int.add_mul, Int.mul_assoc t c d, Int.mul_right_comm u b d, Int.mul_right_comm v c b, Int.mul_assoc v b c, Int.add_assoc]
    have k2 : b * c * d = b * (c * d) := Int.mul_assoc _ _ _
    rw [e1.1, e1.2, e2.1, e2.2, k1, k2]
    exact ⟨rfl, rfl⟩
  · have e1 := norm_times (t := t) (b := b) (p := u * d + v * c) (q := c * d) pcd
    have e2 := norm_left (p := t * u) (q := b * c) (u := normT (t * v) (b * d)) (c := normB (t * v) (b * d)) pbc
    have e3 := norm_right (t := t * u) (b := b * c) (p := t * v) (q := b * d) pbd
    have k1 : t * u * (b * d) + t * v * (b * c) = b * (t * (u * d + v * c)) := by
      rw [Int.mul_add, Int.mul_add, Int.mul_left_comm (t * u) b d, Int.mul_left_comm (t * v) b c, Int.mul_assoc t u d, Int.mul_assoc t v c]
    have k2 : b * c * (b * d) = b * (b * (c * d)) := by rw [Int.mul_assoc b c, Int.mul_left_comm c b d]
    rw [e1.1, e1.2, e2.1, e2.2, e3.1, e3.2, k1, k2, normT_mul _ _ (by omega), normB_mul _ _ (by omega)]
    exact ⟨rfl, rfl⟩
  · obtain ⟨r1, r2, r3, _, _, _⟩ := red_small (p := 6 * t) (q := 6 * b) (P := 120) (Q := 72) (by omega) (by omega) (by decide) (by decide)
    obtain ⟨k1, k2, k3⟩ := mk_yes (t := 6 * t) (b := 6 * b) (by rw [mkIn, decide_eq_true (by omega), inB_iff.2 (by omega), inB_iff.2 (by omega)]; rfl)
    obtain ⟨n1, n2⟩ := norm_self h1
    rw [k1, k2, k3, r1, r2, r3, normT_mul _ _ (by omega), normB_mul _ _ (by omega), n1, n2]
    exact ⟨rfl, rfl, rfl⟩
  all_goals
    rcases Int.lt_trichotomy (t * c) (u * b) with hc | hc | hc
    · have c1 := cmp_lt two hc
      have c2 := cmp_gt two2 hc
      rw [c1]
      first | omega | (rw [c2]; rfl)
    · have c1 := cmp_eq two (by omega) (by omega)
      have c2 := cmp_eq two2 (by omega) (by omega)
      rw [c1]
      first | omega | (rw [c2]; rfl)
    · have c1 := cmp_gt two hc
      have c2 := cmp_lt two2 hc
      rw [c1]
      first | omega | (rw [c2]; rfl)
end Go.Proofs.Ytbppdjglmgnggaa
