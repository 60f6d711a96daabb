/- Contract of spec.FewestMarks. No conditions. -/
import Derived.Test.YtemeechmemhokaaShort
import Derived.Test.YtemeechmemhokaaGolS
namespace Go.Proofs.Ytemeechmemhokaa
open Go.RowKit

theorem i64and1 (n : Int) : bits .and .i64 n 1 = n % 2 := by
  have h1 : (BitVec.ofInt 64 1).toNat = 2 ^ 1 - 1 := by decide
  have key : (BitVec.ofInt 64 n &&& BitVec.ofInt 64 1).toNat = (n % ((2 ^ 64 : Nat) : Int)).toNat % 2 ^ 1 := by
    rw [BitVec.toNat_and, BitVec.toNat_ofInt, h1, Nat.and_two_pow_sub_one_eq_mod]
  show IntKind.i64.wrap ((BitVec.ofInt 64 n &&& BitVec.ofInt 64 1).toNat : Nat) = n % 2
  rw [key, IntKind.wrap_i64]
  omega
theorem bit_at (n j : Nat) : (bits .and .i64 ((n : Int) / 2 ^ j) 1 == 1) = decide ((n >>> j) % 2 = 1) := by
  have e : (n : Int) / 2 ^ j = ((n / 2 ^ j : Nat) : Int) := by rw [Int.natCast_ediv, Int.natCast_pow]; rfl
  rw [e, i64and1, Nat.shiftRight_eq_div_pow, Bool.eq_iff_iff, beq_iff_eq, decide_eq_true_eq]
  omega

def measN (fs : List Nat) : Bool := measB (il fs)
theorem measN_eq : measN = measF := by funext fs; rw [measF_eq]; rfl
theorem mks_length (s : Nat) : ∀ k, (mks s k).length ≤ k + 1
  | 0 => Nat.le_refl _
  | k + 1 => by
    rw [mks]
    split
    · rw [List.length_append]; have := mks_length s k; simp; omega
    · have := mks_length s k; omega
def witF (L : Nat) : Nat := [0, 0, 1, 1, 3, 3, 9, 7, 19, 35, 39, 71, 135, 547].getD L 0
theorem best_le (M : List Nat → Bool) (L : Nat) : ∀ s, bestTo M L s ≤ L + 1
  | 0 => Nat.le_refl _
  | s + 1 => by
    rw [bestTo]
    have := best_le M L s
    split
    · omega
    · exact this

set_option maxRecDepth 100000 in
set_option maxHeartbeats 4000000 in
theorem specFewest0 (m : Nat) (hm : m ≤ 12) (w : World) : Calls Try.prog 19 #[.int .i64 ((m : Int) + 1)] w fun e w' => e = .returned (.int .i64 (bestTo measN (m + 1) (2 ^ m) : Nat)) ∧ Below w.heap.size w w' := by
  have hin : inB ((m : Int) + 1) 1 13 = true := inB_iff.2 (by omega)
  have hq : (!inB ((m : Int) + 1) 1 13) = false := by rw [hin]; rfl
  have hp : 2 ^ m ≤ 4096 := Nat.pow_le_pow_right (by omega) hm
  obtain ⟨N, eN⟩ : ∃ N, N = 2 ^ m := ⟨_, rfl⟩
  rw [← eN] at hp ⊢
  have hsh : IntKind.i64.wrap (2 ^ m) = (N : Int) := by
    rw [show ((2 : Int) ^ m) = ((2 ^ m : Nat) : Int) from by simp, ← eN]
    exact IntWalk.i64_in _ (by omega)
  obtain ⟨bst, eb⟩ : ∃ b : Nat → Nat, b = bestTo measN (m + 1) := ⟨_, rfl⟩
  have hbl : Hid (∀ s, bst s ≤ m + 2) := fun s => by rw [eb]; exact best_le _ _ s
  have hb0 : Hid (bst 0 = m + 2) := by rw [eb]; rfl
  rw [← eb]
  have HEB := Lib.hid eb
  replace eN := Lib.hid eN
  clear hin eb
  go_enter Try.func19, Try.ntmps19
  go_wp2_with (first | (go_at_call 34; refine (specIn _ _ _ _).mono ?_; rintro e w' ⟨rfl, rfl⟩) | fail)
  go_wp2
  go_loopw [3, 4, 5, 6] (fun b s _ _ wr => ∃ n : Nat, s = .int .i64 (n : Int) ∧ n ≤ N ∧ b = .int .i64 (bst n : Nat) ∧ Below w.heap.size w wr) (fun _ s _ _ _ => (N - intOf s).toNat)
  case atStart => exact ⟨0, rfl, by omega, by rw [hb0.out]; go_num, Below.refl _ _⟩
  case round =>
    obtain ⟨wo, rfl⟩ : ∃ wo, wo = wr := ⟨_, rfl⟩
    obtain ⟨n, rfl, hn, rfl, hb⟩ := hrel
    have hbn := hbl.out n
    by_cases hlt : n < N
    · go_wp2
      go_loopw [5, 6] (fun v k wr => ∃ j : Nat, k = .int .i64 ((j : Int) + 1) ∧ j ≤ m ∧ OI wr w.heap.size v (il (mks n j)) ∧ Below w.heap.size w wr) (fun _ k _ => (14 - intOf k).toNat)
      case atStart => exact ⟨0, rfl, by omega, (oi_zero wo).mono hb.size, bAl hb _⟩
      case round =>
        clear hb
        obtain ⟨wi, rfl⟩ : ∃ wi, wi = wr := ⟨_, rfl⟩
        obtain ⟨j, rfl, hj, ho, hbi⟩ := hrel
        have hsz := hbi.size
        have hln := mks_length n j
        by_cases hjm : j < m
        · have hbit := bit_at n j
          by_cases ht : (n >>> j) % 2 = 1
          · have hbt : (bits .and .i64 ((n : Int) / 2 ^ j) 1 == 1) = true := by rw [hbit]; exact decide_eq_true ht
            have hst : mks n (j + 1) = mks n j ++ [j + 1] := by rw [mks, if_pos ht]
            replace hst := Lib.hid hst
            replace ht := Lib.hid ht
            clear hbit
            go_wp2_with (first | (at_builtin; refine app_int rfl (.tmp 31) (.tmp 33) rfl rfl ho rfl hsz (by rw [il_length]; omega) ?_; intro v2 w2 h2v hg2) | fail)
            have hb2 := hbi.grown hg2 hsz (fun i hi => (ho.lt i hi).1)
            clear ho hg2 hbi
            go_wp2
            go_roundw
            case rel => exact ⟨j + 1, by go_num, by omega, by rw [hst.out, il_app, show ((j + 1 : Nat) : Int) = (j : Int) + 1 from by omega]; exact h2v, hb2⟩
            case measure => simp only [intOf]; omega
          · have hbt : (bits .and .i64 ((n : Int) / 2 ^ j) 1 == 1) = false := by rw [hbit]; exact decide_eq_false ht
            have hst : mks n (j + 1) = mks n j := by rw [mks, if_neg ht]
            replace hst := Lib.hid hst
            replace ht := Lib.hid ht
            clear hbit
            go_wp2
            go_roundw
            case rel => exact ⟨j + 1, by go_num, by omega, by rw [hst.out]; exact ho, hbi⟩
            case measure => simp only [intOf]; omega
        · obtain rfl : j = m := by omega
          have hap : il (mkL (j + 1) n) = il (mks n j) ++ [(j : Int) + 1] := by rw [mkL, il_app]; rfl
          obtain ⟨Ln, eL⟩ : ∃ Ln, Ln = (mkL (j + 1) n).length := ⟨_, rfl⟩
          have hil : (il (mkL (j + 1) n)).length = Ln := by rw [il_length, eL]
          have hLn : Ln ≤ 14 := by rw [eL, mkL, List.length_append]; have := mks_length n (j + 1 - 1); simp; omega
          have hstep : bst (n + 1) = if Ln < bst n ∧ measN (mkL (j + 1) n) = true then Ln else bst n := by rw [HEB.out, eL]; rfl
          replace hil := Lib.hid hil
          replace hap := Lib.hid hap
          replace eL := Lib.hid eL
          by_cases hlb : Ln < bst n
          · have hd : decide ((Ln : Int) < (bst n : Int)) = true := decide_eq_true (by omega)
            cases hM : measN (mkL (j + 1) n)
            · have hs2 : bst (n + 1) = bst n := by rw [hstep, hM]; simp
              replace hs2 := Lib.hid hs2
              replace hM := Lib.hid hM
              clear hstep
              go_wp2_with (first | (at_builtin; refine app_int rfl (.tmp 35) (.tmp 37) rfl rfl ho rfl hsz (by rw [il_length]; omega) ?_; intro v2 w2 h2v hg2; rw [← hap.out] at h2v; obtain ⟨ad2, cap2, rfl⟩ := h2v.shapeN hil.out) | (go_at_call 17; refine (specMeasures h2v).mono ?_; rintro e w3 ⟨rfl, b3⟩; rw [show measB (il (mkL (j + 1) n)) = false from hM.out]) | fail)
              have hb2 := bThen (hbi.grown hg2 hsz (fun i hi => (ho.lt i hi).1)) b3
              clear ho hg2 hbi b3
              go_wp2
              go_roundw
              case rel => exact ⟨n + 1, by go_num, by omega, by rw [hs2.out], hb2⟩
              case measure => simp only [intOf]; omega
            · have hs2 : bst (n + 1) = Ln := by rw [hstep, hM]; simp [hlb]
              replace hs2 := Lib.hid hs2
              replace hM := Lib.hid hM
              clear hstep
              go_wp2_with (first | (at_builtin; refine app_int rfl (.tmp 35) (.tmp 37) rfl rfl ho rfl hsz (by rw [il_length]; omega) ?_; intro v2 w2 h2v hg2; rw [← hap.out] at h2v; obtain ⟨ad2, cap2, rfl⟩ := h2v.shapeN hil.out) | (go_at_call 17; refine (specMeasures h2v).mono ?_; rintro e w3 ⟨rfl, b3⟩; rw [show measB (il (mkL (j + 1) n)) = true from hM.out]) | fail)
              have hb2 := bThen (hbi.grown hg2 hsz (fun i hi => (ho.lt i hi).1)) b3
              clear ho hg2 hbi b3
              go_wp2
              go_roundw
              case rel => exact ⟨n + 1, by go_num, by omega, by rw [hs2.out], hb2⟩
              case measure => simp only [intOf]; omega
          · have hd : decide ((Ln : Int) < (bst n : Int)) = false := decide_eq_false (by omega)
            have hs2 : bst (n + 1) = bst n := by rw [hstep, if_neg (fun q => hlb q.1)]
            replace hs2 := Lib.hid hs2
            clear hstep
            go_wp2_with (first | (at_builtin; refine app_int rfl (.tmp 35) (.tmp 37) rfl rfl ho rfl hsz (by rw [il_length]; omega) ?_; intro v2 w2 h2v hg2; rw [← hap.out] at h2v; obtain ⟨ad2, cap2, rfl⟩ := h2v.shapeN hil.out) | fail)
            have hb2 := hbi.grown hg2 hsz (fun i hi => (ho.lt i hi).1)
            clear ho hg2 hbi
            go_wp2
            go_roundw
            case rel => exact ⟨n + 1, by go_num, by omega, by rw [hs2.out], hb2⟩
            case measure => simp only [intOf]; omega
    · obtain rfl : n = N := by omega
      go_wp2
      go_ret
      exact ⟨rfl, hb⟩

theorem best_ge {L : Nat} {n : Nat} (hL : fewT L ≤ L + 1) (h : ∀ s, s < n → fewT L ≤ (mkL L s).length ∨ measF (mkL L s) = false) : fewT L ≤ bestTo measF L n := by
  induction n with
  | zero => exact hL
  | succ n ih =>
    have h1 := ih (fun s hs => h s (by omega))
    rw [bestTo]
    split
    · rename_i q
      rcases h n (by omega) with a | a
      · exact a
      · rw [q.2] at a; cases a
    · exact h1
theorem best_anti (M : List Nat → Bool) (L : Nat) {a b : Nat} (h : a ≤ b) : bestTo M L b ≤ bestTo M L a := by
  induction b with
  | zero => rw [show a = 0 from by omega]; exact Nat.le_refl _
  | succ b ih =>
    by_cases e : a = b + 1
    · rw [e]; exact Nat.le_refl _
    · have := ih (by omega)
      rw [bestTo]
      split
      · omega
      · exact this
theorem best_at {M : List Nat → Bool} {L s : Nat} (hm : M (mkL L s) = true) : bestTo M L (s + 1) ≤ (mkL L s).length := by
  rw [bestTo]
  split
  · exact Nat.le_refl _
  · rename_i q
    have : ¬ (mkL L s).length < bestTo M L s := fun h => q ⟨h, hm⟩
    omega
def chkW (L : Nat) : Bool := measF (mkL L (witF L)) && (Nat.beq (mkL L (witF L)).length (fewT L) && Nat.blt (witF L) (2 ^ (L - 1)))
theorem wit_ok : allTo (fun k => chkW (k + 1)) 13 = true := by decide +kernel
theorem best_few {m : Nat} (hm : m ≤ 12) : bestTo measF (m + 1) (2 ^ m) = fewT (m + 1) := by
  have hw := allTo_iff.1 wit_ok m (by omega)
  have hs := allTo_iff.1 fs_ok m (by omega)
  rw [chkW, Bool.and_eq_true, Bool.and_eq_true, Nat.beq_eq, Nat.blt_eq, Nat.add_sub_cancel] at hw
  rw [chkFS, allTo_iff, Nat.add_sub_cancel] at hs
  obtain ⟨h1, h2, h3⟩ := hw
  have hb : fewT (m + 1) ≤ m + 1 + 1 := by
    have : ∀ m, m < 13 → fewT (m + 1) ≤ m + 1 + 1 := by decide
    exact this m (by omega)
  have a1 := best_ge (n := 2 ^ m) hb (fun s hs2 => by
    have := hs s hs2
    rw [Bool.or_eq_true, Nat.ble_eq, Bool.not_eq_true'] at this
    exact this)
  have a2 := best_anti measF (m + 1) (show witF (m + 1) + 1 ≤ 2 ^ m from h3)
  have a3 := best_at h1
  omega

theorem specFewest (L : Int) (w : World) : Calls Try.prog 19 #[.int .i64 L] w fun e w' => e = .returned (.int .i64 (fewI L)) ∧ Below w.heap.size w w' := by
  cases hin : inB L 1 13
  · have hq : (!inB L 1 13) = true := by rw [hin]; rfl
    have HI := Lib.hid hin
    clear hin
    go_enter Try.func19, Try.ntmps19
    go_wp2_with (first | (go_at_call 34; refine (specIn _ _ _ _).mono ?_; rintro e w' ⟨rfl, rfl⟩) | fail)
    go_wp2
    go_ret
    exact ⟨ret_int (by rw [fewI, HI.out]; rfl), Below.refl _ _⟩
  · have hb := inB_iff.1 hin
    obtain ⟨m, rfl⟩ : ∃ m : Nat, L = (m : Int) + 1 := ⟨(L - 1).toNat, by omega⟩
    refine (specFewest0 m (by omega) w).mono fun e w' h => ?_
    rw [measN_eq, best_few (by omega)] at h
    rw [fewI, if_pos hin, show ((m : Int) + 1).toNat = m + 1 from by omega]
    exact h
end Go.Proofs.Ytemeechmemhokaa
