/- Contract of spec.DrawFormatInt; the walk of laws.FnNumbers: it returns true, and nothing that was there has turned. -/
import Derived.Test.YthonlkconobdfaaDoorPu
import Derived.Test.YthonlkconobdfaaDoorNum
import Derived.Test.YthonlkconobdfaaDoorBig
namespace Go.Proofs.YthonlkconobdfaaDoor
open Go.RowKit
set_option linter.unusedVariables false

def RetInt (W : World) (e : Ending) (w' : World) : Prop := ∃ n : Int, e = .returned (.int .i64 n) ∧ Below W.heap.size W w' ∧ (-9223372036854775808 ≤ n ∧ n ≤ 9223372036854775807)

theorem mul_bd {x y : Int} (hx : 0 ≤ x ∧ x ≤ 1000000) (hy : -1000000 ≤ y ∧ y ≤ 1000000) : -1000000000000 ≤ x * y ∧ x * y ≤ 1000000000000 := by
  have h1 : (x * y).natAbs ≤ 1000000 * 1000000 := by
    rw [Int.natAbs_mul]
    exact Nat.mul_le_mul (by omega) (by omega)
  omega

theorem fmtDraw {w : World} {a : Option Addr} {len cap : Nat} {zs : List Int} (hr : IsRow .u8 w a len cap zs) : Calls Tryd.prog 24 #[.slice a len cap] w (RetInt w) := by
  go_enter Tryd.func24, Tryd.ntmps24
  go_wp2_with fail
  refine (newDraw hr).mono ?_
  rintro e w1 ⟨c, rfl, hc1, hcw, b1⟩
  go_wp2_with fail
  refine (onceDraw hc1 (by omega) (by omega)).mono ?_
  rintro e w2 ⟨t, rfl, hc2, hg2⟩
  have b2 := grown_below b1 hg2 hcw
  cases t
  · go_wp2_with fail
    refine (numberDraw hc2).mono ?_
    rintro e w3 ⟨x, hx0, hx1, rfl, hc3, hg3⟩
    have b3 := grown_below b2 hg3 hcw
    go_wp2
    go_ret
    exact ⟨_, rfl, b3, hx0, hx1⟩
  · go_wp2_with fail
    refine (belowDraw hc2 (by omega) (by omega)).mono ?_
    rintro e w3 ⟨x, hx0, hx1, rfl, hc3, hg3⟩
    have b3 := grown_below b2 hg3 hcw
    go_wp2_with fail
    refine (belowDraw hc3 (by omega) (by omega)).mono ?_
    rintro e w4 ⟨y, hy0, hy1, rfl, hc4, hg4⟩
    have b4 := grown_below b3 hg4 hcw
    obtain ⟨z, hz⟩ : ∃ z, y - 1000000 = z := ⟨_, rfl⟩
    have e1 : IntKind.i64.wrap (y - 1000000) = z := by rw [hz]; exact IntWalk.i64_in _ (by omega)
    have hm := mul_bd (x := x) (y := z) (by omega) (by omega)
    obtain ⟨p, hp⟩ : ∃ p, x * z = p := ⟨_, rfl⟩
    rw [hp] at hm
    have e2 : IntKind.i64.wrap (x * z) = p := by rw [hp]; exact IntWalk.i64_in _ (by omega)
    go_wp2
    go_ret
    exact ⟨_, rfl, b4, by omega, by omega⟩

theorem atoi_itx (n : Int) : Lib.atoi (itx n).data.toList = some n := by
  by_cases h : 0 ≤ n
  · obtain ⟨u, rfl⟩ : ∃ u : Nat, n = (u : Int) := ⟨n.toNat, by omega⟩
    rw [itx_list]
    exact atoi_decDigits u
  · obtain ⟨u, rfl⟩ : ∃ u : Nat, n = -(u : Int) := ⟨n.natAbs, by omega⟩
    show Lib.atoi (Lib.itoa (-(u : Int))) = some (-(u : Int))
    rw [Lib.itoa_neg u (by omega), Lib.atoi]
    obtain ⟨b, r, hl, _, _⟩ := decDigits_head u
    have hd := dec_decDigits u
    rw [hl] at hd ⊢
    simp [Lib.decNat, hd]
theorem itx_full (n : Int) : (itx n).toList.isEmpty = false := by
  rw [ByteArray.toList_eq]
  have h := atoi_itx n
  cases e : (itx n).data.toList with
  | nil => rw [e] at h; cases h
  | cons b r => rfl
theorem pu_itx (n : Int) : (puV (itx n) = if 0 ≤ n ∧ n ≤ 1000000000 then n else 0) ∧ puB (itx n) = decide (0 ≤ n ∧ n ≤ 1000000000) := by
  by_cases h : 0 ≤ n ∧ n ≤ 1000000000
  · obtain ⟨u, rfl⟩ : ∃ u : Nat, n = (u : Int) := ⟨n.toNat, by omega⟩
    rw [if_pos h, decide_eq_true h]
    exact puO_yes (by omega) rfl
  · rw [if_neg h, decide_eq_false h]
    refine puO_no fun u a _ _ d => ?_
    rw [atoi_itx] at d
    have := Option.some.inj d
    omega

set_option maxRecDepth 100000 in
theorem walkNumbers (a0 : Option Addr) (len0 cap0 : Nat) (z0 : List Int) (w : World) (hr0 : IsRow .u8 w a0 len0 cap0 z0) (ht : Tab w) (hs : Syn w) :
    Calls Tryd.prog 8 #[.slice a0 len0 cap0] w fun e w' => e = .returned (.bool true) ∧ Below w.heap.size w w' := by
  by_cases hbig : 1048576 < len0
  · have hd : decide (1048576 < len0) = true := decide_eq_true hbig
    go_enter Tryd.func8, Tryd.ntmps8
    go_wp2_with fail
    refine lawsBig.mono ?_
    rintro e w' ⟨rfl, rfl⟩
    go_wp2
    go_ret
    exact ⟨rfl, Below.refl _ _⟩
  · have hd : decide (1048576 < len0) = false := decide_eq_false hbig
    go_enter Tryd.func8, Tryd.ntmps8
    go_wp2_with fail
    refine lawsBig.mono ?_
    rintro e w' ⟨rfl, rfl⟩
    go_wp2_with fail
    refine (fmtDraw hr0).mono ?_
    rintro e w1 ⟨n, rfl, b1, hn⟩
    go_wp2_with fail
    refine (implFmt _ _ hn (ht.on b1)).mono ?_
    rintro e w2 ⟨rfl, b2⟩
    have bb2 := bThen b1 b2
    obtain ⟨hV, hB⟩ := pu_itx n
    have hE := itx_full n
    go_wp2_with fail
    refine (implPu _ _ (ht.on bb2) (hs.on bb2)).mono ?_
    rintro e w3 ⟨rfl, b3⟩
    have bb3 := bThen bb2 b3
    rw [hV, hB]
    generalize itx n = t at hE ⊢
    by_cases h0 : 0 ≤ n
    · have d0 : decide (0 ≤ n) = true := decide_eq_true h0
      by_cases h1 : n ≤ 1000000000
      · have d1 : decide (n ≤ 1000000000) = true := decide_eq_true h1
        rw [if_pos ⟨h0, h1⟩, decide_eq_true (show 0 ≤ n ∧ n ≤ 1000000000 from ⟨h0, h1⟩)]
        clear hV hB
        go_wp2
        go_ret
        exact ⟨rfl, bb3⟩
      · have d1 : decide (n ≤ 1000000000) = false := decide_eq_false h1
        rw [if_neg (fun q => h1 q.2), decide_eq_false (show ¬ (0 ≤ n ∧ n ≤ 1000000000) from fun q => h1 q.2)]
        clear hV hB
        go_wp2
        go_ret
        exact ⟨rfl, bb3⟩
    · have d0 : decide (0 ≤ n) = false := decide_eq_false h0
      rw [if_neg (fun q => h0 q.1), decide_eq_false (show ¬ (0 ≤ n ∧ n ≤ 1000000000) from fun q => h0 q.1)]
      clear hV hB
      go_wp2
      go_ret
      exact ⟨rfl, bb3⟩
end Go.Proofs.YthonlkconobdfaaDoor
