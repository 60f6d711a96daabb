/- Contracts of OnePan, TwoPans, WaysOf, in the program and in the reference. No conditions but the number's range. -/
import Derived.Test.YtbndfohnkdhgeaaSet
import Derived.Test.YtbndfohnkdhgeaaSums
namespace Go.Proofs.Ytbndfohnkdhgeaa
open Go.RowKit Go.Maps

theorem MapAt.look {w : World} {b n : Nat} {f : Int → Int} {B : Int} (h : MapAt w b n f B) {k : Int} (hw : (Lit.int .i64 k).wf = true) :
    (Instr.lookup 40 (.map (some b)) (.int .i64 k) false).run Try.prog w = .ok (.int .i64 (f k)) w := by
  obtain ⟨D, hown, hR⟩ := h
  obtain ⟨c, hrun, hat, _⟩ := hown.lookup_int lawInt Try.underlying40 Try.underlying3 (zeroInt w) (keyInt hw)
  rw [hR.val] at hat
  rw [datInj hat]
  exact hrun
theorem MapAt.stay {w w' : World} {b n : Nat} {f : Int → Int} {B : Int} (h : MapAt w b n f B) (hb : Below w.heap.size w w') : MapAt w' b n f B := by
  obtain ⟨D, hown, hR⟩ := h
  obtain ⟨es, clock, h1, h2⟩ := hown
  have hlt := (Array.getElem?_eq_some_iff.1 h1).1
  exact ⟨D, ⟨es, clock, (hb.block b hlt).trans h1, h2⟩, hR⟩

structure SetFacts (xs : List Int) : Prop where
  len : xs.length ≤ 8
  pos : 1 ≤ xs.length
  each : ∀ x ∈ xs, 1 ≤ x ∧ x ≤ 1000
theorem setFacts {xs : List Int} (h : setB xs = true) : SetFacts xs := by
  rw [setB, Bool.and_eq_true] at h
  have hl := inB_iff.1 h.2
  refine ⟨by omega, by omega, fun x hx => ?_⟩
  obtain ⟨k, hk, rfl⟩ := List.getElem_of_mem hx
  have := okTo_iff.1 h.1 k hk
  rw [setP, Bool.and_eq_true] at this
  have h2 := inB_iff.1 this.1
  rw [List.getD, List.getElem?_eq_getElem hk] at h2
  exact h2

theorem onePanM {w : World} {base : Nat} {v : Value} {xs : List Int} (h : OI w base v xs) (F : SetFacts xs) : Calls Try.prog 49 #[v] w (RetMap w (wF false xs xs.length) (1000 * xs.length) (p3 xs.length)) := by
  have hq : OI (w.alloc (.cells #[.int .i64 0, .int .i64 1] 3)) w.heap.size (.slice (some ⟨w.heap.size, 0, none⟩) 2 2) (facs false) := oi_row w [0, 1] 2 rfl (by decide)
  have h1 : OI (w.alloc (.cells #[.int .i64 0, .int .i64 1] 3)) base v xs := h.stay (bAl (Below.refl _ _) _)
  have H := implWays h1 hq F.len F.each (facs_len false) (facs_unit false)
  have HQ := Lib.hid H
  clear H
  go_enter Try.func49, Try.ntmps49
  go_wp2_with fail
  refine HQ.out.mono ?_
  rintro e w' ⟨b, rfl, hb, hm, bb⟩
  go_wp2
  go_ret
  exact ⟨b, rfl, by simp at hb; omega, hm, bThen (bAl (Below.refl _ _) _) bb⟩
theorem twoPansM {w : World} {base : Nat} {v : Value} {xs : List Int} (h : OI w base v xs) (F : SetFacts xs) : Calls Try.prog 50 #[v] w (RetMap w (wF true xs xs.length) (1000 * xs.length) (p3 xs.length)) := by
  have hq : OI (w.alloc (.cells #[.int .i64 (-1), .int .i64 0, .int .i64 1] 3)) w.heap.size (.slice (some ⟨w.heap.size, 0, none⟩) 3 3) (facs true) := oi_row w [-1, 0, 1] 3 rfl (by decide)
  have h1 : OI (w.alloc (.cells #[.int .i64 (-1), .int .i64 0, .int .i64 1] 3)) base v xs := h.stay (bAl (Below.refl _ _) _)
  have H := implWays h1 hq F.len F.each (facs_len true) (facs_unit true)
  have HQ := Lib.hid H
  clear H
  go_enter Try.func50, Try.ntmps50
  go_wp2_with fail
  refine HQ.out.mono ?_
  rintro e w' ⟨b, rfl, hb, hm, bb⟩
  go_wp2
  go_ret
  exact ⟨b, rfl, by simp at hb; omega, hm, bThen (bAl (Below.refl _ _) _) bb⟩

/-- The reference's ways to one number. -/
theorem specWays {w : World} {base : Nat} {v : Value} {xs : List Int} (h : OI w base v xs) (F : SetFacts xs) (two : Bool) (n : Int) :
    Calls Try.prog 48 #[v, .bool two, .int .i64 n] w fun e w' => e = .returned (.int .i64 (wF two xs xs.length n)) ∧ Below w.heap.size w w' := by
  obtain ⟨T, hT⟩ : ∃ T : Nat, (T : Int) = preS xs xs.length := ⟨(preS xs xs.length).toNat, by have := preS_nonneg F.each xs.length (Nat.le_refl _); omega⟩
  have hTb : T ≤ 8000 := by have := (preS_nonneg F.each xs.length (Nat.le_refl _)).2; have := F.len; omega
  have hsup := wF_sup F.each two xs.length (Nat.le_refl _) n
  rw [← hT] at hsup
  have H := Lib.hid (specSums h two F.len F.each hT)
  clear hT
  go_enter Try.func48, Try.ntmps48
  go_wp2_with fail
  refine H.out.mono ?_
  rintro e w1 ⟨v1, rfl, h1, b1⟩
  obtain ⟨ad, cap, rfl⟩ := h1.shapeN (tab_length _ _)
  have e0 : (2 * (T : Int) + 1) / 2 = T := by omega
  have e2 : IntKind.i64.wrap (-(T : Int)) = -T := IntWalk.i64_in _ (by omega)
  clear H
  cases hr : inB n (-T) T
  · have hr2 := inB_not.1 hr
    have HR := Lib.hid (hsup hr2)
    clear hsup hr2
    go_wp2_with (go_at_call 46; refine (specIn _ _ _ _).mono ?_; rintro e w' ⟨rfl, rfl⟩)
    go_ret
    exact ⟨ret_int HR.out.symm, b1⟩
  · have hr2 := inB_iff.1 hr
    obtain ⟨m, hm⟩ : ∃ m : Nat, (m : Int) = T + n := ⟨((T : Int) + n).toNat, by omega⟩
    have e3 : IntKind.i64.wrap ((T : Int) + n) = m := by rw [← hm]; exact IntWalk.i64_in _ (by omega)
    obtain ⟨x, HX, ix, cx, _⟩ := h1.atN (k := m) (tab_length _ _) (by omega)
    have hx : x = wF two xs xs.length n := by
      rw [HX.out, tab_getD (by omega), sft, hm]
      congr 1
      omega
    replace hx := Lib.hid hx
    replace hm := Lib.hid hm
    clear hsup hr2
    go_wp2_with (go_at_call 46; refine (specIn _ _ _ _).mono ?_; rintro e w' ⟨rfl, rfl⟩)
    go_ret
    exact ⟨ret_int hx.out, b1⟩
end Go.Proofs.Ytbndfohnkdhgeaa
