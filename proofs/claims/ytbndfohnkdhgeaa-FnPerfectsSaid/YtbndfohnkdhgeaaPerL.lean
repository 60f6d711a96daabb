/- Contracts of PerfectLists, in the program and in the reference. No conditions. -/
import Derived.Test.YtbndfohnkdhgeaaPerS
import Derived.Test.YtbndfohnkdhgeaaPlA
import Derived.Test.YtbndfohnkdhgeaaPlB
import Derived.Test.YtbndfohnkdhgeaaPlC
namespace Go.Proofs.Ytbndfohnkdhgeaa
open Go.RowKit

theorem per_all {k : Nat} (h : k < 25) : perI 25 [] k = perS 25 k [] 0 := by
  by_cases h1 : k < 20
  · exact per_a k h1
  · rcases (show k = 20 ∨ k = 21 ∨ k = 22 ∨ k = 23 ∨ k = 24 by omega) with rfl | rfl | rfl | rfl | rfl
    · exact per_b.1
    · exact per_b.2.1
    · exact per_b.2.2
    · exact per_c.1
    · exact per_c.2
def perL (n : Int) : List (List Int) := if inB n 1 24 = true then perS 25 n.toNat [] 0 else []
theorem per_small : ∀ k, k < 25 → (perS 25 k [] 0).length ≤ 1000 ∧ cntS (perS 25 k [] 0) (perS 25 k [] 0).length ≤ 1000000 := by decide +kernel
theorem perL_cnt (n : Int) : cntS (perL n) (perL n).length ≤ 1000000 := by
  cases h : inB n 1 24
  · rw [perL, h]; exact Nat.zero_le _
  · rw [perL, if_pos h]
    have := inB_iff.1 h
    exact (per_small n.toNat (by omega)).2
def RetPS (W : World) (xss : List (List Int)) (e : Ending) (w' : World) : Prop := ∃ v', e = .returned v' ∧ OSS w' W.heap.size w'.heap.size v' xss ∧ Below W.heap.size W w'

theorem implPerL (n : Int) (w : World) : Calls Try.prog 40 #[.int .i64 n] w (RetPS w (perL n)) := by
  cases h : inB n 1 24
  · go_enter Try.func40, Try.ntmps40
    go_wp2_with (go_at_call 47; refine (implIn _ _ _ _).mono ?_; rintro e w' ⟨rfl, rfl⟩)
    go_ret
    exact ⟨_, rfl, by rw [perL, h]; exact ⟨[], OSV.nil _ _ _⟩, Below.refl _ _⟩
  · have hb := inB_iff.1 h
    obtain ⟨k, rfl⟩ : ∃ k : Nat, n = (k : Int) := ⟨n.toNat, by omega⟩
    have hL : perL (k : Int) = perI 25 [] k := by rw [per_all (by omega), perL, if_pos h]; rfl
    have hc := (per_small k (by omega)).1
    rw [← per_all (by omega)] at hc
    rw [hL]
    replace hL := Lib.hid hL
    have H := Lib.hid (implPer 25 k w w.heap.size w.heap.size (.slice none 0 0) (.slice none 0 0) [] [] (by omega) ⟨by simp; omega, fun x hx => by cases hx⟩ ⟨[], OSV.nil _ _ _⟩ (OI.nil _ _) (Nat.le_refl _) (Nat.le_refl _) (by simp; omega))
    go_enter Try.func40, Try.ntmps40
    go_wp2_with fail
    refine (implIn _ _ _ _).mono ?_
    rintro e w' ⟨rfl, rfl⟩
    go_wp2_with fail
    refine H.out.mono ?_
    rintro e w1 ⟨v', rfl, ho, hg, _⟩
    go_wp2
    go_ret
    exact ⟨_, rfl, ho, (Below.refl _ _).grown hg (Nat.le_refl _) (fun j hj => by cases hj)⟩

theorem specPerL (n : Int) (w : World) : Calls Try.prog 39 #[.int .i64 n] w (RetPS w (perL n)) := by
  cases h : inB n 1 24
  · go_enter Try.func39, Try.ntmps39
    go_wp2_with (go_at_call 46; refine (specIn _ _ _ _).mono ?_; rintro e w' ⟨rfl, rfl⟩)
    go_ret
    exact ⟨_, rfl, by rw [perL, h]; exact oss_empty w w.heap.size (Nat.le_refl _), bAl (Below.refl _ _) _⟩
  · have hb := inB_iff.1 h
    have hL : perL n = perS 25 n.toNat [] 0 := by rw [perL, if_pos h]
    have hc := (per_small n.toNat (by omega)).1
    rw [hL]
    replace hL := Lib.hid hL
    have H := Lib.hid (specPer 25 n.toNat 0 n 0 (w.alloc (.cells #[] 3)) w.heap.size (.slice (some ⟨w.heap.size, 0, none⟩) 0 0) [] (by omega) rfl (by omega) (by omega) (by omega) ⟨by simp, fun x hx => by cases hx⟩ (oi_empty w _ (Nat.le_refl _)) ⟨_, _, _, rfl⟩ (by omega))
    go_enter Try.func39, Try.ntmps39
    go_wp2_with fail
    refine (specIn _ _ _ _).mono ?_
    rintro e w' ⟨rfl, rfl⟩
    go_wp2_with fail
    refine H.out.mono ?_
    rintro e w1 ⟨v', rfl, ho, hb1, _⟩
    go_wp2
    go_ret
    refine ⟨_, rfl, ?_, bThen (bAl (Below.refl _ _) _) hb1⟩
    obtain ⟨vs, ho⟩ := ho
    exact ⟨vs, ho.base (by simp)⟩
end Go.Proofs.Ytbndfohnkdhgeaa
