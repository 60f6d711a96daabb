/- Contracts of OrderedFactors, in the program and in the reference. No conditions. -/
import Derived.Test.YtbndfohnkdhgeaaFacsS
namespace Go.Proofs.Ytbndfohnkdhgeaa
open Go.RowKit

def ordL (n : Int) : List (List Int) := if inB n 2 100 = true then fcts 100 [] n.toNat else []
theorem facs_small : ∀ k, k < 101 → (fcts 100 [] k).length ≤ 1000 ∧ cntS (fcts 100 [] k) (fcts 100 [] k).length ≤ 1000000 := by decide +kernel
theorem ordL_cnt (n : Int) : cntS (ordL n) (ordL n).length ≤ 1000000 := by
  cases h : inB n 2 100
  · rw [ordL, h]; exact Nat.zero_le _
  · rw [ordL, if_pos h]
    have := inB_iff.1 h
    exact (facs_small n.toNat (by omega)).2
def RetOS (W : World) (xss : List (List Int)) (e : Ending) (w' : World) : Prop := ∃ v', e = .returned v' ∧ OSS w' W.heap.size w'.heap.size v' xss ∧ Below W.heap.size W w'

theorem implOrd (n : Int) (w : World) : Calls Try.prog 45 #[.int .i64 n] w (RetOS w (ordL n)) := by
  cases h : inB n 2 100
  · go_enter Try.func45, Try.ntmps45
    go_wp2_with (go_at_call 47; refine (implIn _ _ _ _).mono ?_; rintro e w' ⟨rfl, rfl⟩)
    go_ret
    exact ⟨_, rfl, by rw [ordL, h]; exact ⟨[], OSV.nil _ _ _⟩, Below.refl _ _⟩
  · have hb := inB_iff.1 h
    obtain ⟨k, rfl⟩ : ∃ k : Nat, n = (k : Int) := ⟨n.toNat, by omega⟩
    have hL : ordL (k : Int) = fcts 100 [] k := by rw [ordL, if_pos h]; rfl
    have hc := (facs_small k (by omega)).1
    rw [hL]
    replace hL := Lib.hid hL
    have H := Lib.hid (implFacs 100 k w w.heap.size w.heap.size (.slice none 0 0) (.slice none 0 0) [] [] (by omega) (by omega) (by omega) ⟨[], OSV.nil _ _ _⟩ (OI.nil _ _) (Nat.le_refl _) (Nat.le_refl _) (by simp; omega) (by simp; omega))
    go_enter Try.func45, Try.ntmps45
    go_wp2_with fail
    refine (implIn _ _ _ _).mono ?_
    rintro e w' ⟨rfl, rfl⟩
    go_wp2_with fail
    refine H.out.mono ?_
    rintro e w1 ⟨v', rfl, ho, hg, _⟩
    go_wp2
    go_ret
    exact ⟨_, rfl, ho, (Below.refl _ _).grown hg (Nat.le_refl _) (fun j hj => by cases hj)⟩

theorem specOrd (n : Int) (w : World) : Calls Try.prog 44 #[.int .i64 n] w (RetOS w (ordL n)) := by
  cases h : inB n 2 100
  · go_enter Try.func44, Try.ntmps44
    go_wp2_with (go_at_call 46; refine (specIn _ _ _ _).mono ?_; rintro e w' ⟨rfl, rfl⟩)
    go_ret
    exact ⟨_, rfl, by rw [ordL, h]; exact oss_empty w w.heap.size (Nat.le_refl _), bAl (Below.refl _ _) _⟩
  · have hb := inB_iff.1 h
    obtain ⟨k, rfl⟩ : ∃ k : Nat, n = (k : Int) := ⟨n.toNat, by omega⟩
    have hL : ordL (k : Int) = fcts 100 [] k := by rw [ordL, if_pos h]; rfl
    have hc := (facs_small k (by omega)).1
    rw [hL]
    replace hL := Lib.hid hL
    have H := Lib.hid (specFacs 100 k (w.alloc (.cells #[] 3)) w.heap.size (.slice (some ⟨w.heap.size, 0, none⟩) 0 0) [] (by omega) (by omega) (by omega) (oi_empty w _ (Nat.le_refl _)) ⟨_, _, _, rfl⟩ (by simp; omega) (by omega))
    go_enter Try.func44, Try.ntmps44
    go_wp2_with fail
    refine (specIn _ _ _ _).mono ?_
    rintro e w' ⟨rfl, rfl⟩
    go_wp2_with fail
    refine H.out.mono ?_
    rintro e w1 ⟨v', rfl, ho, hb1, _⟩
    go_wp2
    go_ret
    refine ⟨_, rfl, ?_, bThen (bAl (Below.refl _ _) _) hb1⟩
    obtain ⟨vs, ho⟩ := ho
    exact ⟨vs, ho.base (by simp)⟩
end Go.Proofs.Ytbndfohnkdhgeaa
