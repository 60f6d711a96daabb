/- Contracts of the reference's draws l01PickInt and l01Number, and of DrawClamp. -/
import Derived.Test.YthonlkconobdfaaDoorDraw
import Derived.Test.YthonlkconobdfaaDoorInts
namespace Go.Proofs.YthonlkconobdfaaDoor
open Go.RowKit

theorem pickDraw {w : World} {c base : Nat} {v : Value} {xs : List Int} {lo hi : Int} (hc : Cur w c) (hv : OI w base v xs) (hb : c < base) (hn : 1 ≤ xs.length) (hm : xs.length ≤ 1000) (hx : ∀ x ∈ xs, lo ≤ x ∧ x ≤ hi) :
    Calls Tryd.prog 46 #[.pointer (some ⟨c, 0, none⟩), v] w (RetDraw w c lo hi) := by
  obtain ⟨ad, cap, rfl, hmx⟩ := hv.shape
  obtain ⟨n, hn2⟩ : ∃ n, n = xs.length := ⟨_, rfl⟩
  rw [← hn2] at hn hm
  have HN := Lib.hid hn2
  clear hn2 hmx
  go_enter Tryd.func46, Tryd.ntmps46
  rw [← HN.out]
  go_wp2_with fail
  refine (belowDraw hc (by omega) (by omega)).mono ?_
  rintro e w1 ⟨x, hx0, hx1, rfl, hc1, hg1⟩
  obtain ⟨k, rfl⟩ : ∃ k : Nat, x = (k : Int) := ⟨x.toNat, by omega⟩
  have hk : k < n := by omega
  obtain ⟨y, HY, iy, cy⟩ := (hv.keptCur hg1 hb).at (by rw [← HN.out]; exact hk)
  rw [← HN.out] at iy
  go_wp2
  go_ret
  have hmem := hx y (by rw [HY.out, List.getD, List.getElem?_eq_getElem (by rw [← HN.out]; exact hk)]; exact List.getElem_mem _)
  exact ⟨_, hmem.1, hmem.2, rfl, hc1, hg1⟩

theorem Cur.alloc {w : World} {c : Nat} (h : Cur w c) (o : Obj) : Cur (w.alloc o) c := h.kept (World.grownBy_alloc w o none) (fun k hk => by cases hk)

theorem oi_lit (w : World) (xs : List Int) (n : Nat) (hn : xs.length = n) (hm : n ≤ maxLen) : OI (w.alloc (.cells (xs.map (Value.int .i64)).toArray 3)) w.heap.size (.slice (some ⟨w.heap.size, 0, none⟩) n n) xs := by
  subst hn
  have h := World.ownsRow_lit (e := 3) (size := 1) w (xs.map (Value.int .i64)).toArray xs.length (Nat.le_refl _) hm (by simp)
  simpa [OI] using h

theorem numberDraw {w : World} {c : Nat} (hc : Cur w c) : Calls Tryd.prog 37 #[.pointer (some ⟨c, 0, none⟩)] w (RetDraw w c (-9223372036854775808) 9223372036854775807) := by
  go_enter Tryd.func37, Tryd.ntmps37
  go_wp2_with fail
  refine (belowDraw hc (by omega) (by omega)).mono ?_
  rintro e w1 ⟨x, hx0, hx1, rfl, hc1, hg1⟩
  by_cases h0 : x = 0
  · subst h0
    go_wp2_with fail
    refine (pickDraw (lo := -9223372036854775808) (hi := 9223372036854775807) (xs := [-1, 0, 127, 128, 16383, 16384, 1000000000, 1000000001, 9223372036854775807, -9223372036854775808]) (base := w1.heap.size) (hc1.alloc _) (oi_lit w1 _ 10 rfl (by decide)) hc1.lt (by decide) (by decide) (by decide)).mono ?_
    rintro e w2 ⟨y, hy0, hy1, rfl, hc2, hg2⟩
    go_wp2
    go_ret
    exact ⟨_, hy0, hy1, rfl, hc2, hg1.trans ((World.grownBy_alloc w1 _ _).trans hg2)⟩
  · by_cases h1 : x = 1
    · subst h1
      go_wp2_with fail
      refine (belowDraw hc1 (by omega) (by omega)).mono ?_
      rintro e w2 ⟨y, hy0, hy1, rfl, hc2, hg2⟩
      go_wp2
      go_ret
      exact ⟨_, by omega, by omega, rfl, hc2, hg1.trans hg2⟩
    · go_wp2_with fail
      refine (belowDraw hc1 (by omega) (by omega)).mono ?_
      rintro e w2 ⟨y, hy0, hy1, rfl, hc2, hg2⟩
      go_wp2
      go_ret
      exact ⟨_, by omega, by omega, rfl, hc2, hg1.trans hg2⟩

end Go.Proofs.YthonlkconobdfaaDoor
