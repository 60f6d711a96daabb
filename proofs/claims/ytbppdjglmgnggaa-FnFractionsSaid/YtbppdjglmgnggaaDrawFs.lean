/- Contract of DrawFractions. -/
import Derived.Test.YtbppdjglmgnggaaDrawF0
import Derived.Deep.RegionHeld3
namespace Go.Proofs.Ytbppdjglmgnggaa
open Go.RowKit

set_option maxRecDepth 100000 in
set_option maxHeartbeats 2000000 in
theorem fracsDraw {w : World} {a : Option Addr} {len cap : Nat} {zs : List Int} (hr : IsRow .u8 w a len cap zs) : Calls Try.prog 22 #[.slice a len cap] w (RetFs w) := by
  have hal : ∀ o1 o2 o3 : Obj, IsRow .u8 (((w.alloc o1).alloc o2).alloc o3) a len cap zs := fun o1 o2 o3 => hr.below (bAlloc (bAlloc (bAlloc (Below.refl _ _) _) _) _)
  go_enter Try.func22, Try.ntmps22
  go_wp2_with fail
  refine (newDraw (hal _ _ _)).mono ?_
  rintro e w1 ⟨c, rfl, hc1, hcw, b1⟩
  have hcw : w.heap.size + 3 ≤ c := by simp at hcw; omega
  have hA : w1.heap[w.heap.size]? = some (.cells #[.int .i64 0, .int .i64 0] 25 (0, 0)) := (b1.block _ (by simp <;> omega)).trans (heap_old_at (heap_old_at (heap_new_at rfl)))
  have hB : w1.heap[w.heap.size + 1]? = some (.cells #[.int .i64 0, .int .i64 0] 25 (0, 0)) := (b1.block _ (by simp <;> omega)).trans (heap_old_at (heap_new_at (by simp)))
  have hC : w1.heap[w.heap.size + 1 + 1]? = some (.cells #[.int .i64 0, .int .i64 0] 25 (0, 0)) := (b1.block _ (by simp <;> omega)).trans (heap_new_at (by simp))
  have bb1 : Below w.heap.size w w1 := bThen (bAlloc (bAlloc (bAlloc (Below.refl _ _) _) _) _) b1
  clear b1 hal
  go_wp2_with fail
  refine (fracDraw hc1).mono ?_
  rintro e w2 ⟨t, b, hs1, rfl, hc2, hg2⟩
  have bb2 := grown_below bb1 hg2 (by omega)
  have hA := heapG hg2 hA (by omega)
  have hB := heapG hg2 hB (by omega)
  have hC := heapG hg2 hC (by omega)
  have hl2 := hc2.lt
  go_wp2_with fail
  refine (fracDraw (hc2.allocF _)).mono ?_
  rintro e w3 ⟨u, d, hs2, rfl, hc3, hg3⟩
  have bb3 := grown_below (bAlloc bb2 _) hg3 (by omega)
  have hA := heapG hg3 (heap_old_at hA) (by omega)
  have hB := heapG hg3 (heap_old_at hB) (by omega)
  have hC := heapG hg3 (heap_old_at hC) (by omega)
  have hD := heapG hg3 (heap_new_at (W := w2) rfl) (by omega)
  have hl3 := hc3.lt
  have hA := heap_old_at (o := .cells #[.int .i64 u, .int .i64 d] 25) hA
  have hB := heap_old_at (o := .cells #[.int .i64 u, .int .i64 d] 25) hB
  have hC := heap_old_at (o := .cells #[.int .i64 u, .int .i64 d] 25) hC
  have hD := heap_old_at (o := .cells #[.int .i64 u, .int .i64 d] 25) hD
  have hE : (w3.alloc (.cells #[.int .i64 u, .int .i64 d] 25)).heap[w3.heap.size]? = some (.cells #[.int .i64 u, .int .i64 d] 25 (0, 0)) := heap_new_at rfl
  have hc3 := hc3.allocF (.cells #[.int .i64 u, .int .i64 d] 25)
  have bb3 := bAlloc bb3 (.cells #[.int .i64 u, .int .i64 d] 25)
  obtain ⟨d0, d1, _, _, _⟩ := pairH hD
  obtain ⟨e0, e1, _, _, _⟩ := pairH hE
  have l23 : w2.heap.size < w3.heap.size := by have := hg3.size; simp at this; omega
  have z2 : w3.heap.size ≠ c := by omega
  have z1 : w2.heap.size ≠ c := by omega
  go_wp2_with fail
  go_region_held3 (fun w' => w'.cell? ⟨w2.heap.size, 0, none⟩ = some (.int .i64 t) ∧ w'.cell? ⟨w2.heap.size, 1, none⟩ = some (.int .i64 b) ∧ w'.cell? ⟨w3.heap.size, 0, none⟩ = some (.int .i64 u) ∧ w'.cell? ⟨w3.heap.size, 1, none⟩ = some (.int .i64 d))
    (first
      | (with_reducible exact ⟨d0, d1, e0, e1⟩)
      | (go_split_ands; exact ⟨cellSetN (by with_reducible assumption) (by dsimp only; omega), cellSetN (by with_reducible assumption) (by dsimp only; omega), cellSetN (by with_reducible assumption) (by dsimp only; omega), cellSetN (by with_reducible assumption) (by dsimp only; omega)⟩)
      | go_keep)
    ((first
      | (go_at_call 29; refine (fracDraw (hc3.drewN 1)).mono ?_; rintro e w4 ⟨v, f, hs3, rfl, hc4, hg4⟩; have hA := heapG hg4 hA (by omega); have hB := heapG hg4 hB (by omega); have hC := heapG hg4 hC (by omega); obtain ⟨pa, pb, fa, fb, _⟩ := pairH hA; obtain ⟨qa, qb, ga, gb, _⟩ := pairH hB; obtain ⟨ra, rb, ha, hb, _⟩ := pairH hC; obtain ⟨d0, d1, _, _, _⟩ := pairH (heapG hg4 hD z1); obtain ⟨e0, e1, _, _, _⟩ := pairH (heapG hg4 hE z2))
      | fail))
  all_goals
    have PA : Has w4 w.heap.size := ⟨_, _, pa, pb⟩
    have PB : Has w4 (w.heap.size + 1) := ⟨_, _, qa, qb⟩
    have PC : Has w4 (w.heap.size + 1 + 1) := ⟨_, _, ra, rb⟩
    have bb4 := grown_below (bDrewN bb3 1) hg4 (by omega)
    clear pa pb qa qb ra rb fa fb ga gb ha hb
    go_wp2
    refine bodyPost_ret (resFs (x0 := t) (y0 := b) (x1 := u) (y1 := d) (x2 := v) (y2 := f) rfl rfl rfl ?_ ?_ ?_) rfl ⟨t, b, u, d, v, f, hs1, hs2, hs3, rfl, ?_⟩
  · exact Two.keep (Two.keep (Two.set PA) (by omega)) (by omega)
  · exact Two.keep (Two.set (Has.keep PB (by omega))) (by omega)
  · exact Two.set (Has.keep (Has.keep PC (by omega)) (by omega))
  · exact (((((bb4.setCell (by dsimp only; omega) _).setCell (by dsimp only; omega) _).setCell (by dsimp only; omega) _).setCell (by dsimp only; omega) _).setCell (by dsimp only; omega) _).setCell (by dsimp only; omega) _
end Go.Proofs.Ytbppdjglmgnggaa
