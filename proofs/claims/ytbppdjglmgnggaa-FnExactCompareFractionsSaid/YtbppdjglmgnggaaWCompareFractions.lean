/- The walk of laws.FnExactCompareFractions: it returns true, and nothing that was there has turned. -/
import Derived.Test.YtbppdjglmgnggaaCmp
import Derived.Deep.RegionHeld3
namespace Go.Proofs.Ytbppdjglmgnggaa
open Go.RowKit
set_option linter.unusedVariables false

set_option maxRecDepth 100000 in
set_option maxHeartbeats 1000000 in
theorem walkCompareFractions (t0 b0 t1 b1 : Int) (w : World) (wt0 : -9223372036854775808 ≤ t0 ∧ t0 ≤ 9223372036854775807) (wb0 : -9223372036854775808 ≤ b0 ∧ b0 ≤ 9223372036854775807) (wt1 : -9223372036854775808 ≤ t1 ∧ t1 ≤ 9223372036854775807) (wb1 : -9223372036854775808 ≤ b1 ∧ b1 ≤ 9223372036854775807) :
    Calls Try.prog 4 #[.agg #[.int .i64 t0, .int .i64 b0], .agg #[.int .i64 t1, .int .i64 b1]] w fun e w' => e = .returned (.bool true) ∧ Below w.heap.size w w' := by
  go_enter Try.func4, Try.ntmps4
  go_wp2_with fail
  go_region_held3 (fun w' => w'.cell? ⟨w.heap.size, 0, none⟩ = some (.int .i64 t0) ∧ w'.cell? ⟨w.heap.size, 1, none⟩ = some (.int .i64 b0) ∧ w'.cell? ⟨w.heap.size + 1, 0, none⟩ = some (.int .i64 t1) ∧ w'.cell? ⟨w.heap.size + 1, 1, none⟩ = some (.int .i64 b1))
    (first
      | go_keep
      | (go_split_ands; exact ⟨cellStay (by assumption) (by assumption), cellStay (by assumption) (by assumption), cellStay (by assumption) (by assumption), cellStay (by assumption) (by assumption)⟩))
    ((first
      | (go_at_call 10; refine (toFrac _ _ _).mono ?_; rintro e wa ⟨rfl, ba⟩)
      | (go_at_call 12; refine (specCmp _ _ _ _ _).mono ?_; rintro e wb ⟨rfl, bb⟩)))
  go_wp2_with fail
  obtain ⟨⟨x0, x1⟩, ⟨y0, y1⟩, hs⟩ := twoA (w := w) (w2 := wb) (T := 23) (x0 := .int .i64 t0) (x1 := .int .i64 b0) (y0 := .int .i64 t1) (y1 := .int .i64 b1) (by repeat (first | exact Below.refl _ _ | (refine bDrewN ?_ _) | (refine Below.drew ?_) | (refine bAlloc ?_ _) | (refine Below.setCell ?_ (by first | omega | (simp <;> omega)) _) | (refine bThen ?_ (by assumption))))
  go_region_held3 (fun w' => w'.cell? ⟨w.heap.size, 0, none⟩ = some (.int .i64 t0) ∧ w'.cell? ⟨w.heap.size, 1, none⟩ = some (.int .i64 b0) ∧ w'.cell? ⟨w.heap.size + 1, 0, none⟩ = some (.int .i64 t1) ∧ w'.cell? ⟨w.heap.size + 1, 1, none⟩ = some (.int .i64 b1))
    (first
      | go_keep
      | (go_split_ands; exact ⟨cellStay (by assumption) (by assumption), cellStay (by assumption) (by assumption), cellStay (by assumption) (by assumption), cellStay (by assumption) (by assumption)⟩))
    ((first
      | (go_at_call 10; refine (toFrac _ _ _).mono ?_; rintro e wc ⟨rfl, bc⟩)
      | (go_at_call 13; refine (implCmp _ _ _ _ _).mono ?_; rintro e wd ⟨rfl, bd⟩)))
  go_wp2
  go_ret
  exact ⟨rfl, (by repeat (first | exact Below.refl _ _ | (refine bDrewN ?_ _) | (refine Below.drew ?_) | (refine bAlloc ?_ _) | (refine Below.setCell ?_ (by first | omega | (simp <;> omega)) _) | (refine bThen ?_ (by assumption))))⟩
end Go.Proofs.Ytbppdjglmgnggaa
