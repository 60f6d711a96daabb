/- The walk of laws.FnExactTimesFractions: it returns true, and nothing that was there has turned. (Printed by fracexact.py.) -/
import Derived.Test.YtbppdjglmgnggaaAddS
import Derived.Test.YtbppdjglmgnggaaTimesS
import Derived.Test.YtbppdjglmgnggaaCmp
import Derived.Deep.RegionHeld3
import Derived.Deep.CutRange
namespace Go.Proofs.Ytbppdjglmgnggaa
open Go.RowKit
set_option linter.unusedVariables false
set_option linter.unusedSimpArgs false

/-- A result that a statement of the law keeps: it lies in a block of its own. -/
def keptTimes (wr : World) (T B : Int) (ok : Bool) (p q : Value) : Prop :=
  ∃ g, p = .pointer (some ⟨g, 0, none⟩) ∧ q = .bool ok ∧ wr.cell? ⟨g, 0, none⟩ = some (.int .i64 T) ∧ wr.cell? ⟨g, 1, none⟩ = some (.int .i64 B)

theorem keptTimesNew (wb : World) (T B : Int) (ok : Bool) (Y : TypeId) : keptTimes (wb.alloc (.cells #[.int .i64 T, .int .i64 B] Y)) T B ok (.pointer (some ⟨wb.heap.size, 0, none⟩)) (.bool ok) :=
  ⟨_, rfl, rfl, by simp [World.cell?_alloc_at], by simp [World.cell?_alloc_at]⟩

theorem keptTimesSet {wb : World} {g : Nat} {a b : Value} (T B : Int) (ok : Bool) (h0 : wb.cell? ⟨g, 0, none⟩ = some a) (h1 : wb.cell? ⟨g, 1, none⟩ = some b) :
    keptTimes ((wb.setCell ⟨g, 0, none⟩ (.int .i64 T)).setCell ⟨g, 1, none⟩ (.int .i64 B)) T B ok (.pointer (some ⟨g, 0, none⟩)) (.bool ok) := by
  refine ⟨_, rfl, rfl, ?_, ?_⟩
  · exact (World.cell?_setCell_other _ _ _ _ (by simp)).trans (World.cell?_setCell_same (u := a) _ _ _ h0)
  · exact World.cell?_setCell_same (u := b) _ _ _ ((World.cell?_setCell_other _ _ _ _ (by simp)).trans h1)

theorem belowTimesSet {X wb : World} {g : Nat} {u u' : Value} (h : Below X.heap.size X wb) (hg : X.heap.size ≤ g) : Below X.heap.size X ((wb.setCell ⟨g, 0, none⟩ u).setCell ⟨g, 1, none⟩ u') :=
  (h.setCell hg u).setCell hg u'

set_option maxRecDepth 100000 in
set_option maxHeartbeats 4000000 in
theorem walkTimesFractions (t0 b0 t1 b1 : Int) (w : World) (wt0 : -9223372036854775808 ≤ t0 ∧ t0 ≤ 9223372036854775807) (wb0 : -9223372036854775808 ≤ b0 ∧ b0 ≤ 9223372036854775807) (wt1 : -9223372036854775808 ≤ t1 ∧ t1 ≤ 9223372036854775807) (wb1 : -9223372036854775808 ≤ b1 ∧ b1 ≤ 9223372036854775807) :
    Calls Try.prog 7 #[.agg #[.int .i64 t0, .int .i64 b0], .agg #[.int .i64 t1, .int .i64 b1]] w fun e w' => e = .returned (.bool true) ∧ Below w.heap.size w w' := by
  go_enter Try.func7, Try.ntmps7
  go_wp2_with fail
  go_cut [5, 6] from 9 to 16 (fun p q wr => keptTimes wr (mulT t0 b0 t1 b1) (mulB t0 b0 t1 b1) (mulOk t0 b0 t1 b1) p q ∧ Below ((w.alloc (.cells #[.int .i64 t0, .int .i64 b0] 23)).alloc (.cells #[.int .i64 t1, .int .i64 b1] 23)).heap.size ((w.alloc (.cells #[.int .i64 t0, .int .i64 b0] 23)).alloc (.cells #[.int .i64 t1, .int .i64 b1] 23)) wr)
  case first =>
    go_region_held3 (fun w' => w'.cell? ⟨w.heap.size, 0, none⟩ = some (.int .i64 t0) ∧ w'.cell? ⟨w.heap.size, 1, none⟩ = some (.int .i64 b0) ∧ w'.cell? ⟨w.heap.size + 1, 0, none⟩ = some (.int .i64 t1) ∧ w'.cell? ⟨w.heap.size + 1, 1, none⟩ = some (.int .i64 b1) ∧ w.heap.size + 2 ≤ w'.heap.size)
      (first
        | (exact ⟨cellStay bb (by assumption), cellStay bb (by assumption), cellStay bb (by assumption), cellStay bb (by assumption), kwb⟩)
        | (exact ⟨cellStay ba (by assumption), cellStay ba (by assumption), cellStay ba (by assumption), cellStay ba (by assumption), kwa⟩)
        | (go_split_ands; exact ⟨cellAlloc (by assumption), cellAlloc (by assumption), cellAlloc (by assumption), cellAlloc (by assumption), Nat.le_trans (by assumption) (by simp)⟩)
        | (go_split_ands; exact ⟨cellSet2 (by assumption) (by dsimp only; first | omega | (simp; done) | (simp; omega)), cellSet2 (by assumption) (by dsimp only; first | omega | (simp; done) | (simp; omega)), cellSet2 (by assumption) (by dsimp only; first | omega | (simp; done) | (simp; omega)), cellSet2 (by assumption) (by dsimp only; first | omega | (simp; done) | (simp; omega)), Nat.le_trans kwb (by simp)⟩)
        | (go_split_ands; exact ⟨cellSwap (by assumption) (by dsimp only; omega), cellSwap (by assumption) (by dsimp only; omega), cellSwap (by assumption) (by dsimp only; omega), cellSwap (by assumption) (by dsimp only; omega), Nat.le_trans kwb (by simp)⟩)
        | go_keep)
      ((first
        | (go_at_call 10; go_split_ands; refine (toFrac _ _ _).mono ?_; rintro e wa ⟨rfl, ba⟩; have kwa : w.heap.size + 2 ≤ wa.heap.size := Nat.le_trans (by assumption) ba.size; first | (have hp := pairAt (g := w.heap.size + 1 + 1) (T := 25) ba (heap_new_at (by simp)); obtain ⟨p0, p1, f0, f1, hs, hh⟩ := hp) | (have hp := pairAt (T := 25) ba (heap_new_at rfl); obtain ⟨p0, p1, f0, f1, hs, hh⟩ := hp) | (have hp := pairAt (T := 25) ba hh; obtain ⟨p0, p1, f0, f1, hs, hh⟩ := hp) | skip)
        | (go_at_call 19; go_split_ands; refine (specTimes _ _ _ _ _).mono ?_; rintro e wb ⟨rfl, bb⟩; have kwb : w.heap.size + 2 ≤ wb.heap.size := Nat.le_trans (by assumption) bb.size; first | (have hp := pairAt (T := 25) bb (heap_new_at rfl); obtain ⟨p0, p1, f0, f1, hs, hh⟩ := hp) | (have hp := pairAt (T := 25) bb hh; obtain ⟨p0, p1, f0, f1, hs, hh⟩ := hp) | skip)))
    all_goals (go_wp2_with fail; go_meet)
    all_goals first
      | exact ⟨keptTimesNew _ _ _ _ _, bAlloc (by repeat (first | exact Below.refl _ _ | (refine bDrewN ?_ _) | (refine Below.drew ?_) | (refine bAlloc ?_ _) | (refine Below.setCell ?_ (by first | omega | (simp <;> omega)) _) | (refine bThen ?_ (by assumption)))) _⟩
      | exact ⟨keptTimesSet _ _ _ p0 p1, belowTimesSet (by repeat (first | exact Below.refl _ _ | (refine bDrewN ?_ _) | (refine Below.drew ?_) | (refine bAlloc ?_ _) | (refine Below.setCell ?_ (by first | omega | (simp <;> omega)) _) | (refine bThen ?_ (by assumption)))) (by simp; try omega)⟩
  case rest =>
    obtain ⟨⟨g, rfl, rfl, c0, c1⟩, hb⟩ := hcut
    obtain ⟨⟨x0, x1⟩, ⟨y0, y1⟩, hs⟩ := twoA hb
    obtain ⟨N, hN⟩ : ∃ N, N = wc.heap.size := ⟨_, rfl⟩
    have hg : g < N := hN ▸ World.cell_lt c0
    have hs' : w.heap.size + 2 ≤ N := by omega
    have hN' : N ≤ wc.heap.size := by omega
    clear hN hs
    go_wp2_with fail
    go_cut [7, 8] from 17 to 24 (fun p q wr => keptTimes wr (mulT t0 b0 t1 b1) (mulB t0 b0 t1 b1) (mulOk t0 b0 t1 b1) p q ∧ (wr.cell? ⟨g, 0, none⟩ = some (.int .i64 (mulT t0 b0 t1 b1)) ∧ wr.cell? ⟨g, 1, none⟩ = some (.int .i64 (mulB t0 b0 t1 b1))) ∧ Below ((w.alloc (.cells #[.int .i64 t0, .int .i64 b0] 23)).alloc (.cells #[.int .i64 t1, .int .i64 b1] 23)).heap.size ((w.alloc (.cells #[.int .i64 t0, .int .i64 b0] 23)).alloc (.cells #[.int .i64 t1, .int .i64 b1] 23)) wr)
    case first =>
      go_region_held3 (fun w' => w'.cell? ⟨w.heap.size, 0, none⟩ = some (.int .i64 t0) ∧ w'.cell? ⟨w.heap.size, 1, none⟩ = some (.int .i64 b0) ∧ w'.cell? ⟨w.heap.size + 1, 0, none⟩ = some (.int .i64 t1) ∧ w'.cell? ⟨w.heap.size + 1, 1, none⟩ = some (.int .i64 b1) ∧ w'.cell? ⟨g, 0, none⟩ = some (.int .i64 (mulT t0 b0 t1 b1)) ∧ w'.cell? ⟨g, 1, none⟩ = some (.int .i64 (mulB t0 b0 t1 b1)) ∧ N ≤ w'.heap.size)
        (first
          | (exact ⟨cellStay bf (by assumption), cellStay bf (by assumption), cellStay bf (by assumption), cellStay bf (by assumption), cellStay bf (by assumption), cellStay bf (by assumption), kwf⟩)
          | (exact ⟨cellStay be (by assumption), cellStay be (by assumption), cellStay be (by assumption), cellStay be (by assumption), cellStay be (by assumption), cellStay be (by assumption), kwe⟩)
          | (go_split_ands; exact ⟨cellAlloc (by assumption), cellAlloc (by assumption), cellAlloc (by assumption), cellAlloc (by assumption), cellAlloc (by assumption), cellAlloc (by assumption), Nat.le_trans (by assumption) (by simp)⟩)
          | (go_split_ands; exact ⟨cellSet2 (by assumption) (by dsimp only; first | omega | (simp; done) | (simp; omega)), cellSet2 (by assumption) (by dsimp only; first | omega | (simp; done) | (simp; omega)), cellSet2 (by assumption) (by dsimp only; first | omega | (simp; done) | (simp; omega)), cellSet2 (by assumption) (by dsimp only; first | omega | (simp; done) | (simp; omega)), cellSet2 (by assumption) (by dsimp only; first | omega | (simp; done) | (simp; omega)), cellSet2 (by assumption) (by dsimp only; first | omega | (simp; done) | (simp; omega)), Nat.le_trans kwf (by simp)⟩)
          | (go_split_ands; exact ⟨cellSwap (by assumption) (by dsimp only; omega), cellSwap (by assumption) (by dsimp only; omega), cellSwap (by assumption) (by dsimp only; omega), cellSwap (by assumption) (by dsimp only; omega), cellSwap (by assumption) (by dsimp only; omega), cellSwap (by assumption) (by dsimp only; omega), Nat.le_trans kwf (by simp)⟩)
          | go_keep)
        ((first
          | (go_at_call 10; go_split_ands; refine (toFrac _ _ _).mono ?_; rintro e we ⟨rfl, be⟩; have kwe : N ≤ we.heap.size := Nat.le_trans (by assumption) be.size; first | (have hp := pairAt (T := 25) be (heap_new_at rfl); obtain ⟨p0, p1, f0, f1, hs, hh⟩ := hp) | (have hp := pairAt (T := 25) be hh; obtain ⟨p0, p1, f0, f1, hs, hh⟩ := hp) | skip)
          | (go_at_call 20; go_split_ands; refine (implTimes _ _ _ _ _).mono ?_; rintro e wf ⟨rfl, bf⟩; have kwf : N ≤ wf.heap.size := Nat.le_trans (by assumption) bf.size; first | (have hp := pairAt (T := 25) bf (heap_new_at rfl); obtain ⟨p0, p1, f0, f1, hs, hh⟩ := hp) | (have hp := pairAt (T := 25) bf hh; obtain ⟨p0, p1, f0, f1, hs, hh⟩ := hp) | skip)))
      all_goals (go_split_ands; go_wp2_with fail; go_meet)
      all_goals first
        | exact ⟨keptTimesNew _ _ _ _ _, ⟨by assumption, by assumption⟩, bAlloc (by repeat (first | exact Below.refl _ _ | (refine bDrewN ?_ _) | (refine Below.drew ?_) | (refine bAlloc ?_ _) | (refine Below.setCell ?_ (by first | omega | (simp <;> omega)) _) | (refine bThen ?_ (by assumption)))) _⟩
        | exact ⟨keptTimesSet _ _ _ p0 p1, ⟨by assumption, by assumption⟩, belowTimesSet (by repeat (first | exact Below.refl _ _ | (refine bDrewN ?_ _) | (refine Below.drew ?_) | (refine bAlloc ?_ _) | (refine Below.setCell ?_ (by first | omega | (simp <;> omega)) _) | (refine bThen ?_ (by assumption)))) (by simp; omega)⟩
    case rest =>
      obtain ⟨⟨g2, rfl, rfl, d0, d1⟩, ⟨c0, c1⟩, hb2⟩ := hcut
      go_wp2_with fail
      refine (eqFrac _ _ _ _ _).mono ?_
      rintro e wg ⟨rfl, bg⟩
      go_wp2
      go_ret
      exact ⟨rfl, (by repeat (first | exact Below.refl _ _ | (refine bDrewN ?_ _) | (refine Below.drew ?_) | (refine bAlloc ?_ _) | (refine Below.setCell ?_ (by first | omega | (simp <;> omega)) _) | (refine bThen ?_ (by assumption))))⟩
end Go.Proofs.Ytbppdjglmgnggaa
