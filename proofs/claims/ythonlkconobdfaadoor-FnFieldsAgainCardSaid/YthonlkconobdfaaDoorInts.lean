/- Contracts of the laws' own helpers toIntS, eqIntS, markIntS, heldIntS. -/
import Derived.Test.YthonlkconobdfaaDoorIn
import Derived.Test.YthonlkconobdfaaDoorLists
import Derived.BigQuiet
import Derived.Deep.QuietTactic
namespace Go.Proofs.YthonlkconobdfaaDoor
open Go.RowKit

theorem info_int : (Tryd.prog.info? 3).map (fun i => (i.zero, i.size, i.bytes)) = some (some (.int .i64 0), 1, 8) := by kernel_rfl

/-- The block that an address leads to. -/
def gOf (ad : Option Addr) : Nat := (ad.map Addr.block).getD 0

theorem OI.shape {w : World} {base : Nat} {v : Value} {xs : List Int} (h : OI w base v xs) : ∃ ad cap, v = .slice ad xs.length cap ∧ xs.length ≤ 9223372036854775807 := by
  obtain ⟨ad, cap, g, hv, h1, h2, _⟩ := h.view
  unfold maxLen at h2
  exact ⟨ad, cap, hv, by omega⟩

theorem OI.at {w : World} {base cap k : Nat} {ad : Option Addr} {xs : List Int} (h : OI w base (.slice ad xs.length cap) xs) (hk : k < xs.length) :
    ∃ x, Hid (x = xs.getD k 0) ∧ (∀ w', (Instr.indexAt 65 (.slice ad xs.length cap) (.int .i64 (k : Int))).run Tryd.prog w' = .ok (.pointer (some ⟨gOf ad, k, none⟩)) w') ∧ w.cell? ⟨gOf ad, k, none⟩ = some (.int .i64 x) := by
  obtain ⟨i0, hi, hz0, hz1, hz2⟩ := info_parts info_int
  obtain ⟨ad', cap', g, hv, _, _, _, hx⟩ := h.view
  simp only [Value.slice.injEq] at hv
  obtain ⟨rfl, _, rfl⟩ := hv
  obtain ⟨had, _, _, hc, _⟩ := hx k hk
  have hg : gOf ad = g := by rw [had]; rfl
  rw [hg]
  exact ⟨_, rfl, indexAt_some Tryd.underlying65 hi hz1 had hk .i64, hc⟩

theorem OI.at0 {w : World} {base cap : Nat} {ad : Option Addr} {xs : List Int} (h : OI w base (.slice ad xs.length cap) xs) (hk : 0 < xs.length) :
    ∃ x, Hid (x = xs.getD 0 0) ∧ (∀ w', (Instr.indexAt 65 (.slice ad xs.length cap) (.int .i64 0)).run Tryd.prog w' = .ok (.pointer (some ⟨gOf ad, 0, none⟩)) w') ∧ w.cell? ⟨gOf ad, 0, none⟩ = some (.int .i64 x) := h.at hk

theorem OI.atLast {w : World} {base cap : Nat} {ad : Option Addr} {xs : List Int} (h : OI w base (.slice ad xs.length cap) xs) (hk : 0 < xs.length) :
    ∃ x, Hid (x = xs.getD (xs.length - 1) 0) ∧ (∀ w', (Instr.indexAt 65 (.slice ad xs.length cap) (.int .i64 ((xs.length : Int) - 1))).run Tryd.prog w' = .ok (.pointer (some ⟨gOf ad, xs.length - 1, none⟩)) w') ∧ w.cell? ⟨gOf ad, xs.length - 1, none⟩ = some (.int .i64 x) := by
  obtain ⟨x, HX, ix, c⟩ := h.at (k := xs.length - 1) (by omega)
  rw [show ((xs.length - 1 : Nat) : Int) = (xs.length : Int) - 1 from by omega] at ix
  exact ⟨x, HX, ix, c⟩

/-- eqIntS tells whether two lists are the same. -/
theorem eq_of_ne {xs ys : List Int} {k : Nat} (h : xs.getD k 0 ≠ ys.getD k 0) : decide (xs = ys) = false := by
  simp only [decide_eq_false_iff_not]; intro e; rw [e] at h; exact h rfl

/-- toIntS copies. -/
theorem getD_take (zs : List Int) (n k : Nat) (h : k < n) : (zs.take n).getD k 0 = zs.getD k 0 := by simp [List.getD, h]

def part (xs : List Int) (k : Nat) : List Int := xs.take k ++ List.replicate (xs.length - k) 0
theorem part_length (xs : List Int) (k : Nat) (h : k ≤ xs.length) : (part xs k).length = xs.length := by simp [part]; omega
theorem part_zero (xs : List Int) : part xs 0 = List.replicate xs.length 0 := by simp [part]
theorem part_all (xs : List Int) : part xs xs.length = xs := by simp [part]
theorem part_set (xs : List Int) (k : Nat) (h : k < xs.length) : (part xs k).set k (xs.getD k 0) = part xs (k + 1) := by
  unfold part
  rw [List.set_append_right _ _ (by simp; omega), take_succ_getD xs k h]
  have e : xs.length - k = (xs.length - (k + 1)) + 1 := by omega
  rw [show k - (xs.take k).length = 0 from by simp; omega, e, List.replicate_succ, List.set_cons_zero]
  simp

theorem part_own {w : World} {base g len cap k : Nat} {xs : List Int} (h : w.ownsRow base 3 1 (.slice (some ⟨g, 0, none⟩) len cap) len ((part xs k).map (Value.int .i64))) (hk : k < xs.length) :
    (w.setCell ⟨g, k, none⟩ (.int .i64 (xs.getD k 0))).ownsRow base 3 1 (.slice (some ⟨g, 0, none⟩) len cap) len ((part xs (k + 1)).map (Value.int .i64)) := by
  have h2 := (h.stored k (.int .i64 (xs.getD k 0))).1
  rw [← part_set xs k hk, List.map_set]
  exact h2

theorem made_part (xs : List Int) (len : Nat) (h : xs.length = len) : (madeCells (Value.int .i64 0).cells (len * 1)).toList = (part xs 0).map (Value.int .i64) := by
  rw [part_zero, List.map_replicate, h, Nat.mul_one]
  exact toList_madeCells_one _ _

/-- The numbers k, k + 1, .. -/
def marks (k : Int) (n : Nat) : List Int := (List.range n).map fun (i : Nat) => k + (i : Int)
theorem marks_length (k : Int) (n : Nat) : (marks k n).length = n := by simp [marks]
theorem marks_succ (k : Int) (n : Nat) : marks k (n + 1) = marks k n ++ [k + (n : Int)] := by simp [marks, List.range_succ]
theorem marks_getD (k : Int) (n i : Nat) (h : i < n) : (marks k n).getD i 0 = k + (i : Int) := by simp [marks, List.getD, h]
theorem marks_step (k : Int) (xs : List Int) (j : Nat) (h : j < xs.length) : (marks k j ++ xs.drop j).set j (k + (j : Int)) = marks k (j + 1) ++ xs.drop (j + 1) := by
  rw [List.set_append_right _ _ (by rw [marks_length]; exact Nat.le_refl _), marks_length, Nat.sub_self, marks_succ, List.drop_eq_getElem_cons h, List.set_cons_zero]
  simp

def markRel (w : World) (base : Nat) (v : Value) (xs : List Int) (k : Int) (wr : World) (j : Nat) : Prop :=
  wr.ownsRow base 3 1 v xs.length ((marks k j ++ xs.drop j).map (Value.int .i64)) ∧ w.grownBy wr v.ownBlock

theorem markRel.step {w wr : World} {base : Nat} {ad : Option Addr} {g cap j : Nat} {xs : List Int} {k : Int} (h : markRel w base (.slice ad xs.length cap) xs k wr j) (had : ad = some ⟨g, 0, none⟩) (hj : j < xs.length) :
    markRel w base (.slice ad xs.length cap) xs k (wr.setCell ⟨g, j, none⟩ (.int .i64 (k + (j : Int)))) (j + 1) := by
  subst had
  obtain ⟨h1, h2⟩ := h
  have h3 := h1.stored j (.int .i64 (k + (j : Int)))
  refine ⟨?_, ?_⟩
  · rw [← marks_step k xs j hj, List.map_set]
    exact h3.1
  · have h4 : wr.grownBy (wr.setCell ⟨g, j, none⟩ (.int .i64 (k + (j : Int)))) (Value.slice (some ⟨g, 0, none⟩) xs.length cap).ownBlock := h3.2
    exact h2.trans h4

theorem markRel.cell {w wr : World} {base : Nat} {ad : Option Addr} {g cap j : Nat} {xs : List Int} {k : Int} (h : markRel w base (.slice ad xs.length cap) xs k wr j) (had : ad = some ⟨g, 0, none⟩) (hj : j < xs.length) :
    (∃ u, wr.cell? ⟨g, j, none⟩ = some u) ∧ wr.frozen? ⟨g, j, none⟩ = false := by
  subst had
  refine ⟨?_, h.1.frozenAt j⟩
  rw [h.1.cellAt j (by omega)]
  exact ⟨_, List.getElem?_eq_getElem (by simp [marks_length]; omega)⟩

end Go.Proofs.YthonlkconobdfaaDoor
