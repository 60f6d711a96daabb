/- Contracts of FractionOk, in the program and in the reference, and of the laws' toFraction and eqFraction. No conditions. -/
import Derived.Test.YthonlkconobdfaaDoorGcd
namespace Go.Proofs.YthonlkconobdfaaDoor
open Go.RowKit

/-- A fraction as a value. -/
def fr (t b : Int) : Value := .agg #[.int .i64 t, .int .i64 b]
def fracB (t b : Int) : Bool := inB t (-1000000) 1000000 && (inB b 1 1000000 && decide (gcdI t b = 1))

theorem bAlloc {a w : World} (h : Below a.heap.size a w) (o : Obj) : Below a.heap.size a (w.alloc o) := h.alloc h.size o

theorem cellStay {w w2 : World} {p : Addr} {v : Value} (hb : Below w.heap.size w w2) (h : w.cell? p = some v) : w2.cell? p = some v := (hb.cell (World.cell_lt h)).trans h

/-- A call hands back a value; nothing that was there has turned. -/
def RetB (W : World) (v : Value) (e : Ending) (w' : World) : Prop := e = .returned v ∧ Below W.heap.size W w'

theorem bcell {W w1 : World} (hb : Below W.heap.size W w1) : (∀ b o, b < W.heap.size → w1.cell? ⟨b, o, none⟩ = W.cell? ⟨b, o, none⟩) ∧ (∀ b o, b < W.heap.size → w1.frozen? ⟨b, o, none⟩ = W.frozen? ⟨b, o, none⟩) :=
  ⟨fun b o h => hb.cell (p := ⟨b, o, none⟩) h, fun b o h => hb.frozen (p := ⟨b, o, none⟩) h⟩

theorem implFractionOk (t b : Int) (w : World) : Calls Tryd.prog 28 #[.agg #[.int .i64 t, .int .i64 b]] w fun e w' => e = .returned (.bool (fracB t b)) ∧ ∃ n, w' = (w.alloc (.cells #[.int .i64 t, .int .i64 b] 27)).drewN n := by
  cases h1 : inB t (-1000000) 1000000
  · have H1 := Lib.hid h1
    go_enter Tryd.func28, Tryd.ntmps28
    go_wp2_with (go_at_call 41; refine (implIn _ _ _ _).mono ?_; rintro e w' ⟨rfl, rfl⟩)
    go_ret
    exact ⟨ret_bool (by rw [fracB, H1.out]; rfl), 0, rfl⟩
  · have H1 := Lib.hid h1
    have b1 := inB_iff.1 h1
    cases h2 : inB b 1 1000000
    · have H2 := Lib.hid h2
      go_enter Tryd.func28, Tryd.ntmps28
      go_wp2_with (go_at_call 41; refine (implIn _ _ _ _).mono ?_; rintro e w' ⟨rfl, rfl⟩)
      go_ret
      exact ⟨ret_bool (by rw [fracB, H2.out, Bool.false_and, Bool.and_false]), 0, rfl⟩
    · have H2 := Lib.hid h2
      have b2 := inB_iff.1 h2
      go_enter Tryd.func28, Tryd.ntmps28
      go_wp2_with (first | (go_at_call 41; refine (implIn _ _ _ _).mono ?_; rintro e w' ⟨rfl, rfl⟩) | (go_at_call 42; refine (implGcd _ (by omega) (by omega)).mono ?_; rintro e w' ⟨rfl, n, rfl⟩))
      go_ret
      exact ⟨ret_bool (by rw [fracB, H1.out, H2.out]; rfl), n, rfl⟩
theorem specFractionOk (t b : Int) (w : World) : Calls Tryd.prog 27 #[.agg #[.int .i64 t, .int .i64 b]] w fun e w' => e = .returned (.bool (fracB t b)) ∧ ∃ n, w' = (w.alloc (.cells #[.int .i64 t, .int .i64 b] 27)).drewN n := by
  cases h1 : inB t (-1000000) 1000000
  · have H1 := Lib.hid h1
    go_enter Tryd.func27, Tryd.ntmps27
    go_wp2_with (go_at_call 39; refine (specIn _ _ _ _).mono ?_; rintro e w' ⟨rfl, rfl⟩)
    go_ret
    exact ⟨ret_bool (by rw [fracB, H1.out]; rfl), 0, rfl⟩
  · have H1 := Lib.hid h1
    have b1 := inB_iff.1 h1
    cases h2 : inB b 1 1000000
    · have H2 := Lib.hid h2
      go_enter Tryd.func27, Tryd.ntmps27
      go_wp2_with (go_at_call 39; refine (specIn _ _ _ _).mono ?_; rintro e w' ⟨rfl, rfl⟩)
      go_ret
      exact ⟨ret_bool (by rw [fracB, H2.out, Bool.false_and, Bool.and_false]), 0, rfl⟩
    · have H2 := Lib.hid h2
      have b2 := inB_iff.1 h2
      go_enter Tryd.func27, Tryd.ntmps27
      go_wp2_with (first | (go_at_call 39; refine (specIn _ _ _ _).mono ?_; rintro e w' ⟨rfl, rfl⟩) | (go_at_call 40; refine (specGcd _ (by omega) (by omega)).mono ?_; rintro e w' ⟨rfl, n, rfl⟩))
      go_ret
      exact ⟨ret_bool (by rw [fracB, H1.out, H2.out]; rfl), n, rfl⟩

theorem implFractionOkB (t b : Int) (w : World) : Calls Tryd.prog 28 #[.agg #[.int .i64 t, .int .i64 b]] w (RetB w (.bool (fracB t b))) :=
  (implFractionOk t b w).mono fun _ _ h => by obtain ⟨h1, n, rfl⟩ := h; exact ⟨h1, (by repeat (first | exact Below.refl _ _ | (refine Below.alloc ?_ (by first | omega | (simp <;> omega)) _) | (refine Below.setCell ?_ (by first | omega | (simp <;> omega)) _) | (refine bDrewN ?_ _) | (refine Below.drew ?_)))⟩
theorem specFractionOkB (t b : Int) (w : World) : Calls Tryd.prog 27 #[.agg #[.int .i64 t, .int .i64 b]] w (RetB w (.bool (fracB t b))) :=
  (specFractionOk t b w).mono fun _ _ h => by obtain ⟨h1, n, rfl⟩ := h; exact ⟨h1, (by repeat (first | exact Below.refl _ _ | (refine Below.alloc ?_ (by first | omega | (simp <;> omega)) _) | (refine Below.setCell ?_ (by first | omega | (simp <;> omega)) _) | (refine bDrewN ?_ _) | (refine Below.drew ?_)))⟩

theorem heap_new_at {W : World} {o : Obj} {g : Nat} (hg : g = W.heap.size) : (W.alloc o).heap[g]? = some o := by subst hg; exact heap_alloc_new W o
theorem heap_old_at {W : World} {o x : Obj} {g : Nat} (h : W.heap[g]? = some x) : (W.alloc o).heap[g]? = some x := by rw [Below.heap_alloc _ _ _ (Array.getElem?_eq_some_iff.1 h).1]; exact h
/-- The cells of a block of two that was made a while ago. -/
theorem pairAt {W w2 : World} {x y : Value} {T : TypeId} {g : Nat} (hb : Below W.heap.size W w2) (hh : W.heap[g]? = some (.cells #[x, y] T (0, 0))) :
    w2.cell? ⟨g, 0, none⟩ = some x ∧ w2.cell? ⟨g, 1, none⟩ = some y ∧ w2.frozen? ⟨g, 0, none⟩ = false ∧ w2.frozen? ⟨g, 1, none⟩ = false ∧ g < w2.heap.size ∧ w2.heap[g]? = some (.cells #[x, y] T (0, 0)) := by
  have hlt : g < W.heap.size := (Array.getElem?_eq_some_iff.1 hh).1
  have h2 : w2.heap[g]? = some (.cells #[x, y] T (0, 0)) := (hb.block g hlt).trans hh
  exact ⟨by rw [cell_of_row w2 g 0 _ _ _ h2]; rfl, by rw [cell_of_row w2 g 1 _ _ _ h2]; rfl, frozen_of_row w2 g 0 _ _ h2, frozen_of_row w2 g 1 _ _ h2, Nat.lt_of_lt_of_le hlt hb.size, h2⟩

theorem toFrac (t b : Int) (w : World) : Calls Tryd.prog 12 #[.agg #[.int .i64 t, .int .i64 b]] w (RetB w (.agg #[.int .i64 t, .int .i64 b])) := by
  go_enter Tryd.func12, Tryd.ntmps12
  go_wp2
  exact bodyPost_ret (v := .agg #[.int .i64 t, .int .i64 b]) (by simp [results, Tryd.results12, go_sem]) rfl ⟨rfl, (by repeat (first | exact Below.refl _ _ | (refine Below.alloc ?_ (by first | omega | (simp <;> omega)) _) | (refine Below.setCell ?_ (by first | omega | (simp <;> omega)) _) | (refine bDrewN ?_ _) | (refine Below.drew ?_)))⟩

end Go.Proofs.YthonlkconobdfaaDoor
