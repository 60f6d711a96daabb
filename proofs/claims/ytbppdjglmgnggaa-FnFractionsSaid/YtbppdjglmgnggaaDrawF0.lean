/- Two-cell blocks and the results of DrawFractions. -/
import Derived.Test.YtbppdjglmgnggaaDrawF
import Derived.Deep.RegionHeld3
namespace Go.Proofs.Ytbppdjglmgnggaa
open Go.RowKit

def RetFs (W : World) (e : Ending) (w' : World) : Prop := ∃ t b u c v d : Int, Small t b ∧ Small u c ∧ Small v d ∧ e = .returned (.tuple #[.agg #[.int .i64 t, .int .i64 b], .agg #[.int .i64 u, .int .i64 c], .agg #[.int .i64 v, .int .i64 d]]) ∧ Below W.heap.size W w'

theorem heapG {w w' : World} {c g : Nat} {o : Obj} (hg : w.grownBy w' (some c)) (hh : w.heap[g]? = some o) (hne : g ≠ c) : w'.heap[g]? = some o := by
  have hlt : g < w.heap.size := (Array.getElem?_eq_some_iff.1 hh).1
  rw [hg.block g hlt (fun e => hne (Option.some.inj e))]
  exact hh
theorem pairH {w2 : World} {x y : Value} {T : TypeId} {g : Nat} (hh : w2.heap[g]? = some (.cells #[x, y] T (0, 0))) :
    w2.cell? ⟨g, 0, none⟩ = some x ∧ w2.cell? ⟨g, 1, none⟩ = some y ∧ w2.frozen? ⟨g, 0, none⟩ = false ∧ w2.frozen? ⟨g, 1, none⟩ = false ∧ g < w2.heap.size := by
  obtain ⟨a, b, c, d, e, _⟩ := pairAt (Below.refl _ w2) hh
  exact ⟨a, b, c, d, e⟩

theorem cellSetN {x : World} {p : Addr} {v u u' : Value} {g : Nat} (h : x.cell? p = some v) (k : g ≠ p.block) : ((x.setCell ⟨g, 0, none⟩ u).setCell ⟨g, 1, none⟩ u').cell? p = some v :=
  (World.cell?_setCell_far _ _ _ _ (by exact k)).trans ((World.cell?_setCell_far _ _ _ _ (by exact k)).trans h)

def Two (x : World) (g : Nat) (u v : Value) : Prop := x.cell? ⟨g, 0, none⟩ = some u ∧ x.cell? ⟨g, 1, none⟩ = some v
def Has (x : World) (g : Nat) : Prop := ∃ u v, Two x g u v
theorem Two.set {x : World} {g : Nat} {u v : Value} (h : Has x g) : Two ((x.setCell ⟨g, 0, none⟩ u).setCell ⟨g, 1, none⟩ v) g u v := by
  obtain ⟨a, b, h0, h1⟩ := h
  exact setTwo h0 h1
theorem Two.keep {x : World} {g g' : Nat} {a b u v : Value} (h : Two x g a b) (k : g' ≠ g) : Two ((x.setCell ⟨g', 0, none⟩ u).setCell ⟨g', 1, none⟩ v) g a b := ⟨cellSetN h.1 k, cellSetN h.2 k⟩
theorem Has.keep {x : World} {g g' : Nat} {u v : Value} (h : Has x g) (k : g' ≠ g) : Has ((x.setCell ⟨g', 0, none⟩ u).setCell ⟨g', 1, none⟩ v) g := by
  obtain ⟨a, b, h⟩ := h
  exact ⟨a, b, h.keep k⟩
set_option maxRecDepth 100000 in
theorem resFs {X : World} {tm : Array Value} {g0 g1 g2 : Nat} {x0 y0 x1 y1 x2 y2 : Int} (e0 : tm.getD 2 undef = .pointer (some ⟨g0, 0, none⟩)) (e1 : tm.getD 3 undef = .pointer (some ⟨g1, 0, none⟩)) (e2 : tm.getD 4 undef = .pointer (some ⟨g2, 0, none⟩))
    (h0 : Two X g0 (.int .i64 x0) (.int .i64 y0)) (h1 : Two X g1 (.int .i64 x1) (.int .i64 y1)) (h2 : Two X g2 (.int .i64 x2) (.int .i64 y2)) :
    (results Try.f22 tm).run Try.prog X = .ok (.tuple #[.agg #[.int .i64 x0, .int .i64 y0], .agg #[.int .i64 x1, .int .i64 y1], .agg #[.int .i64 x2, .int .i64 y2]]) X := by
  obtain ⟨a0, b0⟩ := h0
  obtain ⟨a1, b1⟩ := h1
  obtain ⟨a2, b2⟩ := h2
  simp only [Array.getD_eq_getD_getElem?] at e0 e1 e2
  simp [results, Try.results22, go_sem, e0, e1, e2, a0, b0, a1, b1, a2, b2]

end Go.Proofs.Ytbppdjglmgnggaa
