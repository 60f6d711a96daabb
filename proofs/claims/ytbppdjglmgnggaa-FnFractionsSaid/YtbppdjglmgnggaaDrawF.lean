/- Contract of l02Fraction: a drawn fraction is small and in lowest terms. -/
import Derived.Test.YtbppdjglmgnggaaFracLaw
import Derived.Test.YtbppdjglmgnggaaDraw
import Derived.Test.YtbppdjglmgnggaaMakeS
namespace Go.Proofs.Ytbppdjglmgnggaa
open Go.RowKit

structure Small (t b : Int) : Prop where
  fr : fracB t b = true
  bt : -20 ≤ t ∧ t ≤ 20
  bb : 1 ≤ b ∧ b ≤ 12
theorem small_mk {x y : Int} (hx : 0 ≤ x ∧ x ≤ 40) (hy : 0 ≤ y ∧ y ≤ 11) : Small (mkT (x - 20) (1 + y)) (mkB (x - 20) (1 + y)) := by
  obtain ⟨r1, r2, r3, r4, r5, r6⟩ := red_small (p := x - 20) (q := 1 + y) (P := 20) (Q := 12) (by omega) (by omega) (by decide) (by decide)
  obtain ⟨k1, k2, k3⟩ := mk_yes (t := x - 20) (b := 1 + y) (by rw [mkIn, decide_eq_true (by omega), inB_iff.2 (by omega), inB_iff.2 (by omega)]; rfl)
  rw [k1, k2, r1, r2]
  exact ⟨r4, r5, r6⟩
theorem fracB_neg {t b : Int} (h : fracB t b = true) : fracB (-t) b = true := by
  obtain ⟨h1, h2, h3⟩ := fracB_bd h
  rw [fracB, Bool.and_eq_true, Bool.and_eq_true]
  refine ⟨inB_iff.2 (by omega), inB_iff.2 (by omega), decide_eq_true ?_⟩
  rw [← h3]
  unfold gcdI
  rw [Int.neg_gcd]

/-- A call has drawn a small fraction; only the cursor's own block has turned. -/
def RetF (W : World) (c : Nat) (e : Ending) (w' : World) : Prop := ∃ t b : Int, Small t b ∧ e = .returned (.agg #[.int .i64 t, .int .i64 b]) ∧ Cur w' c ∧ W.grownBy w' (some c)

theorem Cur.below {w w' : World} {c : Nat} (h : Cur w c) (hb : Below w.heap.size w w') : Cur w' c := h.kept ⟨hb.os, hb.tape, hb.output, hb.size, fun k hk _ => hb.block k hk⟩ (row := none) (fun k hk => by cases hk)
theorem grownB {a w w' : World} {r : Option Nat} (h : a.grownBy w r) (hb : Below w.heap.size w w') : a.grownBy w' r :=
  ⟨hb.os.trans h.os, hb.tape.trans h.tape, hb.output.trans h.output, Nat.le_trans h.size hb.size, fun k hk hne => by
    rw [hb.block k (Nat.lt_of_lt_of_le hk h.size)]
    exact h.block k hk hne⟩

theorem grown_set {a w : World} {r : Option Nat} (h : a.grownBy w r) {g o : Nat} {u : Value} (hg : a.heap.size ≤ g) : a.grownBy (w.setCell ⟨g, o, none⟩ u) r :=
  ⟨h.os, h.tape, h.output, by simpa using h.size, fun k hk hne => by
    rw [heap_setCell_other w ⟨g, o, none⟩ k u (by show k ≠ g; omega)]
    exact h.block k hk hne⟩
theorem Cur.set {w : World} {c g o : Nat} {u : Value} (h : Cur w c) (hg : c < g) : Cur (w.setCell ⟨g, o, none⟩ u) c :=
  h.kept (grown_setCell (World.grownBy.refl w (some g)) o u) (fun k hk => by have := Option.some.inj hk; omega)
theorem Cur.allocF {w : World} {c : Nat} (h : Cur w c) (o : Obj) : Cur (w.alloc o) c := h.kept (World.grownBy_alloc w o none) (fun k hk => by cases hk)

theorem setTwo {x : World} {g : Nat} {a b u v : Value} (h0 : x.cell? ⟨g, 0, none⟩ = some a) (h1 : x.cell? ⟨g, 1, none⟩ = some b) :
    ((x.setCell ⟨g, 0, none⟩ u).setCell ⟨g, 1, none⟩ v).cell? ⟨g, 0, none⟩ = some u ∧ ((x.setCell ⟨g, 0, none⟩ u).setCell ⟨g, 1, none⟩ v).cell? ⟨g, 1, none⟩ = some v := by
  refine ⟨?_, ?_⟩
  · exact (World.cell?_setCell_other _ _ _ _ (by simp)).trans (World.cell?_setCell_same (u := a) _ _ _ h0)
  · exact World.cell?_setCell_same (u := b) _ _ _ ((World.cell?_setCell_other _ _ _ _ (by simp)).trans h1)
theorem cellAllocF {x : World} {p : Addr} {v : Value} {o : Obj} (h : x.cell? p = some v) : (x.alloc o).cell? p = some v :=
  cellStay (bAlloc (Below.refl _ _) o) h

set_option maxRecDepth 100000 in
theorem fracDraw {w : World} {c : Nat} (hc : Cur w c) : Calls Try.prog 29 #[.pointer (some ⟨c, 0, none⟩)] w (RetF w c) := by
  have hlt := hc.lt
  have hc0 : Cur (w.alloc (.cells #[.int .i64 0, .int .i64 0] 25)) c := hc.kept (World.grownBy_alloc w _ none) (fun k hk => by cases hk)
  have hg0 : w.grownBy (w.alloc (.cells #[.int .i64 0, .int .i64 0] 25)) (some c) := World.grownBy_alloc w _ _
  have hh0 : (w.alloc (.cells #[.int .i64 0, .int .i64 0] 25)).heap[w.heap.size]? = some (.cells #[.int .i64 0, .int .i64 0] 25 (0, 0)) := heap_alloc_new w _
  go_enter Try.func29, Try.ntmps29
  go_wp2_with fail
  refine (belowDraw hc0 (by omega) (by omega)).mono ?_
  rintro e w1 ⟨x, hx0, hx1, rfl, hc1, hg1⟩
  go_wp2_with fail
  refine (belowDraw hc1 (by omega) (by omega)).mono ?_
  rintro e w2 ⟨y, hy0, hy1, rfl, hc2, hg2⟩
  have hsm := small_mk (x := x) (y := y) ⟨hx0, by omega⟩ ⟨hy0, by omega⟩
  go_wp2_with fail
  refine (specMake _ _ _).mono ?_
  rintro e w3 ⟨he, b3⟩
  obtain ⟨T, hT⟩ : ∃ T, T = mkT (x - 20) (1 + y) := ⟨_, rfl⟩
  obtain ⟨B, hB⟩ : ∃ B, B = mkB (x - 20) (1 + y) := ⟨_, rfl⟩
  rw [← hT, ← hB] at hsm he
  subst he
  have hc3 := hc2.below b3
  have hg3 := grownB ((hg0.trans hg1).trans hg2) b3
  have hz1 : w.heap.size < w1.heap.size := by have := hg1.size; simp at this; omega
  have hz2 := hg2.size
  have hh2 : w2.heap[w.heap.size]? = some (.cells #[.int .i64 0, .int .i64 0] 25 (0, 0)) := by
    rw [hg2.block _ hz1 (fun e => by have := Option.some.inj e; omega), hg1.block _ (by simp) (fun e => by have := Option.some.inj e; omega)]
    exact hh0
  obtain ⟨p0, p1, f0, f1, hs3, _⟩ := pairAt b3 hh2
  clear hT hB hc0 hg0 hh0 hc1 hg1 hc2 hg2 hh2
  go_wp2
  obtain ⟨k0, k1⟩ := setTwo (u := .int .i64 T) (v := .int .i64 B) p0 p1
  have q0 := cellAllocF (o := .cells #[.int .i64 T, .int .i64 B] 25) k0
  have q1 := cellAllocF (o := .cells #[.int .i64 T, .int .i64 B] 25) k1
  refine bodyPost_ret (v := .agg #[.int .i64 T, .int .i64 B]) (by simp [results, Try.results29, go_sem, q0, q1]) rfl ⟨T, B, hsm, rfl, ?_, ?_⟩
  · exact ((hc3.set (by omega)).set (by omega)).allocF _
  · exact (grown_set (grown_set hg3 (Nat.le_refl _)) (Nat.le_refl _)).trans (World.grownBy_alloc _ _ _)
end Go.Proofs.Ytbppdjglmgnggaa
