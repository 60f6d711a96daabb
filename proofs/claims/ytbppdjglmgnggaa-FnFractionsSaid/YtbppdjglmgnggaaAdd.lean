/- Contracts of AddFractions and TimesFractions in the program. No conditions. -/
import Derived.Test.YtbppdjglmgnggaaMake
namespace Go.Proofs.Ytbppdjglmgnggaa
open Go.RowKit

def twoIn (t b u c : Int) : Bool := fracB t b && fracB u c
def addT (t b u c : Int) : Int := if twoIn t b u c = true then redT (t * c + u * b) (b * c) else 0
def addB (t b u c : Int) : Int := if twoIn t b u c = true then redB (t * c + u * b) (b * c) else 0
def addOk (t b u c : Int) : Bool := twoIn t b u c && redOk (t * c + u * b) (b * c)
def mulT (t b u c : Int) : Int := if twoIn t b u c = true then redT (t * u) (b * c) else 0
def mulB (t b u c : Int) : Int := if twoIn t b u c = true then redB (t * u) (b * c) else 0
def mulOk (t b u c : Int) : Bool := twoIn t b u c && redOk (t * u) (b * c)
theorem add_no {t b u c : Int} (h : twoIn t b u c = false) : addT t b u c = 0 ∧ addB t b u c = 0 ∧ addOk t b u c = false := by unfold addT addB addOk; rw [h]; exact ⟨rfl, rfl, rfl⟩
theorem add_yes {t b u c : Int} (h : twoIn t b u c = true) : addT t b u c = redT (t * c + u * b) (b * c) ∧ addB t b u c = redB (t * c + u * b) (b * c) ∧ addOk t b u c = redOk (t * c + u * b) (b * c) := by unfold addT addB addOk; rw [h]; exact ⟨rfl, rfl, rfl⟩
theorem mul_no {t b u c : Int} (h : twoIn t b u c = false) : mulT t b u c = 0 ∧ mulB t b u c = 0 ∧ mulOk t b u c = false := by unfold mulT mulB mulOk; rw [h]; exact ⟨rfl, rfl, rfl⟩
theorem mul_yes {t b u c : Int} (h : twoIn t b u c = true) : mulT t b u c = redT (t * u) (b * c) ∧ mulB t b u c = redB (t * u) (b * c) ∧ mulOk t b u c = redOk (t * u) (b * c) := by unfold mulT mulB mulOk; rw [h]; exact ⟨rfl, rfl, rfl⟩

/-- The three blocks that such a function begins with. -/
theorem three {w w2 : World} {T : TypeId} {x0 x1 y0 y1 z0 z1 : Value} (hb : Below (((w.alloc (.cells #[x0, x1] T)).alloc (.cells #[y0, y1] T)).alloc (.cells #[z0, z1] T)).heap.size (((w.alloc (.cells #[x0, x1] T)).alloc (.cells #[y0, y1] T)).alloc (.cells #[z0, z1] T)) w2) :
    (w2.cell? ⟨w.heap.size, 0, none⟩ = some x0 ∧ w2.cell? ⟨w.heap.size, 1, none⟩ = some x1) ∧ (w2.cell? ⟨w.heap.size + 1, 0, none⟩ = some y0 ∧ w2.cell? ⟨w.heap.size + 1, 1, none⟩ = some y1) ∧
    (w2.cell? ⟨w.heap.size + 1 + 1, 0, none⟩ = some z0 ∧ w2.cell? ⟨w.heap.size + 1 + 1, 1, none⟩ = some z1) ∧ (w2.frozen? ⟨w.heap.size + 1 + 1, 0, none⟩ = false ∧ w2.frozen? ⟨w.heap.size + 1 + 1, 1, none⟩ = false) ∧ w.heap.size + 1 + 1 < w2.heap.size := by
  obtain ⟨a0, a1, _⟩ := pairAt (g := w.heap.size) hb (heap_old_at (heap_old_at (heap_new_at rfl)))
  obtain ⟨b0, b1, _⟩ := pairAt (g := w.heap.size + 1) hb (heap_old_at (heap_new_at (by simp)))
  obtain ⟨c0, c1, f0, f1, hs, _⟩ := pairAt (g := w.heap.size + 1 + 1) hb (heap_new_at (by simp))
  exact ⟨⟨a0, a1⟩, ⟨b0, b1⟩, ⟨c0, c1⟩, ⟨f0, f1⟩, hs⟩

theorem implAdd (t b u c : Int) (w : World) : Calls Try.prog 18 #[.agg #[.int .i64 t, .int .i64 b], .agg #[.int .i64 u, .int .i64 c]] w (RetB w (.tuple #[.agg #[.int .i64 (addT t b u c), .int .i64 (addB t b u c)], .bool (addOk t b u c)])) := by
  cases h1 : fracB t b
  · have hn1 : (!fracB t b) = true := by rw [h1]; rfl
    have HN := Lib.hid (add_no (t := t) (b := b) (u := u) (c := c) (by rw [twoIn, h1]; rfl))
    clear h1
    go_enter Try.func18, Try.ntmps18
    go_wp2_with fail
    refine (implFractionOkB _ _ _).mono ?_
    rintro e w1 ⟨rfl, b1⟩
    obtain ⟨⟨x0, x1⟩, ⟨y0, y1⟩, ⟨r0, r1⟩, ⟨f0, f1⟩, hs1⟩ := three b1
    go_wp2
    exact bodyPost_ret (v := .tuple #[.agg #[.int .i64 0, .int .i64 0], .bool false]) (by simp [results, Try.results18, go_sem, r0, r1]) rfl ⟨ret_red HN.out.1.symm HN.out.2.1.symm HN.out.2.2.symm, (by repeat (first | exact Below.refl _ _ | (refine Below.alloc ?_ (by first | omega | (simp <;> omega)) _) | (refine Below.setCell ?_ (by first | omega | (simp <;> omega)) _) | (refine bDrewN ?_ _) | (refine Below.drew ?_) | (refine Below.trans ?_ (Below.mono b1 (by first | omega | (simp <;> omega))))))⟩
  · have hn1 : (!fracB t b) = false := by rw [h1]; rfl
    cases h2 : fracB u c
    · have hn2 : (!fracB u c) = true := by rw [h2]; rfl
      have HN := Lib.hid (add_no (t := t) (b := b) (u := u) (c := c) (by rw [twoIn, h2, Bool.and_false]))
      clear h1 h2
      go_enter Try.func18, Try.ntmps18
      go_wp2_with fail
      refine (implFractionOkB _ _ _).mono ?_
      rintro e w1 ⟨rfl, b1⟩
      obtain ⟨⟨x0, x1⟩, ⟨y0, y1⟩, ⟨r0, r1⟩, ⟨f0, f1⟩, hs1⟩ := three b1
      go_wp2_with fail
      refine (implFractionOkB _ _ _).mono ?_
      rintro e w2 ⟨rfl, b2⟩
      have hz2 := b2.size
      obtain ⟨⟨x0, x1⟩, ⟨y0, y1⟩, ⟨r0, r1⟩, ⟨f0, f1⟩, hs2⟩ := three (bThen b1 b2)
      go_wp2
      exact bodyPost_ret (v := .tuple #[.agg #[.int .i64 0, .int .i64 0], .bool false]) (by simp [results, Try.results18, go_sem, r0, r1]) rfl ⟨ret_red HN.out.1.symm HN.out.2.1.symm HN.out.2.2.symm, (by repeat (first | exact Below.refl _ _ | (refine Below.alloc ?_ (by first | omega | (simp <;> omega)) _) | (refine Below.setCell ?_ (by first | omega | (simp <;> omega)) _) | (refine bDrewN ?_ _) | (refine Below.drew ?_) | (refine Below.trans ?_ (Below.mono b1 (by first | omega | (simp <;> omega)))) | (refine Below.trans ?_ (Below.mono b2 (by first | omega | (simp <;> omega))))))⟩
    · have hn2 : (!fracB u c) = false := by rw [h2]; rfl
      have HN := Lib.hid (add_yes (t := t) (b := b) (u := u) (c := c) (by rw [twoIn, h1, h2]; rfl))
      obtain ⟨kt, kb, _⟩ := fracB_bd h1
      obtain ⟨ku, kc, _⟩ := fracB_bd h2
      have mtc := mul_bd kt (show -1000000 ≤ c ∧ c ≤ 1000000 by omega)
      have mub := mul_bd ku (show -1000000 ≤ b ∧ b ≤ 1000000 by omega)
      have mtu := mul_bd kt ku
      have mbc := mul_bd (show -1000000 ≤ b ∧ b ≤ 1000000 by omega) (show -1000000 ≤ c ∧ c ≤ 1000000 by omega)
      have NZ : Hid (b * c ≠ 0) := by
        intro e
        rcases Int.mul_eq_zero.1 e with e | e <;> omega
      clear h1 h2
      go_enter Try.func18, Try.ntmps18
      go_wp2_with fail
      refine (implFractionOkB _ _ _).mono ?_
      rintro e w1 ⟨rfl, b1⟩
      obtain ⟨⟨x0, x1⟩, ⟨y0, y1⟩, ⟨r0, r1⟩, ⟨f0, f1⟩, hs1⟩ := three b1
      go_wp2_with fail
      refine (implFractionOkB _ _ _).mono ?_
      rintro e w2 ⟨rfl, b2⟩
      have hz2 := b2.size
      obtain ⟨⟨x0, x1⟩, ⟨y0, y1⟩, ⟨r0, r1⟩, ⟨f0, f1⟩, hs2⟩ := three (bThen b1 b2)
      go_wp2_with fail
      refine (implReduced _ (by omega) (by omega) NZ.out).mono ?_
      rintro e w3 ⟨rfl, b3⟩
      have hz3 := b3.size
      obtain ⟨_, _, ⟨r0, r1⟩, ⟨f0, f1⟩, hs3⟩ := three (bThen (bThen b1 b2) b3)
      go_wp2
      exact bodyPost_ret (v := .tuple #[.agg #[.int .i64 (redT (t * c + u * b) (b * c)), .int .i64 (redB (t * c + u * b) (b * c))], .bool (redOk (t * c + u * b) (b * c))]) (by simp [results, Try.results18, go_sem, r0, r1]) rfl ⟨ret_red HN.out.1.symm HN.out.2.1.symm HN.out.2.2.symm, (by repeat (first | exact Below.refl _ _ | (refine Below.alloc ?_ (by first | omega | (simp <;> omega)) _) | (refine Below.setCell ?_ (by first | omega | (simp <;> omega)) _) | (refine bDrewN ?_ _) | (refine Below.drew ?_) | (refine Below.trans ?_ (Below.mono b1 (by first | omega | (simp <;> omega)))) | (refine Below.trans ?_ (Below.mono b2 (by first | omega | (simp <;> omega)))) | (refine Below.trans ?_ (Below.mono b3 (by first | omega | (simp <;> omega))))))⟩

theorem implTimes (t b u c : Int) (w : World) : Calls Try.prog 20 #[.agg #[.int .i64 t, .int .i64 b], .agg #[.int .i64 u, .int .i64 c]] w (RetB w (.tuple #[.agg #[.int .i64 (mulT t b u c), .int .i64 (mulB t b u c)], .bool (mulOk t b u c)])) := by
  cases h1 : fracB t b
  · have hn1 : (!fracB t b) = true := by rw [h1]; rfl
    have HN := Lib.hid (mul_no (t := t) (b := b) (u := u) (c := c) (by rw [twoIn, h1]; rfl))
    clear h1
    go_enter Try.func20, Try.ntmps20
    go_wp2_with fail
    refine (implFractionOkB _ _ _).mono ?_
    rintro e w1 ⟨rfl, b1⟩
    obtain ⟨⟨x0, x1⟩, ⟨y0, y1⟩, ⟨r0, r1⟩, ⟨f0, f1⟩, hs1⟩ := three b1
    go_wp2
    exact bodyPost_ret (v := .tuple #[.agg #[.int .i64 0, .int .i64 0], .bool false]) (by simp [results, Try.results20, go_sem, r0, r1]) rfl ⟨ret_red HN.out.1.symm HN.out.2.1.symm HN.out.2.2.symm, (by repeat (first | exact Below.refl _ _ | (refine Below.alloc ?_ (by first | omega | (simp <;> omega)) _) | (refine Below.setCell ?_ (by first | omega | (simp <;> omega)) _) | (refine bDrewN ?_ _) | (refine Below.drew ?_) | (refine Below.trans ?_ (Below.mono b1 (by first | omega | (simp <;> omega))))))⟩
  · have hn1 : (!fracB t b) = false := by rw [h1]; rfl
    cases h2 : fracB u c
    · have hn2 : (!fracB u c) = true := by rw [h2]; rfl
      have HN := Lib.hid (mul_no (t := t) (b := b) (u := u) (c := c) (by rw [twoIn, h2, Bool.and_false]))
      clear h1 h2
      go_enter Try.func20, Try.ntmps20
      go_wp2_with fail
      refine (implFractionOkB _ _ _).mono ?_
      rintro e w1 ⟨rfl, b1⟩
      obtain ⟨⟨x0, x1⟩, ⟨y0, y1⟩, ⟨r0, r1⟩, ⟨f0, f1⟩, hs1⟩ := three b1
      go_wp2_with fail
      refine (implFractionOkB _ _ _).mono ?_
      rintro e w2 ⟨rfl, b2⟩
      have hz2 := b2.size
      obtain ⟨⟨x0, x1⟩, ⟨y0, y1⟩, ⟨r0, r1⟩, ⟨f0, f1⟩, hs2⟩ := three (bThen b1 b2)
      go_wp2
      exact bodyPost_ret (v := .tuple #[.agg #[.int .i64 0, .int .i64 0], .bool false]) (by simp [results, Try.results20, go_sem, r0, r1]) rfl ⟨ret_red HN.out.1.symm HN.out.2.1.symm HN.out.2.2.symm, (by repeat (first | exact Below.refl _ _ | (refine Below.alloc ?_ (by first | omega | (simp <;> omega)) _) | (refine Below.setCell ?_ (by first | omega | (simp <;> omega)) _) | (refine bDrewN ?_ _) | (refine Below.drew ?_) | (refine Below.trans ?_ (Below.mono b1 (by first | omega | (simp <;> omega)))) | (refine Below.trans ?_ (Below.mono b2 (by first | omega | (simp <;> omega))))))⟩
    · have hn2 : (!fracB u c) = false := by rw [h2]; rfl
      have HN := Lib.hid (mul_yes (t := t) (b := b) (u := u) (c := c) (by rw [twoIn, h1, h2]; rfl))
      obtain ⟨kt, kb, _⟩ := fracB_bd h1
      obtain ⟨ku, kc, _⟩ := fracB_bd h2
      have mtc := mul_bd kt (show -1000000 ≤ c ∧ c ≤ 1000000 by omega)
      have mub := mul_bd ku (show -1000000 ≤ b ∧ b ≤ 1000000 by omega)
      have mtu := mul_bd kt ku
      have mbc := mul_bd (show -1000000 ≤ b ∧ b ≤ 1000000 by omega) (show -1000000 ≤ c ∧ c ≤ 1000000 by omega)
      have NZ : Hid (b * c ≠ 0) := by
        intro e
        rcases Int.mul_eq_zero.1 e with e | e <;> omega
      clear h1 h2
      go_enter Try.func20, Try.ntmps20
      go_wp2_with fail
      refine (implFractionOkB _ _ _).mono ?_
      rintro e w1 ⟨rfl, b1⟩
      obtain ⟨⟨x0, x1⟩, ⟨y0, y1⟩, ⟨r0, r1⟩, ⟨f0, f1⟩, hs1⟩ := three b1
      go_wp2_with fail
      refine (implFractionOkB _ _ _).mono ?_
      rintro e w2 ⟨rfl, b2⟩
      have hz2 := b2.size
      obtain ⟨⟨x0, x1⟩, ⟨y0, y1⟩, ⟨r0, r1⟩, ⟨f0, f1⟩, hs2⟩ := three (bThen b1 b2)
      go_wp2_with fail
      refine (implReduced _ (by omega) (by omega) NZ.out).mono ?_
      rintro e w3 ⟨rfl, b3⟩
      have hz3 := b3.size
      obtain ⟨_, _, ⟨r0, r1⟩, ⟨f0, f1⟩, hs3⟩ := three (bThen (bThen b1 b2) b3)
      go_wp2
      exact bodyPost_ret (v := .tuple #[.agg #[.int .i64 (redT (t * u) (b * c)), .int .i64 (redB (t * u) (b * c))], .bool (redOk (t * u) (b * c))]) (by simp [results, Try.results20, go_sem, r0, r1]) rfl ⟨ret_red HN.out.1.symm HN.out.2.1.symm HN.out.2.2.symm, (by repeat (first | exact Below.refl _ _ | (refine Below.alloc ?_ (by first | omega | (simp <;> omega)) _) | (refine Below.setCell ?_ (by first | omega | (simp <;> omega)) _) | (refine bDrewN ?_ _) | (refine Below.drew ?_) | (refine Below.trans ?_ (Below.mono b1 (by first | omega | (simp <;> omega)))) | (refine Below.trans ?_ (Below.mono b2 (by first | omega | (simp <;> omega)))) | (refine Below.trans ?_ (Below.mono b3 (by first | omega | (simp <;> omega))))))⟩

end Go.Proofs.Ytbppdjglmgnggaa
