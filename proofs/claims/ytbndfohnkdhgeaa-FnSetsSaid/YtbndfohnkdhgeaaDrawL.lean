/- Drawn lists: words for a round that draws and appends; contract of l01PickInt. -/
import Derived.Test.YtbndfohnkdhgeaaDraw
import Derived.Test.YtbndfohnkdhgeaaAppAll
namespace Go.Proofs.Ytbndfohnkdhgeaa
open Go.RowKit

/-- A call has made a list of drawn numbers, each from lo to hi. -/
def RetList (W : World) (c : Nat) (lo hi : Int) (n1 n2 : Nat) (e : Ending) (w' : World) : Prop :=
  ∃ v xs, e = .returned v ∧ OI w' W.heap.size v xs ∧ Cur w' c ∧ W.grownBy w' (some c) ∧ n1 ≤ xs.length ∧ xs.length ≤ n2 ∧ ∀ x ∈ xs, lo ≤ x ∧ x ≤ hi

/-- What holds at the head of a round that draws and appends. -/
def drawRel (W : World) (c : Nat) (lo hi : Int) (wr : World) (o : Value) (done : List Int) : Prop :=
  OI wr W.heap.size o done ∧ Cur wr c ∧ W.grownBy wr (some c) ∧ ∀ x ∈ done, lo ≤ x ∧ x ≤ hi

theorem drawRel.start {W w1 : World} {c : Nat} {lo hi : Int} (hc : Cur w1 c) (hg : W.grownBy w1 (some c)) {o : Value} (ho : OI w1 W.heap.size o []) : drawRel W c lo hi w1 o [] := ⟨ho, hc, hg, fun x hx => by cases hx⟩
theorem drawRel.step {W wr w1 w2 : World} {c : Nat} {lo hi y : Int} {o o' : Value} {done : List Int} (hW : c < W.heap.size) (h : drawRel W c lo hi wr o done) (hc1 : Cur w1 c) (hg1 : wr.grownBy w1 (some c))
    (ho : OI w2 W.heap.size o' (done ++ [y])) (hg2 : w1.grownBy w2 o.ownBlock) (hy : lo ≤ y ∧ y ≤ hi) : drawRel W c lo hi w2 o' (done ++ [y]) := by
  obtain ⟨h1, h2, h3, h4⟩ := h
  have h5 := h1.keptCur hg1 hW
  refine ⟨ho, hc1.kept hg2 fun k hk => ?_, grown_own (h3.trans hg1) hg2 h5 (Nat.le_refl _), fun x hx => ?_⟩
  · have := (h5.lt k hk).1; omega
  · rcases List.mem_append.1 hx with hx | hx
    · exact h4 x hx
    · rw [List.mem_singleton.1 hx]; exact hy

theorem Cur.alloc {w : World} {c : Nat} (h : Cur w c) (o : Obj) : Cur (w.alloc o) c := h.kept (World.grownBy_alloc w o none) (fun k hk => by cases hk)

theorem pickDraw {w : World} {c base : Nat} {v : Value} {xs : List Int} {lo hi : Int} (hc : Cur w c) (hv : OI w base v xs) (hb : c < base) (hn : 1 ≤ xs.length) (hm : xs.length ≤ 1000) (hx : ∀ x ∈ xs, lo ≤ x ∧ x ≤ hi) :
    Calls Try.prog 67 #[.pointer (some ⟨c, 0, none⟩), v] w (RetDraw w c lo hi) := by
  obtain ⟨ad, cap, rfl, hmx⟩ := hv.shape
  obtain ⟨n, hn2⟩ : ∃ n, n = xs.length := ⟨_, rfl⟩
  rw [← hn2] at hn hm
  have HN := Lib.hid hn2
  clear hn2 hmx
  go_enter Try.func67, Try.ntmps67
  rw [← HN.out]
  go_wp2_with fail
  refine (belowDraw hc (by omega) (by omega)).mono ?_
  rintro e w1 ⟨x, hx0, hx1, rfl, hc1, hg1⟩
  obtain ⟨k, rfl⟩ : ∃ k : Nat, x = (k : Int) := ⟨x.toNat, by omega⟩
  have hk : k < n := by omega
  obtain ⟨y, HY, iy, cy⟩ := (hv.keptCur hg1 hb).at (by rw [← HN.out]; exact hk)
  rw [← HN.out] at iy
  go_wp2
  go_ret
  have hmem := hx y (by rw [HY.out, List.getD, List.getElem?_eq_getElem (by rw [← HN.out]; exact hk)]; exact List.getElem_mem _)
  exact ⟨_, hmem.1, hmem.2, rfl, hc1, hg1⟩


theorem drawRel.lit {W wr w' : World} {c : Nat} {lo hi : Int} {o : Value} {done : List Int} {x : Obj} (hW : c < W.heap.size) (h : drawRel W c lo hi wr o done) (hc : Cur w' c) (hg : (wr.alloc x).grownBy w' (some c)) : drawRel W c lo hi w' o done := by
  obtain ⟨h1, h2, h3, h4⟩ := h
  exact ⟨(h1.stay (bAl (Below.refl _ _) _)).keptCur hg hW, hc, h3.trans ((World.grownBy_alloc wr x _).trans hg), h4⟩
end Go.Proofs.Ytbndfohnkdhgeaa
