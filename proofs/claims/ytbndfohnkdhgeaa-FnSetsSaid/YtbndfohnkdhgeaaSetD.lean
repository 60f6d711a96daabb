/- Contracts of l05Set and DrawSet: a drawn set is valid and has one to five weights. -/
import Derived.Test.YtbndfohnkdhgeaaDrawL
import Derived.Test.YtbndfohnkdhgeaaSet
namespace Go.Proofs.Ytbndfohnkdhgeaa
open Go.RowKit

/-- How great a weight at place k can be. -/
def bnd : Nat → Int
  | 0 => 2
  | k + 1 => 3 * bnd k + 1
theorem bnd_le {k : Nat} (h : k ≤ 5) : 2 ≤ bnd k ∧ bnd k ≤ 607 := by
  rcases (show k = 0 ∨ k = 1 ∨ k = 2 ∨ k = 3 ∨ k = 4 ∨ k = 5 by omega) with rfl | rfl | rfl | rfl | rfl | rfl <;> decide
theorem getD_snoc (xs : List Int) (y : Int) (k : Nat) : (xs ++ [y]).getD k 0 = if k < xs.length then xs.getD k 0 else if k = xs.length then y else 0 := by
  by_cases h : k < xs.length
  · rw [if_pos h]; simp [List.getD, List.getElem?_append_left h]
  · rw [if_neg h]
    by_cases e : k = xs.length
    · rw [if_pos e]; subst e; simp [List.getD]
    · rw [if_neg e, List.getD, List.getElem?_eq_none (by simp; omega)]; rfl
theorem set_snoc {xs : List Int} {y : Int} (h : okTo (setP xs) xs.length = true) (hy : 1 ≤ y ∧ y ≤ 1000) (hl : ∀ x ∈ xs, x ≤ y) : okTo (setP (xs ++ [y])) (xs.length + 1) = true := by
  refine okTo_iff.2 fun k hk => ?_
  by_cases e : k < xs.length
  · have h1 := okTo_iff.1 h k e
    unfold setP at h1 ⊢
    rw [getD_snoc, getD_snoc, if_pos e, if_pos (by omega)]
    exact h1
  · have e2 : k = xs.length := by omega
    subst e2
    rw [setP, getD_snoc, if_neg (by omega), if_pos rfl, Bool.and_eq_true]
    refine ⟨inB_iff.2 hy, ?_⟩
    rw [Bool.or_eq_true]
    by_cases z : xs.length = 0
    · exact .inl (decide_eq_true z)
    · refine .inr (decide_eq_true ?_)
      rw [getD_snoc, if_pos (by omega)]
      refine hl _ ?_
      rw [List.getD, List.getElem?_eq_getElem (by omega)]
      exact List.getElem_mem _

def RetDSet (W : World) (c : Nat) (e : Ending) (w' : World) : Prop := ∃ v xs, e = .returned v ∧ OI w' W.heap.size v xs ∧ Cur w' c ∧ W.grownBy w' (some c) ∧ setB xs = true ∧ xs.length ≤ 5

set_option maxHeartbeats 1000000 in
theorem setDraw {w : World} {c : Nat} (hc : Cur w c) : Calls Try.prog 52 #[.pointer (some ⟨c, 0, none⟩)] w (RetDSet w c) := by
  have hW := hc.lt
  go_enter Try.func52, Try.ntmps52
  go_wp2_with fail
  refine (belowDraw (hc.alloc _) (by omega) (by omega)).mono ?_
  rintro e w1 ⟨n, hn0, hn1, rfl, hc1, hg1⟩
  have hst : drawRel w c 1 1000 w1 (.slice (some ⟨w.heap.size, 0, none⟩) 0 0) [] := .start hc1 ((World.grownBy_alloc w _ _).trans hg1) ((oi_empty w _ (Nat.le_refl _)).keptCur hg1 hW)
  obtain ⟨m, hm⟩ : ∃ m : Nat, 1 + n = (m : Int) := ⟨(1 + n).toNat, by omega⟩
  have HM : 1 ≤ m ∧ m ≤ 5 := by omega
  go_wp2_with fail
  refine (belowDraw hc1 (by omega) (by omega)).mono ?_
  rintro e w2 ⟨y0, hy0, hy1, rfl, hc2, hg2⟩
  have hst2 : drawRel w c 1 1000 w2 (.slice (some ⟨w.heap.size, 0, none⟩) 0 0) [] := ⟨hst.1.keptCur hg2 hW, hc2, hst.2.2.1.trans hg2, hst.2.2.2⟩
  clear hst hc1 hg1 hc2 hg2
  have e0 : IntKind.i64.wrap (1 + y0) = 1 + y0 := IntWalk.i64_in _ (by omega)
  obtain ⟨z0, hz0⟩ : ∃ z, 1 + y0 = z := ⟨_, rfl⟩
  rw [hz0] at e0
  have hzb : 1 ≤ z0 ∧ z0 ≤ 2 := by omega
  go_wp2
  go_loopw [3, 5, 6] (fun o x i wr => ∃ (k : Nat) (done : List Int) (y : Int), k ≤ m ∧ i = .int .i64 k ∧ x = .int .i64 y ∧ done.length = k ∧ Hid (okTo (setP done) done.length = true) ∧ (∀ u ∈ done, u ≤ y) ∧ 1 ≤ y ∧ y ≤ bnd k ∧ drawRel w c 1 1000 wr o done) (fun _ _ i _ => m - (intOf i).toNat)
  case atStart => exact ⟨0, [], z0, Nat.zero_le _, rfl, by first | rfl | rw [hz0], rfl, rfl, fun u hu => (by cases hu), hzb.1, hzb.2, hst2⟩
  case round =>
    clear hst2
    obtain ⟨k, done, y, hk, rfl, rfl, hdl, HS, hle, hy1, hy2, hrl⟩ := hrel
    have HDL := Lib.hid hdl
    clear hdl
    by_cases hlt : k < m
    · have hb4 : bnd k ≤ 202 := by rcases (show k = 0 ∨ k = 1 ∨ k = 2 ∨ k = 3 ∨ k = 4 by omega) with rfl | rfl | rfl | rfl | rfl <;> decide
      have hS2 := Lib.hid (set_snoc HS.out (y := y) ⟨hy1, by omega⟩ hle)
      go_wp2_with (first | (at_builtin; refine app_int rfl (.tmp 19) (.tmp 21) rfl rfl hrl.1 rfl hrl.2.2.1.size (by rw [HDL.out]; omega) ?_; intro v' w3 ho3 hg3) | fail)
      have h3 := hrl.step hW hrl.2.1 (World.grownBy.refl _ (some c)) ho3 hg3 ⟨hy1, by omega⟩
      have hw3 := h3.2.1.lt
      clear ho3 hg3
      have hl1 : OI (w3.alloc (.cells #[.int .i64 1, .int .i64 2, .int .i64 2, .int .i64 3, .int .i64 3] 3)) w3.heap.size (.slice (some ⟨w3.heap.size, 0, none⟩) 5 5) [1, 2, 2, 3, 3] := oi_row w3 [1, 2, 2, 3, 3] 5 rfl (by decide)
      go_wp2_with fail
      refine (pickDraw (lo := 1) (hi := 3) (h3.2.1.alloc _) hl1 hw3 (by simp) (by simp) (by intro x hx; simp at hx; omega)).mono ?_
      rintro e w4 ⟨a, ha1, ha2, rfl, hc4, hg4⟩
      have h4 := h3.lit hW hc4 hg4
      have hw4 := h4.2.1.lt
      clear h3 hc4 hg4 hl1
      have hl2 : OI (w4.alloc (.cells #[.int .i64 0, .int .i64 0, .int .i64 0, .int .i64 1] 3)) w4.heap.size (.slice (some ⟨w4.heap.size, 0, none⟩) 4 4) [0, 0, 0, 1] := oi_row w4 [0, 0, 0, 1] 4 rfl (by decide)
      go_wp2_with fail
      refine (pickDraw (lo := 0) (hi := 1) (h4.2.1.alloc _) hl2 hw4 (by simp) (by simp) (by intro x hx; simp at hx; omega)).mono ?_
      rintro e w5 ⟨b, hb1, hb2, rfl, hc5, hg5⟩
      have h5 := h4.lit hW hc5 hg5
      clear h4 hc5 hg5 hl2
      have hya : y ≤ y * a ∧ y * a ≤ 3 * y := by rcases (show a = 1 ∨ a = 2 ∨ a = 3 by omega) with rfl | rfl | rfl <;> omega
      have e1 : IntKind.i64.wrap (y * a) = y * a := IntWalk.i64_in _ (by omega)
      have e2 : IntKind.i64.wrap (y * a + b) = y * a + b := IntWalk.i64_in _ (by omega)
      have hle2 : ∀ u ∈ done ++ [y], u ≤ y * a + b := fun u hu => by
        rcases List.mem_append.1 hu with q | q
        · have := hle u q; omega
        · rw [List.mem_singleton.1 q]; omega
      have hbk : y * a + b ≤ bnd (k + 1) := by rw [bnd]; omega
      go_wp2
      go_roundw
      case rel => exact ⟨k + 1, done ++ [y], y * a + b, by omega, by go_num, by rw [← IntWalk.i64_left (y * a), e1, ← IntWalk.i64_left, e2], by rw [List.length_append, HDL.out]; rfl, by rw [List.length_append]; exact hS2.out, hle2, by omega, hbk, h5⟩
      case measure => simp [intOf]; omega
    · have hkm : k = m := by omega
      have hset : setB done = true := by rw [setB, HS.out, HDL.out]; exact inB_iff.2 (by omega)
      replace hset := Lib.hid hset
      go_wp2
      go_ret
      exact ⟨_, done, rfl, hrl.1, hrl.2.1, hrl.2.2.1, hset.out, by rw [HDL.out]; omega⟩

def RetSet0 (W : World) (e : Ending) (w' : World) : Prop := ∃ v xs, e = .returned v ∧ OI w' W.heap.size v xs ∧ Below W.heap.size W w' ∧ setB xs = true ∧ xs.length ≤ 5
theorem drawSet {w : World} {a : Option Addr} {len cap : Nat} {zs : List Int} (hr : IsRow .u8 w a len cap zs) : Calls Try.prog 31 #[.slice a len cap] w (RetSet0 w) := by
  go_enter Try.func31, Try.ntmps31
  go_wp2_with fail
  refine (newDraw hr).mono ?_
  rintro e w1 ⟨c, rfl, hc1, hcw, b1⟩
  go_wp2_with fail
  refine (setDraw hc1).mono ?_
  rintro e w2 ⟨v, xs, rfl, ho, hc2, hg2, hs, hl⟩
  go_wp2
  go_ret
  exact ⟨v, xs, rfl, ho.mono b1.size, grown_below b1 hg2 hcw, hs, hl⟩
end Go.Proofs.Ytbndfohnkdhgeaa
