/- Contracts of l03Coins, l03Load and DrawWeighing: drawn coins and a drawn load are valid. -/
import Derived.Test.YtfbecjeogbjnpaaDraw
import Derived.Test.YtfbecjeogbjnpaaApp
namespace Go.Proofs.Ytfbecjeogbjnpaa
open Go.RowKit

/-- A call has made a list of drawn numbers, each from lo to hi. -/
def RetList (W : World) (c : Nat) (lo hi : Int) (n1 n2 : Nat) (e : Ending) (w' : World) : Prop :=
  ∃ v xs, e = .returned v ∧ OI w' W.heap.size v xs ∧ Cur w' c ∧ W.grownBy w' (some c) ∧ n1 ≤ xs.length ∧ xs.length ≤ n2 ∧ ∀ x ∈ xs, lo ≤ x ∧ x ≤ hi

/-- What holds at the head of a round that draws and appends. -/
def drawRel (W : World) (c : Nat) (lo hi : Int) (wr : World) (o : Value) (done : List Int) : Prop :=
  OI wr W.heap.size o done ∧ Cur wr c ∧ W.grownBy wr (some c) ∧ ∀ x ∈ done, lo ≤ x ∧ x ≤ hi

theorem drawRel.start {W w1 : World} {c : Nat} {lo hi : Int} (hc : Cur w1 c) (hg : W.grownBy w1 (some c)) {o : Value} (ho : OI w1 W.heap.size o []) : drawRel W c lo hi w1 o [] := ⟨ho, hc, hg, fun x hx => by cases hx⟩
theorem drawRel.step {W wr w1 w2 : World} {c : Nat} {lo hi y : Int} {o o' : Value} {done : List Int} (hW : c < W.heap.size) (h : drawRel W c lo hi wr o done) (hc1 : Cur w1 c) (hg1 : wr.grownBy w1 (some c))
    (ho : OI w2 W.heap.size o' (done ++ [y])) (hg2 : w1.grownBy w2 o.ownBlock) (hy : lo ≤ y ∧ y ≤ hi) : drawRel W c lo hi w2 o' (done ++ [y]) := by
  obtain ⟨h1, h2, h3, h4⟩ := h
  have h5 := h1.keptCur hg1 hW
  refine ⟨ho, hc1.kept hg2 fun k hk => ?_, grown_own (h3.trans hg1) hg2 h5 (Nat.le_refl _), fun x hx => ?_⟩
  · have := (h5.lt k hk).1; omega
  · rcases List.mem_append.1 hx with hx | hx
    · exact h4 x hx
    · rw [List.mem_singleton.1 hx]; exact hy

theorem alloc_made (w : World) (base : Nat) (hb : base ≤ w.heap.size) : OI (w.alloc (.cells #[] 3)) base (.slice (some ⟨w.heap.size, 0, none⟩) 0 0) [] :=
  World.ownsRow_made w #[] 0 hb (Nat.zero_le _) rfl
theorem Cur.alloc {w : World} {c : Nat} (h : Cur w c) (o : Obj) : Cur (w.alloc o) c := h.kept (World.grownBy_alloc w o none) (fun k hk => by cases hk)

theorem coinsDraw {w : World} {c : Nat} (hc : Cur w c) : Calls Try.prog 55 #[.pointer (some ⟨c, 0, none⟩)] w (RetList w c 0 29 1 8) := by
  have hW := hc.lt
  go_enter Try.func55, Try.ntmps55
  go_wp2_with fail
  refine (belowDraw (hc.alloc _) (by omega) (by omega)).mono ?_
  rintro e w1 ⟨n, hn0, hn1, rfl, hc1, hg1⟩
  have hst : drawRel w c 0 29 w1 (.slice (some ⟨w.heap.size, 0, none⟩) 0 0) [] := .start hc1 ((World.grownBy_alloc w _ _).trans hg1) ((alloc_made w _ (Nat.le_refl _)).keptCur hg1 hW)
  obtain ⟨m, hm⟩ : ∃ m : Nat, 1 + n = (m : Int) := ⟨(1 + n).toNat, by omega⟩
  have HM : 1 ≤ m ∧ m ≤ 8 := by omega
  go_wp2
  go_loopw [3, 5] (fun o i wr => ∃ (k : Nat) (done : List Int), k ≤ m ∧ i = .int .i64 k ∧ done.length = k ∧ drawRel w c 0 29 wr o done) (fun _ i _ => m - (intOf i).toNat)
  case atStart => exact ⟨0, [], Nat.zero_le _, rfl, rfl, hst⟩
  case round =>
    clear hst hc1 hg1
    obtain ⟨k, done, hk, rfl, hdl, hrl⟩ := hrel
    have HDL := Lib.hid hdl
    clear hdl
    by_cases hlt : k < m
    · go_wp2_with fail
      refine (belowDraw hrl.2.1 (by omega) (by omega)).mono ?_
      rintro e w2 ⟨y, hy0, hy1, rfl, hc2, hg2⟩
      go_wp2_with (at_builtin; refine app_int rfl (.tmp 15) (.tmp 18) rfl rfl (hrl.1.keptCur hg2 hW) rfl (Nat.le_trans hrl.2.2.1.size hg2.size) (by rw [HDL.out]; omega) ?_; intro v' w3 ho3 hg3)
      go_roundw
      case rel => exact ⟨k + 1, done ++ [y], by omega, by go_num, by rw [List.length_append, HDL.out]; rfl, hrl.step hW hc2 hg2 ho3 hg3 ⟨hy0, by omega⟩⟩
      case measure => simp [intOf]; omega
    · have hkm : k = m := by omega
      go_wp2
      go_ret
      exact ⟨_, done, rfl, hrl.1, hrl.2.1, hrl.2.2.1, by rw [HDL.out]; omega, by rw [HDL.out]; omega, hrl.2.2.2⟩

theorem loadDraw {w : World} {c m : Nat} (hc : Cur w c) (hm : m ≤ 100) : Calls Try.prog 56 #[.pointer (some ⟨c, 0, none⟩), .int .i64 (m : Int)] w (RetList w c (-1) 1 m m) := by
  have hW := hc.lt
  have hst : drawRel w c (-1) 1 (w.alloc (.cells #[] 3)) (.slice (some ⟨w.heap.size, 0, none⟩) 0 0) [] := .start (hc.alloc _) (World.grownBy_alloc w _ _) (alloc_made w _ (Nat.le_refl _))
  go_enter Try.func56, Try.ntmps56
  go_wp2
  go_loopw [5, 6] (fun o i wr => ∃ (k : Nat) (done : List Int), k ≤ m ∧ i = .int .i64 k ∧ done.length = k ∧ drawRel w c (-1) 1 wr o done) (fun _ i _ => m - (intOf i).toNat)
  case atStart => exact ⟨0, [], Nat.zero_le _, rfl, rfl, hst⟩
  case round =>
    clear hst
    obtain ⟨k, done, hk, rfl, hdl, hrl⟩ := hrel
    have HDL := Lib.hid hdl
    clear hdl
    by_cases hlt : k < m
    · go_wp2_with fail
      refine (belowDraw hrl.2.1 (by omega) (by omega)).mono ?_
      rintro e w2 ⟨y, hy0, hy1, rfl, hc2, hg2⟩
      go_wp2_with (at_builtin; refine app_int rfl (.tmp 13) (.tmp 17) rfl rfl (hrl.1.keptCur hg2 hW) rfl (Nat.le_trans hrl.2.2.1.size hg2.size) (by rw [HDL.out]; omega) ?_; intro v' w3 ho3 hg3)
      go_roundw
      case rel => exact ⟨k + 1, done ++ [y - 1], by omega, by go_num, by rw [List.length_append, HDL.out]; rfl, hrl.step hW hc2 hg2 ho3 hg3 ⟨by omega, by omega⟩⟩
      case measure => simp [intOf]; omega
    · have hkm : k = m := by omega
      go_wp2
      go_ret
      exact ⟨_, done, rfl, hrl.1, hrl.2.1, hrl.2.2.1, by rw [HDL.out]; omega, by rw [HDL.out]; omega, hrl.2.2.2⟩

def RetDW (W : World) (e : Ending) (w' : World) : Prop := ∃ v u xs ys, e = .returned (.tuple #[v, u]) ∧ OI w' W.heap.size v xs ∧ OI w' W.heap.size u ys ∧ Apart v u ∧ Below W.heap.size W w' ∧
  1 ≤ xs.length ∧ xs.length ≤ 8 ∧ ys.length = xs.length ∧ (∀ x ∈ xs, 0 ≤ x ∧ x ≤ 29) ∧ (∀ y ∈ ys, -1 ≤ y ∧ y ≤ 1)

theorem weighingDraw {w : World} {a : Option Addr} {len cap : Nat} {zs : List Int} (hr : IsRow .u8 w a len cap zs) : Calls Try.prog 33 #[.slice a len cap] w (RetDW w) := by
  go_enter Try.func33, Try.ntmps33
  go_wp2_with fail
  refine (newDraw hr).mono ?_
  rintro e w1 ⟨c, rfl, hc1, hcw, hb1⟩
  go_wp2_with fail
  refine (coinsDraw hc1).mono ?_
  rintro e w2 ⟨v, xs, rfl, ho2, hc2, hg2, hx1, hx2, hx3⟩
  obtain ⟨ad, cp, rfl, hm⟩ := ho2.shape
  go_wp2_with fail
  refine (loadDraw (m := xs.length) hc2 (by omega)).mono ?_
  rintro e w3 ⟨u, ys, rfl, ho3, hc3, hg3, hy1, hy2, hy3⟩
  have hx3' := Lib.hid hx3
  have hy3' := Lib.hid hy3
  clear hx3 hy3
  go_wp2
  go_ret2
  exact ⟨_, _, xs, ys, rfl, (ho2.keptCur hg3 hc1.lt).mono hb1.size, ho3.mono (Nat.le_trans hb1.size hg2.size), apart_new ho2 ho3, grown_below (grown_below hb1 hg2 hcw) hg3 hcw, hx1, hx2, by omega, hx3'.out, hy3'.out⟩
end Go.Proofs.Ytfbecjeogbjnpaa
