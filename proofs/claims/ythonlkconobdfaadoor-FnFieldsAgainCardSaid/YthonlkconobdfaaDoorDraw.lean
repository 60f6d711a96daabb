/- Contracts of the reference's draws: l01New, l01Byte, l01Below, l01Once. What is drawn lies in its range; only the cursor's own block turns. -/
import Derived.Test.YthonlkconobdfaaDoorRows
import Derived.Test.YthonlkconobdfaaDoorPre
import Derived.WalkSpells
import Derived.BigQuiet
import Derived.Deep.QuietTactic
namespace Go.Proofs.YthonlkconobdfaaDoor
open Go.RowKit

/-- The cursor in block c: three cells; the code it reads lies elsewhere. -/
def Cur (w : World) (c : Nat) : Prop := ∃ (a : Option Addr) (len cap : Nat) (zs : List Int) (i : Nat) (h : Int),
  w.heap[c]? = some (.cells #[.slice a len cap, .int .i64 (i : Int), .int .i64 h] 62 (0, 0)) ∧ IsRow .u8 w a len cap zs ∧ (∀ x, a = some x → 0 < zs.length → x.block < c) ∧ i ≤ len

/-- A call has drawn a number from lo to hi; only the cursor's own block has turned. -/
def RetDraw (W : World) (c : Nat) (lo hi : Int) (e : Ending) (w' : World) : Prop := ∃ x : Int, lo ≤ x ∧ x ≤ hi ∧ e = .returned (.int .i64 x) ∧ Cur w' c ∧ W.grownBy w' (some c)

theorem i64and255 (n : Int) : bits .and .i64 n 255 = n % 256 := by
  have h255 : (BitVec.ofInt 64 255).toNat = 2 ^ 8 - 1 := by decide
  have key : (BitVec.ofInt 64 n &&& BitVec.ofInt 64 255).toNat = (n % ((2 ^ 64 : Nat) : Int)).toNat % 2 ^ 8 := by
    rw [BitVec.toNat_and, BitVec.toNat_ofInt, h255, Nat.and_two_pow_sub_one_eq_mod]
  show IntKind.i64.wrap ((BitVec.ofInt 64 n &&& BitVec.ofInt 64 255).toNat : Nat) = n % 256
  rw [key, IntKind.wrap_i64]
  omega
theorem and255_bd (n : Int) : 0 ≤ bits .and .i64 n 255 ∧ bits .and .i64 n 255 ≤ 255 := by rw [i64and255]; omega

/-- The cursor's block after stores into its cells 1 and 2. -/
theorem Cur.stored {w w' : World} {c : Nat} {a : Option Addr} {len cap : Nat} {zs : List Int} {i : Nat} {h : Int} (hb : w'.heap[c]? = some (.cells #[.slice a len cap, .int .i64 (i : Int), .int .i64 h] 62 (0, 0)))
    (hr : IsRow .u8 w a len cap zs) (hne : ∀ x, a = some x → 0 < zs.length → x.block < c) (hil : i ≤ len) (hg : w.grownBy w' (some c)) : Cur w' c := by
  refine ⟨a, len, cap, zs, i, h, hb, ?_, hne, hil⟩
  rcases hr with hr | ⟨x, hx, hl, hm, hz, hcell, hw⟩
  · exact .inl hr
  · refine .inr ⟨x, hx, hl, hm, hz, fun j hj => ?_, hw⟩
    refine hg.cell (hcell j hj) ?_
    rw [Addr.add_block]
    have h3 := hne x hx (by omega)
    simp only [ne_eq, Option.some.injEq]
    omega

theorem grown_drewN {a w : World} {r : Option Nat} (h : a.grownBy w r) (n : Nat) : a.grownBy (w.drewN n) r := ⟨h.os, h.tape, h.output, h.size, h.block⟩
theorem grown_setCell {a w : World} {c : Nat} (h : a.grownBy w (some c)) (o : Nat) (u : Value) : a.grownBy (w.setCell ⟨c, o, none⟩ u) (some c) :=
  h.trans ⟨rfl, rfl, rfl, by simp, fun k _ hk => heap_setCell_other w ⟨c, o, none⟩ k u (fun e => hk (by simp [e]))⟩

theorem Cur.one {w : World} {c : Nat} {a : Option Addr} {len cap : Nat} {zs : List Int} {i : Nat} {h : Int} (hb : w.heap[c]? = some (.cells #[.slice a len cap, .int .i64 (i : Int), .int .i64 h] 62 (0, 0)))
    (hr : IsRow .u8 w a len cap zs) (hne : ∀ x, a = some x → 0 < zs.length → x.block < c) (hil : i ≤ len) (h' : Int) : Cur (w.setCell ⟨c, 2, none⟩ (.int .i64 h')) c ∧ w.grownBy (w.setCell ⟨c, 2, none⟩ (.int .i64 h')) (some c) := by
  have hg := grown_setCell (World.grownBy.refl w (some c)) 2 (.int .i64 h')
  exact ⟨Cur.stored (heap_setCell_same w c 2 _ _ _ hb) hr hne hil hg, hg⟩
theorem Cur.two {w : World} {c : Nat} {a : Option Addr} {len cap : Nat} {zs : List Int} {i : Nat} {h : Int} (hb : w.heap[c]? = some (.cells #[.slice a len cap, .int .i64 (i : Int), .int .i64 h] 62 (0, 0)))
    (hr : IsRow .u8 w a len cap zs) (hne : ∀ x, a = some x → 0 < zs.length → x.block < c) (hil : i < len) (h' : Int) (n : Nat) :
    Cur (((w.setCell ⟨c, 2, none⟩ (.int .i64 h')).drewN n).setCell ⟨c, 1, none⟩ (.int .i64 ((i : Int) + 1))) c ∧ w.grownBy (((w.setCell ⟨c, 2, none⟩ (.int .i64 h')).drewN n).setCell ⟨c, 1, none⟩ (.int .i64 ((i : Int) + 1))) (some c) := by
  have hg := grown_setCell (grown_drewN (grown_setCell (World.grownBy.refl w (some c)) 2 (.int .i64 h')) n) 1 (.int .i64 ((i : Int) + 1))
  refine ⟨Cur.stored (i := i + 1) (h := h') ?_ hr hne hil hg, hg⟩
  have h1 := heap_setCell_same w c 2 _ _ (.int .i64 h') hb
  have h2 := heap_setCell_same ((w.setCell ⟨c, 2, none⟩ (.int .i64 h')).drewN n) c 1 _ _ (.int .i64 ((i : Int) + 1)) h1
  rw [h2]
  simp
theorem Cur.lt {w : World} {c : Nat} (h : Cur w c) : c < w.heap.size := by
  obtain ⟨a, len, cap, zs, i, q, hb, _⟩ := h
  exact (Array.getElem?_eq_some_iff.1 hb).1
/-- A cursor stays while blocks behind it are written or made. -/
theorem Cur.kept {w w' : World} {c : Nat} {row : Option Nat} (h : Cur w c) (hg : w.grownBy w' row) (hrow : ∀ k, row = some k → c < k) : Cur w' c := by
  have hlt := h.lt
  obtain ⟨a, len, cap, zs, i, q, hb, hr, hne, hil⟩ := h
  refine ⟨a, len, cap, zs, i, q, ?_, ?_, hne, hil⟩
  · rw [hg.block c hlt (fun e => by have := hrow c e.symm; omega)]; exact hb
  · rcases hr with hr | ⟨x, hx, hl, hm, hz, hcell, hw⟩
    · exact .inl hr
    · refine .inr ⟨x, hx, hl, hm, hz, fun j hj => hg.cell (hcell j hj) ?_, hw⟩
      have h3 := hne x hx (by omega)
      rw [Addr.add_block]
      intro e
      have := hrow _ e.symm
      omega
/-- A slice of the call's own stays while the cursor turns. -/
theorem OI.keptCur {w w' : World} {base c : Nat} {v : Value} {xs : List Int} (h : OI w base v xs) (hg : w.grownBy w' (some c)) (hb : c < base) : OI w' base v xs := by
  refine World.ownsRow.kept h hg ?_
  cases e : v.ownBlock with
  | none => exact .inl rfl
  | some g => refine .inr fun e2 => ?_; have := (h.lt g e).1; have := Option.some.inj e2; omega
/-- First the cursor has turned, then a block that is new. -/
theorem grown_own {w w1 w2 : World} {r : Option Nat} {base : Nat} {v : Value} {xs : List Int} (h : w.grownBy w1 r) (h2 : w1.grownBy w2 v.ownBlock) (ho : OI w1 base v xs) (hb : w.heap.size ≤ base) : w.grownBy w2 r :=
  ⟨h2.os.trans h.os, h2.tape.trans h.tape, h2.output.trans h.output, Nat.le_trans h.size h2.size, fun k hk hne => by
    have h3 := h.size
    rw [h2.block k (by omega) (fun e => by have := (ho.lt k e.symm).1; omega)]
    exact h.block k hk hne⟩
theorem grown_below {a w w' : World} {c : Nat} (h : Below a.heap.size a w) (hg : w.grownBy w' (some c)) (hc : a.heap.size ≤ c) : Below a.heap.size a w' :=
  h.grown hg h.size fun k hk => by have := Option.some.inj hk; omega
theorem Cur.drewN {w : World} {c : Nat} (h : Cur w c) (n : Nat) : Cur (w.drewN n) c := h

theorem byteDraw {w : World} {c : Nat} (hc : Cur w c) : Calls Tryd.prog 43 #[.pointer (some ⟨c, 0, none⟩)] w (RetDraw w c 0 255) := by
  obtain ⟨a, len, cap, zs, i, h, hb, hr, hne, hil⟩ := hc
  have c0 : w.cell? ⟨c, 0, none⟩ = some (.slice a len cap) := by rw [cell_of_row w c 0 _ _ _ hb]; rfl
  have c1 : w.cell? ⟨c, 1, none⟩ = some (.int .i64 (i : Int)) := by rw [cell_of_row w c 1 _ _ _ hb]; rfl
  have c2 : w.cell? ⟨c, 2, none⟩ = some (.int .i64 h) := by rw [cell_of_row w c 2 _ _ _ hb]; rfl
  have f1 : w.frozen? ⟨c, 1, none⟩ = false := frozen_of_row w c 1 _ _ hb
  have f2 : w.frozen? ⟨c, 2, none⟩ = false := frozen_of_row w c 2 _ _ hb
  obtain ⟨x, hlc, hcm, hzl, htl, hwf, hx⟩ := hr.view
  unfold maxLen at hcm
  by_cases hlt : i < len
  · obtain ⟨rfl, hxb, hc⟩ := hx i hlt
    have hcb : x.block ≠ c := by have := hne x rfl (by omega); omega
    obtain ⟨y, hy⟩ : ∃ y, y = (zs.take len).getD i 0 := ⟨_, rfl⟩
    rw [← hy] at hc
    clear hx hy hwf hzl htl
    have hcs : ∀ u, (w.setCell ⟨c, 2, none⟩ u).cell? (x.add i) = some (.int .u8 y) := fun u => by
      rw [World.cell?_of_block (w := w)]
      · exact hc
      · exact Below.heap_setCell _ _ _ _ (by rw [Addr.add_block]; exact hcb)
    have hin : ∀ w', (Instr.indexAt 30 (.slice (some x) len cap) (.int .i64 (i : Int))).run Tryd.prog w' = .ok (.pointer (some (x.add i))) w' := by
      obtain ⟨i0, hi, hz0, hz1, _⟩ := info_parts (show (Tryd.prog.info? 5).map (fun i => (i.zero, i.size, i.bytes)) = some (some (.int .u8 0), 1, 1) by kernel_rfl)
      exact indexAt_any Tryd.underlying30 hi hz1 rfl hlt .i64
    have hd : decide ((i : Int) < (len : Int)) = true := decide_eq_true (by omega)
    go_enter Tryd.func43, Tryd.ntmps43
    go_wp2
    go_quiet (fail)
    go_wp2
    go_quiet (fail)
    go_wp2
    go_quiet (fail)
    go_wp2
    go_ret
    have H := Cur.two hb hr hne hlt (wrap64 (wrap64 (h * 6364136223846793005) + 1442695040888963407))
    exact ⟨_, (and255_bd _).1, (and255_bd _).2, rfl, (H _).1, (H _).2⟩
  · have hd : decide ((i : Int) < (len : Int)) = false := decide_eq_false (by omega)
    go_enter Tryd.func43, Tryd.ntmps43
    go_wp2
    go_quiet (fail)
    go_wp2
    go_quiet (fail)
    go_wp2
    go_ret
    have H := Cur.one hb hr hne hil (wrap64 (wrap64 (h * 6364136223846793005) + 1442695040888963407))
    exact ⟨_, (and255_bd _).1, (and255_bd _).2, rfl, (H.1.drewN _).drewN _, grown_drewN (grown_drewN H.2 _) _⟩

theorem belowDraw {w : World} {c : Nat} {n : Int} (hc : Cur w c) (h1 : 1 ≤ n) (h2 : n ≤ 1099511627776) : Calls Tryd.prog 32 #[.pointer (some ⟨c, 0, none⟩), .int .i64 n] w (RetDraw w c 0 (n - 1)) := by
  by_cases hs : n ≤ 256
  · go_enter Tryd.func32, Tryd.ntmps32
    go_wp2_with fail
    refine (byteDraw hc).mono ?_
    rintro e w1 ⟨x, hx0, hx1, rfl, hc1, hg1⟩
    have hm1 := Int.emod_nonneg x (b := n) (by omega)
    have hm2 := Int.emod_lt_of_pos x (b := n) (by omega)
    go_wp2
    go_ret
    exact ⟨_, hm1, by omega, rfl, hc1, hg1⟩
  · go_enter Tryd.func32, Tryd.ntmps32
    go_wp2_with fail
    refine (byteDraw hc).mono ?_
    rintro e w1 ⟨x1, hx1, hy1, rfl, hc1, hg1⟩
    go_wp2_with fail
    refine (byteDraw hc1).mono ?_
    rintro e w2 ⟨x2, hx2, hy2, rfl, hc2, hg2⟩
    go_wp2_with fail
    refine (byteDraw hc2).mono ?_
    rintro e w3 ⟨x3, hx3, hy3, rfl, hc3, hg3⟩
    go_wp2_with fail
    refine (byteDraw hc3).mono ?_
    rintro e w4 ⟨x4, hx4, hy4, rfl, hc4, hg4⟩
    have hm1 := Int.emod_nonneg (x1 * 16777216 + x2 * 65536 + x3 * 256 + x4) (b := n) (by omega)
    have hm2 := Int.emod_lt_of_pos (x1 * 16777216 + x2 * 65536 + x3 * 256 + x4) (b := n) (by omega)
    go_wp2
    go_ret
    exact ⟨_, hm1, by omega, rfl, hc4, ((hg1.trans hg2).trans hg3).trans hg4⟩

def RetOnce (W : World) (c : Nat) (e : Ending) (w' : World) : Prop := ∃ b : Bool, e = .returned (.bool b) ∧ Cur w' c ∧ W.grownBy w' (some c)
theorem onceDraw {w : World} {c : Nat} {n : Int} (hc : Cur w c) (h1 : 1 ≤ n) (h2 : n ≤ 1099511627776) : Calls Tryd.prog 30 #[.pointer (some ⟨c, 0, none⟩), .int .i64 n] w (RetOnce w c) := by
  go_enter Tryd.func30, Tryd.ntmps30
  go_wp2_with fail
  refine (belowDraw hc h1 h2).mono ?_
  rintro e w1 ⟨x, hx0, hx1, rfl, hc1, hg1⟩
  go_wp2
  go_ret
  exact ⟨_, rfl, hc1, hg1⟩

/-- A new cursor over the code. -/
def RetNew (W : World) (e : Ending) (w' : World) : Prop := ∃ c, e = .returned (.pointer (some ⟨c, 0, none⟩)) ∧ Cur w' c ∧ W.heap.size ≤ c ∧ Below W.heap.size W w'

theorem newCur {w : World} {a : Option Addr} {len cap : Nat} {zs : List Int} (hr : IsRow .u8 w a len cap zs) (q : Int) :
    RetNew w (.returned (.pointer (some ⟨w.heap.size, 0, none⟩))) (w.alloc (.cells #[.slice a len cap, .int .i64 0, .int .i64 q] 62)) := by
  have hb : Below w.heap.size w (w.alloc (.cells #[.slice a len cap, .int .i64 0, .int .i64 q] 62)) := (Below.refl _ _).alloc (Nat.le_refl _) _
  refine ⟨w.heap.size, rfl, ⟨a, len, cap, zs, 0, q, heap_alloc_new w _, hr.below hb, ?_, Nat.zero_le _⟩, Nat.le_refl _, hb⟩
  intro x hx h0
  rcases hr with ⟨h1, _⟩ | ⟨y, hy, hl, hm, hz, hcell, _⟩
  · rw [h1] at hx; cases hx
  · rw [hx] at hy
    obtain rfl := Option.some.inj hy
    have := World.cell_lt (hcell 0 h0)
    rw [Addr.add_block] at this
    omega

set_option maxRecDepth 100000 in
theorem newDraw {w : World} {a : Option Addr} {len cap : Nat} {zs : List Int} (hr : IsRow .u8 w a len cap zs) : Calls Tryd.prog 29 #[.slice a len cap] w (RetNew w) := by
  obtain ⟨x, hlc, hcm, hzl, htl, hwf, hx⟩ := hr.view
  unfold maxLen at hcm
  go_enter Tryd.func29, Tryd.ntmps29
  go_wp2
  go_loop [3, 4] (fun h i => ∃ (k : Nat) (q : Int), k ≤ len ∧ i = .int .i64 k ∧ h = .int .i64 q) (fun _ i => len - (intOf i).toNat)
  case atStart => exact ⟨0, _, Nat.zero_le _, rfl, rfl⟩
  case round =>
    obtain ⟨k, q, hk, rfl, rfl⟩ := hrel
    by_cases hlt : k < len
    · obtain ⟨rfl, hxb, hc⟩ := hx k hlt
      have hd : decide ((k : Int) < (len : Int)) = true := decide_eq_true (by omega)
      have hin : ∀ w', (Instr.indexAt 30 (.slice (some x) len cap) (.int .i64 (k : Int))).run Tryd.prog w' = .ok (.pointer (some (x.add k))) w' := by
        obtain ⟨i0, hi, hz0, hz1, _⟩ := info_parts (show (Tryd.prog.info? 5).map (fun i => (i.zero, i.size, i.bytes)) = some (some (.int .u8 0), 1, 1) by kernel_rfl)
        exact indexAt_any Tryd.underlying30 hi hz1 rfl hlt .i64
      obtain ⟨y, hy⟩ : ∃ y, y = (zs.take len).getD k 0 := ⟨_, rfl⟩
      rw [← hy] at hc
      clear hx hy hwf hzl htl
      go_wp2
      · go_round
        case rel => exact ⟨k + 1, _, by omega, by go_num, rfl⟩
        case measure => simp [intOf]; omega
      · go_ret
        exact newCur hr q
    · have hd : decide ((k : Int) < (len : Int)) = false := decide_eq_false (by omega)
      clear hx hwf hzl htl
      go_wp2
      go_ret
      exact newCur hr q
end Go.Proofs.YthonlkconobdfaaDoor
