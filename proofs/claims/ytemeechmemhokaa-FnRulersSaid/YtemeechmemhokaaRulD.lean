/- Contract of spec.DrawRuler: a ruler with 1 to 6 marks, each gap from 1 to 6. And laws.at with its value told. -/
import Derived.Test.YtemeechmemhokaaMirN
import Derived.Test.YtemeechmemhokaaAppAll
import Derived.Test.YtemeechmemhokaaDraw
import Derived.Test.YtemeechmemhokaaAt
import Derived.Deep.RegionLaw
namespace Go.Proofs.Ytemeechmemhokaa
open Go.RowKit

theorem Cur.alloc {w : World} {c : Nat} (h : Cur w c) (o : Obj) : Cur (w.alloc o) c := h.kept (World.grownBy_alloc w o none) (fun k hk => by cases hk)
/-- What holds at the head of a round that draws and appends. -/
def rulRel (W : World) (c : Nat) (wr : World) (o : Value) (done : List Int) : Prop := OI wr W.heap.size o done ∧ Cur wr c ∧ W.grownBy wr (some c)
theorem rulRel.step {W wr w1 w2 : World} {c : Nat} {y : Int} {o o' : Value} {done : List Int} (hW : c < W.heap.size) (h : rulRel W c wr o done) (hc1 : Cur w1 c) (hg1 : wr.grownBy w1 (some c))
    (ho : OI w2 W.heap.size o' (done ++ [y])) (hg2 : w1.grownBy w2 o.ownBlock) : rulRel W c w2 o' (done ++ [y]) := by
  obtain ⟨h1, h2, h3⟩ := h
  have h5 := h1.keptCur hg1 hW
  refine ⟨ho, hc1.kept hg2 fun k hk => ?_, grown_own (h3.trans hg1) hg2 h5 (Nat.le_refl _)⟩
  have := (h5.lt k hk).1; omega
def RetRul (W : World) (c : Nat) (e : Ending) (w' : World) : Prop := ∃ v gs, e = .returned v ∧ OI w' W.heap.size v (il (rul gs)) ∧ Cur w' c ∧ W.grownBy w' (some c) ∧ Gaps gs ∧ gs.length ≤ 5

theorem OI.cellN {w : World} {base cap N k : Nat} {ad : Option Addr} {xs : List Int} {x : Int} (h : OI w base (.slice ad N cap) xs) (hl : xs.length = N) (hk : k < N) (hx : x = xs.getD k 0) : w.cell? ⟨gOf ad, k, none⟩ = some (.int .i64 x) := by
  obtain ⟨y, HY, _, cy, _⟩ := h.atN hl hk
  rw [cy, HY.out, hx]

set_option maxHeartbeats 1000000 in
theorem rulDraw {w : World} {c : Nat} (hc : Cur w c) : Calls Try.prog 38 #[.pointer (some ⟨c, 0, none⟩)] w (RetRul w c) := by
  have hW := hc.lt
  go_enter Try.func38, Try.ntmps38
  go_wp2_with fail
  refine (belowDraw (hc.alloc _) (by omega) (by omega)).mono ?_
  rintro e w1 ⟨n, hn0, hn1, rfl, hc1, hg1⟩
  have hst : rulRel w c w1 (.slice (some ⟨w.heap.size, 0, none⟩) 1 1) (il (rul [])) := ⟨(oi_row w [0] 1 rfl (by decide)).keptCur hg1 hW, hc1, (World.grownBy_alloc w _ _).trans hg1⟩
  obtain ⟨m, rfl⟩ : ∃ m : Nat, n = (m : Int) := ⟨n.toNat, by omega⟩
  have HM : m ≤ 5 := by omega
  clear hc1 hg1
  go_wp2
  go_loopw [3, 5] (fun o i wr => ∃ (k : Nat) (gs : List Nat), k ≤ m ∧ i = .int .i64 k ∧ gs.length = k ∧ Hid (Gaps gs) ∧ rulRel w c wr o (il (rul gs))) (fun _ i _ => m - (intOf i).toNat)
  case atStart => exact ⟨0, [], Nat.zero_le _, rfl, rfl, (fun _ h => (by cases h) : Gaps []), hst⟩
  case round =>
    clear hst
    obtain ⟨k, gs, hk, rfl, hdl, HG, hrl⟩ := hrel
    have hil : (il (rul gs)).length = k + 1 := by rw [il_length, rul_length, hdl]
    by_cases hlt : k < m
    · obtain ⟨ad, cap, rfl⟩ := hrl.1.shapeN hil
      obtain ⟨x, HX, ix, cx, _⟩ := hrl.1.atN (k := k) hil (by omega)
      obtain ⟨X, hX⟩ : ∃ X, X = lastN (rul gs) := ⟨_, rfl⟩
      have hxX : x = (X : Int) := by rw [HX.out, il_getD, hX, lastN, rul_length, hdl, Nat.add_sub_cancel]
      have hXb : X ≤ 30 := by
        have := (desc_le HG.out).1
        rw [← rul_last, ← hX] at this
        omega
      subst hxX
      have e1 : IntKind.i64.wrap ((X : Int) + 1) = (X : Int) + 1 := IntWalk.i64_in _ (by omega)
      replace hX := Lib.hid hX
      replace HX := Lib.hid HX
      replace hdl := Lib.hid hdl
      replace hil := Lib.hid hil
      have hsz := hrl.2.2.size
      have hcq : Cur wr.drew c := hrl.2.1
      have hoq : OI wr.drew w.heap.size (.slice ad (k + 1) cap) (il (rul gs)) := hrl.1
      have hkl : k < k + 1 := Nat.lt_succ_self k
      go_wp2
      go_region_law ((first
        | (refine step_app (.tmp 14) (.tmp 23) (by rfl) (by rfl) h4 (by rfl) (by rfl) (by rfl) (Nat.le_trans hsz hs4) (by rw [hil.out]; omega) ?_; intro v' w5 ho5 hg5 _)
        | (go_simp; go_at_call 42; refine (belowDraw hcq (by omega) (by omega)).mono ?_; rintro e w4 ⟨y, hy0, hy1, rfl, hc4, hg4⟩; have h4 := hoq.keptCur hg4 hW; have c4 := h4.cellN hil.out hkl HX.out; have hg4 : wr.grownBy w4 (some c) := ⟨hg4.os, hg4.tape, hg4.output, hg4.size, hg4.block⟩; have hs4 := hg4.size; have e2 : IntKind.i64.wrap ((X : Int) + 1 + y) = (X : Int) + 1 + y := IntWalk.i64_in _ (by omega))))
      all_goals
        go_wp2
        obtain ⟨Y, rfl⟩ : ∃ Y : Nat, y = (Y : Int) := ⟨(y - 1 + 1).toNat, by omega⟩
        have hst : rulRel w c w5 v' (il (rul ((Y + 1) :: gs))) := by
          rw [rul_step, il_app, ← hX.out, show ((X + (Y + 1) : Nat) : Int) = (X : Int) + 1 + (Y : Int) from by omega]
          exact hrl.step hW hc4 hg4 ho5 hg5
        have hgn : Gaps ((Y + 1) :: gs) := fun z hz => by
          rcases List.mem_cons.1 hz with q | q
          · omega
          · exact HG.out z q
        have hgl : ((Y + 1) :: gs).length = k + 1 := by rw [List.length_cons, hdl.out]
        clear hg4 ho5 hg5 hc4 h4
        go_roundw
        case rel => exact ⟨k + 1, (Y + 1) :: gs, by omega, by go_num, hgl, hgn, hst⟩
        case measure => simp only [intOf]; omega
    · obtain rfl : k = m := by omega
      go_wp2
      go_ret
      exact ⟨_, gs, rfl, hrl.1, hrl.2.1, hrl.2.2, HG.out, by omega⟩

def RetRul0 (W : World) (e : Ending) (w' : World) : Prop := ∃ v gs, e = .returned v ∧ OI w' W.heap.size v (il (rul gs)) ∧ Below W.heap.size W w' ∧ Gaps gs ∧ gs.length ≤ 5
theorem drawRul {w : World} {a : Option Addr} {len cap : Nat} {zs : List Int} (hr : IsRow .u8 w a len cap zs) : Calls Try.prog 24 #[.slice a len cap] w (RetRul0 w) := by
  go_enter Try.func24, Try.ntmps24
  go_wp2_with fail
  refine (newDraw hr).mono ?_
  rintro e w1 ⟨c, rfl, hc1, hcw, b1⟩
  go_wp2_with fail
  refine (rulDraw hc1).mono ?_
  rintro e w2 ⟨v, xs, rfl, ho, hc2, hg2, hs, hl⟩
  go_wp2
  go_ret
  exact ⟨v, xs, rfl, ho.mono b1.size, grown_below b1 hg2 hcw, hs, hl⟩

/-- What laws.at gives. -/
def atV (len : Nat) (zs : List Int) (i : Int) : Int := if len = 0 then 0 else (zs.take len).getD ((i * 5 + 1) % (len : Int)).toNat 0
theorem lawsAtV {w : World} {a : Option Addr} {len cap : Nat} {zs : List Int} {i : Int} (h : IsRow .u8 w a len cap zs) (h0 : 0 ≤ i) (h1 : i ≤ 100) :
    Calls Try.prog 26 #[.slice a len cap, .int .i64 i] w fun e w' => 0 ≤ atV len zs i ∧ atV len zs i ≤ 255 ∧ e = .returned (.int .i64 (atV len zs i)) ∧ w = w' := by
  obtain ⟨x, hlc, hcm, hzl, htl, hwf, hx⟩ := h.view
  unfold maxLen at hcm
  clear h
  by_cases hz : len = 0
  · have hv : atV len zs i = 0 := by rw [atV, if_pos hz]
    rw [hv]
    have hz2 : ((len : Int) == 0) = true := by simpa using hz
    clear hz hv
    go_enter Try.func26, Try.ntmps26
    go_wp2
    go_ret
    exact ⟨by omega, by omega, rfl, rfl⟩
  · have hz2 : ((len : Int) == 0) = false := by simpa using hz
    obtain ⟨j, hj⟩ : ∃ j : Nat, (i * 5 + 1) % (len : Int) = (j : Int) := ⟨((i * 5 + 1) % (len : Int)).toNat, by rw [Int.toNat_of_nonneg (Int.emod_nonneg _ (by omega))]⟩
    have hv : atV len zs i = (zs.take len).getD j 0 := by rw [atV, if_neg hz, hj, Int.toNat_natCast]
    rw [hv]
    have hjl : j < len := by
      have := Int.emod_lt_of_pos (i * 5 + 1) (b := (len : Int)) (by omega)
      omega
    obtain ⟨rfl, hxb, hc⟩ := hx j hjl
    have hw := u8_bd (hwf ((zs.take len).getD j 0) (by
      rw [List.getD, List.getElem?_eq_getElem (by omega)]
      exact List.mem_of_mem_take (List.getElem_mem (by omega))))
    obtain ⟨y, hy⟩ : ∃ y, y = (zs.take len).getD j 0 := ⟨_, rfl⟩
    rw [← hy] at hc hw ⊢
    clear hx hy hwf hzl htl hv
    have hin : ∀ w', (Instr.indexAt 30 (.slice (some x) len cap) (.int .i64 (j : Int))).run Try.prog w' = .ok (.pointer (some (x.add j))) w' := by
      obtain ⟨i0, hi, hz0, hz1, _⟩ := info_parts (show (Try.prog.info? 5).map (fun i => (i.zero, i.size, i.bytes)) = some (some (.int .u8 0), 1, 1) by kernel_rfl)
      exact indexAt_any Try.underlying30 hi hz1 rfl hjl .i64
    go_enter Try.func26, Try.ntmps26
    go_wp2
    go_ret
    exact ⟨hw.1, hw.2, rfl, rfl⟩
end Go.Proofs.Ytemeechmemhokaa
