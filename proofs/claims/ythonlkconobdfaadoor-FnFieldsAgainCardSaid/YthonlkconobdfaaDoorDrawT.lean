/- Contracts of the reference's draws of texts: l01Long, l01Text, DrawEncodeHex. -/
import Derived.Test.YthonlkconobdfaaDoorDraw
import Derived.Test.YthonlkconobdfaaDoorStrs
namespace Go.Proofs.YthonlkconobdfaaDoor
open Go.RowKit

theorem Cur.alloc {w : World} {c : Nat} (h : Cur w c) (o : Obj) : Cur (w.alloc o) c := h.kept (World.grownBy_alloc w o none) (fun k hk => by cases hk)
theorem OB.keptCur {w w' : World} {base c : Nat} {v : Value} {xs : List Int} (h : OB w base v xs) (hg : w.grownBy w' (some c)) (hb : c < base) : OB w' base v xs := by
  refine World.ownsRow.kept h hg ?_
  cases e : v.ownBlock with
  | none => exact .inl rfl
  | some g => refine .inr fun e2 => ?_; have := (h.lt g e).1; have := Option.some.inj e2; omega

def RetLong (W : World) (n : Nat) (e : Ending) (w' : World) : Prop := ∃ s : ByteArray, e = .returned (.string s) ∧ s.size = n ∧ Below W.heap.size W w'

set_option maxHeartbeats 1000000 in
theorem longAny (n : Nat) (x : Int) (w : World) (hn : n ≤ 1000000) : Calls Tryd.prog 31 #[.int .i64 (n : Int), .int .u8 x] w (RetLong w n) := by
  obtain ⟨i0, hi, hz0, hz1, hz2⟩ := info_parts info_byte
  go_enter Tryd.func31, Tryd.ntmps31
  go_wp2_with (at_make; refine wpList_make_full _ rfl (.tmp 7) (.tmp 7) 30 rfl w.heap.size 5 i0 (.int .u8 0) 1 Tryd.underlying30 hi hz0 hz1 .i64 .i64 _ _ n rfl rfl rfl rfl (by rw [hz2]; omega) (by unfold maxLen; omega) (Nat.le_refl _) ?_; intro w1 hown1 hg1)
  have hr0 : ∃ xs : List Int, xs.length = n ∧ w1.ownsRow w.heap.size 5 1 (.slice (some ⟨w.heap.size, 0, none⟩) n n) n (xs.map (Value.int .u8)) := by
    refine ⟨List.replicate n 0, by simp, ?_⟩
    rw [List.map_replicate]
    have e : (madeCells (Value.int .u8 0).cells (n * 1)).toList = List.replicate n (Value.int .u8 0) := by rw [Nat.mul_one]; exact toList_madeCells_one _ _
    rw [← e]
    exact hown1
  have hnx : Below w.heap.size w w1 := (Below.refl _ _).grown hg1 (Nat.le_refl _) (fun _ e => by cases e)
  clear hg1 hown1
  go_loopw [6] (fun i wr => ∃ k : Nat, k ≤ n ∧ i = .int .i64 k ∧ Hid (∃ xs : List Int, xs.length = n ∧ wr.ownsRow w.heap.size 5 1 (.slice (some ⟨w.heap.size, 0, none⟩) n n) n (xs.map (Value.int .u8))) ∧ Below w.heap.size w wr) (fun i _ => n - (intOf i).toNat)
  case atStart => exact ⟨0, Nat.zero_le _, rfl, hr0, hnx⟩
  case round =>
    clear hr0 hnx
    obtain ⟨k, hk, rfl, HR, hb⟩ := hrel
    by_cases hlt : k < n
    · obtain ⟨xs, hl, hown⟩ := HR.out
      have i1 := indexAt_some Tryd.underlying30 hi hz1 (g := w.heap.size) rfl hlt .i64 (cap := n)
      have hf := hown.frozenAt k
      obtain ⟨u, c1⟩ : ∃ u, wr.cell? ⟨w.heap.size, k, none⟩ = some u := by
        rw [hown.cellAt k (by omega)]
        exact ⟨_, List.getElem?_eq_getElem (by simp; omega)⟩
      have hst := (hown.stored k (.int .u8 x)).1
      rw [← List.map_set] at hst
      replace hl := Lib.hid hl
      go_wp2
      go_roundw
      case rel => exact ⟨k + 1, by omega, by go_num, ⟨xs.set k x, by rw [List.length_set]; exact hl.out, hst⟩, hb.setCell (Nat.le_refl _) _⟩
      case measure => simp [intOf]; omega
    · obtain ⟨xs, hl, hown⟩ := HR.out
      have hown : OB wr w.heap.size (.slice (some ⟨w.heap.size, 0, none⟩) n n) xs := by unfold OB; rw [hl]; exact hown
      have hcv := own_string hown wr rfl
      have hs := bstr_size xs
      replace hl := Lib.hid hl
      replace hs := Lib.hid hs
      go_wp2
      go_ret
      exact ⟨_, rfl, by rw [hs.out, hl.out], hb⟩

def RetText (W : World) (c n : Nat) (e : Ending) (w' : World) : Prop := ∃ s : ByteArray, e = .returned (.string s) ∧ s.size = n ∧ Cur w' c ∧ W.grownBy w' (some c)

/-- What holds at the head of a round that draws and appends. -/
def txtRel (W : World) (c : Nat) (wr : World) (o : Value) (done : List Int) : Prop := OB wr W.heap.size o done ∧ Cur wr c ∧ W.grownBy wr (some c)
theorem grown_ownB {w w1 w2 : World} {r : Option Nat} {base : Nat} {v : Value} {xs : List Int} (h : w.grownBy w1 r) (h2 : w1.grownBy w2 v.ownBlock) (ho : OB w1 base v xs) (hb : w.heap.size ≤ base) : w.grownBy w2 r :=
  ⟨h2.os.trans h.os, h2.tape.trans h.tape, h2.output.trans h.output, Nat.le_trans h.size h2.size, fun k hk hne => by
    have h3 := h.size
    rw [h2.block k (by omega) (fun e => by have := (ho.lt k e.symm).1; omega)]
    exact h.block k hk hne⟩
theorem txtRel.step {W wr w1 w2 : World} {c : Nat} {y : Int} {o o' : Value} {done : List Int} (hW : c < W.heap.size) (h : txtRel W c wr o done) (hc1 : Cur w1 c) (hg1 : wr.grownBy w1 (some c))
    (ho : OB w2 W.heap.size o' (done ++ [y])) (hg2 : w1.grownBy w2 o.ownBlock) : txtRel W c w2 o' (done ++ [y]) := by
  obtain ⟨h1, h2, h3⟩ := h
  have h5 := h1.keptCur hg1 hW
  refine ⟨ho, hc1.kept hg2 fun k hk => ?_, grown_ownB (h3.trans hg1) hg2 h5 (Nat.le_refl _)⟩
  have := (h5.lt k hk).1; omega

set_option maxHeartbeats 1000000 in
theorem textDraw {w : World} {c n : Nat} (hc : Cur w c) (hn : n ≤ 5000) : Calls Tryd.prog 33 #[.pointer (some ⟨c, 0, none⟩), .int .i64 (n : Int)] w (RetText w c n) := by
  have hW := hc.lt
  have hst : txtRel w c (w.alloc (.cells #[] 5)) (.slice (some ⟨w.heap.size, 0, none⟩) 0 0) [] := ⟨OB.made w _ (Nat.le_refl _), hc.alloc _, World.grownBy_alloc w _ _⟩
  have hd : decide ((5000 : Int) < (n : Int)) = false := decide_eq_false (by omega)
  go_enter Tryd.func33, Tryd.ntmps33
  go_wp2
  go_loopw [5, 6] (fun o i wr => ∃ (k : Nat) (done : List Int), k ≤ n ∧ i = .int .i64 k ∧ Hid (done.length = k) ∧ txtRel w c wr o done) (fun _ i _ => n - (intOf i).toNat)
  case atStart => exact ⟨0, [], Nat.zero_le _, rfl, rfl, hst⟩
  case round =>
    clear hst
    obtain ⟨k, done, hk, rfl, HDL, hrl⟩ := hrel
    by_cases hlt : k < n
    · go_wp2_with fail
      refine (byteDraw hrl.2.1).mono ?_
      rintro e w2 ⟨y, hy0, hy1, rfl, hc2, hg2⟩
      have e1 : IntKind.u8.wrap y = y := by rw [IntKind.wrap_u8]; omega
      go_wp2_with (first | (at_builtin; refine app_byte rfl (.tmp 15) (.tmp 19) rfl rfl (hrl.1.keptCur hg2 hW) rfl (Nat.le_trans hrl.2.2.size hg2.size) (by rw [HDL.out]; omega) ?_; intro v' w3 ho3 hg3) | fail)
      have hst := hrl.step hW hc2 hg2 ho3 hg3
      clear hg2 hc2 ho3 hg3
      go_wp2
      go_roundw
      case rel => exact ⟨k + 1, done ++ [y], by omega, by go_num, by unfold Hid; rw [List.length_append, HDL.out]; rfl, hst⟩
      case measure => simp [intOf]; omega
    · obtain rfl : k = n := by omega
      have hcv := own_string hrl.1 _ rfl
      have hs := bstr_size done
      replace hs := Lib.hid hs
      go_wp2
      go_ret
      exact ⟨_, rfl, by rw [hs.out, HDL.out], hrl.2.1, hrl.2.2⟩

/-- A call hands back a text; nothing that was there has turned. -/
def RetTx (W : World) (n : Nat) (e : Ending) (w' : World) : Prop := ∃ s : ByteArray, e = .returned (.string s) ∧ s.size ≤ n ∧ Below W.heap.size W w'

theorem drawEnc {w : World} {a : Option Addr} {len cap : Nat} {zs : List Int} (hr : IsRow .u8 w a len cap zs) : Calls Tryd.prog 15 #[.slice a len cap] w (RetTx w 20001) := by
  go_enter Tryd.func15, Tryd.ntmps15
  go_wp2_with fail
  refine (newDraw hr).mono ?_
  rintro e w1 ⟨c, rfl, hc1, hcw, b1⟩
  go_wp2_with fail
  refine (onceDraw hc1 (by omega) (by omega)).mono ?_
  rintro e w2 ⟨t, rfl, hc2, hg2⟩
  have b2 := grown_below b1 hg2 hcw
  cases t
  · go_wp2_with fail
    refine (belowDraw hc2 (by omega) (by omega)).mono ?_
    rintro e w3 ⟨x, hx0, hx1, rfl, hc3, hg3⟩
    have b3 := grown_below b2 hg3 hcw
    obtain ⟨n, rfl⟩ : ∃ n : Nat, x = (n : Int) := ⟨x.toNat, by omega⟩
    go_wp2_with fail
    refine (textDraw hc3 (by omega)).mono ?_
    rintro e w4 ⟨s, rfl, hs, hc4, hg4⟩
    have b4 := grown_below b3 hg4 hcw
    replace hs := Lib.hid hs
    go_wp2
    go_ret
    exact ⟨s, rfl, by rw [hs.out]; omega, b4⟩
  · go_wp2_with fail
    refine (belowDraw hc2 (by omega) (by omega)).mono ?_
    rintro e w3 ⟨x, hx0, hx1, rfl, hc3, hg3⟩
    have b3 := grown_below b2 hg3 hcw
    obtain ⟨n, hn⟩ : ∃ n : Nat, 20000 + x = (n : Int) := ⟨(20000 + x).toNat, by omega⟩
    have hn2 : n ≤ 20001 := by omega
    go_wp2_with fail
    refine (longAny n _ _ (by omega)).mono ?_
    rintro e w4 ⟨s, rfl, hs, b4⟩
    have b5 := bThen b3 b4
    replace hs := Lib.hid hs
    go_wp2
    go_ret
    exact ⟨s, rfl, by rw [hs.out]; omega, b5⟩
end Go.Proofs.YthonlkconobdfaaDoor
