/- Slices of strings of the call's own, and the laws' helpers markText, eqStringS, markStringS, heldStringS. -/
import Derived.Test.YthonlkconobdfaaDoorByt
import Derived.Deep.RegionHeld3
namespace Go.Proofs.YthonlkconobdfaaDoor
open Go.RowKit

theorem info_str : (Tryd.prog.info? 9).map (fun i => (i.zero, i.size, i.bytes)) = some (some (.string ByteArray.empty), 1, 16) := by kernel_rfl

/-- A slice of strings of the call's own, in a block from 'base' on: it holds ls. -/
def OS (w : World) (base : Nat) (v : Value) (ls : List ByteArray) : Prop := w.ownsRow base 9 1 v ls.length (ls.map Value.string)

theorem OS.nil (w : World) (base : Nat) : OS w base (.slice none 0 0) [] := World.ownsRow_nil _ _ _ _
theorem OS.made (w : World) (base : Nat) (hb : base ≤ w.heap.size) : OS (w.alloc (.cells #[] 9)) base (.slice (some ⟨w.heap.size, 0, none⟩) 0 0) [] :=
  World.ownsRow_made w #[] 0 hb (Nat.zero_le _) rfl
theorem OS.drewN {w : World} {base : Nat} {v : Value} {ls : List ByteArray} (h : OS w base v ls) (n : Nat) : OS (w.drewN n) base v ls := h
theorem OS.lt {w : World} {base : Nat} {v : Value} {ls : List ByteArray} (h : OS w base v ls) : ∀ g, v.ownBlock = some g → base ≤ g ∧ g < w.heap.size := fun g hg => World.ownsRow.lt h g hg
theorem OS.below {w w' : World} {base : Nat} {v : Value} {ls : List ByteArray} {B : Nat} (h : OS w base v ls) (hb : Below B w w') (hB : ∀ g, v.ownBlock = some g → g < B) : OS w' base v ls := by
  obtain ⟨h1, h2⟩ := h
  refine ⟨h1, ?_⟩
  rcases h2 with h2 | ⟨g, cap, cur, hv, hg, hh, r⟩
  · exact Or.inl h2
  · exact Or.inr ⟨g, cap, cur, hv, hg, by rw [hb.block g (hB g (by rw [hv]; rfl))]; exact hh, r⟩
theorem OS.stay {w w' : World} {base : Nat} {v : Value} {ls : List ByteArray} (h : OS w base v ls) (hb : Below w.heap.size w w') : OS w' base v ls := h.below hb fun g hg => (h.lt g hg).2
theorem OS.mono {w : World} {base base' : Nat} {v : Value} {ls : List ByteArray} (h : OS w base v ls) (hb : base' ≤ base) : OS w base' v ls := by
  obtain ⟨h1, h2⟩ := h
  refine ⟨h1, ?_⟩
  rcases h2 with h2 | ⟨g, cap, cur, hv, hg, r⟩
  · exact Or.inl h2
  · exact Or.inr ⟨g, cap, cur, hv, by omega, r⟩

/-- The string at k. -/
def strAt (ls : List ByteArray) (k : Nat) : ByteArray := ls.getD k ByteArray.empty

theorem OS.view {w : World} {base : Nat} {v : Value} {ls : List ByteArray} (h : OS w base v ls) :
    ∃ ad cap g, v = .slice ad ls.length cap ∧ ls.length ≤ cap ∧ cap ≤ maxLen ∧ (ad = none → ls.length = 0) ∧
      (∀ i, i < ls.length → ad = some ⟨g, 0, none⟩ ∧ base ≤ g ∧ g < w.heap.size ∧ w.cell? ⟨g, i, none⟩ = some (.string (strAt ls i)) ∧ w.frozen? ⟨g, i, none⟩ = false) := by
  obtain ⟨h1, h2⟩ := h
  rcases h2 with ⟨rfl, h2⟩ | ⟨g, cap, cur, rfl, hg, hh, hn, hm, hc, ht⟩
  · exact ⟨none, 0, 0, by rw [h2], by omega, Nat.zero_le _, fun _ => h2, fun i hi => absurd hi (by omega)⟩
  · refine ⟨_, cap, g, rfl, hn, hm, fun h => (by cases h), fun i hi => ⟨rfl, hg, ?_, ?_, ?_⟩⟩
    · have := (Array.getElem?_eq_some_iff.1 hh).1; exact this
    · rw [cell_of_row w g i cur _ (0, 0) hh]
      have : cur.toList[i]? = some (.string (strAt ls i)) := by
        have e : (cur.toList.take (ls.length * 1))[i]? = (ls.map Value.string)[i]? := by rw [ht]
        rw [List.getElem?_take, if_pos (by omega)] at e
        rw [e, List.getElem?_map, List.getElem?_eq_getElem hi, strAt, List.getD, List.getElem?_eq_getElem hi]; rfl
      simpa using this
    · exact frozen_of_row w g i cur _ hh

theorem OS.shape {w : World} {base : Nat} {v : Value} {ls : List ByteArray} (h : OS w base v ls) : ∃ ad cap, v = .slice ad ls.length cap ∧ ls.length ≤ 9223372036854775807 := by
  obtain ⟨ad, cap, g, hv, h1, h2, _⟩ := h.view
  unfold maxLen at h2
  exact ⟨ad, cap, hv, by omega⟩

/-- One append of one string. -/
theorem app_str {ops : Array Oper} {rest : List Oper} {o : Oper} {a : Act} {Q : Exit → Act → World → Prop} (hgd : o.guard = none) (s x : Operand)
    (hop : o.op = Op.call { callee := Callee.builtin Builtin.append, args := #[s, x], argTypes := #[35, 35] }) {w : World} {base : Nat} {v : Value} {ls : List ByteArray} {y : ByteArray} (hs : a.eval s = v) (h : OS w base v ls)
    (hx : a.eval x = .slice (some ⟨w.heap.size, 0, none⟩) 1 1) (hb : base ≤ w.heap.size) (hn : ls.length ≤ 1099511627)
    (hK : ∀ v' w', OS w' base v' (ls ++ [y]) → w.grownBy w' v.ownBlock → wpList Tryd.prog ops Q rest (a.put o.dst v') w') :
    wpList Tryd.prog ops Q (o :: rest) a (w.alloc (.cells #[.string y] 9)) := by
  obtain ⟨i0, hi, hz0, hz1, hz2⟩ := info_parts info_str
  refine wpList_append_own _ hgd s x 35 hop base 9 i0 (.string ByteArray.empty) 1 16 Tryd.underlying35 hi hz0 hz1 hz2 rfl (by decide) v ls.length (ls.map Value.string) hs (World.ownsRow.alloc h _)
    ⟨w.heap.size, 0, none⟩ 1 1 [.string y] hx rfl (cell_one_new _ _ _) (by intro u hu; rw [List.mem_singleton.1 hu]; rfl) (by unfold maxLen; omega) (by omega) (by simp; omega) ?_
  intro v' w' h1 h2 _
  refine hK v' w' ?_ ((World.grownBy_alloc w _ _).trans h2)
  unfold OS
  simpa using h1

theorem OB.lit (w : World) (x : Int) : OB (w.alloc (.cells #[.int .u8 x] 5)) w.heap.size (.slice (some ⟨w.heap.size, 0, none⟩) 1 1) [x] := by
  have h := World.ownsRow_lit (e := 5) (size := 1) w #[.int .u8 x] 1 (Nat.le_refl _) (by decide) rfl
  simpa [OB] using h

theorem ret_str {a b : ByteArray} (h : a = b) : Ending.returned (.string a) = .returned (.string b) := by rw [h]

/-- The digits of k ahead of t. -/
def mt (k : Int) (t : ByteArray) : ByteArray := if _h : k ≤ 0 then t else mt (k / 10) (bstr [48 + k % 10] ++ t)
  termination_by k.toNat
  decreasing_by omega
theorem mt_stop {k : Int} {t : ByteArray} (h : k ≤ 0) : mt k t = t := by rw [mt, dif_pos h]
theorem mt_go {k : Int} {t : ByteArray} (h : ¬ k ≤ 0) : mt k t = mt (k / 10) (bstr [48 + k % 10] ++ t) := by rw [mt, dif_neg h]
def mtx (k : Int) : ByteArray := if k ≤ 0 then ⟨#[109, 48]⟩ else ⟨#[109]⟩ ++ mt k ⟨#[]⟩
theorem bstr_size (xs : List Int) : (bstr xs).size = xs.length := by
  have : ∀ (xs : List Int) (r : ByteArray), (xs.foldl (fun r n => r.push (UInt8.ofNat n.toNat)) r).size = r.size + xs.length := by
    intro xs
    induction xs with
    | nil => intro r; rfl
    | cons x xs ih => intro r; rw [List.foldl_cons, ih]; simp; omega
  rw [bstr, this]
  simp

end Go.Proofs.YthonlkconobdfaaDoor
