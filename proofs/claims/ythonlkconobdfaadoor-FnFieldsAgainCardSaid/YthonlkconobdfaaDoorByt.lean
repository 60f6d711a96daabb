/- Slices of bytes of the call's own: one append; what string(..) makes of them; the bytes of a string. -/
import Derived.Test.YthonlkconobdfaaDoorRows
import Derived.Test.YthonlkconobdfaaDoorInts
import Derived.Maps.AppendAt
import Derived.Laws.BytesString
import Derived.Laws.IdiomStrings
namespace Go.Proofs.YthonlkconobdfaaDoor
open Go.RowKit

theorem info_byte : (Tryd.prog.info? 5).map (fun i => (i.zero, i.size, i.bytes)) = some (some (.int .u8 0), 1, 1) := by kernel_rfl

theorem add_off (g j : Nat) : (⟨g, 0, none⟩ : Addr).add j = ⟨g, j, none⟩ := by
  simp [Addr.add]
  exact fun h => h.symm

/-- A slice of bytes of the call's own, in a block from 'base' on: it holds xs. -/
def OB (w : World) (base : Nat) (v : Value) (xs : List Int) : Prop := w.ownsRow base 5 1 v xs.length (xs.map (Value.int .u8))

theorem OB.nil (w : World) (base : Nat) : OB w base (.slice none 0 0) [] := World.ownsRow_nil _ _ _ _
theorem OB.made (w : World) (base : Nat) (hb : base ≤ w.heap.size) : OB (w.alloc (.cells #[] 5)) base (.slice (some ⟨w.heap.size, 0, none⟩) 0 0) [] :=
  World.ownsRow_made w #[] 0 hb (Nat.zero_le _) rfl
theorem OB.drewN {w : World} {base : Nat} {v : Value} {xs : List Int} (h : OB w base v xs) (n : Nat) : OB (w.drewN n) base v xs := h
theorem OB.lt {w : World} {base : Nat} {v : Value} {xs : List Int} (h : OB w base v xs) : ∀ g, v.ownBlock = some g → base ≤ g ∧ g < w.heap.size := fun g hg => World.ownsRow.lt h g hg

/-- One append of a few bytes, as one step of a region that draws its order. -/
theorem step_appB {o : Oper} {a : Act} {K : Act → World → Prop} {Q : Exit → Act → World → Prop} (s x : Operand)
    (hop : o.op = Op.call { callee := Callee.builtin Builtin.append, args := #[s, x], argTypes := #[30, 30] }) {w : World} {base : Nat} {v : Value} {xs : List Int} (ys : List Int) {W : World} {b m : Nat} {C : Array Value} (hs : a.eval s = v) (h : OB w base v xs)
    (hW : W = w.alloc (.cells C 5)) (hC : C = (ys.map (Value.int .u8)).toArray) (hbk : b = w.heap.size) (hm : ys.length = m) (hx : a.eval x = .slice (some ⟨b, 0, none⟩) m m) (hb : base ≤ w.heap.size) (hn : xs.length + ys.length ≤ 1099511627776)
    (hK : ∀ v' w', OB w' base v' (xs ++ ys) → w.grownBy w' v.ownBlock → K (a.put o.dst v') w') :
    o.wp Tryd.prog a W K Q := by
  obtain ⟨i0, hi, hz0, hz1, hz2⟩ := info_parts info_byte
  subst hW
  subst hbk
  subst hm
  subst hC
  obtain ⟨v', w', hr, h2, h3, _, h5⟩ := run_append_own_at (P := Tryd.prog) (w.alloc (.cells (ys.map (Value.int .u8)).toArray 5)) base 30 o.type 5 i0 (.int .u8 0) 1 1 Tryd.underlying30 hi hz0 hz1 hz2 rfl (by decide) v xs.length (xs.map (Value.int .u8)) (World.ownsRow.alloc h _)
    ⟨w.heap.size, 0, none⟩ ys.length ys.length (ys.map (Value.int .u8)) (by simp) (by
      intro j u hj
      rw [show (⟨w.heap.size, 0, none⟩ : Addr).add j = ⟨w.heap.size, j, none⟩ from add_off _ _, cell_of_row _ _ _ _ _ _ (heap_alloc_new _ _)]
      simpa using hj) (ints_oneCell .u8 ys) (by unfold maxLen; omega) (by omega) (by simp; omega)
  have hK2 : K (a.put o.dst v') w' := by
    refine hK v' w' ?_ ((World.grownBy_alloc w _ _).trans h3)
    unfold OB
    simpa using h2
  unfold Oper.wp execOp
  simp only [hop, resolve, invoke, builtin, Sem.run_bind, Sem.run_pure, Result.andThen_ok, List.map_toArray, List.map_cons, List.map_nil, hs, hx, hr]
  exact hK2

/-- One append of one byte. -/
theorem app_byte {ops : Array Oper} {rest : List Oper} {o : Oper} {a : Act} {Q : Exit → Act → World → Prop} (hgd : o.guard = none) (s x : Operand)
    (hop : o.op = Op.call { callee := Callee.builtin Builtin.append, args := #[s, x], argTypes := #[30, 30] }) {w : World} {base : Nat} {v : Value} {xs : List Int} {y : Int} (hs : a.eval s = v) (h : OB w base v xs)
    (hx : a.eval x = .slice (some ⟨w.heap.size, 0, none⟩) 1 1) (hb : base ≤ w.heap.size) (hn : xs.length ≤ 1099511627776)
    (hK : ∀ v' w', OB w' base v' (xs ++ [y]) → w.grownBy w' v.ownBlock → wpList Tryd.prog ops Q rest (a.put o.dst v') w') :
    wpList Tryd.prog ops Q (o :: rest) a (w.alloc (.cells #[.int .u8 y] 5)) := by
  obtain ⟨i0, hi, hz0, hz1, hz2⟩ := info_parts info_byte
  refine wpList_append_own _ hgd s x 30 hop base 5 i0 (.int .u8 0) 1 1 Tryd.underlying30 hi hz0 hz1 hz2 rfl (by decide) v xs.length (xs.map (Value.int .u8)) hs (World.ownsRow.alloc h _)
    ⟨w.heap.size, 0, none⟩ 1 1 [.int .u8 y] hx rfl (cell_one_new _ _ _) (ints_oneCell .u8 [y]) (by unfold maxLen; omega) (by omega) (by simp; omega) ?_
  intro v' w' h1 h2 _
  refine hK v' w' ?_ ((World.grownBy_alloc w _ _).trans h2)
  unfold OB
  simpa using h1

/-- The string of these bytes. -/
def bstr (xs : List Int) : ByteArray := xs.foldl (fun r n => r.push (UInt8.ofNat n.toNat)) ByteArray.empty

theorem own_string {w : World} {base : Nat} {v : Value} {xs : List Int} (h : OB w base v xs) (w' : World) (hw : w'.heap = w.heap) : (convert 30 9 v).run Tryd.prog w' = .ok (.string (bstr xs)) w' := by
  obtain ⟨h1, h2⟩ := h
  rcases h2 with ⟨rfl, h2⟩ | ⟨g, cap, cur, rfl, hg, hh, hn, hm, hc, ht⟩
  · have : xs = [] := by cases xs with | nil => rfl | cons => simp at h2
    subst this
    rw [run_convert_bytes_string w' 30 9 5 none 0 0 Tryd.underlying30 Tryd.underlying5 Tryd.underlying9]
    rfl
  · rw [run_convert_bytes_string w' 30 9 5 _ _ _ Tryd.underlying30 Tryd.underlying5 Tryd.underlying9]
    refine run_bytesToString w' _ _ _ _ ?_
    have hl := run_loadCells_list (P := Tryd.prog) w' ⟨g, 0, none⟩ (xs.map (Value.int .u8)) (fun j u hj => by
      have hj' : j < xs.length := by simpa using (List.getElem?_eq_some_iff.1 hj).1
      rw [show (⟨g, 0, none⟩ : Addr).add j = ⟨g, j, none⟩ from add_off _ _, cell_of_row w' g j _ _ _ (by rw [hw]; exact hh)]
      rw [← hj, ← ht, List.getElem?_take, if_pos (by omega)]
      simp)
    simpa using hl

/-- A call hands back a text and a truth; nothing that was there has turned. -/
def RetSB (W : World) (t : ByteArray) (b : Bool) (e : Ending) (w' : World) : Prop := e = .returned (.tuple #[.string t, .bool b]) ∧ Below W.heap.size W w'
theorem ret_sb {a b : ByteArray} {c d : Bool} (h : a = b) (h2 : c = d) : Ending.returned (.tuple #[.string a, .bool c]) = .returned (.tuple #[.string b, .bool d]) := by rw [h, h2]

theorem bApp {a w w' : World} {base : Nat} {v : Value} {xs : List Int} (hb : Below a.heap.size a w) (h : OB w base v xs) (hbase : a.heap.size ≤ base) (hg : w.grownBy w' v.ownBlock) : Below a.heap.size a w' :=
  hb.grown hg hb.size fun k hk => Nat.le_trans hbase (h.lt k hk).1

/-- The byte at k, as a number. -/
def cd (s : ByteArray) (k : Nat) : Int := if h : k < s.size then ((s[k]'h).toNat : Int) else 0
theorem cd_eq {s : ByteArray} {k : Nat} (h : k < s.size) : ((s[k]'h).toNat : Int) = cd s k := by rw [cd, dif_pos h]
theorem cd_bd (s : ByteArray) (k : Nat) : 0 ≤ cd s k ∧ cd s k ≤ 255 := by
  unfold cd
  split
  · have := (s[k]).toNat_lt
    omega
  · omega
end Go.Proofs.YthonlkconobdfaaDoor
