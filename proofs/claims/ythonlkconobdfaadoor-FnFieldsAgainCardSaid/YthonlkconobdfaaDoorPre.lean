/- Words that all proofs of this seat share: what is known of a slice of integers that came in, and of one that a call made. No conditions. -/
import Derived.WalkKit
import Derived.ProofKit
import Derived.Below
import Derived.Lib.Hide
import Derived.Deep.Draws
import Derived.Deep.QuietTactic
import Derived.BigQuiet
namespace Go.Proofs.YthonlkconobdfaaDoor
open Go.RowKit

/-- A slice of integers that came in: nil, or a row of 'cap' cells that hold 'zs'; the first 'len' are its elements. -/
def IsRow (k : IntKind) (w : World) (a : Option Addr) (len cap : Nat) (zs : List Int) : Prop :=
  (a = none ∧ len = 0 ∧ cap = 0 ∧ zs = []) ∨
  ∃ x, a = some x ∧ len ≤ cap ∧ cap ≤ maxLen ∧ zs.length = cap ∧ (∀ i, i < zs.length → w.cell? (x.add i) = some (.int k (zs.getD i 0))) ∧ ∀ n ∈ zs, (Lit.int k n).wf = true

/-- A slice of ints of the call's own, in a block from 'base' on: it holds xs. -/
def OI (w : World) (base : Nat) (v : Value) (xs : List Int) : Prop := w.ownsRow base 3 1 v xs.length (xs.map (Value.int .i64))

/-- A call hands back a new slice that holds xs; nothing that was there has turned. -/
def RetOI (W : World) (xs : List Int) (e : Ending) (w' : World) : Prop := ∃ v, e = .returned v ∧ OI w' W.heap.size v xs ∧ Below W.heap.size W w'

/-- The call has drawn orders alone. -/
def Q (w w' : World) : Prop := ∃ n, w' = w.drewN n
theorem Q.refl (w : World) : Q w w := ⟨0, rfl⟩
theorem Q.drewN {a w : World} (h : Q a w) (n : Nat) : Q a (w.drewN n) := by
  obtain ⟨m, rfl⟩ := h
  exact ⟨m + n, World.drewN_drewN _ _ _⟩
theorem Q.drew {a w : World} (h : Q a w) : Q a w.drew := h.drewN 1
theorem Q.mk (w : World) (n : Nat) : Q w (w.drewN n) := ⟨n, rfl⟩
theorem bDrewN {B : Nat} {a w : World} (h : Below B a w) (n : Nat) : Below B a (w.drewN n) := ⟨h.os, h.tape, h.output, h.size, h.block⟩

/-- A contract that leaves the world alone, at a call inside a region that draws. -/
theorem qOne {P : Program} {f : FuncId} {args : Array Value} {w : World} {n : Nat} {v : Value} (h : Calls P f args (w.drewN n) fun e w' => e = .returned v ∧ w.drewN n = w') :
    Calls P f args (w.drewN n) fun e w'' => e = .returned v ∧ ∃ m, w'' = w.drewN m := h.mono fun _ _ h2 => ⟨h2.1, n, h2.2.symm⟩
theorem qAdd {P : Program} {f : FuncId} {args : Array Value} {w : World} {a n : Nat} {v : Value} (h : Calls P f args (w.drewN (a + n)) fun e w' => e = .returned v ∧ w.drewN (a + n) = w') :
    Calls P f args (w.drewN (a + n)) fun e w'' => e = .returned v ∧ ∃ m, w'' = w.drewN (a + m) := h.mono fun _ _ h2 => ⟨h2.1, n, h2.2.symm⟩

theorem ret_bool {a b : Bool} (h : a = b) : Ending.returned (.bool a) = .returned (.bool b) := by rw [h]
theorem ret_int {k : IntKind} {a b : Int} (h : a = b) : Ending.returned (.int k a) = .returned (.int k b) := by rw [h]
theorem ret_int2 {k q : IntKind} {a b c d : Int} (h : a = b) (h2 : c = d) : Ending.returned (.tuple #[.int k a, .int q c]) = .returned (.tuple #[.int k b, .int q d]) := by rw [h, h2]

/-- All numbers of the list are ints. -/
def Wf (xs : List Int) : Prop := ∀ n ∈ xs, -9223372036854775808 ≤ n ∧ n ≤ 9223372036854775807

theorem OI.below {w w' : World} {base : Nat} {v : Value} {xs : List Int} {B : Nat} (h : OI w base v xs) (hb : Below B w w') (hB : ∀ g, v.ownBlock = some g → g < B) : OI w' base v xs := by
  obtain ⟨h1, h2⟩ := h
  refine ⟨h1, ?_⟩
  rcases h2 with h2 | ⟨g, cap, cur, hv, hg, hh, r⟩
  · exact Or.inl h2
  · exact Or.inr ⟨g, cap, cur, hv, hg, by rw [hb.block g (hB g (by rw [hv]; rfl))]; exact hh, r⟩

theorem OI.lt {w : World} {base : Nat} {v : Value} {xs : List Int} (h : OI w base v xs) : ∀ g, v.ownBlock = some g → base ≤ g ∧ g < w.heap.size := fun g hg => World.ownsRow.lt h g hg

/-- All blocks that are there stay: the common case. -/
theorem OI.stay {w w' : World} {base : Nat} {v : Value} {xs : List Int} (h : OI w base v xs) (hb : Below w.heap.size w w') : OI w' base v xs := h.below hb fun g hg => (h.lt g hg).2

theorem OI.mono {w : World} {base base' : Nat} {v : Value} {xs : List Int} (h : OI w base v xs) (hb : base' ≤ base) : OI w base' v xs := by
  obtain ⟨h1, h2⟩ := h
  refine ⟨h1, ?_⟩
  rcases h2 with h2 | ⟨g, cap, cur, hv, hg, r⟩
  · exact Or.inl h2
  · exact Or.inr ⟨g, cap, cur, hv, by omega, r⟩

theorem OI.nil (w : World) (base : Nat) : OI w base (.slice none 0 0) [] := World.ownsRow_nil _ _ _ _

/-- The shape of such a value, for a walk: its address is not looked into; 'g' is its block where there is an element. -/
theorem OI.view {w : World} {base : Nat} {v : Value} {xs : List Int} (h : OI w base v xs) :
    ∃ ad cap g, v = .slice ad xs.length cap ∧ xs.length ≤ cap ∧ cap ≤ maxLen ∧ (ad = none → xs.length = 0) ∧
      (∀ i, i < xs.length → ad = some ⟨g, 0, none⟩ ∧ base ≤ g ∧ g < w.heap.size ∧ w.cell? ⟨g, i, none⟩ = some (.int .i64 (xs.getD i 0)) ∧ w.frozen? ⟨g, i, none⟩ = false) := by
  obtain ⟨h1, h2⟩ := h
  rcases h2 with ⟨rfl, h2⟩ | ⟨g, cap, cur, rfl, hg, hh, hn, hm, hc, ht⟩
  · exact ⟨none, 0, 0, by rw [h2], by omega, Nat.zero_le _, fun _ => h2, fun i hi => absurd hi (by omega)⟩
  · refine ⟨_, cap, g, rfl, hn, hm, fun h => (by cases h), fun i hi => ⟨rfl, hg, ?_, ?_, ?_⟩⟩
    · have := (Array.getElem?_eq_some_iff.1 hh).1; exact this
    · rw [cell_of_row w g i cur _ (0, 0) hh]
      have : cur.toList[i]? = some (.int .i64 (xs.getD i 0)) := by
        have e : (cur.toList.take (xs.length * 1))[i]? = (xs.map (Value.int .i64))[i]? := by rw [ht]
        rw [List.getElem?_take, if_pos (by omega)] at e
        rw [e, List.getElem?_map, List.getElem?_eq_getElem hi, List.getD, List.getElem?_eq_getElem hi]; rfl
      simpa using this
    · exact frozen_of_row w g i cur _ hh

theorem IsRow.view {k : IntKind} {w : World} {a : Option Addr} {len cap : Nat} {zs : List Int} (h : IsRow k w a len cap zs) :
    ∃ x : Addr, len ≤ cap ∧ cap ≤ maxLen ∧ zs.length = cap ∧ (zs.take len).length = len ∧ (∀ n ∈ zs, (Lit.int k n).wf = true) ∧
      ∀ i, i < len → a = some x ∧ x.block < w.heap.size ∧ w.cell? (x.add i) = some (.int k ((zs.take len).getD i 0)) := by
  rcases h with ⟨rfl, rfl, rfl, rfl⟩ | ⟨x, rfl, hl, hm, hz, hc, hw⟩
  · exact ⟨⟨0, 0, none⟩, by omega, Nat.zero_le _, rfl, rfl, by simp, fun i hi => absurd hi (by omega)⟩
  · refine ⟨x, hl, hm, hz, by simp; omega, hw, fun i hi => ?_⟩
    have hci := hc i (by omega)
    refine ⟨rfl, ?_, ?_⟩
    · have hb : (x.add i).block = x.block := by unfold Addr.add; split <;> rfl
      have hlt : (x.add i).block < w.heap.size := by
        rcases Nat.lt_or_ge (x.add i).block w.heap.size with h | h
        · exact h
        · rw [World.cell?, Array.getElem?_eq_none h] at hci
          simp at hci
      rw [← hb]; exact hlt
    · rw [hci]
      simp [List.getD, hi]

theorem Addr.add_block (x : Addr) (i : Nat) : (x.add i).block = x.block := by unfold Addr.add; split <;> rfl

theorem bThen {a b c : World} (h : Below a.heap.size a b) (k : Below b.heap.size b c) : Below a.heap.size a c := h.trans (k.mono h.size)

theorem bMark {a w w' : World} {base : Nat} {v : Value} {xs : List Int} (hb : Below a.heap.size a w) (h : OI w base v xs) (hbase : a.heap.size ≤ base) (hg : w.grownBy w' v.ownBlock) : Below a.heap.size a w' :=
  hb.grown hg hb.size fun k hk => Nat.le_trans hbase (h.lt k hk).1

theorem OI.drewN {w : World} {base : Nat} {v : Value} {xs : List Int} (h : OI w base v xs) (n : Nat) : OI (w.drewN n) base v xs := h

/-- Two slices lie in two blocks (or one of them is nil). -/
def Apart (u v : Value) : Prop := ∀ g, u.ownBlock = some g → v.ownBlock ≠ some g
theorem Apart.symm {u v : Value} (h : Apart u v) : Apart v u := fun g hg e => h g e hg

theorem apart_new {w w' : World} {bu : Nat} {u v : Value} {ys xs : List Int} (hu : OI w bu u ys) (hv : OI w' w.heap.size v xs) : Apart u v := fun g hg e => by
  have h1 := (hu.lt g hg).2
  have h2 := (hv.lt g e).1
  omega

theorem OI.keptBy {w w' : World} {bu : Nat} {u v : Value} {ys : List Int} (hu : OI w bu u ys) (A : Apart u v) (hg : w.grownBy w' v.ownBlock) : OI w' bu u ys := by
  refine World.ownsRow.kept hu hg ?_
  cases h : u.ownBlock with
  | none => exact .inl rfl
  | some g => exact .inr (A g h).symm

theorem World.cell_lt {w : World} {p : Addr} {v : Value} (h : w.cell? p = some v) : p.block < w.heap.size := by
  rcases Nat.lt_or_ge p.block w.heap.size with h1 | h1
  · exact h1
  · rw [World.cell?, Array.getElem?_eq_none h1] at h
    simp at h

theorem IsRow.below {k : IntKind} {w w' : World} {a : Option Addr} {len cap : Nat} {zs : List Int} (h : IsRow k w a len cap zs) (hb : Below w.heap.size w w') : IsRow k w' a len cap zs := by
  rcases h with h | ⟨x, hx, hl, hm, hz, hc, hw⟩
  · exact .inl h
  · exact .inr ⟨x, hx, hl, hm, hz, fun i hi => (hb.cell (World.cell_lt (hc i hi))).trans (hc i hi), hw⟩

theorem IsRow.drewN {k : IntKind} {w : World} {a : Option Addr} {len cap : Nat} {zs : List Int} (h : IsRow k w a len cap zs) (n : Nat) : IsRow k (w.drewN n) a len cap zs := h

theorem indexAt_any {P : Program} {T E : TypeId} {i0 : TypeInfo} (hT : P.underlying T = some (.slice E)) (hi0 : P.info? E = some i0) (hs : i0.size = 1) {ad : Option Addr} {x : Addr} {n cap i : Nat} (had : ad = some x) (hi : i < n) (k : IntKind) :
    ∀ w, (Instr.indexAt T (.slice ad n cap) (.int k (i : Int))).run P w = .ok (.pointer (some (x.add i))) w := by
  intro w
  subst had
  simp [Instr.indexAt, run_underlying hT, asIntOf, sizeOf, typeInfo, hi0, hs, hi]

theorem indexAt_some {P : Program} {T E : TypeId} {i0 : TypeInfo} (hT : P.underlying T = some (.slice E)) (hi0 : P.info? E = some i0) (hs : i0.size = 1) {ad : Option Addr} {g n cap i : Nat} (had : ad = some ⟨g, 0, none⟩) (hi : i < n) (k : IntKind) :
    ∀ w, (Instr.indexAt T (.slice ad n cap) (.int k (i : Int))).run P w = .ok (.pointer (some ⟨g, i, none⟩)) w := by
  intro w
  subst had
  simp [Instr.indexAt, run_underlying hT, asIntOf, sizeOf, typeInfo, hi0, hs, hi, Addr.add]
  exact fun h => h.symm
end Go.Proofs.YthonlkconobdfaaDoor
