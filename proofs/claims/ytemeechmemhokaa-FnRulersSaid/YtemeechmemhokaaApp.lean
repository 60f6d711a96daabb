/- One append of one int to a slice of the call's own, in the words of OI. -/
import Derived.Test.YtemeechmemhokaaInts
import Derived.Maps.AppendAt
namespace Go.Proofs.Ytemeechmemhokaa
open Go.RowKit

theorem app_int {ops : Array Oper} {rest : List Oper} {o : Oper} {a : Act} {Q : Exit → Act → World → Prop} (hgd : o.guard = none) (s x : Operand)
    (hop : o.op = Op.call { callee := Callee.builtin Builtin.append, args := #[s, x], argTypes := #[22, 22] }) {w : World} {base : Nat} {v : Value} {xs : List Int} {y : Int} (hs : a.eval s = v) (h : OI w base v xs)
    (hx : a.eval x = .slice (some ⟨w.heap.size, 0, none⟩) 1 1) (hb : base ≤ w.heap.size) (hn : xs.length ≤ 1099511627776)
    (hK : ∀ v' w', OI w' base v' (xs ++ [y]) → w.grownBy w' v.ownBlock → wpList Try.prog ops Q rest (a.put o.dst v') w') :
    wpList Try.prog ops Q (o :: rest) a (w.alloc (.cells #[.int .i64 y] 3)) := by
  obtain ⟨i0, hi, hz0, hz1, hz2⟩ := info_parts info_int
  refine wpList_append_own _ hgd s x 22 hop base 3 i0 (.int .i64 0) 1 8 Try.underlying22 hi hz0 hz1 hz2 rfl (by decide) v xs.length (xs.map (Value.int .i64)) hs (World.ownsRow.alloc h _)
    ⟨w.heap.size, 0, none⟩ 1 1 [.int .i64 y] hx rfl (cell_one_new _ _ _) (ints_oneCell .i64 [y]) (by unfold maxLen; omega) (by omega) (by simp; omega) ?_
  intro v' w' h1 h2 _
  refine hK v' w' ?_ ((World.grownBy_alloc w _ _).trans h2)
  unfold OI
  simpa using h1

/-- Where the new slice lies: in the old one's block, or in a block that is new. -/
def Loc (w : World) (v v' : Value) : Prop := v'.ownBlock = v.ownBlock ∨ ∃ g, v'.ownBlock = some g ∧ w.heap.size ≤ g

/-- The same as one step of a region that draws its order. -/
theorem step_app {o : Oper} {a : Act} {K : Act → World → Prop} {Q : Exit → Act → World → Prop} (s x : Operand)
    (hop : o.op = Op.call { callee := Callee.builtin Builtin.append, args := #[s, x], argTypes := #[22, 22] }) {w : World} {base : Nat} {v : Value} {xs : List Int} {y : Int} {W : World} {b : Nat} (hs : a.eval s = v) (h : OI w base v xs)
    (hW : W = w.alloc (.cells #[.int .i64 y] 3)) (hbk : b = w.heap.size) (hx : a.eval x = .slice (some ⟨b, 0, none⟩) 1 1) (hb : base ≤ w.heap.size) (hn : xs.length ≤ 1099511627776)
    (hK : ∀ v' w', OI w' base v' (xs ++ [y]) → w.grownBy w' v.ownBlock → Loc w v v' → K (a.put o.dst v') w') :
    o.wp Try.prog a W K Q := by
  obtain ⟨i0, hi, hz0, hz1, hz2⟩ := info_parts info_int
  subst hW
  subst hbk
  obtain ⟨v', w', hr, h2, h3, _, h5⟩ := run_append_own_at (P := Try.prog) (w.alloc (.cells #[.int .i64 y] 3)) base 22 o.type 3 i0 (.int .i64 0) 1 8 Try.underlying22 hi hz0 hz1 hz2 rfl (by decide) v xs.length (xs.map (Value.int .i64)) (World.ownsRow.alloc h _)
    ⟨w.heap.size, 0, none⟩ 1 1 [.int .i64 y] rfl (cell_one_new _ _ _) (ints_oneCell .i64 [y]) (by unfold maxLen; omega) (by omega) (by simp; omega)
  have hK2 : K (a.put o.dst v') w' := by
    refine hK v' w' ?_ ((World.grownBy_alloc w _ _).trans h3) ?_
    · unfold OI
      simpa using h2
    · rcases h5 with h5 | h5
      · exact .inl h5
      · exact .inr ⟨_, h5, by simp⟩
  unfold Oper.wp execOp
  simp only [hop, resolve, invoke, builtin, Sem.run_bind, Sem.run_pure, Result.andThen_ok, List.map_toArray, List.map_cons, List.map_nil, hs, hx, hr]
  exact hK2

/-- A cell below the base stays where a slice from the base on is written. -/
theorem keepCell {w w' : World} {base : Nat} {v : Value} {xs : List Int} (ho : OI w base v xs) (hg : w.grownBy w' v.ownBlock) {p : Addr} {u : Value} (hp : p.block < base) (hc : w.cell? p = some u) : w'.cell? p = some u :=
  hg.cell hc fun e => by have := (ho.lt _ e.symm).1; omega


theorem app_int_at {ops : Array Oper} {rest : List Oper} {o : Oper} {a : Act} {Q : Exit → Act → World → Prop} (hgd : o.guard = none) (s x : Operand)
    (hop : o.op = Op.call { callee := Callee.builtin Builtin.append, args := #[s, x], argTypes := #[22, 22] }) {w : World} {base : Nat} {v : Value} {xs : List Int} {y : Int} (hs : a.eval s = v) (h : OI w base v xs)
    (hx : a.eval x = .slice (some ⟨w.heap.size, 0, none⟩) 1 1) (hb : base ≤ w.heap.size) (hn : xs.length ≤ 1099511627776)
    (hK : ∀ v' w', OI w' base v' (xs ++ [y]) → w.grownBy w' v.ownBlock → Loc w v v' → wpList Try.prog ops Q rest (a.put o.dst v') w') :
    wpList Try.prog ops Q (o :: rest) a (w.alloc (.cells #[.int .i64 y] 3)) := by
  obtain ⟨i0, hi, hz0, hz1, hz2⟩ := info_parts info_int
  refine wpList_append_own_at _ hgd s x 22 hop base 3 i0 (.int .i64 0) 1 8 Try.underlying22 hi hz0 hz1 hz2 rfl (by decide) v xs.length (xs.map (Value.int .i64)) hs (World.ownsRow.alloc h _)
    ⟨w.heap.size, 0, none⟩ 1 1 [.int .i64 y] hx rfl (cell_one_new _ _ _) (ints_oneCell .i64 [y]) (by unfold maxLen; omega) (by omega) (by simp; omega) ?_
  intro v' w' h1 h2 _ h4
  refine hK v' w' ?_ ((World.grownBy_alloc w _ _).trans h2) ?_
  · unfold OI
    simpa using h1
  · rcases h4 with h4 | h4
    · exact .inl h4
    · exact .inr ⟨_, h4, by simp⟩

theorem Apart.app {w : World} {v v' u : Value} {bu : Nat} {ys : List Int} (h : Apart v u) (hl : Loc w v v') (hu : OI w bu u ys) : Apart v' u := by
  intro g hg e
  rcases hl with hl | ⟨g', hl, hlt⟩
  · exact h g (hl ▸ hg) e
  · rw [hl] at hg
    obtain rfl := Option.some.inj hg
    have := (hu.lt g' e).2
    omega
theorem Apart.nil (u : Value) : Apart (.slice none 0 0) u := fun g hg => by cases hg
end Go.Proofs.Ytemeechmemhokaa
