/- One append of a whole slice of ints to a slice of the call's own, in the words of OI. -/
import Derived.Test.YtemeechmemhokaaApp
import Derived.Test.YtemeechmemhokaaArr
namespace Go.Proofs.Ytemeechmemhokaa
open Go.RowKit

theorem app_ints {ops : Array Oper} {rest : List Oper} {o : Oper} {a : Act} {Q : Exit → Act → World → Prop} (hgd : o.guard = none) (s x : Operand)
    (hop : o.op = Op.call { callee := Callee.builtin Builtin.append, args := #[s, x], argTypes := #[22, 22] }) {w : World} {base by' : Nat} {v vy : Value} {xs ys : List Int} (hs : a.eval s = v) (h : OI w base v xs)
    (hx : a.eval x = vy) (hy : OI w by' vy ys) (hne : 0 < ys.length) (hb : base ≤ w.heap.size) (hn : xs.length ≤ 1099511627776) (hm : ys.length ≤ 1099511627776)
    (hK : ∀ v' w', OI w' base v' (xs ++ ys) → w.grownBy w' v.ownBlock → Loc w v v' → wpList Try.prog ops Q rest (a.put o.dst v') w') :
    wpList Try.prog ops Q (o :: rest) a w := by
  obtain ⟨i0, hi, hz0, hz1, hz2⟩ := info_parts info_int
  obtain ⟨ad, cap, g, rfl, _, _, _, hat⟩ := hy.view
  obtain ⟨rfl, _⟩ := hat 0 hne
  refine wpList_append_own_at _ hgd s x 22 hop base 3 i0 (.int .i64 0) 1 8 Try.underlying22 hi hz0 hz1 hz2 rfl (by decide) v xs.length (xs.map (Value.int .i64)) hs h
    ⟨g, 0, none⟩ ys.length cap (ys.map (Value.int .i64)) hx (by simp) ?_ (ints_oneCell .i64 ys) (by unfold maxLen; omega) (by omega) hb ?_
  · intro j u hu
    rw [List.getElem?_map] at hu
    by_cases hj : j < ys.length
    · rw [List.getElem?_eq_getElem hj] at hu
      obtain rfl := Option.some.inj hu
      have := (hat j hj).2.2.2.1
      rw [List.getD, List.getElem?_eq_getElem hj] at this
      rw [show (⟨g, 0, none⟩ : Addr).add j = ⟨g, j, none⟩ from by unfold Addr.add; split <;> simp_all]
      exact this
    · rw [List.getElem?_eq_none (by omega)] at hu
      cases hu
  · intro v' w' h1 h2 _ h4
    refine hK v' w' ?_ h2 ?_
    · unfold OI
      rw [List.length_append, List.map_append]
      exact h1
    · rcases h4 with h4 | h4
      · exact .inl h4
      · exact .inr ⟨_, h4, Nat.le_refl _⟩

theorem bAl {a w : World} (h : Below a.heap.size a w) (o : Obj) : Below a.heap.size a (w.alloc o) := h.alloc h.size o
theorem oi_empty (w : World) (base : Nat) (hb : base ≤ w.heap.size) : OI (w.alloc (.cells #[] 3)) base (.slice (some ⟨w.heap.size, 0, none⟩) 0 0) [] :=
  World.ownsRow_made (e := 3) (size := 1) (base := base) w #[] 0 hb (Nat.zero_le _) rfl
theorem oi_row (w : World) (xs : List Int) (n : Nat) (hn : xs.length = n) (hm : n ≤ maxLen) : OI (w.alloc (.cells (xs.map (Value.int .i64)).toArray 3)) w.heap.size (.slice (some ⟨w.heap.size, 0, none⟩) n n) xs := by
  subst hn
  have h := World.ownsRow_lit (e := 3) (size := 1) w (xs.map (Value.int .i64)).toArray xs.length (Nat.le_refl _) hm (by simp)
  simpa [OI] using h
theorem OI.shapeN {w : World} {base N : Nat} {v : Value} {xs : List Int} (h : OI w base v xs) (hl : xs.length = N) : ∃ ad cap, v = .slice ad N cap := by
  obtain ⟨ad, cap, rfl, _⟩ := h.shape
  exact ⟨ad, cap, by rw [hl]⟩
/-- A store into a slice of a known length, and what it leaves as it was. -/
theorem OI.storeN {w : World} {base cap N k : Nat} {ad : Option Addr} {xs : List Int} (h : OI w base (.slice ad N cap) xs) (hl : xs.length = N) (hk : k < N) (u : Int) :
    OI (w.setCell ⟨gOf ad, k, none⟩ (.int .i64 u)) base (.slice ad N cap) (xs.set k u) ∧ base ≤ gOf ad ∧ w.grownBy (w.setCell ⟨gOf ad, k, none⟩ (.int .i64 u)) (Value.slice ad N cap).ownBlock := by
  subst hl
  obtain ⟨ad', cap', g, hv, _, _, _, hx⟩ := h.view
  simp only [Value.slice.injEq] at hv
  obtain ⟨rfl, _, rfl⟩ := hv
  obtain ⟨had, hb, hlt, _, _⟩ := hx k hk
  subst had
  have h3 := World.ownsRow.stored h k (.int .i64 u)
  refine ⟨?_, hb, h3.2⟩
  unfold OI
  rw [List.length_set, List.map_set]
  exact h3.1
end Go.Proofs.Ytemeechmemhokaa
