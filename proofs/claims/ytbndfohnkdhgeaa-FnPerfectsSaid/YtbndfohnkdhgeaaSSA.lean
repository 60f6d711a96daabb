/- Appends to slices of slices, and of whole slices inside a region that draws; contract of impl.copyInts. -/
import Derived.Test.YtbndfohnkdhgeaaSS2
namespace Go.Proofs.Ytbndfohnkdhgeaa
open Go.RowKit

theorem apart_lt {w : World} {m : Nat} {u v : Value} {xs : List Int} (hu : OI w m u xs) (hv : ∀ g, v.ownBlock = some g → g < m) : Apart v u := fun g h1 h2 => by
  have := hv g h1
  have := (hu.lt g h2).1
  omega
theorem OSV.snoc {w w' : World} {base m : Nat} {v v' u : Value} {vs : List Value} {xss : List (List Int)} {xs : List Int} (h : OSV w base m v vs xss) (hu : OI w m u xs) (hbm : base ≤ m)
    (hr : w'.ownsRow base 22 1 v' (vs ++ [u]).length (vs ++ [u])) (hg : w.grownBy w' v.ownBlock) (hl : Loc w v v') : OSV w' base w'.heap.size v' (vs ++ [u]) (xss ++ [xs]) := by
  have avu := apart_lt hu h.lt
  have hu2 := hu.keptBy avu.symm hg
  have hg1 : ∀ i, i < vs.length → (vs ++ [u]).getD i nilS = vs.getD i nilS ∧ (xss ++ [xs]).getD i [] = xss.getD i [] := fun i hi => by
    have := h.len
    simp [List.getD, List.getElem?_append_left hi, List.getElem?_append_left (by omega : i < xss.length)]
  have hg2 : (vs ++ [u]).getD vs.length nilS = u ∧ (xss ++ [xs]).getD vs.length [] = xs := by
    have := h.len
    simp [List.getD, this]
  have hel : ∀ i, i < (vs ++ [u]).length → OI w' base ((vs ++ [u]).getD i nilS) ((xss ++ [xs]).getD i []) := fun i hi => by
    rw [List.length_append] at hi
    by_cases e : i < vs.length
    · rw [(hg1 i e).1, (hg1 i e).2]
      exact (h.el i e).keptBy (h.apv i e).symm hg
    · have e2 : i = vs.length := by simp at hi; omega
      rw [e2, hg2.1, hg2.2]
      exact hu2.mono hbm
  refine ⟨hr, by simp [h.len], hel, fun i j hi hj hij => ?_, fun i hi => ?_, fun g hgo => (World.ownsRow.lt hr g hgo).2, fun i hi g hgo => ((hel i hi).lt g hgo).2⟩
  · simp at hi hj
    by_cases e1 : i < vs.length
    · by_cases e2 : j < vs.length
      · rw [(hg1 i e1).1, (hg1 j e2).1]; exact h.ap i j e1 e2 hij
      · rw [(hg1 i e1).1, show j = vs.length from by omega, hg2.1]; exact apart_lt hu (h.lts i e1)
    · by_cases e2 : j < vs.length
      · rw [show i = vs.length from by omega, hg2.1, (hg1 j e2).1]; exact (apart_lt hu (h.lts j e2)).symm
      · omega
  · simp at hi
    by_cases e1 : i < vs.length
    · rw [(hg1 i e1).1]; exact (h.apv i e1).app hl (h.el i e1)
    · rw [show i = vs.length from by omega, hg2.1]; exact avu.app hl hu

theorem OI.oneCell {w : World} {base : Nat} {u : Value} {xs : List Int} (h : OI w base u xs) : u.oneCell' = true := by
  obtain ⟨ad, cap, rfl, _⟩ := h.shape
  rfl

/-- append(out, front): one slice more. -/
theorem app_ss {ops : Array Oper} {rest : List Oper} {o : Oper} {a : Act} {Q : Exit → Act → World → Prop} (hgd : o.guard = none) (s x : Operand)
    (hop : o.op = Op.call { callee := Callee.builtin Builtin.append, args := #[s, x], argTypes := #[33, 33] }) {w : World} {base m : Nat} {v u : Value} {xss : List (List Int)} {xs : List Int} (hs : a.eval s = v) (h : OSS w base m v xss) (hu : OI w m u xs)
    (hx : a.eval x = .slice (some ⟨w.heap.size, 0, none⟩) 1 1) (hbm : base ≤ m) (hmw : m ≤ w.heap.size) (hn : xss.length ≤ 1000000000)
    (hK : ∀ v' w', OSS w' base w'.heap.size v' (xss ++ [xs]) → w.grownBy w' v.ownBlock → Loc w v v' → wpList Try.prog ops Q rest (a.put o.dst v') w') :
    wpList Try.prog ops Q (o :: rest) a (w.alloc (.cells #[u] 22)) := by
  obtain ⟨vs, h⟩ := h
  obtain ⟨i0, hi, hz0, hz1, hz2⟩ := info_parts info_sl
  have hl := h.len
  refine wpList_append_own_at _ hgd s x 33 hop base 22 i0 (.slice none 0 0) 1 24 Try.underlying33 hi hz0 hz1 hz2 rfl (by decide) v vs.length vs hs (World.ownsRow.alloc h.row _)
    ⟨w.heap.size, 0, none⟩ 1 1 [u] hx rfl (cell_one_new _ _ _) (by intro y hy; rw [List.mem_singleton.1 hy]; exact hu.oneCell) (by unfold maxLen; omega) (by omega) (by simp; omega) ?_
  intro v' w' h1 h2 _ h4
  have hg := (World.grownBy_alloc w _ _).trans h2
  have hl : Loc w v v' := by
    rcases h4 with h4 | h4
    · exact .inl h4
    · exact .inr ⟨_, h4, by simp⟩
  exact hK v' w' ⟨vs ++ [u], h.snoc hu hbm (by simpa using h1) hg hl⟩ hg hl

/-- Inside a region that draws: append of a whole slice of ints. -/
theorem step_apps {o : Oper} {a : Act} {K : Act → World → Prop} {Q : Exit → Act → World → Prop} (s x : Operand)
    (hop : o.op = Op.call { callee := Callee.builtin Builtin.append, args := #[s, x], argTypes := #[22, 22] }) {W : World} {base by' : Nat} {v vy : Value} {xs ys : List Int} {g c : Nat} (hs : a.eval s = v) (h : OI W base v xs)
    (hx : a.eval x = vy) (hy : OI W by' vy ys) (hv : vy = .slice (some ⟨g, 0, none⟩) ys.length c) (hb : base ≤ W.heap.size) (hn : xs.length ≤ 1000000000) (hm : ys.length ≤ 1000000000)
    (hK : ∀ v' w', OI w' base v' (xs ++ ys) → W.grownBy w' v.ownBlock → Loc W v v' → (v ≠ .slice none 0 0 → v' ≠ .slice none 0 0) → K (a.put o.dst v') w') : o.wp Try.prog a W K Q := by
  obtain ⟨i0, hi, hz0, hz1, hz2⟩ := info_parts info_int
  subst hv
  have hcell : ∀ j u, (ys.map (Value.int .i64))[j]? = some u → W.cell? ((⟨g, 0, none⟩ : Addr).add j) = some u := by
    intro j u hu
    obtain ⟨ad, cap, g', hv', _, _, _, hat⟩ := hy.view
    simp only [Value.slice.injEq] at hv'
    obtain ⟨rfl, _, rfl⟩ := hv'
    rw [List.getElem?_map] at hu
    by_cases hj : j < ys.length
    · rw [List.getElem?_eq_getElem hj] at hu
      obtain rfl := Option.some.inj hu
      obtain ⟨h1, _, _, h4, _⟩ := hat j hj
      simp only [Option.some.injEq, Addr.mk.injEq] at h1
      obtain ⟨rfl, _⟩ := h1
      rw [List.getD, List.getElem?_eq_getElem hj] at h4
      rw [show (⟨g, 0, none⟩ : Addr).add j = ⟨g, j, none⟩ from by unfold Addr.add; split <;> simp_all]
      exact h4
    · rw [List.getElem?_eq_none (by omega)] at hu
      cases hu
  obtain ⟨v', w', hr, h2, h3, hnil, h5⟩ := run_append_own_at (P := Try.prog) W base 22 o.type 3 i0 (.int .i64 0) 1 8 Try.underlying22 hi hz0 hz1 hz2 rfl (by decide) v xs.length (xs.map (Value.int .i64)) h
    ⟨g, 0, none⟩ ys.length c (ys.map (Value.int .i64)) (by simp) hcell (ints_oneCell .i64 ys) (by unfold maxLen; omega) (by omega) hb
  have hK2 : K (a.put o.dst v') w' := by
    refine hK v' w' ?_ h3 ?_ (fun hne he => hne (hnil.1 he).1)
    · unfold OI
      rw [List.length_append, List.map_append]
      exact h2
    · rcases h5 with h5 | h5
      · exact .inl h5
      · exact .inr ⟨_, h5, Nat.le_refl _⟩
  unfold Oper.wp execOp
  simp only [hop, resolve, invoke, builtin, Sem.run_bind, Sem.run_pure, Result.andThen_ok, List.map_toArray, List.map_cons, List.map_nil, hs, hx, hr]
  exact hK2

theorem implCopy {w : World} {base : Nat} {v : Value} {xs : List Int} (h : OI w base v xs) (hn : xs.length ≤ 1000000000) : Calls Try.prog 68 #[v] w (RetOI w xs) := by
  by_cases hx : xs = []
  · subst hx
    obtain ⟨h1, h2⟩ := h
    rcases h2 with ⟨rfl, _⟩ | ⟨g, cap, cur, rfl, hg, hh, hc1, hc2, _, _⟩
    · go_enter Try.func68, Try.ntmps68
      go_wp2
      go_ret
      exact ⟨_, rfl, OI.nil _ _, Below.refl _ _⟩
    · go_enter Try.func68, Try.ntmps68
      go_wp2
      go_ret
      exact ⟨_, rfl, OI.nil _ _, Below.refl _ _⟩
  · have hp : 0 < xs.length := List.length_pos_iff.2 hx
    go_enter Try.func68, Try.ntmps68
    go_wp2_with (first | (at_builtin; refine app_ints rfl _ _ rfl rfl (OI.nil w w.heap.size) rfl h hp (Nat.le_refl _) (by simp) (by omega) ?_; intro v' w' ho hg hl) | fail)
    rw [List.nil_append] at ho
    go_wp2
    go_ret
    exact ⟨_, rfl, ho, (Below.refl _ _).grown hg (Nat.le_refl _) (fun _ e => by cases e)⟩
end Go.Proofs.Ytbndfohnkdhgeaa
