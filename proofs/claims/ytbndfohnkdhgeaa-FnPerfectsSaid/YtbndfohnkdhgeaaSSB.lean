/- Append of a whole slice of slices, and of whole slices that may be empty. -/
import Derived.Test.YtbndfohnkdhgeaaFacs
namespace Go.Proofs.Ytbndfohnkdhgeaa
open Go.RowKit

/-- v is a slice, not nil. -/
def Som (v : Value) : Prop := ∃ g n c, v = .slice (some ⟨g, 0, none⟩) n c
theorem OI.som {w : World} {base : Nat} {v : Value} {xs : List Int} (h : OI w base v xs) (hs : Som v) : ∃ g c, v = .slice (some ⟨g, 0, none⟩) xs.length c := by
  obtain ⟨ad, cap, rfl, _⟩ := h.shape
  obtain ⟨g, n, c, e⟩ := hs
  simp only [Value.slice.injEq] at e
  obtain ⟨rfl, _, rfl⟩ := e
  exact ⟨g, _, rfl⟩
theorem OI.toSom {w : World} {base : Nat} {v : Value} {xs : List Int} (h : OI w base v xs) (hn : v ≠ .slice none 0 0) : Som v := by
  obtain ⟨_, h2⟩ := h
  rcases h2 with ⟨rfl, _⟩ | ⟨g, cap, cur, rfl, _⟩
  · exact absurd rfl hn
  · exact ⟨g, _, _, rfl⟩

theorem OSV.join {w w' : World} {base m b2 m2 : Nat} {v v' vy : Value} {vs us : List Value} {xss yss : List (List Int)} (h : OSV w base m v vs xss) (hy : OSV w b2 m2 vy us yss) (hb2 : base ≤ b2) (hm2 : m ≤ b2)
    (hr : w'.ownsRow base 22 1 v' (vs ++ us).length (vs ++ us)) (hg : w.grownBy w' v.ownBlock) (hl : Loc w v v') : OSV w' base w'.heap.size v' (vs ++ us) (xss ++ yss) := by
  have hlen := h.len
  have hleny := hy.len
  have hg1 : ∀ i, i < vs.length → (vs ++ us).getD i nilS = vs.getD i nilS ∧ (xss ++ yss).getD i [] = xss.getD i [] := fun i hi => by
    simp [List.getD, List.getElem?_append_left hi, List.getElem?_append_left (by omega : i < xss.length)]
  have hg2 : ∀ j, j < us.length → (vs ++ us).getD (vs.length + j) nilS = us.getD j nilS ∧ (xss ++ yss).getD (vs.length + j) [] = yss.getD j [] := fun j hj => by
    refine ⟨?_, ?_⟩
    · rw [List.getD, List.getD, List.getElem?_append_right (by omega), Nat.add_sub_cancel_left]
    · rw [List.getD, List.getD, List.getElem?_append_right (by omega), hlen, Nat.add_sub_cancel_left]
  have hap : ∀ j, j < us.length → Apart v (us.getD j nilS) := fun j hj => apart_lt ((hy.el j hj).mono hm2) h.lt
  have split : ∀ i, i < (vs ++ us).length → i < vs.length ∨ ∃ j, j < us.length ∧ i = vs.length + j := fun i hi => by
    rw [List.length_append] at hi
    by_cases e : i < vs.length
    · exact .inl e
    · exact .inr ⟨i - vs.length, by omega, by omega⟩
  have hel : ∀ i, i < (vs ++ us).length → OI w' base ((vs ++ us).getD i nilS) ((xss ++ yss).getD i []) := fun i hi => by
    rcases split i hi with e | ⟨j, hj, rfl⟩
    · rw [(hg1 i e).1, (hg1 i e).2]; exact (h.el i e).keptBy (h.apv i e).symm hg
    · rw [(hg2 j hj).1, (hg2 j hj).2]; exact ((hy.el j hj).keptBy (hap j hj).symm hg).mono hb2
  refine ⟨hr, by rw [List.length_append, List.length_append, hlen, hleny], hel, fun i k hi hk hik => ?_, fun i hi => ?_, fun g hgo => (World.ownsRow.lt hr g hgo).2, fun i hi g hgo => ((hel i hi).lt g hgo).2⟩
  · rcases split i hi with e1 | ⟨j1, hj1, rfl⟩
    · rcases split k hk with e2 | ⟨j2, hj2, rfl⟩
      · rw [(hg1 i e1).1, (hg1 k e2).1]; exact h.ap i k e1 e2 hik
      · rw [(hg1 i e1).1, (hg2 j2 hj2).1]; exact apart_lt ((hy.el j2 hj2).mono hm2) (h.lts i e1)
    · rcases split k hk with e2 | ⟨j2, hj2, rfl⟩
      · rw [(hg2 j1 hj1).1, (hg1 k e2).1]; exact (apart_lt ((hy.el j1 hj1).mono hm2) (h.lts k e2)).symm
      · rw [(hg2 j1 hj1).1, (hg2 j2 hj2).1]; exact hy.ap j1 j2 hj1 hj2 (by omega)
  · rcases split i hi with e | ⟨j, hj, rfl⟩
    · rw [(hg1 i e).1]; exact (h.apv i e).app hl (h.el i e)
    · rw [(hg2 j hj).1]; exact (hap j hj).app hl (hy.el j hj)

/-- Inside a region that draws: append of a whole slice of slices. -/
theorem step_sss {o : Oper} {a : Act} {K : Act → World → Prop} {Q : Exit → Act → World → Prop} (s x : Operand)
    (hop : o.op = Op.call { callee := Callee.builtin Builtin.append, args := #[s, x], argTypes := #[33, 33] }) {W : World} {base m b2 m2 : Nat} {v vy : Value} {xss yss : List (List Int)} (hs : a.eval s = v) (h : OSS W base m v xss)
    (hx : a.eval x = vy) (hy : OSS W b2 m2 vy yss) (hv : Som vy) (hb2 : base ≤ b2) (hm2 : m ≤ b2) (hb : base ≤ W.heap.size) (hn : xss.length ≤ 1000000000) (hm : yss.length ≤ 1000000000)
    (hK : ∀ v' w', OSS w' base w'.heap.size v' (xss ++ yss) → W.grownBy w' v.ownBlock → Loc W v v' → (v ≠ .slice none 0 0 → v' ≠ .slice none 0 0) → K (a.put o.dst v') w') : o.wp Try.prog a W K Q := by
  obtain ⟨i0, hi, hz0, hz1, hz2⟩ := info_parts info_sl
  obtain ⟨vs, h⟩ := h
  obtain ⟨us, hy⟩ := hy
  have hl := h.len
  have hly := hy.len
  obtain ⟨ad, cap, rfl, _⟩ := hy.shape
  obtain ⟨g, n, c, e⟩ := hv
  simp only [Value.slice.injEq] at e
  obtain ⟨rfl, rfl, rfl⟩ := e
  have hcell : ∀ j u, us[j]? = some u → W.cell? ((⟨g, 0, none⟩ : Addr).add j) = some u := by
    intro j u hu
    have hj : j < us.length := (List.getElem?_eq_some_iff.1 hu).1
    have h1 := (hy.at (k := j) (by omega)).2
    rw [List.getD, hu] at h1
    rw [show (⟨g, 0, none⟩ : Addr).add j = ⟨g, j, none⟩ from by unfold Addr.add; split <;> simp_all]
    exact h1
  have hone : ∀ u ∈ us, u.oneCell' = true := fun u hu => by
    obtain ⟨j, hj, rfl⟩ := List.getElem_of_mem hu
    have := (hy.el j hj).oneCell
    rw [List.getD, List.getElem?_eq_getElem hj] at this
    exact this
  obtain ⟨v', w', hr, h2, h3, hnil, h5⟩ := run_append_own_at (P := Try.prog) W base 33 o.type 22 i0 (.slice none 0 0) 1 24 Try.underlying33 hi hz0 hz1 hz2 rfl (by decide) v vs.length vs h.row
    ⟨g, 0, none⟩ yss.length cap us (by omega) hcell hone (by unfold maxLen; omega) (by omega) hb
  have hl2 : Loc W v v' := by
    rcases h5 with h5 | h5
    · exact .inl h5
    · exact .inr ⟨_, h5, Nat.le_refl _⟩
  have hK2 : K (a.put o.dst v') w' := hK v' w' ⟨vs ++ us, h.join hy hb2 hm2 (by rw [List.length_append, hly]; exact h2) h3 hl2⟩ h3 hl2 (fun hne he => hne (hnil.1 he).1)
  unfold Oper.wp execOp
  simp only [hop, resolve, invoke, builtin, Sem.run_bind, Sem.run_pure, Result.andThen_ok, List.map_toArray, List.map_cons, List.map_nil, hs, hx, hr]
  exact hK2

/-- append(out, ys...) of a slice that is not nil. -/
theorem app_intsS {ops : Array Oper} {rest : List Oper} {o : Oper} {a : Act} {Q : Exit → Act → World → Prop} (hgd : o.guard = none) (s x : Operand)
    (hop : o.op = Op.call { callee := Callee.builtin Builtin.append, args := #[s, x], argTypes := #[22, 22] }) {w : World} {base by' : Nat} {v vy : Value} {xs ys : List Int} (hs : a.eval s = v) (h : OI w base v xs)
    (hx : a.eval x = vy) (hy : OI w by' vy ys) (hv : Som vy) (hb : base ≤ w.heap.size) (hn : xs.length ≤ 1000000000) (hm : ys.length ≤ 1000000000)
    (hK : ∀ v' w', OI w' base v' (xs ++ ys) → w.grownBy w' v.ownBlock → Loc w v v' → (v ≠ .slice none 0 0 → v' ≠ .slice none 0 0) → wpList Try.prog ops Q rest (a.put o.dst v') w') :
    wpList Try.prog ops Q (o :: rest) a w := by
  obtain ⟨g, c, hv⟩ := hy.som hv
  refine wpList_plain hgd fun K' hK' => ?_
  exact step_apps s x hop hs h hx hy hv hb hn hm fun v' w' h1 h2 h3 h4 => hK' _ _ (hK v' w' h1 h2 h3 h4)
end Go.Proofs.Ytbndfohnkdhgeaa
