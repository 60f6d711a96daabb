/- Slices of slices of ints of the call's own; contracts of eqIntSS, markIntSS, heldIntSS. -/
import Derived.Test.YtbndfohnkdhgeaaAppAll
namespace Go.Proofs.Ytbndfohnkdhgeaa
open Go.RowKit

theorem info_sl : (Try.prog.info? 22).map (fun i => (i.zero, i.size, i.bytes)) = some (some (.slice none 0 0), 1, 24) := by kernel_rfl
def nilS : Value := .slice none 0 0
/-- v is a slice of the slices vs, which hold xss; no two of them share memory; all blocks lie from base on and below m. -/
structure OSV (w : World) (base m : Nat) (v : Value) (vs : List Value) (xss : List (List Int)) : Prop where
  row : w.ownsRow base 22 1 v vs.length vs
  len : vs.length = xss.length
  el : ∀ i, i < vs.length → OI w base (vs.getD i nilS) (xss.getD i [])
  ap : ∀ i j, i < vs.length → j < vs.length → i ≠ j → Apart (vs.getD i nilS) (vs.getD j nilS)
  apv : ∀ i, i < vs.length → Apart v (vs.getD i nilS)
  lt : ∀ g, v.ownBlock = some g → g < m
  lts : ∀ i, i < vs.length → ∀ g, (vs.getD i nilS).ownBlock = some g → g < m
def OSS (w : World) (base m : Nat) (v : Value) (xss : List (List Int)) : Prop := ∃ vs, OSV w base m v vs xss

theorem row_below {w w' : World} {base B n : Nat} {T : TypeId} {v : Value} {xs : List Value} (h : w.ownsRow base T 1 v n xs) (hb : Below B w w') (hB : ∀ g, v.ownBlock = some g → g < B) : w'.ownsRow base T 1 v n xs := by
  obtain ⟨h1, h2⟩ := h
  refine ⟨h1, ?_⟩
  rcases h2 with h2 | ⟨g, cap, cur, hv, hg, hh, r⟩
  · exact Or.inl h2
  · exact Or.inr ⟨g, cap, cur, hv, hg, by rw [hb.block g (hB g (by rw [hv]; rfl))]; exact hh, r⟩
theorem row_kept {w w' : World} {base n : Nat} {T : TypeId} {v u : Value} {xs : List Value} (h : w.ownsRow base T 1 v n xs) (A : Apart v u) (hg : w.grownBy w' u.ownBlock) : w'.ownsRow base T 1 v n xs := by
  refine World.ownsRow.kept h hg ?_
  cases e : v.ownBlock with
  | none => exact .inl rfl
  | some g => exact .inr fun e2 => A g e e2.symm

theorem OSV.stay {w w' : World} {base m : Nat} {v : Value} {vs : List Value} {xss : List (List Int)} (h : OSV w base m v vs xss) (hb : Below w.heap.size w w') : OSV w' base m v vs xss :=
  ⟨row_below h.row hb fun g hg => (World.ownsRow.lt h.row g hg).2, h.len, fun i hi => (h.el i hi).stay hb, h.ap, h.apv, h.lt, h.lts⟩
theorem OSV.mono {w : World} {base m m' : Nat} {v : Value} {vs : List Value} {xss : List (List Int)} (h : OSV w base m v vs xss) (hm : m ≤ m') : OSV w base m' v vs xss :=
  ⟨h.row, h.len, h.el, h.ap, h.apv, fun g hg => Nat.lt_of_lt_of_le (h.lt g hg) hm, fun i hi g hg => Nat.lt_of_lt_of_le (h.lts i hi g hg) hm⟩
theorem OSV.base {w : World} {base base' m : Nat} {v : Value} {vs : List Value} {xss : List (List Int)} (h : OSV w base m v vs xss) (hb : base' ≤ base) : OSV w base' m v vs xss := by
  refine ⟨?_, h.len, fun i hi => (h.el i hi).mono hb, h.ap, h.apv, h.lt, h.lts⟩
  obtain ⟨h1, h2⟩ := h.row
  refine ⟨h1, ?_⟩
  rcases h2 with h2 | ⟨g, cap, cur, hv, hg, r⟩
  · exact Or.inl h2
  · exact Or.inr ⟨g, cap, cur, hv, Nat.le_trans hb hg, r⟩
theorem OSV.top {w : World} {base m : Nat} {v : Value} {vs : List Value} {xss : List (List Int)} (h : OSV w base m v vs xss) : OSV w base w.heap.size v vs xss :=
  ⟨h.row, h.len, h.el, h.ap, h.apv, fun g hg => (World.ownsRow.lt h.row g hg).2, fun i hi g hg => ((h.el i hi).lt g hg).2⟩
theorem OSV.nil (w : World) (base m : Nat) : OSV w base m (.slice none 0 0) [] [] :=
  ⟨World.ownsRow_nil _ _ _ _, rfl, fun i hi => absurd hi (by simp), fun i _ hi => absurd hi (by simp), fun i hi => absurd hi (by simp), fun g hg => (by cases hg), fun i hi => absurd hi (by simp)⟩
theorem OSV.shape {w : World} {base m : Nat} {v : Value} {vs : List Value} {xss : List (List Int)} (h : OSV w base m v vs xss) : ∃ ad cap, v = .slice ad xss.length cap ∧ xss.length ≤ 9223372036854775807 := by
  obtain ⟨h1, h2⟩ := h.row
  rcases h2 with ⟨rfl, h2⟩ | ⟨g, cap, cur, rfl, hg, hh, hn, hm, hc, ht⟩
  · exact ⟨none, 0, by rw [← h.len, h2], by rw [← h.len, h2]; omega⟩
  · unfold maxLen at hm
    exact ⟨_, cap, by rw [h.len], by rw [← h.len]; omega⟩
theorem OSV.at {w : World} {base m cap k : Nat} {ad : Option Addr} {vs : List Value} {xss : List (List Int)} (h : OSV w base m (.slice ad xss.length cap) vs xss) (hk : k < xss.length) :
    (∀ w', (Instr.indexAt 33 (.slice ad xss.length cap) (.int .i64 (k : Int))).run Try.prog w' = .ok (.pointer (some ⟨gOf ad, k, none⟩)) w') ∧ w.cell? ⟨gOf ad, k, none⟩ = some (vs.getD k nilS) := by
  obtain ⟨i0, hi, hz0, hz1, hz2⟩ := info_parts info_sl
  obtain ⟨h1, h2⟩ := h.row
  have hl := h.len
  rcases h2 with ⟨_, h2⟩ | ⟨g, cap', cur, hv, hg, hh, hn, hm, hc, ht⟩
  · omega
  · simp only [Value.slice.injEq] at hv
    obtain ⟨rfl, _, rfl⟩ := hv
    refine ⟨indexAt_some Try.underlying33 hi hz1 rfl hk .i64, ?_⟩
    show w.cell? ⟨g, k, none⟩ = _
    rw [cell_of_row w g k cur _ (0, 0) hh]
    have e : (cur.toList.take (vs.length * 1))[k]? = vs[k]? := by rw [ht]
    rw [List.getElem?_take, if_pos (by omega)] at e
    rw [List.getD, List.getElem?_eq_getElem (by omega : k < vs.length)]
    rw [List.getElem?_eq_getElem (by omega : k < vs.length)] at e
    simpa using e

theorem getD_set {xss : List (List Int)} {i j : Nat} {ys : List Int} (hi : i < xss.length) : (xss.set i ys).getD j [] = if j = i then ys else xss.getD j [] := by
  by_cases e : j = i
  · subst e
    rw [if_pos rfl, List.getD, List.getElem?_set_self hi]; rfl
  · rw [if_neg e, List.getD, List.getElem?_set_ne (fun q => e q.symm), ← List.getD]
/-- One of the slices has been written: the others hold what they held. -/
theorem OSV.marked {w w' : World} {base m i : Nat} {v : Value} {vs : List Value} {xss : List (List Int)} {ys : List Int} (h : OSV w base m v vs xss) (hi : i < vs.length) (hm : OI w' base (vs.getD i nilS) ys) (hg : w.grownBy w' (vs.getD i nilS).ownBlock) : OSV w' base m v vs (xss.set i ys) := by
  refine ⟨row_kept h.row (h.apv i hi) hg, by rw [List.length_set]; exact h.len, fun j hj => ?_, h.ap, h.apv, h.lt, h.lts⟩
  rw [getD_set (by rw [← h.len]; exact hi)]
  by_cases e : j = i
  · subst e
    rw [if_pos rfl]
    exact hm
  · rw [if_neg e]
    exact (h.el j hj).keptBy (h.ap j i hj hi e) hg

/-- A contract that draws alone, at a call inside a region that draws. -/
theorem qQ1 {P : Program} {f : FuncId} {args : Array Value} {w : World} {n : Nat} {v : Value} (h : Calls P f args (w.drewN n) fun e w' => e = .returned v ∧ Q (w.drewN n) w') :
    Calls P f args (w.drewN n) fun e w'' => e = .returned v ∧ ∃ m, w'' = w.drewN m := h.mono fun _ _ h2 => ⟨h2.1, by obtain ⟨k, hk⟩ := h2.2; exact ⟨n + k, by rw [hk, World.drewN_drewN]⟩⟩
theorem qQA {P : Program} {f : FuncId} {args : Array Value} {w : World} {a n : Nat} {v : Value} (h : Calls P f args (w.drewN (a + n)) fun e w' => e = .returned v ∧ Q (w.drewN (a + n)) w') :
    Calls P f args (w.drewN (a + n)) fun e w'' => e = .returned v ∧ ∃ m, w'' = w.drewN (a + m) := h.mono fun _ _ h2 => ⟨h2.1, by obtain ⟨k, hk⟩ := h2.2; exact ⟨n + k, by rw [hk, World.drewN_drewN, Nat.add_assoc]⟩⟩

/-- Alike at the places below k. -/
def sameTo (xss yss : List (List Int)) (k : Nat) : Prop := ∀ i, i < k → xss.getD i [] = yss.getD i []
theorem same_done {xss yss : List (List Int)} (hl : xss.length = yss.length) (h : sameTo xss yss xss.length) : xss = yss := by
  refine List.ext_getElem hl fun i h1 h2 => ?_
  have := h i h1
  rw [List.getD, List.getD, List.getElem?_eq_getElem h1, List.getElem?_eq_getElem h2] at this
  exact this

set_option maxHeartbeats 1000000 in
theorem eqIntSS_any {w : World} {b0 b1 m0 m1 : Nat} {v0 v1 : Value} {xss yss : List (List Int)} (h0 : OSS w b0 m0 v0 xss) (h1 : OSS w b1 m1 v1 yss) :
    Calls Try.prog 41 #[v0, v1] w fun e w' => e = .returned (.bool (decide (xss = yss))) ∧ Q w w' := by
  obtain ⟨us, h0⟩ := h0
  obtain ⟨vs, h1⟩ := h1
  obtain ⟨ad0, cap0, rfl, _⟩ := h0.shape
  obtain ⟨ad1, cap1, rfl, _⟩ := h1.shape
  have hl0 := h0.len
  have hl1 := h1.len
  by_cases hl : xss.length = yss.length
  · have hd : ((xss.length : Int) != (yss.length : Int)) = false := by rw [bne_eq_false_iff_eq]; omega
    have HL := Lib.hid hl
    replace hl0 := Lib.hid hl0
    replace hl1 := Lib.hid hl1
    clear hl
    go_enter Try.func41, Try.ntmps41
    go_wp2
    go_loopw [5] (fun i wr => ∃ k : Nat, i = .int .i64 (k : Int) ∧ k ≤ xss.length ∧ Hid (sameTo xss yss k) ∧ Q w wr) (fun i _ => xss.length - (intOf i).toNat)
    case atStart => exact ⟨0, rfl, Nat.zero_le _, fun i hi => absurd hi (by omega), Q.refl _⟩
    case round =>
      obtain ⟨k, rfl, hk, HS, n1, rfl⟩ := hrel
      by_cases hlt : k < xss.length
      · obtain ⟨ix, cx⟩ := h0.at hlt
        obtain ⟨iy, cy⟩ := h1.at (k := k) (by have := HL.out; omega)
        have hx := h0.el k (by have := hl0.out; omega)
        have hy := h1.el k (by have := hl1.out; have := HL.out; omega)
        obtain ⟨u, hu⟩ : ∃ u, us.getD k nilS = u := ⟨_, rfl⟩
        obtain ⟨v, hv⟩ : ∃ v, vs.getD k nilS = v := ⟨_, rfl⟩
        rw [hu] at cx hx
        rw [hv] at cy hy
        clear hu hv
        obtain ⟨xk, hxk⟩ : ∃ z, xss.getD k [] = z := ⟨_, rfl⟩
        obtain ⟨yk, hyk⟩ : ∃ z, yss.getD k [] = z := ⟨_, rfl⟩
        rw [hxk] at hx
        rw [hyk] at hy
        replace hxk := Lib.hid hxk
        replace hyk := Lib.hid hyk
        by_cases he : xk = yk
        · have hdk : decide (xk = yk) = true := decide_eq_true he
          have hS2 : sameTo xss yss (k + 1) := fun i hi => by
            by_cases q : i = k
            · rw [q, hxk.out, hyk.out]; exact he
            · exact HS.out i (by omega)
          replace hS2 := Lib.hid hS2
          clear he
          go_wp2
          go_quiet ((go_at_call 19; first | exact qQA (eqIntS_any (hx.drewN _) (hy.drewN _)) | exact qQ1 (eqIntS_any (hx.drewN _) (hy.drewN _))))
          go_wp2
          go_roundw
          case rel => exact ⟨k + 1, by go_num, by omega, hS2.out, (by repeat (first | exact Q.refl _ | exact Q.mk _ _ | apply Q.drewN | apply Q.drew))⟩
          case measure => simp only [intOf]; omega
        · have hdk : decide (xk = yk) = false := decide_eq_false he
          have hne : ¬ xss = yss := fun q => he (by rw [← hxk.out, ← hyk.out, q])
          replace hne := Lib.hid hne
          clear he
          go_wp2
          go_quiet ((go_at_call 19; first | exact qQA (eqIntS_any (hx.drewN _) (hy.drewN _)) | exact qQ1 (eqIntS_any (hx.drewN _) (hy.drewN _))))
          go_wp2
          go_ret
          exact ⟨ret_bool (decide_eq_false hne.out).symm, (by repeat (first | exact Q.refl _ | exact Q.mk _ _ | apply Q.drewN | apply Q.drew))⟩
      · have hfin : xss = yss := same_done HL.out (by have h := HS.out; rw [show k = xss.length from by omega] at h; exact h)
        replace hfin := Lib.hid hfin
        go_wp2
        go_ret
        exact ⟨ret_bool (decide_eq_true hfin.out).symm, (by repeat (first | exact Q.refl _ | exact Q.mk _ _ | apply Q.drewN | apply Q.drew))⟩
  · have hd : ((xss.length : Int) != (yss.length : Int)) = true := by rw [bne_iff_ne]; omega
    have HN : Hid (¬ xss = yss) := fun q => hl (by rw [q])
    clear hl
    go_enter Try.func41, Try.ntmps41
    go_wp2
    go_ret
    exact ⟨ret_bool (decide_eq_false HN.out).symm, Q.refl _⟩

/-- How many numbers the first j lists hold. -/
def cntS (xss : List (List Int)) : Nat → Nat
  | 0 => 0
  | j + 1 => cntS xss j + (xss.getD j []).length
/-- The lists, the first j of them marked in turn from k on. -/
def mkS (k : Int) (xss : List (List Int)) : Nat → List (List Int)
  | 0 => xss
  | j + 1 => (mkS k xss j).set j (marks (k + (cntS xss j : Int)) (xss.getD j []).length)
theorem mkS_length (k : Int) (xss : List (List Int)) (j : Nat) : (mkS k xss j).length = xss.length := by
  induction j with
  | zero => rfl
  | succ j ih => rw [mkS, List.length_set, ih]
theorem mkS_old (k : Int) (xss : List (List Int)) (j i : Nat) (h : j ≤ i) : (mkS k xss j).getD i [] = xss.getD i [] := by
  induction j with
  | zero => rfl
  | succ j ih => rw [mkS, List.getD, List.getElem?_set_ne (by omega), ← List.getD, ih (by omega)]
theorem mkS_new (k : Int) (xss : List (List Int)) (i d : Nat) (h : i < xss.length) : (mkS k xss (i + 1 + d)).getD i [] = marks (k + (cntS xss i : Int)) (xss.getD i []).length := by
  induction d with
  | zero => rw [Nat.add_zero, mkS, List.getD, List.getElem?_set_self (by rw [mkS_length]; exact h)]; rfl
  | succ d ih => rw [← Nat.add_assoc, mkS, List.getD, List.getElem?_set_ne (by omega), ← List.getD, ih]
theorem cntS_mono (xss : List (List Int)) (j : Nat) : ∀ d, cntS xss j ≤ cntS xss (j + d)
  | 0 => Nat.le_refl _
  | d + 1 => by have := cntS_mono xss j d; rw [← Nat.add_assoc, cntS]; omega

theorem grown_bel {w w' : World} {base : Nat} {v : Value} {xs : List Int} {a : World} (hb : Below base a w) (h : OI w base v xs) (hg : w.grownBy w' v.ownBlock) (hs : base ≤ w.heap.size) : Below base a w' :=
  hb.grown hg hs fun k hk => (h.lt k hk).1

set_option maxHeartbeats 1000000 in
theorem markIntSS_any {w : World} {base m : Nat} {v : Value} {xss : List (List Int)} {k : Int} (h : OSS w base m v xss) (hb : base ≤ w.heap.size) (hk0 : 0 ≤ k) (hk1 : k ≤ 1000000) (hn : cntS xss xss.length ≤ 1000000) :
    Calls Try.prog 42 #[v, .int .i64 k] w fun e w' => e = .returned (.int .i64 (k + (cntS xss xss.length : Int))) ∧ OSS w' base m v (mkS k xss xss.length) ∧ Below base w w' := by
  obtain ⟨vs, h⟩ := h
  obtain ⟨ad, cap, rfl, _⟩ := h.shape
  have hl := h.len
  go_enter Try.func42, Try.ntmps42
  go_wp2
  go_loopw [1, 5] (fun kk i wr => ∃ j : Nat, j ≤ xss.length ∧ kk = .int .i64 (k + (cntS xss j : Int)) ∧ i = .int .i64 (j : Int) ∧ OSV wr base m (.slice ad xss.length cap) vs (mkS k xss j) ∧ Below base w wr) (fun _ i _ => xss.length - (intOf i).toNat)
  case atStart => exact ⟨0, Nat.zero_le _, by simp [cntS], rfl, h, Below.refl _ _⟩
  case round =>
    clear h
    obtain ⟨j, hj, rfl, rfl, ho, bb⟩ := hrel
    by_cases hlt : j < xss.length
    · have hml := mkS_length k xss j
      obtain ⟨ix, cx⟩ : (∀ w', (Instr.indexAt 33 (.slice ad xss.length cap) (.int .i64 (j : Int))).run Try.prog w' = .ok (.pointer (some ⟨gOf ad, j, none⟩)) w') ∧ wr.cell? ⟨gOf ad, j, none⟩ = some (vs.getD j nilS) := by
        have ho2 := ho
        rw [← hml] at ho2 ⊢
        exact ho2.at (by omega)
      have hx := ho.el j (by omega)
      rw [mkS_old k xss j j (Nat.le_refl _)] at hx
      have hc1 := cntS_mono xss (j + 1) (xss.length - (j + 1))
      rw [show j + 1 + (xss.length - (j + 1)) = xss.length from by omega] at hc1
      have hc2 : ((cntS xss (j + 1) : Nat) : Int) = (cntS xss j : Int) + ((xss.getD j []).length : Int) := by rw [cntS]; omega
      have hstep := fun w' hm hg => ho.marked (w' := w') (i := j) (ys := marks (k + (cntS xss j : Int)) (xss.getD j []).length) (by omega) hm hg
      have hmk : mkS k xss (j + 1) = (mkS k xss j).set j (marks (k + (cntS xss j : Int)) (xss.getD j []).length) := rfl
      rw [← hmk] at hstep
      obtain ⟨xj, hxj⟩ : ∃ z, xss.getD j [] = z := ⟨_, rfl⟩
      rw [hxj] at hx hc2 hstep
      clear hxj hmk
      obtain ⟨u, hu⟩ : ∃ u, vs.getD j nilS = u := ⟨_, rfl⟩
      rw [hu] at cx hx hstep
      replace hstep := Lib.hid hstep
      replace hml := Lib.hid hml
      clear hu
      go_wp2_with fail
      refine (markIntS_any hx (by omega) (by omega) (by omega)).mono ?_
      rintro e w2 ⟨rfl, hm2, hg2⟩
      have bb2 := grown_bel bb hx hg2 (Nat.le_trans hb bb.size)
      have ho2 := hstep.out w2 hm2 hg2
      go_wp2
      go_roundw
      case rel => exact ⟨j + 1, by omega, by rw [hc2, Int.add_assoc], by go_num, ho2, bb2⟩
      case measure => simp only [intOf]; omega
    · obtain rfl : j = xss.length := by omega
      go_wp2
      go_ret
      exact ⟨rfl, ⟨vs, ho⟩, bb⟩

end Go.Proofs.Ytbndfohnkdhgeaa
