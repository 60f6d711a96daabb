/- Contracts of eqStringS, markStringS, heldStringS. -/
import Derived.Test.YtaejjbcmhapebaaStrs
import Derived.BigQuiet
namespace Go.Proofs.Ytaejjbcmhapebaa
open Go.RowKit

theorem cellStayS {w w2 : World} {p : Addr} {v : Value} (hb : Below w.heap.size w w2) (h : w.cell? p = some v) : w2.cell? p = some v := (hb.cell (World.cell_lt h)).trans h

theorem bl_eq {x y : ByteArray} (h : x = y) : (!(x.toList == y.toList)) = false := by rw [h]; simp
theorem str_of_ne {xs ys : List ByteArray} {k : Nat} (h : strAt xs k ≠ strAt ys k) : decide (xs = ys) = false := by
  simp only [decide_eq_false_iff_not]; intro e; rw [e] at h; exact h rfl
theorem take_succ_str (xs : List ByteArray) (k : Nat) (h : k < xs.length) : xs.take (k + 1) = xs.take k ++ [strAt xs k] := by
  rw [List.take_add_one, List.getElem?_eq_getElem h, strAt, List.getD, List.getElem?_eq_getElem h]; rfl

set_option maxRecDepth 100000 in
theorem eqStringS_same {w : World} {b0 b1 : Nat} {v0 v1 : Value} {xs : List ByteArray} (h0 : OS w b0 v0 xs) (h1 : OS w b1 v1 xs) :
    Calls Try.prog 19 #[v0, v1] w fun e w' => e = .returned (.bool true) ∧ Q w w' := by
  obtain ⟨i0, hi, hz0, hz1, hz2⟩ := info_parts info_str
  obtain ⟨ad0, cap0, g0, rfl, hc0, hm0, hn0, hx0⟩ := h0.view
  obtain ⟨ad1, cap1, g1, rfl, hc1, hm1, hn1, hx1⟩ := h1.view
  clear h0 h1 hn0 hn1
  unfold maxLen at hm0 hm1
  have HI := Lib.hid hi
  clear hi
  go_enter Try.func19, Try.ntmps19
  go_wp2
  go_loopw [5] (fun i wr => ∃ k : Nat, k ≤ xs.length ∧ i = .int .i64 k ∧ Q w wr) (fun i _ => xs.length - (intOf i).toNat)
  case atStart => exact ⟨0, Nat.zero_le _, rfl, (by repeat (first | exact Q.refl _ | exact Q.mk _ _ | apply Q.drewN | apply Q.drew))⟩
  case round =>
    obtain ⟨k, hk, rfl, nq, rfl⟩ := hrel
    by_cases hlt : k < xs.length
    · have i0 := indexAt_some Try.underlying32 HI.out hz1 (hx0 k hlt).1 hlt .i64 (cap := cap0)
      have i1 := indexAt_some Try.underlying32 HI.out hz1 (hx1 k hlt).1 hlt .i64 (cap := cap1)
      have c0 := (hx0 k hlt).2.2.2.1
      have c1 := (hx1 k hlt).2.2.2.1
      obtain ⟨x, hx⟩ : ∃ x, x = strAt xs k := ⟨_, rfl⟩
      rw [← hx] at c0 c1
      clear hx0 hx1 hx
      go_wp2
      go_quiet (fail)
      go_wp2
      go_roundw
      case rel => exact ⟨k + 1, by omega, by go_num, (by repeat (first | exact Q.refl _ | exact Q.mk _ _ | apply Q.drewN | apply Q.drew))⟩
      case measure => simp [intOf]; omega
    · clear hx0 hx1
      go_wp2
      go_ret
      exact ⟨rfl, (by repeat (first | exact Q.refl _ | exact Q.mk _ _ | apply Q.drewN | apply Q.drew))⟩

/-- The mark texts of k, k + 1, .. -/
def markT (k : Int) (n : Nat) : List ByteArray := (List.range n).map fun (i : Nat) => mtx (k + (i : Int))
theorem markT_length (k : Int) (n : Nat) : (markT k n).length = n := by simp [markT]
theorem markT_succ (k : Int) (n : Nat) : markT k (n + 1) = markT k n ++ [mtx (k + (n : Int))] := by simp [markT, List.range_succ]
theorem markT_at (k : Int) (n i : Nat) (h : i < n) : strAt (markT k n) i = mtx (k + (i : Int)) := by simp [markT, strAt, List.getD, h]
theorem markT_step (k : Int) (xs : List ByteArray) (j : Nat) (h : j < xs.length) : (markT k j ++ xs.drop j).set j (mtx (k + (j : Int))) = markT k (j + 1) ++ xs.drop (j + 1) := by
  rw [List.set_append_right _ _ (by rw [markT_length]; exact Nat.le_refl _), markT_length, Nat.sub_self, markT_succ, List.drop_eq_getElem_cons h, List.set_cons_zero]
  simp

def markRelS (w : World) (base : Nat) (v : Value) (xs : List ByteArray) (k : Int) (wr : World) (j : Nat) : Prop :=
  wr.ownsRow base 9 1 v xs.length ((markT k j ++ xs.drop j).map Value.string) ∧ w.grownBy wr v.ownBlock

theorem ownsRow_below {w w' : World} {base n : Nat} {v : Value} {xs : List Value} {E : TypeId} (h : w.ownsRow base E 1 v n xs) (hb : Below w.heap.size w w') : w'.ownsRow base E 1 v n xs := by
  have hlt := World.ownsRow.lt h
  obtain ⟨h1, h2⟩ := h
  refine ⟨h1, ?_⟩
  rcases h2 with h2 | ⟨g, cap, cur, hv, hg, hh, r⟩
  · exact Or.inl h2
  · exact Or.inr ⟨g, cap, cur, hv, hg, by rw [hb.block g (hlt g (by rw [hv]; rfl)).2]; exact hh, r⟩
theorem grown_of_below {a w w' : World} {r : Option Nat} (h : a.grownBy w r) (hb : Below w.heap.size w w') : a.grownBy w' r :=
  ⟨hb.os.trans h.os, hb.tape.trans h.tape, hb.output.trans h.output, Nat.le_trans h.size hb.size, fun k hk hne => by
    rw [hb.block k (Nat.lt_of_lt_of_le hk h.size)]
    exact h.block k hk hne⟩
theorem markRelS.below {w wr w' : World} {base : Nat} {v : Value} {xs : List ByteArray} {k : Int} {j : Nat} (h : markRelS w base v xs k wr j) (hb : Below wr.heap.size wr w') : markRelS w base v xs k w' j :=
  ⟨ownsRow_below h.1 hb, grown_of_below h.2 hb⟩

theorem markRelS.step {w wr : World} {base : Nat} {ad : Option Addr} {g cap j : Nat} {xs : List ByteArray} {k : Int} (h : markRelS w base (.slice ad xs.length cap) xs k wr j) (had : ad = some ⟨g, 0, none⟩) (hj : j < xs.length) :
    markRelS w base (.slice ad xs.length cap) xs k (wr.setCell ⟨g, j, none⟩ (.string (mtx (k + (j : Int))))) (j + 1) := by
  subst had
  obtain ⟨h1, h2⟩ := h
  have h3 := h1.stored j (.string (mtx (k + (j : Int))))
  refine ⟨?_, ?_⟩
  · rw [← markT_step k xs j hj, List.map_set]
    exact h3.1
  · have h4 : wr.grownBy (wr.setCell ⟨g, j, none⟩ (.string (mtx (k + (j : Int))))) (Value.slice (some ⟨g, 0, none⟩) xs.length cap).ownBlock := h3.2
    exact h2.trans h4

theorem markRelS.cell {w wr : World} {base : Nat} {ad : Option Addr} {g cap j : Nat} {xs : List ByteArray} {k : Int} (h : markRelS w base (.slice ad xs.length cap) xs k wr j) (had : ad = some ⟨g, 0, none⟩) (hj : j < xs.length) :
    (∃ u, wr.cell? ⟨g, j, none⟩ = some u) ∧ wr.frozen? ⟨g, j, none⟩ = false := by
  subst had
  refine ⟨?_, h.1.frozenAt j⟩
  rw [h.1.cellAt j (by omega)]
  exact ⟨_, List.getElem?_eq_getElem (by simp [markT_length]; omega)⟩

set_option maxRecDepth 100000 in
theorem markStringS_any {w : World} {base : Nat} {v : Value} {xs : List ByteArray} {k : Int} (h : OS w base v xs) (hk0 : 0 ≤ k) (hk1 : k ≤ 1099511627776) (hn : xs.length ≤ 1099511627776) :
    Calls Try.prog 20 #[v, .int .i64 k] w fun e w' => e = .returned (.int .i64 (k + (xs.length : Int))) ∧ OS w' base v (markT k xs.length) ∧ w.grownBy w' v.ownBlock := by
  obtain ⟨i0, hi, hz0, hz1, hz2⟩ := info_parts info_str
  have hm0 : markRelS w base v xs k w 0 := ⟨by simp only [markT, List.range_zero, List.map_nil, List.nil_append, List.drop_zero]; exact h, World.grownBy.refl _ _⟩
  obtain ⟨ad, cap, g, rfl, hc0, hm, hnn, hx⟩ := h.view
  clear h hnn
  unfold maxLen at hm
  go_enter Try.func20, Try.ntmps20
  go_wp2
  go_loopw [1, 5] (fun kk i wr => ∃ j : Nat, j ≤ xs.length ∧ kk = .int .i64 (k + (j : Int)) ∧ i = .int .i64 j ∧ markRelS w base (.slice ad xs.length cap) xs k wr j) (fun _ i _ => xs.length - (intOf i).toNat)
  case atStart => exact ⟨0, Nat.zero_le _, by simp, rfl, hm0⟩
  case round =>
    clear hm0
    obtain ⟨j, hj, rfl, rfl, hrl⟩ := hrel
    by_cases hlt : j < xs.length
    · have had := (hx j hlt).1
      have ix := indexAt_some Try.underlying32 hi hz1 had hlt .i64 (cap := cap)
      have HAD := Lib.hid had
      clear had hx
      go_wp2_with fail
      refine (markTextAny (by omega) _).mono ?_
      rintro e w1 ⟨rfl, b1⟩
      have hrl1 := hrl.below b1
      obtain ⟨⟨u, c1⟩, hf⟩ := hrl1.cell HAD.out hlt
      go_wp2
      go_roundw
      case rel => exact ⟨j + 1, by omega, by go_num, by go_num, hrl1.step HAD.out hlt⟩
      case measure => simp [intOf]; omega
    · have hk2 : j = xs.length := by omega
      have hfin : OS wr base (.slice ad xs.length cap) (markT k xs.length) := by
        unfold OS
        rw [markT_length]
        have h1 := hrl.1
        rw [hk2, List.drop_length, List.append_nil] at h1
        exact h1
      have hg := hrl.2
      subst hk2
      clear hrl hx
      go_wp2
      go_ret
      exact ⟨rfl, hfin, hg⟩

set_option maxRecDepth 100000 in
theorem heldStringS_any {w : World} {base : Nat} {v : Value} {n : Nat} {k : Int} (h : OS w base v (markT k n)) (hk0 : 0 ≤ k) (hk1 : k ≤ 1099511627776) (hn : n ≤ 1099511627776) :
    Calls Try.prog 21 #[v, .int .i64 k] w fun e w' => e = .returned (.int .i64 (k + (n : Int))) ∧ Below w.heap.size w w' := by
  obtain ⟨i0, hi, hz0, hz1, hz2⟩ := info_parts info_str
  obtain ⟨ad, cap, g, rfl, hc0, hm, hnn, hx⟩ := h.view
  clear h hnn
  rw [markT_length] at hc0 hx ⊢
  unfold maxLen at hm
  go_enter Try.func21, Try.ntmps21
  go_wp2
  go_loopw [1, 5] (fun kk i wr => ∃ j : Nat, j ≤ n ∧ kk = .int .i64 (k + (j : Int)) ∧ i = .int .i64 j ∧ Below w.heap.size w wr) (fun _ i _ => n - (intOf i).toNat)
  case atStart => exact ⟨0, Nat.zero_le _, by simp, rfl, Below.refl _ _⟩
  case round =>
    obtain ⟨j, hj, rfl, rfl, hb⟩ := hrel
    by_cases hlt : j < n
    · have ix := indexAt_some Try.underlying32 hi hz1 (hx j hlt).1 hlt .i64 (cap := cap)
      have c1 := cellStayS hb (hx j hlt).2.2.2.1
      rw [markT_at k n j hlt] at c1
      have HI := Lib.hid hi
      clear hx hi
      have hkj : k + (j : Int) ≤ 4611686018427387904 := by omega
      go_wp2
      go_region_held3 (fun w' => w'.cell? ⟨g, j, none⟩ = some (.string (mtx (k + (j : Int)))))
        (first
          | exact cellStayS b1 (by assumption)
          | go_keep)
        ((first
          | (go_at_call 29; refine (markTextAny hkj _).mono ?_; rintro e w1 ⟨rfl, b1⟩)
          | fail))
      go_wp2
      go_roundw
      case rel => exact ⟨j + 1, by omega, by go_num, by go_num, (by repeat (first | exact Below.refl _ _ | (refine bDrewN ?_ _) | (refine Below.drew ?_) | (refine bAlloc ?_ _) | (refine Below.setCell ?_ (by first | omega | (simp <;> omega)) _) | (refine bThen ?_ (by assumption))))⟩
      case measure => simp [intOf]; omega
    · have hk2 : j = n := by omega
      subst hk2
      clear hx
      go_wp2
      go_ret
      exact ⟨rfl, hb⟩
end Go.Proofs.Ytaejjbcmhapebaa
