/- Contracts of the laws' own helpers toIntS, eqIntS, markIntS, heldIntS. -/
import Derived.Test.YtemeechmemhokaaIn
import Derived.Test.YtemeechmemhokaaLists
import Derived.BigQuiet
import Derived.Deep.QuietTactic
namespace Go.Proofs.Ytemeechmemhokaa
open Go.RowKit

theorem info_int : (Try.prog.info? 3).map (fun i => (i.zero, i.size, i.bytes)) = some (some (.int .i64 0), 1, 8) := by kernel_rfl

/-- The block that an address leads to. -/
def gOf (ad : Option Addr) : Nat := (ad.map Addr.block).getD 0

theorem OI.shape {w : World} {base : Nat} {v : Value} {xs : List Int} (h : OI w base v xs) : ∃ ad cap, v = .slice ad xs.length cap ∧ xs.length ≤ 9223372036854775807 := by
  obtain ⟨ad, cap, g, hv, h1, h2, _⟩ := h.view
  unfold maxLen at h2
  exact ⟨ad, cap, hv, by omega⟩

theorem OI.at {w : World} {base cap k : Nat} {ad : Option Addr} {xs : List Int} (h : OI w base (.slice ad xs.length cap) xs) (hk : k < xs.length) :
    ∃ x, Hid (x = xs.getD k 0) ∧ (∀ w', (Instr.indexAt 22 (.slice ad xs.length cap) (.int .i64 (k : Int))).run Try.prog w' = .ok (.pointer (some ⟨gOf ad, k, none⟩)) w') ∧ w.cell? ⟨gOf ad, k, none⟩ = some (.int .i64 x) := by
  obtain ⟨i0, hi, hz0, hz1, hz2⟩ := info_parts info_int
  obtain ⟨ad', cap', g, hv, _, _, _, hx⟩ := h.view
  simp only [Value.slice.injEq] at hv
  obtain ⟨rfl, _, rfl⟩ := hv
  obtain ⟨had, _, _, hc, _⟩ := hx k hk
  have hg : gOf ad = g := by rw [had]; rfl
  rw [hg]
  exact ⟨_, rfl, indexAt_some Try.underlying22 hi hz1 had hk .i64, hc⟩

theorem OI.at0 {w : World} {base cap : Nat} {ad : Option Addr} {xs : List Int} (h : OI w base (.slice ad xs.length cap) xs) (hk : 0 < xs.length) :
    ∃ x, Hid (x = xs.getD 0 0) ∧ (∀ w', (Instr.indexAt 22 (.slice ad xs.length cap) (.int .i64 0)).run Try.prog w' = .ok (.pointer (some ⟨gOf ad, 0, none⟩)) w') ∧ w.cell? ⟨gOf ad, 0, none⟩ = some (.int .i64 x) := h.at hk

theorem OI.atLast {w : World} {base cap : Nat} {ad : Option Addr} {xs : List Int} (h : OI w base (.slice ad xs.length cap) xs) (hk : 0 < xs.length) :
    ∃ x, Hid (x = xs.getD (xs.length - 1) 0) ∧ (∀ w', (Instr.indexAt 22 (.slice ad xs.length cap) (.int .i64 ((xs.length : Int) - 1))).run Try.prog w' = .ok (.pointer (some ⟨gOf ad, xs.length - 1, none⟩)) w') ∧ w.cell? ⟨gOf ad, xs.length - 1, none⟩ = some (.int .i64 x) := by
  obtain ⟨x, HX, ix, c⟩ := h.at (k := xs.length - 1) (by omega)
  rw [show ((xs.length - 1 : Nat) : Int) = (xs.length : Int) - 1 from by omega] at ix
  exact ⟨x, HX, ix, c⟩

/-- eqIntS tells whether two lists are the same. -/
theorem eq_of_ne {xs ys : List Int} {k : Nat} (h : xs.getD k 0 ≠ ys.getD k 0) : decide (xs = ys) = false := by
  simp only [decide_eq_false_iff_not]; intro e; rw [e] at h; exact h rfl

theorem eqIntS_any {w : World} {b0 b1 : Nat} {v0 v1 : Value} {xs ys : List Int} (h0 : OI w b0 v0 xs) (h1 : OI w b1 v1 ys) :
    Calls Try.prog 12 #[v0, v1] w fun e w' => e = .returned (.bool (decide (xs = ys))) ∧ Q w w' := by
  obtain ⟨i0, hi, hz0, hz1, hz2⟩ := info_parts info_int
  obtain ⟨ad0, cap0, g0, rfl, hc0, hm0, hn0, hx0⟩ := h0.view
  obtain ⟨ad1, cap1, g1, rfl, hc1, hm1, hn1, hx1⟩ := h1.view
  clear h0 h1 hn0 hn1
  unfold maxLen at hm0 hm1
  have HI := Lib.hid hi
  clear hi
  by_cases hne : xs.length = ys.length
  · have l1 : xs.length ≤ ys.length := by omega
    have l2 : ys.length ≤ xs.length := by omega
    have HN := Lib.hid hne
    clear hne
    go_enter Try.func12, Try.ntmps12
    go_wp2
    go_loopw [5] (fun i wr => ∃ k : Nat, k ≤ xs.length ∧ i = .int .i64 k ∧ xs.take k = ys.take k ∧ Q w wr) (fun i _ => xs.length - (intOf i).toNat)
    case atStart => exact ⟨0, Nat.zero_le _, rfl, rfl, (by repeat (first | exact Q.refl _ | exact Q.mk _ _ | apply Q.drewN | apply Q.drew))⟩
    case round =>
      obtain ⟨k, hk, rfl, htk, nq, rfl⟩ := hrel
      have HT := Lib.hid htk
      clear htk
      by_cases hlt : k < xs.length
      · have i0 := indexAt_some Try.underlying22 HI.out hz1 (hx0 k hlt).1 hlt .i64 (cap := cap0)
        have i1 := indexAt_some Try.underlying22 HI.out hz1 (hx1 k (by omega)).1 (n := ys.length) (i := k) (by omega) .i64 (cap := cap1)
        have c0 := (hx0 k hlt).2.2.2.1
        have c1 := (hx1 k (by omega)).2.2.2.1
        obtain ⟨x, hx⟩ : ∃ x, x = xs.getD k 0 := ⟨_, rfl⟩
        obtain ⟨y, hy⟩ : ∃ y, y = ys.getD k 0 := ⟨_, rfl⟩
        rw [← hx] at c0
        rw [← hy] at c1
        have HX := Lib.hid hx
        have HY := Lib.hid hy
        clear hx0 hx1 hx hy
        go_wp2
        go_quiet (fail)
        go_wp2
        · have ht : (x != y) = true := by assumption
          go_ret
          exact ⟨ret_bool (eq_of_ne (k := k) (by rw [← HX.out, ← HY.out]; exact bne_iff_ne.1 ht)).symm, (by repeat (first | exact Q.refl _ | exact Q.mk _ _ | apply Q.drewN | apply Q.drew))⟩
        · have ht : (x != y) = false := by assumption
          have hxy : x = y := by simpa using ht
          have HE := Lib.hid hxy
          clear hxy ht
          go_roundw
          case rel => exact ⟨k + 1, by omega, by go_num, by rw [take_succ_getD _ _ hlt, take_succ_getD _ _ (by omega), HT.out, ← HX.out, ← HY.out, HE.out], (by repeat (first | exact Q.refl _ | exact Q.mk _ _ | apply Q.drewN | apply Q.drew))⟩
          case measure => simp [intOf]; omega
      · have hk2 : k = xs.length := by omega
        have hfin : xs = ys := by
          have h := HT.out
          rw [List.take_of_length_le (by omega), List.take_of_length_le (by omega)] at h
          exact h
        clear hx0 hx1
        go_wp2
        go_ret
        exact ⟨ret_bool (by simp [hfin]), (by repeat (first | exact Q.refl _ | exact Q.mk _ _ | apply Q.drewN | apply Q.drew))⟩
  · have hne2 : ((xs.length : Int) != (ys.length : Int)) = true := by simp; omega
    go_enter Try.func12, Try.ntmps12
    go_wp2
    go_ret
    exact ⟨ret_bool (by symm; simp only [decide_eq_false_iff_not]; intro e; rw [e] at hne; exact hne rfl), (by repeat (first | exact Q.refl _ | exact Q.mk _ _ | apply Q.drewN | apply Q.drew))⟩

/-- toIntS copies. -/
theorem getD_take (zs : List Int) (n k : Nat) (h : k < n) : (zs.take n).getD k 0 = zs.getD k 0 := by simp [List.getD, h]

def part (xs : List Int) (k : Nat) : List Int := xs.take k ++ List.replicate (xs.length - k) 0
theorem part_length (xs : List Int) (k : Nat) (h : k ≤ xs.length) : (part xs k).length = xs.length := by simp [part]; omega
theorem part_zero (xs : List Int) : part xs 0 = List.replicate xs.length 0 := by simp [part]
theorem part_all (xs : List Int) : part xs xs.length = xs := by simp [part]
theorem part_set (xs : List Int) (k : Nat) (h : k < xs.length) : (part xs k).set k (xs.getD k 0) = part xs (k + 1) := by
  unfold part
  rw [List.set_append_right _ _ (by simp; omega), take_succ_getD xs k h]
  have e : xs.length - k = (xs.length - (k + 1)) + 1 := by omega
  rw [show k - (xs.take k).length = 0 from by simp; omega, e, List.replicate_succ, List.set_cons_zero]
  simp

theorem part_own {w : World} {base g len cap k : Nat} {xs : List Int} (h : w.ownsRow base 3 1 (.slice (some ⟨g, 0, none⟩) len cap) len ((part xs k).map (Value.int .i64))) (hk : k < xs.length) :
    (w.setCell ⟨g, k, none⟩ (.int .i64 (xs.getD k 0))).ownsRow base 3 1 (.slice (some ⟨g, 0, none⟩) len cap) len ((part xs (k + 1)).map (Value.int .i64)) := by
  have h2 := (h.stored k (.int .i64 (xs.getD k 0))).1
  rw [← part_set xs k hk, List.map_set]
  exact h2

theorem made_part (xs : List Int) (len : Nat) (h : xs.length = len) : (madeCells (Value.int .i64 0).cells (len * 1)).toList = (part xs 0).map (Value.int .i64) := by
  rw [part_zero, List.map_replicate, h, Nat.mul_one]
  exact toList_madeCells_one _ _

theorem toIntS_any {w : World} {a : Option Addr} {len cap : Nat} {zs : List Int} (h : IsRow .i64 w a len cap zs) (hl : len ≤ 1048576) :
    Calls Try.prog 10 #[.slice a len cap] w (RetOI w (zs.take len)) := by
  obtain ⟨i0, hi, hz0, hz1, hz2⟩ := info_parts info_int
  obtain ⟨x, hlc, hcm, hzl, htl, hwf, hx⟩ := h.view
  clear h hwf
  unfold maxLen at hcm
  obtain ⟨xs, hxs⟩ : ∃ xs, xs = zs.take len := ⟨_, rfl⟩
  rw [← hxs] at htl hx ⊢
  have HL := Lib.hid htl
  clear hzl hxs zs htl
  go_enter Try.func10, Try.ntmps10
  go_wp2_with (at_make; refine wpList_make_full _ rfl (.tmp 6) (.tmp 6) 22 rfl w.heap.size 3 i0 (.int .i64 0) 1 Try.underlying22 hi hz0 hz1 .i64 .i64 _ _ len rfl rfl rfl rfl (by rw [hz2]; omega) (by unfold maxLen; omega) (Nat.le_refl _) ?_; intro w1 hown1 hg1)
  rw [made_part xs len HL.out] at hown1
  have hnx : Below w.heap.size w w1 := (Below.refl _ _).grown hg1 (Nat.le_refl _) (fun _ e => by cases e)
  clear hg1
  go_loopw [4] (fun i wr => ∃ k : Nat, k ≤ len ∧ i = .int .i64 k ∧ wr.ownsRow w.heap.size 3 1 (.slice (some ⟨w.heap.size, 0, none⟩) len len) len ((part xs k).map (Value.int .i64)) ∧ Below w.heap.size w wr) (fun i _ => len - (intOf i).toNat)
  case atStart => exact ⟨0, Nat.zero_le _, rfl, hown1, hnx⟩
  case round =>
    clear hown1 hnx
    obtain ⟨k, hk, rfl, hown, hnx⟩ := hrel
    by_cases hlt : k < len
    · have i0 := indexAt_any Try.underlying22 hi hz1 (hx k hlt).1 hlt .i64 (cap := cap)
      have i1 := indexAt_some Try.underlying22 hi hz1 (g := w.heap.size) rfl hlt .i64 (cap := len)
      have c0 := (hnx.cell (p := x.add k) (by rw [Addr.add_block]; exact (hx k hlt).2.1)).trans (hx k hlt).2.2
      have hf := hown.frozenAt k
      obtain ⟨u, c1⟩ : ∃ u, wr.cell? ⟨w.heap.size, k, none⟩ = some u := by
        rw [hown.cellAt k (by omega)]
        exact ⟨_, List.getElem?_eq_getElem (by simp [part_length xs k (by rw [HL.out]; omega), HL.out]; omega)⟩
      clear hx
      go_wp2
      go_roundw
      case rel => exact ⟨k + 1, by omega, by go_num, part_own hown (by rw [HL.out]; exact hlt), hnx.setCell (Nat.le_refl _) _⟩
      case measure => simp [intOf]; omega
    · have hk2 : k = len := by omega
      subst hk2
      have hfin : OI wr w.heap.size (.slice (some ⟨w.heap.size, 0, none⟩) k k) xs := by
        unfold OI
        rw [HL.out]
        have h := part_all xs
        rw [HL.out] at h
        rw [h] at hown
        exact hown
      clear hown hx
      go_wp2
      go_ret
      exact ⟨_, rfl, hfin, hnx⟩

/-- The numbers k, k + 1, .. -/
def marks (k : Int) (n : Nat) : List Int := (List.range n).map fun (i : Nat) => k + (i : Int)
theorem marks_length (k : Int) (n : Nat) : (marks k n).length = n := by simp [marks]
theorem marks_succ (k : Int) (n : Nat) : marks k (n + 1) = marks k n ++ [k + (n : Int)] := by simp [marks, List.range_succ]
theorem marks_getD (k : Int) (n i : Nat) (h : i < n) : (marks k n).getD i 0 = k + (i : Int) := by simp [marks, List.getD, h]
theorem marks_step (k : Int) (xs : List Int) (j : Nat) (h : j < xs.length) : (marks k j ++ xs.drop j).set j (k + (j : Int)) = marks k (j + 1) ++ xs.drop (j + 1) := by
  rw [List.set_append_right _ _ (by rw [marks_length]; exact Nat.le_refl _), marks_length, Nat.sub_self, marks_succ, List.drop_eq_getElem_cons h, List.set_cons_zero]
  simp

def markRel (w : World) (base : Nat) (v : Value) (xs : List Int) (k : Int) (wr : World) (j : Nat) : Prop :=
  wr.ownsRow base 3 1 v xs.length ((marks k j ++ xs.drop j).map (Value.int .i64)) ∧ w.grownBy wr v.ownBlock

theorem markRel.step {w wr : World} {base : Nat} {ad : Option Addr} {g cap j : Nat} {xs : List Int} {k : Int} (h : markRel w base (.slice ad xs.length cap) xs k wr j) (had : ad = some ⟨g, 0, none⟩) (hj : j < xs.length) :
    markRel w base (.slice ad xs.length cap) xs k (wr.setCell ⟨g, j, none⟩ (.int .i64 (k + (j : Int)))) (j + 1) := by
  subst had
  obtain ⟨h1, h2⟩ := h
  have h3 := h1.stored j (.int .i64 (k + (j : Int)))
  refine ⟨?_, ?_⟩
  · rw [← marks_step k xs j hj, List.map_set]
    exact h3.1
  · have h4 : wr.grownBy (wr.setCell ⟨g, j, none⟩ (.int .i64 (k + (j : Int)))) (Value.slice (some ⟨g, 0, none⟩) xs.length cap).ownBlock := h3.2
    exact h2.trans h4

theorem markRel.cell {w wr : World} {base : Nat} {ad : Option Addr} {g cap j : Nat} {xs : List Int} {k : Int} (h : markRel w base (.slice ad xs.length cap) xs k wr j) (had : ad = some ⟨g, 0, none⟩) (hj : j < xs.length) :
    (∃ u, wr.cell? ⟨g, j, none⟩ = some u) ∧ wr.frozen? ⟨g, j, none⟩ = false := by
  subst had
  refine ⟨?_, h.1.frozenAt j⟩
  rw [h.1.cellAt j (by omega)]
  exact ⟨_, List.getElem?_eq_getElem (by simp [marks_length]; omega)⟩

/-- markIntS writes the numbers k, k + 1, .. into the slice. -/
theorem markIntS_any {w : World} {base : Nat} {v : Value} {xs : List Int} {k : Int} (h : OI w base v xs) (hk0 : 0 ≤ k) (hk1 : k ≤ 1099511627776) (hn : xs.length ≤ 1099511627776) :
    Calls Try.prog 13 #[v, .int .i64 k] w fun e w' => e = .returned (.int .i64 (k + (xs.length : Int))) ∧ OI w' base v (marks k xs.length) ∧ w.grownBy w' v.ownBlock := by
  obtain ⟨i0, hi, hz0, hz1, hz2⟩ := info_parts info_int
  have hm0 : markRel w base v xs k w 0 := ⟨by simp only [marks, List.range_zero, List.map_nil, List.nil_append, List.drop_zero]; exact h, World.grownBy.refl _ _⟩
  obtain ⟨ad, cap, g, rfl, hc0, hm, hnn, hx⟩ := h.view
  clear h hnn
  unfold maxLen at hm
  go_enter Try.func13, Try.ntmps13
  go_wp2
  go_loopw [1, 5] (fun kk i wr => ∃ j : Nat, j ≤ xs.length ∧ kk = .int .i64 (k + (j : Int)) ∧ i = .int .i64 j ∧ markRel w base (.slice ad xs.length cap) xs k wr j) (fun _ i _ => xs.length - (intOf i).toNat)
  case atStart => exact ⟨0, Nat.zero_le _, by simp, rfl, hm0⟩
  case round =>
    clear hm0
    obtain ⟨j, hj, rfl, rfl, hrl⟩ := hrel
    by_cases hlt : j < xs.length
    · have had := (hx j hlt).1
      have ix := indexAt_some Try.underlying22 hi hz1 had hlt .i64 (cap := cap)
      obtain ⟨⟨u, c1⟩, hf⟩ := hrl.cell had hlt
      have HAD := Lib.hid had
      clear had hx
      go_wp2
      go_roundw
      case rel => exact ⟨j + 1, by omega, by go_num, by go_num, hrl.step HAD.out hlt⟩
      case measure => simp [intOf]; omega
    · have hk2 : j = xs.length := by omega
      have hfin : OI wr base (.slice ad xs.length cap) (marks k xs.length) := by
        unfold OI
        rw [marks_length]
        have h1 := hrl.1
        rw [hk2, List.drop_length, List.append_nil] at h1
        exact h1
      have hg := hrl.2
      subst hk2
      clear hrl hx
      go_wp2
      go_ret
      exact ⟨rfl, hfin, hg⟩

/-- heldIntS finds the numbers k, k + 1, .. in the slice. -/
theorem heldIntS_any {w : World} {base : Nat} {v : Value} {n : Nat} {k : Int} (h : OI w base v (marks k n)) (hk0 : 0 ≤ k) (hk1 : k ≤ 1099511627776) (hn : n ≤ 1099511627776) :
    Calls Try.prog 14 #[v, .int .i64 k] w fun e w' => e = .returned (.int .i64 (k + (n : Int))) ∧ w = w' := by
  obtain ⟨i0, hi, hz0, hz1, hz2⟩ := info_parts info_int
  obtain ⟨ad, cap, g, rfl, hc0, hm, hnn, hx⟩ := h.view
  clear h hnn
  rw [marks_length] at hc0 hx ⊢
  unfold maxLen at hm
  go_enter Try.func14, Try.ntmps14
  go_wp2
  go_loop [1, 5] (fun kk i => ∃ j : Nat, j ≤ n ∧ kk = .int .i64 (k + (j : Int)) ∧ i = .int .i64 j) (fun _ i => n - (intOf i).toNat)
  case atStart => exact ⟨0, Nat.zero_le _, by simp, rfl⟩
  case round =>
    obtain ⟨j, hj, rfl, rfl⟩ := hrel
    by_cases hlt : j < n
    · have ix := indexAt_some Try.underlying22 hi hz1 (hx j hlt).1 hlt .i64 (cap := cap)
      have c1 := (hx j hlt).2.2.2.1
      rw [marks_getD k n j hlt] at c1
      clear hx
      go_wp2
      go_round
      case rel => exact ⟨j + 1, by omega, by go_num, by go_num⟩
      case measure => simp [intOf]; omega
    · have hk2 : j = n := by omega
      subst hk2
      clear hx
      go_wp2
      go_ret
      exact ⟨rfl, rfl⟩
end Go.Proofs.Ytemeechmemhokaa
