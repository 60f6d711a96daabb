/- Contracts of FractionText in the program and in the reference. Condition: the library's table (Tab). -/
import Derived.Test.YthonlkconobdfaaDoorFmt
import Derived.Test.YthonlkconobdfaaDoorFrac
import Derived.Deep.RegionHeld3
namespace Go.Proofs.YthonlkconobdfaaDoor
open Go.RowKit

def ftx (t b : Int) : ByteArray := if fracB t b = true then (if b = 1 then itx t else itx t ++ ⟨#[47]⟩ ++ itx b) else ⟨#[]⟩
theorem itx_size (n : Int) (h : -9223372036854775808 ≤ n ∧ n ≤ 9223372036854775807) : (itx n).size ≤ 21 := by
  have := Lib.itoa_length_le n h.1 h.2
  show (Lib.itoa n).toArray.size ≤ 21
  simpa using this
theorem fracB_bd {t b : Int} (h : fracB t b = true) : (-1000000 ≤ t ∧ t ≤ 1000000) ∧ (1 ≤ b ∧ b ≤ 1000000) := by
  rw [fracB, Bool.and_eq_true, Bool.and_eq_true] at h
  exact ⟨inB_iff.1 h.1, inB_iff.1 h.2.1⟩

set_option maxRecDepth 100000 in
set_option maxHeartbeats 2000000 in
theorem implFtx (t b : Int) (w : World) (ht : Tab w) : Calls Tryd.prog 13 #[.agg #[.int .i64 t, .int .i64 b]] w fun e w' => e = .returned (.string (ftx t b)) ∧ Below w.heap.size w w' := by
  have hcell : ∀ w2, Below (w.alloc (.cells #[.int .i64 t, .int .i64 b] 27)).heap.size (w.alloc (.cells #[.int .i64 t, .int .i64 b] 27)) w2 → w2.cell? ⟨w.heap.size, 0, none⟩ = some (.int .i64 t) ∧ w2.cell? ⟨w.heap.size, 1, none⟩ = some (.int .i64 b) := fun w2 h => by
    obtain ⟨c0, c1, _⟩ := pairAt h (heap_alloc_new w _)
    exact ⟨c0, c1⟩
  have ba : Below w.heap.size w (w.alloc (.cells #[.int .i64 t, .int .i64 b] 27)) := bAlloc (Below.refl _ _) _
  cases hf : fracB t b
  · have HF : Hid (ftx t b = ⟨#[]⟩) := by unfold Hid; rw [ftx, hf]; rfl
    replace hf := Lib.hid hf
    go_enter Tryd.func13, Tryd.ntmps13
    go_wp2_with (first | (go_at_call 28; refine (implFractionOkB t b _).mono ?_; rintro e w1 ⟨rfl, b1⟩; rw [hf.out]) | fail)
    have bb := bThen ba b1
    clear b1 ba hcell
    go_wp2
    go_ret
    exact ⟨ret_str HF.out.symm, bb⟩
  · have hbd := fracB_bd hf
    by_cases h1 : b = 1
    · have HF : Hid (ftx t b = itx t) := by unfold Hid; rw [ftx, hf, if_pos rfl, if_pos h1]
      have hq : (b == 1) = true := by rw [h1]; rfl
      replace hf := Lib.hid hf
      replace h1 := Lib.hid h1
      go_enter Tryd.func13, Tryd.ntmps13
      go_wp2_with (first | (go_at_call 28; refine (implFractionOkB t b _).mono ?_; rintro e w1 ⟨rfl, b1⟩; rw [hf.out]; obtain ⟨c0, c1⟩ := hcell w1 b1; have bb := bThen ba b1) | (go_at_call 10; refine (implFmt _ _ (by omega) (ht.on bb)).mono ?_; rintro e w2 ⟨rfl, b2⟩) | fail)
      have bb2 := bThen bb b2
      clear b1 ba hcell bb b2
      go_wp2
      go_ret
      exact ⟨ret_str HF.out.symm, bb2⟩
    · have HF : Hid (ftx t b = itx t ++ ⟨#[47]⟩ ++ itx b) := by unfold Hid; rw [ftx, hf, if_pos rfl, if_neg h1]
      have hq : (b == 1) = false := by rw [beq_eq_false_iff_ne]; exact h1
      have st := itx_size t (by omega)
      have sb := itx_size b (by omega)
      replace hf := Lib.hid hf
      replace h1 := Lib.hid h1
      go_enter Tryd.func13, Tryd.ntmps13
      go_wp2_with (first | (go_at_call 28; refine (implFractionOkB t b _).mono ?_; rintro e w1 ⟨rfl, b1⟩; rw [hf.out]; obtain ⟨c0, c1⟩ := hcell w1 b1) | fail)
      have bb := bThen ba b1
      have t1 : Tab w1.drew := ht.on bb.drew
      obtain ⟨T, eT⟩ : ∃ T, T = itx t := ⟨_, rfl⟩
      obtain ⟨B, eB⟩ : ∃ B, B = itx b := ⟨_, rfl⟩
      rw [← eT] at st
      rw [← eB] at sb
      have hlt : w.heap.size < w1.heap.size := by have := b1.size; simp at this; omega
      replace eT := Lib.hid eT
      replace eB := Lib.hid eB
      have s1 : ¬ 9223372036854775807 < T.size + 1 := by omega
      have s2 : ¬ 9223372036854775807 < T.size + 1 + B.size := by omega
      clear b1 ba hcell
      go_wp2
      go_region_held3 (fun w' => w'.cell? ⟨w.heap.size, 0, none⟩ = some (.int .i64 t) ∧ w'.cell? ⟨w.heap.size, 1, none⟩ = some (.int .i64 b))
        (first
          | (with_reducible exact ⟨c0, c1⟩)
          | (with_reducible exact ⟨d0, d1⟩)
          | (with_reducible exact ⟨f0, f1⟩)
          | go_keep
          | fail)
        ((first
          | (have _q := d0; go_at_call 10; refine (implFmt b _ (by omega) t2).mono ?_; rintro e w3 ⟨rfl, b3⟩; rw [← eB.out]; have f0 := cellStay b3 d0; have f1 := cellStay b3 d1; have bb3 := bThen bb2 b3)
          | (go_at_call 10; refine (implFmt t _ (by omega) t1).mono ?_; rintro e w2 ⟨rfl, b2⟩; rw [← eT.out]; have d0 := cellStay b2 c0; have d1 := cellStay b2 c1; have bb2 := bThen bb.drew b2; have t2 := ht.on bb2)
          | fail))
      go_wp2
      go_ret
      exact ⟨ret_str (by rw [HF.out, eT.out, eB.out]), bb3⟩


set_option maxRecDepth 100000 in
set_option maxHeartbeats 2000000 in
theorem specFtx (t b : Int) (w : World) (ht : Tab w) : Calls Tryd.prog 11 #[.agg #[.int .i64 t, .int .i64 b]] w fun e w' => e = .returned (.string (ftx t b)) ∧ Below w.heap.size w w' := by
  have hcell : ∀ w2, Below (w.alloc (.cells #[.int .i64 t, .int .i64 b] 27)).heap.size (w.alloc (.cells #[.int .i64 t, .int .i64 b] 27)) w2 → w2.cell? ⟨w.heap.size, 0, none⟩ = some (.int .i64 t) ∧ w2.cell? ⟨w.heap.size, 1, none⟩ = some (.int .i64 b) := fun w2 h => by
    obtain ⟨c0, c1, _⟩ := pairAt h (heap_alloc_new w _)
    exact ⟨c0, c1⟩
  have ba : Below w.heap.size w (w.alloc (.cells #[.int .i64 t, .int .i64 b] 27)) := bAlloc (Below.refl _ _) _
  cases hf : fracB t b
  · have HF : Hid (ftx t b = ⟨#[]⟩) := by unfold Hid; rw [ftx, hf]; rfl
    replace hf := Lib.hid hf
    go_enter Tryd.func11, Tryd.ntmps11
    go_wp2_with (first | (go_at_call 27; refine (specFractionOkB t b _).mono ?_; rintro e w1 ⟨rfl, b1⟩; rw [hf.out]) | fail)
    have bb := bThen ba b1
    clear b1 ba hcell
    go_wp2
    go_ret
    exact ⟨ret_str HF.out.symm, bb⟩
  · have hbd := fracB_bd hf
    by_cases h1 : b = 1
    · have HF : Hid (ftx t b = itx t) := by unfold Hid; rw [ftx, hf, if_pos rfl, if_pos h1]
      have hq : (b == 1) = true := by rw [h1]; rfl
      replace hf := Lib.hid hf
      replace h1 := Lib.hid h1
      go_enter Tryd.func11, Tryd.ntmps11
      go_wp2_with (first | (go_at_call 27; refine (specFractionOkB t b _).mono ?_; rintro e w1 ⟨rfl, b1⟩; rw [hf.out]; obtain ⟨c0, c1⟩ := hcell w1 b1; have bb := bThen ba b1) | (go_at_call 9; refine (specFmt _ _ (by omega)).mono ?_; rintro e w2 ⟨rfl, b2⟩) | fail)
      have bb2 := bThen bb b2
      clear b1 ba hcell bb b2
      go_wp2
      go_ret
      exact ⟨ret_str HF.out.symm, bb2⟩
    · have HF : Hid (ftx t b = itx t ++ ⟨#[47]⟩ ++ itx b) := by unfold Hid; rw [ftx, hf, if_pos rfl, if_neg h1]
      have hq : (b == 1) = false := by rw [beq_eq_false_iff_ne]; exact h1
      have st := itx_size t (by omega)
      have sb := itx_size b (by omega)
      replace hf := Lib.hid hf
      replace h1 := Lib.hid h1
      go_enter Tryd.func11, Tryd.ntmps11
      go_wp2_with (first | (go_at_call 27; refine (specFractionOkB t b _).mono ?_; rintro e w1 ⟨rfl, b1⟩; rw [hf.out]; obtain ⟨c0, c1⟩ := hcell w1 b1) | fail)
      have bb := bThen ba b1
      have t1 : Tab w1.drew := ht.on bb.drew
      obtain ⟨T, eT⟩ : ∃ T, T = itx t := ⟨_, rfl⟩
      obtain ⟨B, eB⟩ : ∃ B, B = itx b := ⟨_, rfl⟩
      rw [← eT] at st
      rw [← eB] at sb
      have hlt : w.heap.size < w1.heap.size := by have := b1.size; simp at this; omega
      replace eT := Lib.hid eT
      replace eB := Lib.hid eB
      have s1 : ¬ 9223372036854775807 < T.size + 1 := by omega
      have s2 : ¬ 9223372036854775807 < T.size + 1 + B.size := by omega
      clear b1 ba hcell
      go_wp2
      go_region_held3 (fun w' => w'.cell? ⟨w.heap.size, 0, none⟩ = some (.int .i64 t) ∧ w'.cell? ⟨w.heap.size, 1, none⟩ = some (.int .i64 b))
        (first
          | (with_reducible exact ⟨c0, c1⟩)
          | (with_reducible exact ⟨d0, d1⟩)
          | (with_reducible exact ⟨f0, f1⟩)
          | go_keep
          | fail)
        ((first
          | (have _q := d0; go_at_call 9; refine (specFmt b _ (by omega)).mono ?_; rintro e w3 ⟨rfl, b3⟩; rw [← eB.out]; have f0 := cellStay b3 d0; have f1 := cellStay b3 d1; have bb3 := bThen bb2 b3)
          | (go_at_call 9; refine (specFmt t _ (by omega)).mono ?_; rintro e w2 ⟨rfl, b2⟩; rw [← eT.out]; have d0 := cellStay b2 c0; have d1 := cellStay b2 c1; have bb2 := bThen bb.drew b2; have t2 := ht.on bb2)
          | fail))
      go_wp2
      go_ret
      exact ⟨ret_str (by rw [HF.out, eT.out, eB.out]), bb3⟩

end Go.Proofs.YthonlkconobdfaaDoor
