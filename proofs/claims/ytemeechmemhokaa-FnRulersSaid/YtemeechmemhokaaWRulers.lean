/- The walk of laws.FnRulers: it returns true, and nothing that was there has turned. -/
import Derived.Test.YtemeechmemhokaaRulD
import Derived.Test.YtemeechmemhokaaFewS
import Derived.Test.YtemeechmemhokaaSame
import Derived.Test.YtemeechmemhokaaBig
import Derived.Deep.RegionHeld
namespace Go.Proofs.Ytemeechmemhokaa
open Go.RowKit
set_option linter.unusedVariables false

theorem stay0 {w w2 : World} {p : Addr} {v : Value} (hb : Below w.heap.size w w2) (h : w.cell? p = some v) : w2.cell? p = some v := (hb.cell (World.cell_lt h)).trans h
theorem shoF : ∀ K, K < 6 → 1 ≤ K → (golT K).length = K ∧ (golT K).getD (K - 1) 0 = golA K ∧ golF (golT K) = true := by decide +kernel
theorem shoL_at {K : Nat} (h1 : 1 ≤ K) (h2 : K ≤ 5) : shoL (K : Int) = il (golT K) := by rw [shoL, if_pos (inB_iff.2 (by omega)), Int.toNat_natCast]
theorem golA_lit : ∀ K, K < 6 → ([0, 0, 1, 3, 6, 11] : List Int).getD K 0 = (golA K : Int) := by decide
theorem fewF : ∀ t, t < 14 → 1 ≤ t → 2 ≤ fewT t ∧ fewT t ≤ 6 ∧ t ≤ (fewT t * (fewT t - 1)) / 2 := by decide
theorem fewI_at {t : Int} (h1 : 1 ≤ t) (h2 : t ≤ 13) : ∃ F R : Int, fewI t = F ∧ 2 ≤ F ∧ F ≤ 6 ∧ F * (F - 1) = 2 * R ∧ 0 ≤ R ∧ R ≤ 15 ∧ t ≤ R := by
  obtain ⟨n, rfl⟩ : ∃ n : Nat, t = (n : Int) := ⟨t.toNat, by omega⟩
  obtain ⟨a, b, c⟩ := fewF n (by omega) (by omega)
  refine ⟨(fewT n : Int), ((fewT n * (fewT n - 1) / 2 : Nat) : Int), by rw [fewI, if_pos (inB_iff.2 (by omega)), Int.toNat_natCast], by omega, by omega, ?_, by omega, ?_, by omega⟩
  · rcases (show fewT n = 2 ∨ fewT n = 3 ∨ fewT n = 4 ∨ fewT n = 5 ∨ fewT n = 6 by omega) with e | e | e | e | e <;> rw [e] <;> rfl
  · rcases (show fewT n = 2 ∨ fewT n = 3 ∨ fewT n = 4 ∨ fewT n = 5 ∨ fewT n = 6 by omega) with e | e | e | e | e <;> rw [e] <;> decide

/-- What is so of a drawn ruler. -/
structure RulLaw (N : Nat) (xs ms ls : List Int) (g b : Bool) : Prop where
  n : 1 ≤ N ∧ N ≤ 6
  len : xs.length = N
  half : (N : Int) * ((N : Int) - 1) = 2 * (ls.length : Int)
  few : ls.length ≤ 15
  back : mirL ms = xs
  same : lenL ms = ls
  gol : golB xs = g
  golM : golB ms = g
  meas : measB xs = b
  four : g = true → b = true → N ≤ 4
  ok : rulerB ms = true
theorem rulLaw {gs : List Nat} (h : Gaps gs) (hl : gs.length ≤ 5) : RulLaw (gs.length + 1) (il (rul gs)) (mirL (il (rul gs))) (lenL (il (rul gs))) (golB (il (rul gs))) (measB (il (rul gs))) := by
  have hok := rul_ok h hl
  have hlen := lenL_il hok
  rw [rul_length, Nat.add_sub_cancel] at hlen
  refine ⟨by omega, by rw [il_length, rul_length], ?_, ?_, ?_, ?_, rfl, ?_, rfl, ?_, ?_⟩
  · rw [show (((gs.length + 1 : Nat) : Int)) * ((((gs.length + 1 : Nat) : Int)) - 1) = (((gs.length + 1) * gs.length : Nat) : Int) from by
      rw [Int.natCast_mul]; congr 1; omega, ← hlen]
    omega
  · have : (gs.length + 1) * gs.length ≤ 6 * 5 := Nat.mul_le_mul (by omega) hl
    omega
  · rw [mirL_il hok, mirL_il (mirN_ok hok), mirN_mirN hok]
  · rw [mirL_il hok, lenL_mir hok]
  · rw [mirL_il hok, ← golF_eq, ← golF_eq, golF_mir hok]
  · intro a b
    rw [← golF_eq] at a
    rw [← measF_eq] at b
    exact rul_four h hl a b
  · rw [mirL_il hok, ← okN_eq]
    exact mirN_ok hok

theorem opAt {l : List Oper} {i : Nat} {o : Oper} (h : l[i]? = some o) : l.toArray[i]? = some o := by rw [List.getElem?_toArray]; exact h
theorem wpAnyH_weak {P : Program} {ops : Array Oper} {Q : Exit → Act → World → Prop} {md : Region.Mode} {S S' : World → Prop} (hSS : ∀ w, S' w → S w) : ∀ (fuel : Nat) (listed : Array Bool) (a : Act) (w : World), wpAnyH P md ops Q S' fuel listed a w → wpAnyH P md ops Q S fuel listed a w
  | 0, _, _, _, h => h
  | n + 1, _, _, _, h => ⟨h.1, fun i hi => wpOp_mono (fun _ _ q => ⟨hSS _ q.1, wpAnyH_weak hSS n _ _ _ q.2⟩) (h.2 i hi)⟩

set_option maxRecDepth 100000 in
set_option maxHeartbeats 4000000 in
theorem walkRulers (a0 : Option Addr) (len0 cap0 : Nat) (z0 : List Int) (w : World) (hr0 : IsRow .u8 w a0 len0 cap0 z0) :
    Calls Try.prog 8 #[.slice a0 len0 cap0] w fun e w' => e = .returned (.bool true) ∧ Below w.heap.size w w' := by
  by_cases hbig : 1048576 < len0
  · have hd : decide (1048576 < len0) = true := decide_eq_true hbig
    go_enter Try.func8, Try.ntmps8
    go_wp2_with fail
    refine lawsBig.mono ?_
    rintro e w' ⟨rfl, rfl⟩
    go_wp2
    go_ret
    exact ⟨rfl, Below.refl _ _⟩
  · have hd : decide (1048576 < len0) = false := decide_eq_false hbig
    have hat : Hid (∀ (w : World) (i : Int), IsRow .u8 w a0 len0 cap0 z0 → 0 ≤ i → i ≤ 100 → Calls Try.prog 26 #[.slice a0 len0 cap0, .int .i64 i] w fun e w' => 0 ≤ atV len0 z0 i ∧ atV len0 z0 i ≤ 255 ∧ e = .returned (.int .i64 (atV len0 z0 i)) ∧ w = w') := fun w i h a b => lawsAtV h a b
    obtain ⟨av, eav⟩ : ∃ f : Int → Int, f = atV len0 z0 := ⟨_, rfl⟩
    rw [← eav] at hat
    clear eav
    go_enter Try.func8, Try.ntmps8
    go_wp2_with fail
    refine lawsBig.mono ?_
    rintro e w' ⟨rfl, rfl⟩
    go_wp2_with fail
    refine (drawRul hr0).mono ?_
    rintro e w1 ⟨v1, gs, rfl, h1, b1, hG, hgl⟩
    have P := rulLaw hG hgl
    obtain ⟨N, eN⟩ : ∃ N, N = gs.length + 1 := ⟨_, rfl⟩
    obtain ⟨xs, ex⟩ : ∃ xs, xs = il (rul gs) := ⟨_, rfl⟩
    rw [← eN, ← ex] at P
    rw [← ex] at h1
    clear eN ex hG hgl hd hbig
    obtain ⟨ms, ems⟩ : ∃ ms, ms = mirL xs := ⟨_, rfl⟩
    obtain ⟨ls, els⟩ : ∃ ls, ls = lenL xs := ⟨_, rfl⟩
    obtain ⟨gb, egb⟩ : ∃ b, b = golB xs := ⟨_, rfl⟩
    obtain ⟨mb, emb⟩ : ∃ b, b = measB xs := ⟨_, rfl⟩
    rw [← ems, ← els, ← egb, ← emb] at P
    replace egb := Lib.hid egb
    replace emb := Lib.hid emb
    replace ems := Lib.hid ems
    replace els := Lib.hid els
    have hn := P.n
    have hN := P.len
    replace P := Lib.hid P
    obtain ⟨ad1, cap1, rfl⟩ := h1.shapeN hN
    replace hN := Lib.hid hN
    go_wp2_with fail
    refine (implLengthsOf h1).mono ?_
    rintro e w2 ⟨v2, rfl, h2, b2⟩
    rw [← els.out] at h2
    have h1 := h1.stay b2
    have bb2 := bThen b1 b2
    obtain ⟨ad2, cap2, rfl, hm2⟩ := h2.shape
    go_wp2_with fail
    refine (implMirror h1).mono ?_
    rintro e w3 ⟨v3, rfl, h3, b3⟩
    rw [← ems.out] at h3
    clear ems els
    have h1 := h1.stay b3
    have h2 := h2.stay b3
    have bb3 := bThen bb2 b3
    go_wp2_with fail
    refine (hat.out _ _ (hr0.below bb3) (by omega) (by omega)).mono ?_
    rintro e w' ⟨hx0, hx1, rfl, rfl⟩
    obtain ⟨ki, eki⟩ : ∃ z, z = 1 + av 0 % 5 := ⟨_, rfl⟩
    obtain ⟨K, hK⟩ : ∃ n : Nat, ki = (n : Int) := ⟨ki.toNat, by omega⟩
    have hKb : 1 ≤ K ∧ K ≤ 5 := by omega
    go_wp2_with fail
    rw [← eki, hK]
    clear eki hK hx0 hx1
    refine (implShortest _ _).mono ?_
    rintro e w4 ⟨v4, rfl, h4, b4⟩
    obtain ⟨hs1, hs2, hs3⟩ := shoF K (by omega) hKb.1
    rw [shoL_at hKb.1 hKb.2] at h4
    have hlt4 : (il (golT K)).length = K := by rw [il_length, hs1]
    have hgt : golB (il (golT K)) = true := by rw [← golF_eq]; exact hs3
    obtain ⟨ad4, cap4, rfl⟩ := h4.shapeN hlt4
    obtain ⟨y, HY, iy, cy, _⟩ := h4.atN (k := K - 1) hlt4 (by omega)
    rw [show ((K - 1 : Nat) : Int) = (K : Int) - 1 from by omega] at iy
    have hy : y = (golA K : Int) := by rw [HY.out, il_getD, hs2]
    have hl := oi_row w4 [0, 0, 1, 3, 6, 11] 6 rfl (by decide)
    obtain ⟨z, HZ, iz, cz, _⟩ := hl.atN (k := K) rfl (by omega)
    have hz : z = y := by rw [HZ.out, hy, golA_lit K (by omega)]
    subst hz
    replace hs1 := Lib.hid hs1
    replace hs2 := Lib.hid hs2
    replace hs3 := Lib.hid hs3
    replace hy := Lib.hid hy
    replace hlt4 := Lib.hid hlt4
    have e1 : IntKind.i64.wrap ((K : Int) - 1) = (K : Int) - 1 := IntWalk.i64_in _ (by omega)
    have h4q : OI ((w4.alloc (.cells #[.int .i64 0, .int .i64 0, .int .i64 1, .int .i64 3, .int .i64 6, .int .i64 11] 3)).drew) w3.heap.size (.slice ad4 K cap4) (il (golT K)) := (h4.stay (bAl (Below.refl _ _) _)).drewN 1
    have h1 := h1.stay b4
    have h2 := h2.stay b4
    have h3 := h3.stay b4
    have bb4 := bThen bb3 b4
    have kn : ((K : Int) != (K : Int)) = false := by simp
    replace cz : (w4.alloc (.cells #[.int .i64 0, .int .i64 0, .int .i64 1, .int .i64 3, .int .i64 6, .int .i64 11] 3)).cell? ⟨w4.heap.size, K, none⟩ = some (.int .i64 z) := cz
    replace iz : ∀ w', (Instr.indexAt 22 (.slice (some ⟨w4.heap.size, 0, none⟩) 6 6) (.int .i64 (K : Int))).run Try.prog w' = .ok (.pointer (some ⟨w4.heap.size, K, none⟩)) w' := iz
    have bbA := bAl bb4 (.cells #[.int .i64 0, .int .i64 0, .int .i64 1, .int .i64 3, .int .i64 6, .int .i64 11] 3)
    have cyA : (w4.alloc (.cells #[.int .i64 0, .int .i64 0, .int .i64 1, .int .i64 3, .int .i64 6, .int .i64 11] 3)).drew.cell? ⟨gOf ad4, K - 1, none⟩ = some (.int .i64 z) := stay0 (bDrewN (bAl (Below.refl _ _) _) 1) cy
    have zn : (z != z) = false := by simp
    clear hl h4 b1 b2 b3 b4
    go_wp2
    refine wp_region_held_drew (S := (fun w' => w'.cell? ⟨gOf ad4, K - 1, none⟩ = some (.int .i64 z))) (by kernel_rfl) cy ?_
    intro hS1
    refine wpAnyH_take (i := 0) (oi := ?o0) (v := ?v0) ?hi0 (by kernel_rfl) (by kernel_rfl) (by kernel_rfl) ?hq0 (Or.inl ⟨?hw0, ?hy0⟩) hS1 ?_
    case hi0 => (refine opAt ?_; rfl)
    case hq0 => exact fun _ _ _ h => h
    case hw0 => rfl
    case hy0 =>
      intro w hSw
      (try dsimp only at hSw)
      (try go_split_ands)
      go_simp
      (try with_reducible rfl)
    simp only [Act.put, List.setIfInBounds_toArray, List.set_cons_zero, List.set_cons_succ]
    refine wpAnyH_take (i := 1) (oi := ?o1) (v := ?v1) ?hi1 (by kernel_rfl) (by kernel_rfl) (by kernel_rfl) ?hq1 (Or.inl ⟨?hw1, ?hy1⟩) hS1 ?_
    case hi1 => (refine opAt ?_; rfl)
    case hq1 => exact fun _ _ _ h => h
    case hw1 => rfl
    case hy1 =>
      intro w hSw
      (try dsimp only at hSw)
      (try go_split_ands)
      go_simp
      (try with_reducible rfl)
    simp only [Act.put, List.setIfInBounds_toArray, List.set_cons_zero, List.set_cons_succ]
    refine wpAnyH_take (i := 2) (oi := ?o2) (v := ?v2) ?hi2 (by kernel_rfl) (by kernel_rfl) (by kernel_rfl) ?hq2 (Or.inl ⟨?hw2, ?hy2⟩) hS1 ?_
    case hi2 => (refine opAt ?_; rfl)
    case hq2 => exact fun _ _ _ h => h
    case hw2 => rfl
    case hy2 =>
      intro w hSw
      (try dsimp only at hSw)
      (try go_split_ands)
      go_simp
      (try with_reducible rfl)
    simp only [Act.put, List.setIfInBounds_toArray, List.set_cons_zero, List.set_cons_succ]
    refine wpAnyH_take (i := 3) (oi := ?o3) (v := ?v3) ?hi3 (by kernel_rfl) (by kernel_rfl) (by kernel_rfl) ?hq3 (Or.inl ⟨?hw3, ?hy3⟩) hS1 ?_
    case hi3 => (refine opAt ?_; rfl)
    case hq3 => exact fun _ _ _ h => h
    case hw3 => rfl
    case hy3 =>
      intro w hSw
      (try dsimp only at hSw)
      (try go_split_ands)
      go_simp
      (try with_reducible rfl)
    simp only [Act.put, List.setIfInBounds_toArray, List.set_cons_zero, List.set_cons_succ]
    refine wpAnyH_take (i := 4) (oi := ?o4) (v := ?v4) ?hi4 (by kernel_rfl) (by kernel_rfl) (by kernel_rfl) ?hq4 (Or.inl ⟨?hw4, ?hy4⟩) hS1 ?_
    case hi4 => (refine opAt ?_; rfl)
    case hq4 => exact fun _ _ _ h => h
    case hw4 => rfl
    case hy4 =>
      intro w hSw
      (try dsimp only at hSw)
      (try go_split_ands)
      go_simp
      (try with_reducible rfl)
    simp only [Act.put, List.setIfInBounds_toArray, List.set_cons_zero, List.set_cons_succ]
    refine wpAnyH_take (i := 5) (oi := ?o5) (v := ?v5) ?hi5 (by kernel_rfl) (by kernel_rfl) (by kernel_rfl) ?hq5 (Or.inl ⟨?hw5, ?hy5⟩) hS1 ?_
    case hi5 => (refine opAt ?_; rfl)
    case hq5 => exact fun _ _ _ h => h
    case hw5 => rfl
    case hy5 =>
      intro w hSw
      (try dsimp only at hSw)
      (try go_split_ands)
      go_simp
      (try with_reducible rfl)
    simp only [Act.put, List.setIfInBounds_toArray, List.set_cons_zero, List.set_cons_succ]
    refine wpAnyH_take (i := 6) (oi := ?o6) (v := ?v6) ?hi6 (by kernel_rfl) (by kernel_rfl) (by kernel_rfl) ?hq6 (Or.inl ⟨?hw6, ?hy6⟩) hS1 ?_
    case hi6 => (refine opAt ?_; rfl)
    case hq6 => exact fun _ _ _ h => h
    case hw6 => rfl
    case hy6 =>
      intro w hSw
      (try dsimp only at hSw)
      (try go_split_ands)
      go_simp
      (try with_reducible rfl)
    simp only [Act.put, List.setIfInBounds_toArray, List.set_cons_zero, List.set_cons_succ]
    refine wpAnyH_take (i := 7) (oi := ?o7) (v := ?v7) ?hi7 (by kernel_rfl) (by kernel_rfl) (by kernel_rfl) ?hq7 (Or.inl ⟨?hw7, ?hy7⟩) hS1 ?_
    case hi7 => (refine opAt ?_; rfl)
    case hq7 => exact fun _ _ _ h => h
    case hw7 => rfl
    case hy7 =>
      intro w hSw
      (try dsimp only at hSw)
      (try go_split_ands)
      go_simp
      (try with_reducible rfl)
    simp only [Act.put, List.setIfInBounds_toArray, List.set_cons_zero, List.set_cons_succ]
    refine wpAnyH_take (i := 8) (oi := ?o8) (v := ?v8) ?hi8 (by kernel_rfl) (by kernel_rfl) (by kernel_rfl) ?hq8 (Or.inl ⟨?hw8, ?hy8⟩) hS1 ?_
    case hi8 => (refine opAt ?_; rfl)
    case hq8 => exact fun _ _ _ h => h
    case hw8 => rfl
    case hy8 =>
      intro w hSw
      (try dsimp only at hSw)
      (try go_split_ands)
      go_simp
      (try with_reducible rfl)
    simp only [Act.put, List.setIfInBounds_toArray, List.set_cons_zero, List.set_cons_succ]
    refine wpAnyH_take (i := 9) (oi := ?o9) (v := ?v9) ?hi9 (by kernel_rfl) (by kernel_rfl) (by kernel_rfl) ?hq9 (Or.inl ⟨?hw9, ?hy9⟩) hS1 ?_
    case hi9 => (refine opAt ?_; rfl)
    case hq9 => exact fun _ _ _ h => h
    case hw9 => rfl
    case hy9 =>
      intro w hSw
      (try dsimp only at hSw)
      (try go_split_ands)
      go_simp
      (try with_reducible rfl)
    simp only [Act.put, List.setIfInBounds_toArray, List.set_cons_zero, List.set_cons_succ]
    refine wpAnyH_take (i := 11) (oi := ?o11) (v := ?v11) ?hi11 (by kernel_rfl) (by kernel_rfl) (by kernel_rfl) ?hq11 (Or.inl ⟨?hw11, ?hy11⟩) hS1 ?_
    case hi11 => (refine opAt ?_; rfl)
    case hq11 => exact fun _ _ _ h => h
    case hw11 => rfl
    case hy11 =>
      intro w hSw
      (try dsimp only at hSw)
      (try go_split_ands)
      go_simp
      (try with_reducible rfl)
    simp only [Act.put, List.setIfInBounds_toArray, List.set_cons_zero, List.set_cons_succ]
    refine wpAnyH_ready (rs := [10]) (by kernel_rfl) (by simp) ?_
    refine AllReadyH.cons (o := ?o10) ?hi10 ?hn10 AllReadyH.nil
    case hi10 => (refine opAt ?_; rfl)
    intro Kf hKf
    go_simp
    refine hKf.out _ _ cyA (fun _ => ?_)
    clear hKf Kf
    refine wpAnyH_weak (S' := (fun w' => w'.cell? ⟨gOf ad4, K - 1, none⟩ = some (.int .i64 z) ∧ w'.cell? ⟨w4.heap.size, K, none⟩ = some (.int .i64 z))) (fun _ h => h.1) _ _ _ _ ?_
    have hS2 := And.intro cyA cz
    refine wpAnyH_take (i := 12) (oi := ?o12) (v := ?v12) ?hi12 (by kernel_rfl) (by kernel_rfl) (by kernel_rfl) ?hq12 (Or.inl ⟨?hw12, ?hy12⟩) hS2 ?_
    case hi12 => (refine opAt ?_; rfl)
    case hq12 => exact fun _ _ _ h => h
    case hw12 => rfl
    case hy12 =>
      intro w hSw
      (try dsimp only at hSw)
      (try go_split_ands)
      go_simp
      (try with_reducible rfl)
    simp only [Act.put, List.setIfInBounds_toArray, List.set_cons_zero, List.set_cons_succ]
    refine wpAnyH_take (i := 13) (oi := ?o13) (v := ?v13) ?hi13 (by kernel_rfl) (by kernel_rfl) (by kernel_rfl) ?hq13 (Or.inl ⟨?hw13, ?hy13⟩) hS2 ?_
    case hi13 => (refine opAt ?_; rfl)
    case hq13 => exact fun _ _ _ h => h
    case hw13 => rfl
    case hy13 =>
      intro w hSw
      (try dsimp only at hSw)
      (try go_split_ands)
      go_simp
      (try with_reducible rfl)
    simp only [Act.put, List.setIfInBounds_toArray, List.set_cons_zero, List.set_cons_succ]
    refine wpAnyH_take (i := 14) (oi := ?o14) (v := ?v14) ?hi14 (by kernel_rfl) (by kernel_rfl) (by kernel_rfl) ?hq14 (Or.inl ⟨?hw14, ?hy14⟩) hS2 ?_
    case hi14 => (refine opAt ?_; rfl)
    case hq14 => exact fun _ _ _ h => h
    case hw14 => rfl
    case hy14 =>
      intro w hSw
      (try dsimp only at hSw)
      (try go_split_ands)
      go_simp
      (try with_reducible rfl)
    simp only [Act.put, List.setIfInBounds_toArray, List.set_cons_zero, List.set_cons_succ]
    refine wpAnyH_take (i := 15) (oi := ?o15) (v := ?v15) ?hi15 (by kernel_rfl) (by kernel_rfl) (by kernel_rfl) ?hq15 (Or.inl ⟨?hw15, ?hy15⟩) hS2 ?_
    case hi15 => (refine opAt ?_; rfl)
    case hq15 => exact fun _ _ _ h => h
    case hw15 => rfl
    case hy15 =>
      intro w hSw
      (try dsimp only at hSw)
      (try go_split_ands)
      go_simp
      (try with_reducible rfl)
    simp only [Act.put, List.setIfInBounds_toArray, List.set_cons_zero, List.set_cons_succ]
    refine wpAnyH_take (i := 16) (oi := ?o16) (v := ?v16) ?hi16 (by kernel_rfl) (by kernel_rfl) (by kernel_rfl) ?hq16 (Or.inl ⟨?hw16, ?hy16⟩) hS2 ?_
    case hi16 => (refine opAt ?_; rfl)
    case hq16 => exact fun _ _ _ h => h
    case hw16 => rfl
    case hy16 =>
      intro w hSw
      (try dsimp only at hSw)
      (try go_split_ands)
      go_simp
      (try with_reducible rfl)
    simp only [Act.put, List.setIfInBounds_toArray, List.set_cons_zero, List.set_cons_succ]
    refine wpAnyH_take (i := 17) (oi := ?o17) (v := ?v17) ?hi17 (by kernel_rfl) (by kernel_rfl) (by kernel_rfl) ?hq17 (Or.inl ⟨?hw17, ?hy17⟩) hS2 ?_
    case hi17 => (refine opAt ?_; rfl)
    case hq17 => exact fun _ _ _ h => h
    case hw17 => rfl
    case hy17 =>
      intro w hSw
      (try dsimp only at hSw)
      (try go_split_ands)
      go_simp
      (try with_reducible rfl)
    simp only [Act.put, List.setIfInBounds_toArray, List.set_cons_zero, List.set_cons_succ]
    refine wpAnyH_ready (rs := [18]) (by kernel_rfl) (by simp) ?_
    refine AllReadyH.cons (o := ?o18) ?hi18 ?hn18 AllReadyH.nil
    case hi18 => (refine opAt ?_; rfl)
    intro Kf hKf
    go_simp
    refine (implGolomb h4q).mono ?_
    rintro e w5 ⟨rfl, b5⟩
    rw [hgt]
    have hS5 := And.intro (stay0 b5 cyA) (stay0 b5 cz)
    refine hKf.out _ _ hS5 (fun _ => ?_)
    clear hKf Kf
    (try simp only [Act.put, List.setIfInBounds_toArray, List.set_cons_zero, List.set_cons_succ])
    refine wpAnyH_take (i := 19) (oi := ?o19) (v := ?v19) ?hi19 (by kernel_rfl) (by kernel_rfl) (by kernel_rfl) ?hq19 (Or.inl ⟨?hw19, ?hy19⟩) hS5 ?_
    case hi19 => (refine opAt ?_; rfl)
    case hq19 => exact fun _ _ _ h => h
    case hw19 => rfl
    case hy19 =>
      intro w hSw
      (try dsimp only at hSw)
      (try go_split_ands)
      go_simp
      (try with_reducible rfl)
    simp only [Act.put, List.setIfInBounds_toArray, List.set_cons_zero, List.set_cons_succ]
    refine wpAnyH_take (i := 20) (oi := ?o20) (v := ?v20) ?hi20 (by kernel_rfl) (by kernel_rfl) (by kernel_rfl) ?hq20 (Or.inl ⟨?hw20, ?hy20⟩) hS5 ?_
    case hi20 => (refine opAt ?_; rfl)
    case hq20 => exact fun _ _ _ h => h
    case hw20 => rfl
    case hy20 =>
      intro w hSw
      (try dsimp only at hSw)
      (try go_split_ands)
      go_simp
      (try with_reducible rfl)
    simp only [Act.put, List.setIfInBounds_toArray, List.set_cons_zero, List.set_cons_succ]
    refine wpAnyH_done (by kernel_rfl) ?_ _
    have bq : Below w4.heap.size w4 w5 := bThen (bAl (Below.refl _ _) _).drew b5
    have bb5 := bThen bb4 bq
    have h1 := h1.stay bq
    have h2 := h2.stay bq
    have h3 := h3.stay bq
    clear hS1 hS2 hS5 b5 bq bbA cyA cz iz cy iy h4q zn kn hgt
    go_wp2_with fail
    refine (hat.out _ _ (hr0.below bb5) (by omega) (by omega)).mono ?_
    rintro e w' ⟨hx0, hx1, rfl, rfl⟩
    obtain ⟨ti, eti⟩ : ∃ z, z = 1 + av 1 % 13 := ⟨_, rfl⟩
    have htb : 1 ≤ ti ∧ ti ≤ 13 := by omega
    obtain ⟨F, R, hF, hF1, hF2, hFR, hR0, hR1, htR⟩ := fewI_at htb.1 htb.2
    replace hF := Lib.hid hF
    go_wp2_with fail
    rw [← eti]
    replace eti := Lib.hid eti
    refine (implFewest _ _).mono ?_
    rintro e w6 ⟨rfl, b6⟩
    rw [hF.out]
    have bb6 := bThen bb5 b6
    have h1 := h1.stay b6
    have h2 := h2.stay b6
    have h3 := h3.stay b6
    have n2 := Lib.hid P.out.half
    have nf := P.out.few
    have eN1 : IntKind.i64.wrap ((N : Int) - 1) = (N : Int) - 1 := IntWalk.i64_in _ (by omega)
    obtain ⟨Z, eZ⟩ : ∃ Z : Int, Z = 2 * (ls.length : Int) := ⟨_, rfl⟩
    have eM : IntKind.i64.wrap ((N : Int) * ((N : Int) - 1)) = Z := by rw [n2.out, ← eZ]; exact IntWalk.i64_in _ (by omega)
    have eD : Z / 2 = (ls.length : Int) := by omega
    have zb : 0 ≤ Z ∧ Z ≤ 30 := by omega
    replace eZ := Lib.hid eZ
    have eF1 : IntKind.i64.wrap (F - 1) = F - 1 := IntWalk.i64_in _ (by omega)
    obtain ⟨Y, eY⟩ : ∃ Y : Int, Y = 2 * R := ⟨_, rfl⟩
    have eMF : IntKind.i64.wrap (F * (F - 1)) = Y := by rw [hFR, ← eY]; exact IntWalk.i64_in _ (by omega)
    have eDF : Y / 2 = R := by omega
    have yb : 0 ≤ Y ∧ Y ≤ 30 := by omega
    replace eY := Lib.hid eY
    replace hFR := Lib.hid hFR
    have ht : decide (1 + av 1 % 13 ≤ R) = true := decide_eq_true (by rw [← eti.out]; exact htR)
    have ht2 : decide (2 ≤ F) = true := decide_eq_true hF1
    have dl : decide (ls = ls) = true := by simp
    have dx : decide (xs = xs) = true := by simp
    have gg : (gb == gb) = true := by simp
    go_wp2_with fail
    refine (implLengthsOf h3).mono ?_
    rintro e w7 ⟨v7, rfl, h7, b7⟩
    rw [P.out.same] at h7
    have bb7 := bThen bb6 b7
    have h1 := h1.stay b7
    have h2 := h2.stay b7
    have h3 := h3.stay b7
    go_wp2_with fail
    refine (sameInts_any h7 h2).mono ?_
    rintro e w' ⟨rfl, n8, rfl⟩
    have bb8 := bDrewN bb7 n8
    have h1 := h1.drewN n8
    have h3 := h3.drewN n8
    go_wp2_with fail
    refine (implMirror h3).mono ?_
    rintro e w9 ⟨v9, rfl, h9, b9⟩
    rw [P.out.back] at h9
    have bb9 := bThen bb8 b9
    have h1 := h1.stay b9
    have h3 := h3.stay b9
    go_wp2_with fail
    refine (sameInts_any h9 h1).mono ?_
    rintro e w' ⟨rfl, n10, rfl⟩
    have bb10 := bDrewN bb9 n10
    have h1 := h1.drewN n10
    have h3 := h3.drewN n10
    go_wp2_with fail
    refine (implGolomb h1).mono ?_
    rintro e w11 ⟨rfl, b11⟩
    rw [P.out.gol]
    have bb11 := bThen bb10 b11
    have h1 := h1.stay b11
    have h3 := h3.stay b11
    go_wp2_with fail
    refine (implGolomb h3).mono ?_
    rintro e w12 ⟨rfl, b12⟩
    rw [P.out.golM]
    have bb12 := bThen bb11 b12
    have h1 := h1.stay b12
    have h3 := h3.stay b12
    go_wp2_with fail
    refine (implGolomb h1).mono ?_
    rintro e w13 ⟨rfl, b13⟩
    rw [P.out.gol]
    have bb13 := bThen bb12 b13
    have h1 := h1.stay b13
    have h3 := h3.stay b13
    cases gb
    · go_wp2_with fail
      refine (hat.out _ _ (hr0.below bb13) (by omega) (by omega)).mono ?_
      rintro e w' ⟨_, _, rfl, rfl⟩
      go_wp2_with fail
      refine (implRulerOk h3).mono ?_
      rintro e w' ⟨rfl, nq, rfl⟩
      rw [P.out.ok]
      go_wp2
      go_ret
      exact ⟨rfl, bDrewN bb13 nq⟩
    · go_wp2_with fail
      refine (implMeasures h1).mono ?_
      rintro e w14 ⟨rfl, b14⟩
      rw [P.out.meas]
      have bb14 := bThen bb13 b14
      have h1 := h1.stay b14
      have h3 := h3.stay b14
      cases mb
      · go_wp2_with fail
        refine (hat.out _ _ (hr0.below bb14) (by omega) (by omega)).mono ?_
        rintro e w' ⟨_, _, rfl, rfl⟩
        go_wp2_with fail
        refine (implRulerOk h3).mono ?_
        rintro e w' ⟨rfl, nq, rfl⟩
        rw [P.out.ok]
        go_wp2
        go_ret
        exact ⟨rfl, bDrewN bb14 nq⟩
      · have n4 : decide ((N : Int) ≤ 4) = true := decide_eq_true (by have := P.out.four rfl rfl; omega)
        go_wp2_with fail
        refine (hat.out _ _ (hr0.below bb14) (by omega) (by omega)).mono ?_
        rintro e w' ⟨_, _, rfl, rfl⟩
        go_wp2_with fail
        refine (implRulerOk h3).mono ?_
        rintro e w' ⟨rfl, nq, rfl⟩
        rw [P.out.ok]
        go_wp2
        go_ret
        exact ⟨rfl, bDrewN bb14 nq⟩
end Go.Proofs.Ytemeechmemhokaa
