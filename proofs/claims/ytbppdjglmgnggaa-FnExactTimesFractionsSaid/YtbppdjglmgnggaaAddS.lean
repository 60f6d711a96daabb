/- Contract of spec.AddFractions. No conditions. -/
import Derived.Test.YtbppdjglmgnggaaAdd
namespace Go.Proofs.Ytbppdjglmgnggaa
open Go.RowKit

theorem cellAlloc {x : World} {p : Addr} {v : Value} {o : Obj} (h : x.cell? p = some v) : (x.alloc o).cell? p = some v :=
  cellStay (bAlloc (Below.refl _ _) o) h

theorem cellSwap {x : World} {p : Addr} {v : Value} {o o' : Obj} (h : (x.alloc o).cell? p = some v) (k : p.block < x.heap.size) : (x.alloc o').cell? p = some v :=
  cellAlloc (((bAlloc (Below.refl _ x) o).cell k).symm.trans h)

theorem cellSet2 {x : World} {p : Addr} {v u u' : Value} {g : Nat} (h : x.cell? p = some v) (k : p.block < g) : ((x.setCell ⟨g, 0, none⟩ u).setCell ⟨g, 1, none⟩ u').cell? p = some v :=
  ((((Below.refl g x).setCell (Nat.le_refl _) u).setCell (Nat.le_refl _) u').cell k).trans h

theorem qBelow {x a w : World} (h : Q a w) (hb : Below x.heap.size x a) : Below x.heap.size x w := by
  obtain ⟨n, rfl⟩ := h
  exact bDrewN hb n

structure AddFacts (t b u c b' c' g : Int) : Prop where
  g1 : 1 ≤ g
  g2 : g ≤ 1000000
  tc : c.tdiv g = c'
  tb : b.tdiv g = b'
  c1 : 1 ≤ c' ∧ c' ≤ 1000000
  b1 : 1 ≤ b' ∧ b' ≤ 1000000
  pos : 1 ≤ b' * c
  nT : normT (t * c + u * b) (b * c) = normT (t * c' + u * b') (b' * c)
  nB : normB (t * c + u * b) (b * c) = normB (t * c' + u * b') (b' * c)

theorem part_bd {g x : Int} (hg : 0 < g) (hx : 1 ≤ x ∧ x ≤ 1000000) (hd : g ∣ x) : 1 ≤ x / g ∧ x / g ≤ 1000000 := by
  have h := ediv_bd (B := 1000000) hg (by decide) (by omega) hd
  obtain ⟨q, rfl⟩ := hd
  rw [Int.mul_ediv_cancel_left _ (by omega)] at h ⊢
  refine ⟨?_, h.2⟩
  rcases (show q < 1 ∨ 1 ≤ q by omega) with h1 | h1
  · have := Int.mul_nonpos_of_nonneg_of_nonpos (show 0 ≤ g by omega) (show q ≤ 0 by omega)
    omega
  · exact h1

theorem addFacts {t b u c : Int} (hb : 1 ≤ b ∧ b ≤ 1000000) (hc : 1 ≤ c ∧ c ≤ 1000000) : AddFacts t b u c (b / gcdI b c) (c / gcdI b c) (gcdI b c) := by
  have hg := gcdI_pos (t := b) (show c ≠ 0 by omega)
  have hl := gcdI_le (t := b) (b := c) (B := 1000000) (by omega) (by omega)
  have d1 := gcdI_dvd_left b c
  have d2 := gcdI_dvd_right b c
  obtain ⟨g, hge⟩ : ∃ g, g = gcdI b c := ⟨_, rfl⟩
  rw [← hge] at hg hl d1 d2 ⊢
  have hb1 := part_bd hg hb d1
  have hc1 := part_bd hg hc d2
  obtain ⟨b', hb'⟩ := d1
  obtain ⟨c', hc'⟩ := d2
  have e1 : b / g = b' := by rw [hb', Int.mul_ediv_cancel_left _ (by omega)]
  have e2 : c / g = c' := by rw [hc', Int.mul_ediv_cancel_left _ (by omega)]
  rw [e1] at hb1 ⊢
  rw [e2] at hc1 ⊢
  have k1 : t * c + u * b = g * (t * c' + u * b') := by
    rw [hb', hc', Int.mul_add, Int.mul_left_comm t g c', Int.mul_left_comm u g b']
  have k2 : b * c = g * (b' * c) := by rw [hb', Int.mul_assoc]
  refine ⟨by omega, hl, ?_, ?_, hc1, hb1, ?_, ?_, ?_⟩
  · rw [Int.tdiv_eq_ediv_of_dvd ⟨c', hc'⟩, e2]
  · rw [Int.tdiv_eq_ediv_of_dvd ⟨b', hb'⟩, e1]
  · have := Int.mul_pos (show 0 < b' by omega) (show 0 < c by omega); omega
  · rw [k1, k2, normT_mul _ _ hg]
  · rw [k1, k2, normB_mul _ _ hg]

set_option maxHeartbeats 1000000 in
theorem specAdd (t b u c : Int) (w : World) : Calls Try.prog 17 #[.agg #[.int .i64 t, .int .i64 b], .agg #[.int .i64 u, .int .i64 c]] w (RetB w (.tuple #[.agg #[.int .i64 (addT t b u c), .int .i64 (addB t b u c)], .bool (addOk t b u c)])) := by
  cases h1 : fracB t b
  · have hn1 : (!fracB t b) = true := by rw [h1]; rfl
    have HN := Lib.hid (add_no (t := t) (b := b) (u := u) (c := c) (by rw [twoIn, h1]; rfl))
    clear h1
    go_enter Try.func17, Try.ntmps17
    go_wp2_with fail
    refine (specFractionOkB _ _ _).mono ?_
    rintro e w1 ⟨rfl, b1⟩
    obtain ⟨⟨x0, x1⟩, ⟨y0, y1⟩, ⟨r0, r1⟩, ⟨f0, f1⟩, hs1⟩ := three b1
    go_wp2
    exact bodyPost_ret (v := .tuple #[.agg #[.int .i64 0, .int .i64 0], .bool false]) (by simp [results, Try.results17, go_sem, r0, r1]) rfl ⟨ret_red HN.out.1.symm HN.out.2.1.symm HN.out.2.2.symm, (by repeat (first | exact Below.refl _ _ | (refine Below.alloc ?_ (by first | omega | (simp <;> omega)) _) | (refine Below.setCell ?_ (by first | omega | (simp <;> omega)) _) | (refine bDrewN ?_ _) | (refine Below.drew ?_) | (refine Below.trans ?_ (Below.mono b1 (by first | omega | (simp <;> omega))))))⟩
  · have hn1 : (!fracB t b) = false := by rw [h1]; rfl
    cases h2 : fracB u c
    · have hn2 : (!fracB u c) = true := by rw [h2]; rfl
      have HN := Lib.hid (add_no (t := t) (b := b) (u := u) (c := c) (by rw [twoIn, h2, Bool.and_false]))
      clear h1 h2
      go_enter Try.func17, Try.ntmps17
      go_wp2_with fail
      refine (specFractionOkB _ _ _).mono ?_
      rintro e w1 ⟨rfl, b1⟩
      obtain ⟨⟨x0, x1⟩, ⟨y0, y1⟩, ⟨r0, r1⟩, ⟨f0, f1⟩, hs1⟩ := three b1
      go_wp2_with fail
      refine (specFractionOkB _ _ _).mono ?_
      rintro e w2 ⟨rfl, b2⟩
      have hz2 := b2.size
      obtain ⟨⟨x0, x1⟩, ⟨y0, y1⟩, ⟨r0, r1⟩, ⟨f0, f1⟩, hs2⟩ := three (bThen b1 b2)
      go_wp2
      exact bodyPost_ret (v := .tuple #[.agg #[.int .i64 0, .int .i64 0], .bool false]) (by simp [results, Try.results17, go_sem, r0, r1]) rfl ⟨ret_red HN.out.1.symm HN.out.2.1.symm HN.out.2.2.symm, (by repeat (first | exact Below.refl _ _ | (refine Below.alloc ?_ (by first | omega | (simp <;> omega)) _) | (refine Below.setCell ?_ (by first | omega | (simp <;> omega)) _) | (refine bDrewN ?_ _) | (refine Below.drew ?_) | (refine Below.trans ?_ (Below.mono b1 (by first | omega | (simp <;> omega)))) | (refine Below.trans ?_ (Below.mono b2 (by first | omega | (simp <;> omega))))))⟩
    · have hn2 : (!fracB u c) = false := by rw [h2]; rfl
      have HN := Lib.hid (add_yes (t := t) (b := b) (u := u) (c := c) (by rw [twoIn, h1, h2]; rfl))
      obtain ⟨kt, kb, _⟩ := fracB_bd h1
      obtain ⟨ku, kc, _⟩ := fracB_bd h2
      have mtc := mul_bd kt (show -1000000 ≤ c ∧ c ≤ 1000000 by omega)
      have mub := mul_bd ku (show -1000000 ≤ b ∧ b ≤ 1000000 by omega)
      have mtu := mul_bd kt ku
      have mbc := mul_bd (show -1000000 ≤ b ∧ b ≤ 1000000 by omega) (show -1000000 ≤ c ∧ c ≤ 1000000 by omega)
      have NZ : Hid (b * c ≠ 0) := by
        intro e
        rcases Int.mul_eq_zero.1 e with e | e <;> omega
      have A : Hid (AddFacts t b u c (b / gcdI b c) (c / gcdI b c) (gcdI b c)) := addFacts (by omega) (by omega)
      have hg1 : 1 ≤ gcdI b c := A.out.g1
      have hg2 : gcdI b c ≤ 1000000 := A.out.g2
      have td1 : c.tdiv (gcdI b c) = c / gcdI b c := A.out.tc
      have td2 : b.tdiv (gcdI b c) = b / gcdI b c := A.out.tb
      have kc1 := A.out.c1
      have kb1 := A.out.b1
      obtain ⟨g, hg⟩ : ∃ g, g = gcdI b c := ⟨_, rfl⟩
      rw [← hg] at hg1 hg2 td1 td2 kc1 kb1 A
      have HG := Lib.hid hg
      obtain ⟨b', hb'⟩ : ∃ b', b' = b / g := ⟨_, rfl⟩
      obtain ⟨c', hc'⟩ : ∃ c', c' = c / g := ⟨_, rfl⟩
      rw [← hb'] at td2 kb1 A
      rw [← hc'] at td1 kc1 A
      have HB' := Lib.hid hb'
      have HC' := Lib.hid hc'
      have q1 : c / g = c' := hc'.symm
      have q2 : b / g = b' := hb'.symm
      clear hg hb' hc'
      have m1 := mul_bd kt (show -1000000 ≤ c' ∧ c' ≤ 1000000 by omega)
      have m2 := mul_bd ku (show -1000000 ≤ b' ∧ b' ≤ 1000000 by omega)
      have m3 := mul_bd (show -1000000 ≤ b' ∧ b' ≤ 1000000 by omega) (show -1000000 ≤ c ∧ c ≤ 1000000 by omega)
      have m4 : 1 ≤ b' * c := A.out.pos
      have w1' : IntKind.i64.wrap c' = c' := IntWalk.i64_in _ (by omega)
      have w2' : IntKind.i64.wrap b' = b' := IntWalk.i64_in _ (by omega)
      have w3' : IntKind.i64.wrap (t * c') = t * c' := IntWalk.i64_in _ (by omega)
      have w4' : IntKind.i64.wrap (u * b') = u * b' := IntWalk.i64_in _ (by omega)
      have w5' : IntKind.i64.wrap (t * c' + u * b') = t * c' + u * b' := IntWalk.i64_in _ (by omega)
      have w6' : IntKind.i64.wrap (b' * c) = b' * c := IntWalk.i64_in _ (by omega)
      have hne : (g == 0) = false := by rw [beq_eq_false_iff_ne]; omega
      clear h1 h2
      have hp0 : b' * c ≠ 0 := by omega
      have hh1 := gcdI_pos (t := t * c' + u * b') hp0
      have hh2 := gcdI_le (t := t * c' + u * b') (B := 1000000000000) hp0 (by omega)
      have hT := normT_tdiv (t * c' + u * b') (b' * c)
      have hB := normB_tdiv (t * c' + u * b') (b' * c)
      have hTb := normT_bd (t := t * c' + u * b') (B := 2000000000000) hp0 (by decide) (by omega)
      have hBb := normB_bd (t := t * c' + u * b') (B := 2000000000000) hp0 (by decide) (by omega)
      have hdv := gcdI_dvd_right (t * c' + u * b') (b' * c)
      rw [flipI, if_neg (show ¬ b' * c < 0 by omega)] at hT hB
      have hB2 := Int.tdiv_eq_ediv_of_dvd hdv
      rw [hB] at hB2
      have FT := A.out.nT
      have FB := A.out.nB
      obtain ⟨h, hh⟩ : ∃ h, h = gcdI (t * c' + u * b') (b' * c) := ⟨_, rfl⟩
      obtain ⟨T, hTe⟩ : ∃ T, T = normT (t * c' + u * b') (b' * c) := ⟨_, rfl⟩
      obtain ⟨B, hBe⟩ : ∃ B, B = normB (t * c' + u * b') (b' * c) := ⟨_, rfl⟩
      rw [← hh] at hh1 hh2 hT hB hB2
      rw [← hTe] at hT hTb FT
      rw [← hBe] at hB hBb hB2 FB
      have HH := Lib.hid hh
      have FT' := Lib.hid FT
      have FB' := Lib.hid FB
      have hB3 : b' * c / h = B := hB2.symm
      clear hh hTe hBe FT FB hB2 hp0 hdv
      cases hok : fracB T B
      · have hno : (!fracB T B) = true := by rw [hok]; rfl
        have HOK := Lib.hid hok
        clear hok
        go_enter Try.func17, Try.ntmps17
        go_wp2_with fail
        refine (specFractionOkB _ _ _).mono ?_
        rintro e w1 ⟨rfl, b1⟩
        obtain ⟨⟨x0, x1⟩, ⟨y0, y1⟩, ⟨r0, r1⟩, ⟨f0, f1⟩, hs1⟩ := three b1
        go_wp2_with fail
        refine (specFractionOkB _ _ _).mono ?_
        rintro e w2 ⟨rfl, b2⟩
        have hz2 := b2.size
        obtain ⟨⟨x0, x1⟩, ⟨y0, y1⟩, ⟨r0, r1⟩, ⟨f0, f1⟩, hs2⟩ := three (bThen b1 b2)
        go_wp2_with fail
        refine (specGcd _ (by omega) (by omega)).mono ?_
        rintro e w' ⟨he, n, rfl⟩
        rw [← HG.out] at he
        subst he
        go_wp2
        go_quiet (fail)
        go_wp2
        go_quiet (fail)
        go_wp2_with fail
        refine (specGcd _ (by omega) (by omega)).mono ?_
        rintro e w4 ⟨he, hq⟩
        rw [← HH.out] at he
        subst he
        have b12 := bThen b1 b2
        have b4 := qBelow hq (bDrewN b12 _)
        obtain ⟨_, _, ⟨r0, r1⟩, ⟨f0, f1⟩, hs4⟩ := three b4
        clear hq
        clear w3' w4' w5' w6'
        go_wp2
        go_region
        go_wp2_with fail
        refine (specFractionOkB _ _ _).mono ?_
        rintro e w3 ⟨rfl, b3⟩
        have hz3 := b3.size
        obtain ⟨_, _, ⟨r0, r1⟩, ⟨f0, f1⟩, hs3⟩ := three (w := w) (w2 := w3) (T := 25) (x0 := .int .i64 t) (x1 := .int .i64 b) (y0 := .int .i64 u) (y1 := .int .i64 c) (z0 := .int .i64 0) (z1 := .int .i64 0) (by repeat (first | exact Below.refl _ _ | (refine Below.alloc ?_ (by first | omega | (simp <;> omega)) _) | (refine Below.setCell ?_ (by first | omega | (simp <;> omega)) _) | (refine bDrewN ?_ _) | (refine Below.drew ?_) | (refine Below.trans ?_ (Below.mono b3 (by first | omega | (simp <;> omega)))) | (refine Below.trans ?_ (Below.mono b4 (by first | omega | (simp <;> omega))))))
        obtain ⟨q0, q1, _, _, hs5, _⟩ := pairAt (g := w4.heap.size) b3 (heap_new_at (by simp))
        go_wp2
        exact bodyPost_ret (v := .tuple #[.agg #[.int .i64 0, .int .i64 0], .bool false]) (by simp [results, Try.results17, go_sem, r0, r1]) rfl ⟨ret_red (by rw [HN.out.1, redT, redOk, FT'.out, FB'.out, HOK.out]; rfl) (by rw [HN.out.2.1, redB, redOk, FT'.out, FB'.out, HOK.out]; rfl) (by rw [HN.out.2.2, redOk, FT'.out, FB'.out, HOK.out]), (by repeat (first | exact Below.refl _ _ | (refine Below.alloc ?_ (by first | omega | (simp <;> omega)) _) | (refine Below.setCell ?_ (by first | omega | (simp <;> omega)) _) | (refine bDrewN ?_ _) | (refine Below.drew ?_) | (refine Below.trans ?_ (Below.mono b3 (by first | omega | (simp <;> omega)))) | (refine Below.trans ?_ (Below.mono b4 (by first | omega | (simp <;> omega))))))⟩
      · have hno : (!fracB T B) = false := by rw [hok]; rfl
        have HOK := Lib.hid hok
        clear hok
        go_enter Try.func17, Try.ntmps17
        go_wp2_with fail
        refine (specFractionOkB _ _ _).mono ?_
        rintro e w1 ⟨rfl, b1⟩
        obtain ⟨⟨x0, x1⟩, ⟨y0, y1⟩, ⟨r0, r1⟩, ⟨f0, f1⟩, hs1⟩ := three b1
        go_wp2_with fail
        refine (specFractionOkB _ _ _).mono ?_
        rintro e w2 ⟨rfl, b2⟩
        have hz2 := b2.size
        obtain ⟨⟨x0, x1⟩, ⟨y0, y1⟩, ⟨r0, r1⟩, ⟨f0, f1⟩, hs2⟩ := three (bThen b1 b2)
        go_wp2_with fail
        refine (specGcd _ (by omega) (by omega)).mono ?_
        rintro e w' ⟨he, n, rfl⟩
        rw [← HG.out] at he
        subst he
        go_wp2
        go_quiet (fail)
        go_wp2
        go_quiet (fail)
        go_wp2_with fail
        refine (specGcd _ (by omega) (by omega)).mono ?_
        rintro e w4 ⟨he, hq⟩
        rw [← HH.out] at he
        subst he
        have b12 := bThen b1 b2
        have b4 := qBelow hq (bDrewN b12 _)
        obtain ⟨_, _, ⟨r0, r1⟩, ⟨f0, f1⟩, hs4⟩ := three b4
        clear hq
        clear w3' w4' w5' w6'
        go_wp2
        go_region
        go_wp2_with fail
        refine (specFractionOkB _ _ _).mono ?_
        rintro e w3 ⟨rfl, b3⟩
        have hz3 := b3.size
        obtain ⟨_, _, ⟨r0, r1⟩, ⟨f0, f1⟩, hs3⟩ := three (w := w) (w2 := w3) (T := 25) (x0 := .int .i64 t) (x1 := .int .i64 b) (y0 := .int .i64 u) (y1 := .int .i64 c) (z0 := .int .i64 0) (z1 := .int .i64 0) (by repeat (first | exact Below.refl _ _ | (refine Below.alloc ?_ (by first | omega | (simp <;> omega)) _) | (refine Below.setCell ?_ (by first | omega | (simp <;> omega)) _) | (refine bDrewN ?_ _) | (refine Below.drew ?_) | (refine Below.trans ?_ (Below.mono b3 (by first | omega | (simp <;> omega)))) | (refine Below.trans ?_ (Below.mono b4 (by first | omega | (simp <;> omega))))))
        obtain ⟨q0, q1, _, _, hs5, _⟩ := pairAt (g := w4.heap.size) b3 (heap_new_at (by simp))
        go_wp2
        exact bodyPost_ret (v := .tuple #[.agg #[.int .i64 T, .int .i64 B], .bool true]) (by simp [results, Try.results17, go_sem, r0, r1]) rfl ⟨ret_red (by rw [HN.out.1, redT, redOk, FT'.out, FB'.out, HOK.out]; rfl) (by rw [HN.out.2.1, redB, redOk, FT'.out, FB'.out, HOK.out]; rfl) (by rw [HN.out.2.2, redOk, FT'.out, FB'.out, HOK.out]), (by repeat (first | exact Below.refl _ _ | (refine Below.alloc ?_ (by first | omega | (simp <;> omega)) _) | (refine Below.setCell ?_ (by first | omega | (simp <;> omega)) _) | (refine bDrewN ?_ _) | (refine Below.drew ?_) | (refine Below.trans ?_ (Below.mono b3 (by first | omega | (simp <;> omega)))) | (refine Below.trans ?_ (Below.mono b4 (by first | omega | (simp <;> omega))))))⟩
end Go.Proofs.Ytbppdjglmgnggaa
