/- The walk of laws.FnFractions: it returns true, and nothing that was there has turned. -/
import Derived.Test.YtbppdjglmgnggaaDrawFs
import Derived.Test.YtbppdjglmgnggaaFracLaw
import Derived.Test.YtbppdjglmgnggaaBig
namespace Go.Proofs.Ytbppdjglmgnggaa
open Go.RowKit
set_option linter.unusedVariables false

theorem hp {W w' : World} {o : Obj} {g : Nat} (h : W.heap[g]? = some o) (b : Below W.heap.size W w') : w'.heap[g]? = some o := (b.block g (Array.getElem?_eq_some_iff.1 h).1).trans h

theorem pairC {w2 : World} {x y : Value} {T : TypeId} {g : Nat} (hh : w2.heap[g]? = some (.cells #[x, y] T (0, 0))) : w2.cell? ⟨g, 0, none⟩ = some x ∧ w2.cell? ⟨g, 1, none⟩ = some y := ⟨(pairH hh).1, (pairH hh).2.1⟩

set_option maxRecDepth 100000 in
set_option maxHeartbeats 4000000 in
theorem walkFractions (a0 : Option Addr) (len0 cap0 : Nat) (z0 : List Int) (w : World) (hr0 : IsRow .u8 w a0 len0 cap0 z0) :
    Calls Try.prog 8 #[.slice a0 len0 cap0] w fun e w' => e = .returned (.bool true) ∧ Below w.heap.size w w' := by
  by_cases hbig : 1048576 < len0
  · have hd : decide (1048576 < len0) = true := decide_eq_true hbig
    go_enter Try.func8, Try.ntmps8
    go_wp2_with fail
    refine lawsBig.mono ?_
    rintro e w' ⟨rfl, rfl⟩
    go_wp2
    go_ret
    exact ⟨rfl, Below.refl _ _⟩
  · have hd : decide (1048576 < len0) = false := decide_eq_false hbig
    go_enter Try.func8, Try.ntmps8
    go_wp2_with fail
    refine lawsBig.mono ?_
    rintro e w' ⟨rfl, rfl⟩
    go_wp2_with fail
    refine (fracsDraw hr0).mono ?_
    rintro e w1 ⟨t, b, u, c, v, d, hs1, hs2, hs3, rfl, b1⟩
    obtain ⟨xT, xB, yT, yB, zT, zB, wT, wB, pT, pB, qT, qB, rT, rB, sT, sB, dT, dB, L⟩ := fracLaw hs1.fr hs2.fr hs3.fr hs1.bt hs1.bb hs2.bt hs2.bb hs3.bt hs3.bb (fracB_neg hs2.fr)
    obtain ⟨rfl, rfl⟩ := L.yw
    obtain ⟨rfl, rfl⟩ := L.ps
    have ub := hs2.bt
    have tb := hs1.bt
    have bb := hs1.bb
    have wn : IntKind.i64.wrap (-u) = -u := IntWalk.i64_in _ (by omega)
    have w6t : IntKind.i64.wrap (6 * t) = 6 * t := IntWalk.i64_in _ (by omega)
    have w6b : IntKind.i64.wrap (6 * b) = 6 * b := IntWalk.i64_in _ (by omega)
    clear hr0 hs1 hs2 hs3 ub tb bb hd
    have hA : (((w1.alloc (.cells #[.int .i64 t, .int .i64 b] 25)).alloc (.cells #[.int .i64 u, .int .i64 c] 25)).alloc (.cells #[.int .i64 v, .int .i64 d] 25)).heap[w1.heap.size]? = some (.cells #[.int .i64 t, .int .i64 b] 25 (0, 0)) := heap_old_at (heap_old_at (heap_new_at rfl))
    have hB : (((w1.alloc (.cells #[.int .i64 t, .int .i64 b] 25)).alloc (.cells #[.int .i64 u, .int .i64 c] 25)).alloc (.cells #[.int .i64 v, .int .i64 d] 25)).heap[w1.heap.size + 1]? = some (.cells #[.int .i64 u, .int .i64 c] 25 (0, 0)) := heap_old_at (heap_new_at (by simp))
    have hC : (((w1.alloc (.cells #[.int .i64 t, .int .i64 b] 25)).alloc (.cells #[.int .i64 u, .int .i64 c] 25)).alloc (.cells #[.int .i64 v, .int .i64 d] 25)).heap[w1.heap.size + 1 + 1]? = some (.cells #[.int .i64 v, .int .i64 d] 25 (0, 0)) := heap_new_at (by simp)
    have bb := bAlloc (bAlloc (bAlloc b1 (.cells #[.int .i64 t, .int .i64 b] 25)) (.cells #[.int .i64 u, .int .i64 c] 25)) (.cells #[.int .i64 v, .int .i64 d] 25)
    clear b1
    obtain ⟨A0, A1⟩ := pairC hA
    obtain ⟨B0, B1⟩ := pairC hB
    go_wp2_with fail
    refine (implAdd _ _ _ _ _).mono ?_
    rintro e w2 ⟨rfl, b2⟩
    rw [L.x.vt, L.x.vb, L.x.ok]
    clear A0 A1 B0 B1
    replace hA := heap_old_at (o := (.cells #[.int .i64 xT, .int .i64 xB] 25)) (hp hA b2)
    replace hB := heap_old_at (o := (.cells #[.int .i64 xT, .int .i64 xB] 25)) (hp hB b2)
    replace hC := heap_old_at (o := (.cells #[.int .i64 xT, .int .i64 xB] 25)) (hp hC b2)
    have hX : (w2.alloc (.cells #[.int .i64 xT, .int .i64 xB] 25)).heap[w2.heap.size]? = some (.cells #[.int .i64 xT, .int .i64 xB] 25 (0, 0)) := heap_new_at rfl
    replace bb := bAlloc (bThen bb b2) (.cells #[.int .i64 xT, .int .i64 xB] 25)
    clear b2
    obtain ⟨X0, X1⟩ := pairC hX
    obtain ⟨C0, C1⟩ := pairC hC
    go_wp2_with fail
    refine (implAdd _ _ _ _ _).mono ?_
    rintro e w3 ⟨rfl, b3⟩
    rw [L.y.vt, L.y.vb, L.y.ok]
    clear X0 X1 C0 C1
    replace hA := heap_old_at (o := (.cells #[.int .i64 yT, .int .i64 yB] 25)) (hp hA b3)
    replace hB := heap_old_at (o := (.cells #[.int .i64 yT, .int .i64 yB] 25)) (hp hB b3)
    replace hC := heap_old_at (o := (.cells #[.int .i64 yT, .int .i64 yB] 25)) (hp hC b3)
    clear hX
    have hY : (w3.alloc (.cells #[.int .i64 yT, .int .i64 yB] 25)).heap[w3.heap.size]? = some (.cells #[.int .i64 yT, .int .i64 yB] 25 (0, 0)) := heap_new_at rfl
    replace bb := bAlloc (bThen bb b3) (.cells #[.int .i64 yT, .int .i64 yB] 25)
    clear b3
    obtain ⟨B0, B1⟩ := pairC hB
    obtain ⟨C0, C1⟩ := pairC hC
    go_wp2_with fail
    refine (implAdd _ _ _ _ _).mono ?_
    rintro e w4 ⟨rfl, b4⟩
    rw [L.z.vt, L.z.vb, L.z.ok]
    clear B0 B1 C0 C1
    replace hA := heap_old_at (o := (.cells #[.int .i64 zT, .int .i64 zB] 25)) (hp hA b4)
    replace hB := heap_old_at (o := (.cells #[.int .i64 zT, .int .i64 zB] 25)) (hp hB b4)
    replace hC := heap_old_at (o := (.cells #[.int .i64 zT, .int .i64 zB] 25)) (hp hC b4)
    replace hY := heap_old_at (o := (.cells #[.int .i64 zT, .int .i64 zB] 25)) (hp hY b4)
    have hZ : (w4.alloc (.cells #[.int .i64 zT, .int .i64 zB] 25)).heap[w4.heap.size]? = some (.cells #[.int .i64 zT, .int .i64 zB] 25 (0, 0)) := heap_new_at rfl
    replace bb := bAlloc (bThen bb b4) (.cells #[.int .i64 zT, .int .i64 zB] 25)
    clear b4
    obtain ⟨A0, A1⟩ := pairC hA
    obtain ⟨Z0, Z1⟩ := pairC hZ
    go_wp2_with fail
    refine (implAdd _ _ _ _ _).mono ?_
    rintro e w5 ⟨rfl, b5⟩
    rw [L.w.vt, L.w.vb, L.w.ok]
    clear A0 A1 Z0 Z1
    replace hA := heap_old_at (o := (.cells #[.int .i64 yT, .int .i64 yB] 25)) (hp hA b5)
    replace hB := heap_old_at (o := (.cells #[.int .i64 yT, .int .i64 yB] 25)) (hp hB b5)
    replace hC := heap_old_at (o := (.cells #[.int .i64 yT, .int .i64 yB] 25)) (hp hC b5)
    replace hY := heap_old_at (o := (.cells #[.int .i64 yT, .int .i64 yB] 25)) (hp hY b5)
    replace hZ := heap_old_at (o := (.cells #[.int .i64 yT, .int .i64 yB] 25)) (hp hZ b5)
    have hV : (w5.alloc (.cells #[.int .i64 yT, .int .i64 yB] 25)).heap[w5.heap.size]? = some (.cells #[.int .i64 yT, .int .i64 yB] 25 (0, 0)) := heap_new_at rfl
    replace bb := bAlloc (bThen bb b5) (.cells #[.int .i64 yT, .int .i64 yB] 25)
    clear b5
    obtain ⟨A0, A1⟩ := pairC hA
    obtain ⟨Z0, Z1⟩ := pairC hZ
    go_wp2_with fail
    refine (implTimes _ _ _ _ _).mono ?_
    rintro e w6 ⟨rfl, b6⟩
    rw [L.p.vt, L.p.vb, L.p.ok]
    clear A0 A1 Z0 Z1
    replace hA := heap_old_at (o := (.cells #[.int .i64 pT, .int .i64 pB] 25)) (hp hA b6)
    replace hB := heap_old_at (o := (.cells #[.int .i64 pT, .int .i64 pB] 25)) (hp hB b6)
    replace hC := heap_old_at (o := (.cells #[.int .i64 pT, .int .i64 pB] 25)) (hp hC b6)
    replace hY := heap_old_at (o := (.cells #[.int .i64 pT, .int .i64 pB] 25)) (hp hY b6)
    clear hZ
    replace hV := heap_old_at (o := (.cells #[.int .i64 pT, .int .i64 pB] 25)) (hp hV b6)
    have hE : (w6.alloc (.cells #[.int .i64 pT, .int .i64 pB] 25)).heap[w6.heap.size]? = some (.cells #[.int .i64 pT, .int .i64 pB] 25 (0, 0)) := heap_new_at rfl
    replace bb := bAlloc (bThen bb b6) (.cells #[.int .i64 pT, .int .i64 pB] 25)
    clear b6
    obtain ⟨A0, A1⟩ := pairC hA
    obtain ⟨B0, B1⟩ := pairC hB
    go_wp2_with fail
    refine (implTimes _ _ _ _ _).mono ?_
    rintro e w7 ⟨rfl, b7⟩
    rw [L.q.vt, L.q.vb, L.q.ok]
    clear A0 A1 B0 B1
    replace hA := heap_old_at (o := (.cells #[.int .i64 qT, .int .i64 qB] 25)) (hp hA b7)
    replace hB := heap_old_at (o := (.cells #[.int .i64 qT, .int .i64 qB] 25)) (hp hB b7)
    replace hC := heap_old_at (o := (.cells #[.int .i64 qT, .int .i64 qB] 25)) (hp hC b7)
    replace hY := heap_old_at (o := (.cells #[.int .i64 qT, .int .i64 qB] 25)) (hp hY b7)
    replace hV := heap_old_at (o := (.cells #[.int .i64 qT, .int .i64 qB] 25)) (hp hV b7)
    replace hE := heap_old_at (o := (.cells #[.int .i64 qT, .int .i64 qB] 25)) (hp hE b7)
    have hF : (w7.alloc (.cells #[.int .i64 qT, .int .i64 qB] 25)).heap[w7.heap.size]? = some (.cells #[.int .i64 qT, .int .i64 qB] 25 (0, 0)) := heap_new_at rfl
    replace bb := bAlloc (bThen bb b7) (.cells #[.int .i64 qT, .int .i64 qB] 25)
    clear b7
    obtain ⟨A0, A1⟩ := pairC hA
    obtain ⟨C0, C1⟩ := pairC hC
    go_wp2_with fail
    refine (implTimes _ _ _ _ _).mono ?_
    rintro e w8 ⟨rfl, b8⟩
    rw [L.r.vt, L.r.vb, L.r.ok]
    clear A0 A1 C0 C1
    replace hA := heap_old_at (o := (.cells #[.int .i64 rT, .int .i64 rB] 25)) (hp hA b8)
    replace hB := heap_old_at (o := (.cells #[.int .i64 rT, .int .i64 rB] 25)) (hp hB b8)
    clear hC
    replace hY := heap_old_at (o := (.cells #[.int .i64 rT, .int .i64 rB] 25)) (hp hY b8)
    replace hV := heap_old_at (o := (.cells #[.int .i64 rT, .int .i64 rB] 25)) (hp hV b8)
    replace hE := heap_old_at (o := (.cells #[.int .i64 rT, .int .i64 rB] 25)) (hp hE b8)
    replace hF := heap_old_at (o := (.cells #[.int .i64 rT, .int .i64 rB] 25)) (hp hF b8)
    have hG : (w8.alloc (.cells #[.int .i64 rT, .int .i64 rB] 25)).heap[w8.heap.size]? = some (.cells #[.int .i64 rT, .int .i64 rB] 25 (0, 0)) := heap_new_at rfl
    replace bb := bAlloc (bThen bb b8) (.cells #[.int .i64 rT, .int .i64 rB] 25)
    clear b8
    obtain ⟨F0, F1⟩ := pairC hF
    obtain ⟨G0, G1⟩ := pairC hG
    go_wp2_with fail
    refine (implAdd _ _ _ _ _).mono ?_
    rintro e w9 ⟨rfl, b9⟩
    rw [L.s.vt, L.s.vb, L.s.ok]
    clear F0 F1 G0 G1
    replace hA := heap_old_at (o := (.cells #[.int .i64 pT, .int .i64 pB] 25)) (hp hA b9)
    replace hB := heap_old_at (o := (.cells #[.int .i64 pT, .int .i64 pB] 25)) (hp hB b9)
    replace hY := heap_old_at (o := (.cells #[.int .i64 pT, .int .i64 pB] 25)) (hp hY b9)
    replace hV := heap_old_at (o := (.cells #[.int .i64 pT, .int .i64 pB] 25)) (hp hV b9)
    replace hE := heap_old_at (o := (.cells #[.int .i64 pT, .int .i64 pB] 25)) (hp hE b9)
    clear hF
    clear hG
    have hH : (w9.alloc (.cells #[.int .i64 pT, .int .i64 pB] 25)).heap[w9.heap.size]? = some (.cells #[.int .i64 pT, .int .i64 pB] 25 (0, 0)) := heap_new_at rfl
    replace bb := bAlloc (bThen bb b9) (.cells #[.int .i64 pT, .int .i64 pB] 25)
    clear b9
    obtain ⟨A0, A1⟩ := pairC hA
    obtain ⟨B0, B1⟩ := pairC hB
    go_wp2_with fail
    refine (implAdd _ _ _ _ _).mono ?_
    rintro e w10 ⟨rfl, b10⟩
    rw [L.d.vt, L.d.vb, L.d.ok]
    clear A0 A1 B0 B1
    replace hA := heap_old_at (o := (.cells #[.int .i64 dT, .int .i64 dB] 25)) (hp hA b10)
    replace hB := heap_old_at (o := (.cells #[.int .i64 dT, .int .i64 dB] 25)) (hp hB b10)
    replace hY := heap_old_at (o := (.cells #[.int .i64 dT, .int .i64 dB] 25)) (hp hY b10)
    replace hV := heap_old_at (o := (.cells #[.int .i64 dT, .int .i64 dB] 25)) (hp hV b10)
    replace hE := heap_old_at (o := (.cells #[.int .i64 dT, .int .i64 dB] 25)) (hp hE b10)
    replace hH := heap_old_at (o := (.cells #[.int .i64 dT, .int .i64 dB] 25)) (hp hH b10)
    have hD : (w10.alloc (.cells #[.int .i64 dT, .int .i64 dB] 25)).heap[w10.heap.size]? = some (.cells #[.int .i64 dT, .int .i64 dB] 25 (0, 0)) := heap_new_at rfl
    replace bb := bAlloc (bThen bb b10) (.cells #[.int .i64 dT, .int .i64 dB] 25)
    clear b10
    obtain ⟨A0, A1⟩ := pairC hA
    go_wp2_with fail
    refine (implMake _ _ _).mono ?_
    rintro e w11 ⟨rfl, b11⟩
    rw [L.m.1, L.m.2.1, L.m.2.2]
    clear A0 A1
    replace hA := heap_old_at (o := (.cells #[.int .i64 t, .int .i64 b] 25)) (hp hA b11)
    replace hB := heap_old_at (o := (.cells #[.int .i64 t, .int .i64 b] 25)) (hp hB b11)
    replace hY := heap_old_at (o := (.cells #[.int .i64 t, .int .i64 b] 25)) (hp hY b11)
    replace hV := heap_old_at (o := (.cells #[.int .i64 t, .int .i64 b] 25)) (hp hV b11)
    replace hE := heap_old_at (o := (.cells #[.int .i64 t, .int .i64 b] 25)) (hp hE b11)
    replace hH := heap_old_at (o := (.cells #[.int .i64 t, .int .i64 b] 25)) (hp hH b11)
    replace hD := heap_old_at (o := (.cells #[.int .i64 t, .int .i64 b] 25)) (hp hD b11)
    have hM : (w11.alloc (.cells #[.int .i64 t, .int .i64 b] 25)).heap[w11.heap.size]? = some (.cells #[.int .i64 t, .int .i64 b] 25 (0, 0)) := heap_new_at rfl
    replace bb := bAlloc (bThen bb b11) (.cells #[.int .i64 t, .int .i64 b] 25)
    clear b11
    obtain ⟨A0, A1⟩ := pairC hA
    obtain ⟨B0, B1⟩ := pairC hB
    go_wp2_with fail
    refine (implCmp _ _ _ _ _).mono ?_
    rintro e w12 ⟨rfl, b12⟩
    clear A0 A1 B0 B1
    replace hY := hp hY b12
    obtain ⟨Y0, Y1⟩ := pairC hY
    replace hV := hp hV b12
    obtain ⟨V0, V1⟩ := pairC hV
    replace hE := hp hE b12
    obtain ⟨E0, E1⟩ := pairC hE
    replace hH := hp hH b12
    obtain ⟨H0, H1⟩ := pairC hH
    replace hM := hp hM b12
    obtain ⟨M0, M1⟩ := pairC hM
    replace hA := hp hA b12
    obtain ⟨A0, A1⟩ := pairC hA
    replace hD := hp hD b12
    obtain ⟨D0, D1⟩ := pairC hD
    replace hB := hp hB b12
    obtain ⟨B0, B1⟩ := pairC hB
    replace bb := bThen bb b12
    clear b12 wn w6t w6b
    have hgt := L.gt
    have hlt := L.lt
    have hk := L.k
    have hkb := L.kb
    have hY' := L.y.fr
    obtain ⟨k, ek⟩ : ∃ k, k = cmpN t b u c := ⟨_, rfl⟩
    obtain ⟨k', ek'⟩ : ∃ k, k = cmpN u c t b := ⟨_, rfl⟩
    rw [← ek] at hgt hlt hk hkb ⊢
    rw [← ek'] at hk
    obtain rfl : k' = -k := by omega
    clear hk L
    replace ek := Lib.hid ek
    replace ek' := Lib.hid ek'
    rcases (show k = -1 ∨ k = 0 ∨ k = 1 by omega) with rfl | rfl | rfl
    · have t1 : decide (0 < dT) = false := decide_eq_false (by omega)
      have t2 : decide (dT < 0) = true := decide_eq_true (by omega)
      clear hgt hlt hkb
      go_wp2_with fail
      refine (implCmp _ _ _ _ _).mono ?_
      rintro e w13 ⟨rfl, b13⟩
      rw [show cmpN u c t b = 1 from ek'.out.symm]
      have wk : IntKind.i64.wrap (-(1)) = -1 := by decide
      obtain ⟨Y0, Y1⟩ := pairC (hp hY b13)
      replace bb := bThen bb b13
      clear b13 ek ek' t1 t2 A0 A1 B0 B1 D0 D1 V0 V1 E0 E1 H0 H1 M0 M1 hA hB hD hV hE hH hM
      go_wp2_with fail
      refine (implFractionOkB _ _ _).mono ?_
      rintro e w14 ⟨rfl, b14⟩
      rw [hY']
      go_wp2
      go_ret
      exact ⟨rfl, bThen bb b14⟩
    · have t1 : decide (0 < dT) = false := decide_eq_false (by omega)
      have t2 : decide (dT < 0) = false := decide_eq_false (by omega)
      clear hgt hlt hkb
      go_wp2_with fail
      refine (implCmp _ _ _ _ _).mono ?_
      rintro e w13 ⟨rfl, b13⟩
      rw [show cmpN u c t b = 0 from ek'.out.symm]
      have wk : IntKind.i64.wrap (-(0)) = 0 := by decide
      obtain ⟨Y0, Y1⟩ := pairC (hp hY b13)
      replace bb := bThen bb b13
      clear b13 ek ek' t1 t2 A0 A1 B0 B1 D0 D1 V0 V1 E0 E1 H0 H1 M0 M1 hA hB hD hV hE hH hM
      go_wp2_with fail
      refine (implFractionOkB _ _ _).mono ?_
      rintro e w14 ⟨rfl, b14⟩
      rw [hY']
      go_wp2
      go_ret
      exact ⟨rfl, bThen bb b14⟩
    · have t1 : decide (0 < dT) = true := decide_eq_true (by omega)
      have t2 : decide (dT < 0) = false := decide_eq_false (by omega)
      clear hgt hlt hkb
      go_wp2_with fail
      refine (implCmp _ _ _ _ _).mono ?_
      rintro e w13 ⟨rfl, b13⟩
      rw [show cmpN u c t b = -1 from ek'.out.symm]
      have wk : IntKind.i64.wrap (-(-1)) = 1 := by decide
      obtain ⟨Y0, Y1⟩ := pairC (hp hY b13)
      replace bb := bThen bb b13
      clear b13 ek ek' t1 t2 A0 A1 B0 B1 D0 D1 V0 V1 E0 E1 H0 H1 M0 M1 hA hB hD hV hE hH hM
      go_wp2_with fail
      refine (implFractionOkB _ _ _).mono ?_
      rintro e w14 ⟨rfl, b14⟩
      rw [hY']
      go_wp2
      go_ret
      exact ⟨rfl, bThen bb b14⟩
end Go.Proofs.Ytbppdjglmgnggaa
