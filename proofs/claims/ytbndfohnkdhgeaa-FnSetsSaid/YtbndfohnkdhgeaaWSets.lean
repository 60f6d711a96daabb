/- The walk of laws.FnSets: it returns true, and nothing that was there has turned. -/
import Derived.Test.YtbndfohnkdhgeaaSetLaw
import Derived.Test.YtbndfohnkdhgeaaSetD
import Derived.Test.YtbndfohnkdhgeaaBig
import Derived.Test.YtbndfohnkdhgeaaAt
namespace Go.Proofs.Ytbndfohnkdhgeaa
open Go.RowKit
set_option linter.unusedVariables false

set_option maxRecDepth 100000 in
set_option maxHeartbeats 4000000 in
theorem walkSets (a0 : Option Addr) (len0 cap0 : Nat) (z0 : List Int) (w : World) (hr0 : IsRow .u8 w a0 len0 cap0 z0) :
    Calls Try.prog 9 #[.slice a0 len0 cap0] w fun e w' => e = .returned (.bool true) ∧ Below w.heap.size w w' := by
  by_cases hbig : 1048576 < len0
  · have hd : decide (1048576 < len0) = true := decide_eq_true hbig
    go_enter Try.func9, Try.ntmps9
    go_wp2_with fail
    refine lawsBig.mono ?_
    rintro e w' ⟨rfl, rfl⟩
    go_wp2
    go_ret
    exact ⟨rfl, Below.refl _ _⟩
  · have hd : decide (1048576 < len0) = false := decide_eq_false hbig
    go_enter Try.func9, Try.ntmps9
    go_wp2_with fail
    refine lawsBig.mono ?_
    rintro e w' ⟨rfl, rfl⟩
    go_wp2_with fail
    refine (drawSet hr0).mono ?_
    rintro e w1 ⟨v, xs, rfl, ho, b1, hs, hl5⟩
    obtain ⟨a, b, L⟩ := setsLaw hs
    have hl1 : 1 ≤ xs.length := (setFacts hs).pos
    have hr1 := hr0.below b1
    clear hr0 hd
    have L := Lib.hid L
    replace hs := Lib.hid hs
    obtain ⟨n, hn⟩ : ∃ n, n = xs.length := ⟨_, rfl⟩
    obtain ⟨ad, cap, rfl⟩ := ho.shapeN hn.symm
    rw [← hn] at hl5 hl1
    replace hn := Lib.hid hn
    have m2 : OI ((w1.alloc (.cells #[] 3)).alloc (.cells #[] 3)) w1.heap.size (.slice (some ⟨w1.heap.size, 0, none⟩) 0 0) (powL 2 0) := (oi_empty w1 _ (Nat.le_refl _)).stay (bAl (Below.refl _ _) _)
    have m3 : OI ((w1.alloc (.cells #[] 3)).alloc (.cells #[] 3)) w1.heap.size (.slice (some ⟨w1.heap.size + 1, 0, none⟩) 0 0) (powL 3 0) := by
      have h := oi_empty (w1.alloc (.cells #[] 3)) w1.heap.size (by simp)
      rw [show (w1.alloc (.cells #[] 3)).heap.size = w1.heap.size + 1 from by simp] at h
      exact h
    have hap : Apart (.slice (some ⟨w1.heap.size, 0, none⟩) 0 0) (.slice (some ⟨w1.heap.size + 1, 0, none⟩) 0 0) := fun g h1 h2 => by
      simp only [Value.ownBlock] at h1 h2
      have := Option.some.inj (h1.trans h2.symm)
      omega
    have bst : Below w1.heap.size w1 ((w1.alloc (.cells #[] 3)).alloc (.cells #[] 3)) := bAl (bAl (Below.refl _ _) _) _
    go_wp2
    go_loopw [5, 6, 7, 8, 9] (fun o u p q i wr => ∃ k : Nat, k ≤ n ∧ i = .int .i64 (k : Int) ∧ p = .int .i64 (powI 2 k) ∧ q = .int .i64 (powI 3 k) ∧ OI wr w1.heap.size o (powL 2 k) ∧ OI wr w1.heap.size u (powL 3 k) ∧ Apart o u ∧ Below w1.heap.size w1 wr) (fun _ _ _ _ i _ => n - (intOf i).toNat)
    case atStart => exact ⟨0, Nat.zero_le _, rfl, rfl, rfl, m2, m3, hap, bst⟩
    case round =>
      clear m2 m3 hap bst
      obtain ⟨k, hk, rfl, rfl, rfl, h2, h3, ap, bb⟩ := hrel
      by_cases hlt : k < n
      · have hpb := pow_bd (n := k) (by omega)
        obtain ⟨p, ep⟩ : ∃ p, p = powI 2 k := ⟨_, rfl⟩
        obtain ⟨q, eq⟩ : ∃ q, q = powI 3 k := ⟨_, rfl⟩
        have e2 : powI 2 (k + 1) = 2 * p := by rw [powI, ep]; rfl
        have e3 : powI 3 (k + 1) = 3 * q := by rw [powI, eq]; rfl
        have f2 : powL 2 (k + 1) = powL 2 k ++ [p] := by rw [powL, ep]
        have f3 : powL 3 (k + 1) = powL 3 k ++ [q] := by rw [powL, eq]
        rw [← ep, ← eq] at hpb ⊢
        have w2 : IntKind.i64.wrap (2 * p) = 2 * p := IntWalk.i64_in _ (by omega)
        have w3 : IntKind.i64.wrap (3 * q) = 3 * q := IntWalk.i64_in _ (by omega)
        replace e2 := Lib.hid e2
        replace e3 := Lib.hid e3
        replace f2 := Lib.hid f2
        replace f3 := Lib.hid f3
        clear ep eq
        go_wp2_with (first
          | (at_builtin; refine app_int_at rfl (.tmp 26) (.tmp 28) rfl rfl h2 rfl bb.size (by rw [powL_length]; omega) ?_; intro v2 w4 h24 hg4 hl4; have ap4 := ap.app hl4 h3; have h34 := h3.keptBy ap.symm hg4; have bb4 := bb.grown hg4 bb.size (fun j hj => (h2.lt j hj).1))
          | (at_builtin; refine app_int_at rfl (.tmp 30) (.tmp 32) rfl rfl h34 rfl bb4.size (by rw [powL_length]; omega) ?_; intro v3 w5 h35 hg5 hl5')
          | fail)
        have ap5 := (ap4.symm.app hl5' h24).symm
        have h25 := h24.keptBy ap4 hg5
        have bb5 : Below w1.heap.size w1 w5 := bb4.grown hg5 bb4.size (fun j hj => (h34.lt j hj).1)
        clear hg4 hl4 hg5 hl5' h24 h34 h2 h3 ap ap4
        go_wp2
        go_roundw
        case rel => exact ⟨k + 1, by omega, by go_num, by rw [e2.out], by rw [e3.out], by rw [f2.out]; exact h25, by rw [f3.out]; exact h35, ap5, bb5⟩
        case measure => simp only [intOf]; omega
      · obtain rfl : k = n := by omega
        have hpb := pow_bd (n := k) hl5
        have hA := L.out.ap
        have hB := L.out.bq
        have hAB := L.out.ab
        rw [← hn.out] at hA hB
        have r2 := Lib.hid (twosReach (n := k) ⟨hl1, hl5⟩)
        have r3 := Lib.hid (threesReach (n := k) ⟨hl1, hl5⟩)
        obtain ⟨p, ep⟩ : ∃ p, p = powI 2 k := ⟨_, rfl⟩
        obtain ⟨q, eq⟩ : ∃ q, q = powI 3 k := ⟨_, rfl⟩
        rw [← ep] at hpb hA r2 ⊢
        rw [← eq] at hpb hB r3 ⊢
        have ho2 := ho.stay bb
        have hr2 := hr1.below (bb.mono (Nat.le_refl _))
        have bw := bThen b1 bb
        clear ep eq ap ho hr1 b1 bb
        go_wp2_with fail
        refine (implReachOf ho2 (by omega)).mono ?_
        rintro e w6 ⟨rfl, b6⟩
        rw [L.out.ra]
        replace ho2 := ho2.stay b6
        replace h2 := h2.stay b6
        replace h3 := h3.stay b6
        replace bw := bThen bw b6
        replace hr2 := hr2.below b6
        clear b6
        go_wp2_with fail
        refine (implReachOf ho2 (by omega)).mono ?_
        rintro e w7 ⟨rfl, b7⟩
        rw [L.out.rb]
        replace ho2 := ho2.stay b7
        replace h2 := h2.stay b7
        replace h3 := h3.stay b7
        replace bw := bThen bw b7
        replace hr2 := hr2.below b7
        clear b7
        go_wp2_with fail
        refine (lawsAt hr2 (by omega) (by omega)).mono ?_
        rintro e w' ⟨x, hx0, hx1, rfl, rfl⟩
        have hm : -9223372036854775808 ≤ 1 + x % 50 ∧ 1 + x % 50 ≤ 9223372036854775807 := by omega
        have hm2 : -9223372036854775808 ≤ -(1 + x % 50) ∧ -(1 + x % 50) ≤ 9223372036854775807 := by omega
        obtain ⟨m, em⟩ : ∃ m, m = 1 + x % 50 := ⟨_, rfl⟩
        have wm : IntKind.i64.wrap (-m) = -m := IntWalk.i64_in _ (by omega)
        rw [← em] at hm hm2
        have s1 := Lib.hid (L.out.sym m)
        have s2 := Lib.hid (L.out.symW m)
        have s3 := L.out.pan m
        have s4 := L.out.ways m
        obtain ⟨t, et⟩ : ∃ t, t = panB true xs m := ⟨_, rfl⟩
        obtain ⟨o, eo⟩ : ∃ o, o = panB false xs m := ⟨_, rfl⟩
        obtain ⟨u, eu⟩ : ∃ u, u = waysN xs m := ⟨_, rfl⟩
        rw [← et, ← eo] at s3
        rw [← eu, ← et] at s4
        replace et := Lib.hid et
        replace eo := Lib.hid eo
        replace eu := Lib.hid eu
        have ma := L.out.miss
        have oa := L.out.oa
        have ob := L.out.ob
        have ab : IntKind.i64.wrap (a + 1) = a + 1 := IntWalk.i64_in _ (by omega)
        have bb1 : IntKind.i64.wrap (b + 1) = b + 1 := IntWalk.i64_in _ (by omega)
        have wp : IntKind.i64.wrap (p - 1) = p - 1 := IntWalk.i64_in _ (by omega)
        have wq : IntKind.i64.wrap (q - 1) = q - 1 := IntWalk.i64_in _ (by omega)
        have d1 : decide (a ≤ p - 1) = true := decide_eq_true (by omega)
        obtain ⟨r, er⟩ : ∃ r, (q - 1) / 2 = r := ⟨_, rfl⟩
        have tq : (q - 1).tdiv 2 = r := by rw [Int.tdiv_eq_ediv_of_nonneg (by omega)]; exact er
        have wr : IntKind.i64.wrap r = r := IntWalk.i64_in _ (by omega)
        have wr2 : wrap64 r = r := by rw [← IntWalk.i64_left]; exact wr
        have d2 : decide (b ≤ r) = true := decide_eq_true (by omega)
        rw [er] at r3
        replace er := Lib.hid er
        have d3 : decide (a ≤ b) = true := decide_eq_true (by omega)
        have hab : 0 ≤ a ∧ a ≤ 32 ∧ 0 ≤ b ∧ b ≤ 243 ∧ 1 ≤ p ∧ p ≤ 32 ∧ 1 ≤ q ∧ q ≤ 243 := by omega
        have H1 := Lib.hid hab
        replace ma := Lib.hid ma
        replace oa := Lib.hid oa
        replace ob := Lib.hid ob
        clear hpb hA hB hAB hab
        go_wp2_with fail
        rw [← em]
        clear hx0 hx1
        refine (implTwoPans ho2 hm).mono ?_
        rintro e w8 ⟨rfl, b8⟩
        rw [← et.out]
        replace ho2 := ho2.stay b8
        replace h2 := h2.stay b8
        replace h3 := h3.stay b8
        replace bw := bThen bw b8
        clear b8 em
        go_wp2_with fail
        refine (implTwoPans ho2 hm2).mono ?_
        rintro e w9 ⟨rfl, b9⟩
        rw [s1.out, ← et.out]
        replace ho2 := ho2.stay b9
        replace h2 := h2.stay b9
        replace h3 := h3.stay b9
        replace bw := bThen bw b9
        clear b9
        have tt : (t != t) = false := by simp
        have uu : (u != u) = false := by simp
        --REST
        go_wp2_with fail
        refine (implWaysOf ho2 hm).mono ?_
        rintro e w10 ⟨rfl, b10⟩
        rw [← eu.out]
        replace ho2 := ho2.stay b10
        replace h2 := h2.stay b10
        replace h3 := h3.stay b10
        replace bw := bThen bw b10
        clear b10
        go_wp2_with fail
        refine (implWaysOf ho2 hm2).mono ?_
        rintro e w11 ⟨rfl, b11⟩
        rw [s2.out, ← eu.out]
        replace ho2 := ho2.stay b11
        replace h2 := h2.stay b11
        replace h3 := h3.stay b11
        replace bw := bThen bw b11
        clear b11
        go_wp2_with fail
        refine (implOnePan ho2 hm).mono ?_
        rintro e w12 ⟨rfl, b12⟩
        rw [← eo.out]
        replace ho2 := ho2.stay b12
        replace h2 := h2.stay b12
        replace h3 := h3.stay b12
        replace bw := bThen bw b12
        clear b12
        cases o
        · cases t
          · clear s3 tt
            go_wp2_with fail
            refine (implWaysOf ho2 hm).mono ?_
            rintro e w13 ⟨rfl, b13⟩
            rw [← eu.out]
            replace ho2 := ho2.stay b13
            replace h2 := h2.stay b13
            replace h3 := h3.stay b13
            replace bw := bThen bw b13
            clear b13
            go_wp2_with fail
            refine (implTwoPans ho2 hm).mono ?_
            rintro e w14 ⟨rfl, b14⟩
            rw [← et.out]
            replace ho2 := ho2.stay b14
            replace h2 := h2.stay b14
            replace h3 := h3.stay b14
            replace bw := bThen bw b14
            clear b14
            go_wp2_with fail
            refine (implReachOf h2 (by omega)).mono ?_
            rintro e w15 ⟨rfl, b15⟩
            rw [r2.out]
            replace ho2 := ho2.stay b15
            replace h2 := h2.stay b15
            replace h3 := h3.stay b15
            replace bw := bThen bw b15
            clear b15
            go_wp2_with fail
            refine (implReachOf h3 (by omega)).mono ?_
            rintro e w16 ⟨rfl, b16⟩
            rw [r3.out]
            replace ho2 := ho2.stay b16
            replace h2 := h2.stay b16
            replace h3 := h3.stay b16
            replace bw := bThen bw b16
            clear b16
            go_wp2_with fail
            refine (implLeastMissing ho2).mono ?_
            rintro e w17 ⟨rfl, b17⟩
            rw [ma.out]
            replace ho2 := ho2.stay b17
            replace h2 := h2.stay b17
            replace h3 := h3.stay b17
            replace bw := bThen bw b17
            clear b17
            go_wp2_with fail
            refine (implOnePan ho2 (n := a + 1) (by have := H1.out; omega)).mono ?_
            rintro e w18 ⟨rfl, b18⟩
            rw [oa.out]
            replace ho2 := ho2.stay b18
            replace h2 := h2.stay b18
            replace h3 := h3.stay b18
            replace bw := bThen bw b18
            clear b18
            go_wp2_with fail
            refine (implTwoPans ho2 (n := b + 1) (by have := H1.out; omega)).mono ?_
            rintro e w19 ⟨rfl, b19⟩
            rw [ob.out]
            replace ho2 := ho2.stay b19
            replace h2 := h2.stay b19
            replace h3 := h3.stay b19
            replace bw := bThen bw b19
            clear b19
            go_wp2
            go_ret
            exact ⟨rfl, bw⟩
          · clear s3 tt
            go_wp2_with fail
            refine (implWaysOf ho2 hm).mono ?_
            rintro e w20 ⟨rfl, b20⟩
            rw [← eu.out]
            replace ho2 := ho2.stay b20
            replace h2 := h2.stay b20
            replace h3 := h3.stay b20
            replace bw := bThen bw b20
            clear b20
            go_wp2_with fail
            refine (implTwoPans ho2 hm).mono ?_
            rintro e w21 ⟨rfl, b21⟩
            rw [← et.out]
            replace ho2 := ho2.stay b21
            replace h2 := h2.stay b21
            replace h3 := h3.stay b21
            replace bw := bThen bw b21
            clear b21
            go_wp2_with fail
            refine (implReachOf h2 (by omega)).mono ?_
            rintro e w22 ⟨rfl, b22⟩
            rw [r2.out]
            replace ho2 := ho2.stay b22
            replace h2 := h2.stay b22
            replace h3 := h3.stay b22
            replace bw := bThen bw b22
            clear b22
            go_wp2_with fail
            refine (implReachOf h3 (by omega)).mono ?_
            rintro e w23 ⟨rfl, b23⟩
            rw [r3.out]
            replace ho2 := ho2.stay b23
            replace h2 := h2.stay b23
            replace h3 := h3.stay b23
            replace bw := bThen bw b23
            clear b23
            go_wp2_with fail
            refine (implLeastMissing ho2).mono ?_
            rintro e w24 ⟨rfl, b24⟩
            rw [ma.out]
            replace ho2 := ho2.stay b24
            replace h2 := h2.stay b24
            replace h3 := h3.stay b24
            replace bw := bThen bw b24
            clear b24
            go_wp2_with fail
            refine (implOnePan ho2 (n := a + 1) (by have := H1.out; omega)).mono ?_
            rintro e w25 ⟨rfl, b25⟩
            rw [oa.out]
            replace ho2 := ho2.stay b25
            replace h2 := h2.stay b25
            replace h3 := h3.stay b25
            replace bw := bThen bw b25
            clear b25
            go_wp2_with fail
            refine (implTwoPans ho2 (n := b + 1) (by have := H1.out; omega)).mono ?_
            rintro e w26 ⟨rfl, b26⟩
            rw [ob.out]
            replace ho2 := ho2.stay b26
            replace h2 := h2.stay b26
            replace h3 := h3.stay b26
            replace bw := bThen bw b26
            clear b26
            go_wp2
            go_ret
            exact ⟨rfl, bw⟩
        · obtain rfl := s3 rfl
          clear s3 tt
          go_wp2_with fail
          refine (implTwoPans ho2 hm).mono ?_
          rintro e w27 ⟨rfl, b27⟩
          rw [← et.out]
          replace ho2 := ho2.stay b27
          replace h2 := h2.stay b27
          replace h3 := h3.stay b27
          replace bw := bThen bw b27
          clear b27
          go_wp2_with fail
          refine (implWaysOf ho2 hm).mono ?_
          rintro e w28 ⟨rfl, b28⟩
          rw [← eu.out]
          replace ho2 := ho2.stay b28
          replace h2 := h2.stay b28
          replace h3 := h3.stay b28
          replace bw := bThen bw b28
          clear b28
          go_wp2_with fail
          refine (implTwoPans ho2 hm).mono ?_
          rintro e w29 ⟨rfl, b29⟩
          rw [← et.out]
          replace ho2 := ho2.stay b29
          replace h2 := h2.stay b29
          replace h3 := h3.stay b29
          replace bw := bThen bw b29
          clear b29
          go_wp2_with fail
          refine (implReachOf h2 (by omega)).mono ?_
          rintro e w30 ⟨rfl, b30⟩
          rw [r2.out]
          replace ho2 := ho2.stay b30
          replace h2 := h2.stay b30
          replace h3 := h3.stay b30
          replace bw := bThen bw b30
          clear b30
          go_wp2_with fail
          refine (implReachOf h3 (by omega)).mono ?_
          rintro e w31 ⟨rfl, b31⟩
          rw [r3.out]
          replace ho2 := ho2.stay b31
          replace h2 := h2.stay b31
          replace h3 := h3.stay b31
          replace bw := bThen bw b31
          clear b31
          go_wp2_with fail
          refine (implLeastMissing ho2).mono ?_
          rintro e w32 ⟨rfl, b32⟩
          rw [ma.out]
          replace ho2 := ho2.stay b32
          replace h2 := h2.stay b32
          replace h3 := h3.stay b32
          replace bw := bThen bw b32
          clear b32
          go_wp2_with fail
          refine (implOnePan ho2 (n := a + 1) (by have := H1.out; omega)).mono ?_
          rintro e w33 ⟨rfl, b33⟩
          rw [oa.out]
          replace ho2 := ho2.stay b33
          replace h2 := h2.stay b33
          replace h3 := h3.stay b33
          replace bw := bThen bw b33
          clear b33
          go_wp2_with fail
          refine (implTwoPans ho2 (n := b + 1) (by have := H1.out; omega)).mono ?_
          rintro e w34 ⟨rfl, b34⟩
          rw [ob.out]
          replace ho2 := ho2.stay b34
          replace h2 := h2.stay b34
          replace h3 := h3.stay b34
          replace bw := bThen bw b34
          clear b34
          go_wp2
          go_ret
          exact ⟨rfl, bw⟩
end Go.Proofs.Ytbndfohnkdhgeaa
