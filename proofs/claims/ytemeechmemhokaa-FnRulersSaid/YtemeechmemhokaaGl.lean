/- Contract of spec.l07Golomb. -/
import Derived.Test.YtemeechmemhokaaSeek
import Derived.Test.YtemeechmemhokaaAppAll
import Derived.Test.YtemeechmemhokaaGolS
namespace Go.Proofs.Ytemeechmemhokaa
open Go.RowKit

def RetGl (W : World) (base : Nat) (r : Option (List Nat)) (e : Ending) (w' : World) : Prop :=
  Below W.heap.size W w' ∧ match r with
    | none => ∃ v, e = .returned (.tuple #[v, .bool false])
    | some ys => ∃ v, e = .returned (.tuple #[v, .bool true]) ∧ OI w' base v (il ys)

def golN (fs : List Nat) : Bool := golB (il fs)

set_option maxRecDepth 100000 in
set_option maxHeartbeats 4000000 in
theorem specGl (n T : Nat) (hn : n ≤ 8) (hT : T ≤ 60) : ∀ (d : Nat) (w : World) (base : Nat) (v : Value) (fs : List Nat),
    fs.length + d = n → 1 ≤ fs.length → lastN fs ≤ 60 → OI w base v (il fs) → base ≤ w.heap.size →
    Calls Try.prog 37 #[v, .int .i64 (n : Int), .int .i64 (T : Int)] w (RetGl w base (glF golN T d fs)) := by
  intro d
  induction d with
  | zero =>
    intro w base v fs hl h1 hlast h hbw
    obtain rfl : n = fs.length := by omega
    obtain ⟨ad, cap, rfl⟩ := h.shapeN (il_length fs)
    go_enter Try.func37, Try.ntmps37
    go_wp2
    go_ret2
    exact ⟨Below.refl _ _, by rw [glF]; exact ⟨_, rfl, h⟩⟩
  | succ d ih =>
    intro w base v fs hl h1 hlast h hbw
    obtain ⟨ad, cap, rfl⟩ := h.shapeN (il_length fs)
    obtain ⟨y, HY, iy, c2, _⟩ := h.atN (k := fs.length - 1) (il_length fs) (by omega)
    have hy : y = (lastN fs : Int) := by rw [HY.out, il_getD]; rfl
    rw [show ((fs.length - 1 : Nat) : Int) = (fs.length : Int) - 1 from by omega] at iy
    have e1 : IntKind.i64.wrap ((fs.length : Int) - 1) = (fs.length : Int) - 1 := IntWalk.i64_in _ (by omega)
    have hd : ((fs.length : Int) == (n : Int)) = false := by rw [beq_eq_false_iff_ne]; omega
    obtain ⟨f, ef⟩ : ∃ f, f = fun x => if golN (fs ++ [x]) = true then glF golN T d (fs ++ [x]) else none := ⟨_, rfl⟩
    have hR : glF golN T (d + 1) fs = seek f (T - lastN fs) (lastN fs + 1) := by rw [glF, ef]
    obtain ⟨R, eR⟩ : ∃ R, R = glF golN T (d + 1) fs := ⟨_, rfl⟩
    rw [← eR] at hR ⊢
    clear eR
    obtain ⟨L, hL⟩ : ∃ L, L = lastN fs := ⟨_, rfl⟩
    rw [← hL] at hR hlast hy
    subst hy
    have e2 : IntKind.i64.wrap ((L : Int) + 1) = (L : Int) + 1 := IntWalk.i64_in _ (by omega)
    have ihf : Hid (∀ (x : Nat) (w : World) (v : Value), x ≤ 60 → golN (fs ++ [x]) = true → OI w base v (il (fs ++ [x])) → base ≤ w.heap.size → Calls Try.prog 37 #[v, .int .i64 (n : Int), .int .i64 (T : Int)] w (RetGl w base (f x))) := fun x w v hx hg ho hb => by
      have e : f x = glF golN T d (fs ++ [x]) := by rw [ef]; exact if_pos hg
      rw [e]
      exact ih w base v (fs ++ [x]) (by rw [List.length_append]; simp; omega) (by rw [List.length_append]; simp) (by rw [lastN_app]; exact hx) ho hb
    have hfn : Hid (∀ x, golN (fs ++ [x]) = false → f x = none) := fun x hg => by rw [ef]; exact if_neg (by rw [hg]; simp)
    replace ef := Lib.hid ef
    replace hL := Lib.hid hL
    replace hR := Lib.hid hR
    clear ih
    go_enter Try.func37, Try.ntmps37
    go_wp2
    go_loopw [8, 9, 10, 11] (fun x _ _ _ wr => ∃ k : Nat, x = .int .i64 (k : Int) ∧ 1 ≤ k ∧ k ≤ 61 ∧ Hid (seek f (T + 1 - k) k = R) ∧ Below w.heap.size w wr) (fun x _ _ _ _ => (62 - intOf x).toNat)
    case atStart => exact ⟨L + 1, by simp, by omega, by omega, by rw [show T + 1 - (L + 1) = T - L from by omega]; exact hR.out.symm, Below.refl _ _⟩
    case round =>
      obtain ⟨wo, rfl⟩ : ∃ wo, wo = wr := ⟨_, rfl⟩
      obtain ⟨k, rfl, hk1, hk, HT, hb⟩ := hrel
      by_cases hlt : k ≤ T
      · have hdk : decide ((k : Int) ≤ (T : Int)) = true := decide_eq_true (by omega)
        have hbs := hb.size
        have hap := il_app fs k
        have hm : T + 1 - k = (T - k) + 1 := by omega
        have hil : (il fs).length = fs.length := il_length fs
        replace hil := Lib.hid hil
        replace hm := Lib.hid hm
        replace hap := Lib.hid hap
        have hst := h.stay hb
        have hbb : base ≤ wo.heap.size := Nat.le_trans hbw hbs
        replace hst := Lib.hid hst
        cases hg : golN (fs ++ [k])
        · have hnb : (!golB (il (fs ++ [k]))) = true := by unfold golN at hg; rw [hg]; rfl
          have hfk := hfn.out k hg
          have hsk : seek f (T + 1 - (k + 1)) (k + 1) = R := by
            rw [← HT.out, hm.out, seek_none hfk, show T + 1 - (k + 1) = T - k from by omega]
          replace hsk := Lib.hid hsk
          replace hfk := Lib.hid hfk
          replace hg := Lib.hid hg
          go_wp2_with (first
            | (at_builtin; refine app_ints rfl (.tmp 29) (.tmp 30) rfl rfl (oi_empty wo wo.heap.size (Nat.le_refl _)) rfl (hst.out.stay (bAl (Below.refl _ _) _)) (by rw [hil.out]; omega) (by simp) (by simp) (by rw [hil.out]; omega) ?_; intro v1 w1 h1v hg1 hl1; rw [List.nil_append] at h1v; have b1 : Below wo.heap.size wo w1 := (bAl (Below.refl _ _) _).grown hg1 (by simp) (fun j hj => by cases hj; exact Nat.le_refl _); have hs1 := b1.size)
            | (at_builtin; refine app_int rfl (.tmp 31) (.tmp 33) rfl rfl h1v rfl hs1 (by rw [hil.out]; omega) ?_; intro v2 w2 h2v hg2; rw [← hap.out] at h2v; have b2 : Below wo.heap.size wo w2 := b1.grown hg2 hs1 (fun j hj => (h1v.lt j hj).1); have hs2 := b2.size)
            | (go_at_call 15; refine (specGolomb h2v).mono ?_; rintro e w3 ⟨rfl, b3⟩)
            | fail)
          have hb4 : Below w.heap.size w w3 := hb.trans ((b2.mono hbs).trans (b3.mono (Nat.le_trans hbs hs2)))
          clear h1v b1 hs1 hg1 hl1 hg2 h2v hs2 b3
          go_wp2
          go_roundw
          case rel => exact ⟨k + 1, by go_num, by omega, by omega, hsk, hb4⟩
          case measure => simp only [intOf]; omega
        · have hnb : (!golB (il (fs ++ [k]))) = false := by unfold golN at hg; rw [hg]; rfl
          replace hg := Lib.hid hg
          cases hfk : f k with
          | none =>
            have hsk : seek f (T + 1 - (k + 1)) (k + 1) = R := by
              rw [← HT.out, hm.out, seek_none hfk, show T + 1 - (k + 1) = T - k from by omega]
            replace hsk := Lib.hid hsk
            replace hfk := Lib.hid hfk
            go_wp2_with (first
              | (at_builtin; refine app_ints rfl (.tmp 29) (.tmp 30) rfl rfl (oi_empty wo wo.heap.size (Nat.le_refl _)) rfl (hst.out.stay (bAl (Below.refl _ _) _)) (by rw [hil.out]; omega) (by simp) (by simp) (by rw [hil.out]; omega) ?_; intro v1 w1 h1v hg1 hl1; rw [List.nil_append] at h1v; have b1 : Below wo.heap.size wo w1 := (bAl (Below.refl _ _) _).grown hg1 (by simp) (fun j hj => by cases hj; exact Nat.le_refl _); have hs1 := b1.size)
              | (at_builtin; refine app_int rfl (.tmp 31) (.tmp 33) rfl rfl h1v rfl hs1 (by rw [hil.out]; omega) ?_; intro v2 w2 h2v hg2; rw [← hap.out] at h2v; have b2 : Below wo.heap.size wo w2 := b1.grown hg2 hs1 (fun j hj => (h1v.lt j hj).1); have hs2 := b2.size)
              | (go_at_call 15; refine (specGolomb h2v).mono ?_; rintro e w3 ⟨rfl, b3⟩)
              | (go_at_call 37; refine (ihf.out k w3 v2 (by omega) hg.out ((h2v.stay (b3.mono (Nat.le_refl _))).mono hbb) (Nat.le_trans hbb (Nat.le_trans hs2 b3.size))).mono ?_; rintro e w4 ⟨b4, hr4⟩; rw [hfk.out] at hr4; obtain ⟨v4, rfl⟩ := hr4)
              | fail)
            have hb4 : Below w.heap.size w w4 := hb.trans ((b2.mono hbs).trans ((b3.mono (Nat.le_trans hbs hs2)).trans (b4.mono (Nat.le_trans hbs (Nat.le_trans hs2 b3.size)))))
            clear h1v b1 hs1 hg1 hl1 hg2 h2v hs2 b3 b4
            go_wp2
            go_roundw
            case rel => exact ⟨k + 1, by go_num, by omega, by omega, hsk, hb4⟩
            case measure => simp only [intOf]; omega
          | some ys =>
            have hsk : R = some ys := by rw [← HT.out, hm.out, seek_some hfk]
            replace hsk := Lib.hid hsk
            replace hfk := Lib.hid hfk
            go_wp2_with (first
              | (at_builtin; refine app_ints rfl (.tmp 29) (.tmp 30) rfl rfl (oi_empty wo wo.heap.size (Nat.le_refl _)) rfl (hst.out.stay (bAl (Below.refl _ _) _)) (by rw [hil.out]; omega) (by simp) (by simp) (by rw [hil.out]; omega) ?_; intro v1 w1 h1v hg1 hl1; rw [List.nil_append] at h1v; have b1 : Below wo.heap.size wo w1 := (bAl (Below.refl _ _) _).grown hg1 (by simp) (fun j hj => by cases hj; exact Nat.le_refl _); have hs1 := b1.size)
              | (at_builtin; refine app_int rfl (.tmp 31) (.tmp 33) rfl rfl h1v rfl hs1 (by rw [hil.out]; omega) ?_; intro v2 w2 h2v hg2; rw [← hap.out] at h2v; have b2 : Below wo.heap.size wo w2 := b1.grown hg2 hs1 (fun j hj => (h1v.lt j hj).1); have hs2 := b2.size)
              | (go_at_call 15; refine (specGolomb h2v).mono ?_; rintro e w3 ⟨rfl, b3⟩)
              | (go_at_call 37; refine (ihf.out k w3 v2 (by omega) hg.out ((h2v.stay (b3.mono (Nat.le_refl _))).mono hbb) (Nat.le_trans hbb (Nat.le_trans hs2 b3.size))).mono ?_; rintro e w4 ⟨b4, hr4⟩; rw [hfk.out] at hr4; obtain ⟨v4, rfl, ho4⟩ := hr4)
              | fail)
            have hb4 : Below w.heap.size w w4 := hb.trans ((b2.mono hbs).trans ((b3.mono (Nat.le_trans hbs hs2)).trans (b4.mono (Nat.le_trans hbs (Nat.le_trans hs2 b3.size)))))
            clear h1v b1 hs1 hg1 hl1 hg2 h2v hs2 b3 b4
            go_wp2
            go_ret2
            exact ⟨hb4, by rw [hsk.out]; exact ⟨v4, rfl, ho4⟩⟩
      · have hdk : decide ((k : Int) ≤ (T : Int)) = false := decide_eq_false (by omega)
        have hz : R = none := by rw [← HT.out, show T + 1 - k = 0 from by omega, seek]
        replace hz := Lib.hid hz
        go_wp2
        go_ret2
        exact ⟨bAl hb _, by rw [hz.out]; exact ⟨_, rfl⟩⟩
end Go.Proofs.Ytemeechmemhokaa
