/- Contract of impl.rulerWith, for whatever function it is given. -/
import Derived.Test.YtemeechmemhokaaSeek
import Derived.Test.YtemeechmemhokaaCopy
import Derived.WalkSpells
namespace Go.Proofs.Ytemeechmemhokaa
open Go.RowKit

def RetRw (W : World) (base : Nat) (r : Option (List Nat)) (e : Ending) (w' : World) : Prop :=
  Below W.heap.size W w' ∧ match r with
    | none => e = .returned (.slice none 0 0)
    | some ys => ∃ g len cap, e = .returned (.slice (some ⟨g, 0, none⟩) len cap) ∧ OI w' base (.slice (some ⟨g, 0, none⟩) len cap) (il ys)

theorem neqNil (w : World) (a : Option Addr) (n c : Nat) : (binOp .neq 22 (.slice a n c) (.slice none 0 0)).run Try.prog w = .ok (.bool (!a.isNone)) w := run_neq_slice_nil_any w 22 3 a n c 0 0 Try.underlying22

def Good (gf : FuncId) (G : List Nat → Bool) : Prop :=
  ∀ (w : World) (base : Nat) (v : Value) (fs : List Nat), OI w base v (il fs) → Calls Try.prog gf #[v] w fun e w' => e = .returned (.bool (G fs)) ∧ Below w.heap.size w w'

set_option maxRecDepth 100000 in
set_option maxHeartbeats 4000000 in
theorem implRwG (G : List Nat → Bool) (HG : Good 16 G) (n T : Nat) (hn : n ≤ 8) (hT : T ≤ 60) : ∀ (d : Nat) (w : World) (base : Nat) (v : Value) (fs : List Nat),
    fs.length + d = n → 1 ≤ fs.length → lastN fs ≤ 60 → OI w base v (il fs) → base ≤ w.heap.size →
    Calls Try.prog 36 #[v, .int .i64 (n : Int), .int .i64 (T : Int), .func (.func 16) #[] #[]] w (RetRw w base (rwF G T d fs)) := by
  have HG := Lib.hid HG
  intro d
  induction d with
  | zero =>
    intro w base v fs hl h1 hlast h hbw
    obtain rfl : n = fs.length := by omega
    obtain ⟨g, cap, hv⟩ := oi_nonnil h (by rw [il_length]; omega)
    rw [il_length] at hv
    subst hv
    obtain ⟨y, HY, iy, c2, _⟩ := h.atN (k := fs.length - 1) (il_length fs) (by omega)
    have hy : y = (lastN fs : Int) := by rw [HY.out, il_getD]; rfl
    rw [show ((fs.length - 1 : Nat) : Int) = (fs.length : Int) - 1 from by omega] at iy
    have e1 : IntKind.i64.wrap ((fs.length : Int) - 1) = (fs.length : Int) - 1 := IntWalk.i64_in _ (by omega)
    by_cases hyT : y = (T : Int)
    · have hq : (y == (T : Int)) = true := by rw [beq_iff_eq]; exact hyT
      have hlT : lastN fs = T := by omega
      replace hyT := Lib.hid hyT
      replace hy := Lib.hid hy
      cases hG : G fs
      · have HGG := Lib.hid hG
        replace hlT := Lib.hid hlT
        go_enter Try.func36, Try.ntmps36
        go_wp2_with (first | (go_at_call 16; refine (HG.out _ _ _ _ h).mono ?_; rintro e w' ⟨rfl, hb⟩) | fail)
        go_wp2
        go_ret
        exact ⟨hb, by rw [rwF, if_neg (by rw [HGG.out]; simp)]; rfl⟩
      · have HGG := Lib.hid hG
        replace hlT := Lib.hid hlT
        go_enter Try.func36, Try.ntmps36
        go_wp2_with (first | (go_at_call 16; refine (HG.out _ _ _ _ h).mono ?_; rintro e w' ⟨rfl, hb⟩) | fail)
        go_wp2
        go_ret
        exact ⟨hb, by rw [rwF, if_pos ⟨hlT.out, HGG.out⟩]; exact ⟨g, _, cap, rfl, h.stay hb⟩⟩
    · have hq : (y == (T : Int)) = false := by rw [beq_eq_false_iff_ne]; exact hyT
      have hlT : ¬ lastN fs = T := by omega
      replace hyT := Lib.hid hyT
      replace hy := Lib.hid hy
      replace hlT := Lib.hid hlT
      go_enter Try.func36, Try.ntmps36
      go_wp2
      go_ret
      exact ⟨Below.refl _ _, by rw [rwF, if_neg (fun q => hlT.out q.1)]; rfl⟩
  | succ d ih =>
    intro w base v fs hl h1 hlast h hbw
    obtain ⟨g, cap, hv⟩ := oi_nonnil h (by rw [il_length]; omega)
    rw [il_length] at hv
    subst hv
    obtain ⟨y, HY, iy, c2, _⟩ := h.atN (k := fs.length - 1) (il_length fs) (by omega)
    have hy : y = (lastN fs : Int) := by rw [HY.out, il_getD]; rfl
    rw [show ((fs.length - 1 : Nat) : Int) = (fs.length : Int) - 1 from by omega] at iy
    have e1 : IntKind.i64.wrap ((fs.length : Int) - 1) = (fs.length : Int) - 1 := IntWalk.i64_in _ (by omega)
    have hd : ((fs.length : Int) == (n : Int)) = false := by rw [beq_eq_false_iff_ne]; omega
    obtain ⟨f, ef⟩ : ∃ f, f = fun x => rwF G T d (fs ++ [x]) := ⟨_, rfl⟩
    have hR : rwF G T (d + 1) fs = seek f (T - lastN fs) (lastN fs + 1) := by rw [rwF, ef]
    obtain ⟨R, eR⟩ : ∃ R, R = rwF G T (d + 1) fs := ⟨_, rfl⟩
    rw [← eR] at hR ⊢
    clear eR
    obtain ⟨L, hL⟩ : ∃ L, L = lastN fs := ⟨_, rfl⟩
    rw [← hL] at hR hlast hy
    subst hy
    have e2 : IntKind.i64.wrap ((L : Int) + 1) = (L : Int) + 1 := IntWalk.i64_in _ (by omega)
    have ihf : Hid (∀ (x : Nat) (w : World) (v : Value), x ≤ 60 → OI w base v (il (fs ++ [x])) → base ≤ w.heap.size → Calls Try.prog 36 #[v, .int .i64 (n : Int), .int .i64 (T : Int), .func (.func 16) #[] #[]] w (RetRw w base (f x))) := fun x w v hx ho hb => by
      rw [ef]
      exact ih w base v (fs ++ [x]) (by rw [List.length_append]; simp; omega) (by rw [List.length_append]; simp) (by rw [lastN_app]; exact hx) ho hb
    have hnn := neqNil
    replace ef := Lib.hid ef
    replace hL := Lib.hid hL
    replace hR := Lib.hid hR
    clear ih
    go_enter Try.func36, Try.ntmps36
    go_wp2
    go_loopw [9, 10] (fun x _ wr => ∃ k : Nat, x = .int .i64 (k : Int) ∧ 1 ≤ k ∧ k ≤ 61 ∧ Hid (seek f (T + 1 - k) k = R) ∧ Below w.heap.size w wr) (fun x _ _ => (62 - intOf x).toNat)
    case atStart => exact ⟨L + 1, by simp, by omega, by omega, by rw [show T + 1 - (L + 1) = T - L from by omega]; exact hR.out.symm, Below.refl _ _⟩
    case round =>
      obtain ⟨wo, rfl⟩ : ∃ wo, wo = wr := ⟨_, rfl⟩
      obtain ⟨k, rfl, hk1, hk, HT, hb⟩ := hrel
      by_cases hlt : k ≤ T
      · have hdk : decide ((k : Int) ≤ (T : Int)) = true := decide_eq_true (by omega)
        have hcl : (il fs).length ≤ 1000000000 := by rw [il_length]; omega
        have hbs := hb.size
        have hap := il_app fs k
        have hm : T + 1 - k = (T - k) + 1 := by omega
        replace hm := Lib.hid hm
        replace hap := Lib.hid hap
        have hst := h.stay hb
        have hbb : base ≤ wo.heap.size := Nat.le_trans hbw hbs
        replace hst := Lib.hid hst
        cases hfk : f k with
        | none =>
          have hsk : seek f (T + 1 - (k + 1)) (k + 1) = R := by
            rw [← HT.out, hm.out, seek_none hfk, show T + 1 - (k + 1) = T - k from by omega]
          replace hsk := Lib.hid hsk
          replace hfk := Lib.hid hfk
          go_wp2_with (first
            | (go_at_call 41; refine (implCopy hst.out hcl).mono ?_; rintro e w1 ⟨v1, rfl, h1v, b1⟩; have hs1 := b1.size)
            | (at_builtin; refine app_int rfl (.tmp 41) (.tmp 43) rfl rfl h1v rfl hs1 (by rw [il_length]; omega) ?_; intro v2 w2 h2v hg2; rw [← hap.out] at h2v; have b2 : Below wo.heap.size wo w2 := b1.grown hg2 hs1 (fun j hj => (h1v.lt j hj).1); have hs2 := b2.size)
            | (go_at_call 36; refine (ihf.out k w2 v2 (by omega) (h2v.mono hbb) (Nat.le_trans hbb hs2)).mono ?_; rintro e w3 ⟨hb3, hr3⟩; rw [hfk.out] at hr3; obtain rfl : e = .returned (.slice none 0 0) := hr3)
            | fail)
          have hb4 : Below w.heap.size w w3 := hb.trans ((b2.mono hbs).trans (hb3.mono (Nat.le_trans hbs hs2)))
          clear h1v b1 hs1 hg2 h2v hs2 hb3
          go_wp2
          go_roundw
          case rel => exact ⟨k + 1, by go_num, by omega, by omega, hsk, hb4⟩
          case measure => simp only [intOf]; omega
        | some ys =>
          have hsk : R = some ys := by rw [← HT.out, hm.out, seek_some hfk]
          replace hsk := Lib.hid hsk
          replace hfk := Lib.hid hfk
          go_wp2_with (first
            | (go_at_call 41; refine (implCopy hst.out hcl).mono ?_; rintro e w1 ⟨v1, rfl, h1v, b1⟩; have hs1 := b1.size)
            | (at_builtin; refine app_int rfl (.tmp 41) (.tmp 43) rfl rfl h1v rfl hs1 (by rw [il_length]; omega) ?_; intro v2 w2 h2v hg2; rw [← hap.out] at h2v; have b2 : Below wo.heap.size wo w2 := b1.grown hg2 hs1 (fun j hj => (h1v.lt j hj).1); have hs2 := b2.size)
            | (go_at_call 36; refine (ihf.out k w2 v2 (by omega) (h2v.mono hbb) (Nat.le_trans hbb hs2)).mono ?_; rintro e w3 ⟨hb3, hr3⟩; rw [hfk.out] at hr3; obtain ⟨g3, n3, c3, rfl, ho3⟩ := hr3)
            | fail)
          have hb4 : Below w.heap.size w w3 := hb.trans ((b2.mono hbs).trans (hb3.mono (Nat.le_trans hbs hs2)))
          clear h1v b1 hs1 hg2 h2v hs2 hb3
          go_wp2
          go_ret
          exact ⟨hb4, by rw [hsk.out]; exact ⟨g3, n3, c3, rfl, ho3⟩⟩
      · have hdk : decide ((k : Int) ≤ (T : Int)) = false := decide_eq_false (by omega)
        have hz : R = none := by rw [← HT.out, show T + 1 - k = 0 from by omega, seek]
        replace hz := Lib.hid hz
        go_wp2
        go_ret
        exact ⟨hb, by rw [hz.out]; rfl⟩

set_option maxRecDepth 100000 in
set_option maxHeartbeats 4000000 in
theorem implRwM (G : List Nat → Bool) (HG : Good 18 G) (n T : Nat) (hn : n ≤ 8) (hT : T ≤ 60) : ∀ (d : Nat) (w : World) (base : Nat) (v : Value) (fs : List Nat),
    fs.length + d = n → 1 ≤ fs.length → lastN fs ≤ 60 → OI w base v (il fs) → base ≤ w.heap.size →
    Calls Try.prog 36 #[v, .int .i64 (n : Int), .int .i64 (T : Int), .func (.func 18) #[] #[]] w (RetRw w base (rwF G T d fs)) := by
  have HG := Lib.hid HG
  intro d
  induction d with
  | zero =>
    intro w base v fs hl h1 hlast h hbw
    obtain rfl : n = fs.length := by omega
    obtain ⟨g, cap, hv⟩ := oi_nonnil h (by rw [il_length]; omega)
    rw [il_length] at hv
    subst hv
    obtain ⟨y, HY, iy, c2, _⟩ := h.atN (k := fs.length - 1) (il_length fs) (by omega)
    have hy : y = (lastN fs : Int) := by rw [HY.out, il_getD]; rfl
    rw [show ((fs.length - 1 : Nat) : Int) = (fs.length : Int) - 1 from by omega] at iy
    have e1 : IntKind.i64.wrap ((fs.length : Int) - 1) = (fs.length : Int) - 1 := IntWalk.i64_in _ (by omega)
    by_cases hyT : y = (T : Int)
    · have hq : (y == (T : Int)) = true := by rw [beq_iff_eq]; exact hyT
      have hlT : lastN fs = T := by omega
      replace hyT := Lib.hid hyT
      replace hy := Lib.hid hy
      cases hG : G fs
      · have HGG := Lib.hid hG
        replace hlT := Lib.hid hlT
        go_enter Try.func36, Try.ntmps36
        go_wp2_with (first | (go_at_call 18; refine (HG.out _ _ _ _ h).mono ?_; rintro e w' ⟨rfl, hb⟩) | fail)
        go_wp2
        go_ret
        exact ⟨hb, by rw [rwF, if_neg (by rw [HGG.out]; simp)]; rfl⟩
      · have HGG := Lib.hid hG
        replace hlT := Lib.hid hlT
        go_enter Try.func36, Try.ntmps36
        go_wp2_with (first | (go_at_call 18; refine (HG.out _ _ _ _ h).mono ?_; rintro e w' ⟨rfl, hb⟩) | fail)
        go_wp2
        go_ret
        exact ⟨hb, by rw [rwF, if_pos ⟨hlT.out, HGG.out⟩]; exact ⟨g, _, cap, rfl, h.stay hb⟩⟩
    · have hq : (y == (T : Int)) = false := by rw [beq_eq_false_iff_ne]; exact hyT
      have hlT : ¬ lastN fs = T := by omega
      replace hyT := Lib.hid hyT
      replace hy := Lib.hid hy
      replace hlT := Lib.hid hlT
      go_enter Try.func36, Try.ntmps36
      go_wp2
      go_ret
      exact ⟨Below.refl _ _, by rw [rwF, if_neg (fun q => hlT.out q.1)]; rfl⟩
  | succ d ih =>
    intro w base v fs hl h1 hlast h hbw
    obtain ⟨g, cap, hv⟩ := oi_nonnil h (by rw [il_length]; omega)
    rw [il_length] at hv
    subst hv
    obtain ⟨y, HY, iy, c2, _⟩ := h.atN (k := fs.length - 1) (il_length fs) (by omega)
    have hy : y = (lastN fs : Int) := by rw [HY.out, il_getD]; rfl
    rw [show ((fs.length - 1 : Nat) : Int) = (fs.length : Int) - 1 from by omega] at iy
    have e1 : IntKind.i64.wrap ((fs.length : Int) - 1) = (fs.length : Int) - 1 := IntWalk.i64_in _ (by omega)
    have hd : ((fs.length : Int) == (n : Int)) = false := by rw [beq_eq_false_iff_ne]; omega
    obtain ⟨f, ef⟩ : ∃ f, f = fun x => rwF G T d (fs ++ [x]) := ⟨_, rfl⟩
    have hR : rwF G T (d + 1) fs = seek f (T - lastN fs) (lastN fs + 1) := by rw [rwF, ef]
    obtain ⟨R, eR⟩ : ∃ R, R = rwF G T (d + 1) fs := ⟨_, rfl⟩
    rw [← eR] at hR ⊢
    clear eR
    obtain ⟨L, hL⟩ : ∃ L, L = lastN fs := ⟨_, rfl⟩
    rw [← hL] at hR hlast hy
    subst hy
    have e2 : IntKind.i64.wrap ((L : Int) + 1) = (L : Int) + 1 := IntWalk.i64_in _ (by omega)
    have ihf : Hid (∀ (x : Nat) (w : World) (v : Value), x ≤ 60 → OI w base v (il (fs ++ [x])) → base ≤ w.heap.size → Calls Try.prog 36 #[v, .int .i64 (n : Int), .int .i64 (T : Int), .func (.func 18) #[] #[]] w (RetRw w base (f x))) := fun x w v hx ho hb => by
      rw [ef]
      exact ih w base v (fs ++ [x]) (by rw [List.length_append]; simp; omega) (by rw [List.length_append]; simp) (by rw [lastN_app]; exact hx) ho hb
    have hnn := neqNil
    replace ef := Lib.hid ef
    replace hL := Lib.hid hL
    replace hR := Lib.hid hR
    clear ih
    go_enter Try.func36, Try.ntmps36
    go_wp2
    go_loopw [9, 10] (fun x _ wr => ∃ k : Nat, x = .int .i64 (k : Int) ∧ 1 ≤ k ∧ k ≤ 61 ∧ Hid (seek f (T + 1 - k) k = R) ∧ Below w.heap.size w wr) (fun x _ _ => (62 - intOf x).toNat)
    case atStart => exact ⟨L + 1, by simp, by omega, by omega, by rw [show T + 1 - (L + 1) = T - L from by omega]; exact hR.out.symm, Below.refl _ _⟩
    case round =>
      obtain ⟨wo, rfl⟩ : ∃ wo, wo = wr := ⟨_, rfl⟩
      obtain ⟨k, rfl, hk1, hk, HT, hb⟩ := hrel
      by_cases hlt : k ≤ T
      · have hdk : decide ((k : Int) ≤ (T : Int)) = true := decide_eq_true (by omega)
        have hcl : (il fs).length ≤ 1000000000 := by rw [il_length]; omega
        have hbs := hb.size
        have hap := il_app fs k
        have hm : T + 1 - k = (T - k) + 1 := by omega
        replace hm := Lib.hid hm
        replace hap := Lib.hid hap
        have hst := h.stay hb
        have hbb : base ≤ wo.heap.size := Nat.le_trans hbw hbs
        replace hst := Lib.hid hst
        cases hfk : f k with
        | none =>
          have hsk : seek f (T + 1 - (k + 1)) (k + 1) = R := by
            rw [← HT.out, hm.out, seek_none hfk, show T + 1 - (k + 1) = T - k from by omega]
          replace hsk := Lib.hid hsk
          replace hfk := Lib.hid hfk
          go_wp2_with (first
            | (go_at_call 41; refine (implCopy hst.out hcl).mono ?_; rintro e w1 ⟨v1, rfl, h1v, b1⟩; have hs1 := b1.size)
            | (at_builtin; refine app_int rfl (.tmp 41) (.tmp 43) rfl rfl h1v rfl hs1 (by rw [il_length]; omega) ?_; intro v2 w2 h2v hg2; rw [← hap.out] at h2v; have b2 : Below wo.heap.size wo w2 := b1.grown hg2 hs1 (fun j hj => (h1v.lt j hj).1); have hs2 := b2.size)
            | (go_at_call 36; refine (ihf.out k w2 v2 (by omega) (h2v.mono hbb) (Nat.le_trans hbb hs2)).mono ?_; rintro e w3 ⟨hb3, hr3⟩; rw [hfk.out] at hr3; obtain rfl : e = .returned (.slice none 0 0) := hr3)
            | fail)
          have hb4 : Below w.heap.size w w3 := hb.trans ((b2.mono hbs).trans (hb3.mono (Nat.le_trans hbs hs2)))
          clear h1v b1 hs1 hg2 h2v hs2 hb3
          go_wp2
          go_roundw
          case rel => exact ⟨k + 1, by go_num, by omega, by omega, hsk, hb4⟩
          case measure => simp only [intOf]; omega
        | some ys =>
          have hsk : R = some ys := by rw [← HT.out, hm.out, seek_some hfk]
          replace hsk := Lib.hid hsk
          replace hfk := Lib.hid hfk
          go_wp2_with (first
            | (go_at_call 41; refine (implCopy hst.out hcl).mono ?_; rintro e w1 ⟨v1, rfl, h1v, b1⟩; have hs1 := b1.size)
            | (at_builtin; refine app_int rfl (.tmp 41) (.tmp 43) rfl rfl h1v rfl hs1 (by rw [il_length]; omega) ?_; intro v2 w2 h2v hg2; rw [← hap.out] at h2v; have b2 : Below wo.heap.size wo w2 := b1.grown hg2 hs1 (fun j hj => (h1v.lt j hj).1); have hs2 := b2.size)
            | (go_at_call 36; refine (ihf.out k w2 v2 (by omega) (h2v.mono hbb) (Nat.le_trans hbb hs2)).mono ?_; rintro e w3 ⟨hb3, hr3⟩; rw [hfk.out] at hr3; obtain ⟨g3, n3, c3, rfl, ho3⟩ := hr3)
            | fail)
          have hb4 : Below w.heap.size w w3 := hb.trans ((b2.mono hbs).trans (hb3.mono (Nat.le_trans hbs hs2)))
          clear h1v b1 hs1 hg2 h2v hs2 hb3
          go_wp2
          go_ret
          exact ⟨hb4, by rw [hsk.out]; exact ⟨g3, n3, c3, rfl, ho3⟩⟩
      · have hdk : decide ((k : Int) ≤ (T : Int)) = false := decide_eq_false (by omega)
        have hz : R = none := by rw [← HT.out, show T + 1 - k = 0 from by omega, seek]
        replace hz := Lib.hid hz
        go_wp2
        go_ret
        exact ⟨hb, by rw [hz.out]; rfl⟩

end Go.Proofs.Ytemeechmemhokaa
