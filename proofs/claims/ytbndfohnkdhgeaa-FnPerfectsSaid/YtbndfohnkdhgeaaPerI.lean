/- Contract of impl.perfectFrom. -/
import Derived.Test.YtbndfohnkdhgeaaFacs
import Derived.Test.YtbndfohnkdhgeaaPl
namespace Go.Proofs.Ytbndfohnkdhgeaa
open Go.RowKit

/-- A list that begins a sum of at most 24: short, of small numbers. -/
structure Beg (fs : List Int) (n : Nat) : Prop where
  len : fs.length + n ≤ 24
  each : ∀ x ∈ fs, 1 ≤ x ∧ x ≤ 24
theorem Beg.val {fs : List Int} {n : Nat} (h : Beg fs n) : Val fs := ⟨by have := h.len; omega, fun x hx => by have := h.each x hx; omega⟩
theorem Beg.snoc {fs : List Int} {n X : Nat} (h : Beg fs n) (h1 : 1 ≤ X) (h2 : X ≤ n) : Beg (fs ++ [(X : Int)]) (n - X) where
  len := by have := h.len; rw [List.length_append]; simp; omega
  each x hx := by
    rcases List.mem_append.1 hx with q | q
    · exact h.each x q
    · have := h.len
      rw [List.mem_singleton.1 q]; omega
theorem Beg.last {fs : List Int} {n : Nat} (h : Beg fs n) : 1 ≤ lastN fs ∧ lastN fs ≤ 24 := by
  unfold lastN
  by_cases e : fs.length = 0
  · rw [if_pos e]; omega
  · rw [if_neg e]
    have := h.each _ (mem_getD (xs := fs) (k := fs.length - 1) (by omega) rfl)
    omega

theorem grown_of_below {w w' : World} (b : Below w.heap.size w w') (r : Option Nat) : w.grownBy w' r := ⟨b.os, b.tape, b.output, b.size, fun k hk _ => b.block k hk⟩
theorem Loc.later {a b : World} {v u : Value} (h : Loc b v u) (hs : a.heap.size ≤ b.heap.size) : Loc a v u := by
  rcases h with h | ⟨g, h, hg⟩
  · exact .inl h
  · exact .inr ⟨g, h, by omega⟩

set_option maxRecDepth 100000 in
set_option maxHeartbeats 4000000 in
theorem implPer (f : Nat) : ∀ (rest : Nat) (w : World) (base m : Nat) (out front : Value) (xss : List (List Int)) (fs : List Int), rest < f → Beg fs rest → OSS w base m out xss → OI w m front fs → base ≤ m → m ≤ w.heap.size → xss.length + (perI f fs rest).length ≤ 1000000 →
    Calls Try.prog 60 #[front, .int .i64 (rest : Int), out] w (RetF2 w base out (xss ++ perI f fs rest)) := by
  induction f with
  | zero => intro rest w base m out front xss fs h1; omega
  | succ f ih =>
    intro rest w base m out front xss fs hf hB hO hF hbm hmw hM
    by_cases hr : rest = 0
    · subst hr
      rw [perI, if_pos rfl] at hM ⊢
      have hx9 : xss.length ≤ 1000000000 := by omega
      have hpq := perfQ_eq hB.val
      have HP := Lib.hid (implPerf hF hB.val)
      obtain ⟨fad, fcap, rfl, _⟩ := hF.shape
      rw [show ((0 : Nat) : Int) = 0 from rfl]
      cases hp : perfQ fs
      · rw [if_neg Bool.false_ne_true, List.append_nil]
        rw [hp] at hpq
        go_enter Try.func60, Try.ntmps60
        go_wp2_with fail
        refine HP.out.mono ?_
        rintro e w1 ⟨rfl, b1⟩
        rw [hpq]
        go_wp2
        go_ret
        exact ⟨_, rfl, (hO.stay b1).mono (Nat.le_trans hmw b1.size), grown_of_below b1 _, .inl rfl⟩
      · rw [if_pos rfl]
        rw [hp] at hpq
        go_enter Try.func60, Try.ntmps60
        go_wp2_with fail
        refine HP.out.mono ?_
        rintro e w1 ⟨rfl, b1⟩
        rw [hpq]
        have hO1 := hO.stay b1
        have hF1 := hF.stay b1
        have hm1 := Nat.le_trans hmw b1.size
        go_wp2_with (first | (at_builtin; refine app_ss rfl (.tmp 13) (.tmp 15) rfl rfl hO1 hF1 rfl hbm hm1 hx9 ?_; intro v' w' h2 hg hl) | fail)
        go_wp2
        go_ret
        exact ⟨v', rfl, h2, (grown_of_below b1 _).trans hg, Loc.later hl b1.size⟩
    · have hd : ((rest : Int) == 0) = false := by rw [beq_eq_false_iff_ne]; omega
      rw [perI, if_neg hr] at hM ⊢
      obtain ⟨g, eg⟩ : ∃ g, g = (fun (x : Nat) => perI f (fs ++ [(x : Int)]) (rest - x)) := ⟨_, rfl⟩
      rw [← eg] at hM ⊢
      replace eg := Lib.hid eg
      have hst : OSS w base w.heap.size out xss := hO.mono hmw
      have hapf : Apart out front := apart_lt hF hO.lt
      have hla := hB.last
      have h24 := hB.len
      have hfl2 : fs.length ≤ 1000000000 := by omega
      obtain ⟨fad, fcap, rfl, _⟩ := hF.shape
      by_cases hz : fs.length = 0
      · obtain rfl : fs = [] := List.length_eq_zero_iff.1 hz
        rw [show lastN [] = 1 from rfl] at hla hM ⊢
        simp only [List.length_nil] at hF hapf hfl2 ⊢
        clear hz
        go_enter Try.func60, Try.ntmps60
        go_wp2
        go_loopw [2, 8] (fun o x wr => ∃ X : Nat, 1 ≤ X ∧ (X ≤ rest + 1 ∨ X = 1) ∧ x = .int .i64 (X : Int) ∧ OSS wr base wr.heap.size o (xss ++ upL g 1 (X - 1)) ∧ OI wr m (.slice fad 0 fcap) [] ∧ Apart o (.slice fad 0 fcap) ∧ w.grownBy wr out.ownBlock ∧ Loc w out o) (fun _ x _ => rest + 1 - (intOf x).toNat)
        case atStart => exact ⟨1, Nat.le_refl _, .inr rfl, rfl, by rw [Nat.sub_self, show upL g 1 0 = [] from rfl, List.append_nil]; exact hst, hF, hapf, World.grownBy.refl _ _, .inl rfl⟩
        case round =>
          clear hst hapf
          obtain ⟨wo, rfl⟩ : ∃ wo, wo = wr := ⟨_, rfl⟩
          obtain ⟨X, hX2, hX, rfl, ho, hfr, hap, hg, hl⟩ := hrel
          by_cases hlt : X ≤ rest
          · have hdl : decide ((X : Int) ≤ (rest : Int)) = true := decide_eq_true (by omega)
            have hdl2 : decide (X ≤ rest) = true := decide_eq_true hlt
            have hlast : upL g 1 (X + 1 - 1) = upL g 1 (X - 1) ++ g X := by
              rw [show X + 1 - 1 = (X - 1) + 1 from by omega, upL, show 1 + (X - 1) = X from by omega]
            have hgX : g X = perI f (([] : List Int) ++ [(X : Int)]) (rest - X) := by rw [eg.out]
            obtain ⟨Y, hY⟩ : ∃ Y, Y = rest - X := ⟨_, rfl⟩
            rw [← hY] at hgX
            have hB2 := hB.snoc (X := X) (by omega) hlt
            rw [← hY] at hB2
            obtain ⟨xi, hxi⟩ : ∃ z : Int, z = (X : Int) := ⟨_, rfl⟩
            have e1 : IntKind.i64.wrap ((rest : Int) - xi) = (Y : Int) := by rw [show (rest : Int) - xi = (Y : Int) from by omega]; exact IntWalk.i64_in _ (by omega)
            rw [← hxi] at hgX hdl hB2 ⊢
            have hxb : 1 ≤ xi ∧ xi ≤ 100 := by omega
            have e5 : IntKind.i64.wrap (xi + 1) = xi + 1 := IntWalk.i64_in _ (by omega)
            have hmono := upL_mono g 1 (X + 1 - 1) (rest + 1 - 1 - (X + 1 - 1))
            rw [show X + 1 - 1 + (rest + 1 - 1 - (X + 1 - 1)) = rest + 1 - 1 from by omega, hlast, List.length_append, hgX] at hmono
            rw [hgX] at hlast
            have hih := fun (wa : World) (va : Value) (k1 : OSS wa base wo.heap.size u2 (xss ++ upL g 1 (X - 1))) (k2 : OI wa wo.heap.size va (([] : List Int) ++ [xi])) (k3 : wo.heap.size ≤ wa.heap.size) =>
              ih Y wa base wo.heap.size u2 va (xss ++ upL g 1 (X - 1)) (([] : List Int) ++ [xi]) (by omega) hB2 k1 k2 (Nat.le_trans hbm (Nat.le_trans hmw hg.size)) k3 (by rw [List.length_append]; omega)
            have hfl2 : ([] : List Int).length ≤ 1000000000 := by simp
            have hih := Lib.hid hih
            replace hlast := Lib.hid hlast
            replace hY := Lib.hid hY
            replace hxi := Lib.hid hxi
            clear hmono hM hgX
            go_wp2_with fail
            refine (implCopy hfr hfl2).mono ?_
            rintro e wc ⟨vc, rfl, hc, bc⟩
            go_wp2_with (first | (at_builtin; refine app_int_at rfl (.tmp 34) (.tmp 36) rfl rfl hc rfl bc.size (by omega) ?_; intro va wa ha hga hla) | fail)
            have bW2 : Below wo.heap.size wo wa := bc.grown hga bc.size (fun j hj => (hc.lt j hj).1)
            go_wp2_with fail
            refine (hih.out wa va (ho.stay bW2) ha bW2.size).mono ?_
            rintro e wz ⟨v2, rfl, hO2, hg2, hl2⟩
            have hfz := (hfr.stay bW2).keptBy hap.symm hg2
            have hapz := hap.app hl2 (hfr.stay bW2)
            have hgz := grow_chain hg bW2 hg2 hl
            have hlz := hl.chain hl2 (Nat.le_trans hg.size bW2.size)
            rw [List.append_assoc, ← hlast.out] at hO2
            clear hc bc ha hga hla bW2 hg2 hl2 hfr hap hg hl ho
            go_wp2
            go_roundw
            case rel => exact ⟨X + 1, by omega, .inl (by omega), by rw [hxi.out]; go_num, hO2, hfz, hapz, hgz, hlz⟩
            case measure => simp only [intOf]; have := hxi.out; omega
          · have hdl : decide ((X : Int) ≤ (rest : Int)) = false := decide_eq_false (by omega)
            have hdl2 : decide (X ≤ rest) = false := decide_eq_false hlt
            rw [show X - 1 = rest + 1 - 1 from by omega] at ho
            go_wp2
            go_ret
            exact ⟨_, rfl, ho, hg, hl⟩

      · obtain ⟨y, HY, iy, cy⟩ := hF.atLast (by omega)
        obtain ⟨a, ea⟩ : ∃ a, a = lastN fs := ⟨_, rfl⟩
        rw [← ea] at hla hM ⊢
        obtain rfl : y = (a : Int) := by
          have h1 := hB.each y (mem_getD (k := fs.length - 1) (by omega) HY.out)
          rw [ea, lastN, if_neg hz, ← HY.out]; omega
        have hdz : decide ((0 : Int) < (fs.length : Int)) = true := decide_eq_true (by omega)
        have hdz2 : decide (0 < fs.length) = true := decide_eq_true (by omega)
        replace ea := Lib.hid ea
        clear hz
        go_enter Try.func60, Try.ntmps60
        go_wp2
        go_loopw [2, 8] (fun o x wr => ∃ X : Nat, a ≤ X ∧ (X ≤ rest + 1 ∨ X = a) ∧ x = .int .i64 (X : Int) ∧ OSS wr base wr.heap.size o (xss ++ upL g a (X - a)) ∧ OI wr m (.slice fad fs.length fcap) fs ∧ Apart o (.slice fad fs.length fcap) ∧ w.grownBy wr out.ownBlock ∧ Loc w out o) (fun _ x _ => rest + 1 - (intOf x).toNat)
        case atStart => exact ⟨a, Nat.le_refl _, .inr rfl, rfl, by rw [Nat.sub_self, show upL g a 0 = [] from rfl, List.append_nil]; exact hst, hF, hapf, World.grownBy.refl _ _, .inl rfl⟩
        case round =>
          clear hst hapf
          obtain ⟨wo, rfl⟩ : ∃ wo, wo = wr := ⟨_, rfl⟩
          obtain ⟨X, hX2, hX, rfl, ho, hfr, hap, hg, hl⟩ := hrel
          by_cases hlt : X ≤ rest
          · have hdl : decide ((X : Int) ≤ (rest : Int)) = true := decide_eq_true (by omega)
            have hdl2 : decide (X ≤ rest) = true := decide_eq_true hlt
            have hlast : upL g a (X + 1 - a) = upL g a (X - a) ++ g X := by
              rw [show X + 1 - a = (X - a) + 1 from by omega, upL, show a + (X - a) = X from by omega]
            have hgX : g X = perI f (fs ++ [(X : Int)]) (rest - X) := by rw [eg.out]
            obtain ⟨Y, hY⟩ : ∃ Y, Y = rest - X := ⟨_, rfl⟩
            rw [← hY] at hgX
            have hB2 := hB.snoc (X := X) (by omega) hlt
            rw [← hY] at hB2
            obtain ⟨xi, hxi⟩ : ∃ z : Int, z = (X : Int) := ⟨_, rfl⟩
            have e1 : IntKind.i64.wrap ((rest : Int) - xi) = (Y : Int) := by rw [show (rest : Int) - xi = (Y : Int) from by omega]; exact IntWalk.i64_in _ (by omega)
            rw [← hxi] at hgX hdl hB2 ⊢
            have hxb : 1 ≤ xi ∧ xi ≤ 100 := by omega
            have e5 : IntKind.i64.wrap (xi + 1) = xi + 1 := IntWalk.i64_in _ (by omega)
            have hmono := upL_mono g a (X + 1 - a) (rest + 1 - a - (X + 1 - a))
            rw [show X + 1 - a + (rest + 1 - a - (X + 1 - a)) = rest + 1 - a from by omega, hlast, List.length_append, hgX] at hmono
            rw [hgX] at hlast
            have hih := fun (wa : World) (va : Value) (k1 : OSS wa base wo.heap.size u2 (xss ++ upL g a (X - a))) (k2 : OI wa wo.heap.size va (fs ++ [xi])) (k3 : wo.heap.size ≤ wa.heap.size) =>
              ih Y wa base wo.heap.size u2 va (xss ++ upL g a (X - a)) (fs ++ [xi]) (by omega) hB2 k1 k2 (Nat.le_trans hbm (Nat.le_trans hmw hg.size)) k3 (by rw [List.length_append]; omega)
            have hfl2 : fs.length ≤ 1000000000 := by omega
            have hih := Lib.hid hih
            replace hlast := Lib.hid hlast
            replace hY := Lib.hid hY
            replace hxi := Lib.hid hxi
            clear hmono hM hgX
            go_wp2_with fail
            refine (implCopy hfr hfl2).mono ?_
            rintro e wc ⟨vc, rfl, hc, bc⟩
            go_wp2_with (first | (at_builtin; refine app_int_at rfl (.tmp 34) (.tmp 36) rfl rfl hc rfl bc.size (by omega) ?_; intro va wa ha hga hla) | fail)
            have bW2 : Below wo.heap.size wo wa := bc.grown hga bc.size (fun j hj => (hc.lt j hj).1)
            go_wp2_with fail
            refine (hih.out wa va (ho.stay bW2) ha bW2.size).mono ?_
            rintro e wz ⟨v2, rfl, hO2, hg2, hl2⟩
            have hfz := (hfr.stay bW2).keptBy hap.symm hg2
            have hapz := hap.app hl2 (hfr.stay bW2)
            have hgz := grow_chain hg bW2 hg2 hl
            have hlz := hl.chain hl2 (Nat.le_trans hg.size bW2.size)
            rw [List.append_assoc, ← hlast.out] at hO2
            clear hc bc ha hga hla bW2 hg2 hl2 hfr hap hg hl ho
            go_wp2
            go_roundw
            case rel => exact ⟨X + 1, by omega, .inl (by omega), by rw [hxi.out]; go_num, hO2, hfz, hapz, hgz, hlz⟩
            case measure => simp only [intOf]; have := hxi.out; omega
          · have hdl : decide ((X : Int) ≤ (rest : Int)) = false := decide_eq_false (by omega)
            have hdl2 : decide (X ≤ rest) = false := decide_eq_false hlt
            rw [show X - a = rest + 1 - a from by omega] at ho
            go_wp2
            go_ret
            exact ⟨_, rfl, ho, hg, hl⟩

end Go.Proofs.Ytbndfohnkdhgeaa
