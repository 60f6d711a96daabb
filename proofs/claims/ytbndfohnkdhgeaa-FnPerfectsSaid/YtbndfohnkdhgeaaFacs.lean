/- The ordered products, as plain Lean; contract of impl.factorsFrom. -/
import Derived.Test.YtbndfohnkdhgeaaSSA
import Derived.Deep.RegionHeld3
namespace Go.Proofs.Ytbndfohnkdhgeaa
open Go.RowKit

/-- g 2 ++ g 3 ++ .. (j of them). -/
def loopF (g : Nat → List (List Int)) : Nat → List (List Int)
  | 0 => []
  | j + 1 => loopF g j ++ g (j + 2)
theorem loopF_mono (g : Nat → List (List Int)) (j : Nat) : ∀ d, (loopF g j).length ≤ (loopF g (j + d)).length
  | 0 => Nat.le_refl _
  | d + 1 => by have := loopF_mono g j d; rw [← Nat.add_assoc, loopF, List.length_append]; omega
def fcts : Nat → List Int → Nat → List (List Int)
  | 0, _, _ => []
  | f + 1, fs, rest => if rest = 1 then [fs] else loopF (fun x => if rest % x = 0 then fcts f (fs ++ [(x : Int)]) (rest / x) else []) (rest - 1)

def RetF2 (W : World) (base : Nat) (v0 : Value) (xss : List (List Int)) (e : Ending) (w' : World) : Prop := ∃ v', e = .returned v' ∧ OSS w' base w'.heap.size v' xss ∧ W.grownBy w' v0.ownBlock ∧ Loc W v0 v'

theorem grow_chain {a b c d : World} {v u : Value} (h : a.grownBy b v.ownBlock) (k : Below b.heap.size b c) (l : c.grownBy d u.ownBlock) (hl : Loc a v u) : a.grownBy d v.ownBlock :=
  ⟨l.os.trans (k.os.trans h.os), l.tape.trans (k.tape.trans h.tape), l.output.trans (k.output.trans h.output), Nat.le_trans h.size (Nat.le_trans k.size l.size), fun i hi hne => by
    have h1 := h.size
    have h2 := k.size
    rw [l.block i (by omega) (fun e => by
      rcases hl with hl | ⟨g, hl, hg⟩
      · exact hne (e.trans hl)
      · have := Option.some.inj (e.trans hl); omega), k.block i (by omega)]
    exact h.block i hi hne⟩
theorem Loc.chain {a c : World} {v u z : Value} (hl : Loc a v u) (k : Loc c u z) (hs : a.heap.size ≤ c.heap.size) : Loc a v z := by
  rcases k with k | ⟨g, k, hg⟩
  · rcases hl with hl | ⟨g, hl, hg⟩
    · exact .inl (k.trans hl)
    · exact .inr ⟨g, k.trans hl, hg⟩
  · exact .inr ⟨g, k, by omega⟩
theorem OSS.stay {w w' : World} {base m : Nat} {v : Value} {xss : List (List Int)} (h : OSS w base m v xss) (hb : Below w.heap.size w w') : OSS w' base m v xss := by
  obtain ⟨vs, h⟩ := h
  exact ⟨vs, h.stay hb⟩
theorem OSS.lt {w : World} {base m : Nat} {v : Value} {xss : List (List Int)} (h : OSS w base m v xss) : ∀ g, v.ownBlock = some g → g < m := by
  obtain ⟨vs, h⟩ := h
  exact h.lt
theorem OSS.mono {w : World} {base m m' : Nat} {v : Value} {xss : List (List Int)} (h : OSS w base m v xss) (hm : m ≤ m') : OSS w base m' v xss := by
  obtain ⟨vs, h⟩ := h
  exact ⟨vs, h.mono hm⟩

set_option maxRecDepth 100000 in
set_option maxHeartbeats 4000000 in
theorem implFacs (f : Nat) : ∀ (rest : Nat) (w : World) (base m : Nat) (out front : Value) (xss : List (List Int)) (fs : List Int), rest ≤ f → 1 ≤ rest → rest ≤ 100 → OSS w base m out xss → OI w m front fs → base ≤ m → m ≤ w.heap.size → fs.length + rest ≤ 1000 → xss.length + (fcts f fs rest).length ≤ 1000000 →
    Calls Try.prog 64 #[front, .int .i64 (rest : Int), out] w (RetF2 w base out (xss ++ fcts f fs rest)) := by
  induction f with
  | zero => intro rest w base m out front xss fs h1 h2; omega
  | succ f ih =>
    intro rest w base m out front xss fs hf h1 h100 hO hF hbm hmw hfl hM
    by_cases hr : rest = 1
    · subst hr
      rw [fcts, if_pos rfl] at hM ⊢
      have hx9 : xss.length ≤ 1000000000 := by omega
      obtain ⟨fad, fcap, rfl, _⟩ := hF.shape
      go_enter Try.func64, Try.ntmps64
      go_wp2_with (first | (at_builtin; refine app_ss rfl (.tmp 10) (.tmp 12) rfl rfl hO hF rfl hbm hmw hx9 ?_; intro v' w' h2 hg hl) | fail)
      go_wp2
      go_ret
      exact ⟨v', rfl, h2, hg, hl⟩
    · have hd : ((rest : Int) == 1) = false := by rw [beq_eq_false_iff_ne]; omega
      rw [fcts, if_neg hr] at hM ⊢
      obtain ⟨g, eg⟩ : ∃ g, g = (fun x => if rest % x = 0 then fcts f (fs ++ [(x : Int)]) (rest / x) else []) := ⟨_, rfl⟩
      rw [← eg] at hM ⊢
      replace eg := Lib.hid eg
      have hst : OSS w base w.heap.size out xss := hO.mono hmw
      have hapf : Apart out front := apart_lt hF hO.lt
      go_enter Try.func64, Try.ntmps64
      go_wp2
      go_loopw [2, 7] (fun o x wr => ∃ X : Nat, 2 ≤ X ∧ X ≤ rest + 1 ∧ x = .int .i64 (X : Int) ∧ OSS wr base wr.heap.size o (xss ++ loopF g (X - 2)) ∧ OI wr m front fs ∧ Apart o front ∧ w.grownBy wr out.ownBlock ∧ Loc w out o) (fun _ x _ => rest + 1 - (intOf x).toNat)
      case atStart => exact ⟨2, by omega, by omega, rfl, by rw [show loopF g (2 - 2) = [] from rfl, List.append_nil]; exact hst, hF, hapf, World.grownBy.refl _ _, .inl rfl⟩
      case round =>
        clear hst hapf
        obtain ⟨wo, rfl⟩ : ∃ wo, wo = wr := ⟨_, rfl⟩
        obtain ⟨X, hX2, hX, rfl, ho, hfr, hap, hg, hl⟩ := hrel
        by_cases hlt : X ≤ rest
        · have hdl : decide ((X : Int) ≤ (rest : Int)) = true := decide_eq_true (by omega)
          have hdl2 : decide (X ≤ rest) = true := decide_eq_true hlt
          obtain ⟨Z, hZ⟩ : ∃ Z, Z = rest % X := ⟨_, rfl⟩
          have hm1 : (rest : Int) % (X : Int) = (Z : Int) := by rw [hZ]; exact (Int.natCast_emod _ _).symm
          have hm2 : (rest : Int).tmod (X : Int) = (Z : Int) := by rw [Int.tmod_eq_emod_of_nonneg (by omega)]; exact hm1
          have hlast : loopF g (X + 1 - 2) = loopF g (X - 2) ++ g X := by
            obtain ⟨j, rfl⟩ : ∃ j, X = j + 2 := ⟨X - 2, by omega⟩
            rfl
          have hX0 : ((X : Int) == 0) = false := by rw [beq_eq_false_iff_ne]; omega
          by_cases hz : Z = 0
          · have hz2 : ((Z : Int) == 0) = true := by rw [beq_iff_eq]; omega
            have hgX : g X = fcts f (fs ++ [(X : Int)]) (rest / X) := by rw [eg.out]; exact if_pos (by omega)
            obtain ⟨Y, hY⟩ : ∃ Y, Y = rest / X := ⟨_, rfl⟩
            have hY1 : (rest : Int) / (X : Int) = (Y : Int) := by rw [hY]; exact (Int.natCast_ediv _ _).symm
            have hY2 : (rest : Int).tdiv (X : Int) = (Y : Int) := by rw [Int.tdiv_eq_ediv_of_nonneg (by omega)]; exact hY1
            have hYlt : Y < rest := by rw [hY]; exact Nat.div_lt_self (by omega) (by omega)
            have hYpos : 1 ≤ Y := by rw [hY]; exact Nat.div_pos hlt (by omega)
            have e1 : IntKind.i64.wrap (Y : Int) = (Y : Int) := IntWalk.i64_in _ (by omega)
            rw [← hY] at hgX
            obtain ⟨xi, hxi⟩ : ∃ z : Int, z = (X : Int) := ⟨_, rfl⟩
            rw [← hxi] at hgX hY1 hY2 hX0 hdl hm1 hm2 ⊢
            have hxb : 2 ≤ xi ∧ xi ≤ 100 := by omega
            have e5 : IntKind.i64.wrap (xi + 1) = xi + 1 := IntWalk.i64_in _ (by omega)
            have hmono := loopF_mono g (X + 1 - 2) (rest - 1 - (X + 1 - 2))
            rw [show X + 1 - 2 + (rest - 1 - (X + 1 - 2)) = rest - 1 from by omega, hlast, List.length_append, hgX] at hmono
            rw [hgX] at hlast
            have hih := fun (wa : World) (va : Value) (k1 : OSS wa base wo.heap.size u2 (xss ++ loopF g (X - 2))) (k2 : OI wa wo.heap.size va (fs ++ [xi])) (k3 : wo.heap.size ≤ wa.heap.size) =>
              ih Y wa base wo.heap.size u2 va (xss ++ loopF g (X - 2)) (fs ++ [xi]) (by omega) hYpos (by omega) k1 k2 (Nat.le_trans hbm (Nat.le_trans hmw hg.size)) k3 (by rw [List.length_append]; simp; omega) (by rw [List.length_append]; omega)
            have hA : OI wo.drew m front fs := hfr
            have hB : OI (wo.alloc (.cells #[.int .i64 xi] 3)).drew m front fs := hfr.stay (w' := (wo.alloc (.cells #[.int .i64 xi] 3)).drew) (bAl (Below.refl _ _) _).drew
            have hR : OI (wo.alloc (.cells #[.int .i64 xi] 3)).drew wo.heap.size (.slice (some ⟨wo.heap.size, 0, none⟩) 1 1) [xi] := oi_row wo [xi] 1 rfl (by decide)
            have hE : Below wo.heap.size wo (wo.alloc (.cells #[.int .i64 xi] 3)).drew := (bAl (Below.refl _ _) _).drew
            have hX1 : ¬ xi = 0 := by omega
            have hD : Below wo.heap.size wo wo.drew := (Below.refl _ _).drew
            have hfl2 : fs.length ≤ 1000000000 := by omega
            have hih := Lib.hid hih
            replace hlast := Lib.hid hlast
            replace hY := Lib.hid hY
            replace hxi := Lib.hid hxi
            clear hmono hM hgX hZ
            go_wp2
            go_region_held3 (fun w' => True) (trivial)
              ((first
                | (go_at_call 68; refine (implCopy (base := m) (xs := fs) (by first | with_reducible exact hA | with_reducible exact hB) hfl2).mono ?_; rintro e wc ⟨vc, rfl, hc, bc⟩; have bW : Below wo.heap.size wo wc := (by first | exact bThen hD bc | exact bThen hE bc); have hc2 : OI wc wo.heap.size vc fs := hc.mono (by first | exact Nat.le_refl _ | simp))
                | (refine step_apps (.tmp 24) (.tmp 26) (by rfl) (v := vc) (vy := .slice (some ⟨wc.heap.size, 0, none⟩) 1 1) (g := wc.heap.size) (c := 1) (xs := fs) (ys := [xi]) (by rfl) (hc2.stay (bAl (Below.refl _ _) _)) (by rfl) (oi_row wc [xi] 1 rfl (by decide)) rfl (bAl bW _).size hfl2 (by simp) ?_; intro va wa ha hga hla _; have bW2 : Below wo.heap.size wo wa := (bAl bW _).grown hga (bAl bW _).size (fun j hj => (hc2.lt j hj).1))
                | (refine step_apps (.tmp 24) (.tmp 26) (by rfl) (v := vc) (vy := .slice (some ⟨wo.heap.size, 0, none⟩) 1 1) (g := wo.heap.size) (c := 1) (xs := fs) (ys := [xi]) (by rfl) hc2 (by rfl) (hR.stay bc) rfl bW.size hfl2 (by simp) ?_; intro va wa ha hga hla _; have bW2 : Below wo.heap.size wo wa := bW.grown hga bW.size (fun j hj => (hc2.lt j hj).1))
                | (go_at_call 64; refine (hih.out wa va (ho.stay bW2) ha bW2.size).mono ?_; rintro e wz ⟨v2, rfl, hO2, hg2, hl2⟩)
                | fail))
            all_goals
              have hfz := (hfr.stay bW2).keptBy hap.symm hg2
              have hapz := hap.app hl2 (hfr.stay bW2)
              have hgz := grow_chain hg bW2 hg2 hl
              have hlz := hl.chain hl2 (Nat.le_trans hg.size bW2.size)
              rw [List.append_assoc, ← hlast.out] at hO2
              clear hc hc2 bc bW ha hga hla bW2 hg2 hl2 hfr hap hg hl ho hA hB hR hE hD
              go_wp2
              go_roundw
              case rel => exact ⟨X + 1, by omega, by omega, by rw [hxi.out]; go_num, hO2, hfz, hapz, hgz, hlz⟩
              case measure => simp only [intOf]; have := hxi.out; omega
          · have hz2 : ((Z : Int) == 0) = false := by rw [beq_eq_false_iff_ne]; omega
            have hgX : g X = [] := by rw [eg.out]; exact if_neg (by omega)
            rw [hgX, List.append_nil] at hlast
            replace hlast := Lib.hid hlast
            clear hgX hZ
            go_wp2
            go_roundw
            case rel => exact ⟨X + 1, by omega, by omega, by go_num, by rw [hlast.out]; exact ho, hfr, hap, hg, hl⟩
            case measure => simp only [intOf]; omega
        · obtain rfl : X = rest + 1 := by omega
          have hdl : decide (((rest + 1 : Nat) : Int) ≤ (rest : Int)) = false := decide_eq_false (by omega)
          rw [show rest + 1 - 2 = rest - 1 from by omega] at ho
          go_wp2
          go_ret
          exact ⟨_, rfl, ho, hg, hl⟩
end Go.Proofs.Ytbndfohnkdhgeaa
