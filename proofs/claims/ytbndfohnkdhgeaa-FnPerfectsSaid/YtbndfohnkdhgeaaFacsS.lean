/- Contract of spec.l06Factors. -/
import Derived.Test.YtbndfohnkdhgeaaSSB
namespace Go.Proofs.Ytbndfohnkdhgeaa
open Go.RowKit

def RetSS0 (W : World) (xss : List (List Int)) (e : Ending) (w' : World) : Prop := ∃ v', e = .returned v' ∧ OSS w' W.heap.size w'.heap.size v' xss ∧ Below W.heap.size W w' ∧ Som v'

theorem oss_one {w : World} {base : Nat} {u : Value} {xs : List Int} (h : OI w base u xs) (hb : base ≤ w.heap.size) : OSS (w.alloc (.cells #[u] 22)) base (w.alloc (.cells #[u] 22)).heap.size (.slice (some ⟨w.heap.size, 0, none⟩) 1 1) [xs] := by
  have h2 : OI (w.alloc (.cells #[u] 22)) base u xs := h.stay (bAl (Below.refl _ _) _)
  have hr : (w.alloc (.cells #[u] 22)).ownsRow w.heap.size 22 1 (.slice (some ⟨w.heap.size, 0, none⟩) 1 1) 1 [u] := World.ownsRow_lit (e := 22) (size := 1) w #[u] 1 (Nat.le_refl _) (by decide) (by simp)
  have h0 : OSV (w.alloc (.cells #[u] 22)) base base (.slice none 0 0) [] [] := OSV.nil _ _ _
  have hr2 : (w.alloc (.cells #[u] 22)).ownsRow base 22 1 (.slice (some ⟨w.heap.size, 0, none⟩) 1 1) 1 [u] := by
    obtain ⟨h1, h2⟩ := hr
    refine ⟨h1, ?_⟩
    rcases h2 with h2 | ⟨g, cap, cur, hv, hg, r⟩
    · exact Or.inl h2
    · exact Or.inr ⟨g, cap, cur, hv, Nat.le_trans hb hg, r⟩
  refine ⟨[u], hr2, rfl, fun i hi => ?_, fun i j hi hj hij => ?_, fun i hi => ?_, fun g hg => (World.ownsRow.lt hr2 g hg).2, fun i hi g hg => ?_⟩
  · obtain rfl : i = 0 := by simp at hi; omega
    exact h2
  · simp at hi hj; omega
  · obtain rfl : i = 0 := by simp at hi; omega
    intro g h1 h3
    have := (h.lt g h3).2
    simp only [Value.ownBlock] at h1
    have := Option.some.inj h1
    omega
  · obtain rfl : i = 0 := by simp at hi; omega
    exact (h2.lt g hg).2
theorem oss_empty (w : World) (base : Nat) (hb : base ≤ w.heap.size) : OSS (w.alloc (.cells #[] 22)) base (w.alloc (.cells #[] 22)).heap.size (.slice (some ⟨w.heap.size, 0, none⟩) 0 0) [] := by
  have hr : (w.alloc (.cells #[] 22)).ownsRow base 22 1 (.slice (some ⟨w.heap.size, 0, none⟩) 0 0) 0 [] := World.ownsRow_made (e := 22) (size := 1) (base := base) w #[] 0 hb (Nat.zero_le _) rfl
  exact ⟨[], hr, rfl, fun i hi => absurd hi (by simp), fun i _ hi => absurd hi (by simp), fun i hi => absurd hi (by simp), fun g hg => (World.ownsRow.lt hr g hg).2, fun i hi => absurd hi (by simp)⟩
theorem oss_below {w w' : World} {base B m : Nat} {v : Value} {xss : List (List Int)} {a : World} (hb : Below B a w) (h : OSS w base m v xss) (hg : w.grownBy w' v.ownBlock) (hs : B ≤ w.heap.size) (hB : B ≤ base) : Below B a w' := by
  obtain ⟨vs, h⟩ := h
  exact hb.grown hg hs fun k hk => Nat.le_trans hB (World.ownsRow.lt h.row k hk).1

theorem som_ne {v : Value} (h : Som v) : v ≠ .slice none 0 0 := by
  obtain ⟨g, n, c, rfl⟩ := h
  intro e
  cases e
theorem oss_som {w : World} {base m : Nat} {v : Value} {xss : List (List Int)} (h : OSS w base m v xss) (hn : v ≠ .slice none 0 0) : Som v := by
  obtain ⟨vs, h⟩ := h
  obtain ⟨_, h2⟩ := h.row
  rcases h2 with ⟨rfl, _⟩ | ⟨g, cap, cur, rfl, _⟩
  · exact absurd rfl hn
  · exact ⟨g, _, _, rfl⟩

set_option maxRecDepth 100000 in
set_option maxHeartbeats 8000000 in
theorem specFacs (f : Nat) : ∀ (rest : Nat) (w : World) (bh : Nat) (head : Value) (fs : List Int), rest ≤ f → 1 ≤ rest → rest ≤ 100 → OI w bh head fs → Som head → fs.length + rest ≤ 1000 → (fcts f fs rest).length ≤ 1000000 →
    Calls Try.prog 63 #[.int .i64 (rest : Int), head] w (RetSS0 w (fcts f fs rest)) := by
  induction f with
  | zero => intro rest w bh head fs h1 h2; omega
  | succ f ih =>
    intro rest w bh head fs hf h1 h100 hF hsom hfl hM
    have hfl9 : fs.length ≤ 1000000000 := by omega
    obtain ⟨hg0, hc0, rfl⟩ := hF.som hsom
    by_cases hr : rest = 1
    · subst hr
      rw [fcts, if_pos rfl] at hM ⊢
      go_enter Try.func63, Try.ntmps63
      go_wp2_with (first | (at_builtin; refine app_intsS rfl (.tmp 9) (.tmp 10) rfl rfl (oi_empty w _ (Nat.le_refl _)) rfl (hF.stay (bAl (Below.refl _ _) _)) hsom (by simp) (by simp) hfl9 ?_; intro vn w2 hn2 hg2 hl2 hne; rw [List.nil_append] at hn2; obtain ⟨na, nc, rfl⟩ := hn2.shapeN rfl) | fail)
      have hb2 : Below w.heap.size w w2 := (bAl (Below.refl _ _) _).grown hg2 (by simp) (fun j hj => by cases hj; exact Nat.le_refl _)
      go_wp2
      go_ret
      exact ⟨_, rfl, oss_one hn2 hb2.size, bAl hb2 _, ⟨_, _, _, rfl⟩⟩
    · have hd : ((rest : Int) == 1) = false := by rw [beq_eq_false_iff_ne]; omega
      rw [fcts, if_neg hr] at hM ⊢
      obtain ⟨g, eg⟩ : ∃ g, g = (fun x => if rest % x = 0 then fcts f (fs ++ [(x : Int)]) (rest / x) else []) := ⟨_, rfl⟩
      rw [← eg] at hM ⊢
      replace eg := Lib.hid eg
      have hst := oss_empty w w.heap.size (Nat.le_refl _)
      go_enter Try.func63, Try.ntmps63
      go_wp2
      go_loopw [5, 6] (fun o x wr => ∃ X : Nat, 2 ≤ X ∧ X ≤ rest + 1 ∧ x = .int .i64 (X : Int) ∧ OSS wr w.heap.size wr.heap.size o (loopF g (X - 2)) ∧ Som o ∧ Below w.heap.size w wr) (fun _ x _ => rest + 1 - (intOf x).toNat)
      case atStart => exact ⟨2, by omega, by omega, rfl, hst, ⟨_, _, _, rfl⟩, bAl (Below.refl _ _) _⟩
      case round =>
        clear hst
        obtain ⟨wo, rfl⟩ : ∃ wo, wo = wr := ⟨_, rfl⟩
        obtain ⟨X, hX2, hX, rfl, ho, hos, bb⟩ := hrel
        by_cases hlt : X ≤ rest
        · have hdl : decide ((X : Int) ≤ (rest : Int)) = true := decide_eq_true (by omega)
          have hdl2 : decide (X ≤ rest) = true := decide_eq_true hlt
          obtain ⟨Z, hZ⟩ : ∃ Z, Z = rest % X := ⟨_, rfl⟩
          have hm1 : (rest : Int) % (X : Int) = (Z : Int) := by rw [hZ]; exact (Int.natCast_emod _ _).symm
          have hm2 : (rest : Int).tmod (X : Int) = (Z : Int) := by rw [Int.tmod_eq_emod_of_nonneg (by omega)]; exact hm1
          have hlast : loopF g (X + 1 - 2) = loopF g (X - 2) ++ g X := by
            obtain ⟨j, rfl⟩ : ∃ j, X = j + 2 := ⟨X - 2, by omega⟩
            rfl
          have hX0 : ((X : Int) == 0) = false := by rw [beq_eq_false_iff_ne]; omega
          by_cases hz : Z = 0
          · have hz2 : ((Z : Int) == 0) = true := by rw [beq_iff_eq]; omega
            have hgX : g X = fcts f (fs ++ [(X : Int)]) (rest / X) := by rw [eg.out]; exact if_pos (by omega)
            obtain ⟨Y, hY⟩ : ∃ Y, Y = rest / X := ⟨_, rfl⟩
            have hY1 : (rest : Int) / (X : Int) = (Y : Int) := by rw [hY]; exact (Int.natCast_ediv _ _).symm
            have hY2 : (rest : Int).tdiv (X : Int) = (Y : Int) := by rw [Int.tdiv_eq_ediv_of_nonneg (by omega)]; exact hY1
            have hYlt : Y < rest := by rw [hY]; exact Nat.div_lt_self (by omega) (by omega)
            have hYpos : 1 ≤ Y := by rw [hY]; exact Nat.div_pos hlt (by omega)
            have e1 : IntKind.i64.wrap (Y : Int) = (Y : Int) := IntWalk.i64_in _ (by omega)
            rw [← hY] at hgX
            obtain ⟨xi, hxi⟩ : ∃ z : Int, z = (X : Int) := ⟨_, rfl⟩
            rw [← hxi] at hgX hY1 hY2 hX0 hdl hm1 hm2 ⊢
            have hxb : 2 ≤ xi ∧ xi ≤ 100 := by omega
            have e5 : IntKind.i64.wrap (xi + 1) = xi + 1 := IntWalk.i64_in _ (by omega)
            have hmono := loopF_mono g (X + 1 - 2) (rest - 1 - (X + 1 - 2))
            rw [show X + 1 - 2 + (rest - 1 - (X + 1 - 2)) = rest - 1 from by omega, hlast, List.length_append, hgX] at hmono
            rw [hgX] at hlast
            have hih := fun (wb : World) (vb : Value) (k2 : OI wb wo.heap.size vb (fs ++ [xi])) (k3 : Som vb) =>
              ih Y wb wo.heap.size vb (fs ++ [xi]) (by omega) hYpos (by omega) k2 k3 (by rw [List.length_append]; simp; omega) (by omega)
            have hl1 : (loopF g (X - 2)).length ≤ 1000000000 := by omega
            have hl2 : (fcts f (fs ++ [xi]) Y).length ≤ 1000000000 := by omega
            have hF0 : OI wo bh (.slice (some ⟨hg0, 0, none⟩) fs.length hc0) fs := hF.stay bb
            have hD : Below wo.heap.size wo wo.drew := (Below.refl _ _).drew
            have hX1 : ¬ xi = 0 := by omega
            have hih := Lib.hid hih
            replace hlast := Lib.hid hlast
            replace hY := Lib.hid hY
            replace hxi := Lib.hid hxi
            clear hmono hM hgX hZ hF
            go_wp2
            have hB1 : Below wo.heap.size wo ((wo.alloc (.cells #[.int .i64 xi] 3)).alloc (.cells #[] 3)).drew := (bAl (bAl (Below.refl _ _) _) _).drew
            have hB2 : Below wo.heap.size wo ((wo.alloc (.cells #[] 3)).alloc (.cells #[.int .i64 xi] 3)).drew := (bAl (bAl (Below.refl _ _) _) _).drew
            have hB3 : Below wo.heap.size wo (wo.alloc (.cells #[] 3)).drew := (bAl (Below.refl _ _) _).drew
            have h27a : OI ((wo.alloc (.cells #[.int .i64 xi] 3)).alloc (.cells #[] 3)).drew wo.heap.size (.slice (some ⟨wo.heap.size + 1, 0, none⟩) 0 0) [] := by
              have h := oi_empty (wo.alloc (.cells #[.int .i64 xi] 3)) wo.heap.size (by simp)
              rw [show (wo.alloc (.cells #[.int .i64 xi] 3)).heap.size = wo.heap.size + 1 from by simp] at h
              exact h
            have h27b : OI ((wo.alloc (.cells #[] 3)).alloc (.cells #[.int .i64 xi] 3)).drew wo.heap.size (.slice (some ⟨wo.heap.size, 0, none⟩) 0 0) [] := (oi_empty wo wo.heap.size (Nat.le_refl _)).stay (bAl (Below.refl _ _) _).drew
            have h27c : OI (wo.alloc (.cells #[] 3)).drew wo.heap.size (.slice (some ⟨wo.heap.size, 0, none⟩) 0 0) [] := oi_empty wo wo.heap.size (Nat.le_refl _)
            have h31a : OI ((wo.alloc (.cells #[.int .i64 xi] 3)).alloc (.cells #[] 3)).drew wo.heap.size (.slice (some ⟨wo.heap.size, 0, none⟩) 1 1) [xi] := (oi_row wo [xi] 1 rfl (by decide)).stay (bAl (Below.refl _ _) _).drew
            have h31b : OI ((wo.alloc (.cells #[] 3)).alloc (.cells #[.int .i64 xi] 3)).drew wo.heap.size (.slice (some ⟨wo.heap.size + 1, 0, none⟩) 1 1) [xi] := by
              have h := (oi_row (wo.alloc (.cells #[] 3)) [xi] 1 rfl (by decide)).mono (base' := wo.heap.size) (by simp)
              rw [show (wo.alloc (.cells #[] 3)).heap.size = wo.heap.size + 1 from by simp] at h
              exact h
            have hFa : OI ((wo.alloc (.cells #[.int .i64 xi] 3)).alloc (.cells #[] 3)).drew bh (.slice (some ⟨hg0, 0, none⟩) fs.length hc0) fs := hF0.stay (w' := ((wo.alloc (.cells #[.int .i64 xi] 3)).alloc (.cells #[] 3)).drew) hB1
            have hFb : OI ((wo.alloc (.cells #[] 3)).alloc (.cells #[.int .i64 xi] 3)).drew bh (.slice (some ⟨hg0, 0, none⟩) fs.length hc0) fs := hF0.stay (w' := ((wo.alloc (.cells #[] 3)).alloc (.cells #[.int .i64 xi] 3)).drew) hB2
            have hFc : OI (wo.alloc (.cells #[] 3)).drew bh (.slice (some ⟨hg0, 0, none⟩) fs.length hc0) fs := hF0.stay (w' := (wo.alloc (.cells #[] 3)).drew) hB3
            go_region_held3 (fun w' => True) (trivial)
              ((first
                | (refine step_apps (.tmp 27) (.tmp 28) (by rfl) (base := wo.heap.size) (v := .slice (some ⟨wo.heap.size + 1, 0, none⟩) 0 0) (vy := .slice (some ⟨hg0, 0, none⟩) fs.length hc0) (g := hg0) (c := hc0) (xs := []) (ys := fs) (by rfl) (by exact h27a) (by rfl) (by exact hFa) rfl (by exact hB1.size) (by simp) hfl9 ?_; intro va wa ha hga hla hna; rw [List.nil_append] at ha; have bW : Below wo.heap.size wo wa := hB1.grown hga hB1.size (fun j hj => by simp only [Value.ownBlock] at hj; have := Option.some.inj hj; omega); have hav : va ≠ .slice none 0 0 := hna (by simp); have h31 : OI wa wo.heap.size (.slice (some ⟨wo.heap.size, 0, none⟩) 1 1) [xi] := (h31a).keptBy (fun g1 k1 k2 => by simp only [Value.ownBlock] at k1 k2; have := Option.some.inj k1; have := Option.some.inj k2; omega) hga)
                | (refine step_apps (.tmp 27) (.tmp 28) (by rfl) (base := wo.heap.size) (v := .slice (some ⟨wo.heap.size, 0, none⟩) 0 0) (vy := .slice (some ⟨hg0, 0, none⟩) fs.length hc0) (g := hg0) (c := hc0) (xs := []) (ys := fs) (by rfl) (by exact h27b) (by rfl) (by exact hFb) rfl (by exact hB2.size) (by simp) hfl9 ?_; intro va wa ha hga hla hna; rw [List.nil_append] at ha; have bW : Below wo.heap.size wo wa := hB2.grown hga hB2.size (fun j hj => by simp only [Value.ownBlock] at hj; have := Option.some.inj hj; omega); have hav : va ≠ .slice none 0 0 := hna (by simp); have h31 : OI wa wo.heap.size (.slice (some ⟨wo.heap.size + 1, 0, none⟩) 1 1) [xi] := (h31b).keptBy (fun g1 k1 k2 => by simp only [Value.ownBlock] at k1 k2; have := Option.some.inj k1; have := Option.some.inj k2; omega) hga)
                | (refine step_apps (.tmp 27) (.tmp 28) (by rfl) (base := wo.heap.size) (v := .slice (some ⟨wo.heap.size, 0, none⟩) 0 0) (vy := .slice (some ⟨hg0, 0, none⟩) fs.length hc0) (g := hg0) (c := hc0) (xs := []) (ys := fs) (by rfl) (by exact h27c) (by rfl) (by exact hFc) rfl (by exact hB3.size) (by simp) hfl9 ?_; intro va wa ha hga hla hna; rw [List.nil_append] at ha; have bW : Below wo.heap.size wo wa := hB3.grown hga hB3.size (fun j hj => by simp only [Value.ownBlock] at hj; have := Option.some.inj hj; omega); have hav : va ≠ .slice none 0 0 := hna (by simp))
                | (refine step_apps (.tmp 29) (.tmp 31) (by rfl) (base := wo.heap.size) (v := va) (vy := .slice (some ⟨wo.heap.size, 0, none⟩) 1 1) (g := wo.heap.size) (c := 1) (xs := fs) (ys := [xi]) (by rfl) ha (by rfl) h31 rfl bW.size hfl9 (by simp) ?_; intro vb wb hb hgb hlb hnb; have bW2 : Below wo.heap.size wo wb := bW.grown hgb bW.size (fun j hj => (ha.lt j hj).1); have hbs : Som vb := hb.toSom (hnb hav))
                | (refine step_apps (.tmp 29) (.tmp 31) (by rfl) (base := wo.heap.size) (v := va) (vy := .slice (some ⟨wo.heap.size + 1, 0, none⟩) 1 1) (g := wo.heap.size + 1) (c := 1) (xs := fs) (ys := [xi]) (by rfl) ha (by rfl) h31 rfl bW.size hfl9 (by simp) ?_; intro vb wb hb hgb hlb hnb; have bW2 : Below wo.heap.size wo wb := bW.grown hgb bW.size (fun j hj => (ha.lt j hj).1); have hbs : Som vb := hb.toSom (hnb hav))
                | (refine step_apps (.tmp 29) (.tmp 31) (by rfl) (base := wo.heap.size) (v := va) (vy := .slice (some ⟨wa.heap.size, 0, none⟩) 1 1) (g := wa.heap.size) (c := 1) (xs := fs) (ys := [xi]) (by rfl) (ha.stay (bAl (Below.refl _ _) _)) (by rfl) (oi_row wa [xi] 1 rfl (by decide)) rfl (bAl bW _).size hfl9 (by simp) ?_; intro vb wb hb hgb hlb hnb; have bW2 : Below wo.heap.size wo wb := (bAl bW _).grown hgb (bAl bW _).size (fun j hj => (ha.lt j hj).1); have hbs : Som vb := hb.toSom (hnb hav))
                | (go_at_call 63; refine (hih.out wb vb hb hbs).mono ?_; rintro e wc ⟨vc, rfl, hO2, b2, hcs⟩)
                | (refine step_sss (.tmp 23) (.tmp 33) (by rfl) (v := u5) (vy := vc) (by rfl) ((ho.stay bW2).stay b2) (by rfl) hO2 hcs (Nat.le_trans bb.size bW2.size) bW2.size (Nat.le_trans bb.size (Nat.le_trans bW2.size b2.size)) hl1 hl2 ?_; intro v3 w3 hO3 hg3 hl3 hn3; have bb3 : Below w.heap.size w w3 := oss_below (bThen bb (bThen bW2 b2)) ((ho.stay bW2).stay b2) hg3 (Nat.le_trans bb.size (Nat.le_trans bW2.size b2.size)) (Nat.le_refl _); have hs3 : Som v3 := oss_som hO3 (hn3 (som_ne hos)))
                | fail))
            all_goals
              rw [← hlast.out] at hO3
              clear hO2 b2 hb bW2 hg3 hl3 ho hF0 hD
              go_wp2
              go_roundw
              case rel => exact ⟨X + 1, by omega, by omega, by rw [hxi.out]; go_num, hO3, hs3, bb3⟩
              case measure => simp only [intOf]; have := hxi.out; omega
          · have hz2 : ((Z : Int) == 0) = false := by rw [beq_eq_false_iff_ne]; omega
            have hgX : g X = [] := by rw [eg.out]; exact if_neg (by omega)
            rw [hgX, List.append_nil] at hlast
            replace hlast := Lib.hid hlast
            clear hgX hZ
            go_wp2
            go_roundw
            case rel => exact ⟨X + 1, by omega, by omega, by go_num, by rw [hlast.out]; exact ho, hos, bb⟩
            case measure => simp only [intOf]; omega
        · obtain rfl : X = rest + 1 := by omega
          have hdl : decide (((rest + 1 : Nat) : Int) ≤ (rest : Int)) = false := decide_eq_false (by omega)
          rw [show rest + 1 - 2 = rest - 1 from by omega] at ho
          go_wp2
          go_ret
          exact ⟨_, rfl, ho, bb, hos⟩
end Go.Proofs.Ytbndfohnkdhgeaa
