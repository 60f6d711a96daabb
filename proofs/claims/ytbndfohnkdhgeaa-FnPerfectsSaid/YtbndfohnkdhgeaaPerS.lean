/- Contract of spec.l06Lists. -/
import Derived.Test.YtbndfohnkdhgeaaFacsS
import Derived.Test.YtbndfohnkdhgeaaPerI
namespace Go.Proofs.Ytbndfohnkdhgeaa
open Go.RowKit

theorem app_sss {ops : Array Oper} {rest : List Oper} {o : Oper} {a : Act} {Q : Exit → Act → World → Prop} (hgd : o.guard = none) (s x : Operand)
    (hop : o.op = Op.call { callee := Callee.builtin Builtin.append, args := #[s, x], argTypes := #[33, 33] }) {W : World} {base m b2 m2 : Nat} {v vy : Value} {xss yss : List (List Int)} (hs : a.eval s = v) (h : OSS W base m v xss)
    (hx : a.eval x = vy) (hy : OSS W b2 m2 vy yss) (hv : Som vy) (hb2 : base ≤ b2) (hm2 : m ≤ b2) (hb : base ≤ W.heap.size) (hn : xss.length ≤ 1000000000) (hm : yss.length ≤ 1000000000)
    (hK : ∀ v' w', OSS w' base w'.heap.size v' (xss ++ yss) → W.grownBy w' v.ownBlock → Loc W v v' → (v ≠ .slice none 0 0 → v' ≠ .slice none 0 0) → wpList Try.prog ops Q rest (a.put o.dst v') w') : wpList Try.prog ops Q (o :: rest) a W := by
  refine wpList_plain hgd fun K' hK' => ?_
  exact step_sss s x hop hs h hx hy hv hb2 hm2 hb hn hm fun v' w' h1 h2 h3 h4 => hK' _ _ (hK v' w' h1 h2 h3 h4)
theorem OI.somP {w : World} {base : Nat} {v : Value} {xs : List Int} (h : OI w base v xs) (hp : 0 < xs.length) : Som v := by
  obtain ⟨_, h2⟩ := h
  rcases h2 with ⟨_, h2⟩ | ⟨g, cap, cur, rfl, _⟩
  · omega
  · exact ⟨g, _, _, rfl⟩
theorem OSS.somP {w : World} {base m : Nat} {v : Value} {xss : List (List Int)} (h : OSS w base m v xss) (hp : 0 < xss.length) : Som v := by
  obtain ⟨vs, h⟩ := h
  have hl := h.len
  obtain ⟨_, h2⟩ := h.row
  rcases h2 with ⟨_, h2⟩ | ⟨g, cap, cur, rfl, _⟩
  · omega
  · exact ⟨g, _, _, rfl⟩

theorem cellStay0 {w w2 : World} {p : Addr} {v : Value} (hb : Below w.heap.size w w2) (h : w.cell? p = some v) : w2.cell? p = some v := (hb.cell (World.cell_lt h)).trans h
theorem cell_alloc {x : World} {p : Addr} {v : Value} {o : Obj} (h : x.cell? p = some v) : (x.alloc o).cell? p = some v := cellStay0 (bAl (Below.refl _ _) o) h
/-- A list that the reference goes on from: its sum so far is reach. -/
structure BegS (fs : List Int) (reach : Nat) : Prop where
  len : fs.length ≤ reach
  each : ∀ x ∈ fs, 1 ≤ x ∧ x ≤ 24
theorem BegS.snoc {fs : List Int} {r X : Nat} (h : BegS fs r) (h1 : 1 ≤ X) (h2 : X ≤ 24) : BegS (fs ++ [(X : Int)]) (r + X) where
  len := by have := h.len; rw [List.length_append]; simp; omega
  each x hx := by
    rcases List.mem_append.1 hx with q | q
    · exact h.each x q
    · rw [List.mem_singleton.1 q]; omega
theorem BegS.val {fs : List Int} {r : Nat} (h : BegS fs r) (hr : r ≤ 24) : Val fs := ⟨by have := h.len; omega, fun x hx => by have := h.each x hx; omega⟩
theorem BegS.last {fs : List Int} {r : Nat} (h : BegS fs r) : 1 ≤ lastN fs ∧ lastN fs ≤ 24 := by
  unfold lastN
  by_cases e : fs.length = 0
  · rw [if_pos e]; omega
  · rw [if_neg e]
    have := h.each _ (mem_getD (xs := fs) (k := fs.length - 1) (by omega) rfl)
    omega

set_option maxRecDepth 100000 in
set_option maxHeartbeats 4000000 in
theorem specPer (f : Nat) : ∀ (n r : Nat) (ni ri : Int) (w : World) (bh : Nat) (head : Value) (fs : List Int), ni = (n : Int) → ri = (r : Int) → n - r < f → r ≤ n → n ≤ 24 → BegS fs r → OI w bh head fs → Som head → (perS f n fs r).length ≤ 1000000 →
    Calls Try.prog 59 #[.int .i64 ni, head, .int .i64 ri] w (RetSS0 w (perS f n fs r)) := by
  induction f with
  | zero => intro n r ni ri w bh head fs _ _ h; omega
  | succ f ih =>
    intro n r ni ri w bh head fs hni hri hf hrn hn24 hB hF hsom hM
    have hn1 : ni ≤ (n : Int) := by omega
    have hn2 : (n : Int) ≤ ni := by omega
    have hr1 : ri ≤ (r : Int) := by omega
    have hr2 : (r : Int) ≤ ri := by omega
    clear hni hri
    have hlb := hB.len
    have hfl9 : fs.length ≤ 1000000000 := by omega
    obtain ⟨hg0, hc0, rfl⟩ := hF.som hsom
    have hO0 := oss_empty w w.heap.size (Nat.le_refl _)
    by_cases hr : r = n
    · subst hr
      rw [perS, if_pos rfl] at hM ⊢
      have hd : (ri == ni) = true := by rw [beq_iff_eq]; omega
      have hF0 : OI (w.alloc (.cells #[] 22)) bh (.slice (some ⟨hg0, 0, none⟩) fs.length hc0) fs := hF.stay (bAl (Below.refl _ _) _)
      have h16 : OI ((w.alloc (.cells #[] 22)).alloc (.cells #[] 3)) (w.alloc (.cells #[] 22)).heap.size (.slice (some ⟨w.heap.size + 1, 0, none⟩) 0 0) [] := by
        have h := oi_empty (w.alloc (.cells #[] 22)) _ (Nat.le_refl _)
        rw [show (w.alloc (.cells #[] 22)).heap.size = w.heap.size + 1 from by simp] at h ⊢
        exact h
      have hB2 : ∀ w2, ((w.alloc (.cells #[] 22)).alloc (.cells #[] 3)).grownBy w2 (some (w.heap.size + 1)) → Below (w.alloc (.cells #[] 22)).heap.size (w.alloc (.cells #[] 22)) w2 := fun w2 hg2 => by
        have e : (w.alloc (.cells #[] 22)).heap.size = w.heap.size + 1 := by simp
        exact (bAl (Below.refl _ _) _).grown hg2 (by rw [e]; simp) (fun j hj => by have := Option.some.inj hj; omega)
      have e16 : Hid ((w.alloc (.cells #[] 22)).heap.size = w.heap.size + 1) := (show (w.alloc (.cells #[] 22)).heap.size = w.heap.size + 1 by simp)
      go_enter Try.func59, Try.ntmps59
      go_wp2_with (first
        | (at_builtin; refine app_intsS rfl (.tmp 16) (.tmp 17) rfl rfl h16 rfl (hF0.stay (bAl (Below.refl _ _) _)) hsom (by simp) (by simp) hfl9 ?_; intro vn w2 hn2 hg2 hl2 hne; rw [List.nil_append] at hn2; have hb2 := hB2 w2 hg2; obtain ⟨na, nc, rfl⟩ := hn2.shapeN rfl)
        | (at_builtin; refine app_ss rfl (.tmp 15) (.tmp 19) rfl rfl (hO0.stay hb2) hn2 rfl (by simp) hb2.size (by simp) ?_; intro v3 w3 ho3 hg3 hl3)
        | fail)
      have bw : Below w.heap.size w w3 := oss_below (bThen (bAl (Below.refl _ _) _) hb2) (hO0.stay hb2) hg3 (by have := hb2.size; simp at this; omega) (Nat.le_refl _)
      have hs3 := ho3.somP (by simp)
      rw [List.nil_append] at ho3
      go_wp2
      go_ret
      exact ⟨_, rfl, ho3, bw, hs3⟩
    · rw [perS, if_neg hr] at hM ⊢
      have hd : (ri == ni) = false := by rw [beq_eq_false_iff_ne]; omega
      obtain ⟨g, eg⟩ : ∃ g, g = (fun (x : Nat) => if x = lastN fs ∨ x = r + 1 then (if perfQ (fs ++ [(x : Int)]) = true then perS f n (fs ++ [(x : Int)]) (r + x) else []) else []) := ⟨_, rfl⟩
      rw [← eg] at hM ⊢
      have hla := hB.last
      obtain ⟨U, eU⟩ : ∃ U, U = min (r + 1) (n - r) := ⟨_, rfl⟩
      rw [← eU] at hM ⊢
      have hU : ∀ X : Nat, X ≤ U ↔ (X ≤ r + 1 ∧ r + X ≤ n) := fun X => by omega
      replace hU := Lib.hid hU
      replace eU := Lib.hid eU
      have e0 : IntKind.i64.wrap (ri + 1) = ri + 1 := IntWalk.i64_in _ (by omega)
      have bst : Below w.heap.size w (w.alloc (.cells #[] 22)) := bAl (Below.refl _ _) _
      have hs0 : Som (.slice (some ⟨w.heap.size, 0, none⟩) 0 0) := ⟨_, _, _, rfl⟩
      obtain ⟨a, ea⟩ : ∃ a, a = lastN fs := ⟨_, rfl⟩
      rw [← ea] at hla hM eg ⊢
      obtain ⟨ai, hai⟩ : ∃ z : Int, z = (a : Int) := ⟨_, rfl⟩
      replace eg := Lib.hid eg
      by_cases hz : fs.length = 0
      · obtain rfl : fs = [] := List.length_eq_zero_iff.1 hz
        have ha1 : ai = 1 := by rw [hai, ea, show lastN [] = 1 from rfl]; rfl
        have ha2 : (a : Int) ≤ 1 := by omega
        have ha3 : (1 : Int) ≤ (a : Int) := by omega
        clear ha1 hai ai
        simp only [List.length_nil] at hF hfl9 hsom hlb ⊢
        clear hz ea
        go_enter Try.func59, Try.ntmps59
        go_wp2
        skip
        go_loopw [7, 9] (fun o x wr => ∃ (X : Nat) (xi : Int), a ≤ X ∧ (X ≤ U + 1 ∨ X = a) ∧ Hid (xi = (X : Int)) ∧ x = .int .i64 xi ∧ OSS wr w.heap.size wr.heap.size o (upL g a (X - a)) ∧ Som o ∧ Below w.heap.size w wr) (fun _ x _ => U + 1 - (intOf x).toNat)
        case atStart => exact ⟨a, 1, Nat.le_refl _, .inr rfl, (show (1 : Int) = (a : Int) by omega), rfl, by rw [Nat.sub_self]; exact hO0, hs0, bst⟩
        case round =>
          clear hO0 hs0 bst
          obtain ⟨wo, rfl⟩ : ∃ wo, wo = wr := ⟨_, rfl⟩
          obtain ⟨X, xi, hX2, hX, hxi, rfl, ho, hos, bb⟩ := hrel
          have hx1 : xi ≤ (X : Int) := by have := hxi.out; omega
          have hx2 : (X : Int) ≤ xi := by have := hxi.out; omega
          by_cases hlt : X ≤ U
          · have hu := (hU.out X).1 hlt
            have d1 : decide (xi ≤ ri + 1) = true := decide_eq_true (by omega)
            have d2 : decide (ri + xi ≤ ni) = true := decide_eq_true (by omega)
            have e1 : IntKind.i64.wrap (ri + xi) = ri + xi := IntWalk.i64_in _ (by omega)
            have e5 : IntKind.i64.wrap (xi + 1) = xi + 1 := IntWalk.i64_in _ (by omega)
            have hlast : upL g a (X + 1 - a) = upL g a (X - a) ++ g X := by
              rw [show X + 1 - a = (X - a) + 1 from by omega, upL, show a + (X - a) = X from by omega]
            by_cases hc : X = a ∨ X = r + 1
            · have hn24' : X ≤ 24 := by omega
              have hB2 := hB.snoc (X := X) (by omega) hn24'
              rw [← hxi.out] at hB2
              have hV2 := hB2.val (by omega)
              have hpq := perfQ_eq hV2
              have hgX : g X = if perfQ (([] : List Int) ++ [xi]) = true then perS f n (([] : List Int) ++ [xi]) (r + X) else [] := by rw [eg.out, hxi.out]; exact if_pos hc
              have hF1 : OI wo bh (.slice (some ⟨hg0, 0, none⟩) 0 hc0) ([] : List Int) := hF.stay bb
              have hfl8 : ([] : List Int).length ≤ 24 := by have := hB.len; omega
              have hmono := upL_mono g a (X + 1 - a) (U + 1 - a - (X + 1 - a))
              rw [show X + 1 - a + (U + 1 - a - (X + 1 - a)) = U + 1 - a from by omega, hlast, List.length_append, hgX] at hmono
              have hx9 : (upL g a (X - a)).length ≤ 1000000000 := by omega
              by_cases hxa : xi = 1
              · subst hxa
                cases hp : perfQ (([] : List Int) ++ [1])
                · rw [hp] at hpq
                  replace hlast := Lib.hid (show upL g a (X + 1 - a) = upL g a (X - a) from by rw [hlast, hgX, if_neg (by rw [hp]; exact Bool.false_ne_true), List.append_nil])
                  clear hmono hgX
                  go_wp2_with (first
                    | (at_builtin; refine app_intsS rfl (.tmp 53) (.tmp 54) rfl rfl (oi_empty wo _ (Nat.le_refl _)) rfl (hF1.stay (bAl (Below.refl _ _) _)) hsom (by simp) (by simp) hfl9 ?_; intro va wa ha hga hla' hna; rw [List.nil_append] at ha; have bA : Below wo.heap.size wo wa := (bAl (Below.refl _ _) _).grown hga (by simp) (fun j hj => by cases hj; exact Nat.le_refl _))
                    | (at_builtin; refine app_int_at rfl (.tmp 55) (.tmp 57) rfl rfl ha rfl bA.size (by omega) ?_; intro vb wb hb hgb hlb; have bB : Below wo.heap.size wo wb := bA.grown hgb bA.size (fun j hj => (ha.lt j hj).1))
                    | fail)
                  refine (specPerf hb hV2).mono ?_
                  rintro e wc ⟨rfl, bC⟩
                  rw [hpq]
                  have bD := bThen bB bC
                  have ho2 := (ho.stay bD).mono bD.size
                  have bb2 := bThen bb bD
                  clear ha hga hla' hna bA hb hgb hlb bB bC bD
                  go_wp2
                  go_roundw
                  case rel => exact ⟨X + 1, 1 + 1, by omega, .inl (by omega), by have := hxi.out; show 1 + 1 = ((X + 1 : Nat) : Int); omega, rfl, by rw [hlast.out]; exact ho2, hos, bb2⟩
                  case measure => simp only [intOf]; have := hxi.out; omega
                · rw [if_pos hp] at hgX hmono
                  rw [hp] at hpq
                  rw [hgX] at hlast
                  have hih := fun (wb : World) (vb : Value) (k2 : OI wb wo.heap.size vb (([] : List Int) ++ [1])) (k3 : Som vb) =>
                    ih n (r + X) ni (ri + 1) wb wo.heap.size vb (([] : List Int) ++ [1]) (by omega) (by omega) (by omega) (by omega) hn24 hB2 k2 k3 (by omega)
                  have hy9 : (perS f n (([] : List Int) ++ [1]) (r + X)).length ≤ 1000000000 := by omega
                  have hih := Lib.hid hih
                  replace hlast := Lib.hid hlast
                  clear hmono hgX
                  go_wp2_with (first
                    | (at_builtin; refine app_intsS rfl (.tmp 53) (.tmp 54) rfl rfl (oi_empty wo _ (Nat.le_refl _)) rfl (hF1.stay (bAl (Below.refl _ _) _)) hsom (by simp) (by simp) hfl9 ?_; intro va wa ha hga hla' hna; rw [List.nil_append] at ha; have bA : Below wo.heap.size wo wa := (bAl (Below.refl _ _) _).grown hga (by simp) (fun j hj => by cases hj; exact Nat.le_refl _))
                    | (at_builtin; refine app_int_at rfl (.tmp 55) (.tmp 57) rfl rfl ha rfl bA.size (by omega) ?_; intro vb wb hb hgb hlb; have bB : Below wo.heap.size wo wb := bA.grown hgb bA.size (fun j hj => (ha.lt j hj).1))
                    | fail)
                  refine (specPerf hb hV2).mono ?_
                  rintro e wc ⟨rfl, bC⟩
                  rw [hpq]
                  have hb2 := hb.stay bC
                  have bD := bThen bB bC
                  clear ha hga hla' hna bA hb hgb hlb bB bC
                  go_wp2_with fail
                  refine (hih.out wc vb hb2 (hb2.somP (by simp))).mono ?_
                  rintro e wd ⟨vd, rfl, hO2, b2, hds⟩
                  have bE := bThen bD b2
                  go_wp2_with (first
                    | (at_builtin; refine app_sss rfl (.tmp 61) (.tmp 67) rfl rfl ((ho.stay bD).stay b2) rfl hO2 hds (Nat.le_trans bb.size bD.size) bD.size (Nat.le_trans bb.size bE.size) hx9 hy9 ?_; intro v3 w3 hO3 hg3 hl3 hn3)
                    | fail)
                  have bb3 : Below w.heap.size w w3 := oss_below (bThen bb bE) ((ho.stay bD).stay b2) hg3 (Nat.le_trans bb.size bE.size) (Nat.le_refl _)
                  have hs3 : Som v3 := oss_som hO3 (hn3 (som_ne hos))
                  rw [← hlast.out] at hO3
                  clear hb2 bD hO2 b2 bE hg3 hl3 ho
                  go_wp2
                  go_roundw
                  case rel => exact ⟨X + 1, 1 + 1, by omega, .inl (by omega), by have := hxi.out; show 1 + 1 = ((X + 1 : Nat) : Int); omega, rfl, hO3, hs3, bb3⟩
                  case measure => simp only [intOf]; have := hxi.out; omega

              · have hs1 : (xi != 1) = true := by rw [bne_iff_ne]; exact hxa
                obtain rfl : xi = ri + 1 := by omega
                clear hxa
                cases hp : perfQ (([] : List Int) ++ [ri + 1])
                · rw [hp] at hpq
                  replace hlast := Lib.hid (show upL g a (X + 1 - a) = upL g a (X - a) from by rw [hlast, hgX, if_neg (by rw [hp]; exact Bool.false_ne_true), List.append_nil])
                  clear hmono hgX
                  go_wp2_with (first
                    | (at_builtin; refine app_intsS rfl (.tmp 53) (.tmp 54) rfl rfl (oi_empty wo _ (Nat.le_refl _)) rfl (hF1.stay (bAl (Below.refl _ _) _)) hsom (by simp) (by simp) hfl9 ?_; intro va wa ha hga hla' hna; rw [List.nil_append] at ha; have bA : Below wo.heap.size wo wa := (bAl (Below.refl _ _) _).grown hga (by simp) (fun j hj => by cases hj; exact Nat.le_refl _))
                    | (at_builtin; refine app_int_at rfl (.tmp 55) (.tmp 57) rfl rfl ha rfl bA.size (by omega) ?_; intro vb wb hb hgb hlb; have bB : Below wo.heap.size wo wb := bA.grown hgb bA.size (fun j hj => (ha.lt j hj).1))
                    | fail)
                  refine (specPerf hb hV2).mono ?_
                  rintro e wc ⟨rfl, bC⟩
                  rw [hpq]
                  have bD := bThen bB bC
                  have ho2 := (ho.stay bD).mono bD.size
                  have bb2 := bThen bb bD
                  clear ha hga hla' hna bA hb hgb hlb bB bC bD
                  go_wp2
                  go_roundw
                  case rel => exact ⟨X + 1, ri + 1 + 1, by omega, .inl (by omega), by have := hxi.out; show ri + 1 + 1 = ((X + 1 : Nat) : Int); omega, rfl, by rw [hlast.out]; exact ho2, hos, bb2⟩
                  case measure => simp only [intOf]; have := hxi.out; omega
                · rw [if_pos hp] at hgX hmono
                  rw [hp] at hpq
                  rw [hgX] at hlast
                  have hih := fun (wb : World) (vb : Value) (k2 : OI wb wo.heap.size vb (([] : List Int) ++ [ri + 1])) (k3 : Som vb) =>
                    ih n (r + X) ni (ri + (ri + 1)) wb wo.heap.size vb (([] : List Int) ++ [ri + 1]) (by omega) (by omega) (by omega) (by omega) hn24 hB2 k2 k3 (by omega)
                  have hy9 : (perS f n (([] : List Int) ++ [ri + 1]) (r + X)).length ≤ 1000000000 := by omega
                  have hih := Lib.hid hih
                  replace hlast := Lib.hid hlast
                  clear hmono hgX
                  go_wp2_with (first
                    | (at_builtin; refine app_intsS rfl (.tmp 53) (.tmp 54) rfl rfl (oi_empty wo _ (Nat.le_refl _)) rfl (hF1.stay (bAl (Below.refl _ _) _)) hsom (by simp) (by simp) hfl9 ?_; intro va wa ha hga hla' hna; rw [List.nil_append] at ha; have bA : Below wo.heap.size wo wa := (bAl (Below.refl _ _) _).grown hga (by simp) (fun j hj => by cases hj; exact Nat.le_refl _))
                    | (at_builtin; refine app_int_at rfl (.tmp 55) (.tmp 57) rfl rfl ha rfl bA.size (by omega) ?_; intro vb wb hb hgb hlb; have bB : Below wo.heap.size wo wb := bA.grown hgb bA.size (fun j hj => (ha.lt j hj).1))
                    | fail)
                  refine (specPerf hb hV2).mono ?_
                  rintro e wc ⟨rfl, bC⟩
                  rw [hpq]
                  have hb2 := hb.stay bC
                  have bD := bThen bB bC
                  clear ha hga hla' hna bA hb hgb hlb bB bC
                  go_wp2_with fail
                  refine (hih.out wc vb hb2 (hb2.somP (by simp))).mono ?_
                  rintro e wd ⟨vd, rfl, hO2, b2, hds⟩
                  have bE := bThen bD b2
                  go_wp2_with (first
                    | (at_builtin; refine app_sss rfl (.tmp 61) (.tmp 67) rfl rfl ((ho.stay bD).stay b2) rfl hO2 hds (Nat.le_trans bb.size bD.size) bD.size (Nat.le_trans bb.size bE.size) hx9 hy9 ?_; intro v3 w3 hO3 hg3 hl3 hn3)
                    | fail)
                  have bb3 : Below w.heap.size w w3 := oss_below (bThen bb bE) ((ho.stay bD).stay b2) hg3 (Nat.le_trans bb.size bE.size) (Nat.le_refl _)
                  have hs3 : Som v3 := oss_som hO3 (hn3 (som_ne hos))
                  rw [← hlast.out] at hO3
                  clear hb2 bD hO2 b2 bE hg3 hl3 ho
                  go_wp2
                  go_roundw
                  case rel => exact ⟨X + 1, ri + 1 + 1, by omega, .inl (by omega), by have := hxi.out; show ri + 1 + 1 = ((X + 1 : Nat) : Int); omega, rfl, hO3, hs3, bb3⟩
                  case measure => simp only [intOf]; have := hxi.out; omega

            · have hs1 : (xi != 1) = true := by rw [bne_iff_ne]; omega
              have hs2 : (xi != ri + 1) = true := by rw [bne_iff_ne]; omega
              have hgX : g X = [] := by rw [eg.out]; exact if_neg hc
              rw [hgX, List.append_nil] at hlast
              replace hlast := Lib.hid hlast
              clear hgX hc
              go_wp2
              go_roundw
              case rel => exact ⟨X + 1, xi + 1, by omega, .inl (by omega), by have := hxi.out; show xi + 1 = ((X + 1 : Nat) : Int); omega, rfl, by rw [hlast.out]; exact ho, hos, bb⟩
              case measure => simp only [intOf]; have := hxi.out; omega
          · have hu := (not_congr (hU.out X)).1 hlt
            rw [show X - a = U + 1 - a from by omega] at ho
            by_cases hq : X ≤ r + 1
            · have d1 : decide (xi ≤ ri + 1) = true := decide_eq_true (by omega)
              have d2 : decide (ri + xi ≤ ni) = false := decide_eq_false (by omega)
              have e1 : IntKind.i64.wrap (ri + xi) = ri + xi := IntWalk.i64_in _ (by omega)
              go_wp2
              go_ret
              exact ⟨_, rfl, ho, bb, hos⟩
            · have d1 : decide (xi ≤ ri + 1) = false := decide_eq_false (by omega)
              go_wp2
              go_ret
              exact ⟨_, rfl, ho, bb, hos⟩

      · obtain ⟨y, HY, iy, cy⟩ := hF.atLast (by omega)
        obtain rfl : y = ai := by
          have h1 := hB.each y (mem_getD (k := fs.length - 1) (by omega) HY.out)
          rw [hai, ea, lastN, if_neg hz, ← HY.out]; omega
        have cy0 : (w.alloc (.cells #[] 22)).cell? ⟨gOf (some ⟨hg0, 0, none⟩), fs.length - 1, none⟩ = some (.int .i64 y) := cell_alloc cy
        have hdz : decide ((0 : Int) < (fs.length : Int)) = true := decide_eq_true (by omega)
        have hdz2 : decide (0 < fs.length) = true := decide_eq_true (by omega)
        have ha2 : (a : Int) ≤ y := by omega
        have ha3 : y ≤ (a : Int) := by omega
        clear hai
        replace ea := Lib.hid ea
        clear hz
        go_enter Try.func59, Try.ntmps59
        go_wp2
        skip
        go_loopw [7, 9] (fun o x wr => ∃ (X : Nat) (xi : Int), a ≤ X ∧ (X ≤ U + 1 ∨ X = a) ∧ Hid (xi = (X : Int)) ∧ x = .int .i64 xi ∧ OSS wr w.heap.size wr.heap.size o (upL g a (X - a)) ∧ Som o ∧ Below w.heap.size w wr) (fun _ x _ => U + 1 - (intOf x).toNat)
        case atStart => exact ⟨a, y, Nat.le_refl _, .inr rfl, (show y = (a : Int) by omega), rfl, by rw [Nat.sub_self]; exact hO0, hs0, bst⟩
        case round =>
          clear hO0 hs0 bst
          obtain ⟨wo, rfl⟩ : ∃ wo, wo = wr := ⟨_, rfl⟩
          obtain ⟨X, xi, hX2, hX, hxi, rfl, ho, hos, bb⟩ := hrel
          have hx1 : xi ≤ (X : Int) := by have := hxi.out; omega
          have hx2 : (X : Int) ≤ xi := by have := hxi.out; omega
          by_cases hlt : X ≤ U
          · have hu := (hU.out X).1 hlt
            have d1 : decide (xi ≤ ri + 1) = true := decide_eq_true (by omega)
            have d2 : decide (ri + xi ≤ ni) = true := decide_eq_true (by omega)
            have e1 : IntKind.i64.wrap (ri + xi) = ri + xi := IntWalk.i64_in _ (by omega)
            have e5 : IntKind.i64.wrap (xi + 1) = xi + 1 := IntWalk.i64_in _ (by omega)
            have hlast : upL g a (X + 1 - a) = upL g a (X - a) ++ g X := by
              rw [show X + 1 - a = (X - a) + 1 from by omega, upL, show a + (X - a) = X from by omega]
            by_cases hc : X = a ∨ X = r + 1
            · have hn24' : X ≤ 24 := by omega
              have hB2 := hB.snoc (X := X) (by omega) hn24'
              rw [← hxi.out] at hB2
              have hV2 := hB2.val (by omega)
              have hpq := perfQ_eq hV2
              have hgX : g X = if perfQ (fs ++ [xi]) = true then perS f n (fs ++ [xi]) (r + X) else [] := by rw [eg.out, hxi.out]; exact if_pos hc
              have hF1 : OI wo bh (.slice (some ⟨hg0, 0, none⟩) fs.length hc0) fs := hF.stay bb
              have hfl8 : fs.length ≤ 24 := by have := hB.len; omega
              have hmono := upL_mono g a (X + 1 - a) (U + 1 - a - (X + 1 - a))
              rw [show X + 1 - a + (U + 1 - a - (X + 1 - a)) = U + 1 - a from by omega, hlast, List.length_append, hgX] at hmono
              have hx9 : (upL g a (X - a)).length ≤ 1000000000 := by omega
              by_cases hxa : xi = y
              · subst hxa
                cases hp : perfQ (fs ++ [xi])
                · rw [hp] at hpq
                  replace hlast := Lib.hid (show upL g a (X + 1 - a) = upL g a (X - a) from by rw [hlast, hgX, if_neg (by rw [hp]; exact Bool.false_ne_true), List.append_nil])
                  clear hmono hgX
                  go_wp2_with (first
                    | (at_builtin; refine app_intsS rfl (.tmp 53) (.tmp 54) rfl rfl (oi_empty wo _ (Nat.le_refl _)) rfl (hF1.stay (bAl (Below.refl _ _) _)) hsom (by simp) (by simp) hfl9 ?_; intro va wa ha hga hla' hna; rw [List.nil_append] at ha; have bA : Below wo.heap.size wo wa := (bAl (Below.refl _ _) _).grown hga (by simp) (fun j hj => by cases hj; exact Nat.le_refl _))
                    | (at_builtin; refine app_int_at rfl (.tmp 55) (.tmp 57) rfl rfl ha rfl bA.size (by omega) ?_; intro vb wb hb hgb hlb; have bB : Below wo.heap.size wo wb := bA.grown hgb bA.size (fun j hj => (ha.lt j hj).1))
                    | fail)
                  refine (specPerf hb hV2).mono ?_
                  rintro e wc ⟨rfl, bC⟩
                  rw [hpq]
                  have bD := bThen bB bC
                  have ho2 := (ho.stay bD).mono bD.size
                  have bb2 := bThen bb bD
                  clear ha hga hla' hna bA hb hgb hlb bB bC bD
                  go_wp2
                  go_roundw
                  case rel => exact ⟨X + 1, xi + 1, by omega, .inl (by omega), by have := hxi.out; show xi + 1 = ((X + 1 : Nat) : Int); omega, rfl, by rw [hlast.out]; exact ho2, hos, bb2⟩
                  case measure => simp only [intOf]; have := hxi.out; omega
                · rw [if_pos hp] at hgX hmono
                  rw [hp] at hpq
                  rw [hgX] at hlast
                  have hih := fun (wb : World) (vb : Value) (k2 : OI wb wo.heap.size vb (fs ++ [xi])) (k3 : Som vb) =>
                    ih n (r + X) ni (ri + xi) wb wo.heap.size vb (fs ++ [xi]) (by omega) (by omega) (by omega) (by omega) hn24 hB2 k2 k3 (by omega)
                  have hy9 : (perS f n (fs ++ [xi]) (r + X)).length ≤ 1000000000 := by omega
                  have hih := Lib.hid hih
                  replace hlast := Lib.hid hlast
                  clear hmono hgX
                  go_wp2_with (first
                    | (at_builtin; refine app_intsS rfl (.tmp 53) (.tmp 54) rfl rfl (oi_empty wo _ (Nat.le_refl _)) rfl (hF1.stay (bAl (Below.refl _ _) _)) hsom (by simp) (by simp) hfl9 ?_; intro va wa ha hga hla' hna; rw [List.nil_append] at ha; have bA : Below wo.heap.size wo wa := (bAl (Below.refl _ _) _).grown hga (by simp) (fun j hj => by cases hj; exact Nat.le_refl _))
                    | (at_builtin; refine app_int_at rfl (.tmp 55) (.tmp 57) rfl rfl ha rfl bA.size (by omega) ?_; intro vb wb hb hgb hlb; have bB : Below wo.heap.size wo wb := bA.grown hgb bA.size (fun j hj => (ha.lt j hj).1))
                    | fail)
                  refine (specPerf hb hV2).mono ?_
                  rintro e wc ⟨rfl, bC⟩
                  rw [hpq]
                  have hb2 := hb.stay bC
                  have bD := bThen bB bC
                  clear ha hga hla' hna bA hb hgb hlb bB bC
                  go_wp2_with fail
                  refine (hih.out wc vb hb2 (hb2.somP (by simp))).mono ?_
                  rintro e wd ⟨vd, rfl, hO2, b2, hds⟩
                  have bE := bThen bD b2
                  go_wp2_with (first
                    | (at_builtin; refine app_sss rfl (.tmp 61) (.tmp 67) rfl rfl ((ho.stay bD).stay b2) rfl hO2 hds (Nat.le_trans bb.size bD.size) bD.size (Nat.le_trans bb.size bE.size) hx9 hy9 ?_; intro v3 w3 hO3 hg3 hl3 hn3)
                    | fail)
                  have bb3 : Below w.heap.size w w3 := oss_below (bThen bb bE) ((ho.stay bD).stay b2) hg3 (Nat.le_trans bb.size bE.size) (Nat.le_refl _)
                  have hs3 : Som v3 := oss_som hO3 (hn3 (som_ne hos))
                  rw [← hlast.out] at hO3
                  clear hb2 bD hO2 b2 bE hg3 hl3 ho
                  go_wp2
                  go_roundw
                  case rel => exact ⟨X + 1, xi + 1, by omega, .inl (by omega), by have := hxi.out; show xi + 1 = ((X + 1 : Nat) : Int); omega, rfl, hO3, hs3, bb3⟩
                  case measure => simp only [intOf]; have := hxi.out; omega

              · have hs1 : (xi != y) = true := by rw [bne_iff_ne]; exact hxa
                obtain rfl : xi = ri + 1 := by omega
                clear hxa
                cases hp : perfQ (fs ++ [ri + 1])
                · rw [hp] at hpq
                  replace hlast := Lib.hid (show upL g a (X + 1 - a) = upL g a (X - a) from by rw [hlast, hgX, if_neg (by rw [hp]; exact Bool.false_ne_true), List.append_nil])
                  clear hmono hgX
                  go_wp2_with (first
                    | (at_builtin; refine app_intsS rfl (.tmp 53) (.tmp 54) rfl rfl (oi_empty wo _ (Nat.le_refl _)) rfl (hF1.stay (bAl (Below.refl _ _) _)) hsom (by simp) (by simp) hfl9 ?_; intro va wa ha hga hla' hna; rw [List.nil_append] at ha; have bA : Below wo.heap.size wo wa := (bAl (Below.refl _ _) _).grown hga (by simp) (fun j hj => by cases hj; exact Nat.le_refl _))
                    | (at_builtin; refine app_int_at rfl (.tmp 55) (.tmp 57) rfl rfl ha rfl bA.size (by omega) ?_; intro vb wb hb hgb hlb; have bB : Below wo.heap.size wo wb := bA.grown hgb bA.size (fun j hj => (ha.lt j hj).1))
                    | fail)
                  refine (specPerf hb hV2).mono ?_
                  rintro e wc ⟨rfl, bC⟩
                  rw [hpq]
                  have bD := bThen bB bC
                  have ho2 := (ho.stay bD).mono bD.size
                  have bb2 := bThen bb bD
                  clear ha hga hla' hna bA hb hgb hlb bB bC bD
                  go_wp2
                  go_roundw
                  case rel => exact ⟨X + 1, ri + 1 + 1, by omega, .inl (by omega), by have := hxi.out; show ri + 1 + 1 = ((X + 1 : Nat) : Int); omega, rfl, by rw [hlast.out]; exact ho2, hos, bb2⟩
                  case measure => simp only [intOf]; have := hxi.out; omega
                · rw [if_pos hp] at hgX hmono
                  rw [hp] at hpq
                  rw [hgX] at hlast
                  have hih := fun (wb : World) (vb : Value) (k2 : OI wb wo.heap.size vb (fs ++ [ri + 1])) (k3 : Som vb) =>
                    ih n (r + X) ni (ri + (ri + 1)) wb wo.heap.size vb (fs ++ [ri + 1]) (by omega) (by omega) (by omega) (by omega) hn24 hB2 k2 k3 (by omega)
                  have hy9 : (perS f n (fs ++ [ri + 1]) (r + X)).length ≤ 1000000000 := by omega
                  have hih := Lib.hid hih
                  replace hlast := Lib.hid hlast
                  clear hmono hgX
                  go_wp2_with (first
                    | (at_builtin; refine app_intsS rfl (.tmp 53) (.tmp 54) rfl rfl (oi_empty wo _ (Nat.le_refl _)) rfl (hF1.stay (bAl (Below.refl _ _) _)) hsom (by simp) (by simp) hfl9 ?_; intro va wa ha hga hla' hna; rw [List.nil_append] at ha; have bA : Below wo.heap.size wo wa := (bAl (Below.refl _ _) _).grown hga (by simp) (fun j hj => by cases hj; exact Nat.le_refl _))
                    | (at_builtin; refine app_int_at rfl (.tmp 55) (.tmp 57) rfl rfl ha rfl bA.size (by omega) ?_; intro vb wb hb hgb hlb; have bB : Below wo.heap.size wo wb := bA.grown hgb bA.size (fun j hj => (ha.lt j hj).1))
                    | fail)
                  refine (specPerf hb hV2).mono ?_
                  rintro e wc ⟨rfl, bC⟩
                  rw [hpq]
                  have hb2 := hb.stay bC
                  have bD := bThen bB bC
                  clear ha hga hla' hna bA hb hgb hlb bB bC
                  go_wp2_with fail
                  refine (hih.out wc vb hb2 (hb2.somP (by simp))).mono ?_
                  rintro e wd ⟨vd, rfl, hO2, b2, hds⟩
                  have bE := bThen bD b2
                  go_wp2_with (first
                    | (at_builtin; refine app_sss rfl (.tmp 61) (.tmp 67) rfl rfl ((ho.stay bD).stay b2) rfl hO2 hds (Nat.le_trans bb.size bD.size) bD.size (Nat.le_trans bb.size bE.size) hx9 hy9 ?_; intro v3 w3 hO3 hg3 hl3 hn3)
                    | fail)
                  have bb3 : Below w.heap.size w w3 := oss_below (bThen bb bE) ((ho.stay bD).stay b2) hg3 (Nat.le_trans bb.size bE.size) (Nat.le_refl _)
                  have hs3 : Som v3 := oss_som hO3 (hn3 (som_ne hos))
                  rw [← hlast.out] at hO3
                  clear hb2 bD hO2 b2 bE hg3 hl3 ho
                  go_wp2
                  go_roundw
                  case rel => exact ⟨X + 1, ri + 1 + 1, by omega, .inl (by omega), by have := hxi.out; show ri + 1 + 1 = ((X + 1 : Nat) : Int); omega, rfl, hO3, hs3, bb3⟩
                  case measure => simp only [intOf]; have := hxi.out; omega

            · have hs1 : (xi != y) = true := by rw [bne_iff_ne]; omega
              have hs2 : (xi != ri + 1) = true := by rw [bne_iff_ne]; omega
              have hgX : g X = [] := by rw [eg.out]; exact if_neg hc
              rw [hgX, List.append_nil] at hlast
              replace hlast := Lib.hid hlast
              clear hgX hc
              go_wp2
              go_roundw
              case rel => exact ⟨X + 1, xi + 1, by omega, .inl (by omega), by have := hxi.out; show xi + 1 = ((X + 1 : Nat) : Int); omega, rfl, by rw [hlast.out]; exact ho, hos, bb⟩
              case measure => simp only [intOf]; have := hxi.out; omega
          · have hu := (not_congr (hU.out X)).1 hlt
            rw [show X - a = U + 1 - a from by omega] at ho
            by_cases hq : X ≤ r + 1
            · have d1 : decide (xi ≤ ri + 1) = true := decide_eq_true (by omega)
              have d2 : decide (ri + xi ≤ ni) = false := decide_eq_false (by omega)
              have e1 : IntKind.i64.wrap (ri + xi) = ri + xi := IntWalk.i64_in _ (by omega)
              go_wp2
              go_ret
              exact ⟨_, rfl, ho, bb, hos⟩
            · have d1 : decide (xi ≤ ri + 1) = false := decide_eq_false (by omega)
              go_wp2
              go_ret
              exact ⟨_, rfl, ho, bb, hos⟩

end Go.Proofs.Ytbndfohnkdhgeaa
