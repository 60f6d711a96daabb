/- Contract of spec.l05Sums: the table of the ways to the sums of a valid set. -/
import Derived.Test.YtbndfohnkdhgeaaSumsMath
import Derived.Test.YtbndfohnkdhgeaaAppAll
namespace Go.Proofs.Ytbndfohnkdhgeaa
open Go.RowKit

theorem nxt_bd {T : Nat} {f : Int → Int} {x P : Int} {two : Bool} {n : Nat} (hf : ∀ k, 0 ≤ f k ∧ f k ≤ P) (i : Nat) : 0 ≤ nxtAt T f x two n i ∧ nxtAt T f x two n i ≤ 3 * P := by
  have h1 := hf ((i : Int) - T)
  have h2 := hf ((i : Int) - x - T)
  have h3 := hf ((i : Int) + x - T)
  unfold nxtAt
  split <;> split <;> omega

set_option maxRecDepth 100000 in
set_option maxHeartbeats 2000000 in
theorem specSums {w : World} {base : Nat} {v : Value} {xs : List Int} (h : OI w base v xs) (two : Bool) (hl : xs.length ≤ 8) (hx : ∀ x ∈ xs, 1 ≤ x ∧ x ≤ 1000) {T : Nat} (hT : (T : Int) = preS xs xs.length) :
    Calls Try.prog 51 #[v, .bool two] w (RetOI w (tab (sft T (wF two xs xs.length)) (2 * T + 1))) := by
  obtain ⟨ad, cap, rfl, _⟩ := h.shape
  have hTb : T ≤ 8000 := by have := (preS_nonneg hx xs.length (Nat.le_refl _)).2; omega
  replace hT := Lib.hid hT
  go_enter Try.func51, Try.ntmps51
  go_wp2
  go_loop [5, 6] (fun t i => ∃ k : Nat, k ≤ xs.length ∧ i = .int .i64 (k : Int) ∧ t = .int .i64 (preS xs k)) (fun _ i => xs.length - (intOf i).toNat)
  case atStart => exact ⟨0, Nat.zero_le _, rfl, rfl⟩
  case round =>
    obtain ⟨k, hk, rfl, rfl⟩ := hrel
    by_cases hlt : k < xs.length
    · obtain ⟨x, HX, ix, c1⟩ := h.at hlt
      have hp := preS_nonneg hx k (by omega)
      have hxb := hx x (mem_getD hlt HX.out)
      obtain ⟨s, hs⟩ : ∃ s, s = preS xs k := ⟨_, rfl⟩
      rw [← hs] at hp ⊢
      have hs1 : preS xs (k + 1) = s + x := by rw [preS, ← hs, ← HX.out]
      have e : IntKind.i64.wrap (s + x) = s + x := IntWalk.i64_in _ (by omega)
      replace hs1 := Lib.hid hs1
      clear hs
      go_wp2
      go_round
      case rel => exact ⟨k + 1, by omega, by go_num, by rw [hs1.out]⟩
      case measure => simp only [intOf]; omega
    · obtain rfl : k = xs.length := by omega
      rw [← hT.out]
      have e1 : IntKind.i64.wrap (2 * (T : Int)) = 2 * T := IntWalk.i64_in _ (by omega)
      have e2 : IntKind.i64.wrap (2 * (T : Int) + 1) = 2 * T + 1 := IntWalk.i64_in _ (by omega)
      obtain ⟨i0, hi, hz0, hz1, hz2⟩ := info_parts info_int
      go_wp2_with (first | (at_make; refine make_ints rfl (.tmp 25) (.tmp 25) rfl (2 * T + 1) rfl rfl (by omega) (by omega) (by omega) ?_; intro oad w1 hmade hb1; obtain ⟨z0, _, iz, cz, fz⟩ := hmade.atN (k := T) (by simp) (by omega)) | fail)
      have hm0 : OI (w1.setCell ⟨gOf oad, T, none⟩ (.int .i64 1)) w.heap.size (.slice oad (2 * T + 1) (2 * T + 1)) (tab (sft T (wF two xs 0)) (2 * T + 1)) := by
        have h1 := (hmade.storeN (by simp) (show T < 2 * T + 1 by omega) 1).1
        rw [tab_zero, tab_set] at h1
        have e : ∀ i, i < 2 * T + 1 → (if i = T then (1 : Int) else 0) = sft T (wF two xs 0) i := fun i _ => by
          rw [sft, wF_zero]
          by_cases q : i = T
          · rw [if_pos q, if_pos (by omega)]
          · rw [if_neg q, if_neg (by omega)]
        rw [tab_congr e] at h1
        exact h1
      have hb2 : Below w.heap.size w (w1.setCell ⟨gOf oad, T, none⟩ (.int .i64 1)) := hb1.setCell (hmade.storeN (by simp) (show T < 2 * T + 1 by omega) 1).2.1 _
      clear hmade hb1 cz fz iz e1 e2
      go_loopw [7, 8] (fun o i wr => ∃ (k : Nat) (oa : Option Addr) (oc : Nat), k ≤ xs.length ∧ i = .int .i64 (k : Int) ∧ o = .slice oa (2 * T + 1) oc ∧ OI wr w.heap.size (.slice oa (2 * T + 1) oc) (tab (sft T (wF two xs k)) (2 * T + 1)) ∧ Below w.heap.size w wr) (fun _ i _ => xs.length - (intOf i).toNat)
      case atStart => exact ⟨0, oad, _, Nat.zero_le _, rfl, rfl, hm0, hb2⟩
      case round =>
        clear hm0 hb2
        obtain ⟨wo, rfl⟩ : ∃ wo, wo = wr := ⟨_, rfl⟩
        obtain ⟨k, oa, oc, hk, rfl, rfl, ho, bb⟩ := hrel
        by_cases hlt : k < xs.length
        · obtain ⟨x, HX, ix, c1⟩ := (h.stay bb).at hlt
          have hxb := hx x (mem_getD hlt HX.out)
          obtain ⟨c, rfl⟩ : ∃ c : Nat, x = (c : Int) := ⟨x.toNat, by omega⟩
          have hfb := wF_bd two xs k
          have hP : p3 k ≤ 2187 := p3_le (j := 7) (by omega)
          have hS0 := wF_sup hx two k (by omega)
          have hS1 : preS xs (k + 1) = preS xs k + c := by rw [preS, ← HX.out]
          have hS2 := preS_mono hx (k + 1) (xs.length - (k + 1)) (by omega)
          rw [show k + 1 + (xs.length - (k + 1)) = xs.length from by omega, ← hT.out, hS1] at hS2
          have hSn := (preS_nonneg hx k (by omega)).1
          have hend := fun N hN i hi => nxt_end (T := T) (xs := xs) (k := k) two (fun n hn => hS0 n (by omega)) (N := N) hN i hi (by rw [← HX.out]; omega)
          rw [← HX.out] at hend
          obtain ⟨S, eS⟩ : ∃ S, S = preS xs k := ⟨_, rfl⟩
          obtain ⟨f, ef⟩ : ∃ f, f = wF two xs k := ⟨_, rfl⟩
          rw [← eS] at hS0 hS2 hSn
          rw [← ef] at hS0 hfb ho hend
          replace eS := Lib.hid eS
          replace ef := Lib.hid ef
          replace hend := Lib.hid hend
          replace HX := Lib.hid HX.out
          clear hS1
          have hst : Hid (∀ i, nxtAt T f c two 0 i = sft T f i) := fun i => nxt_zero two (by omega) (fun n hn => hS0 n (by omega)) i
          go_wp2_with (first
            | (at_builtin; refine app_ints rfl _ _ rfl rfl (oi_empty wo _ (Nat.le_refl _)) rfl (ho.stay (bAl (Below.refl _ _) _)) (by rw [tab_length]; omega) (by simp) (by simp) (by rw [tab_length]; omega) ?_; intro vn w2 hn2 hg2 hl2; rw [List.nil_append] at hn2; obtain ⟨na, nc, rfl⟩ := hn2.shapeN (tab_length _ _))
            | fail)
          have hb2 : Below wo.heap.size wo w2 := (bAl (Below.refl _ _) _).grown hg2 (by simp) (fun j hj => by cases hj; exact Nat.le_refl _)
          have ho2 := ho.stay hb2
          have hap : Apart (.slice oa (2 * T + 1) oc) (.slice na (2 * T + 1) nc) := apart_new ho hn2
          clear hg2 hl2
          replace hap := Lib.hid hap
          go_loopw [10] (fun i wi => ∃ n : Nat, n ≤ 2 * T + 1 ∧ i = .int .i64 (n : Int) ∧ OI wi wo.heap.size (.slice na (2 * T + 1) nc) (tab (nxtAt T f c two n) (2 * T + 1)) ∧ OI wi w.heap.size (.slice oa (2 * T + 1) oc) (tab (sft T f) (2 * T + 1)) ∧ Below wo.heap.size wo wi) (fun i _ => 2 * T + 1 - (intOf i).toNat)
          case atStart => exact ⟨0, Nat.zero_le _, rfl, by rw [tab_congr (fun i _ => hst.out i)]; exact hn2, ho2, hb2⟩
          case round =>
            clear hn2 ho2 hb2
            obtain ⟨n, hn, rfl, hnx, hwy, hbi⟩ := hrel
            by_cases hlt2 : n < 2 * T + 1
            · obtain ⟨v, HV, iv, cv, _⟩ := hwy.atN (tab_length _ _) hlt2
              have hv : v = f ((n : Int) - T) := HV.out.trans (tab_getD hlt2)
              by_cases hv0 : v = 0
              · have hz : (v == 0) = true := by simpa using hv0
                have hnx2 := hnx
                rw [tab_congr (fun i _ => nxt_same two (hv.symm.trans hv0) i)] at hnx2
                replace hv := Lib.hid hv
                clear hv0 hnx
                go_wp2
                go_roundw
                case rel => exact ⟨n + 1, by omega, by go_num, hnx2, hwy, hbi⟩
                case measure => simp only [intOf]; omega
              · have hz : (v == 0) = false := by simpa using hv0
                have hin : -S ≤ (n : Int) - T ∧ (n : Int) - T ≤ S := by
                  rcases Classical.em (-S ≤ (n : Int) - T ∧ (n : Int) - T ≤ S) with q | q
                  · exact q
                  · exact absurd (hv.trans (hS0 _ q)) hv0
                obtain ⟨x', HX', _, c1'⟩ := (h.stay (bThen bb hbi)).at hlt
                obtain rfl : x' = c := HX'.out.trans HX.out.symm
                obtain ⟨u, HU, iu, cu, fu⟩ := hnx.atN (k := n + c) (tab_length _ _) (by omega)
                rw [show ((n + c : Nat) : Int) = (n : Int) + (c : Int) from by omega] at iu
                have hu : u = nxtAt T f c two n (n + c) := HU.out.trans (tab_getD (by omega))
                have hub := nxt_bd (T := T) (x := c) (two := two) (n := n) hfb (n + c)
                have hvb := hfb ((n : Int) - T)
                rw [← hu] at hub
                rw [← hv] at hvb
                have e1 : IntKind.i64.wrap ((n : Int) + (c : Int)) = n + c := IntWalk.i64_in _ (by omega)
                have e2 : IntKind.i64.wrap (u + v) = u + v := IntWalk.i64_in _ (by omega)
                have hst1 := hnx.storeN (k := n + c) (tab_length _ _) (by omega) (u + v)
                have hcg : ∀ i, i < 2 * T + 1 → (if i = n + c then u + v else nxtAt T f c two n i) = halfAt T f c two n i := fun i _ => by
                  rw [halfAt]
                  by_cases q : i = n + c
                  · rw [if_pos q, if_pos (by omega), q, hu, hv]
                  · rw [if_neg q, if_neg (by omega)]
                rw [tab_set, tab_congr hcg] at hst1
                have hb3 : Below wo.heap.size wo (wr.setCell ⟨gOf na, n + c, none⟩ (.int .i64 (u + v))) := hbi.setCell hst1.2.1 _
                have hn3 : OI (wr.setCell ⟨gOf na, n + c, none⟩ (.int .i64 (u + v))) wo.heap.size (.slice na (2 * T + 1) nc) (tab (halfAt T f c two n) (2 * T + 1)) := hst1.1
                have hw3 : OI (wr.setCell ⟨gOf na, n + c, none⟩ (.int .i64 (u + v))) w.heap.size (.slice oa (2 * T + 1) oc) (tab (sft T f) (2 * T + 1)) := hwy.keptBy hap.out hst1.2.2
                clear hst1 hcg hnx hwy hv0
                replace hn3 := Lib.hid hn3
                replace hw3 := Lib.hid hw3
                replace hu := Lib.hid hu
                replace hv := Lib.hid hv
                cases two
                · go_wp2
                  go_region
                  go_wp2
                  go_roundw
                  case rel => exact ⟨n + 1, by omega, by go_num, by rw [← tab_congr (fun i _ => half_one i)]; exact hn3.out, hw3.out, hb3.drew⟩
                  case measure => simp only [intOf]; omega
                · obtain ⟨m, hm⟩ : ∃ m : Nat, (m : Int) = n - c := ⟨((n : Int) - c).toNat, by omega⟩
                  obtain ⟨x2, HX2, _, c2⟩ := (h.stay (bThen bb hb3)).at hlt
                  obtain rfl : x2 = c := HX2.out.trans HX.out.symm
                  obtain ⟨v2, HV2, iv2, cv2, _⟩ := hw3.out.atN (tab_length _ _) hlt2
                  obtain rfl : v2 = v := (HV2.out.trans (tab_getD hlt2)).trans hv.out.symm
                  obtain ⟨u2, HU2, iu2, cu2, fu2⟩ := hn3.out.atN (k := m) (tab_length _ _) (by omega)
                  have hu2 : u2 = halfAt T f c true n m := HU2.out.trans (tab_getD (by omega))
                  have hub2 : 0 ≤ u2 ∧ u2 ≤ 20000 := by
                    have := nxt_bd (T := T) (x := c) (two := true) (n := n) hfb m
                    rw [hu2, halfAt, if_neg (by omega)]
                    omega
                  have e3 : IntKind.i64.wrap ((n : Int) - (c : Int)) = m := by rw [← hm]; exact IntWalk.i64_in _ (by omega)
                  have e4 : IntKind.i64.wrap (u2 + v2) = u2 + v2 := IntWalk.i64_in _ (by omega)
                  have hst2 := hn3.out.storeN (k := m) (tab_length _ _) (by omega) (u2 + v2)
                  have hcg : ∀ i, i < 2 * T + 1 → (if i = m then u2 + v2 else halfAt T f c true n i) = nxtAt T f c true (n + 1) i := fun i _ => by
                    rw [← half_two (by omega) i]
                    by_cases q : i = m
                    · rw [if_pos q, if_pos (by omega), q, hu2, hv.out]
                    · rw [if_neg q, if_neg (by omega)]
                  rw [tab_set, tab_congr hcg] at hst2
                  have hw4 := hw3.out.keptBy hap.out hst2.2.2
                  replace hst2 := Lib.hid hst2
                  replace hw4 := Lib.hid hw4
                  replace hu2 := Lib.hid hu2
                  replace hm := Lib.hid hm
                  clear hcg
                  go_wp2
                  go_region
                  go_wp2
                  go_region
                  go_wp2
                  go_roundw
                  case rel => exact ⟨n + 1, by omega, by go_num, hst2.out.1, hw4.out, (hb3.setCell hst2.out.2.1 _).drew.drew⟩
                  case measure => simp only [intOf]; omega
            · obtain rfl : n = 2 * T + 1 := by omega
              rw [tab_congr (fun i hi => hend.out _ rfl i hi)] at hnx
              have hbb := bThen bb hbi
              have hnx2 := hnx.mono (base' := w.heap.size) bb.size
              clear hnx
              go_wp2
              go_roundw
              case rel => exact ⟨k + 1, na, nc, by omega, by go_num, rfl, hnx2, hbb⟩
              case measure => simp only [intOf]; omega
        · obtain rfl : k = xs.length := by omega
          go_wp2
          go_ret
          exact ⟨_, rfl, ho, bb⟩
end Go.Proofs.Ytbndfohnkdhgeaa
