/- Contract of spec.ParseUint. No conditions. -/
import Derived.Test.YthonlkconobdfaaDoorPu
namespace Go.Proofs.YthonlkconobdfaaDoor
open Go.RowKit

theorem list_at {s : ByteArray} {k : Nat} (h : k < s.size) : s.data.toList[k]? = some (s[k]'h) := by
  rw [Array.getElem?_toList, Array.getElem?_eq_getElem h]; rfl
theorem acc_lt {s : ByteArray} {k acc : Nat} (h : Lib.decFrom 0 (s.data.toList.take k) = some acc) (hk : k ≤ 10) : acc < 10000000000 := by
  have h1 := Lib.decFrom_lt _ 0 acc h
  have h2 : (s.data.toList.take k).length ≤ 10 := by rw [List.length_take]; omega
  have h3 := Nat.pow_le_pow_right (n := 10) (by decide) h2
  have e : (10 : Nat) ^ 10 = 10000000000 := by decide
  omega
theorem dec_step {s : ByteArray} {k acc d : Nat} (h : k < s.size) (ha : Lib.decFrom 0 (s.data.toList.take k) = some acc) (hx : cd s k = 48 + (d : Int)) (hd : d ≤ 9) : Lib.decFrom 0 (s.data.toList.take (k + 1)) = some (acc * 10 + d) := by
  refine Lib.decFrom_take _ k 0 acc (s[k]'h) d ha (list_at h) ?_
  have hc := cd_eq h
  rw [Lib.digitVal, if_pos (by omega)]
  congr 1
  omega
theorem dec_bad {s : ByteArray} {k : Nat} (h : k < s.size) (hx : cd s k < 48 ∨ 57 < cd s k) (u : Nat) (hd : Lib.decFrom 0 s.data.toList = some u) : False := by
  obtain ⟨d, q⟩ := Lib.digit_of_decFrom _ _ _ hd k _ (list_at h)
  have := Lib.digitVal_eq q
  have hc := cd_eq h
  omega

set_option maxRecDepth 100000 in
set_option maxHeartbeats 2000000 in
theorem specPu (s : ByteArray) (w : World) : Calls Tryd.prog 22 #[.string s] w (RetPU w s) := by
  by_cases h2 : 10 < s.size
  · have HN := Lib.hid (puO_no (s := s) fun u a b _ _ => by have := (itx_small a).2; rw [b] at this; omega)
    have hd : decide ((10 : Int) < (s.size : Int)) = true := decide_eq_true (by omega)
    go_enter Tryd.func22, Tryd.ntmps22
    go_wp2
    go_ret2
    exact ⟨ret_pu HN.out, Below.refl _ _⟩
  · have hd2 : decide ((10 : Int) < (s.size : Int)) = false := decide_eq_false (by omega)
    go_enter Tryd.func22, Tryd.ntmps22
    go_wp2
    go_loop [4, 5] (fun n i => ∃ k acc : Nat, k ≤ s.size ∧ i = .int .i64 (k : Int) ∧ n = .int .i64 (acc : Int) ∧ Hid (Lib.decFrom 0 (s.data.toList.take k) = some acc)) (fun _ i => s.size - (intOf i).toNat)
    case atStart => exact ⟨0, 0, Nat.zero_le _, rfl, rfl, rfl⟩
    case round =>
      obtain ⟨k, acc, hk, rfl, rfl, HA⟩ := hrel
      have hacc := acc_lt HA.out (by omega)
      by_cases hlt : k < s.size
      · have h1 : (0 : Int) ≤ (k : Int) := by omega
        have h3 : (k : Int) < (s.size : Int) := by omega
        have hcd := cd_eq hlt
        have hcb := cd_bd s k
        obtain ⟨x, hx⟩ : ∃ x, x = cd s k := ⟨_, rfl⟩
        rw [← hx] at hcd hcb
        have HX := Lib.hid hx
        clear hx
        by_cases hlo : x < 48
        · have HN := Lib.hid (puO_no (s := s) fun u _ _ c _ => dec_bad hlt (.inl (by rw [← HX.out]; exact hlo)) u c)
          have dlo : decide (x < 48) = true := decide_eq_true hlo
          go_wp2
          go_ret2
          exact ⟨ret_pu HN.out, Below.refl _ _⟩
        · have dlo : decide (x < 48) = false := decide_eq_false hlo
          by_cases hhi : 57 < x
          · have HN := Lib.hid (puO_no (s := s) fun u _ _ c _ => dec_bad hlt (.inr (by rw [← HX.out]; exact hhi)) u c)
            have dhi : decide (57 < x) = true := decide_eq_true hhi
            go_wp2
            go_ret2
            exact ⟨ret_pu HN.out, Below.refl _ _⟩
          · have dhi : decide (57 < x) = false := decide_eq_false hhi
            obtain ⟨d, hd⟩ : ∃ d : Nat, x = 48 + (d : Int) := ⟨(x - 48).toNat, by omega⟩
            have hst := Lib.hid (dec_step hlt HA.out (by rw [← HX.out]; exact hd) (show d ≤ 9 by omega))
            replace hd := Lib.hid hd
            have e1 : IntKind.i64.wrap (10 * (acc : Int)) = 10 * (acc : Int) := IntWalk.i64_in _ (by omega)
            have e2 : IntKind.i64.wrap (10 * (acc : Int) + x) = 10 * (acc : Int) + x := IntWalk.i64_in _ (by omega)
            have e3 : IntKind.i64.wrap (10 * (acc : Int) + x - 48) = 10 * (acc : Int) + x - 48 := IntWalk.i64_in _ (by omega)
            go_wp2
            go_round
            case rel => exact ⟨k + 1, acc * 10 + d, by omega, by go_num, by congr 1; have := hd.out; omega, hst⟩
            case measure => simp [intOf]; omega
      · have hfull : Lib.decFrom 0 s.data.toList = some acc := by
          have h := HA.out
          rwa [List.take_of_length_le (by show s.data.toList.length ≤ k; simp; show s.size ≤ k; omega)] at h
        by_cases hx : 1000000000 < acc
        · have HN := Lib.hid (puO_no (s := s) fun u a _ c _ => by rw [hfull] at c; have := Option.some.inj c; omega)
          have dx : decide ((1000000000 : Int) < (acc : Int)) = true := decide_eq_true (by omega)
          go_wp2
          go_ret2
          exact ⟨ret_pu HN.out, Below.refl _ _⟩
        · have dx : decide ((1000000000 : Int) < (acc : Int)) = false := decide_eq_false (by omega)
          by_cases he : itx (acc : Int) = s
          · have HN := Lib.hid (puO_yes (s := s) (u := acc) (by omega) he)
            replace he := Lib.hid he
            go_wp2_with (first | (go_at_call 9; refine (specFmt (acc : Int) _ (by omega)).mono ?_; rintro e w2 ⟨rfl, b2⟩; rw [he.out]) | fail)
            go_wp2
            go_ret2
            exact ⟨ret_pu HN.out, b2⟩
          · have HN := Lib.hid (puO_no (s := s) fun u a b c _ => by rw [hfull] at c; have := Option.some.inj c; rw [this] at he; exact he b)
            have hne := str_ne he
            obtain ⟨x, ex⟩ : ∃ x, x = itx (acc : Int) := ⟨_, rfl⟩
            rw [← ex] at hne
            replace he := Lib.hid he
            replace ex := Lib.hid ex
            go_wp2_with (first | (go_at_call 9; refine (specFmt (acc : Int) _ (by omega)).mono ?_; rintro e w2 ⟨rfl, b2⟩; rw [← ex.out]) | fail)
            go_wp2
            go_ret2
            exact ⟨ret_pu HN.out, b2⟩
end Go.Proofs.YthonlkconobdfaaDoor
