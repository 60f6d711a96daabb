/- Contracts of DigitsOf, in the program and in the reference. No conditions. -/
import Derived.Test.YtfbecjeogbjnpaaApp
import Derived.Test.YtfbecjeogbjnpaaDigs
namespace Go.Proofs.Ytfbecjeogbjnpaa
open Go.RowKit

theorem implDigitsOf (n : Int) (w : World) : Calls Try.prog 36 #[.int .i64 n] w (RetOI w (digsC n)) := by
  cases hr : inB n (-29524) 29524
  · have hn : (!inB n (-29524) 29524) = true := by rw [hr]; rfl
    have HR := Lib.hid hr
    clear hr
    go_enter Try.func36, Try.ntmps36
    go_wp2_with (go_at_call 48; refine (implIn _ _ _ _).mono ?_; rintro e w' ⟨rfl, rfl⟩)
    go_ret
    exact ⟨_, rfl, by rw [digsC_out (inB_not.1 HR.out)]; exact OI.nil _ _, Below.refl _ _⟩
  · have hn : (!inB n (-29524) 29524) = false := by rw [hr]; rfl
    have hb := inB_iff.1 hr
    have HR := Lib.hid hr
    clear hr
    go_enter Try.func36, Try.ntmps36
    go_wp2_with (go_at_call 48; refine (implIn _ _ _ _).mono ?_; rintro e w' ⟨rfl, rfl⟩)
    go_loopw [0, 3] (fun nn o wr => ∃ (m : Int) (done : List Int), -29524 ≤ m ∧ m ≤ 29524 ∧ nn = .int .i64 m ∧ digRel n m done ∧ OI wr w.heap.size o done ∧ Below w.heap.size w wr) (fun nn _ _ => (intOf nn).natAbs)
    case atStart => exact ⟨n, [], hb.1, hb.2, rfl, digRel.start n, OI.nil _ _, Below.refl _ _⟩
    case round =>
      obtain ⟨m, done, hm1, hm2, rfl, hd, ho, hbl⟩ := hrel
      have hlen := hd.len
      by_cases hz : m = 0
      · subst hz
        have hfin := hd.done
        have HF := Lib.hid hfin
        clear hfin
        go_wp2
        go_ret
        exact ⟨_, rfl, by rw [digsC_in hb, ← HF.out]; exact ho, hbl⟩
      · have hne : (m != 0) = true := by simpa using hz
        have HZ := Lib.hid hz
        clear hz
        have t1 := tmod3 (m + 1)
        have d1 := dig_bd m
        have e1 := dig_impl m
        have e2 := nxt_tdiv m
        have hnb := nxt_bd m 29524 ⟨hm1, hm2⟩
        go_wp2_with (at_builtin; refine app_int rfl (.tmp 16) (.tmp 18) rfl rfl ho rfl hbl.size (by omega) ?_; intro v' w1 ho1 hg1)
        go_roundw
        case rel => exact ⟨nxt m, done ++ [dig m], hnb.1, hnb.2, rfl, hd.step HZ.out, ho1, hbl.grown hg1 hbl.size (fun j hj => (ho.lt j hj).1)⟩
        case measure =>
          have := nxt_lt m HZ.out
          simp only [intOf]; omega
theorem specDigitsOf (n : Int) (w : World) : Calls Try.prog 35 #[.int .i64 n] w (RetOI w (digsC n)) := by
  cases hr : inB n (-29524) 29524
  · have hn : (!inB n (-29524) 29524) = true := by rw [hr]; rfl
    have HR := Lib.hid hr
    clear hr
    go_enter Try.func35, Try.ntmps35
    go_wp2_with (go_at_call 47; refine (specIn _ _ _ _).mono ?_; rintro e w' ⟨rfl, rfl⟩)
    go_ret
    exact ⟨_, rfl, by rw [digsC_out (inB_not.1 HR.out)]; exact World.ownsRow_made _ _ _ (Nat.le_refl _) (Nat.zero_le _) rfl, (Below.refl _ _).alloc (Nat.le_refl _) _⟩
  · have hn : (!inB n (-29524) 29524) = false := by rw [hr]; rfl
    have hb := inB_iff.1 hr
    have HR := Lib.hid hr
    clear hr
    go_enter Try.func35, Try.ntmps35
    go_wp2_with (go_at_call 47; refine (specIn _ _ _ _).mono ?_; rintro e w' ⟨rfl, rfl⟩)
    go_loopw [0, 3] (fun nn o wr => ∃ (m : Int) (done : List Int), -29524 ≤ m ∧ m ≤ 29524 ∧ nn = .int .i64 m ∧ digRel n m done ∧ OI wr w.heap.size o done ∧ Below w.heap.size w wr) (fun nn _ _ => (intOf nn).natAbs)
    case atStart => exact ⟨n, [], hb.1, hb.2, rfl, digRel.start n, World.ownsRow_made _ _ _ (Nat.le_refl _) (Nat.zero_le _) rfl, (Below.refl _ _).alloc (Nat.le_refl _) _⟩
    case round =>
      obtain ⟨m, done, hm1, hm2, rfl, hd, ho, hbl⟩ := hrel
      have hlen := hd.len
      by_cases hz : m = 0
      · subst hz
        have hfin := hd.done
        have HF := Lib.hid hfin
        clear hfin
        go_wp2
        go_ret
        exact ⟨_, rfl, by rw [digsC_in hb, ← HF.out]; exact ho, hbl⟩
      · have hne : (m != 0) = true := by simpa using hz
        have HZ := Lib.hid hz
        clear hz
        have t1 := tmod3 m
        have d1 := dig_bd m
        have e1 := dig_spec m
        have e2 := nxt_tdiv m
        have hnb := nxt_bd m 29524 ⟨hm1, hm2⟩
        go_wp2_with (at_builtin; refine app_int rfl (.tmp 17) (.tmp 19) rfl rfl ho rfl hbl.size (by omega) ?_; intro v' w1 ho1 hg1)
        go_roundw
        case rel => exact ⟨nxt m, done ++ [dig m], hnb.1, hnb.2, rfl, hd.step HZ.out, ho1, hbl.grown hg1 hbl.size (fun j hj => (ho.lt j hj).1)⟩
        case measure =>
          have := nxt_lt m HZ.out
          simp only [intOf]; omega
end Go.Proofs.Ytfbecjeogbjnpaa
