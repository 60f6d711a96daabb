/- Contract of laws.has. No conditions. -/
import Derived.Test.YtfbecjeogbjnpaaInts
namespace Go.Proofs.Ytfbecjeogbjnpaa
open Go.RowKit

theorem not_mem_step {xs : List Int} {k : Nat} {x q : Int} (hk : k < xs.length) (hx : x = xs.getD k 0) (h : ¬ q ∈ xs.take k) (hq : ¬ x = q) : ¬ q ∈ xs.take (k + 1) := by
  rw [take_succ_getD xs k hk, List.mem_append, ← hx]
  simp only [List.mem_singleton]
  intro e
  rcases e with e | e
  · exact h e
  · exact hq e.symm

theorem lawsHas {w : World} {base : Nat} {v : Value} {xs : List Int} {q : Int} (h : OI w base v xs) :
    Calls Try.prog 46 #[v, .int .i64 q] w fun e w' => e = .returned (.bool (decide (q ∈ xs))) ∧ w = w' := by
  obtain ⟨ad, cap, rfl, hm⟩ := h.shape
  go_enter Try.func46, Try.ntmps46
  go_wp2
  go_loop [5] (fun i => ∃ k : Nat, k ≤ xs.length ∧ i = .int .i64 k ∧ Hid (¬ q ∈ xs.take k)) (fun i => xs.length - (intOf i).toNat)
  case atStart => exact ⟨0, Nat.zero_le _, rfl, by unfold Hid; simp⟩
  case round =>
    obtain ⟨k, hk, rfl, HT⟩ := hrel
    by_cases hlt : k < xs.length
    · obtain ⟨x, HX, ix, c1⟩ := h.at hlt
      by_cases hq : x = q
      · have hq2 : (x == q) = true := by simpa using hq
        have HQ := Lib.hid hq
        clear hq
        go_wp2
        go_ret
        exact ⟨ret_bool (by
          symm
          rw [decide_eq_true_iff, ← HQ.out, HX.out, List.getD, List.getElem?_eq_getElem hlt]
          exact List.getElem_mem hlt), rfl⟩
      · have hq2 : (x == q) = false := by simpa using hq
        have HQ := Lib.hid hq
        clear hq
        go_wp2
        go_round
        case rel => exact ⟨k + 1, by omega, by go_num, not_mem_step hlt HX.out HT.out HQ.out⟩
        case measure => simp [intOf]; omega
    · go_wp2
      go_ret
      exact ⟨ret_bool (by
        symm
        rw [decide_eq_false_iff_not]
        have h1 := HT.out
        rwa [List.take_of_length_le (by omega)] at h1), rfl⟩

end Go.Proofs.Ytfbecjeogbjnpaa
