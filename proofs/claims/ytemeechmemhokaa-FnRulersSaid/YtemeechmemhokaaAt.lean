/- Contract of laws.at: a number from 0 to 255, nothing turned. Condition: the place is from 0 to 100. -/
import Derived.Test.YtemeechmemhokaaRows
import Derived.Test.YtemeechmemhokaaPre
import Derived.WalkSpells
namespace Go.Proofs.Ytemeechmemhokaa
open Go.RowKit

def RetByte (w : World) (e : Ending) (w' : World) : Prop := ∃ x : Int, 0 ≤ x ∧ x ≤ 255 ∧ e = .returned (.int .i64 x) ∧ w = w'

theorem u8_bd {n : Int} (h : (Lit.int .u8 n).wf = true) : 0 ≤ n ∧ n ≤ 255 := by
  simp [Lit.wf, IntKind.min, IntKind.max, IntKind.signed, IntKind.bits] at h
  omega

theorem lawsAt {w : World} {a : Option Addr} {len cap : Nat} {zs : List Int} {i : Int} (h : IsRow .u8 w a len cap zs) (h0 : 0 ≤ i) (h1 : i ≤ 100) :
    Calls Try.prog 26 #[.slice a len cap, .int .i64 i] w (RetByte w) := by
  obtain ⟨x, hlc, hcm, hzl, htl, hwf, hx⟩ := h.view
  unfold maxLen at hcm
  clear h
  by_cases hz : len = 0
  · have hz2 : ((len : Int) == 0) = true := by simpa using hz
    clear hz
    go_enter Try.func26, Try.ntmps26
    go_wp2
    go_ret
    exact ⟨0, by omega, by omega, rfl, rfl⟩
  · have hz2 : ((len : Int) == 0) = false := by simpa using hz
    obtain ⟨j, hj⟩ : ∃ j : Nat, (i * 5 + 1) % (len : Int) = (j : Int) := ⟨((i * 5 + 1) % (len : Int)).toNat, by rw [Int.toNat_of_nonneg (Int.emod_nonneg _ (by omega))]⟩
    have hjl : j < len := by
      have := Int.emod_lt_of_pos (i * 5 + 1) (b := (len : Int)) (by omega)
      omega
    obtain ⟨rfl, hxb, hc⟩ := hx j hjl
    have hw := u8_bd (hwf ((zs.take len).getD j 0) (by
      rw [List.getD, List.getElem?_eq_getElem (by omega)]
      exact List.mem_of_mem_take (List.getElem_mem (by omega))))
    obtain ⟨y, hy⟩ : ∃ y, y = (zs.take len).getD j 0 := ⟨_, rfl⟩
    rw [← hy] at hc hw
    clear hx hy hwf hzl htl
    have hin : ∀ w', (Instr.indexAt 30 (.slice (some x) len cap) (.int .i64 (j : Int))).run Try.prog w' = .ok (.pointer (some (x.add j))) w' := by
      obtain ⟨i0, hi, hz0, hz1, _⟩ := info_parts (show (Try.prog.info? 5).map (fun i => (i.zero, i.size, i.bytes)) = some (some (.int .u8 0), 1, 1) by kernel_rfl)
      exact indexAt_any Try.underlying30 hi hz1 rfl hjl .i64
    go_enter Try.func26, Try.ntmps26
    go_wp2
    go_ret
    exact ⟨y, hw.1, hw.2, rfl, rfl⟩
end Go.Proofs.Ytemeechmemhokaa
