/- A slice of ints of a known length that is read and stored into, in the words of OI. -/
import Derived.Test.YtemeechmemhokaaInts
namespace Go.Proofs.Ytemeechmemhokaa
open Go.RowKit

theorem OI.atN {w : World} {base cap N k : Nat} {ad : Option Addr} {xs : List Int} (h : OI w base (.slice ad N cap) xs) (hl : xs.length = N) (hk : k < N) :
    ∃ x, Hid (x = xs.getD k 0) ∧ (∀ w', (Instr.indexAt 22 (.slice ad N cap) (.int .i64 (k : Int))).run Try.prog w' = .ok (.pointer (some ⟨gOf ad, k, none⟩)) w') ∧ w.cell? ⟨gOf ad, k, none⟩ = some (.int .i64 x) ∧ w.frozen? ⟨gOf ad, k, none⟩ = false := by
  subst hl
  obtain ⟨x, h1, h2, h3⟩ := h.at hk
  refine ⟨x, h1, h2, h3, ?_⟩
  obtain ⟨ad', cap', g, hv, _, _, _, hx⟩ := h.view
  simp only [Value.slice.injEq] at hv
  obtain ⟨rfl, _, rfl⟩ := hv
  obtain ⟨had, _, _, _, hf⟩ := hx k hk
  rw [show gOf ad = g from by rw [had]; rfl]
  exact hf

theorem OI.setN {w : World} {base cap N k : Nat} {ad : Option Addr} {xs : List Int} (h : OI w base (.slice ad N cap) xs) (hl : xs.length = N) (hk : k < N) (u : Int) :
    OI (w.setCell ⟨gOf ad, k, none⟩ (.int .i64 u)) base (.slice ad N cap) (xs.set k u) ∧ base ≤ gOf ad ∧ gOf ad < w.heap.size := by
  subst hl
  obtain ⟨ad', cap', g, hv, _, _, _, hx⟩ := h.view
  simp only [Value.slice.injEq] at hv
  obtain ⟨rfl, _, rfl⟩ := hv
  obtain ⟨had, hb, hlt, _, _⟩ := hx k hk
  subst had
  have h3 := (World.ownsRow.stored h k (.int .i64 u)).1
  refine ⟨?_, hb, hlt⟩
  unfold OI
  rw [List.length_set, List.map_set]
  exact h3

/-- A new slice of n zeros. -/
theorem OI.made {base n : Nat} {ad : Option Addr} {w1 : World} (h : w1.ownsRow base 3 1 (.slice ad n n) n (madeCells (Value.int .i64 0).cells (n * 1)).toList) : OI w1 base (.slice ad n n) (List.replicate n 0) := by
  unfold OI
  rw [List.length_replicate, List.map_replicate]
  rw [Nat.mul_one] at h
  have e : (madeCells (Value.int .i64 0).cells n).toList = List.replicate n (Value.int .i64 0) := toList_madeCells_one _ _
  rw [e] at h
  exact h

/-- make([]int, n): the new slice's address is not looked into. -/
theorem make_ints {ops : Array Oper} {rest : List Oper} {o : Oper} {a : Act} {Q : Exit → Act → World → Prop} (hgd : o.guard = none) (l c : Operand) (hop : o.op = Op.makeSlice 22 l c) {w : World} {L C : Int} (n : Nat)
    (hl : a.eval l = .int .i64 L) (hc : a.eval c = .int .i64 C) (hL : L = (n : Int)) (hC : C = (n : Int)) (hn : n ≤ 1099511627776)
    (hK : ∀ ad w', OI w' w.heap.size (.slice ad n n) (List.replicate n 0) → Below w.heap.size w w' → wpList Try.prog ops Q rest (a.put o.dst (.slice ad n n)) w') : wpList Try.prog ops Q (o :: rest) a w := by
  obtain ⟨i0, hi, hz0, hz1, hz2⟩ := info_parts info_int
  refine wpList_make_full _ hgd l c 22 hop w.heap.size 3 i0 (.int .i64 0) 1 Try.underlying22 hi hz0 hz1 .i64 .i64 L C n hl hc hL hC (by rw [hz2]; omega) (by unfold maxLen; omega) (Nat.le_refl _) ?_
  intro w' h1 h2
  exact hK _ w' (OI.made h1) ((Below.refl _ _).grown h2 (Nat.le_refl _) (fun _ e => by cases e))
end Go.Proofs.Ytemeechmemhokaa
