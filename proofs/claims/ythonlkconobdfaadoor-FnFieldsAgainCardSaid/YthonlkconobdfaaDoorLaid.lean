/- What the rows' condition on the library's tables and sentinels gives the walks; that the program's own start-up meets it. No conditions. -/
import Derived.Test.YthonlkconobdfaaDoorFmt
import Derived.Test.YthonlkconobdfaaDoorTie
import Derived.Lib.LaidTab
import Derived.Stop.LaidErr
import Derived.ProofKit
import Derived.LaidMore
import Derived.OpenShut
import Derived.Stop.Joined
namespace Go.Proofs.YthonlkconobdfaaDoor
open Go.ChangeShapes Go.WideShapes Go.ChangeAt Go.WideMaps Go.WideElems Go.RowKit

/-- The three tables; and the five variables. -/
def laid3 : List (String × DataW Unit) := [("math/bits.deBruijn32tab", Rows.laid_math_bits_deBruijn32tab), ("math/bits.deBruijn64tab", Rows.laid_math_bits_deBruijn64tab), ("internal/strconv.uint64pow10", Rows.laid_internal_strconv_uint64pow10)]
def laid5 : List (String × DataW Unit) := [("math/bits.deBruijn32tab", Rows.laid_math_bits_deBruijn32tab), ("math/bits.deBruijn64tab", Rows.laid_math_bits_deBruijn64tab), ("internal/strconv.uint64pow10", Rows.laid_internal_strconv_uint64pow10), ("strconv.ErrRange", Rows.laid_strconv_ErrRange), ("strconv.ErrSyntax", Rows.laid_strconv_ErrSyntax)]

set_option maxRecDepth 100000 in
theorem door3 (os : Os) (args : Array Value) : laidMetH Tryd.prog laid3 ((World.doorLaid Tryd.prog 62 os).forCall (fun _ _ => 0) ⟨#[], args, []⟩).memory :=
  laidMetH_of_parts3 (fuel := 8) (laidMet_of_run' 8 (by kernel_rfl) (by kernel_rfl)) (by kernel_rfl) (by kernel_rfl)
set_option maxRecDepth 100000 in
theorem door5 (os : Os) (args : Array Value) : laidMetH Tryd.prog laid5 ((World.doorLaid Tryd.prog 62 os).forCall (fun _ _ => 0) ⟨#[], args, []⟩).memory :=
  laidMetH_of_parts3 (fuel := 8) (laidMet_of_run' 8 (by kernel_rfl) (by kernel_rfl)) (by kernel_rfl) (by kernel_rfl)

theorem tabDatum : (Rows.laid_internal_strconv_uint64pow10 : DataW Unit) = Lib.tabData .u64 Lib.pow10Tab := by kernel_rfl
theorem tabDatumAt {W : World} {r : List (String × DataW Unit)} (h : laidMet Tryd.prog (("internal/strconv.uint64pow10", Rows.laid_internal_strconv_uint64pow10) :: r) W) : Tab W := by
  rw [tabDatum] at h
  exact Lib.tabBelow_of_tabIs (Lib.tabIs_of_head (g := 2) (t := 87) (e := 74) (n := 20) (by kernel_rfl) (by kernel_rfl) Tryd.underlying87 Tryd.underlying74 (by kernel_rfl) (by kernel_rfl) h)
theorem tab_of3 {W : World} (h : laidMetH Tryd.prog laid3 W) : Tab W := by
  rw [MakeChecks.laidMetH_plain _ _ _ (by kernel_rfl)] at h
  exact tabDatumAt h.tail.tail
theorem tab_of5 {W : World} (h : laidMetH Tryd.prog laid5 W) : Tab W := by
  rw [MakeChecks.laidMetH_plain _ _ _ (by kernel_rfl)] at h
  exact tabDatumAt h.tail.tail

theorem star : "*" ++ "errors.errorString" = "*errors.errorString" := by decide
theorem rowErr (u : TypeId) (h : Tryd.prog.typeName? 3 u = some "*errors.errorString") : u = 93 :=
  typeName_ptr_named (nm := "errors.errorString") (by rw [star]; kernel_rfl) (by kernel_rfl) (by decide) u (by rw [star]; exact h)
/-- The variable strconv.ErrSyntax holds an error, and goes on so. -/
def Syn (w : World) : Prop := ∃ (tp : TypeId) (p : Value), ∀ w', Below w.heap.size w w' → w'.var? Tryd.prog "strconv.ErrSyntax" = some #[.iface tp p]
theorem Syn.on {w w' : World} (h : Syn w) (hb : Below w.heap.size w w') : Syn w' := by
  obtain ⟨tp, p, h⟩ := h
  exact ⟨tp, p, fun w2 h2 => h w2 (hb.trans (h2.mono hb.size))⟩
theorem var_below {w w' : World} {n : String} {x : Array Value} (h : w.var? Tryd.prog n = some x) (hb : Below w.heap.size w w') : w'.var? Tryd.prog n = some x := by
  unfold World.var? at h ⊢
  cases hg : (Tryd.prog).globalNamed n with
  | none => rw [hg] at h; cases h
  | some g =>
    rw [hg] at h
    simp only [Option.bind_some] at h ⊢
    have hlt : g < w.heap.size := by
      rcases Nat.lt_or_ge g w.heap.size with h1 | h1
      · exact h1
      · rw [Array.getElem?_eq_none h1] at h; simp at h
    rw [hb.block g hlt]
    exact h
theorem syn_of5 {W : World} (h : laidMetH Tryd.prog laid5 W) : Syn W := by
  rw [MakeChecks.laidMetH_plain _ _ _ (by kernel_rfl)] at h
  obtain ⟨a0, s0, hv0, _, _, _⟩ := laid_sentinel h.tail.tail.tail.tail (g := 0) (ti := 55) (by kernel_rfl) (by kernel_rfl) Tryd.underlying55 rowErr Tryd.underlying93 Tryd.underlying95 rfl rfl Tryd.underlying9 (by kernel_rfl) (by kernel_rfl)
  exact ⟨_, _, fun w' hb => var_below hv0 hb⟩
end Go.Proofs.YthonlkconobdfaaDoor
