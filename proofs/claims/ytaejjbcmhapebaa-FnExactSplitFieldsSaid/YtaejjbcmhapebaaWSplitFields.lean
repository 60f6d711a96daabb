/- The walk of laws.FnExactSplitFields: it returns true, and nothing that was there has turned. -/
import Derived.Test.YtaejjbcmhapebaaSplit
import Derived.Test.YtaejjbcmhapebaaStrs2
namespace Go.Proofs.Ytaejjbcmhapebaa
open Go.RowKit
set_option linter.unusedVariables false

theorem apartS {w w' : World} {bu : Nat} {u v : Value} {ys xs : List ByteArray} (hu : OS w bu u ys) (hv : OS w' w.heap.size v xs) : Apart u v := fun g hg e => by
  have h1 := (hu.lt g hg).2
  have h2 := (hv.lt g e).1
  omega
theorem OS.keptBy {w w' : World} {bu : Nat} {u v : Value} {ys : List ByteArray} (hu : OS w bu u ys) (A : Apart u v) (hg : w.grownBy w' v.ownBlock) : OS w' bu u ys := by
  refine World.ownsRow.kept hu hg ?_
  cases h : u.ownBlock with
  | none => exact .inl rfl
  | some g => exact .inr (A g h).symm

set_option maxRecDepth 100000 in
theorem walkSplitFields (a0 : ByteArray) (w : World) (h0 : a0.size ≤ maxLen) :
    Calls Try.prog 8 #[.string a0] w fun e w' => e = .returned (.bool true) ∧ Below w.heap.size w w' := by
  unfold maxLen at h0
  by_cases hbig : a0.size ≤ 1048576
  · have hd : (a0.size : Int) ≤ 1048576 := by omega
    have hlen := fld_len a0
    go_enter Try.func8, Try.ntmps8
    go_wp2_with fail
    refine (specSplit _ _).mono ?_
    rintro e wa ⟨v, rfl, hv, ba⟩
    go_wp2_with fail
    refine (implSplit _ _).mono ?_
    rintro e wb ⟨u, rfl, hu, bb⟩
    have A1 := apartS hv hu
    have hv := hv.stay bb
    have b2 := bThen ba bb
    go_wp2_with fail
    refine (eqStringS_same hu hv).mono ?_
    rintro e w' ⟨rfl, n1, rfl⟩
    have b3 := bDrewN b2 n1
    have hv := hv.drewN n1
    have hu := hu.drewN n1
    go_wp2_with fail
    refine (markStringS_any hu (by omega) (by omega) (by omega)).mono ?_
    rintro e wd ⟨rfl, hm, hg⟩
    have b4 := bAppS b3 hu ba.size hg
    have hv := hv.keptBy A1 hg
    go_wp2_with fail
    refine (heldStringS_any hm (by omega) (by omega) (by omega)).mono ?_
    rintro e we ⟨rfl, be⟩
    have b5 := bThen b4 be
    have hv := hv.stay be
    have hm := hm.stay be
    go_wp2_with fail
    refine (implSplit _ _).mono ?_
    rintro e wf ⟨x, rfl, hx, bf⟩
    have b6 := bThen b5 bf
    have hv := hv.stay bf
    have hm := hm.stay bf
    go_wp2_with fail
    refine (eqStringS_same hx hv).mono ?_
    rintro e w' ⟨rfl, n2, rfl⟩
    have b7 := bDrewN b6 n2
    have hm := hm.drewN n2
    go_wp2_with fail
    refine (heldStringS_any hm (by omega) (by omega) (by omega)).mono ?_
    rintro e wg ⟨rfl, bg⟩
    have b8 := bThen b7 bg
    go_wp2
    go_ret
    exact ⟨rfl, b8⟩
  · have hd : (1048576 : Int) < (a0.size : Int) := by omega
    go_enter Try.func8, Try.ntmps8
    go_wp2
    go_ret
    exact ⟨rfl, Below.refl _ _⟩
end Go.Proofs.Ytaejjbcmhapebaa
