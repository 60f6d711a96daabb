/- Contracts of OnePan, TwoPans, WaysOf. No conditions but the number's range. -/
import Derived.Test.YtbndfohnkdhgeaaPan
namespace Go.Proofs.Ytbndfohnkdhgeaa
open Go.RowKit Go.Maps

def panB (two : Bool) (xs : List Int) (n : Int) : Bool := setB xs && decide (0 < wF two xs xs.length n)
def waysN (xs : List Int) (n : Int) : Int := if setB xs = true then wF true xs xs.length n else 0
def RetBl (W : World) (v : Value) (e : Ending) (w' : World) : Prop := e = .returned v ∧ Below W.heap.size W w'

theorem implOnePan {w : World} {base : Nat} {v : Value} {xs : List Int} (h : OI w base v xs) {n : Int} (hn : -9223372036854775808 ≤ n ∧ n ≤ 9223372036854775807) : Calls Try.prog 21 #[v, .int .i64 n] w (RetBl w (.bool (panB false xs n))) := by
  cases hs : setB xs
  · go_enter Try.func21, Try.ntmps21
    go_wp2_with (go_at_call 18; refine (implSetOk h).mono ?_; rintro e w' ⟨rfl, nq, rfl⟩)
    go_ret
    exact ⟨ret_bool (by rw [panB, hs]; rfl), bDrewN (Below.refl _ _) _⟩
  · have F := setFacts hs
    go_enter Try.func21, Try.ntmps21
    go_wp2_with fail
    refine (implSetOk h).mono ?_
    rintro e w' ⟨rfl, nq, rfl⟩
    go_wp2_with fail
    refine (onePanM (h.drewN nq) F).mono ?_
    rintro e w1 ⟨b, rfl, hb, hm, bb⟩
    have hk := hm.look (wfI hn)
    have bb2 := bThen (bDrewN (Below.refl w.heap.size w) nq) bb
    replace hs := Lib.hid hs
    clear bb
    obtain ⟨y, hy⟩ : ∃ y, wF false xs xs.length n = y := ⟨_, rfl⟩
    rw [hy] at hk
    replace hy := Lib.hid hy
    go_wp2
    go_ret
    exact ⟨ret_bool (by rw [panB, hs.out, hy.out]; rfl), bb2⟩
theorem specOnePan {w : World} {base : Nat} {v : Value} {xs : List Int} (h : OI w base v xs) {n : Int} (_ : -9223372036854775808 ≤ n ∧ n ≤ 9223372036854775807) : Calls Try.prog 20 #[v, .int .i64 n] w (RetBl w (.bool (panB false xs n))) := by
  cases hs : setB xs
  · go_enter Try.func20, Try.ntmps20
    go_wp2_with (go_at_call 16; refine (specSetOk h).mono ?_; rintro e w' ⟨rfl, nq, rfl⟩)
    go_ret
    exact ⟨ret_bool (by rw [panB, hs]; rfl), bDrewN (Below.refl _ _) _⟩
  · have F := setFacts hs
    go_enter Try.func20, Try.ntmps20
    go_wp2_with fail
    refine (specSetOk h).mono ?_
    rintro e w' ⟨rfl, nq, rfl⟩
    go_wp2_with fail
    refine (specWays (h.drewN nq) F false n).mono ?_
    rintro e w1 ⟨rfl, bb⟩
    have bb2 := bThen (bDrewN (Below.refl w.heap.size w) nq) bb
    replace hs := Lib.hid hs
    clear bb
    obtain ⟨y, hy⟩ : ∃ y, wF false xs xs.length n = y := ⟨_, rfl⟩
    rw [hy]
    replace hy := Lib.hid hy
    go_wp2
    go_ret
    exact ⟨ret_bool (by rw [panB, hs.out, hy.out]; rfl), bb2⟩

theorem implTwoPans {w : World} {base : Nat} {v : Value} {xs : List Int} (h : OI w base v xs) {n : Int} (hn : -9223372036854775808 ≤ n ∧ n ≤ 9223372036854775807) : Calls Try.prog 23 #[v, .int .i64 n] w (RetBl w (.bool (panB true xs n))) := by
  cases hs : setB xs
  · go_enter Try.func23, Try.ntmps23
    go_wp2_with (go_at_call 18; refine (implSetOk h).mono ?_; rintro e w' ⟨rfl, nq, rfl⟩)
    go_ret
    exact ⟨ret_bool (by rw [panB, hs]; rfl), bDrewN (Below.refl _ _) _⟩
  · have F := setFacts hs
    go_enter Try.func23, Try.ntmps23
    go_wp2_with fail
    refine (implSetOk h).mono ?_
    rintro e w' ⟨rfl, nq, rfl⟩
    go_wp2_with fail
    refine (twoPansM (h.drewN nq) F).mono ?_
    rintro e w1 ⟨b, rfl, hb, hm, bb⟩
    have hk := hm.look (wfI hn)
    have bb2 := bThen (bDrewN (Below.refl w.heap.size w) nq) bb
    replace hs := Lib.hid hs
    clear bb
    obtain ⟨y, hy⟩ : ∃ y, wF true xs xs.length n = y := ⟨_, rfl⟩
    rw [hy] at hk
    replace hy := Lib.hid hy
    go_wp2
    go_ret
    exact ⟨ret_bool (by rw [panB, hs.out, hy.out]; rfl), bb2⟩
theorem specTwoPans {w : World} {base : Nat} {v : Value} {xs : List Int} (h : OI w base v xs) {n : Int} (_ : -9223372036854775808 ≤ n ∧ n ≤ 9223372036854775807) : Calls Try.prog 22 #[v, .int .i64 n] w (RetBl w (.bool (panB true xs n))) := by
  cases hs : setB xs
  · go_enter Try.func22, Try.ntmps22
    go_wp2_with (go_at_call 16; refine (specSetOk h).mono ?_; rintro e w' ⟨rfl, nq, rfl⟩)
    go_ret
    exact ⟨ret_bool (by rw [panB, hs]; rfl), bDrewN (Below.refl _ _) _⟩
  · have F := setFacts hs
    go_enter Try.func22, Try.ntmps22
    go_wp2_with fail
    refine (specSetOk h).mono ?_
    rintro e w' ⟨rfl, nq, rfl⟩
    go_wp2_with fail
    refine (specWays (h.drewN nq) F true n).mono ?_
    rintro e w1 ⟨rfl, bb⟩
    have bb2 := bThen (bDrewN (Below.refl w.heap.size w) nq) bb
    replace hs := Lib.hid hs
    clear bb
    obtain ⟨y, hy⟩ : ∃ y, wF true xs xs.length n = y := ⟨_, rfl⟩
    rw [hy]
    replace hy := Lib.hid hy
    go_wp2
    go_ret
    exact ⟨ret_bool (by rw [panB, hs.out, hy.out]; rfl), bb2⟩

theorem implWaysOf {w : World} {base : Nat} {v : Value} {xs : List Int} (h : OI w base v xs) {n : Int} (hn : -9223372036854775808 ≤ n ∧ n ≤ 9223372036854775807) : Calls Try.prog 25 #[v, .int .i64 n] w (RetBl w (.int .i64 (waysN xs n))) := by
  cases hs : setB xs
  · go_enter Try.func25, Try.ntmps25
    go_wp2_with (go_at_call 18; refine (implSetOk h).mono ?_; rintro e w' ⟨rfl, nq, rfl⟩)
    go_ret
    exact ⟨ret_int (by rw [waysN, hs]; rfl), bDrewN (Below.refl _ _) _⟩
  · have F := setFacts hs
    go_enter Try.func25, Try.ntmps25
    go_wp2_with fail
    refine (implSetOk h).mono ?_
    rintro e w' ⟨rfl, nq, rfl⟩
    go_wp2_with fail
    refine (twoPansM (h.drewN nq) F).mono ?_
    rintro e w1 ⟨b, rfl, hb, hm, bb⟩
    have hk := hm.look (wfI hn)
    have bb2 := bThen (bDrewN (Below.refl w.heap.size w) nq) bb
    replace hs := Lib.hid hs
    clear bb
    go_wp2
    go_ret
    exact ⟨ret_int (by rw [waysN, if_pos hs.out]), bb2⟩

theorem specWaysOf {w : World} {base : Nat} {v : Value} {xs : List Int} (h : OI w base v xs) {n : Int} (_ : -9223372036854775808 ≤ n ∧ n ≤ 9223372036854775807) : Calls Try.prog 24 #[v, .int .i64 n] w (RetBl w (.int .i64 (waysN xs n))) := by
  cases hs : setB xs
  · go_enter Try.func24, Try.ntmps24
    go_wp2_with (go_at_call 16; refine (specSetOk h).mono ?_; rintro e w' ⟨rfl, nq, rfl⟩)
    go_ret
    exact ⟨ret_int (by rw [waysN, hs]; rfl), bDrewN (Below.refl _ _) _⟩
  · have F := setFacts hs
    go_enter Try.func24, Try.ntmps24
    go_wp2_with fail
    refine (specSetOk h).mono ?_
    rintro e w' ⟨rfl, nq, rfl⟩
    go_wp2_with fail
    refine (specWays (h.drewN nq) F true n).mono ?_
    rintro e w1 ⟨rfl, bb⟩
    have bb2 := bThen (bDrewN (Below.refl w.heap.size w) nq) bb
    replace hs := Lib.hid hs
    clear bb
    go_wp2
    go_ret
    exact ⟨ret_int (by rw [waysN, if_pos hs.out]), bb2⟩
end Go.Proofs.Ytbndfohnkdhgeaa