/- Contract of impl.ways: the map that it makes reads as the repeated sum over the factors. -/
import Derived.Test.YtbndfohnkdhgeaaMapF
import Derived.Test.YtbndfohnkdhgeaaInts
namespace Go.Proofs.Ytbndfohnkdhgeaa
open Go.RowKit Go.Maps

def facF (qs : List Int) (t : Nat) : Int := qs.getD t 0
def waysF (q : Nat → Int) (m : Nat) (xs : List Int) : Nat → Int → Int
  | 0 => fun n => if n = 0 then 1 else 0
  | i + 1 => conv q m (xs.getD i 0) (waysF q m xs i)
def p3 : Nat → Nat
  | 0 => 1
  | i + 1 => 3 * p3 i
theorem p3_mono (i : Nat) : ∀ d, p3 i ≤ p3 (i + d)
  | 0 => Nat.le_refl _
  | d + 1 => by have := p3_mono i d; rw [← Nat.add_assoc, p3]; omega
theorem p3_le {i j : Nat} (h : i ≤ j) : p3 i ≤ p3 j := by
  obtain ⟨d, rfl⟩ := Nat.exists_eq_add_of_le h
  exact p3_mono i d
theorem waysF_bd {q : Nat → Int} {m : Nat} (hm : m ≤ 3) {xs : List Int} (i : Nat) : ∀ k, 0 ≤ waysF q m xs i k ∧ waysF q m xs i k ≤ p3 i := by
  induction i with
  | zero =>
    intro k
    show 0 ≤ (if k = 0 then (1 : Int) else 0) ∧ (if k = 0 then (1 : Int) else 0) ≤ ((1 : Nat) : Int)
    split <;> omega
  | succ i ih =>
    intro k
    have h := conv_bd (q := q) (m := m) (w := xs.getD i 0) ih k
    have h2 : (m : Int) * (p3 i : Int) ≤ 3 * (p3 i : Int) := Int.mul_le_mul_of_nonneg_right (by omega) (by omega)
    have h3 : ((p3 (i + 1) : Nat) : Int) = 3 * (p3 i : Int) := by rw [p3]; omega
    rw [waysF, h3]
    omega
theorem unit_mul {q x : Int} (hq : -1 ≤ q ∧ q ≤ 1) (hx : 1 ≤ x ∧ x ≤ 1000) : -1000 ≤ q * x ∧ q * x ≤ 1000 := by
  rcases (show q = -1 ∨ q = 0 ∨ q = 1 by omega) with rfl | rfl | rfl <;> omega
theorem mem_getD {xs : List Int} {k : Nat} {x : Int} (hk : k < xs.length) (h : x = xs.getD k 0) : x ∈ xs := by
  rw [h, List.getD, List.getElem?_eq_getElem hk]; exact List.getElem_mem _

set_option maxRecDepth 100000 in
set_option maxHeartbeats 2000000 in
theorem implWays {w : World} {bs bf : Nat} {vs vf : Value} {xs qs : List Int} (hs : OI w bs vs xs) (hf : OI w bf vf qs) (hl : xs.length ≤ 8) (hx : ∀ x ∈ xs, 1 ≤ x ∧ x ≤ 1000) (hm : qs.length ≤ 3) (hq : ∀ q ∈ qs, -1 ≤ q ∧ q ≤ 1) :
    Calls Try.prog 65 #[vs, vf] w (RetMap w (waysF (facF qs) qs.length xs xs.length) (1000 * xs.length) (p3 xs.length)) := by
  obtain ⟨ads, caps, rfl, _⟩ := hs.shape
  obtain ⟨adf, capf, rfl, _⟩ := hf.shape
  have hmm := @run_makeMap Try.prog
  go_enter Try.func65, Try.ntmps65
  go_wp2_with (first
    | (refine wpList_insertF _ rfl _ _ _ rfl (b := w.heap.size) (n := 0) (D := .map []) rfl (World.ownsMap_made _ _ _ _) (by unfold maxLen; omega) 0 1 rfl rfl (wfI (by omega)) (wfI (by omega)) ?_; intro w1 hown1 hgrow1)
    | fail)
  go_loopw [5, 17] (fun o i wr => ∃ (k bo : Nat), k ≤ xs.length ∧ i = .int .i64 (k : Int) ∧ o = .map (some bo) ∧ w.heap.size ≤ bo ∧ MapAt wr bo (p3 k) (waysF (facF qs) qs.length xs k) (1000 * k) ∧ Below w.heap.size w wr) (fun _ i _ => xs.length - (intOf i).toNat)
  case atStart => exact ⟨0, w.heap.size, Nat.zero_le _, rfl, rfl, Nat.le_refl _, ⟨_, hown1, (Rep.empty 0).put (wfI (by omega)) (by omega)⟩, ((Below.refl _ _).alloc (Nat.le_refl _) _).grown hgrow1 (by simp) (fun j hj => by cases hj; exact Nat.le_refl _)⟩
  case round =>
    obtain ⟨wo, rfl⟩ : ∃ wo, wo = wr := ⟨_, rfl⟩
    obtain ⟨k, bo, hk, rfl, rfl, hbo, ⟨D0, hown, hrep⟩, bb⟩ := hrel
    by_cases hlt : k < xs.length
    · obtain ⟨x, HX, ix, c1⟩ := (hs.stay bb).at hlt
      have hxb := hx x (mem_getD hlt HX.out)
      have hfb := waysF_bd (q := facF qs) hm (xs := xs) k
      have hP : p3 k ≤ 2187 := p3_le (j := 7) (by omega)
      have e1 : (wo.alloc (.map #[] 0)).heap.size = wo.heap.size + 1 := by simp
      have hbl := hown.lt
      obtain ⟨f, HF⟩ : ∃ f, f = waysF (facF qs) qs.length xs k := ⟨_, rfl⟩
      rw [← HF] at hfb hrep
      replace HF := Lib.hid HF
      go_wp2_with (first
        | (at_range; refine wpList_rangeF _ rfl _ rfl rfl (hown.alloc _) ?_; intro w0 hrg0 hg0 hs0)
        | go_in)
      go_frame
      rw [e1] at hrg0 hs0 ⊢
      go_loopw [9] (fun _ wm => ∃ (left : Lit → Bool) (cnt : Nat) (Dn : DataW Unit), wm.ranges Try.prog 3 (plainElem Try.prog 3) bo (wo.heap.size + 1) (p3 k) D0 left cnt ∧ cnt ≤ Maps.size D0 ∧
          wm.ownsMap Try.prog 3 (plainElem Try.prog 3) wo.heap.size ((Maps.size D0 - cnt) * qs.length) Dn ∧ Rep Dn (convL left (facF qs) qs.length x f) (1000 * ((k : Int) + 1)) ∧ Below wo.heap.size wo wm)
        (fun _ wm => wm.rangeLeft bo (wo.heap.size + 1))
      case atStart =>
        exact ⟨_, _, .map [], hrg0, Nat.le_refl _, ((World.ownsMap_made _ _ _ _).kept hg0 (by simp)).mono (Nat.zero_le _), (Rep.empty _).congr (fun n => (convL_start hrep _ _ _ n).symm), ((Below.refl _ _).alloc (Nat.le_refl _) _).grown hg0 (by simp) (fun j hj => by cases hj)⟩
      case round =>
        obtain ⟨left, cnt, Dn, hrg, hcs, hn, hR, hnx⟩ := hrel
        have hD := size_le hown
        go_wp2_with (first
          | (at_next; refine wpList_next_ranges_ii _ rfl _ rfl 3 3 .i64 .i64 lawInt Try.underlying3 Try.underlying3 bo (wo.heap.size + 1) (p3 k) _ _ _ rfl hrg ?_ ?_)
          | go_in)
        · intro hc0 hl0
          subst hc0
          have hn2 := hn.mono (n' := p3 (k + 1)) (by rw [p3]; exact Nat.le_trans (Nat.mul_le_mul_right _ (show Maps.size D0 - 0 ≤ p3 k by omega)) (by rw [Nat.mul_comm 3]; exact Nat.mul_le_mul_left _ hm))
          have hR2 := hR.congr (fun n => (convL_end hl0 (facF qs) qs.length x f n).trans (show _ = waysF (facF qs) qs.length xs (k + 1) n by rw [waysF, ← HX.out, ← HF.out]))
          have bb2 := bThen bb hnx
          replace hn2 := Lib.hid hn2
          replace hR2 := Lib.hid hR2
          have hsz := bb.size
          go_wp2
          go_roundw
          case rel => exact ⟨k + 1, wo.heap.size, by omega, by go_num, rfl, hsz, ⟨_, hn2.out, by rw [show ((k + 1 : Nat) : Int) = (k : Int) + 1 from by omega]; exact hR2.out⟩, bb2⟩
          case measure => simp only [intOf]; omega
        · intro y c w2 cnt1 hwy hwc hly hat hrg1 hlt1 hg1 hs1 hen
          have hcf : c = f y := by have := hat (.lit (.int .i64 0)); rw [hrep.val] at this; exact (datInj this).symm
          have hyb := hrep.sup y (has_true_of_atKey hat)
          have hn1 := hn.kept hg1 (by intro q; have := Option.some.inj q; omega)
          have hnx1 := hnx.grown hg1 hnx.size (fun j hj => by cases hj; omega)
          have hfy := hfb y
          have hkb : (k : Int) ≤ 7 := by omega
          have HC := Lib.hid hcf
          clear hcf
          replace hat := Lib.hid hat
          replace hly := Lib.hid hly
          go_wp2
          go_loopw [31] (fun i wi => ∃ (j : Nat) (Dj : DataW Unit), j ≤ qs.length ∧ i = .int .i64 (j : Int) ∧ wi.ranges Try.prog 3 (plainElem Try.prog 3) bo (wo.heap.size + 1) (p3 k) D0 (fun z => left z && !z.sameKey (.int .i64 y)) cnt1 ∧
              wi.ownsMap Try.prog 3 (plainElem Try.prog 3) wo.heap.size ((Maps.size D0 - cnt) * qs.length + j) Dj ∧ Rep Dj (convJ left (facF qs) qs.length x f y j) (1000 * ((k : Int) + 1)) ∧ Below wo.heap.size wo wi)
            (fun i _ => qs.length - (intOf i).toNat)
          case atStart => exact ⟨0, Dn, Nat.zero_le _, rfl, hrg1, hn1, hR.congr (fun n => (convJ_zero _ _ _ _ _ _ n).symm), hnx1⟩
          case round =>
            obtain ⟨j, Dj, hj, rfl, hri, hni, hRi, hbi⟩ := hrel
            by_cases hlt2 : j < qs.length
            · obtain ⟨q, HQ, iq, cq⟩ := (hf.stay (bThen bb hbi)).at hlt2
              have hqb := hq q (mem_getD hlt2 HQ.out)
              have hqx := unit_mul hqb hxb
              have hqe : facF qs j = q := HQ.out.symm
              have hcj := convJ_bd (left := left) (q := facF qs) (m := qs.length) (w := x) (M := (p3 k : Int)) (x := y) (j := j) hfb (y + q * x)
              have hcb : convJ left (facF qs) qs.length x f y j (y + q * x) ≤ 20000 := by
                have h1 : (qs.length : Int) * (p3 k : Int) ≤ 3 * 2187 := Int.mul_le_mul (by omega) (by omega) (by omega) (by omega)
                have h2 : (j : Int) * (p3 k : Int) ≤ 3 * 2187 := Int.mul_le_mul (by omega) (by omega) (by omega) (by omega)
                omega
              have hstep := fun n => convJ_step left (facF qs) qs.length x f y j n
              rw [hqe] at hstep
              obtain ⟨u, hu⟩ : ∃ u, convJ left (facF qs) qs.length x f y j (y + q * x) = u := ⟨_, rfl⟩
              rw [hu] at hcj hcb hstep
              obtain ⟨qx, hqx2⟩ : ∃ z, q * x = z := ⟨_, rfl⟩
              have e1 : IntKind.i64.wrap (q * x) = q * x := IntWalk.i64_in _ (by omega)
              have e2 : IntKind.i64.wrap (y + q * x) = y + q * x := IntWalk.i64_in _ (by omega)
              have e3 : IntKind.i64.wrap (u + c) = u + c := IntWalk.i64_in _ (by rw [HC.out]; omega)
              have hwk : (Lit.int .i64 (y + q * x)).wf = true := wfI (by omega)
              have hwv : (Lit.int .i64 (u + c)).wf = true := wfI (by rw [HC.out]; omega)
              have hnm : (Maps.size D0 - cnt) * qs.length + j < maxLen := by
                have : (Maps.size D0 - cnt) * qs.length ≤ 2187 * 3 := Nat.mul_le_mul (by omega) hm
                unfold maxLen; omega
              have hput := (hRi.put (c := u + c) hwk (by omega)).congr (g := convJ left (facF qs) qs.length x f y (j + 1)) (fun n => by have := hstep n; rw [HC.out]; exact this)
              replace hput := Lib.hid hput
              replace hstep := Lib.hid hstep
              replace hu := Lib.hid hu
              replace hqe := Lib.hid hqe
              clear hqx2 hcj hcb hqx hqb hfy
              go_wp2_with (first
                | (at_lookup; refine wpList_lookF _ rfl _ _ rfl rfl hni hRi (y + q * x) u rfl hwk hu.out ?_)
                | (at_mapUpdate; refine wpList_storeF _ rfl _ _ _ rfl rfl hni hnm (y + q * x) (u + c) rfl rfl hwk hwv ?_; intro w3 hn3 hg3; go_frame)
                | go_in)
              have hr3 := hri.kept hg3 (fun e => by have := Option.some.inj e; omega) (fun e => by have := Option.some.inj e; omega)
              have hb3 := hbi.grown hg3 hbi.size (fun j hj => by cases hj; exact Nat.le_refl _)
              go_roundw
              case rel => exact ⟨j + 1, _, by omega, by go_num, hr3, hn3, hput.out, hb3⟩
              case measure => simp only [intOf]; omega
            · obtain rfl : j = qs.length := by omega
              have hR3 := hRi.congr (fun n => convJ_end hly.out hwy (facF qs) qs.length x f n)
              have hn3 := hni.mono (n' := (Maps.size D0 - cnt1) * qs.length) (by
                have : (Maps.size D0 - cnt + 1) * qs.length ≤ (Maps.size D0 - cnt1) * qs.length := Nat.mul_le_mul_right _ (by omega)
                rw [Nat.add_mul, Nat.one_mul] at this
                exact this)
              replace hR3 := Lib.hid hR3
              go_wp2
              go_roundw
              case rel => exact ⟨_, cnt1, Dj, hri, by omega, hn3, hR3.out, hbi⟩
              case measure => rw [hri.left_eq, hrg.left_eq]; exact hlt1
    · obtain rfl : k = xs.length := by omega
      go_wp2
      go_ret
      exact ⟨bo, rfl, hbo, ⟨D0, hown, hrep⟩, bb⟩
end Go.Proofs.Ytbndfohnkdhgeaa
