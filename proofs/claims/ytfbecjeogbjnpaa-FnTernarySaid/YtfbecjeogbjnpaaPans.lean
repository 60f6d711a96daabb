/- Contracts of PansFor, in the program and in the reference. No conditions. -/
import Derived.Test.YtfbecjeogbjnpaaDigits
namespace Go.Proofs.Ytfbecjeogbjnpaa
open Go.RowKit

def RetPans (W : World) (n : Int) (e : Ending) (w' : World) : Prop := ∃ v u, e = .returned (.tuple #[v, u, .bool (pansB n)]) ∧ OI w' W.heap.size v (pansL (-1) n) ∧ OI w' W.heap.size u (pansL 1 n) ∧ Apart v u ∧ Below W.heap.size W w'

/-- What holds at the head of a round: the first k digits are dealt out. -/
def panRel (w wr : World) (p q : Value) (ds : List Int) (k : Nat) : Prop :=
  OI wr w.heap.size p (pansTo (-1) ds k) ∧ OI wr w.heap.size q (pansTo 1 ds k) ∧ Apart p q ∧ Below w.heap.size w wr

theorem panRel.left {w wr w' : World} {p q p' : Value} {ds : List Int} {k : Nat} {x : Int} (h : panRel w wr p q ds k) (hx : x = ds.getD k 0) (e : x = -1) (ho : OI w' w.heap.size p' (pansTo (-1) ds k ++ [pw k])) (hg : wr.grownBy w' p.ownBlock) (hl : Loc wr p p') : panRel w w' p' q ds (k + 1) := by
  obtain ⟨h1, h2, h3, h4⟩ := h
  refine ⟨by rw [pansTo_hit hx e]; exact ho, by rw [pansTo_miss hx (by omega)]; exact h2.keptBy h3.symm hg, h3.app hl h2, h4.grown hg h4.size fun j hj => (h1.lt j hj).1⟩
theorem panRel.right {w wr w' : World} {p q q' : Value} {ds : List Int} {k : Nat} {x : Int} (h : panRel w wr p q ds k) (hx : x = ds.getD k 0) (e : x = 1) (ho : OI w' w.heap.size q' (pansTo 1 ds k ++ [pw k])) (hg : wr.grownBy w' q.ownBlock) (hl : Loc wr q q') : panRel w w' p q' ds (k + 1) := by
  obtain ⟨h1, h2, h3, h4⟩ := h
  refine ⟨by rw [pansTo_miss hx (by omega)]; exact h1.keptBy h3 hg, by rw [pansTo_hit hx e]; exact ho, (h3.symm.app hl h1).symm, h4.grown hg h4.size fun j hj => (h2.lt j hj).1⟩
theorem panRel.none {w wr : World} {p q : Value} {ds : List Int} {k : Nat} {x : Int} (h : panRel w wr p q ds k) (hx : x = ds.getD k 0) (e1 : ¬ x = -1) (e2 : ¬ x = 1) : panRel w wr p q ds (k + 1) := by
  obtain ⟨h1, h2, h3, h4⟩ := h
  exact ⟨by rw [pansTo_miss hx e1]; exact h1, by rw [pansTo_miss hx e2]; exact h2, h3, h4⟩
theorem panRel.ret {w w1 wr : World} {p q : Value} {n : Int} (hn : 1 ≤ n ∧ n ≤ 29524) (b1 : Below w.heap.size w w1) (h : panRel w1 wr p q (digs n) (digs n).length) : RetPans w n (.returned (.tuple #[p, q, .bool true])) wr := by
  obtain ⟨h1, h2, h3, h4⟩ := h
  exact ⟨p, q, by rw [pansB_in hn], by rw [pansL_in hn]; exact h1.mono b1.size, by rw [pansL_in hn]; exact h2.mono b1.size, h3, bThen b1 h4⟩
theorem panRel.none_out {w : World} {n : Int} (hn : ¬ (1 ≤ n ∧ n ≤ 29524)) {w1 : World} {p q : Value} (h1 : OI w1 w.heap.size p []) (h2 : OI w1 w.heap.size q []) (h3 : Apart p q) (hb : Below w.heap.size w w1) : RetPans w n (.returned (.tuple #[p, q, .bool false])) w1 :=
  ⟨p, q, by rw [pansB_out hn], by rw [pansL_out hn]; exact h1, by rw [pansL_out hn]; exact h2, h3, hb⟩

theorem implPansFor (n : Int) (w : World) : Calls Try.prog 44 #[.int .i64 n] w (RetPans w n) := by
  cases hr : inB n 1 29524
  · have hn : (!inB n 1 29524) = true := by rw [hr]; rfl
    have HR := Lib.hid hr
    clear hr
    go_enter Try.func44, Try.ntmps44
    go_wp2_with (go_at_call 48; refine (implIn _ _ _ _).mono ?_; rintro e w' ⟨rfl, rfl⟩)
    go_ret3
    exact panRel.none_out (inB_not.1 HR.out) (OI.nil _ _) (OI.nil _ _) (Apart.nil _) (Below.refl _ _)
  · have hn : (!inB n 1 29524) = false := by rw [hr]; rfl
    have hb := inB_iff.1 hr
    have hlen := digs_len10 (n := n) (by omega)
    have hdc := digsC_in (n := n) (by omega)
    obtain ⟨ds, hds⟩ : ∃ ds, ds = digs n := ⟨_, rfl⟩
    rw [← hds] at hlen hdc
    have HD := Lib.hid hds
    have HC := Lib.hid hdc
    have HR := Lib.hid hr
    clear hr hds hdc
    go_enter Try.func44, Try.ntmps44
    go_wp2_with (go_at_call 48; refine (implIn _ _ _ _).mono ?_; rintro e w' ⟨rfl, rfl⟩)
    refine (implDigitsOf _ _).mono ?_
    rintro e w1 ⟨v1, rfl, h1, b1⟩
    rw [HC.out] at h1
    obtain ⟨ad, cap, rfl, hm⟩ := h1.shape
    go_wp2
    go_loopw [5, 6, 7, 16] (fun p q pp i wr => ∃ k : Nat, k ≤ ds.length ∧ i = .int .i64 k ∧ pp = .int .i64 (pw k) ∧ panRel w1 wr p q ds k) (fun _ _ _ i _ => ds.length - (intOf i).toNat)
    case atStart => exact ⟨0, Nat.zero_le _, rfl, rfl, ⟨OI.nil _ _, OI.nil _ _, Apart.nil _, Below.refl _ _⟩⟩
    case round =>
      obtain ⟨k, hk, rfl, rfl, hrl⟩ := hrel
      have hpl := pansTo_len (-1) ds k
      have hpr := pansTo_len 1 ds k
      have hb1 := pw_bd k (by omega)
      have HP := Lib.hid (pw_succ k)
      by_cases hlt : k < ds.length
      · obtain ⟨x, HX, ix, c1⟩ := (h1.stay hrl.2.2.2).at hlt
        by_cases e1 : x = -1
        · have t1 : (x == -1) = true := by simpa using e1
          have E1 := Lib.hid e1
          clear e1
          go_wp2_with (at_builtin; refine app_int_at rfl (.tmp 23) (.tmp 25) rfl rfl hrl.1 rfl hrl.2.2.2.size (by omega) ?_; intro v' w2 ho2 hg2 hl2)
          go_roundw
          case rel => exact ⟨k + 1, by omega, by go_num, by rw [HP.out]; go_num, hrl.left HX.out E1.out ho2 hg2 hl2⟩
          case measure => simp [intOf]; omega
        · have t1 : (x == -1) = false := by simpa using e1
          have E1 := Lib.hid e1
          clear e1
          by_cases e2 : x = 1
          · have t2 : (x == 1) = true := by simpa using e2
            have E2 := Lib.hid e2
            clear e2
            go_wp2_with (at_builtin; refine app_int_at rfl (.tmp 29) (.tmp 31) rfl rfl hrl.2.1 rfl hrl.2.2.2.size (by omega) ?_; intro v' w2 ho2 hg2 hl2)
            go_roundw
            case rel => exact ⟨k + 1, by omega, by go_num, by rw [HP.out]; go_num, hrl.right HX.out E2.out ho2 hg2 hl2⟩
            case measure => simp [intOf]; omega
          · have t2 : (x == 1) = false := by simpa using e2
            have E2 := Lib.hid e2
            clear e2
            go_wp2
            go_roundw
            case rel => exact ⟨k + 1, by omega, by go_num, by rw [HP.out]; go_num, hrl.none HX.out E1.out E2.out⟩
            case measure => simp [intOf]; omega
      · have hk2 : k = ds.length := by omega
        have hfin := hrl
        rw [hk2, HD.out] at hfin
        have HF := Lib.hid (panRel.ret hb b1 hfin)
        clear hfin hrl
        go_wp2
        go_ret3
        exact HF.out

/-- The digits' own slice stays apart from both. -/
def digAside (wr : World) (p q dv : Value) (B : Nat) (ds : List Int) : Prop := OI wr B dv ds ∧ Apart p dv ∧ Apart q dv
theorem digAside.left {wr w' : World} {p q p' dv : Value} {B : Nat} {ds : List Int} (h : digAside wr p q dv B ds) (hg : wr.grownBy w' p.ownBlock) (hl : Loc wr p p') : digAside w' p' q dv B ds :=
  ⟨h.1.keptBy h.2.1.symm hg, h.2.1.app hl h.1, h.2.2⟩
theorem digAside.right {wr w' : World} {p q q' dv : Value} {B : Nat} {ds : List Int} (h : digAside wr p q dv B ds) (hg : wr.grownBy w' q.ownBlock) (hl : Loc wr q q') : digAside w' p q' dv B ds :=
  ⟨h.1.keptBy h.2.2.symm hg, h.2.1, h.2.2.app hl h.1⟩

theorem two_made (w : World) : OI ((w.alloc (.cells #[] 3)).alloc (.cells #[] 3)) w.heap.size (.slice (some ⟨w.heap.size, 0, none⟩) 0 0) [] ∧
    OI ((w.alloc (.cells #[] 3)).alloc (.cells #[] 3)) w.heap.size (.slice (some ⟨w.heap.size + 1, 0, none⟩) 0 0) [] ∧
    Apart (.slice (some ⟨w.heap.size, 0, none⟩) 0 0) (.slice (some ⟨w.heap.size + 1, 0, none⟩) 0 0) ∧ Below w.heap.size w ((w.alloc (.cells #[] 3)).alloc (.cells #[] 3)) := by
  have e : (w.alloc (.cells #[] 3)).heap.size = w.heap.size + 1 := by simp
  refine ⟨?_, ?_, ?_, ((Below.refl _ _).alloc (Nat.le_refl _) _).alloc (by simp) _⟩
  · exact World.ownsRow.alloc (World.ownsRow_made w #[] 0 (Nat.le_refl _) (Nat.zero_le _) rfl) _
  · have h := World.ownsRow_made (e := 3) (size := 1) (base := w.heap.size) (w.alloc (.cells #[] 3)) #[] 0 (by rw [e]; omega) (Nat.zero_le _) rfl
    rw [e] at h
    exact h
  · intro g hg e2
    have h1 : w.heap.size = g := Option.some.inj hg
    have h2 : w.heap.size + 1 = g := Option.some.inj e2
    omega

theorem specPansFor (n : Int) (w : World) : Calls Try.prog 43 #[.int .i64 n] w (RetPans w n) := by
  obtain ⟨m1, m2, m3, m4⟩ := two_made w
  by_cases hlo : n < 1
  · go_enter Try.func43, Try.ntmps43
    go_wp2_with fail
    go_ret3
    exact panRel.none_out (by omega) m1 m2 m3 m4
  · have M : Hid (OI _ _ _ [] ∧ OI _ _ _ [] ∧ Apart _ _ ∧ Below _ _ _) := ⟨m1, m2, m3, m4⟩
    clear m1 m2 m3 m4
    obtain ⟨ds, hds⟩ : ∃ ds, ds = digsC n := ⟨_, rfl⟩
    have hlen : ds.length ≤ 10 := by
      rw [hds]; unfold digsC; split
      · exact digs_len10 (by assumption)
      · exact Nat.zero_le _
    have HD := Lib.hid hds
    clear hds
    go_enter Try.func43, Try.ntmps43
    go_wp2_with fail
    refine (specDigitsOf _ _).mono ?_
    rintro e w1 ⟨v1, rfl, h1, b1⟩
    rw [← HD.out] at h1
    have hstart : panRel w w1 (.slice (some ⟨w.heap.size, 0, none⟩) 0 0) (.slice (some ⟨w.heap.size + 1, 0, none⟩) 0 0) ds 0 ∧ digAside w1 (.slice (some ⟨w.heap.size, 0, none⟩) 0 0) (.slice (some ⟨w.heap.size + 1, 0, none⟩) 0 0) v1 ((w.alloc (.cells #[] 3)).alloc (.cells #[] 3)).heap.size ds :=
      ⟨⟨M.out.1.stay b1, M.out.2.1.stay b1, M.out.2.2.1, M.out.2.2.2.trans (b1.mono M.out.2.2.2.size)⟩, h1, apart_new M.out.1 h1, apart_new M.out.2.1 h1⟩
    have HS := Lib.hid hstart
    clear hstart
    obtain ⟨ad, cap, rfl, hm⟩ := h1.shape
    clear h1 b1 M
    go_wp2
    go_loopw [5, 6, 8, 9] (fun p q pp i wr => ∃ k : Nat, k ≤ ds.length ∧ i = .int .i64 k ∧ pp = .int .i64 (pw k) ∧ panRel w wr p q ds k ∧ digAside wr p q (.slice ad ds.length cap) ((w.alloc (.cells #[] 3)).alloc (.cells #[] 3)).heap.size ds) (fun _ _ _ i _ => ds.length - (intOf i).toNat)
    case atStart => exact ⟨0, Nat.zero_le _, rfl, rfl, HS.out⟩
    case round =>
      obtain ⟨k, hk, rfl, rfl, hrl, hda⟩ := hrel
      have HDA := Lib.hid hda
      clear hda HS
      have hpl := pansTo_len (-1) ds k
      have hpr := pansTo_len 1 ds k
      have hb1 := pw_bd k (by omega)
      have HP := Lib.hid (pw_succ k)
      by_cases hlt : k < ds.length
      · obtain ⟨x, HX, ix, c1⟩ := HDA.out.1.at hlt
        by_cases e1 : x = -1
        · have t1 : (x == -1) = true := by simpa using e1
          have E1 := Lib.hid e1
          clear e1
          go_wp2_with (at_builtin; refine app_int_at rfl (.tmp 30) (.tmp 32) rfl rfl hrl.1 rfl hrl.2.2.2.size (by omega) ?_; intro v' w2 ho2 hg2 hl2)
          go_roundw
          case rel => exact ⟨k + 1, by omega, by go_num, by rw [HP.out], hrl.left HX.out E1.out ho2 hg2 hl2, HDA.out.left hg2 hl2⟩
          case measure => simp [intOf]; omega
        · have t1 : (x == -1) = false := by simpa using e1
          have E1 := Lib.hid e1
          clear e1
          by_cases e2 : x = 1
          · have t2 : (x == 1) = true := by simpa using e2
            have E2 := Lib.hid e2
            clear e2
            go_wp2_with (at_builtin; refine app_int_at rfl (.tmp 36) (.tmp 38) rfl rfl hrl.2.1 rfl hrl.2.2.2.size (by omega) ?_; intro v' w2 ho2 hg2 hl2)
            go_roundw
            case rel => exact ⟨k + 1, by omega, by go_num, by rw [HP.out], hrl.right HX.out E2.out ho2 hg2 hl2, HDA.out.right hg2 hl2⟩
            case measure => simp [intOf]; omega
          · have t2 : (x == 1) = false := by simpa using e2
            have E2 := Lib.hid e2
            clear e2
            go_wp2
            go_roundw
            case rel => exact ⟨k + 1, by omega, by go_num, by rw [HP.out], hrl.none HX.out E1.out E2.out, HDA.out⟩
            case measure => simp [intOf]; omega
      · have hk2 : k = ds.length := by omega
        by_cases hhi : n ≤ 29524
        · have hdn : ds = digs n := by rw [HD.out]; exact digsC_in (by omega)
          have hpos := digs_pos (n := n) (by omega)
          rw [← hdn] at hpos
          have hfin := hrl
          rw [hk2, hdn] at hfin
          have HF := Lib.hid (panRel.ret (w := w) (by omega) (Below.refl _ _) hfin)
          clear hfin hrl hdn
          have hdec : decide (0 < ds.length) = true := decide_eq_true hpos
          go_wp2
          go_ret3
          exact HF.out
        · have hdn : ds = [] := by rw [HD.out]; exact digsC_out (by omega)
          have hfin := hrl
          have hz : ds.length ≤ 0 := by rw [hdn]; exact Nat.le_refl _
          have hdec : decide (0 < ds.length) = false := decide_eq_false (by omega)
          have hk3 : k = 0 := by omega
          rw [hk3] at hfin
          clear hdn hk2 hk3
          have HF := Lib.hid (panRel.none_out (n := n) (by omega) hfin.1 hfin.2.1 hfin.2.2.1 hfin.2.2.2)
          clear hfin hrl
          go_wp2
          go_ret3
          exact HF.out
end Go.Proofs.Ytfbecjeogbjnpaa
