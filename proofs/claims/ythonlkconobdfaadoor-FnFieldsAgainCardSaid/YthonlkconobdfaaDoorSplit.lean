/- Contracts of impl.SplitFields and spec.SplitFields. -/
import Derived.Test.YthonlkconobdfaaDoorStrs
namespace Go.Proofs.YthonlkconobdfaaDoor
open Go.RowKit

/-- The fields found before place i, and where the field that is open at i begins. -/
def spst (s : ByteArray) : Nat → List ByteArray × Nat
  | 0 => ([], 0)
  | i + 1 => if i < s.size ∧ cd s i ≠ 32 then spst s i else (if (spst s i).2 < i then (spst s i).1 ++ [s.extract (spst s i).2 i] else (spst s i).1, i + 1)
theorem spst_in {s : ByteArray} {i : Nat} (h : i < s.size) (h2 : cd s i ≠ 32) : spst s (i + 1) = spst s i := by rw [spst, if_pos ⟨h, h2⟩]
theorem spst_end {s : ByteArray} {i : Nat} (h : ¬ (i < s.size ∧ cd s i ≠ 32)) (h2 : (spst s i).2 < i) : spst s (i + 1) = ((spst s i).1 ++ [s.extract (spst s i).2 i], i + 1) := by rw [spst, if_neg h, if_pos h2]
theorem spst_gap {s : ByteArray} {i : Nat} (h : ¬ (i < s.size ∧ cd s i ≠ 32)) (h2 : ¬ (spst s i).2 < i) : spst s (i + 1) = ((spst s i).1, i + 1) := by rw [spst, if_neg h, if_neg h2]
theorem spst_bd (s : ByteArray) (i : Nat) : (spst s i).2 ≤ i ∧ (spst s i).1.length ≤ i := by
  induction i with
  | zero => exact ⟨Nat.le_refl _, Nat.le_refl _⟩
  | succ i ih =>
    by_cases h : i < s.size ∧ cd s i ≠ 32
    · rw [spst_in h.1 h.2]; omega
    · by_cases h2 : (spst s i).2 < i
      · rw [spst_end h h2]; simp; omega
      · rw [spst_gap h h2]; simp; omega
def okTo (s : ByteArray) (m : Nat) : Prop := ∀ j, j < m → 32 ≤ cd s j ∧ cd s j ≤ 126
instance (s : ByteArray) (m : Nat) : Decidable (okTo s m) := by unfold okTo; exact inferInstance
theorem okTo.step {s : ByteArray} {k : Nat} (h : okTo s k) (h1 : 32 ≤ cd s k ∧ cd s k ≤ 126) : okTo s (k + 1) := by
  intro j hj
  rcases Nat.lt_or_ge j k with h3 | h3
  · exact h j h3
  · obtain rfl : j = k := by omega
    exact h1
def fldB (s : ByteArray) : Bool := decide (s.size ≤ 600 ∧ okTo s s.size ∧ (spst s (s.size + 1)).1.length ≤ 24)
def fldL (s : ByteArray) : List ByteArray := if fldB s = true then (spst s (s.size + 1)).1 else []
theorem fld_no {s : ByteArray} (h : fldB s = false) : fldL s = [] ∧ fldB s = false := ⟨by rw [fldL, if_neg (by rw [h]; decide)], h⟩
theorem fld_yes {s : ByteArray} (h : fldB s = true) : fldL s = (spst s (s.size + 1)).1 ∧ fldB s = true := ⟨by rw [fldL, if_pos h], h⟩
theorem fld_len (s : ByteArray) : (fldL s).length ≤ 24 := by
  cases h : fldB s
  · rw [(fld_no h).1]; simp
  · rw [(fld_yes h).1]; exact (of_decide_eq_true h).2.2

/-- What the program keeps: the open field's beginning, or -1. -/
def fromI (b i : Nat) : Int := if b < i then (b : Int) else -1
theorem fromI_lt {b i : Nat} (h : b < i) : fromI b i = (b : Int) := if_pos h
theorem fromI_ge {b i : Nat} (h : ¬ b < i) : fromI b i = -1 := if_neg h

/-- A call hands back a new slice of strings and a truth; nothing that was there has turned. -/
def RetOSB (W : World) (ls : List ByteArray) (t : Bool) (e : Ending) (w' : World) : Prop := ∃ v, e = .returned (.tuple #[v, .bool t]) ∧ OS w' W.heap.size v ls ∧ Below W.heap.size W w'
theorem ret_vb {v : Value} {c d : Bool} (h : c = d) : Ending.returned (.tuple #[v, .bool c]) = .returned (.tuple #[v, .bool d]) := by rw [h]
theorem bAppS {a w w' : World} {base : Nat} {v : Value} {xs : List ByteArray} (hb : Below a.heap.size a w) (h : OS w base v xs) (hbase : a.heap.size ≤ base) (hg : w.grownBy w' v.ownBlock) : Below a.heap.size a w' :=
  hb.grown hg hb.size fun k hk => Nat.le_trans hbase (h.lt k hk).1

def relI (s : ByteArray) (w : World) (o f : Value) (wr : World) (i : Nat) : Prop :=
  OS wr w.heap.size o (spst s i).1 ∧ f = .int .i64 (fromI (spst s i).2 i) ∧ Below w.heap.size w wr ∧ okTo s (min i s.size)
def relS (s : ByteArray) (w : World) (o f : Value) (wr : World) (i : Nat) : Prop :=
  OS wr w.heap.size o (spst s i).1 ∧ f = .int .i64 ((spst s i).2 : Int) ∧ Below w.heap.size w wr ∧ okTo s (min i s.size)

theorem min_step {s : ByteArray} {i : Nat} (h : okTo s (min i s.size)) (h2 : i < s.size → 32 ≤ cd s i ∧ cd s i ≤ 126) : okTo s (min (i + 1) s.size) := by
  by_cases hi : i < s.size
  · rw [show min (i + 1) s.size = i + 1 from by omega]
    rw [show min i s.size = i from by omega] at h
    exact h.step (h2 hi)
  · rw [show min (i + 1) s.size = min i s.size from by omega]
    exact h

set_option maxRecDepth 100000 in
set_option maxHeartbeats 2000000 in
theorem implSplit (s : ByteArray) (w : World) : Calls Tryd.prog 19 #[.string s] w (RetOSB w (fldL s) (fldB s)) := by
  by_cases hs : s.size ≤ 600
  · have hd : (s.size : Int) ≤ 600 := by omega
    go_enter Tryd.func19, Tryd.ntmps19
    go_wp2
    go_loopw [4, 5, 6] (fun o f i wr => ∃ k : Nat, k ≤ s.size + 1 ∧ i = .int .i64 (k : Int) ∧ relI s w o f wr k) (fun _ _ i _ => s.size + 1 - (intOf i).toNat)
    case atStart => exact ⟨0, by omega, rfl, OS.nil _ _, rfl, Below.refl _ _, fun j hj => absurd hj (by omega)⟩
    case round =>
      obtain ⟨k, hk, rfl, ho, rfl, hb, hg⟩ := hrel
      have hbd := spst_bd s k
      obtain ⟨b, hbe⟩ : ∃ b, b = (spst s k).2 := ⟨_, rfl⟩
      obtain ⟨L, hL⟩ : ∃ L, L = (spst s k).1 := ⟨_, rfl⟩
      have HB := Lib.hid hbe
      have HL := Lib.hid hL
      rw [← hbe, ← hL] at hbd
      rw [← hL] at ho
      rw [← hbe]
      clear hbe hL
      by_cases hkn : k < s.size
      · have h1 : (0 : Int) ≤ (k : Int) := by omega
        have h2 : (k : Int) < (s.size : Int) := by omega
        have h3 : (k : Int) ≤ (s.size : Int) := by omega
        have hne : ((k : Int) == (s.size : Int)) = false := by rw [beq_eq_false_iff_ne]; omega
        have hcd := cd_eq hkn
        have hcb := cd_bd s k
        obtain ⟨x, hx⟩ : ∃ x, x = cd s k := ⟨_, rfl⟩
        rw [← hx] at hcd hcb
        have HX := Lib.hid hx
        clear hx
        by_cases h32 : x = 32
        · have HE : Hid (¬ (k < s.size ∧ cd s k ≠ 32)) := fun h => h.2 (by rw [← HX.out]; exact h32)
          have hok : Hid (okTo s (min (k + 1) s.size)) := min_step hg fun _ => by rw [← HX.out, h32]; omega
          subst h32
          by_cases hbk : b < k
          · rw [fromI_lt hbk]
            have HS := Lib.hid (spst_end HE.out (by rw [← HB.out]; exact hbk))
            rw [← HB.out, ← HL.out] at HS
            have l1 : (0 : Int) ≤ (b : Int) := by omega
            have l2 : (b : Int) ≤ (k : Int) := by omega
            go_wp2_with (at_builtin; refine app_str rfl (.tmp 28) (.tmp 33) rfl rfl ho rfl hb.size (by omega) ?_; intro v' w1 ho1 hg1)
            go_roundw
            case rel => exact ⟨k + 1, by omega, by go_num, by rw [HS.out]; exact ho1, by rw [HS.out, fromI_ge (by simp)], bAppS hb ho (Nat.le_refl _) hg1, hok.out⟩
            case measure => simp [intOf] <;> omega
          · rw [fromI_ge hbk]
            have HS := Lib.hid (spst_gap HE.out (by rw [← HB.out]; exact hbk))
            rw [← HL.out] at HS
            go_wp2
            go_roundw
            case rel => exact ⟨k + 1, by omega, by go_num, by rw [HS.out]; exact ho, by rw [HS.out, fromI_ge (by simp)], hb, hok.out⟩
            case measure => simp [intOf] <;> omega
        · have hxe : (x == 32) = false := by rw [beq_eq_false_iff_ne]; exact h32
          have HS := Lib.hid (spst_in hkn (by rw [← HX.out]; exact h32))
          clear h32
          by_cases hlow : x < 32
          · have HN := Lib.hid (fld_no (s := s) (decide_eq_false (fun h => by have := h.2.1 k hkn; rw [← HX.out] at this; omega)))
            go_wp2
            go_ret2
            exact ⟨_, ret_vb HN.out.2.symm, by rw [HN.out.1]; exact OS.nil _ _, hb⟩
          · by_cases hhi : 126 < x
            · have HN := Lib.hid (fld_no (s := s) (decide_eq_false (fun h => by have := h.2.1 k hkn; rw [← HX.out] at this; omega)))
              go_wp2
              go_ret2
              exact ⟨_, ret_vb HN.out.2.symm, by rw [HN.out.1]; exact OS.nil _ _, hb⟩
            · have hok : Hid (okTo s (min (k + 1) s.size)) := min_step hg fun _ => by rw [← HX.out]; omega
              by_cases hbk : b < k
              · rw [fromI_lt hbk]
                go_wp2
                go_roundw
                case rel => exact ⟨k + 1, by omega, by go_num, by rw [HS.out, ← HL.out]; exact ho, by rw [HS.out, ← HB.out, fromI_lt (by omega)], hb, hok.out⟩
                case measure => simp [intOf] <;> omega
              · rw [fromI_ge hbk]
                have hbk2 : b = k := by omega
                have HK := Lib.hid hbk2
                clear hbk2
                go_wp2
                go_roundw
                case rel => exact ⟨k + 1, by omega, by go_num, by rw [HS.out, ← HL.out]; exact ho, by rw [HS.out, ← HB.out, fromI_lt (by omega), HK.out], hb, hok.out⟩
                case measure => simp [intOf] <;> omega
      · by_cases hke : k = s.size
        · subst hke
          have HE : Hid (¬ (s.size < s.size ∧ cd s s.size ≠ 32)) := fun h => by omega
          have hok : Hid (okTo s (min (s.size + 1) s.size)) := min_step hg fun h => by omega
          clear hkn
          by_cases hbk : b < s.size
          · rw [fromI_lt hbk]
            have HS := Lib.hid (spst_end HE.out (by rw [← HB.out]; exact hbk))
            rw [← HB.out, ← HL.out] at HS
            have l1 : (0 : Int) ≤ (b : Int) := by omega
            have l2 : (b : Int) ≤ (s.size : Int) := by omega
            go_wp2_with (at_builtin; refine app_str rfl (.tmp 28) (.tmp 33) rfl rfl ho rfl hb.size (by omega) ?_; intro v' w1 ho1 hg1)
            go_roundw
            case rel => exact ⟨s.size + 1, by omega, by go_num, by rw [HS.out]; exact ho1, by rw [HS.out, fromI_ge (by simp)], bAppS hb ho (Nat.le_refl _) hg1, hok.out⟩
            case measure => simp [intOf] <;> omega
          · rw [fromI_ge hbk]
            have HS := Lib.hid (spst_gap HE.out (by rw [← HB.out]; exact hbk))
            rw [← HL.out] at HS
            go_wp2
            go_roundw
            case rel => exact ⟨s.size + 1, by omega, by go_num, by rw [HS.out]; exact ho, by rw [HS.out, fromI_ge (by simp)], hb, hok.out⟩
            case measure => simp [intOf] <;> omega
        · have hk1 : k = s.size + 1 := by omega
          have hgt : (s.size : Int) < (k : Int) := by omega
          have HG : Hid (okTo s s.size) := by unfold Hid; rw [show min k s.size = s.size from by omega] at hg; exact hg
          have HK := Lib.hid hk1
          clear hk1 hke hkn
          obtain ⟨ad, cap, rfl, hmx⟩ := ho.shape
          obtain ⟨n, hn⟩ : ∃ n, n = L.length := ⟨_, rfl⟩
          have HN := Lib.hid hn
          rw [← hn] at hmx
          rw [← hn]
          clear hn
          by_cases hc : n ≤ 24
          · have HY := Lib.hid (fld_yes (s := s) (decide_eq_true ⟨hs, HG.out, by rw [← HK.out, ← HL.out, ← HN.out]; exact hc⟩))
            go_wp2
            go_ret2
            exact ⟨_, ret_vb HY.out.2.symm, by rw [HY.out.1, ← HK.out, ← HL.out, HN.out]; exact ho, hb⟩
          · have hno := Lib.hid (fld_no (s := s) (decide_eq_false (fun h => by have := h.2.2; rw [← HK.out, ← HL.out, ← HN.out] at this; omega)))
            go_wp2
            go_ret2
            exact ⟨_, ret_vb hno.out.2.symm, by rw [hno.out.1]; exact OS.nil _ _, hb⟩
  · have hd : (600 : Int) < (s.size : Int) := by omega
    have HN := Lib.hid (fld_no (s := s) (decide_eq_false (fun h => hs h.1)))
    go_enter Tryd.func19, Tryd.ntmps19
    go_wp2
    go_ret2
    exact ⟨_, ret_vb HN.out.2.symm, by rw [HN.out.1]; exact OS.nil _ _, Below.refl _ _⟩
set_option maxRecDepth 100000 in
set_option maxHeartbeats 2000000 in
theorem specSplit (s : ByteArray) (w : World) : Calls Tryd.prog 20 #[.string s] w (RetOSB w (fldL s) (fldB s)) := by
  by_cases hs : s.size ≤ 600
  · have hd : (s.size : Int) ≤ 600 := by omega
    go_enter Tryd.func20, Tryd.ntmps20
    go_wp2
    go_loopw [4, 5, 6] (fun o f i wr => ∃ k : Nat, k ≤ s.size + 1 ∧ i = .int .i64 (k : Int) ∧ relS s w o f wr k) (fun _ _ i _ => s.size + 1 - (intOf i).toNat)
    case atStart => exact ⟨0, by omega, rfl, OS.made _ _ (Nat.le_refl _), rfl, (Below.refl _ _).alloc (Nat.le_refl _) _, fun j hj => absurd hj (by omega)⟩
    case round =>
      obtain ⟨k, hk, rfl, ho, rfl, hb, hg⟩ := hrel
      have hbd := spst_bd s k
      obtain ⟨b, hbe⟩ : ∃ b, b = (spst s k).2 := ⟨_, rfl⟩
      obtain ⟨L, hL⟩ : ∃ L, L = (spst s k).1 := ⟨_, rfl⟩
      have HB := Lib.hid hbe
      have HL := Lib.hid hL
      rw [← hbe, ← hL] at hbd
      rw [← hL] at ho
      rw [← hbe]
      clear hbe hL
      by_cases hkn : k < s.size
      · have h1 : (0 : Int) ≤ (k : Int) := by omega
        have h2 : (k : Int) < (s.size : Int) := by omega
        have h3 : (k : Int) ≤ (s.size : Int) := by omega
        have hcd := cd_eq hkn
        have hcb := cd_bd s k
        obtain ⟨x, hx⟩ : ∃ x, x = cd s k := ⟨_, rfl⟩
        rw [← hx] at hcd hcb
        have HX := Lib.hid hx
        clear hx
        by_cases h32 : x = 32
        · have HE : Hid (¬ (k < s.size ∧ cd s k ≠ 32)) := fun h => h.2 (by rw [← HX.out]; exact h32)
          have hok : Hid (okTo s (min (k + 1) s.size)) := min_step hg fun _ => by rw [← HX.out, h32]; omega
          subst h32
          by_cases hbk : b < k
          · have hbk2 : (b : Int) < (k : Int) := by omega
            have HS := Lib.hid (spst_end HE.out (by rw [← HB.out]; exact hbk))
            rw [← HB.out, ← HL.out] at HS
            have l1 : (0 : Int) ≤ (b : Int) := by omega
            have l2 : (b : Int) ≤ (k : Int) := by omega
            go_wp2_with (at_builtin; refine app_str rfl (.tmp 48) (.tmp 53) rfl rfl ho rfl hb.size (by omega) ?_; intro v' w1 ho1 hg1)
            go_roundw
            case rel => exact ⟨k + 1, by omega, by go_num, by rw [HS.out]; exact ho1, by rw [HS.out]; go_num, bAppS hb ho (Nat.le_refl _) hg1, hok.out⟩
            case measure => simp [intOf] <;> omega
          · have HS := Lib.hid (spst_gap HE.out (by rw [← HB.out]; exact hbk))
            rw [← HL.out] at HS
            have hbk2 : (k : Int) ≤ (b : Int) := by omega
            go_wp2
            go_roundw
            case rel => exact ⟨k + 1, by omega, by go_num, by rw [HS.out]; exact ho, by rw [HS.out]; go_num, hb, hok.out⟩
            case measure => simp [intOf] <;> omega
        · have hxe : (x != 32) = true := by rw [bne_iff_ne]; exact h32
          have HS := Lib.hid (spst_in hkn (by rw [← HX.out]; exact h32))
          clear h32
          by_cases hlow : x < 32
          · have HN := Lib.hid (fld_no (s := s) (decide_eq_false (fun h => by have := h.2.1 k hkn; rw [← HX.out] at this; omega)))
            go_wp2
            go_ret2
            exact ⟨_, ret_vb HN.out.2.symm, by rw [HN.out.1]; exact OS.made _ _ hb.size, hb.alloc hb.size _⟩
          · by_cases hhi : 126 < x
            · have HN := Lib.hid (fld_no (s := s) (decide_eq_false (fun h => by have := h.2.1 k hkn; rw [← HX.out] at this; omega)))
              go_wp2
              go_ret2
              exact ⟨_, ret_vb HN.out.2.symm, by rw [HN.out.1]; exact OS.made _ _ hb.size, hb.alloc hb.size _⟩
            · have hok : Hid (okTo s (min (k + 1) s.size)) := min_step hg fun _ => by rw [← HX.out]; omega
              go_wp2
              go_roundw
              case rel => exact ⟨k + 1, by omega, by go_num, by rw [HS.out, ← HL.out]; exact ho, by rw [HS.out, ← HB.out], hb, hok.out⟩
              case measure => simp [intOf] <;> omega
      · by_cases hke : k = s.size
        · subst hke
          have HE : Hid (¬ (s.size < s.size ∧ cd s s.size ≠ 32)) := fun h => by omega
          have hok : Hid (okTo s (min (s.size + 1) s.size)) := min_step hg fun h => by omega
          clear hkn
          by_cases hbk : b < s.size
          · have hbk2 : (b : Int) < (s.size : Int) := by omega
            have HS := Lib.hid (spst_end HE.out (by rw [← HB.out]; exact hbk))
            rw [← HB.out, ← HL.out] at HS
            have l1 : (0 : Int) ≤ (b : Int) := by omega
            have l2 : (b : Int) ≤ (s.size : Int) := by omega
            go_wp2_with (at_builtin; refine app_str rfl (.tmp 48) (.tmp 53) rfl rfl ho rfl hb.size (by omega) ?_; intro v' w1 ho1 hg1)
            go_roundw
            case rel => exact ⟨s.size + 1, by omega, by go_num, by rw [HS.out]; exact ho1, by rw [HS.out]; go_num, bAppS hb ho (Nat.le_refl _) hg1, hok.out⟩
            case measure => simp [intOf] <;> omega
          · have hbk2 : (s.size : Int) ≤ (b : Int) := by omega
            have HS := Lib.hid (spst_gap HE.out (by rw [← HB.out]; exact hbk))
            rw [← HL.out] at HS
            go_wp2
            go_roundw
            case rel => exact ⟨s.size + 1, by omega, by go_num, by rw [HS.out]; exact ho, by rw [HS.out]; go_num, hb, hok.out⟩
            case measure => simp [intOf] <;> omega
        · have hk1 : k = s.size + 1 := by omega
          have hgt : (s.size : Int) < (k : Int) := by omega
          have HG : Hid (okTo s s.size) := by unfold Hid; rw [show min k s.size = s.size from by omega] at hg; exact hg
          have HK := Lib.hid hk1
          clear hk1 hke hkn
          obtain ⟨ad, cap, rfl, hmx⟩ := ho.shape
          obtain ⟨n, hn⟩ : ∃ n, n = L.length := ⟨_, rfl⟩
          have HN := Lib.hid hn
          rw [← hn] at hmx
          rw [← hn]
          clear hn
          by_cases hc : n ≤ 24
          · have HY := Lib.hid (fld_yes (s := s) (decide_eq_true ⟨hs, HG.out, by rw [← HK.out, ← HL.out, ← HN.out]; exact hc⟩))
            go_wp2
            go_ret2
            exact ⟨_, ret_vb HY.out.2.symm, by rw [HY.out.1, ← HK.out, ← HL.out, HN.out]; exact ho, hb⟩
          · have hno := Lib.hid (fld_no (s := s) (decide_eq_false (fun h => by have := h.2.2; rw [← HK.out, ← HL.out, ← HN.out] at this; omega)))
            go_wp2
            go_ret2
            exact ⟨_, ret_vb hno.out.2.symm, by rw [hno.out.1]; exact OS.made _ _ hb.size, hb.alloc hb.size _⟩
  · have hd : (600 : Int) < (s.size : Int) := by omega
    have HN := Lib.hid (fld_no (s := s) (decide_eq_false (fun h => hs h.1)))
    go_enter Tryd.func20, Tryd.ntmps20
    go_wp2
    go_ret2
    exact ⟨_, ret_vb HN.out.2.symm, by rw [HN.out.1]; exact OS.made _ _ (Nat.le_refl _), (Below.refl _ _).alloc (Nat.le_refl _) _⟩
end Go.Proofs.YthonlkconobdfaaDoor
