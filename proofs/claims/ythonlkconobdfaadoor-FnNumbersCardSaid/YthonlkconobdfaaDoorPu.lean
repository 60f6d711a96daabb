/- Contracts of ParseUint in the program (strconv.Atoi, strconv.Itoa) and in the reference. Conditions: the library's table (Tab) and its sentinel (Syn). -/
import Derived.Test.YthonlkconobdfaaDoorLaid
import Derived.Test.YthonlkconobdfaaDoorByt
namespace Go.Proofs.YthonlkconobdfaaDoor
open Go.RowKit

/-- The number that a text is, if it is one and its own decimal text. -/
def puO (s : ByteArray) : Option Nat := match Lib.decFrom 0 s.data.toList with
  | some u => if u ≤ 1000000000 ∧ itx (u : Int) = s then some u else none
  | none => none
def puV (s : ByteArray) : Int := (((puO s).getD 0 : Nat) : Int)
def puB (s : ByteArray) : Bool := (puO s).isSome

theorem decFrom_append (l r : List UInt8) (acc : Nat) : Lib.decFrom acc (l ++ r) = (Lib.decFrom acc l).bind (fun a => Lib.decFrom a r) := by
  induction l generalizing acc with
  | nil => rfl
  | cons b l ih =>
    rw [List.cons_append, Lib.decFrom, Lib.decFrom]
    cases Lib.digitVal b with
    | none => rfl
    | some d => exact ih _
theorem digit_lit {d : Nat} (h : d < 10) : Lib.digitVal (UInt8.ofNat (48 + d)) = some d := by
  have e : (UInt8.ofNat (48 + d)).toNat = 48 + d := by rw [UInt8.toNat_ofNat']; omega
  rw [Lib.digitVal, e, if_pos (by omega)]
  congr 1
  omega
theorem dec_one (acc : Nat) {d : Nat} (h : d < 10) : Lib.decFrom acc [UInt8.ofNat (48 + d)] = some (acc * 10 + d) := by
  simp only [Lib.decFrom]
  rw [digit_lit h]
theorem dec_decDigits (u : Nat) : Lib.decFrom 0 (Lib.decDigits u) = some u := by
  induction u using Nat.strongRecOn with
  | _ u ih =>
    by_cases h : u < 10
    · rw [Lib.decDigits_one h, dec_one 0 h]
      congr 1
      omega
    · rw [Lib.decDigits, dif_neg h, decFrom_append, ih (u / 10) (by omega)]
      show Lib.decFrom (u / 10) [UInt8.ofNat (48 + u % 10)] = some u
      rw [dec_one _ (by omega)]
      congr 1
      omega
theorem itx_list (u : Nat) : (itx (u : Int)).data.toList = Lib.decDigits u := by rw [itx, Lib.itoa_nonneg]
theorem decDigits_head (u : Nat) : ∃ b r, Lib.decDigits u = b :: r ∧ 48 ≤ b.toNat ∧ b.toNat ≤ 57 := by
  have h1 := dec_decDigits u
  have h2 : 1 ≤ (Lib.decDigits u).length := by rw [Lib.decDigits_length]; exact Lib.nDigits_pos u
  generalize Lib.decDigits u = l at h1 h2
  cases l with
  | nil => exact absurd h2 (by decide)
  | cons b r =>
    obtain ⟨d, hd⟩ := Lib.digit_of_decFrom _ _ _ h1 0 b rfl
    have := Lib.digitVal_eq hd
    exact ⟨b, r, rfl, this.1, this.2.1⟩
theorem atoi_decDigits (u : Nat) : Lib.atoi (Lib.decDigits u) = some (u : Int) := by
  obtain ⟨b, r, hl, h1, h2⟩ := decDigits_head u
  have hd := dec_decDigits u
  rw [hl] at hd ⊢
  have n1 : ¬ (b == 45) = true := by intro e; rw [beq_iff_eq] at e; rw [e] at h1; exact absurd h1 (by decide)
  have n2 : ¬ (b == 43) = true := by intro e; rw [beq_iff_eq] at e; rw [e] at h1; exact absurd h1 (by decide)
  rw [Lib.atoi, if_neg n1, if_neg n2, Lib.decNat]
  simp [hd]
theorem puO_some {s : ByteArray} {u : Nat} (h : puO s = some u) : u ≤ 1000000000 ∧ itx (u : Int) = s ∧ Lib.decFrom 0 s.data.toList = some u ∧ Lib.atoi s.data.toList = some (u : Int) := by
  unfold puO at h
  cases hd : Lib.decFrom 0 s.data.toList with
  | none => rw [hd] at h; cases h
  | some v =>
    rw [hd] at h
    simp only at h
    split at h
    · rename_i q
      obtain rfl := Option.some.inj h
      refine ⟨q.1, q.2, rfl, ?_⟩
      rw [← q.2, itx_list]
      exact atoi_decDigits v
    · cases h
theorem puO_no {s : ByteArray} (h : ∀ u : Nat, u ≤ 1000000000 → itx (u : Int) = s → Lib.decFrom 0 s.data.toList = some u → Lib.atoi s.data.toList = some (u : Int) → False) : puV s = 0 ∧ puB s = false := by
  have : puO s = none := by
    cases e : puO s with
    | none => rfl
    | some u => obtain ⟨a, b, c, d⟩ := puO_some e; exact (h u a b c d).elim
  rw [puV, puB, this]
  exact ⟨rfl, rfl⟩
theorem puO_yes {s : ByteArray} {u : Nat} (h1 : u ≤ 1000000000) (h2 : itx (u : Int) = s) : puV s = (u : Int) ∧ puB s = true := by
  have hd : Lib.decFrom 0 s.data.toList = some u := by rw [← h2, itx_list]; exact dec_decDigits u
  have : puO s = some u := by rw [puO, hd]; exact if_pos ⟨h1, h2⟩
  rw [puV, puB, this]
  exact ⟨rfl, rfl⟩
theorem itx_small {u : Nat} (h : u ≤ 1000000000) : 1 ≤ (itx (u : Int)).size ∧ (itx (u : Int)).size ≤ 10 := by
  have e : (itx (u : Int)).size = Lib.nDigits u := by
    rw [← Lib.decDigits_length, ← itx_list]
    show (itx (u : Int)).data.size = _
    simp
  rw [e]
  refine ⟨Lib.nDigits_pos u, ?_⟩
  by_cases q : Lib.nDigits u ≤ 10
  · exact q
  · exfalso
    have hle : ∀ k v, v < 10 ^ (k + 1) → Lib.nDigits v ≤ k + 1 := by
      intro k
      induction k with
      | zero => intro v hv; rw [Lib.nDigits_small (by simpa using hv)]; exact Nat.le_refl _
      | succ k ih =>
        intro v hv
        by_cases h10 : v < 10
        · rw [Lib.nDigits_small h10]; omega
        · rw [Lib.nDigits_big h10]
          have := ih (v / 10) (by rw [Nat.pow_succ] at hv; omega)
          omega
    have := hle 9 u (by omega)
    omega

/-- A call hands back a number and a truth; nothing that was there has turned. -/
def RetPU (W : World) (s : ByteArray) (e : Ending) (w' : World) : Prop := e = .returned (.tuple #[.int .i64 (puV s), .bool (puB s)]) ∧ Below W.heap.size W w'
theorem ret_pu {s : ByteArray} {a : Int} {b : Bool} (h : puV s = a ∧ puB s = b) : Ending.returned (.tuple #[.int .i64 a, .bool b]) = .returned (.tuple #[.int .i64 (puV s), .bool (puB s)]) := by rw [h.1, h.2]
theorem str_ne {a b : ByteArray} (h : ¬ a = b) : (!(a.toList == b.toList)) = true := by
  rw [Bool.not_eq_true', beq_eq_false_iff_ne]
  intro e
  rw [ByteArray.toList_eq, ByteArray.toList_eq] at e
  exact h (ByteArray.ext (Array.toList_inj.1 e))

set_option maxRecDepth 100000 in
set_option maxHeartbeats 2000000 in
theorem implPu (s : ByteArray) (w : World) (ht : Tab w) (hsy : Syn w) : Calls Tryd.prog 23 #[.string s] w (RetPU w s) := by
  by_cases h1 : s.size < 1
  · have HN := Lib.hid (puO_no (s := s) fun u a b _ _ => by have := (itx_small a).1; rw [b] at this; omega)
    have hd : decide ((s.size : Int) < 1) = true := decide_eq_true (by omega)
    go_enter Tryd.func23, Tryd.ntmps23
    go_wp2
    go_ret2
    exact ⟨ret_pu HN.out, Below.refl _ _⟩
  · have hd1 : decide ((s.size : Int) < 1) = false := decide_eq_false (by omega)
    by_cases h2 : 10 < s.size
    · have HN := Lib.hid (puO_no (s := s) fun u a b _ _ => by have := (itx_small a).2; rw [b] at this; omega)
      have hd : decide ((10 : Int) < (s.size : Int)) = true := decide_eq_true (by omega)
      go_enter Tryd.func23, Tryd.ntmps23
      go_wp2
      go_ret2
      exact ⟨ret_pu HN.out, Below.refl _ _⟩
    · have hd2 : decide ((10 : Int) < (s.size : Int)) = false := decide_eq_false (by omega)
      have h18 : s.size ≤ 18 := by omega
      cases ha : Lib.atoi s.data.toList with
      | none =>
        have HN := Lib.hid (puO_no (s := s) fun u _ _ _ d => by rw [ha] at d; cases d)
        obtain ⟨tp, p, hv⟩ := hsy
        have hv0 := hv w (Below.refl _ _)
        replace ha := Lib.hid ha
        go_enter Tryd.func23, Tryd.ntmps23
        go_wp2_with (first | (go_at_call 36; refine (Tryd.strconv_Atoi_err_var s h18 ha.out tp p w hv0).mono ?_; rintro e w1 ⟨N, rfl, hN, _, b1⟩) | fail)
        go_wp2
        go_ret2
        exact ⟨ret_pu HN.out, b1⟩
      | some n =>
        by_cases hn : n < 0
        · have HN := Lib.hid (puO_no (s := s) fun u _ _ _ d => by rw [ha] at d; have := Option.some.inj d; omega)
          have hdn : decide (n < 0) = true := decide_eq_true hn
          replace ha := Lib.hid ha
          go_enter Tryd.func23, Tryd.ntmps23
          go_wp2_with (first | (go_at_call 36; refine (Tryd.strconv_Atoi s n h18 ha.out w).mono ?_; rintro e w1 ⟨rfl, t, rfl⟩) | fail)
          go_wp2
          go_ret2
          exact ⟨ret_pu HN.out, Lib.bytesWorld_below _ _ _⟩
        · have hdn : decide (n < 0) = false := decide_eq_false hn
          by_cases hx : 1000000000 < n
          · have HN := Lib.hid (puO_no (s := s) fun u a _ _ d => by rw [ha] at d; have := Option.some.inj d; omega)
            have hdx : decide (1000000000 < n) = true := decide_eq_true hx
            replace ha := Lib.hid ha
            go_enter Tryd.func23, Tryd.ntmps23
            go_wp2_with (first | (go_at_call 36; refine (Tryd.strconv_Atoi s n h18 ha.out w).mono ?_; rintro e w1 ⟨rfl, t, rfl⟩) | fail)
            go_wp2
            go_ret2
            exact ⟨ret_pu HN.out, Lib.bytesWorld_below _ _ _⟩
          · have hdx : decide (1000000000 < n) = false := decide_eq_false hx
            by_cases he : itx n = s
            · have HN : Hid (puV s = n ∧ puB s = true) := by
                have := puO_yes (s := s) (u := n.toNat) (by omega) (by rw [show ((n.toNat : Nat) : Int) = n from by omega]; exact he)
                rw [show ((n.toNat : Nat) : Int) = n from by omega] at this
                exact this
              replace ha := Lib.hid ha
              replace he := Lib.hid he
              go_enter Tryd.func23, Tryd.ntmps23
              go_wp2_with (first | (go_at_call 36; refine (Tryd.strconv_Atoi s n h18 ha.out w).mono ?_; rintro e w1 ⟨rfl, t, rfl⟩; have b1 := Lib.bytesWorld_below w 5 t; generalize Lib.bytesWorld w 5 t = w1 at b1 ⊢) | (go_at_call 10; refine (implFmt n w1 (by omega) (ht.on b1)).mono ?_; rintro e w2 ⟨rfl, b2⟩; rw [he.out]) | fail)
              have bb := bThen b1 b2
              clear b1 b2
              go_wp2
              go_ret2
              exact ⟨ret_pu HN.out, bb⟩
            · have HN := Lib.hid (puO_no (s := s) fun u a b _ d => by rw [ha] at d; have := Option.some.inj d; rw [this] at he; exact he b)
              have hne := str_ne he
              obtain ⟨x, ex⟩ : ∃ x, x = itx n := ⟨_, rfl⟩
              rw [← ex] at hne
              replace ha := Lib.hid ha
              replace he := Lib.hid he
              replace ex := Lib.hid ex
              go_enter Tryd.func23, Tryd.ntmps23
              go_wp2_with (first | (go_at_call 36; refine (Tryd.strconv_Atoi s n h18 ha.out w).mono ?_; rintro e w1 ⟨rfl, t, rfl⟩; have b1 := Lib.bytesWorld_below w 5 t; generalize Lib.bytesWorld w 5 t = w1 at b1 ⊢) | (go_at_call 10; refine (implFmt n w1 (by omega) (ht.on b1)).mono ?_; rintro e w2 ⟨rfl, b2⟩; rw [← ex.out]) | fail)
              have bb := bThen b1 b2
              clear b1 b2
              go_wp2
              go_ret2
              exact ⟨ret_pu HN.out, bb⟩
end Go.Proofs.YthonlkconobdfaaDoor
