/- Contracts of FewestMarks in the program and of ShortestGolomb in the program and the reference. No conditions. -/
import Derived.Test.YtemeechmemhokaaRw
import Derived.Test.YtemeechmemhokaaGl
import Derived.Test.YtemeechmemhokaaKern
import Derived.Test.YtemeechmemhokaaGolI
namespace Go.Proofs.Ytemeechmemhokaa
open Go.RowKit

theorem goodM : Good 18 measF := fun w base v fs h => (implMeasures h).mono fun e w' q => by rw [measF_eq]; exact q
theorem goodG : Good 16 golF := fun w base v fs h => (implGolomb h).mono fun e w' q => by rw [golF_eq]; exact q
theorem golN_eq : golN = golF := by funext fs; rw [golF_eq]; rfl
theorem oi_zero (w : World) : OI (w.alloc (.cells #[.int .i64 0] 3)) w.heap.size (.slice (some ⟨w.heap.size, 0, none⟩) 1 1) (il [0]) := oi_row w [0] 1 rfl (by decide)

theorem none_of {r : Option (List Nat)} (h : none? r = true) : r = none := by
  cases r with
  | none => rfl
  | some _ => cases h
theorem some_of {r : Option (List Nat)} (h : (!none? r) = true) : ∃ x, r = some x := by
  cases r with
  | none => cases h
  | some x => exact ⟨x, rfl⟩
theorem fi_lt {L n : Nat} (h1 : 1 ≤ L) (h2 : L ≤ 13) (hn : 2 ≤ n) (hl : n < fewT L) : rwF measF L (n - 1) [0] = none := by
  have h := allTo_iff.1 fi_ok (L - 1) (by omega)
  rw [show L - 1 + 1 = L from by omega, chkFI, Bool.and_eq_true, allTo_iff] at h
  have h3 := h.1 n hl
  rw [Bool.or_eq_true, Nat.blt_eq] at h3
  rcases h3 with h3 | h3
  · omega
  · exact none_of h3
theorem fi_at {L : Nat} (h1 : 1 ≤ L) (h2 : L ≤ 13) : ∃ r, rwF measF L (fewT L - 1) [0] = some r := by
  have h := allTo_iff.1 fi_ok (L - 1) (by omega)
  rw [show L - 1 + 1 = L from by omega, chkFI, Bool.and_eq_true] at h
  exact some_of h.2
theorem fewT_bd : ∀ L, L < 14 → 1 ≤ L → 2 ≤ fewT L ∧ fewT L ≤ 6 := by decide
theorem golA_bd : ∀ n, n < 6 → 1 ≤ n → n - 1 ≤ golA n ∧ golA n ≤ 11 := by decide
theorem gi_lt {n t : Nat} (h1 : 1 ≤ n) (h2 : n ≤ 5) (ht : t < golA n) : rwF golF t (n - 1) [0] = none := by
  have h := allTo_iff.1 gi_ok (n - 1) (by omega)
  rw [show n - 1 + 1 = n from by omega, chkGI, Bool.and_eq_true, allTo_iff] at h
  exact none_of (h.1 t ht)
theorem gi_at {n : Nat} (h1 : 1 ≤ n) (h2 : n ≤ 5) : rwF golF (golA n) (n - 1) [0] = some (golT n) := by
  have h := allTo_iff.1 gi_ok (n - 1) (by omega)
  rw [show n - 1 + 1 = n from by omega, chkGI, Bool.and_eq_true] at h
  exact of_decide_eq_true h.2
theorem gs_lt {n t : Nat} (h1 : 1 ≤ n) (h2 : n ≤ 5) (hn : n - 1 ≤ t) (ht : t < golA n) : glF golF t (n - 1) [0] = none := by
  have h := allTo_iff.1 gs_ok (n - 1) (by omega)
  rw [show n - 1 + 1 = n from by omega, chkGS, Bool.and_eq_true, allTo_iff] at h
  have h3 := h.1 t ht
  rw [Bool.or_eq_true, Nat.blt_eq] at h3
  rcases h3 with h3 | h3
  · omega
  · exact none_of h3
theorem gs_at {n : Nat} (h1 : 1 ≤ n) (h2 : n ≤ 5) : glF golF (golA n) (n - 1) [0] = some (golT n) := by
  have h := allTo_iff.1 gs_ok (n - 1) (by omega)
  rw [show n - 1 + 1 = n from by omega, chkGS, Bool.and_eq_true] at h
  exact of_decide_eq_true h.2

def fewI (L : Int) : Int := if inB L 1 13 = true then (fewT L.toNat : Int) else 0
def shoL (n : Int) : List Int := if inB n 1 5 = true then il (golT n.toNat) else []

theorem implFewest (L : Int) (w : World) : Calls Try.prog 20 #[.int .i64 L] w fun e w' => e = .returned (.int .i64 (fewI L)) ∧ Below w.heap.size w w' := by
  cases hin : inB L 1 13
  · have hq : (!inB L 1 13) = true := by rw [hin]; rfl
    have HI := Lib.hid hin
    clear hin
    go_enter Try.func20, Try.ntmps20
    go_wp2_with (first | (go_at_call 35; refine (implIn _ _ _ _).mono ?_; rintro e w' ⟨rfl, rfl⟩) | fail)
    go_wp2
    go_ret
    exact ⟨ret_int (by rw [fewI, HI.out]; rfl), Below.refl _ _⟩
  · have hb := inB_iff.1 hin
    obtain ⟨M, rfl⟩ : ∃ M : Nat, L = M := ⟨L.toNat, by omega⟩
    have hq : (!inB (M : Int) 1 13) = false := by rw [hin]; rfl
    have HI := Lib.hid hin
    have h1 : 1 ≤ M := by omega
    have h2 : M ≤ 13 := by omega
    have hT := fewT_bd M (by omega) h1
    have hlo : Hid (∀ n, 2 ≤ n → n < fewT M → rwF measF M (n - 1) [0] = none) := fun n a b => fi_lt h1 h2 a b
    obtain ⟨r, hr⟩ := fi_at h1 h2
    obtain ⟨T, eT⟩ : ∃ T, T = fewT M := ⟨_, rfl⟩
    rw [← eT] at hT hlo hr
    have HR := Lib.hid hr
    replace eT := Lib.hid eT
    have hnn := neqNil
    clear hin hb hr
    go_enter Try.func20, Try.ntmps20
    go_wp2_with (first | (go_at_call 35; refine (implIn _ _ _ _).mono ?_; rintro e w' ⟨rfl, rfl⟩) | fail)
    go_wp2
    go_loopw [3] (fun i wr => ∃ n : Nat, i = .int .i64 (n : Int) ∧ 2 ≤ n ∧ n ≤ T ∧ Below w.heap.size w wr) (fun i _ => (9 - intOf i).toNat)
    case atStart => exact ⟨2, rfl, by omega, by omega, Below.refl _ _⟩
    case round =>
      obtain ⟨n, rfl, hn2, hnT, hb⟩ := hrel
      have hd : decide ((n : Int) ≤ 8) = true := decide_eq_true (by omega)
      by_cases hlt : n < T
      · have hno := Lib.hid (hlo.out n hn2 hlt)
        go_wp2_with (first | (go_at_call 36; refine (implRwM measF goodM n M (by omega) (by omega) (n - 1) _ wr.heap.size _ [0] (by simp; omega) (by simp) (by decide) (oi_zero wr) (by simp)).mono ?_; rintro e w3 ⟨hb3, hr3⟩; rw [hno.out] at hr3; obtain rfl : e = .returned (.slice none 0 0) := hr3) | fail)
        have hb4 := bThen (bAl hb _) hb3
        clear hb3
        go_wp2
        go_roundw
        case rel => exact ⟨n + 1, by go_num, by omega, by omega, hb4⟩
        case measure => simp only [intOf]; omega
      · obtain rfl : n = T := by omega
        go_wp2_with (first | (go_at_call 36; refine (implRwM measF goodM n M (by omega) (by omega) (n - 1) _ wr.heap.size _ [0] (by simp; omega) (by simp) (by decide) (oi_zero wr) (by simp)).mono ?_; rintro e w3 ⟨hb3, hr3⟩; rw [HR.out] at hr3; obtain ⟨g3, n3, c3, rfl, ho3⟩ := hr3) | fail)
        have hb4 := bThen (bAl hb _) hb3
        clear hb3
        go_wp2
        go_ret
        exact ⟨ret_int (by rw [fewI, if_pos HI.out, Int.toNat_natCast, eT.out]), hb4⟩

theorem implShortest (L : Int) (w : World) : Calls Try.prog 22 #[.int .i64 L] w (RetOI w (shoL L)) := by
  cases hin : inB L 1 5
  · have hq : (!inB L 1 5) = true := by rw [hin]; rfl
    have HI := Lib.hid hin
    clear hin
    go_enter Try.func22, Try.ntmps22
    go_wp2_with (first | (go_at_call 35; refine (implIn _ _ _ _).mono ?_; rintro e w' ⟨rfl, rfl⟩) | fail)
    go_wp2
    go_ret
    exact ⟨_, rfl, by rw [shoL, HI.out]; exact OI.nil _ _, Below.refl _ _⟩
  · have hb := inB_iff.1 hin
    obtain ⟨M, rfl⟩ : ∃ M : Nat, L = M := ⟨L.toNat, by omega⟩
    have hq : (!inB (M : Int) 1 5) = false := by rw [hin]; rfl
    have HI := Lib.hid hin
    have h1 : 1 ≤ M := by omega
    have h2 : M ≤ 5 := by omega
    have hT := golA_bd M (by omega) h1
    have hlo : Hid (∀ n, n < golA M → rwF golF n (M - 1) [0] = none) := fun n b => gi_lt h1 h2 b
    have HR := Lib.hid (gi_at h1 h2)
    obtain ⟨T, eT⟩ : ∃ T, T = golA M := ⟨_, rfl⟩
    rw [← eT] at hT hlo HR
    clear eT
    have hnn := neqNil
    clear hin hb
    go_enter Try.func22, Try.ntmps22
    go_wp2_with (first | (go_at_call 35; refine (implIn _ _ _ _).mono ?_; rintro e w' ⟨rfl, rfl⟩) | fail)
    go_wp2
    go_loopw [3, 4] (fun i _ wr => ∃ n : Nat, i = .int .i64 (n : Int) ∧ n ≤ T ∧ Below w.heap.size w wr) (fun i _ _ => (12 - intOf i).toNat)
    case atStart => exact ⟨0, rfl, by omega, Below.refl _ _⟩
    case round =>
      obtain ⟨n, rfl, hnT, hb⟩ := hrel
      by_cases hlt : n < T
      · have hno := Lib.hid (hlo.out n hlt)
        go_wp2_with (first | (go_at_call 36; refine (implRwG golF goodG M n (by omega) (by omega) (M - 1) _ wr.heap.size _ [0] (by simp; omega) (by simp) (by decide) (oi_zero wr) (by simp)).mono ?_; rintro e w3 ⟨hb3, hr3⟩; rw [hno.out] at hr3; obtain rfl : e = .returned (.slice none 0 0) := hr3) | fail)
        have hb4 := bThen (bAl hb _) hb3
        clear hb3
        go_wp2
        go_roundw
        case rel => exact ⟨n + 1, by go_num, by omega, hb4⟩
        case measure => simp only [intOf]; omega
      · obtain rfl : n = T := by omega
        go_wp2_with (first | (go_at_call 36; refine (implRwG golF goodG M n (by omega) (by omega) (M - 1) _ wr.heap.size _ [0] (by simp; omega) (by simp) (by decide) (oi_zero wr) (by simp)).mono ?_; rintro e w3 ⟨hb3, hr3⟩; rw [HR.out] at hr3; obtain ⟨g3, n3, c3, rfl, ho3⟩ := hr3) | fail)
        have hb4 := bThen (bAl hb _) hb3
        have hbs := hb.size
        clear hb3
        go_wp2
        go_ret
        exact ⟨_, rfl, by rw [shoL, if_pos HI.out, Int.toNat_natCast]; exact ho3.mono hbs, hb4⟩

theorem specShortest (L : Int) (w : World) : Calls Try.prog 21 #[.int .i64 L] w (RetOI w (shoL L)) := by
  cases hin : inB L 1 5
  · have hq : (!inB L 1 5) = true := by rw [hin]; rfl
    have HI := Lib.hid hin
    clear hin
    go_enter Try.func21, Try.ntmps21
    go_wp2_with (first | (go_at_call 34; refine (specIn _ _ _ _).mono ?_; rintro e w' ⟨rfl, rfl⟩) | fail)
    go_wp2
    go_ret
    exact ⟨_, rfl, by rw [shoL, HI.out]; exact oi_empty _ _ (Nat.le_refl _), bAl (Below.refl _ _) _⟩
  · have hb := inB_iff.1 hin
    obtain ⟨M, rfl⟩ : ∃ M : Nat, L = M := ⟨L.toNat, by omega⟩
    have hq : (!inB (M : Int) 1 5) = false := by rw [hin]; rfl
    have HI := Lib.hid hin
    have h1 : 1 ≤ M := by omega
    have h2 : M ≤ 5 := by omega
    have hT := golA_bd M (by omega) h1
    have hlo : Hid (∀ n, M - 1 ≤ n → n < golA M → glF golN n (M - 1) [0] = none) := fun n a b => by rw [golN_eq]; exact gs_lt h1 h2 a b
    have HR : Hid (glF golN (golA M) (M - 1) [0] = some (golT M)) := by rw [golN_eq]; exact Lib.hid (gs_at h1 h2)
    obtain ⟨T, eT⟩ : ∃ T, T = golA M := ⟨_, rfl⟩
    rw [← eT] at hT hlo HR
    clear eT
    have e1 : IntKind.i64.wrap ((M : Int) - 1) = (M : Int) - 1 := IntWalk.i64_in _ (by omega)
    clear hin hb
    go_enter Try.func21, Try.ntmps21
    go_wp2_with (first | (go_at_call 34; refine (specIn _ _ _ _).mono ?_; rintro e w' ⟨rfl, rfl⟩) | fail)
    go_wp2
    go_loopw [3, 4, 5] (fun i _ _ wr => ∃ n : Nat, i = .int .i64 (n : Int) ∧ M - 1 ≤ n ∧ n ≤ T ∧ Below w.heap.size w wr) (fun i _ _ _ => (12 - intOf i).toNat)
    case atStart => exact ⟨M - 1, by simp; omega, Nat.le_refl _, by omega, Below.refl _ _⟩
    case round =>
      obtain ⟨n, rfl, hnM, hnT, hb⟩ := hrel
      by_cases hlt : n < T
      · have hno := Lib.hid (hlo.out n hnM hlt)
        go_wp2_with (first | (go_at_call 37; refine (specGl M n (by omega) (by omega) (M - 1) _ wr.heap.size _ [0] (by simp; omega) (by simp) (by decide) (oi_zero wr) (by simp)).mono ?_; rintro e w3 ⟨hb3, hr3⟩; rw [hno.out] at hr3; obtain ⟨v3, rfl⟩ := hr3) | fail)
        have hb4 := bThen (bAl hb _) hb3
        clear hb3
        go_wp2
        go_roundw
        case rel => exact ⟨n + 1, by go_num, by omega, by omega, hb4⟩
        case measure => simp only [intOf]; omega
      · obtain rfl : n = T := by omega
        go_wp2_with (first | (go_at_call 37; refine (specGl M n (by omega) (by omega) (M - 1) _ wr.heap.size _ [0] (by simp; omega) (by simp) (by decide) (oi_zero wr) (by simp)).mono ?_; rintro e w3 ⟨hb3, hr3⟩; rw [HR.out] at hr3; obtain ⟨v3, rfl, ho3⟩ := hr3) | fail)
        have hb4 := bThen (bAl hb _) hb3
        have hbs := hb.size
        clear hb3
        go_wp2
        go_ret
        exact ⟨_, rfl, by rw [shoL, if_pos HI.out, Int.toNat_natCast]; exact ho3.mono hbs, hb4⟩
theorem golT_length : ∀ n, n < 6 → (golT n).length ≤ 5 := by decide
theorem shoL_length (L : Int) : (shoL L).length ≤ 5 := by
  unfold shoL
  split
  · have h := inB_iff.1 (by assumption)
    rw [il_length]
    exact golT_length _ (by omega)
  · exact Nat.zero_le _
end Go.Proofs.Ytemeechmemhokaa
