/- What is encoded is decoded again. Plain. -/
import Derived.Test.YthonlkconobdfaaDoorHex
import Derived.Test.YthonlkconobdfaaDoorDec
namespace Go.Proofs.YthonlkconobdfaaDoor

theorem bstr_data (xs : List Int) : (bstr xs).data.toList = xs.map (fun n => UInt8.ofNat n.toNat) := by
  have : ∀ (xs : List Int) (r : ByteArray), (xs.foldl (fun r n => r.push (UInt8.ofNat n.toNat)) r).data.toList = r.data.toList ++ xs.map (fun n => UInt8.ofNat n.toNat) := by
    intro xs
    induction xs with
    | nil => intro r; simp
    | cons x xs ih =>
      intro r
      rw [List.foldl_cons, ih]
      show (r.data.push (UInt8.ofNat x.toNat)).toList ++ _ = _
      simp
  rw [bstr, this]
  rfl
theorem bstr_len (xs : List Int) : (bstr xs).size = xs.length := by
  show (bstr xs).data.size = _
  rw [← Array.length_toList, bstr_data, List.length_map]
theorem cd_list {s : ByteArray} {k : Nat} (h : k < s.size) : cd s k = ((s.data.toList[k]'(by simpa using h)).toNat : Int) := by
  rw [← cd_eq h, Array.getElem_toList]; rfl
theorem cd_bstr {xs : List Int} {j : Nat} (hj : j < xs.length) (hb : 0 ≤ xs[j] ∧ xs[j] ≤ 255) : cd (bstr xs) j = xs[j] := by
  have h1 : j < (bstr xs).size := by rw [bstr_len]; exact hj
  rw [cd_list h1]
  have e : (bstr xs).data.toList[j]'(by simpa using h1) = UInt8.ofNat (xs[j]).toNat := by
    have : (bstr xs).data.toList[j]? = some (UInt8.ofNat (xs[j]).toNat) := by rw [bstr_data, List.getElem?_map, List.getElem?_eq_getElem hj]; rfl
    exact List.getElem_eq_iff _ |>.2 this
  rw [e, UInt8.toNat_ofNat']
  omega
theorem bstr_cds (s : ByteArray) : bstr ((List.range s.size).map fun j => cd s j) = s := by
  apply ByteArray.ext
  apply Array.toList_inj.1
  rw [bstr_data, List.map_map]
  apply List.ext_getElem
  · simp
  · intro i h1 h2
    have hi : i < s.size := by simpa using h2
    rw [List.getElem_map, List.getElem_range]
    simp only [Function.comp_apply]
    rw [cd_list hi, Int.toNat_natCast]
    exact UInt8.ofNat_toNat
theorem digI_bd {y : Int} (h : 0 ≤ y ∧ y < 16) : 0 ≤ digI y ∧ digI y ≤ 255 := by unfold digI; split <;> omega
theorem val_dig {y : Int} (h : 0 ≤ y ∧ y < 16) : valI (digI y) = y := by
  unfold valI digI
  split
  · rw [if_pos (by omega)]; omega
  · rw [if_neg (by omega), if_pos (by omega)]; omega
theorem hexTo_at (s : ByteArray) : ∀ (n k : Nat), k < n → (hexTo s n)[2 * k]? = some (digI (cd s k / 16)) ∧ (hexTo s n)[2 * k + 1]? = some (digI (cd s k % 16))
  | 0, k, h => absurd h (by omega)
  | n + 1, k, h => by
    rw [hexTo]
    by_cases e : k = n
    · subst e
      rw [List.getElem?_append_right (by rw [hexTo_length]; omega), List.getElem?_append_right (by rw [hexTo_length]; omega), hexTo_length, show 2 * k - 2 * k = 0 from by omega, show 2 * k + 1 - 2 * k = 1 from by omega]
      exact ⟨rfl, rfl⟩
    · rw [List.getElem?_append_left (by rw [hexTo_length]; omega), List.getElem?_append_left (by rw [hexTo_length]; omega)]
      exact hexTo_at s n k (by omega)
theorem cd_hex {s : ByteArray} {n k : Nat} (h : k < n) : cd (bstr (hexTo s n)) (2 * k) = digI (cd s k / 16) ∧ cd (bstr (hexTo s n)) (2 * k + 1) = digI (cd s k % 16) := by
  obtain ⟨h1, h2⟩ := hexTo_at s n k h
  have hb := cd_bd s k
  have hl := hexTo_length s n
  have e1 : (hexTo s n)[2 * k]'(by omega) = digI (cd s k / 16) := by rw [List.getElem?_eq_getElem (by omega)] at h1; exact Option.some.inj h1
  have e2 : (hexTo s n)[2 * k + 1]'(by omega) = digI (cd s k % 16) := by rw [List.getElem?_eq_getElem (by omega)] at h2; exact Option.some.inj h2
  have b1 := digI_bd (y := cd s k / 16) (by omega)
  have b2 := digI_bd (y := cd s k % 16) (by omega)
  exact ⟨by rw [cd_bstr (by omega) (by rw [e1]; exact b1), e1], by rw [cd_bstr (by omega) (by rw [e2]; exact b2), e2]⟩
theorem decTo_hex (s : ByteArray) (n : Nat) : ∀ k, k ≤ n → decTo (bstr (hexTo s n)) k = (List.range k).map fun j => cd s j
  | 0, _ => rfl
  | k + 1, h => by
    obtain ⟨h1, h2⟩ := cd_hex (s := s) (show k < n by omega)
    have hb := cd_bd s k
    rw [decTo, decTo_hex s n k (by omega), h1, h2, val_dig (by omega), val_dig (by omega), List.range_succ, List.map_append]
    congr 1
    rw [List.map_singleton]
    congr 1
    omega
theorem enc_size {s : ByteArray} (h : s.size ≤ 20000) : (encS s).size = 2 * s.size := by rw [encS, if_pos h, bstr_len, hexTo_length]
theorem dec_enc {s : ByteArray} (h : s.size ≤ 20000) : decB (encS s) = true ∧ decS (encS s) = s := by
  have hz := enc_size h
  have hg : goodTo (encS s) ((encS s).size / 2) := by
    intro j hj
    rw [encS, if_pos h]
    obtain ⟨h1, h2⟩ := cd_hex (s := s) (n := s.size) (k := j) (by omega)
    have hb := cd_bd s j
    rw [h1, h2, val_dig (by omega), val_dig (by omega)]
    omega
  have hB : decB (encS s) = true := decide_eq_true ⟨by omega, by omega, hg⟩
  refine ⟨hB, ?_⟩
  rw [decS, if_pos hB, hz, show 2 * s.size / 2 = s.size from by omega, encS, if_pos h, decTo_hex s s.size _ (Nat.le_refl _)]
  exact bstr_cds s
end Go.Proofs.YthonlkconobdfaaDoor
