/- The fields of a line, joined by single spaces, have the same fields. Plain. -/
import Derived.Test.YthonlkconobdfaaDoorSplit
import Derived.Test.YthonlkconobdfaaDoorHexLaw
import Derived.Lib.Strings
namespace Go.Proofs.YthonlkconobdfaaDoor

def bl (s : ByteArray) : List UInt8 := s.data.toList
theorem bl_len (s : ByteArray) : (bl s).length = s.size := by unfold bl; rw [Array.length_toList]; rfl
theorem bl_mk (s : ByteArray) : (⟨(bl s).toArray⟩ : ByteArray) = s := by unfold bl; rw [Array.toArray_toList]
theorem bl_maps {p q : List ByteArray} (h : p.map bl = q.map bl) : p = q := by
  have e : ∀ l : List ByteArray, (l.map bl).map (fun x => (⟨x.toArray⟩ : ByteArray)) = l := fun l => by
    rw [List.map_map]
    conv => rhs; rw [← List.map_id l]
    exact List.map_congr_left fun s _ => bl_mk s
  rw [← e p, h, e q]
theorem bl_app (a b : ByteArray) : bl (a ++ b) = bl a ++ bl b := by unfold bl; rw [ByteArray.data_append, Array.toList_append]
theorem cd_bl {s : ByteArray} {i : Nat} (h : i < (bl s).length) : cd s i = (((bl s)[i]).toNat : Int) := cd_list (by rw [← bl_len]; exact h)

/-- The fields of a row of bytes; 'cur': those of the open field. -/
def flds : List UInt8 → List UInt8 → List (List UInt8)
  | cur, [] => if cur.isEmpty then [] else [cur]
  | cur, b :: l => if b = 32 then (if cur.isEmpty then flds [] l else cur :: flds [] l) else flds (cur ++ [b]) l
theorem spst_flds (s : ByteArray) : ∀ i, i ≤ s.size → (spst s i).1.map bl ++ flds (((bl s).take i).drop (spst s i).2) ((bl s).drop i) = flds [] (bl s) := by
  intro i
  induction i with
  | zero => intro _; rfl
  | succ i ih =>
    intro hi
    have h1 := ih (by omega)
    have hl : i < (bl s).length := by rw [bl_len]; omega
    have hk := (spst_bd s i).1
    rw [List.drop_eq_getElem_cons hl, flds] at h1
    have hc := cd_bl hl
    by_cases hb : cd s i ≠ 32
    · have hn : ¬ (bl s)[i] = 32 := by intro e; rw [e] at hc; exact hb hc
      rw [if_neg hn] at h1
      rw [spst_in (by omega) hb, List.take_succ_eq_append_getElem hl, List.drop_append_of_le_length (by rw [List.length_take]; omega)]
      exact h1
    · have hn : (bl s)[i] = 32 := by
        apply UInt8.toNat_inj.1
        have : cd s i = 32 := by omega
        rw [this] at hc
        show ((bl s)[i]).toNat = 32
        omega
      rw [if_pos hn] at h1
      have hcond : ¬ (i < s.size ∧ cd s i ≠ 32) := fun q => hb q.2
      have hcl : (((bl s).take i).drop (spst s i).2).length = i - (spst s i).2 := by rw [List.length_drop, List.length_take]; omega
      by_cases hlt : (spst s i).2 < i
      · rw [spst_end hcond hlt, List.map_append, List.drop_take_self]
        rw [if_neg (by rw [List.isEmpty_iff]; intro e; rw [e] at hcl; simp at hcl; omega)] at h1
        rw [← h1, List.append_assoc]
        congr 1
        show bl (s.extract (spst s i).2 i) :: flds [] _ = _
        congr 1
        show (s.extract (spst s i).2 i).data.toList = _
        rw [Lib.extract_data, ← List.drop_take]
        rfl
      · rw [spst_gap hcond hlt, List.drop_take_self]
        rw [if_pos (by rw [List.isEmpty_iff]; exact List.length_eq_zero_iff.1 (by omega))] at h1
        exact h1
theorem spst_all (s : ByteArray) : (spst s (s.size + 1)).1.map bl = flds [] (bl s) := by
  have h1 := spst_flds s s.size (Nat.le_refl _)
  have hk := (spst_bd s s.size).1
  rw [show (bl s).drop s.size = [] from List.drop_eq_nil_of_le (by rw [bl_len]; exact Nat.le_refl _), flds] at h1
  have hcond : ¬ (s.size < s.size ∧ cd s s.size ≠ 32) := fun q => absurd q.1 (by omega)
  have hcl : (((bl s).take s.size).drop (spst s s.size).2).length = s.size - (spst s s.size).2 := by rw [List.length_drop, List.length_take, bl_len]; omega
  by_cases hlt : (spst s s.size).2 < s.size
  · rw [spst_end hcond hlt, List.map_append]
    rw [if_neg (by rw [List.isEmpty_iff]; intro e; rw [e] at hcl; simp at hcl; omega)] at h1
    rw [← h1]
    congr 1
    show [bl (s.extract (spst s s.size).2 s.size)] = _
    congr 1
    show (s.extract (spst s s.size).2 s.size).data.toList = _
    rw [Lib.extract_data, ← List.drop_take]
    rfl
  · rw [spst_gap hcond hlt]
    rw [if_pos (by rw [List.isEmpty_iff]; exact List.length_eq_zero_iff.1 (by omega)), List.append_nil] at h1
    exact h1

theorem flds_mem : ∀ {l cur f : List UInt8}, f ∈ flds cur l → (∀ b ∈ cur, b ≠ 32) → f ≠ [] ∧ (∀ b ∈ f, b ≠ 32) ∧ (∀ b ∈ f, b ∈ cur ∨ b ∈ l) ∧ f.length ≤ cur.length + l.length
  | [], cur, f, h, hc => by
    rw [flds] at h
    split at h
    · cases h
    · rename_i q
      rw [List.mem_singleton] at h
      subst h
      exact ⟨fun e => q (by rw [e]; rfl), hc, fun b hb => .inl hb, by omega⟩
  | b :: l, cur, f, h, hc => by
    rw [flds] at h
    split at h
    · split at h
      · obtain ⟨h1, h2, h3, h4⟩ := flds_mem h (fun b hb => by cases hb)
        refine ⟨h1, h2, fun x hx => ?_, by rw [List.length_cons]; simp at h4; omega⟩
        rcases h3 x hx with q | q
        · cases q
        · exact .inr (List.mem_cons_of_mem _ q)
      · rename_i q
        rcases List.mem_cons.1 h with e | e
        · subst e
          exact ⟨fun e => q (by rw [e]; rfl), hc, fun b hb => .inl hb, by omega⟩
        · obtain ⟨h1, h2, h3, h4⟩ := flds_mem e (fun b hb => by cases hb)
          refine ⟨h1, h2, fun x hx => ?_, by rw [List.length_cons]; simp at h4; omega⟩
          rcases h3 x hx with q | q
          · cases q
          · exact .inr (List.mem_cons_of_mem _ q)
    · rename_i hb
      obtain ⟨h1, h2, h3, h4⟩ := flds_mem h (fun x hx => by
        rcases List.mem_append.1 hx with q | q
        · exact hc x q
        · rw [List.mem_singleton.1 q]; exact hb)
      refine ⟨h1, h2, fun x hx => ?_, by rw [List.length_append, List.length_singleton] at h4; rw [List.length_cons]; omega⟩
      rcases h3 x hx with q | q
      · rcases List.mem_append.1 q with r | r
        · exact .inl r
        · exact .inr (by rw [List.mem_singleton.1 r]; exact List.mem_cons_self ..)
      · exact .inr (List.mem_cons_of_mem _ q)

def joinL : List (List UInt8) → List UInt8
  | [] => []
  | f :: ps => f ++ 32 :: joinL ps
theorem flds_field : ∀ {f : List UInt8} (cur rest : List UInt8), (∀ b ∈ f, b ≠ 32) → ¬ (cur ++ f) = [] → flds cur (f ++ 32 :: rest) = (cur ++ f) :: flds [] rest
  | [], cur, rest, _, hn => by
    rw [List.nil_append, flds, if_pos rfl, if_neg (by rw [List.isEmpty_iff]; rwa [List.append_nil] at hn), List.append_nil]
  | b :: f, cur, rest, h, _ => by
    rw [List.cons_append, flds, if_neg (h b (List.mem_cons_self ..)), flds_field (cur ++ [b]) rest (fun x hx => h x (List.mem_cons_of_mem _ hx)) (by simp), List.append_assoc, List.singleton_append]
theorem flds_join : ∀ {ps : List (List UInt8)}, (∀ f ∈ ps, f ≠ [] ∧ ∀ b ∈ f, b ≠ 32) → flds [] (joinL ps) = ps
  | [], _ => rfl
  | f :: ps, h => by
    have h1 := h f (List.mem_cons_self ..)
    rw [joinL, flds_field [] _ h1.2 (by rw [List.nil_append]; exact h1.1), List.nil_append, flds_join fun x hx => h x (List.mem_cons_of_mem _ hx)]
theorem joinL_snoc : ∀ (ps : List (List UInt8)) (f : List UInt8), joinL (ps ++ [f]) = joinL ps ++ (f ++ [32])
  | [], f => by rw [List.nil_append, joinL, joinL, joinL, List.nil_append]
  | g :: ps, f => by rw [List.cons_append, joinL, joinL_snoc ps f, joinL, List.append_assoc, List.cons_append]
theorem mem_joinL {b : UInt8} : ∀ {ps : List (List UInt8)}, b ∈ joinL ps → b = 32 ∨ ∃ f ∈ ps, b ∈ f
  | [], h => by cases h
  | f :: ps, h => by
    rw [joinL] at h
    rcases List.mem_append.1 h with q | q
    · exact .inr ⟨f, List.mem_cons_self .., q⟩
    · rcases List.mem_cons.1 q with r | r
      · exact .inl r
      · rcases mem_joinL r with t | ⟨g, hg, hb⟩
        · exact .inl t
        · exact .inr ⟨g, List.mem_cons_of_mem _ hg, hb⟩

/-- What the law's loop makes of the first k fields. -/
def joinTo (p : List ByteArray) : Nat → ByteArray
  | 0 => ⟨#[]⟩
  | k + 1 => joinTo p k ++ strAt p k ++ ⟨#[32]⟩
theorem bl_joinTo (p : List ByteArray) : ∀ k, k ≤ p.length → bl (joinTo p k) = joinL ((p.take k).map bl)
  | 0, _ => rfl
  | k + 1, h => by
    rw [joinTo, bl_app, bl_app, bl_joinTo p k (by omega), List.take_succ_eq_append_getElem (show k < p.length by omega), List.map_append, List.map_singleton, joinL_snoc, List.append_assoc]
    congr 2
    · rw [strAt, List.getD, List.getElem?_eq_getElem (show k < p.length by omega)]; rfl
theorem fld_size {s : ByteArray} (k : Nat) : (strAt (fldL s) k).size ≤ 600 := by
  by_cases h : k < (fldL s).length
  · cases hb : fldB s
    · rw [(fld_no hb).1] at h; exact absurd h (by simp)
    · have hq := (of_decide_eq_true hb).1
      have e : strAt (fldL s) k = (fldL s)[k] := by rw [strAt, List.getD, List.getElem?_eq_getElem h]; rfl
      have hm : bl (strAt (fldL s) k) ∈ flds [] (bl s) := by
        rw [← spst_all, ← (fld_yes hb).1, e]
        exact List.mem_map.2 ⟨_, List.getElem_mem h, rfl⟩
      have h4 := (flds_mem hm (fun b hb => by cases hb)).2.2.2
      rw [bl_len, bl_len] at h4
      simp at h4
      omega
  · have : strAt (fldL s) k = ByteArray.empty := by rw [strAt, List.getD, List.getElem?_eq_none (by omega)]; rfl
    rw [this]
    exact Nat.zero_le _
theorem join_size {s : ByteArray} : ∀ k, (joinTo (fldL s) k).size ≤ 601 * k
  | 0 => Nat.le_refl _
  | k + 1 => by
    have h1 := join_size (s := s) k
    have h2 := fld_size (s := s) k
    rw [joinTo, ByteArray.size_append, ByteArray.size_append]
    have : (⟨#[32]⟩ : ByteArray).size = 1 := rfl
    omega
theorem fields_again {line : ByteArray} (h : fldB line = true) (hs : (joinTo (fldL line) (fldL line).length).size ≤ 600) : fldB (joinTo (fldL line) (fldL line).length) = true ∧ fldL (joinTo (fldL line) (fldL line).length) = fldL line := by
  obtain ⟨q1, q2, q3⟩ := of_decide_eq_true h
  have hp : (fldL line).map bl = flds [] (bl line) := by rw [(fld_yes h).1]; exact spst_all line
  have hlen := fld_len line
  have hj := bl_joinTo (fldL line) (fldL line).length (Nat.le_refl _)
  rw [List.take_length, hp] at hj
  obtain ⟨s, es⟩ : ∃ s, s = joinTo (fldL line) (fldL line).length := ⟨_, rfl⟩
  rw [← es] at hs hj ⊢
  have hall : (spst s (s.size + 1)).1 = fldL line := by
    refine bl_maps ?_
    rw [spst_all, hj, hp]
    exact flds_join fun f hf => by
      obtain ⟨a, b, _, _⟩ := flds_mem hf (fun b hb => by cases hb)
      exact ⟨a, b⟩
  have hok : okTo s s.size := by
    intro j hjs
    have hl : j < (bl s).length := by rw [bl_len]; exact hjs
    rw [cd_bl hl]
    have hm : (bl s)[j] ∈ joinL (flds [] (bl line)) := by rw [← hj]; exact List.getElem_mem hl
    rcases mem_joinL hm with e | ⟨f, hf, hb⟩
    · rw [e]; decide
    · rcases (flds_mem hf (fun b hb => by cases hb)).2.2.1 _ hb with r | r
      · cases r
      · obtain ⟨i, hi, e⟩ := List.getElem_of_mem r
        rw [← e, ← cd_bl hi]
        exact q2 i (by rw [← bl_len]; exact hi)
  have hB : fldB s = true := decide_eq_true ⟨hs, hok, by rw [hall]; exact hlen⟩
  exact ⟨hB, by rw [(fld_yes hB).1, hall]⟩
end Go.Proofs.YthonlkconobdfaaDoor
