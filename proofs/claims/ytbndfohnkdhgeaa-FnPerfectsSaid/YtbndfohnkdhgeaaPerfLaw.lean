/- The plain law of FnPerfects: of each sum up to 24 its perfect lists, and the ordered products of the next number. -/
import Derived.Test.YtbndfohnkdhgeaaPerL
import Derived.Test.YtbndfohnkdhgeaaOrd
namespace Go.Proofs.Ytbndfohnkdhgeaa

def prodTo (xs : List Int) : Nat → Int
  | 0 => 1
  | i + 1 => prodTo xs i * xs.getD i 0
def goodL (n : Nat) (xs : List Int) : Prop := preS xs xs.length = n ∧ xs.length ≤ 24 ∧ (∀ x ∈ xs, 1 ≤ x ∧ x ≤ 1000) ∧ perfQ xs = true ∧ (8 < xs.length ∨ setB xs = true)
def goodF (n : Nat) (xs : List Int) : Prop := prodTo xs xs.length = (n : Int) + 1 ∧ xs.length ≤ 24 ∧ ∀ j, j < xs.length → 1 ≤ prodTo xs j ∧ prodTo xs j ≤ 1000 ∧ 1 ≤ xs.getD j 0 ∧ xs.getD j 0 ≤ 1000
instance (n : Nat) (xs : List Int) : Decidable (goodL n xs) := by unfold goodL; infer_instance
instance (n : Nat) (xs : List Int) : Decidable (goodF n xs) := by unfold goodF; infer_instance
theorem perf_all : ∀ n, n < 25 → 1 ≤ n → (perS 25 n [] 0).length = (fcts 100 [] (n + 1)).length ∧ 1 ≤ (perS 25 n [] 0).length ∧ (perS 25 n [] 0).length ≤ 1000 ∧ (∀ xs ∈ perS 25 n [] 0, goodL n xs) ∧ (∀ xs ∈ fcts 100 [] (n + 1), goodF n xs) := by decide +kernel

theorem getD_mem {xss : List (List Int)} {k : Nat} (h : k < xss.length) : xss.getD k [] ∈ xss := by
  rw [List.getD, List.getElem?_eq_getElem h]; exact List.getElem_mem _
structure PerfLaw (n : Nat) (L F : List (List Int)) : Prop where
  len : L.length = F.length
  pos : 1 ≤ L.length
  top : L.length ≤ 1000
  good : ∀ k, k < L.length → goodL n (L.getD k [])
  goodf : ∀ k, k < F.length → goodF n (F.getD k [])
theorem perfLaw {n : Nat} (h : 1 ≤ n ∧ n ≤ 24) : PerfLaw n (perL (n : Int)) (ordL ((n : Int) + 1)) := by
  have e1 : perL (n : Int) = perS 25 n [] 0 := by rw [perL, if_pos (inB_iff.2 (by omega))]; rfl
  have e2 : ordL ((n : Int) + 1) = fcts 100 [] (n + 1) := by
    rw [ordL, if_pos (inB_iff.2 (by omega)), show ((n : Int) + 1).toNat = n + 1 from by omega]
  obtain ⟨h1, h2, h3, h4, h5⟩ := perf_all n (by omega) h.1
  rw [e1, e2]
  exact ⟨h1, h2, h3, fun k hk => h4 _ (getD_mem hk), fun k hk => h5 _ (getD_mem hk)⟩
structure PerfOne (n : Nat) (xs : List Int) : Prop where
  val : Val xs
  sum : preS xs xs.length = n
  perf : perfSetB xs = true
  compl : complSetB xs = true
  ways : ∀ y : Int, 1 ≤ y → y ≤ n → sumWaysN xs y = 1
theorem perfOne {n : Nat} {xs : List Int} (h : goodL n xs) (h8 : ¬ 8 < xs.length) : PerfOne n xs := by
  obtain ⟨h1, h2, h3, h4, h5⟩ := h
  have hs : setB xs = true := by rcases h5 with h5 | h5; exact absurd h5 h8; exact h5
  have V : Val xs := ⟨h2, h3⟩
  have hp : perfB xs = true := (perfQ_eq V).trans h4
  have hat := okTo_iff.1 hp
  have ht : topN xs = n := by rw [topN, h1]; rfl
  refine ⟨V, h1, by rw [perfSetB, hs, hp]; rfl, ?_, fun y y1 y2 => ?_⟩
  · rw [complSetB, hs, Bool.true_and]
    refine okTo_iff.2 fun k hk => decide_eq_true ?_
    rw [of_decide_eq_true (hat k hk)]
    decide
  · rw [sumWaysN, if_pos hs]
    obtain ⟨k, rfl⟩ : ∃ k : Nat, y = (k : Int) + 1 := ⟨(y - 1).toNat, by omega⟩
    exact of_decide_eq_true (hat k (by omega))
end Go.Proofs.Ytbndfohnkdhgeaa
