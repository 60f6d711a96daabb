/- The search for a ruler, as plain Lean. -/
import Derived.Test.YtemeechmemhokaaDif
namespace Go.Proofs.Ytemeechmemhokaa

def il (fs : List Nat) : List Int := fs.map fun (m : Nat) => (m : Int)
theorem il_length (fs : List Nat) : (il fs).length = fs.length := by simp [il]
theorem il_app (fs : List Nat) (x : Nat) : il (fs ++ [x]) = il fs ++ [(x : Int)] := by simp [il]
theorem il_getD (fs : List Nat) (k : Nat) : (il fs).getD k 0 = ((fs.getD k 0 : Nat) : Int) := by
  rw [il, List.getD, List.getElem?_map, List.getD]
  cases fs[k]? <;> rfl
def lastN (fs : List Nat) : Nat := fs.getD (fs.length - 1) 0
theorem lastN_app (fs : List Nat) (x : Nat) : lastN (fs ++ [x]) = x := by
  rw [lastN, List.length_append, List.getD]
  simp
/-- The first answer among f x, f (x + 1), .. (m of them). -/
def seek (f : Nat → Option (List Nat)) : Nat → Nat → Option (List Nat)
  | 0, _ => none
  | m + 1, x => match f x with
    | some r => some r
    | none => seek f m (x + 1)
theorem seek_some {f : Nat → Option (List Nat)} {m x : Nat} {r : List Nat} (h : f x = some r) : seek f (m + 1) x = some r := by rw [seek, h]
theorem seek_none {f : Nat → Option (List Nat)} {m x : Nat} (h : f x = none) : seek f (m + 1) x = seek f m (x + 1) := by rw [seek, h]
def rwF (G : List Nat → Bool) (T : Nat) : Nat → List Nat → Option (List Nat)
  | 0, fs => if lastN fs = T ∧ G fs = true then some fs else none
  | d + 1, fs => seek (fun x => rwF G T d (fs ++ [x])) (T - lastN fs) (lastN fs + 1)
/-- The reference's search: it goes on only with rulers that are good so far. -/
def glF (G : List Nat → Bool) (T : Nat) : Nat → List Nat → Option (List Nat)
  | 0, fs => some fs
  | d + 1, fs => seek (fun x => if G (fs ++ [x]) = true then glF G T d (fs ++ [x]) else none) (T - lastN fs) (lastN fs + 1)
theorem oi_nonnil {w : World} {base : Nat} {v : Value} {xs : List Int} (h : OI w base v xs) (hp : 0 < xs.length) : ∃ g cap, v = .slice (some ⟨g, 0, none⟩) xs.length cap := by
  obtain ⟨ad, cap, g, rfl, _, _, _, hx⟩ := h.view
  exact ⟨g, cap, by rw [(hx 0 hp).1]⟩
end Go.Proofs.Ytemeechmemhokaa
