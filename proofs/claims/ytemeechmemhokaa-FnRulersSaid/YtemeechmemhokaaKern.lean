/- The searches' answers for the small numbers, by the kernel's evaluation. Plain. -/
import Derived.Test.YtemeechmemhokaaNatR
namespace Go.Proofs.Ytemeechmemhokaa

def golT (n : Nat) : List Nat := [[], [0], [0, 1], [0, 1, 3], [0, 1, 4, 6], [0, 1, 4, 9, 11]].getD n []
def golA (n : Nat) : Nat := [0, 0, 1, 3, 6, 11].getD n 0
def fewT (L : Nat) : Nat := [0, 2, 3, 3, 4, 4, 4, 5, 5, 5, 6, 6, 6, 6].getD L 0
def none? (r : Option (List Nat)) : Bool := match r with | none => true | some _ => false
def chkGI (n : Nat) : Bool := allTo (fun t => none? (rwF golF t (n - 1) [0])) (golA n) && decide (rwF golF (golA n) (n - 1) [0] = some (golT n))
def chkGS (n : Nat) : Bool := allTo (fun t => Nat.blt t (n - 1) || none? (glF golF t (n - 1) [0])) (golA n) && decide (glF golF (golA n) (n - 1) [0] = some (golT n))
def chkFI (L : Nat) : Bool := allTo (fun n => Nat.blt n 2 || none? (rwF measF L (n - 1) [0])) (fewT L) && !none? (rwF measF L (fewT L - 1) [0])

/-- The reference's subsets. -/
def mks (s : Nat) : Nat → List Nat
  | 0 => [0]
  | k + 1 => if (s >>> k) % 2 = 1 then mks s k ++ [k + 1] else mks s k
def mkL (L s : Nat) : List Nat := mks s (L - 1) ++ [L]
def bestTo (M : List Nat → Bool) (L : Nat) : Nat → Nat
  | 0 => L + 1
  | s + 1 => if (mkL L s).length < bestTo M L s ∧ M (mkL L s) = true then (mkL L s).length else bestTo M L s
def chkFS (L : Nat) : Bool := allTo (fun s => Nat.ble (fewT L) (mkL L s).length || !measF (mkL L s)) (2 ^ (L - 1))

theorem gi_ok : allTo (fun k => chkGI (k + 1)) 5 = true := by decide +kernel
theorem gs_ok : allTo (fun k => chkGS (k + 1)) 5 = true := by decide +kernel
theorem fi_ok : allTo (fun k => chkFI (k + 1)) 13 = true := by decide +kernel
theorem fs_ok : allTo (fun k => chkFS (k + 1)) 13 = true := by decide +kernel
end Go.Proofs.Ytemeechmemhokaa
