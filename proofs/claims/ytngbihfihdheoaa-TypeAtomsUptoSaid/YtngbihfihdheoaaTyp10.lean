/-
  TYPES: Type, Atom, Row at any depth.
-/
import Derived.Test.YtngbihfihdheoaaTyp9
set_option linter.unusedVariables false
namespace Go.Proofs.Ytngbihfihdheoaa
open Go Go.Aw

theorem type_zero {d : Nat} (h : d = 0) (s : Sta) : typeP d s = .inl (2, s) := by subst h; rfl
theorem atom_all {d : Nat} (hd : d + 1 ≤ 1000000) (h : Calls3 11 (d : Int) (typeP d)) : Reads0 37 ((d + 1 : Nat) : Int) (atomP (typeP d)) :=
  atom_c (round_c rfl (by omega) h (fun e s => type_zero e s) (bads_type d) (falls_type d)) (square_c (by omega) h (fun e s => type_zero e s) (bads_type d) (falls_type d))
theorem row_all {d : Nat} (hd : d + 1 ≤ 1000000) (h : Calls3 11 (d : Int) (typeP d)) : Reads0 39 ((d + 1 : Nat) : Int) (rowP (atomP (typeP d))) :=
  row_c (atom_all hd h) (falls_atom (falls_type d))
theorem whole_all {d : Nat} (hd : d + 1 ≤ 1000000) (h : Calls3 11 (d : Int) (typeP d)) : Reads0 28 ((d + 1 : Nat) : Int) (wholeP (atomP (typeP d))) :=
  whole_c (row_all hd h) (arrows_c (row_all hd h) (falls_atom (falls_type d))) (falls_atom (falls_type d))
theorem type_all : ∀ d : Nat, d ≤ 100 → Calls3 11 (d : Int) (typeP d)
  | 0, _ => type_c fun h => absurd (by decide) h
  | d + 1, hd => type_c fun _ => by
    rw [if_neg (by omega)]
    exact whole_all (by omega) (type_all d (by omega))
/-- how deep: at most a hundred -/
def depF (deep : Int) : Nat := (if 100 < deep then 100 else deep).toNat
theorem dep_le (deep : Int) : depF deep ≤ 100 := by unfold depF; split <;> omega
theorem dep_eq {deep : Int} (h : ¬ deep < 1) : (if 100 < deep then 100 else deep) = ((depF deep - 1 + 1 : Nat) : Int) := by unfold depF; split <;> omega
theorem typeX {deep : Int} : Calls3 11 deep (wholeP (atomP (typeP (depF deep - 1)))) := type_c fun h => by
  rw [dep_eq h]
  have := dep_le deep
  exact whole_all (by omega) (type_all _ (by omega))
theorem atomX {deep : Int} : Calls3 18 deep (atomP (typeP (depF deep - 1))) := atomX_c fun h => by
  rw [dep_eq h]
  have := dep_le deep
  exact atom_all (by omega) (type_all _ (by omega))
theorem rowX {deep : Int} : Calls3 20 deep (rowP (atomP (typeP (depF deep - 1)))) := rowX_c fun h => by
  rw [dep_eq h]
  have := dep_le deep
  exact row_all (by omega) (type_all _ (by omega))
end Go.Proofs.Ytngbihfihdheoaa
