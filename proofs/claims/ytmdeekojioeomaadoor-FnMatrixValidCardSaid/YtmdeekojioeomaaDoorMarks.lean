/- Contracts of the laws' helpers that write into a result or an argument and look again: markSurvey, markIntS, heldIntS, eqIntS. -/
import Derived.Test.YtmdeekojioeomaaDoorLawS
import Derived.Test.YtmdeekojioeomaaDoorSParts
namespace Go.Proofs.YtmdeekojioeomaaDoor
open Go.RowKit
set_option linter.all false
def mkL (k0 : Int) (n : Nat) : List Int := (List.range n).map fun (i : Nat) => k0 + (i : Int)
theorem mkL_length (k0 : Int) (n : Nat) : (mkL k0 n).length = n := by simp [mkL]
theorem mkL_get (k0 : Int) (n k : Nat) (h : k < n) : (mkL k0 n)[k]? = some (k0 + k) := by simp [mkL, h]
/-- The first k entries marked. -/
def mkTo (k0 : Int) (l : List Int) (k : Nat) : List Int := mkL k0 k ++ l.drop k
theorem mkTo_zero (k0 : Int) (l : List Int) : mkTo k0 l 0 = l := by simp [mkTo, mkL]
theorem mkTo_all (k0 : Int) (l : List Int) : mkTo k0 l l.length = mkL k0 l.length := by simp [mkTo]
theorem mkTo_len (k0 : Int) (l : List Int) (k : Nat) (h : k ≤ l.length) : (mkTo k0 l k).length = l.length := by simp [mkTo, mkL_length]; omega
theorem mkTo_set (k0 : Int) (l : List Int) (k : Nat) (h : k < l.length) : (mkTo k0 l k).set k (k0 + k) = mkTo k0 l (k + 1) := by
  unfold mkTo
  rw [List.set_append_right _ _ (by rw [mkL_length]; exact Nat.le_refl _), mkL_length, Nat.sub_self, List.drop_eq_getElem_cons h, List.set_cons_zero]
  have e : mkL k0 (k + 1) = mkL k0 k ++ [k0 + k] := by unfold mkL; rw [List.range_succ, List.map_append]; rfl
  rw [e, List.append_assoc]
  rfl
theorem FInts.keep {w0 w w' : World} {A : Option Addr} {l : List Int} (h : FInts w0 w A l) (hn : New w w') : FInts w0 w' A l := fun hne => by
  obtain ⟨g, e, hg, hi⟩ := h hne
  exact ⟨g, e, hg, hi.keep hn⟩
theorem FInts.only {w0 w w' : World} {A : Option Addr} {l : List Int} {g : Nat} (h : FInts w0 w A l) (ho : Only g w w') (hg : g < w0.heap.size) : FInts w0 w' A l := fun hne => by
  obtain ⟨b, e, hb, hi⟩ := h hne
  exact ⟨b, e, hb, hi.only ho (by omega)⟩
theorem New.below {a b c : World} {B : Nat} (h : New a b) (k : Below B b c) (hB : a.heap.size ≤ B) : New a c := Below.trans h (k.mono hB)
end Go.Proofs.YtmdeekojioeomaaDoor
