/- Plain lists: parts, how they are joined and counted. No program in sight. -/
import Derived.Below
namespace Go.Proofs.YtmdeekojioeomaaDoor
set_option linter.all false
structure Lg where
  f : Int
  t : Int
  e : Int
  n : Int
  u : Int
deriving DecidableEq
def jn (l : List Int) (lo hi : Int) : List Int := l.map fun x => if x = hi then lo else x
def lab (l : List Int) (a : Int) : Int := l.getD a.toNat 0
def joinL (l : List Int) (a b : Int) : List Int := jn l (min (lab l a) (lab l b)) (max (lab l a) (lab l b))
def ownL (n : Nat) : List Int := (List.range n).map Int.ofNat
def partsL (n : Nat) (L : List Lg) : List Int := L.foldl (fun l g => joinL l g.f g.t) (ownL n)
def cntL (l : List Int) (k : Nat) : Nat := ((List.range k).filter fun j => decide (l.getD j (-1) = (j : Int))).length
theorem jn_length (l : List Int) (lo hi : Int) : (jn l lo hi).length = l.length := by simp [jn]
theorem joinL_length (l : List Int) (a b : Int) : (joinL l a b).length = l.length := jn_length _ _ _
theorem ownL_length (n : Nat) : (ownL n).length = n := by simp [ownL]
theorem ownL_get (n k : Nat) (h : k < n) : (ownL n)[k]? = some (k : Int) := by simp [ownL, h]
theorem ownL_succ (n : Nat) : ownL (n + 1) = ownL n ++ [(n : Int)] := by unfold ownL; rw [List.range_succ, List.map_append]; rfl
theorem jn_same (l : List Int) (x : Int) : jn l x x = l := by
  unfold jn
  conv => rhs; rw [← List.map_id l]
  apply List.map_congr_left
  intro y _
  by_cases h : y = x <;> simp [h]
theorem joinL_same {l : List Int} {a b : Int} (h : lab l a = lab l b) : joinL l a b = l := by
  unfold joinL; rw [h, Int.min_self, Int.max_self, jn_same]
/-- The first k entries turned, the others as they were. -/
def mixL (l : List Int) (lo hi : Int) (k : Nat) : List Int := (jn l lo hi).take k ++ l.drop k
theorem mixL_zero (l : List Int) (lo hi : Int) : mixL l lo hi 0 = l := by simp [mixL]
theorem mixL_all (l : List Int) (lo hi : Int) : mixL l lo hi l.length = jn l lo hi := by
  unfold mixL; rw [List.take_of_length_le (by simp [jn_length]), List.drop_length, List.append_nil]
theorem mixL_length (l : List Int) (lo hi : Int) (k : Nat) (hk : k ≤ l.length) : (mixL l lo hi k).length = l.length := by
  unfold mixL; simp [jn_length]; omega
theorem mixL_get (l : List Int) (lo hi : Int) (k : Nat) (hk : k < l.length) : (mixL l lo hi k)[k]? = l[k]? := by
  unfold mixL
  rw [List.getElem?_append_right (by simp [jn_length]; omega), List.getElem?_drop]
  congr 1
  simp [jn_length]; omega
theorem jn_get (l : List Int) (lo hi : Int) (k : Nat) (hk : k < l.length) : (jn l lo hi)[k]? = some (if l[k] = hi then lo else l[k]) := by
  unfold jn; rw [List.getElem?_map, List.getElem?_eq_getElem hk]; rfl
theorem mixL_set (l : List Int) (lo hi : Int) (k : Nat) (hk : k < l.length) (h : l[k] = hi) : (mixL l lo hi k).set k lo = mixL l lo hi (k + 1) := by
  apply List.ext_getElem?
  intro i
  rw [List.getElem?_set, mixL_length _ _ _ _ (by omega)]
  have hj := jn_get l lo hi k hk
  rw [if_pos h] at hj
  unfold mixL
  by_cases hik : k = i
  · subst hik
    rw [if_pos rfl, if_pos hk, List.getElem?_append_left (by simp [jn_length]; omega), List.getElem?_take, if_pos (by omega), hj]
  · rw [if_neg hik]
    rcases Nat.lt_or_ge i k with h1 | h1
    · rw [List.getElem?_append_left (by simp [jn_length]; omega), List.getElem?_append_left (by simp [jn_length]; omega), List.getElem?_take, List.getElem?_take, if_pos h1, if_pos (by omega)]
    · rw [List.getElem?_append_right (by simp [jn_length]; omega), List.getElem?_append_right (by simp [jn_length]; omega), List.getElem?_drop, List.getElem?_drop]
      congr 1
      simp [jn_length]; omega
theorem mixL_skip (l : List Int) (lo hi : Int) (k : Nat) (hk : k < l.length) (h : l[k] ≠ hi) : mixL l lo hi k = mixL l lo hi (k + 1) := by
  unfold mixL
  have hj := jn_get l lo hi k hk
  rw [if_neg h] at hj
  rw [List.take_add_one, hj, List.append_assoc, List.drop_eq_getElem_cons hk]
  rfl
theorem cntL_zero (l : List Int) : cntL l 0 = 0 := rfl
theorem cntL_succ (l : List Int) (k : Nat) (hk : k < l.length) : cntL l (k + 1) = cntL l k + if l[k] = (k : Int) then 1 else 0 := by
  unfold cntL
  rw [List.range_succ, List.filter_append, List.length_append]
  have e : l[k]?.getD (-1) = l[k] := by simp [hk]
  by_cases h : l[k] = (k : Int) <;> simp [e, h]
theorem cntL_le (l : List Int) (k : Nat) : cntL l k ≤ k := by
  unfold cntL; exact Nat.le_trans (List.length_filter_le _ _) (by simp)
theorem lab_get {l : List Int} {a : Int} (h0 : 0 ≤ a) (h1 : a.toNat < l.length) : l[a.toNat]? = some (lab l a) := by
  unfold lab; simp [h1]
/-- The legs that a list of indices picks. -/
def pickL (L : List Lg) (use : List Int) : List Lg := use.filterMap fun i => L[i.toNat]?
theorem pickL_ok {L : List Lg} {use : List Int} {k : Nat} {i : Nat} {g : Lg} (hk : use[k]? = some (i : Int)) (hg : L[i]? = some g) : pickL L (use.take (k + 1)) = pickL L (use.take k) ++ [g] := by
  unfold pickL
  rw [List.take_add_one, hk, List.filterMap_append]
  simp [hg]
theorem partsL_snoc (n : Nat) (L : List Lg) (g : Lg) : partsL n (L ++ [g]) = joinL (partsL n L) g.f g.t := by
  unfold partsL; rw [List.foldl_append]; rfl
theorem pickL_snoc {L : List Lg} {use : List Int} {i : Nat} {g : Lg} (hg : L[i]? = some g) : pickL L (use ++ [(i : Int)]) = pickL L use ++ [g] := by
  unfold pickL
  rw [List.filterMap_append]
  simp [hg]
theorem pickL_own (L : List Lg) : ∀ k, k ≤ L.length → pickL L (ownL k) = L.take k
  | 0, _ => by simp [ownL, pickL]
  | k + 1, h => by
    rw [ownL_succ, pickL_snoc (List.getElem?_eq_getElem (by omega)), pickL_own L k (by omega), List.take_add_one, List.getElem?_eq_getElem (by omega)]
    rfl
theorem pickL_all (L : List Lg) : pickL L (ownL L.length) = L := by rw [pickL_own L _ (Nat.le_refl _), List.take_length]
theorem ownL_mem {n : Nat} {i : Int} (h : i ∈ ownL n) : 0 ≤ i ∧ i < n := by
  unfold ownL at h
  simp at h
  obtain ⟨a, ha, rfl⟩ := h
  omega
/-- Leg i links two parts that the legs before it do not link. -/
def sepB (n : Nat) (L : List Lg) (i : Nat) : Bool := match L[i]? with
  | some g => lab (partsL n (L.take i)) g.f != lab (partsL n (L.take i)) g.t
  | none => false
def treeL (n : Nat) (L : List Lg) (k : Nat) : List Int := ((List.range k).filter (sepB n L)).map Int.ofNat
theorem sepB_at {n : Nat} {L : List Lg} {i : Nat} {g : Lg} (h : L[i]? = some g) : sepB n L i = (lab (partsL n (L.take i)) g.f != lab (partsL n (L.take i)) g.t) := by
  unfold sepB; rw [h]
theorem treeL_zero (n : Nat) (L : List Lg) : treeL n L 0 = [] := rfl
theorem treeL_yes {n : Nat} {L : List Lg} {k : Nat} (h : sepB n L k = true) : treeL n L (k + 1) = treeL n L k ++ [(k : Int)] := by
  unfold treeL; rw [List.range_succ, List.filter_append, List.map_append]; simp [h]
theorem treeL_no {n : Nat} {L : List Lg} {k : Nat} (h : sepB n L k = false) : treeL n L (k + 1) = treeL n L k := by
  unfold treeL; rw [List.range_succ, List.filter_append, List.map_append]; simp [h]
theorem treeL_mem {n : Nat} {L : List Lg} {k : Nat} {i : Int} (h : i ∈ treeL n L k) : 0 ≤ i ∧ i < k ∧ sepB n L i.toNat = true := by
  unfold treeL at h
  simp at h
  obtain ⟨a, ⟨ha, hb⟩, rfl⟩ := h
  exact ⟨by omega, by omega, by simpa using hb⟩
theorem treeL_len (n : Nat) (L : List Lg) (k : Nat) : (treeL n L k).length ≤ k := by
  unfold treeL; rw [List.length_map]; exact Nat.le_trans (List.length_filter_le _ _) (by simp)
theorem parts_take_succ (n : Nat) (L : List Lg) (k : Nat) (g : Lg) (hk : L[k]? = some g) : partsL n (L.take (k + 1)) = joinL (partsL n (L.take k)) g.f g.t := by
  rw [List.take_add_one, hk]
  exact partsL_snoc n _ g
/-- A tree links what is linked. -/
theorem parts_tree (n : Nat) (L : List Lg) : ∀ k, k ≤ L.length → partsL n (pickL L (treeL n L k)) = partsL n (L.take k)
  | 0, _ => by simp [treeL, pickL]
  | k + 1, h => by
    have hk : L[k]? = some L[k] := List.getElem?_eq_getElem (by omega)
    rw [parts_take_succ n L k _ hk]
    cases hs : sepB n L k
    · rw [treeL_no hs, parts_tree n L k (by omega)]
      rw [sepB_at hk] at hs
      exact (joinL_same (by simpa using hs)).symm
    · rw [treeL_yes hs, pickL_snoc hk, partsL_snoc, parts_tree n L k (by omega)]
structure St where
  i : Int
  b : Bool
deriving DecidableEq
/-- x where the step goes back, else y. -/
def bk (b : Bool) (x y : Int) : Int := if b then x else y
def legAt (L : List Lg) (i : Int) : Lg := L.getD i.toNat ⟨0, 0, 0, 0, 0⟩
def sBeg (L : List Lg) (x : St) : Int := bk x.b (legAt L x.i).t (legAt L x.i).f
def sEnd (L : List Lg) (x : St) : Int := bk x.b (legAt L x.i).f (legAt L x.i).t
/-- Where one stands ahead of step k. -/
def atTo (L : List Lg) (S : List St) (k : Nat) : Int := if k = 0 then -1 else sEnd L (S.getD (k - 1) ⟨0, false⟩)
def stepOkB (L : List Lg) (S : List St) (j : Nat) : Bool := decide (0 ≤ (S.getD j ⟨0, false⟩).i ∧ (S.getD j ⟨0, false⟩).i < L.length) && (decide (j = 0) || decide (sBeg L (S.getD j ⟨0, false⟩) = atTo L S j))
def chainB (L : List Lg) (S : List St) : Bool := (List.range S.length).all (stepOkB L S)
theorem chainB_bad {L : List Lg} {S : List St} {k : Nat} (hk : k < S.length) (h : stepOkB L S k = false) : chainB L S = false := by
  unfold chainB
  rw [List.all_eq_false]
  exact ⟨k, by simp [hk], by simp [h]⟩
theorem chainB_good {L : List Lg} {S : List St} (h : ∀ k, k < S.length → stepOkB L S k = true) : chainB L S = true := by
  unfold chainB
  rw [List.all_eq_true]
  intro k hk
  exact h k (by simpa using hk)
theorem chainB_all {L : List Lg} {S : List St} (h : chainB L S = true) : ∀ k, k < S.length → stepOkB L S k = true := by
  unfold chainB at h
  rw [List.all_eq_true] at h
  intro k hk
  exact h k (by simpa using hk)
theorem stepOkB_at {L : List Lg} {S : List St} {k : Nat} (hk : k < S.length) {x : St} (hx : S[k] = x) : stepOkB L S k = (decide (0 ≤ x.i ∧ x.i < L.length) && (decide (k = 0) || decide (sBeg L x = atTo L S k))) := by
  unfold stepOkB
  have : S.getD k ⟨0, false⟩ = x := by simp [hk, hx]
  rw [this]
theorem atTo_succ {L : List Lg} {S : List St} {k : Nat} (hk : k < S.length) {x : St} (hx : S[k] = x) : atTo L S (k + 1) = sEnd L x := by
  unfold atTo
  have : S.getD k ⟨0, false⟩ = x := by simp [hk, hx]
  rw [if_neg (by omega), Nat.add_sub_cancel, this]
theorem legAt_get {L : List Lg} {j : Nat} (h : j < L.length) : legAt L (j : Int) = L[j] := by
  unfold legAt; simp [h]
end Go.Proofs.YtmdeekojioeomaaDoor
