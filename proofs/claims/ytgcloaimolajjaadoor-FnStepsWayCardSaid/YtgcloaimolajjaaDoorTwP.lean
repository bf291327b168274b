/- What TreeWay returns, in plain Lean. -/
import Derived.Test.YtgcloaimolajjaaDoorBfsP
import Derived.Test.YtgcloaimolajjaaDoorTree
namespace Go.Proofs.YtgcloaimolajjaaDoor
set_option linter.all false
/-- S is the way from a to b over the legs of the tree. -/
def IsWay (st : Int) (L : List Lg) (a b : Int) (S : List St) : Prop := svB st L = true ∧ inS st.toNat a ∧ inS st.toNat b ∧ Tr L (tlL st L) a S b
open Classical in
noncomputable def twS (st : Int) (L : List Lg) (a b : Int) : List St := if h : ∃ S, IsWay st L a b S then Classical.choose h else []
open Classical in
noncomputable def twB (st : Int) (L : List Lg) (a b : Int) : Bool := decide (∃ S, IsWay st L a b S)
theorem legsOk_of {n : Nat} {L : List Lg} (h : svB n L = true) : LegsOk n L := (svB_true h).2.2.2
theorem pot_of {st : Int} {L : List Lg} (h : svB st L = true) : Pot L (tlL st L) := by
  obtain ⟨n, rfl⟩ := svB_nat h
  rw [tlL_ok h]
  exact pot_tree (legsOk_of h) _ (Nat.le_refl _)
theorem tw_ok {st : Int} {L : List Lg} {a b : Int} {S : List St} (h : IsWay st L a b S) : twS st L a b = S ∧ twB st L a b = true := by
  have hex : ∃ S, IsWay st L a b S := ⟨S, h⟩
  refine ⟨?_, by unfold twB; simp only [decide_eq_true_eq]; exact hex⟩
  unfold twS
  rw [dif_pos hex]
  exact tr_unique (pot_of h.1) (Classical.choose_spec hex).2.2.2 h.2.2.2
theorem tw_no {st : Int} {L : List Lg} {a b : Int} (h : ¬ ∃ S, IsWay st L a b S) : twS st L a b = [] ∧ twB st L a b = false :=
  ⟨by unfold twS; rw [dif_neg h], by unfold twB; simp only [decide_eq_false_iff_not]; exact h⟩
theorem tw_sv {st : Int} {L : List Lg} {a b : Int} (h : svB st L = false) : twS st L a b = [] ∧ twB st L a b = false :=
  tw_no fun ⟨S, h1⟩ => by have h2 := h1.1; rw [h] at h2; cases h2
theorem tw_out {st : Int} {L : List Lg} {a b : Int} (h : ¬ (inS st.toNat a ∧ inS st.toNat b)) : twS st L a b = [] ∧ twB st L a b = false :=
  tw_no fun ⟨S, h1⟩ => h ⟨h1.2.1, h1.2.2.1⟩
theorem tw_cases (st : Int) (L : List Lg) (a b : Int) : (∃ S, IsWay st L a b S ∧ twS st L a b = S ∧ twB st L a b = true) ∨ (twS st L a b = [] ∧ twB st L a b = false) := by
  by_cases h : ∃ S, IsWay st L a b S
  · obtain ⟨S, hS⟩ := h
    exact .inl ⟨S, hS, tw_ok hS⟩
  · exact .inr (tw_no h)
theorem twS_len (st : Int) (L : List Lg) (a b : Int) : (twS st L a b).length ≤ 9 := by
  rcases tw_cases st L a b with ⟨S, h, e, _⟩ | ⟨e, _⟩
  · rw [e]
    have := tr_len h.2.2.2
    have := tlL_le st L
    omega
  · rw [e]; simp
theorem ends_of {n : Nat} {L : List Lg} (h : svB n L = true) {k : Nat} (hk : k ≤ L.length) : EndsIn L (treeL n L k) n := fun x hx => by
  obtain ⟨b0, b1, _⟩ := treeL_mem hx
  obtain ⟨m, hm⟩ := Int.eq_ofNat_of_zero_le b0
  obtain ⟨c1, c2, c3⟩ := (legsOk_of h).leg (j := m) (by omega)
  unfold sBeg sEnd
  rw [hm]
  cases x.b <;> simp only [bk] <;> simp <;> exact ⟨by assumption, by assumption, fun e => c3 (by first | exact e | exact e.symm)⟩
/-- Linked stations have a way. -/
theorem tw_linked {n : Nat} {L : List Lg} (h : svB n L = true) {a b : Int} (ha : inS n a) (hb : inS n b) (e : lab (partsL n L) a = lab (partsL n L) b) : ∃ S, IsWay n L a b S := by
  have e' : lab (partsL n (L.take L.length)) a = lab (partsL n (L.take L.length)) b := by rw [List.take_length]; exact e
  obtain ⟨S, hS⟩ := wk_conn (legsOk_of h) L.length (Nat.le_refl _) a b ha hb e'
  obtain ⟨R, hR⟩ := tr_of_wk hS
  exact ⟨R, h, ha, hb, by rw [tlL_ok h]; exact hR⟩
theorem tw_lab {n : Nat} {L : List Lg} {a b : Int} {S : List St} (h : IsWay n L a b S) : lab (partsL n L) a = lab (partsL n L) b := by
  have h4 := h.2.2.2.1
  rw [tlL_ok h.1] at h4
  have := wk_lab (legsOk_of h.1) (Nat.le_refl _) h4
  rwa [List.take_length] at this
theorem lab_idem {n : Nat} {L : List Lg} (h : LegsOk n L) : ∀ k, k ≤ L.length → ∀ v, inS n v → inS n (lab (partsL n (L.take k)) v) ∧ lab (partsL n (L.take k)) (lab (partsL n (L.take k)) v) = lab (partsL n (L.take k)) v ∧ lab (partsL n (L.take k)) v ≤ v
  | 0, _, v, hv => by
    show inS n (lab (ownL n) v) ∧ lab (ownL n) (lab (ownL n) v) = lab (ownL n) v ∧ lab (ownL n) v ≤ v
    rw [lab_own hv, lab_own hv]
    exact ⟨hv, rfl, Int.le_refl _⟩
  | k + 1, hk, v, hv => by
    have ih := lab_idem h k (by omega)
    have hg : L[k]? = some L[k] := List.getElem?_eq_getElem (by omega)
    have hl := partsL_length n (L.take k)
    obtain ⟨c1, c2, _⟩ := h.leg (j := k) (by omega)
    rw [legAt_get (by omega)] at c1 c2
    rw [parts_take_succ n L k _ hg]
    obtain ⟨i1, i2, i3⟩ := ih v hv
    obtain ⟨f1, f2, f3⟩ := ih _ c1
    obtain ⟨t1, t2, t3⟩ := ih _ c2
    have hll : ∀ x, inS n x → x.toNat < (partsL n (L.take k)).length := fun x hx => by unfold inS at hx; omega
    have e1 := lab_join L[k].f L[k].t (hll v hv)
    rw [e1]
    have e2 : ∀ x, inS n x → lab (joinL (partsL n (L.take k)) L[k].f L[k].t) x = if lab (partsL n (L.take k)) x = max (lab (partsL n (L.take k)) L[k].f) (lab (partsL n (L.take k)) L[k].t) then min (lab (partsL n (L.take k)) L[k].f) (lab (partsL n (L.take k)) L[k].t) else lab (partsL n (L.take k)) x := fun x hx => lab_join _ _ (hll x hx)
    obtain ⟨p, hp⟩ : ∃ p, lab (partsL n (L.take k)) L[k].f = p := ⟨_, rfl⟩
    obtain ⟨q, hq⟩ : ∃ q, lab (partsL n (L.take k)) L[k].t = q := ⟨_, rfl⟩
    obtain ⟨r, hr⟩ : ∃ r, lab (partsL n (L.take k)) v = r := ⟨_, rfl⟩
    rw [hp] at f1 f2
    rw [hq] at t1 t2
    rw [hr] at i1 i2 i3
    rw [hp, hq] at e2
    rw [hp, hq, hr]
    have hmin : inS n (min p q) ∧ lab (partsL n (L.take k)) (min p q) = min p q := by
      rcases Int.le_total p q with h1 | h1
      · rw [Int.min_eq_left h1]; exact ⟨f1, f2⟩
      · rw [Int.min_eq_right h1]; exact ⟨t1, t2⟩
    by_cases hc : r = max p q
    · rw [if_pos hc]
      refine ⟨hmin.1, ?_, by omega⟩
      rw [e2 _ hmin.1, hmin.2]
      split <;> omega
    · rw [if_neg hc]
      refine ⟨i1, ?_, i3⟩
      rw [e2 _ i1, i2, if_neg hc]
/-- The tree links every station with the least one of its part. -/
theorem tw_least {n : Nat} {L : List Lg} (h : svB n L = true) {v : Int} (hv : inS n v) : ∃ S, IsWay n L (lab (partsL n L) v) v S := by
  have := lab_idem (legsOk_of h) L.length (Nat.le_refl _) v hv
  rw [List.take_length] at this
  exact tw_linked h this.1 hv this.2.1
/-- Both ends of a leg have a way. -/
theorem tw_leg {n : Nat} {L : List Lg} (h : svB n L = true) {j : Nat} (hj : j < L.length) : ∃ S, IsWay n L (legAt L j).t (legAt L j).f S := by
  obtain ⟨c1, c2, _⟩ := (legsOk_of h).leg hj
  have := linked (legsOk_of h) L.length (Nat.le_refl _) j hj
  rw [List.take_length] at this
  exact tw_linked h c2 c1 this.symm
end Go.Proofs.YtgcloaimolajjaaDoor
