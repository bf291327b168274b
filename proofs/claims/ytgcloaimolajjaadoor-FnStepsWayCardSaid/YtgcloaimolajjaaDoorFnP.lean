/- Plain facts for the laws of drawn surveys. -/
import Derived.Test.YtgcloaimolajjaaDoorSParts
import Derived.Test.YtgcloaimolajjaaDoorTree
import Derived.Test.YtgcloaimolajjaaDoorSteps
import Derived.Test.YtgcloaimolajjaaDoorTwP
import Derived.Test.YtgcloaimolajjaaDoorCnt
namespace Go.Proofs.YtgcloaimolajjaaDoor
set_option linter.all false
theorem svB_sub {st : Int} {L M : List Lg} (h : svB st L = true) (hl : M.length ≤ 9) (hs : ∀ g ∈ M, g ∈ L) : svB st M = true := by
  obtain ⟨h1, h2, h3, h4⟩ := svB_true h
  exact svB_good h1 h2 hl fun j hj => h4 _ (hs _ (List.getElem_mem hj))
theorem svB_tail {st : Int} {q : Lg} {L : List Lg} (h : svB st (q :: L) = true) : svB st L = true :=
  svB_sub h (by have := (svB_true h).2.2.1; simp at this; omega) fun g hg => List.mem_cons_of_mem _ hg
theorem svB_zero (L : List Lg) : svB 0 L = false := svB_st (by omega)
theorem svB_take {st : Int} {L : List Lg} (h : svB st L = true) (k : Nat) : svB st (L.take k) = true :=
  svB_sub h (by have := (svB_true h).2.2.1; rw [List.length_take]; omega) fun g hg => List.mem_of_mem_take hg
theorem svB_nil {n : Nat} {L : List Lg} (h : svB n L = true) : svB n [] = true := svB_sub h (by simp) fun g hg => by cases hg
theorem lab_root {n : Nat} {L : List Lg} (h : LegsOk n L) {k : Nat} (hk : k ≤ L.length) {v : Int} (hv : inS n v) : (partsL n (L.take k))[(lab (partsL n (L.take k)) v).toNat]? = some (lab (partsL n (L.take k)) v) := by
  obtain ⟨a, b, c⟩ := lab_idem h k hk v hv
  have := lab_get (l := partsL n (L.take k)) (a := lab (partsL n (L.take k)) v) a.1 (by rw [partsL_length]; have := a.2; have := a.1; omega)
  rw [b] at this
  exact this
/-- The legs of the tree and the parts are together the stations. -/
theorem tree_cnt {n : Nat} {L : List Lg} (h : LegsOk n L) : ∀ k, k ≤ L.length → (treeL n L k).length + cntL (partsL n (L.take k)) n = n
  | 0, _ => by
    show 0 + cntL (ownL n) n = n
    rw [cntL_own n n (Nat.le_refl _), Nat.zero_add]
  | k + 1, hk => by
    have ih := tree_cnt h k (by omega)
    have hg : L[k]? = some L[k] := List.getElem?_eq_getElem (by omega)
    obtain ⟨c1, c2, c3⟩ := h.leg (j := k) (by omega)
    rw [legAt_get (show k < L.length by omega)] at c1 c2 c3
    rw [parts_take_succ n L k _ hg]
    cases hs : sepB n L k
    · rw [treeL_no hs]
      rw [sepB_at hg] at hs
      rw [joinL_same (by simpa using hs)]
      exact ih
    · rw [treeL_yes hs, List.length_append, List.length_singleton]
      rw [sepB_at hg] at hs
      have hne : lab (partsL n (L.take k)) L[k].f ≠ lab (partsL n (L.take k)) L[k].t := by simpa using hs
      have r1 := lab_root h (k := k) (by omega) c1
      have r2 := lab_root h (k := k) (by omega) c2
      obtain ⟨⟨a1, a2⟩, -⟩ := lab_idem h k (by omega) _ c1
      obtain ⟨⟨b1, b2⟩, -⟩ := lab_idem h k (by omega) _ c2
      have hlen := partsL_length n (L.take k)
      unfold joinL
      generalize partsL n (L.take k) = l at *
      generalize lab l L[k].f = x at *
      generalize lab l L[k].t = y at *
      obtain ⟨x, rfl⟩ := Int.eq_ofNat_of_zero_le a1
      obtain ⟨y, rfl⟩ := Int.eq_ofNat_of_zero_le b1
      simp only [Int.toNat_natCast] at r1 r2
      rcases Nat.lt_or_ge x y with hxy | hxy
      · have := cntL_jn r1 r2 (by omega) n (by omega)
        rw [if_pos (by omega)] at this
        rw [Int.min_eq_left (by omega), Int.max_eq_right (by omega)]
        omega
      · have := cntL_jn r2 r1 (by omega) n (by omega)
        rw [if_pos (by omega)] at this
        rw [Int.min_eq_right (by omega), Int.max_eq_left (by omega)]
        omega
theorem cntL_mono (l : List Int) : ∀ k, k < l.length → cntL l k ≤ cntL l (k + 1) := fun k hk => by rw [cntL_succ l k hk]; omega
theorem cntL_one {l : List Int} (h : l[0]? = some 0) : ∀ k, 1 ≤ k → k ≤ l.length → 1 ≤ cntL l k
  | 0, h0, _ => by omega
  | 1, _, hk => by
    have h1 : 0 < l.length := by omega
    rw [List.getElem?_eq_getElem h1] at h
    have h2 := Option.some.inj h
    rw [cntL_succ l 0 h1, if_pos (by exact_mod_cast h2)]
    omega
  | k + 2, _, hk => Nat.le_trans (cntL_one h (k + 1) (by omega) (by omega)) (cntL_mono l (k + 1) (by omega))
theorem tree_cnt_all {n : Nat} {L : List Lg} (h : svB n L = true) : (treeL n L L.length).length + cntL (partsL n L) n = n := by
  have := tree_cnt (legsOk_of h) L.length (Nat.le_refl _)
  rwa [List.take_length] at this
theorem pm_pos {st : Int} {L : List Lg} (h : svB st L = true) : 1 ≤ pmZ st L := by
  obtain ⟨n, rfl⟩ := svB_nat h
  have b1 := (svB_true h).1
  rw [pmZ_ok h]
  obtain ⟨⟨a1, a2⟩, a3, a4⟩ := lab_idem (legsOk_of h) L.length (Nat.le_refl _) 0 ⟨by omega, by omega⟩
  have hr := lab_root (legsOk_of h) (k := L.length) (Nat.le_refl _) (v := 0) ⟨by omega, by omega⟩
  rw [List.take_length] at a1 a4 hr
  have e : lab (partsL n L) 0 = 0 := by omega
  rw [e] at hr
  have := cntL_one (l := partsL n L) (by simpa using hr) n (by omega) (by rw [partsL_length]; exact Nat.le_refl _)
  omega
theorem pm_nil {st : Int} (h : svB st [] = true) : pmZ st [] = st := by
  obtain ⟨n, rfl⟩ := svB_nat h
  rw [pmZ_ok h]
  show ((cntL (ownL n) n : Nat) : Int) = n
  rw [cntL_own n n (Nat.le_refl _)]
theorem svB_nil' {st : Int} {L : List Lg} (h : svB st L = true) : svB st [] = true := svB_sub h (by simp) fun g hg => by cases hg
/-- A leg joins two parts at most. -/
theorem pm_last {st : Int} {L : List Lg} (h : svB st L = true) (hne : 0 < L.length) : pmZ st (L.take (L.length - 1)) = pmZ st L ∨ pmZ st (L.take (L.length - 1)) = pmZ st L + 1 := by
  obtain ⟨n, rfl⟩ := svB_nat h
  obtain ⟨k, hk⟩ : ∃ k, L.length = k + 1 := ⟨L.length - 1, by omega⟩
  rw [pmZ_ok h, pmZ_ok (svB_take h _)]
  have h1 := tree_cnt (legsOk_of h) k (by omega)
  have h2 := tree_cnt_all h
  rw [hk] at h2 ⊢
  have h3 : (treeL n L (k + 1)).length = (treeL n L k).length ∨ (treeL n L (k + 1)).length = (treeL n L k).length + 1 := by
    cases hs : sepB n L k
    · rw [treeL_no hs]; exact .inl rfl
    · rw [treeL_yes hs, List.length_append]; exact .inr rfl
  rw [Nat.add_sub_cancel]
  omega
/-- Every leg links or closes. -/
theorem lm_tree {st : Int} {L : List Lg} (h : svB st L = true) : lmZ st L + (tlL st L).length = L.length := by
  obtain ⟨n, rfl⟩ := svB_nat h
  rw [lmZ_ok h, pmZ_ok h, tlL_ok h]
  have := tree_cnt_all h
  omega
theorem lm_nonneg {st : Int} {L : List Lg} (h : svB st L = true) : 0 ≤ lmZ st L := by
  have := lm_tree h
  have h2 : (tlL st L).length ≤ L.length := by
    obtain ⟨n, rfl⟩ := svB_nat h
    rw [tlL_ok h]
    exact treeL_len _ _ _
  omega
theorem pickL_len {n : Nat} {L : List Lg} : ∀ k, k ≤ L.length → (pickL L (treeL n L k)).length = (treeL n L k).length
  | 0, _ => rfl
  | k + 1, h => by
    have hk : L[k]? = some L[k] := List.getElem?_eq_getElem (by omega)
    cases hs : sepB n L k
    · rw [treeL_no hs]; exact pickL_len k (by omega)
    · rw [treeL_yes hs, pickL_snoc hk, List.length_append, List.length_append, pickL_len k (by omega)]; rfl
theorem pickL_mem {L : List Lg} {use : List Int} {g : Lg} (h : g ∈ pickL L use) : g ∈ L := by
  unfold pickL at h
  rw [List.mem_filterMap] at h
  obtain ⟨i, _, hi⟩ := h
  exact List.mem_of_getElem? hi
theorem sv_pick {st : Int} {L : List Lg} (h : svB st L = true) : svB st (pickL L (tlL st L)) = true := by
  obtain ⟨n, rfl⟩ := svB_nat h
  rw [tlL_ok h]
  refine svB_sub h ?_ fun g hg => pickL_mem hg
  rw [pickL_len _ (Nat.le_refl _)]
  have := treeL_len n L L.length
  have := (svB_true h).2.2.1
  omega
/-- A tree links what is linked. -/
theorem pr_pick {st : Int} {L : List Lg} (h : svB st L = true) : prL st (pickL L (tlL st L)) = prL st L := by
  have h2 := sv_pick h
  obtain ⟨n, rfl⟩ := svB_nat h
  rw [prL_ok h2, prL_ok h, tlL_ok h, parts_tree n L _ (Nat.le_refl _), List.take_length]
/-- A tree has no loops. -/
theorem lm_pick {st : Int} {L : List Lg} (h : svB st L = true) : lmZ st (pickL L (tlL st L)) = 0 := by
  have h2 := sv_pick h
  obtain ⟨n, rfl⟩ := svB_nat h
  rw [lmZ_ok h2, pmZ_ok h2, tlL_ok h, parts_tree n L _ (Nat.le_refl _), List.take_length, pickL_len _ (Nat.le_refl _)]
  have := tree_cnt_all h
  omega
theorem treeL_asc (n : Nat) (L : List Lg) : ∀ k, (treeL n L k).Pairwise (· < ·)
  | 0 => List.Pairwise.nil
  | k + 1 => by
    cases hs : sepB n L k
    · rw [treeL_no hs]; exact treeL_asc n L k
    · rw [treeL_yes hs, List.pairwise_append]
      refine ⟨treeL_asc n L k, List.pairwise_singleton _ _, fun a ha b hb => ?_⟩
      have := (treeL_mem ha).2.1
      rw [List.mem_singleton] at hb
      omega
theorem tl_asc (st : Int) (L : List Lg) : ∀ k (hk : k + 1 < (tlL st L).length), (tlL st L)[k] < (tlL st L)[k + 1] := by
  intro k hk
  have h : (tlL st L).Pairwise (· < ·) := by
    unfold tlL
    split
    · exact treeL_asc _ _ _
    · exact List.Pairwise.nil
  exact List.pairwise_iff_getElem.1 h k (k + 1) (by omega) hk (by omega)
theorem tl_mem {st : Int} {L : List Lg} {i : Int} (h : i ∈ tlL st L) : 0 ≤ i ∧ i < L.length := by
  unfold tlL at h
  split at h
  · have := treeL_mem h; omega
  · cases h
/-- Linked stations have the same number. -/
theorem pr_len {st : Int} {L : List Lg} (h : svB st L = true) : ((prL st L).length : Int) = st := by
  obtain ⟨n, rfl⟩ := svB_nat h
  rw [prL_ok h, partsL_length]
theorem pr_leg {st : Int} {L : List Lg} (h : svB st L = true) {k : Nat} (hk : k < L.length) : lab (prL st L) L[k].f = lab (prL st L) L[k].t := by
  obtain ⟨n, rfl⟩ := svB_nat h
  rw [prL_ok h]
  have := linked (legsOk_of h) L.length (Nat.le_refl _) k hk
  rw [List.take_length, legAt_get hk] at this
  exact this
theorem leg_in {st : Int} {L : List Lg} (h : svB st L = true) {k : Nat} (hk : k < L.length) : (0 ≤ L[k].f ∧ L[k].f < st) ∧ (0 ≤ L[k].t ∧ L[k].t < st) := by
  obtain ⟨n, rfl⟩ := svB_nat h
  obtain ⟨c1, c2, c3⟩ := (legsOk_of h).leg (j := k) hk
  rw [legAt_get hk] at c1 c2
  exact ⟨c1, c2⟩
theorem pr_at {st : Int} {L : List Lg} (h : svB st L = true) {v : Int} (h0 : 0 ≤ v) (h1 : v < st) : (prL st L)[v.toNat]? = some (lab (prL st L) v) := by
  have := pr_len h
  exact lab_get h0 (by omega)
theorem pr_idem {st : Int} {L : List Lg} (h : svB st L = true) {v : Int} (h0 : 0 ≤ v) (h1 : v < st) : (0 ≤ lab (prL st L) v ∧ lab (prL st L) v < st) ∧ lab (prL st L) (lab (prL st L) v) = lab (prL st L) v ∧ lab (prL st L) v ≤ v := by
  obtain ⟨n, rfl⟩ := svB_nat h
  rw [prL_ok h]
  have := lab_idem (legsOk_of h) L.length (Nat.le_refl _) v ⟨h0, h1⟩
  rw [List.take_length] at this
  exact this
/-- Back from the last step to the first one. -/
def flip (x : St) : St := ⟨x.i, !x.b⟩
def backS (S : List St) : List St := (S.map flip).reverse
theorem backS_len (S : List St) : (backS S).length = S.length := by simp [backS]
theorem flip_ends (L : List Lg) (x : St) : sBeg L (flip x) = sEnd L x ∧ sEnd L (flip x) = sBeg L x := by
  unfold sBeg sEnd flip
  cases x.b <;> exact ⟨rfl, rfl⟩
theorem chain_steps {L : List Lg} {S : List St} : chainB L S = true ↔ (∀ x ∈ S, 0 ≤ x.i ∧ x.i < L.length) ∧ ∀ k (hk : k + 1 < S.length), sBeg L S[k + 1] = sEnd L S[k] := by
  constructor
  · intro h
    have h' := chainB_all h
    refine ⟨fun x hx => ?_, fun k hk => ?_⟩
    · obtain ⟨k, hk, rfl⟩ := List.getElem_of_mem hx
      have := h' k hk
      rw [stepOkB_at hk rfl] at this
      simp only [Bool.and_eq_true, decide_eq_true_eq] at this
      exact this.1
    · have := h' (k + 1) hk
      rw [stepOkB_at hk rfl] at this
      rw [atTo_succ (show k < S.length by omega) rfl] at this
      rw [Bool.and_eq_true, Bool.or_eq_true] at this
      rcases this.2 with h5 | h5
      · simp at h5
      · simpa using h5
  · rintro ⟨h1, h2⟩
    refine chainB_good fun k hk => ?_
    rw [stepOkB_at hk rfl]
    have := h1 _ (List.getElem_mem hk)
    rcases k with _ | k
    · simp [this]
    · rw [atTo_succ (show k < S.length by omega) rfl, h2 k hk]
      simp [this]
theorem so_back {st : Int} {L : List Lg} {S : List St} (h : soB st L S = true) : soB st L (backS S) = true := by
  unfold soB at h ⊢
  rw [Bool.and_eq_true] at h ⊢
  refine ⟨h.1, chain_steps.2 ?_⟩
  obtain ⟨h1, h2⟩ := chain_steps.1 h.2
  refine ⟨fun x hx => ?_, fun k hk => ?_⟩
  · unfold backS at hx
    rw [List.mem_reverse, List.mem_map] at hx
    obtain ⟨y, hy, rfl⟩ := hx
    exact h1 y hy
  · have hk' := hk
    rw [backS_len] at hk'
    have g : ∀ j (hj : j < (backS S).length) (hj' : S.length - 1 - j < S.length), (backS S)[j] = flip S[S.length - 1 - j] := fun j hj hj' => by
      unfold backS at hj ⊢
      simp [List.getElem_reverse]
    rw [g (k + 1) hk (by omega), g k (by omega) (by omega), (flip_ends L _).1, (flip_ends L _).2]
    have e : S.length - 1 - k = S.length - 1 - (k + 1) + 1 := by omega
    have := h2 (S.length - 1 - (k + 1)) (by omega)
    rw [← this]
    congr 1
    exact getElem_congr_idx e.symm
theorem so_take {st : Int} {L : List Lg} {S : List St} (h : soB st L S = true) (m : Nat) : soB st L (S.take m) = true := by
  unfold soB at h ⊢
  rw [Bool.and_eq_true] at h ⊢
  refine ⟨h.1, chain_steps.2 ?_⟩
  obtain ⟨h1, h2⟩ := chain_steps.1 h.2
  refine ⟨fun x hx => h1 x (List.mem_of_mem_take hx), fun k hk => ?_⟩
  rw [List.getElem_take, List.getElem_take]
  exact h2 k (by rw [List.length_take] at hk; omega)
end Go.Proofs.YtgcloaimolajjaaDoor
