/- Walks over legs that link without a loop: potentials, trails, one way at most, all that are linked have one. No program in sight. -/
import Derived.Test.YtbjahideaonimaaParts
namespace Go.Proofs.Ytbjahideaonimaa
set_option linter.all false
def inS (n : Nat) (x : Int) : Prop := 0 ≤ x ∧ x < n
theorem lab_join {l : List Int} (a b : Int) {x : Int} (hx : x.toNat < l.length) : lab (joinL l a b) x = if lab l x = max (lab l a) (lab l b) then min (lab l a) (lab l b) else lab l x := by
  have e : (joinL l a b)[x.toNat]? = some (if lab l x = max (lab l a) (lab l b) then min (lab l a) (lab l b) else lab l x) := by
    unfold joinL
    rw [jn_get _ _ _ _ hx]
    have : l[x.toNat] = lab l x := by simp [lab, hx]
    rw [this]
  show (joinL l a b).getD x.toNat 0 = _
  rw [List.getD_eq_getElem?_getD, e, Option.getD_some]
theorem lab_ends {l : List Int} {a b : Int} (ha : a.toNat < l.length) (hb : b.toNat < l.length) : lab (joinL l a b) a = lab (joinL l a b) b := by
  rw [lab_join a b ha, lab_join a b hb]
  split <;> split <;> omega
theorem lab_mono {l : List Int} (a b : Int) {x y : Int} (hx : x.toNat < l.length) (hy : y.toNat < l.length) (h : lab l x = lab l y) : lab (joinL l a b) x = lab (joinL l a b) y := by
  rw [lab_join a b hx, lab_join a b hy, h]
def LegsOk (n : Nat) (L : List Lg) : Prop := ∀ g ∈ L, Lg.ok n g = true
theorem LegsOk.leg {n : Nat} {L : List Lg} (h : LegsOk n L) {j : Nat} (hj : j < L.length) : inS n (legAt L j).f ∧ inS n (legAt L j).t ∧ (legAt L j).f ≠ (legAt L j).t := by
  have := ok_facts (h _ (List.getElem_mem hj))
  rw [legAt_get hj]
  unfold inS
  omega
theorem linked {n : Nat} {L : List Lg} (h : LegsOk n L) : ∀ k, k ≤ L.length → ∀ j, j < k → lab (partsL n (L.take k)) (legAt L j).f = lab (partsL n (L.take k)) (legAt L j).t
  | 0, _, j, hj => absurd hj (Nat.not_lt_zero _)
  | k + 1, hk, j, hj => by
    have hl := partsL_length n (L.take k)
    obtain ⟨a1, a2, _⟩ := h.leg (j := j) (by omega)
    unfold inS at a1 a2
    rw [parts_take_succ n L k L[k] (List.getElem?_eq_getElem (by omega))]
    rcases Nat.lt_or_ge j k with hjk | hjk
    · exact lab_mono _ _ (by omega) (by omega) (linked h k (by omega) j hjk)
    · obtain rfl : j = k := by omega
      rw [legAt_get (by omega)] at a1 a2 ⊢
      exact lab_ends (by omega) (by omega)
/-- Each choice of heights along the legs of T is one of differences. -/
def Pot (L : List Lg) (T : List Int) : Prop := ∀ w : Int → Int, ∃ φ : Int → Int, ∀ j ∈ T, φ (legAt L j).t - φ (legAt L j).f = w j
theorem pot_tree {n : Nat} {L : List Lg} (h : LegsOk n L) : ∀ k, k ≤ L.length → Pot L (treeL n L k)
  | 0, _ => fun w => ⟨fun _ => 0, fun j hj => by simp [treeL] at hj⟩
  | k + 1, hk => by
    have ih := pot_tree h k (by omega)
    have hg : L[k]? = some L[k] := List.getElem?_eq_getElem (by omega)
    cases hs : sepB n L k
    · rw [treeL_no hs]; exact ih
    · rw [treeL_yes hs]
      intro w
      obtain ⟨φ, hφ⟩ := ih w
      rw [sepB_at hg] at hs
      have hne : lab (partsL n (L.take k)) L[k].f ≠ lab (partsL n (L.take k)) L[k].t := by simpa using hs
      refine ⟨fun s => φ s + if lab (partsL n (L.take k)) s = lab (partsL n (L.take k)) L[k].t then w k - (φ L[k].t - φ L[k].f) else 0, fun j hj => ?_⟩
      rcases List.mem_append.1 hj with hj | hj
      · have h1 := hφ j hj
        obtain ⟨b0, b1, _⟩ := treeL_mem hj
        obtain ⟨m, rfl⟩ := Int.eq_ofNat_of_zero_le b0
        have := linked h k (by omega) m (by omega)
        simp only [this]
        omega
      · simp only [List.mem_singleton] at hj
        subst hj
        rw [legAt_get (by omega)]
        simp only [if_true, if_neg hne]
        omega
/-- A walk over legs of T from a to b. -/
def Wk (L : List Lg) (T : List Int) : Int → List St → Int → Prop
  | a, [], b => a = b
  | a, x :: S, b => x.i ∈ T ∧ sBeg L x = a ∧ Wk L T (sEnd L x) S b
def wt (w : Int → Int) : List St → Int
  | [] => 0
  | x :: S => (if x.b then - w x.i else w x.i) + wt w S
def ind (i : Int) : Int → Int := fun j => if j = i then 1 else 0
theorem wk_wt {L : List Lg} {T : List Int} {w φ : Int → Int} (h : ∀ j ∈ T, φ (legAt L j).t - φ (legAt L j).f = w j) : ∀ {S : List St} {a b : Int}, Wk L T a S b → wt w S = φ b - φ a
  | [], a, b, hw => by
    have : a = b := hw
    subst this
    show (0 : Int) = _
    omega
  | x :: S, a, b, hw => by
    obtain ⟨h1, h2, h3⟩ := hw
    have ih := wk_wt h h3
    have hx := h x.i h1
    subst h2
    show (if x.b then - w x.i else w x.i) + wt w S = _
    rw [ih]
    unfold sBeg sEnd
    cases x.b <;> simp only [bk] <;> simp <;> omega
theorem wk_append {L : List Lg} {T : List Int} : ∀ {S R : List St} {a c : Int}, Wk L T a (S ++ R) c ↔ ∃ b, Wk L T a S b ∧ Wk L T b R c
  | [], R, a, c => ⟨fun h => ⟨a, rfl, h⟩, fun ⟨b, h1, h2⟩ => by have : a = b := h1; subst this; exact h2⟩
  | x :: S, R, a, c => ⟨fun ⟨h1, h2, h3⟩ => by
      obtain ⟨b, h4, h5⟩ := wk_append.1 h3
      exact ⟨b, ⟨h1, h2, h4⟩, h5⟩, fun ⟨b, ⟨h1, h2, h4⟩, h5⟩ => ⟨h1, h2, wk_append.2 ⟨b, h4, h5⟩⟩⟩
theorem wk_mono {L : List Lg} {T U : List Int} (h : ∀ j ∈ T, j ∈ U) : ∀ {S : List St} {a b : Int}, Wk L T a S b → Wk L U a S b
  | [], _, _, hw => hw
  | _ :: _, _, _, ⟨h1, h2, h3⟩ => ⟨h _ h1, h2, wk_mono h h3⟩
theorem wk_mem {L : List Lg} {T : List Int} : ∀ {S : List St} {a b : Int}, Wk L T a S b → ∀ x ∈ S, x.i ∈ T
  | [], _, _, _, x, hx => absurd hx List.not_mem_nil
  | y :: S, _, _, ⟨h1, _, h3⟩, x, hx => by
    rcases List.mem_cons.1 hx with rfl | hx
    · exact h1
    · exact wk_mem h3 x hx
theorem wt_none {i : Int} : ∀ {S : List St}, (∀ x ∈ S, x.i ≠ i) → wt (ind i) S = 0
  | [], _ => rfl
  | x :: S, h => by
    have ih := wt_none (S := S) fun y hy => h y (List.mem_cons_of_mem _ hy)
    have hx := h x (List.mem_cons_self ..)
    show (if x.b then - ind i x.i else ind i x.i) + wt (ind i) S = 0
    rw [ih]
    simp [ind, hx]
theorem wt_some : ∀ {S : List St} {x : St}, (S.map St.i).Nodup → x ∈ S → wt (ind x.i) S = if x.b then -1 else 1
  | y :: S, x, hn, hx => by
    rw [List.map_cons, List.nodup_cons] at hn
    show (if y.b then - ind x.i y.i else ind x.i y.i) + wt (ind x.i) S = _
    rcases List.mem_cons.1 hx with rfl | hx
    · rw [wt_none (S := S) fun y hy e => hn.1 (by rw [← e]; exact List.mem_map_of_mem hy)]
      simp [ind]
    · rw [wt_some hn.2 hx]
      have : y.i ≠ x.i := fun e => hn.1 (by rw [e]; exact List.mem_map_of_mem hx)
      simp [ind, this]
/-- A walk that goes over each leg once at most. -/
def Tr (L : List Lg) (T : List Int) (a : Int) (S : List St) (b : Int) : Prop := Wk L T a S b ∧ (S.map St.i).Nodup
theorem tr_closed {L : List Lg} {T : List Int} (hp : Pot L T) {a : Int} {S : List St} (h : Tr L T a S a) : S = [] := by
  cases S with
  | nil => rfl
  | cons x S =>
    exfalso
    obtain ⟨φ, hφ⟩ := hp (ind x.i)
    have h1 := wk_wt hφ h.1
    have h2 := wt_some h.2 (List.mem_cons_self (a := x) (l := S))
    rw [h1] at h2
    cases x.b <;> simp at h2 <;> omega
theorem st_ext {x y : St} (h1 : x.i = y.i) (h2 : x.b = y.b) : x = y := by cases x; cases y; simp_all
theorem nodup_right {S R : List St} (h : ((S ++ R).map St.i).Nodup) : (R.map St.i).Nodup := by rw [List.map_append] at h; exact (List.nodup_append.1 h).2.1
theorem nodup_left {S R : List St} (h : ((S ++ R).map St.i).Nodup) : (S.map St.i).Nodup := by rw [List.map_append] at h; exact (List.nodup_append.1 h).1
/-- There is one way at most. -/
theorem tr_unique {L : List Lg} {T : List Int} (hp : Pot L T) : ∀ {S R : List St} {a b : Int}, Tr L T a S b → Tr L T a R b → S = R
  | [], R, a, b, h1, h2 => by
    have e : a = b := h1.1
    subst e
    exact (tr_closed hp h2).symm
  | x :: S, R, a, b, h1, h2 => by
    obtain ⟨φ, hφ⟩ := hp (ind x.i)
    have e1 := wk_wt hφ h1.1
    have e2 := wt_some h1.2 (List.mem_cons_self (a := x) (l := S))
    have e3 := wk_wt hφ h2.1
    have hmem : ∃ y ∈ R, y.i = x.i := by
      refine Classical.byContradiction fun hno => ?_
      have := wt_none (i := x.i) (S := R) fun y hy e => hno ⟨y, hy, e⟩
      rw [this] at e3
      rw [e1, ← e3] at e2
      by_cases hxb : x.b = true <;> simp [hxb] at e2
    obtain ⟨y, hy, hyx⟩ := hmem
    have e4 := wt_some h2.2 hy
    rw [hyx, e3, ← e1, e2] at e4
    have hxy : y = x := st_ext hyx (by
      cases hxb : x.b <;> cases hyb : y.b <;> simp [hxb, hyb] at e4 <;> rfl)
    subst hxy
    obtain ⟨Q, R', rfl⟩ := List.append_of_mem hy
    obtain ⟨c, hc1, hc2, hc3, hc4⟩ := wk_append.1 h2.1
    have hca : c = a := hc3.symm.trans h1.1.2.1
    subst hca
    have hQ := tr_closed hp ⟨hc1, nodup_left h2.2⟩
    subst hQ
    have n1 : (S.map St.i).Nodup := by have := h1.2; rw [List.map_cons, List.nodup_cons] at this; exact this.2
    have n2 : (R'.map St.i).Nodup := by have := h2.2; rw [List.nil_append, List.map_cons, List.nodup_cons] at this; exact this.2
    rw [List.nil_append, tr_unique hp ⟨h1.1.2.2, n1⟩ ⟨hc4, n2⟩]
theorem sBeg_flip {L : List Lg} {x y : St} (h1 : y.i = x.i) (h2 : y.b ≠ x.b) : sBeg L y = sEnd L x ∧ sEnd L y = sBeg L x := by
  unfold sBeg sEnd
  rw [h1]
  cases hx : x.b <;> cases hy : y.b <;> simp_all [bk]
/-- Where there is a walk there is one that goes over each leg once at most. -/
theorem tr_of_wk {L : List Lg} {T : List Int} : ∀ {S : List St} {a b : Int}, Wk L T a S b → ∃ R, Tr L T a R b
  | [], a, b, h => ⟨[], h, List.nodup_nil⟩
  | x :: S, a, b, ⟨h1, h2, h3⟩ => by
    obtain ⟨R, hR, hn⟩ := tr_of_wk h3
    by_cases hx : x.i ∈ R.map St.i
    · rw [List.mem_map] at hx
      obtain ⟨y, hy, hyx⟩ := hx
      obtain ⟨Q, R', rfl⟩ := List.append_of_mem hy
      obtain ⟨c, hc1, hc2, hc3, hc4⟩ := wk_append.1 hR
      have n2 := nodup_right hn
      by_cases hb : y.b = x.b
      · obtain rfl : y = x := st_ext hyx hb
        exact ⟨y :: R', ⟨h1, h2, hc4⟩, n2⟩
      · have := (sBeg_flip (L := L) hyx hb).2
        rw [List.map_cons, List.nodup_cons] at n2
        exact ⟨R', by rw [← h2, ← this]; exact hc4, n2.2⟩
    · exact ⟨x :: R, ⟨h1, h2, hR⟩, by rw [List.map_cons, List.nodup_cons]; exact ⟨hx, hn⟩⟩
theorem treeL_sub {n : Nat} {L : List Lg} {k : Nat} : ∀ j ∈ treeL n L k, j ∈ treeL n L (k + 1) := fun j hj => by
  cases hs : sepB n L k
  · rw [treeL_no hs]; exact hj
  · rw [treeL_yes hs]; exact List.mem_append.2 (.inl hj)
theorem lab_own {n : Nat} {a : Int} (ha : inS n a) : lab (ownL n) a = a := by
  unfold inS at ha
  have e : (ownL n)[a.toNat]? = some (a.toNat : Int) := ownL_get n a.toNat (by omega)
  show (ownL n).getD a.toNat 0 = _
  rw [List.getD_eq_getElem?_getD, e, Option.getD_some]
  omega
theorem wk_conn {n : Nat} {L : List Lg} (h : LegsOk n L) : ∀ k, k ≤ L.length → ∀ a b, inS n a → inS n b → lab (partsL n (L.take k)) a = lab (partsL n (L.take k)) b → ∃ S, Wk L (treeL n L k) a S b
  | 0, _, a, b, ha, hb, e => by
    refine ⟨[], ?_⟩
    have e : lab (ownL n) a = lab (ownL n) b := e
    rwa [lab_own ha, lab_own hb] at e
  | k + 1, hk, a, b, ha, hb, e => by
    have ih := wk_conn h k (by omega)
    have hg : L[k]? = some L[k] := List.getElem?_eq_getElem (by omega)
    have hl := partsL_length n (L.take k)
    obtain ⟨c1, c2, _⟩ := h.leg (j := k) (by omega)
    rw [legAt_get (by omega)] at c1 c2
    rw [parts_take_succ n L k _ hg] at e
    cases hs : sepB n L k
    · rw [treeL_no hs]
      rw [sepB_at hg] at hs
      rw [joinL_same (by simpa using hs)] at e
      exact ih a b ha hb e
    · by_cases e0 : lab (partsL n (L.take k)) a = lab (partsL n (L.take k)) b
      · obtain ⟨S, hS⟩ := ih a b ha hb e0
        exact ⟨S, wk_mono treeL_sub hS⟩
      · have hk' : (k : Int) ∈ treeL n L (k + 1) := by rw [treeL_yes hs]; simp
        have step : ∀ bb : Bool, ∀ S R, Wk L (treeL n L k) a S (sBeg L ⟨k, bb⟩) → Wk L (treeL n L k) (sEnd L ⟨k, bb⟩) R b → ∃ S, Wk L (treeL n L (k + 1)) a S b := fun bb S R h1 h2 =>
          ⟨S ++ ⟨k, bb⟩ :: R, wk_append.2 ⟨_, wk_mono treeL_sub h1, hk', rfl, wk_mono treeL_sub h2⟩⟩
        have b0 : sBeg L ⟨k, false⟩ = L[k].f := by unfold sBeg; rw [legAt_get (by omega)]; rfl
        have b1 : sBeg L ⟨k, true⟩ = L[k].t := by unfold sBeg; rw [legAt_get (by omega)]; rfl
        have d0 : sEnd L ⟨k, false⟩ = L[k].t := by unfold sEnd; rw [legAt_get (by omega)]; rfl
        have d1 : sEnd L ⟨k, true⟩ = L[k].f := by unfold sEnd; rw [legAt_get (by omega)]; rfl
        unfold inS at ha hb
        rw [lab_join _ _ (by omega), lab_join _ _ (by omega)] at e
        have hcase : (lab (partsL n (L.take k)) a = lab (partsL n (L.take k)) L[k].f ∧ lab (partsL n (L.take k)) L[k].t = lab (partsL n (L.take k)) b) ∨ (lab (partsL n (L.take k)) a = lab (partsL n (L.take k)) L[k].t ∧ lab (partsL n (L.take k)) L[k].f = lab (partsL n (L.take k)) b) := by
          generalize lab (partsL n (L.take k)) a = x at *
          generalize lab (partsL n (L.take k)) b = y at *
          generalize lab (partsL n (L.take k)) L[k].f = p at *
          generalize lab (partsL n (L.take k)) L[k].t = q at *
          split at e <;> split at e <;> omega
        rcases hcase with ⟨h1, h2⟩ | ⟨h1, h2⟩
        · obtain ⟨S, hS⟩ := ih a _ ha c1 h1
          obtain ⟨R, hR⟩ := ih _ b c2 hb h2
          exact step false S R (by rw [b0]; exact hS) (by rw [d0]; exact hR)
        · obtain ⟨S, hS⟩ := ih a _ ha c2 h1
          obtain ⟨R, hR⟩ := ih _ b c1 hb h2
          exact step true S R (by rw [b1]; exact hS) (by rw [d1]; exact hR)
theorem wk_lab {n : Nat} {L : List Lg} (h : LegsOk n L) {k : Nat} (hk : k ≤ L.length) : ∀ {S : List St} {a b : Int}, Wk L (treeL n L k) a S b → lab (partsL n (L.take k)) a = lab (partsL n (L.take k)) b
  | [], a, b, e => by have e : a = b := e; rw [e]
  | x :: S, a, b, ⟨h1, h2, h3⟩ => by
    have ih := wk_lab h hk h3
    obtain ⟨b0, b1, _⟩ := treeL_mem h1
    obtain ⟨m, hm⟩ := Int.eq_ofNat_of_zero_le b0
    have e := linked h k hk m (by omega)
    rw [← ih, ← h2]
    unfold sBeg sEnd
    rw [hm]
    cases x.b <;> simp only [bk] <;> simp [e]
end Go.Proofs.Ytbjahideaonimaa
