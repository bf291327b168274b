/- The search for the one way in plain Lean: what a search that goes down, and one that goes by circles, keep. No program in sight. -/
import Derived.Test.YtgcloaimolajjaaDoorWalkP
namespace Go.Proofs.YtgcloaimolajjaaDoor
set_option linter.all false
theorem nodup_len : ∀ {l m : List Int}, l.Nodup → (∀ x ∈ l, x ∈ m) → l.length ≤ m.length
  | [], _, _, _ => Nat.zero_le _
  | x :: l, m, hn, h => by
    rw [List.nodup_cons] at hn
    have hx := h x (List.mem_cons_self ..)
    have ih := nodup_len (l := l) (m := m.erase x) hn.2 fun y hy => by
      have hne : y ≠ x := fun e => hn.1 (by rw [← e]; exact hy)
      exact (List.mem_erase_of_ne hne).2 (h y (List.mem_cons_of_mem _ hy))
    rw [List.length_erase_of_mem hx] at ih
    have : 0 < m.length := List.length_pos_of_mem hx
    simp only [List.length_cons]
    omega
theorem tr_len {L : List Lg} {T : List Int} {a b : Int} {S : List St} (h : Tr L T a S b) : S.length ≤ T.length := by
  have := nodup_len (m := T) h.2 fun i hi => by
    rw [List.mem_map] at hi
    obtain ⟨x, hx, rfl⟩ := hi
    exact wk_mem h.1 x hx
  simpa using this
theorem tr_snoc {L : List Lg} {T : List Int} {a b : Int} {S : List St} {x : St} (h : Tr L T a S b) (hx : x.i ∈ T) (hb : sBeg L x = b) (hn : x.i ∉ S.map St.i) : Tr L T a (S ++ [x]) (sEnd L x) := by
  refine ⟨wk_append.2 ⟨b, h.1, hx, hb, rfl⟩, ?_⟩
  rw [List.map_append, List.nodup_append]
  refine ⟨h.2, by simp, fun y hy z hz => ?_⟩
  simp at hz
  subst hz
  intro e
  exact hn (by rw [← e]; exact hy)
/-- How the search came here: nothing, or a step from the station where it shall not go back to. -/
def Came (L : List Lg) (P : List St) (but : Int) : Prop := (P = [] ∧ but = -1) ∨ ∃ P' y, P = P' ++ [y] ∧ sBeg L y = but
theorem dfs_fresh {L : List Lg} {T : List Int} (hp : Pot L T) {s0 fr but : Int} {P : List St} {x : St} (hP : Tr L T s0 P fr) (hb : sBeg L x = fr) (hc : Came L P but) (hne : sEnd L x ≠ but) : x.i ∉ P.map St.i := by
  intro hx
  rw [List.mem_map] at hx
  obtain ⟨z, hz, hzx⟩ := hx
  obtain ⟨P1, P2, hPe⟩ := List.append_of_mem hz
  have hP' := hP
  rw [hPe] at hP'
  obtain ⟨c, _, h1, h2, h3⟩ := wk_append.1 hP'.1
  have n2 := nodup_right hP'.2
  by_cases hbb : z.b = x.b
  · obtain rfl := st_ext hzx hbb
    have := tr_closed hp (S := z :: P2) (a := fr) ⟨⟨h1, hb, h3⟩, n2⟩
    cases this
  · obtain ⟨e1, e2⟩ := sBeg_flip (L := L) hzx hbb
    rw [List.map_cons, List.nodup_cons] at n2
    rw [e2, hb] at h3
    have h4 := tr_closed hp (S := P2) (a := fr) ⟨h3, n2.2⟩
    subst h4
    rcases hc with ⟨e, _⟩ | ⟨P', y, e, hy⟩
    · rw [e] at hPe
      have := congrArg List.length hPe
      simp at this
    · rw [e] at hPe
      obtain ⟨_, h6⟩ := List.append_inj' hPe rfl
      simp only [List.cons.injEq, and_true] at h6
      rw [h6] at hy
      exact hne (by rw [← hy, e1])
theorem dfs_back {L : List Lg} {T : List Int} (hp : Pot L T) {s0 fr but : Int} {P : List St} {x : St} (hP : Tr L T s0 P fr) (hxT : x.i ∈ T) (hb : sBeg L x = fr) (hc : Came L P but) (he : sEnd L x = but) (h0 : 0 ≤ sEnd L x) : x.i ∈ P.map St.i := by
  rcases hc with ⟨_, e⟩ | ⟨P', y, e, hy⟩
  · omega
  · subst e
    refine Classical.byContradiction fun hno => ?_
    obtain ⟨c, _, h1, h2, h3⟩ := wk_append.1 hP.1
    have h3 : sEnd L y = fr := h3
    have hne : y.i ≠ x.i := fun e => hno (by rw [← e]; simp)
    have := tr_closed hp (S := [y, x]) (a := but) ⟨⟨h1, hy, hxT, by rw [hb, h3], he⟩, by simp [hne]⟩
    cases this
/-- From here the search does not come to the end. -/
def Dead (L : List Lg) (T : List Int) (P : List St) (fr too : Int) : Prop := ∀ S, Wk L T fr S too → ¬ ((P ++ S).map St.i).Nodup
theorem dead_used {L : List Lg} {T : List Int} {P : List St} {x : St} {fr too : Int} (h : x.i ∈ P.map St.i) : Dead L T (P ++ [x]) fr too := fun S _ hn => by
  have := nodup_left hn
  rw [List.map_append, List.nodup_append] at this
  exact this.2.2 x.i h x.i (by simp) rfl
/-- The steps over the first k legs of the list do not come to the end. -/
def DeadTo (L : List Lg) (T : List Int) (P : List St) (fr too : Int) (k : Nat) : Prop := ∀ m, m < k → ∀ i, T[m]? = some i → ∀ b, sBeg L ⟨i, b⟩ = fr → Dead L T (P ++ [⟨i, b⟩]) (sEnd L ⟨i, b⟩) too
theorem dead_all {L : List Lg} {T : List Int} {P : List St} {fr too : Int} (hne : fr ≠ too) (h : DeadTo L T P fr too T.length) : Dead L T P fr too := fun S hS hn => by
  cases S with
  | nil => exact hne hS
  | cons x S =>
    obtain ⟨h1, h2, h3⟩ := hS
    obtain ⟨m, hm, he⟩ := List.mem_iff_getElem.1 h1
    have := h m hm x.i (by rw [List.getElem?_eq_getElem hm, he]) x.b h2 S h3
    exact this (by rw [List.append_assoc]; exact hn)
theorem deadTo_succ {L : List Lg} {T : List Int} {P : List St} {fr too : Int} {k : Nat} (h : DeadTo L T P fr too k) {i : Int} (hi : T[k]? = some i) (h2 : ∀ b, sBeg L ⟨i, b⟩ = fr → Dead L T (P ++ [⟨i, b⟩]) (sEnd L ⟨i, b⟩) too) : DeadTo L T P fr too (k + 1) := fun m hm j hj => by
  rcases Nat.lt_or_ge m k with hmk | hmk
  · exact h m hmk j hj
  · obtain rfl : m = k := by omega
    rw [hi] at hj
    simp only [Option.some.injEq] at hj
    subst hj
    exact h2
def rB (R : List Bool) (v : Int) : Bool := R.getD v.toNat false
def cAt (C : List St) (v : Int) : St := C.getD v.toNat ⟨0, false⟩
theorem rB_set {n : Nat} {R : List Bool} (hR : R.length = n) {v u : Int} (hv : inS n v) (hu : inS n u) : rB (R.set v.toNat true) u = if u = v then true else rB R u := by
  unfold inS at hv hu
  unfold rB
  rw [List.getD_eq_getElem?_getD, List.getD_eq_getElem?_getD, List.getElem?_set]
  by_cases h : u = v
  · subst h
    rw [if_pos rfl, if_pos rfl, if_pos (by omega)]
    rfl
  · rw [if_neg h, if_neg (by omega)]
theorem cAt_set {n : Nat} {C : List St} (hC : C.length = n) {v u : Int} (hv : inS n v) (hu : inS n u) (x : St) : cAt (C.set v.toNat x) u = if u = v then x else cAt C u := by
  unfold inS at hv hu
  unfold cAt
  rw [List.getD_eq_getElem?_getD, List.getD_eq_getElem?_getD, List.getElem?_set]
  by_cases h : u = v
  · subst h
    rw [if_pos rfl, if_pos rfl, if_pos (by omega)]
    rfl
  · rw [if_neg h, if_neg (by omega)]
/-- What a search by circles keeps: R who has been reached, C by which step, Q who is waiting, pend which steps are still to be looked at, P the ways. -/
structure Bf (L : List Lg) (T : List Int) (n : Nat) (fr : Int) (R : List Bool) (C : List St) (Q : List Int) (pend : St → Prop) (P : Int → List St) : Prop where
  lenR : R.length = n
  lenC : C.length = n
  fr0 : rB R fr = true
  frS : inS n fr
  p0 : P fr = []
  tr : ∀ v, inS n v → rB R v = true → Tr L T fr (P v) v
  ins : ∀ v, inS n v → rB R v = true → ∀ x ∈ P v, rB R (sBeg L x) = true ∧ rB R (sEnd L x) = true
  last : ∀ v, inS n v → rB R v = true → v ≠ fr → (cAt C v).i ∈ T ∧ sEnd L (cAt C v) = v ∧ rB R (sBeg L (cAt C v)) = true ∧ P v = P (sBeg L (cAt C v)) ++ [cAt C v]
  q : ∀ v ∈ Q, inS n v ∧ rB R v = true
  cl : ∀ x, x.i ∈ T → rB R (sBeg L x) = true → rB R (sEnd L x) = true ∨ sBeg L x ∈ Q ∨ pend x
def EndsIn (L : List Lg) (T : List Int) (n : Nat) : Prop := ∀ x : St, x.i ∈ T → inS n (sBeg L x) ∧ inS n (sEnd L x) ∧ sBeg L x ≠ sEnd L x
section
variable {L : List Lg} {T : List Int} {n : Nat} {fr : Int} {R : List Bool} {C : List St} {Q : List Int} {pend : St → Prop} {P : Int → List St}
theorem Bf.weaken (h : Bf L T n fr R C Q pend P) {pend' : St → Prop} (hw : ∀ y, y.i ∈ T → pend y → pend' y) : Bf L T n fr R C Q pend' P :=
  ⟨h.lenR, h.lenC, h.fr0, h.frS, h.p0, h.tr, h.ins, h.last, h.q, fun x hx hr => (h.cl x hx hr).imp_right (Or.imp_right (hw x hx))⟩
theorem Bf.pop {v : Int} (h : Bf L T n fr R C (v :: Q) (fun _ => False) P) : Bf L T n fr R C Q (fun y => sBeg L y = v) P :=
  ⟨h.lenR, h.lenC, h.fr0, h.frS, h.p0, h.tr, h.ins, h.last, fun u hu => h.q u (List.mem_cons_of_mem _ hu), fun x hx hr => by
    rcases h.cl x hx hr with h1 | h1 | h1
    · exact .inl h1
    · rcases List.mem_cons.1 h1 with h2 | h2
      · exact .inr (.inr h2)
      · exact .inr (.inl h2)
    · exact absurd h1 id⟩
theorem Bf.skip (h : Bf L T n fr R C Q pend P) {x : St} (hx : pend x → rB R (sEnd L x) = true) : Bf L T n fr R C Q (fun y => pend y ∧ y ≠ x) P :=
  ⟨h.lenR, h.lenC, h.fr0, h.frS, h.p0, h.tr, h.ins, h.last, h.q, fun y hy hr => by
    rcases h.cl y hy hr with h1 | h1 | h1
    · exact .inl h1
    · exact .inr (.inl h1)
    · by_cases e : y = x
      · subst e; exact .inl (hx h1)
      · exact .inr (.inr ⟨h1, e⟩)⟩
theorem Bf.step (hE : EndsIn L T n) (h : Bf L T n fr R C Q pend P) {x : St} (hx : x.i ∈ T) (hr : rB R (sBeg L x) = true) (hu : rB R (sEnd L x) = false) :
    Bf L T n fr (R.set (sEnd L x).toNat true) (C.set (sEnd L x).toNat x) (Q ++ [sEnd L x]) (fun y => pend y ∧ y ≠ x) (fun v => if v = sEnd L x then P (sBeg L x) ++ [x] else P v) := by
  obtain ⟨hb, he, hbe⟩ := hE x hx
  have mono : ∀ u, inS n u → rB R u = true → rB (R.set (sEnd L x).toNat true) u = true := fun u hu h1 => by
    rw [rB_set h.lenR he hu]
    split
    · rfl
    · exact h1
  have new : ∀ u, inS n u → rB (R.set (sEnd L x).toNat true) u = true → u ≠ sEnd L x → rB R u = true := fun u hu h1 h2 => by
    rw [rB_set h.lenR he hu, if_neg h2] at h1
    exact h1
  have nE : ∀ u, rB R u = true → u ≠ sEnd L x := fun u h1 e => by rw [e, hu] at h1; cases h1
  have rE : rB (R.set (sEnd L x).toNat true) (sEnd L x) = true := by rw [rB_set h.lenR he he, if_pos rfl]
  have hold : ∀ v, inS n v → rB R v = true → ∀ y ∈ P v, y.i ∈ T := fun v hv h1 y hy => wk_mem (h.tr v hv h1).1 y hy
  refine ⟨by rw [List.length_set]; exact h.lenR, by rw [List.length_set]; exact h.lenC, mono _ h.frS h.fr0, h.frS, ?_, ?_, ?_, ?_, ?_, ?_⟩
  · rw [if_neg (nE _ h.fr0)]; exact h.p0
  · intro v hv h1
    by_cases e : v = sEnd L x
    · rw [if_pos e, e]
      refine tr_snoc (h.tr _ hb hr) hx rfl fun hm => ?_
      rw [List.mem_map] at hm
      obtain ⟨z, hz, hzx⟩ := hm
      obtain ⟨z1, z2⟩ := h.ins _ hb hr z hz
      by_cases hbb : z.b = x.b
      · obtain rfl := st_ext hzx hbb
        exact nE _ z2 rfl
      · exact nE _ z1 (sBeg_flip (L := L) hzx hbb).1
    · rw [if_neg e]
      exact h.tr v hv (new v hv h1 e)
  · intro v hv h1 y hy
    by_cases e : v = sEnd L x
    · rw [if_pos e] at hy
      rcases List.mem_append.1 hy with hy | hy
      · obtain ⟨z1, z2⟩ := h.ins _ hb hr y hy
        obtain ⟨i1, i2, _⟩ := hE y (hold _ hb hr y hy)
        exact ⟨mono _ i1 z1, mono _ i2 z2⟩
      · simp only [List.mem_singleton] at hy
        subst hy
        exact ⟨mono _ hb hr, rE⟩
    · rw [if_neg e] at hy
      have h2 := new v hv h1 e
      obtain ⟨z1, z2⟩ := h.ins _ hv h2 y hy
      obtain ⟨i1, i2, _⟩ := hE y (hold _ hv h2 y hy)
      exact ⟨mono _ i1 z1, mono _ i2 z2⟩
  · intro v hv h1 hf
    rw [cAt_set h.lenC he hv]
    by_cases e : v = sEnd L x
    · rw [if_pos e, if_pos e, if_neg (nE _ hr)]
      exact ⟨hx, e.symm, mono _ hb hr, rfl⟩
    · rw [if_neg e, if_neg e]
      obtain ⟨l1, l2, l3, l4⟩ := h.last v hv (new v hv h1 e) hf
      rw [if_neg (nE _ l3)]
      exact ⟨l1, l2, mono _ (hE _ l1).1 l3, l4⟩
  · intro v hv
    rcases List.mem_append.1 hv with hv | hv
    · obtain ⟨q1, q2⟩ := h.q v hv
      exact ⟨q1, mono _ q1 q2⟩
    · simp only [List.mem_singleton] at hv
      subst hv
      exact ⟨he, rE⟩
  · intro y hy h1
    obtain ⟨i1, i2, _⟩ := hE y hy
    by_cases e : sBeg L y = sEnd L x
    · exact .inr (.inl (by rw [e]; simp))
    · rcases h.cl y hy (new _ i1 h1 e) with h2 | h2 | h2
      · exact .inl (mono _ i2 h2)
      · exact .inr (.inl (List.mem_append.2 (.inl h2)))
      · by_cases e : y = x
        · subst e; exact .inl rE
        · exact .inr (.inr ⟨h2, e⟩)
theorem Bf.closed (h : Bf L T n fr R C [] (fun _ => False) P) : ∀ {S : List St} {a b : Int}, rB R a = true → Wk L T a S b → rB R b = true
  | [], a, b, ha, e => by have e : a = b := e; rw [← e]; exact ha
  | x :: S, a, b, ha, ⟨h1, h2, h3⟩ => by
    refine h.closed ?_ h3
    rcases h.cl x h1 (by rw [h2]; exact ha) with h4 | h4 | h4
    · exact h4
    · cases h4
    · exact absurd h4 id
end
theorem Bf.start {L : List Lg} {T : List Int} {n : Nat} {f : Nat} (hE : EndsIn L T n) (hf : f < n) : Bf L T n f ((List.replicate n false).set f true) (List.replicate n ⟨0, false⟩) [(f : Int)] (fun _ => False) (fun _ => []) := by
  have hS : inS n (f : Int) := ⟨by omega, by omega⟩
  have hz : ∀ u, rB (List.replicate n false) u = false := fun u => by
    unfold rB
    rw [List.getD_eq_getElem?_getD, List.getElem?_replicate]
    split <;> rfl
  have hr : ∀ u, inS n u → rB ((List.replicate n false).set f true) u = if u = (f : Int) then true else false := fun u hu => by
    have := rB_set (R := List.replicate n false) (by simp) hS hu
    rw [hz] at this
    simpa using this
  have h1 : ∀ u, inS n u → rB ((List.replicate n false).set f true) u = true → u = (f : Int) := fun u hu h => by
    rw [hr u hu] at h
    split at h
    · assumption
    · cases h
  have h0 : rB ((List.replicate n false).set f true) (f : Int) = true := by rw [hr _ hS, if_pos rfl]
  refine ⟨by simp, by simp, h0, hS, rfl, fun v hv h => ⟨(h1 v hv h).symm, List.nodup_nil⟩, (fun v hv h x hx => by cases hx), fun v hv h hne => absurd (h1 v hv h) hne, fun v hv => ?_, fun x hx hb => ?_⟩
  · simp only [List.mem_singleton] at hv
    subst hv
    exact ⟨hS, h0⟩
  · refine .inr (.inl ?_)
    rw [h1 _ (hE x hx).1 hb]; simp
def unr : List Bool → Nat
  | [] => 0
  | b :: l => (if b then 0 else 1) + unr l
theorem unr_set : ∀ {l : List Bool} {k : Nat}, l[k]? = some false → unr (l.set k true) + 1 = unr l
  | b :: l, 0, h => by
    simp at h
    subst h
    simp [unr]
    omega
  | b :: l, k + 1, h => by
    have := unr_set (l := l) (k := k) (by simpa using h)
    simp only [List.set_cons_succ, unr]
    omega
end Go.Proofs.YtgcloaimolajjaaDoor
