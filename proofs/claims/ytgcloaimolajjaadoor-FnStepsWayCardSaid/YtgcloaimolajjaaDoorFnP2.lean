/- Plain facts on ways and places for the laws of drawn surveys. -/
import Derived.Test.YtgcloaimolajjaaDoorFnP
import Derived.Test.YtgcloaimolajjaaDoorCloses
import Derived.Test.YtgcloaimolajjaaDoorLoop
namespace Go.Proofs.YtgcloaimolajjaaDoor
open Go.RowKit
set_option linter.all false
def stG (G : Lg → Int) (L : List Lg) (x : St) : Int := bk x.b (ng (G (legAt L x.i))) (G (legAt L x.i))
/-- This direction of the legs is small. -/
def SmG (G : Lg → Int) (L : List Lg) : Prop := ∀ i : Int, -99 ≤ G (legAt L i) ∧ G (legAt L i) ≤ 99
theorem legAt_all {L : List Lg} {Q : Lg → Prop} (h0 : Q ⟨0, 0, 0, 0, 0⟩) (h : ∀ g ∈ L, Q g) (i : Int) : Q (legAt L i) := by
  unfold legAt
  rw [List.getD_eq_getElem?_getD]
  cases he : L[i.toNat]? with
  | none => exact h0
  | some g => exact h g (List.mem_of_getElem? he)
theorem ok_bd {st : Int} {g : Lg} (h : Lg.ok st g = true) : (-99 ≤ g.e ∧ g.e ≤ 99) ∧ (-99 ≤ g.n ∧ g.n ≤ 99) ∧ (-99 ≤ g.u ∧ g.u ≤ 99) := by
  have := legB_t.1 h
  omega
theorem smE {st : Int} {L : List Lg} (h : svB st L = true) : SmG Lg.e L := fun i => legAt_all (Q := fun g => -99 ≤ g.e ∧ g.e ≤ 99) (by decide) (fun g hg => (ok_bd ((svB_true h).2.2.2 g hg)).1) i
theorem smN {st : Int} {L : List Lg} (h : svB st L = true) : SmG Lg.n L := fun i => legAt_all (Q := fun g => -99 ≤ g.n ∧ g.n ≤ 99) (by decide) (fun g hg => (ok_bd ((svB_true h).2.2.2 g hg)).2.1) i
theorem smU {st : Int} {L : List Lg} (h : svB st L = true) : SmG Lg.u L := fun i => legAt_all (Q := fun g => -99 ≤ g.u ∧ g.u ≤ 99) (by decide) (fun g hg => (ok_bd ((svB_true h).2.2.2 g hg)).2.2) i
theorem wrap_sm {x : Int} (h : -1000000000 ≤ x ∧ x ≤ 1000000000) : wrap64 x = x := by unfold wrap64; omega
theorem fold_wt {G : Lg → Int} {L : List Lg} (hG : SmG G L) (S : List St) : ∀ (a m : Int), -(99 * m) ≤ a → a ≤ 99 * m → m + S.length ≤ 10000 → S.foldl (fun a x => ad a (stG G L x)) a = a + wt (fun i => G (legAt L i)) S := by
  induction S with
  | nil => intro a m _ _ _; show a = a + 0; omega
  | cons x S ih =>
    intro a m h0 h1 hm
    rw [List.length_cons] at hm
    have hx := hG x.i
    have e0 : stG G L x = (if x.b then - G (legAt L x.i) else G (legAt L x.i)) := by
      have e1 : ng (G (legAt L x.i)) = - G (legAt L x.i) := wrap_sm (by omega)
      unfold stG bk
      rw [e1]
    have e : ad a (stG G L x) = a + (if x.b then - G (legAt L x.i) else G (legAt L x.i)) := by
      rw [e0]
      exact wrap_sm (by split <;> omega)
    rw [List.foldl_cons, e, ih _ (m + 1) (by split <;> omega) (by split <;> omega) (by omega)]
    show _ = a + ((if x.b then - G (legAt L x.i) else G (legAt L x.i)) + wt (fun i => G (legAt L i)) S)
    omega
theorem sum_wt {G : Lg → Int} {L : List Lg} (hG : SmG G L) {S : List St} (hS : S.length ≤ 1000) : sumF (stG G L) S S.length = wt (fun i => G (legAt L i)) S := by
  unfold sumF
  rw [List.take_length, fold_wt hG S 0 0 (by omega) (by omega) (by omega)]
  omega
theorem wt_bd {G : Lg → Int} {L : List Lg} (hG : SmG G L) : ∀ S : List St, -(99 * (S.length : Int)) ≤ wt (fun i => G (legAt L i)) S ∧ wt (fun i => G (legAt L i)) S ≤ 99 * S.length
  | [] => by show -(99 * ((0 : Nat) : Int)) ≤ 0 ∧ (0 : Int) ≤ _; simp
  | x :: S => by
    have ih := wt_bd hG S
    have hx := hG x.i
    show _ ≤ (if x.b then - G (legAt L x.i) else G (legAt L x.i)) + wt (fun i => G (legAt L i)) S ∧ (if x.b then - G (legAt L x.i) else G (legAt L x.i)) + wt (fun i => G (legAt L i)) S ≤ _
    rw [List.length_cons]
    split <;> omega
theorem wt_append (w : Int → Int) : ∀ S R : List St, wt w (S ++ R) = wt w S + wt w R
  | [], R => by show wt w R = 0 + _; omega
  | x :: S, R => by
    show (if x.b then - w x.i else w x.i) + wt w (S ++ R) = ((if x.b then - w x.i else w x.i) + wt w S) + wt w R
    rw [wt_append w S R]; omega
theorem wt_back (w : Int → Int) : ∀ S : List St, wt w (backS S) = - wt w S
  | [] => rfl
  | x :: S => by
    have e : backS (x :: S) = backS S ++ [flip x] := by simp [backS]
    rw [e, wt_append, wt_back w S]
    show - wt w S + ((if (!x.b) then - w x.i else w x.i) + 0) = - ((if x.b then - w x.i else w x.i) + wt w S)
    cases x.b <;> simp <;> omega
/-- A walk is a chain with these ends. -/
theorem wk_chain {L : List Lg} {T : List Int} : ∀ {S : List St} {a b : Int}, Wk L T a S b → (∀ k (hk : k + 1 < S.length), sBeg L S[k + 1] = sEnd L S[k]) ∧ (∀ hk : 0 < S.length, sBeg L S[0] = a ∧ sEnd L (S[S.length - 1]'(by omega)) = b)
  | [], a, b, _ => ⟨fun k hk => by simp at hk, fun hk => by simp at hk⟩
  | [x], a, b, ⟨h1, h2, h3⟩ => ⟨fun k hk => by simp at hk, fun _ => ⟨h2, h3⟩⟩
  | x :: y :: S, a, b, ⟨h1, h2, h3⟩ => by
    obtain ⟨c1, c2⟩ := wk_chain h3
    obtain ⟨c3, c4⟩ := c2 (by simp)
    refine ⟨fun k hk => ?_, fun _ => ⟨h2, ?_⟩⟩
    · rcases k with _ | k
      · exact c3
      · exact c1 k (by simpa using hk)
    · simpa using c4
theorem wk_so {st : Int} {L : List Lg} {T : List Int} {S : List St} {a b : Int} (hv : svB st L = true) (h : Wk L T a S b) (hT : ∀ i ∈ T, 0 ≤ i ∧ i < L.length) : soB st L S = true := by
  unfold soB
  rw [hv, Bool.true_and, chain_steps]
  exact ⟨fun x hx => hT _ (wk_mem h x hx), (wk_chain h).1⟩
/-- A chain is a walk. -/
theorem chain_wk {L : List Lg} : ∀ {S : List St}, (∀ x ∈ S, 0 ≤ x.i ∧ x.i < L.length) → (∀ k (hk : k + 1 < S.length), sBeg L S[k + 1] = sEnd L S[k]) → ∀ hk : 0 < S.length, Wk L (ownL L.length) (sBeg L S[0]) S (sEnd L (S[S.length - 1]'(by omega)))
  | [], _, _, hk => by simp at hk
  | [x], h1, _, _ => ⟨own_mem (h1 x (by simp)), rfl, rfl⟩
  | x :: y :: S, h1, h2, _ => by
    have ih := chain_wk (S := y :: S) (fun z hz => h1 z (List.mem_cons_of_mem _ hz)) (fun k hk => h2 (k + 1) (by simpa using hk)) (by simp)
    have e := h2 0 (by simp)
    refine ⟨own_mem (h1 x (by simp)), rfl, ?_⟩
    have e' : sEnd L x = sBeg L (y :: S)[0] := e.symm
    rw [e']
    simpa using ih
where
  own_mem {L : List Lg} {i : Int} (h : 0 ≤ i ∧ i < L.length) : i ∈ ownL L.length := by
    unfold ownL
    rw [List.mem_map]
    exact ⟨i.toNat, by rw [List.mem_range]; omega, by show ((i.toNat : Nat) : Int) = i; omega⟩
theorem so_facts {st : Int} {L : List Lg} {S : List St} (h : soB st L S = true) : svB st L = true ∧ (∀ x ∈ S, 0 ≤ x.i ∧ x.i < L.length) ∧ (∀ k (hk : k + 1 < S.length), sBeg L S[k + 1] = sEnd L S[k]) := by
  unfold soB at h
  rw [Bool.and_eq_true] at h
  exact ⟨h.1, chain_steps.1 h.2⟩
theorem so_nil {st : Int} {L : List Lg} (h : svB st L = true) : soB st L [] = true := by
  unfold soB
  rw [h, Bool.true_and, chain_steps]
  exact ⟨fun x hx => (by cases hx), fun k hk => (by simp at hk)⟩
theorem way_so {st : Int} {L : List Lg} {a b : Int} {S : List St} (h : IsWay st L a b S) : soB st L S = true := wk_so h.1 h.2.2.2.1 fun i hi => tl_mem hi
/-- Where a station is. -/
noncomputable def plc (st : Int) (L : List Lg) (G : Lg → Int) (v : Int) : Int := tpF st L v (stG G L)
theorem plc_wt {n : Nat} {L : List Lg} {v : Int} (h : svB n L = true) (hv : inS n v) : ∃ S, IsWay n L (lab (partsL n L) v) v S ∧ tpS n L v = S ∧ tpB n L v = true ∧ ∀ G, SmG G L → plc n L G v = wt (fun i => G (legAt L i)) S := by
  obtain ⟨S, hS⟩ := tw_least h hv
  have e : tpS n L v = S := by
    show twS n L (lab (partsL (n : Int).toNat L) v) v = S
    rw [Int.toNat_natCast]
    exact (tw_ok hS).1
  have ho : tpOk n L v = true := tpOk_yes h (ixB_t.2 hv)
  have hso := way_so hS
  refine ⟨S, hS, e, by rw [tpB_yes ho, e]; exact hso, fun G hG => ?_⟩
  unfold plc
  rw [tpF_yes _ ho, e, swB_ok _ hso]
  refine sum_wt hG ?_
  have := twS_len n L (lab (partsL n L) v) v
  rw [(tw_ok hS).1] at this
  omega
theorem plc_bd {n : Nat} {L : List Lg} {v : Int} (h : svB n L = true) (hv : inS n v) {G : Lg → Int} (hG : SmG G L) : -891 ≤ plc n L G v ∧ plc n L G v ≤ 891 := by
  obtain ⟨S, hS, -, -, hp⟩ := plc_wt h hv
  rw [hp G hG]
  have := twS_len n L (lab (partsL n L) v) v
  rw [(tw_ok hS).1] at this
  have := wt_bd hG S
  omega
theorem plc_tree {n : Nat} {L : List Lg} (h : svB n L = true) {G : Lg → Int} (hG : SmG G L) : ∀ j ∈ tlL n L, plc n L G (legAt L j).t - plc n L G (legAt L j).f = G (legAt L j) := by
  intro j hj
  obtain ⟨j0, j1⟩ := tl_mem hj
  obtain ⟨k, rfl⟩ := Int.eq_ofNat_of_zero_le j0
  have hk : k < L.length := by omega
  obtain ⟨c1, c2, c3⟩ := (legsOk_of h).leg (j := k) hk
  obtain ⟨φ, hφ⟩ := pot_of h (fun i => G (legAt L i))
  obtain ⟨S, hS, -, -, hp⟩ := plc_wt h c1
  obtain ⟨R, hR, -, -, hq⟩ := plc_wt h c2
  rw [hp G hG, hq G hG, wk_wt hφ hS.2.2.2.1, wk_wt hφ hR.2.2.2.1]
  have e := linked (legsOk_of h) L.length (Nat.le_refl _) k hk
  rw [List.take_length] at e
  have := hφ _ hj
  rw [e]
  omega
theorem plc_least {n : Nat} {L : List Lg} {v : Int} (h : svB n L = true) (hv : inS n v) {G : Lg → Int} (hG : SmG G L) (e : lab (partsL n L) v = v) : plc n L G v = 0 := by
  obtain ⟨S, hS, -, -, hp⟩ := plc_wt h hv
  rw [hp G hG]
  have h4 := hS.2.2.2
  rw [e] at h4
  rw [tr_closed (pot_of h) h4]
  rfl
/-- By how much a leg misses. -/
theorem mi_plc {n : Nat} {L : List Lg} (h : svB n L = true) {G : Lg → Int} (hG : SmG G L) {j : Nat} (hj : j < L.length) : miF n L j (stG G L) G = plc n L G (legAt L j).f + G (legAt L j) - plc n L G (legAt L j).t := by
  have ho : miOk n L j = true := miOk_yes h (ixB_t.2 (by omega))
  obtain ⟨c1, c2, c3⟩ := (legsOk_of h).leg (j := j) hj
  have b1 := plc_bd h c1 hG
  have b2 := plc_bd h c2 hG
  have b3 := hG j
  rw [miF_yes _ _ ho]
  show ad (ad (plc n L G (legAt L j).f) (G (legAt L j))) (mu (plc n L G (legAt L j).t) (-1)) = _
  unfold ad mu
  rw [wrap_sm (x := plc n L G (legAt L j).f + G (legAt L j)) (by omega), wrap_sm (x := plc n L G (legAt L j).t * -1) (by omega), wrap_sm (by omega)]
  omega
theorem mi_tree {n : Nat} {L : List Lg} (h : svB n L = true) {G : Lg → Int} (hG : SmG G L) {j : Nat} (hj : (j : Int) ∈ tlL n L) : miF n L j (stG G L) G = 0 := by
  have h1 := (tl_mem hj).2
  rw [mi_plc h hG (by omega)]
  have := plc_tree h hG _ hj
  omega
theorem mi_ok {n : Nat} {L : List Lg} (h : svB n L = true) {j : Nat} (hj : j < L.length) : miOk n L j = true := miOk_yes h (ixB_t.2 (by omega))
/-- All legs of a survey of its tree alone are in its tree. -/
theorem tl_pick {st : Int} {L : List Lg} (h : svB st L = true) {k : Nat} (hk : k < (pickL L (tlL st L)).length) : (k : Int) ∈ tlL st (pickL L (tlL st L)) := by
  have h2 := sv_pick h
  have h3 := lm_tree h2
  rw [lm_pick h] at h3
  generalize pickL L (tlL st L) = M at *
  obtain ⟨n, rfl⟩ := svB_nat h
  rw [tlL_ok h2] at h3 ⊢
  unfold treeL at h3 ⊢
  rw [List.length_map] at h3
  have h4 : ((List.range M.length).filter (sepB n M)).length = (List.range M.length).length := by rw [List.length_range]; omega
  rw [List.length_filter_eq_length_iff] at h4
  rw [List.mem_map]
  exact ⟨k, by rw [List.mem_filter]; exact ⟨by rw [List.mem_range]; exact hk, h4 k (by rw [List.mem_range]; exact hk)⟩, rfl⟩
theorem zero_t {st : Int} {L : List Lg} {i : Nat} : zeroB st L i = true ↔ miF st L i (stE L) Lg.e = 0 ∧ miF st L i (stN L) Lg.n = 0 ∧ miF st L i (stU L) Lg.u = 0 := by
  unfold zeroB
  simp [and_assoc]
theorem cl_t {st : Int} {L : List Lg} : clB st L = true ↔ svB st L = true ∧ ∀ k, k < L.length → zeroB st L k = true := by
  unfold clB
  rw [Bool.and_eq_true, List.all_eq_true]
  simp
theorem cl_pick {st : Int} {L : List Lg} (h : svB st L = true) : clB st (pickL L (tlL st L)) = true := by
  have h2 := sv_pick h
  have ht := @tl_pick st L h
  generalize pickL L (tlL st L) = M at *
  obtain ⟨n, rfl⟩ := svB_nat h
  refine cl_t.2 ⟨h2, fun k hk => zero_t.2 ?_⟩
  exact ⟨mi_tree h2 (smE h2) (ht hk), mi_tree h2 (smN h2) (ht hk), mi_tree h2 (smU h2) (ht hk)⟩
/-- Leg k goes just as far as its ends are apart. -/
noncomputable def fitB (st : Int) (L : List Lg) (k : Nat) : Bool := (ad (tpF st L (legAt L k).f (stE L)) (legAt L k).e == tpF st L (legAt L k).t (stE L)) && (ad (tpF st L (legAt L k).f (stN L)) (legAt L k).n == tpF st L (legAt L k).t (stN L)) && (ad (tpF st L (legAt L k).f (stU L)) (legAt L k).u == tpF st L (legAt L k).t (stU L))
theorem ad_plc {n : Nat} {L : List Lg} (h : svB n L = true) {G : Lg → Int} (hG : SmG G L) {j : Nat} (hj : j < L.length) : ad (plc n L G (legAt L j).f) (G (legAt L j)) = plc n L G (legAt L j).f + G (legAt L j) := by
  obtain ⟨c1, c2, c3⟩ := (legsOk_of h).leg (j := j) hj
  have b1 := plc_bd h c1 hG
  have b3 := hG j
  exact wrap_sm (by omega)
theorem fit_zero {st : Int} {L : List Lg} (h : svB st L = true) {k : Nat} (hk : k < L.length) : fitB st L k = zeroB st L k := by
  obtain ⟨n, rfl⟩ := svB_nat h
  have e1 := mi_plc h (smE h) hk
  have e2 := mi_plc h (smN h) hk
  have e3 := mi_plc h (smU h) hk
  have a1 := ad_plc h (smE h) hk
  have a2 := ad_plc h (smN h) hk
  have a3 := ad_plc h (smU h) hk
  have f1 : miF n L k (stE L) Lg.e = plc n L Lg.e (legAt L k).f + (legAt L k).e - plc n L Lg.e (legAt L k).t := e1
  have f2 : miF n L k (stN L) Lg.n = plc n L Lg.n (legAt L k).f + (legAt L k).n - plc n L Lg.n (legAt L k).t := e2
  have f3 : miF n L k (stU L) Lg.u = plc n L Lg.u (legAt L k).f + (legAt L k).u - plc n L Lg.u (legAt L k).t := e3
  rw [Bool.eq_iff_iff, zero_t, f1, f2, f3]
  show (((ad (plc n L Lg.e (legAt L k).f) (legAt L k).e == plc n L Lg.e (legAt L k).t) && (ad (plc n L Lg.n (legAt L k).f) (legAt L k).n == plc n L Lg.n (legAt L k).t) && (ad (plc n L Lg.u (legAt L k).f) (legAt L k).u == plc n L Lg.u (legAt L k).t)) = true) ↔ _
  rw [a1, a2, a3]
  simp only [Bool.and_eq_true, beq_iff_eq]
  omega
theorem fit_all {st : Int} {L : List Lg} (h : svB st L = true) : (List.range L.length).all (fitB st L) = clB st L := by
  rw [Bool.eq_iff_iff, cl_t, List.all_eq_true]
  constructor
  · intro h1
    exact ⟨h, fun k hk => by rw [← fit_zero h hk]; exact h1 k (by simpa using hk)⟩
  · rintro ⟨_, h1⟩ k hk
    have hk' : k < L.length := by simpa using hk
    rw [fit_zero h hk']
    exact h1 k hk'
/-- Where a survey closes, a chain goes as far as its ends are apart. -/
theorem cl_chain {n : Nat} {L : List Lg} {S : List St} (h : clB n L = true) (hs : soB n L S = true) (h0 : 0 < S.length) {G : Lg → Int} (hG : SmG G L) (hz : ∀ k, k < L.length → miF n L k (stG G L) G = 0) :
    wt (fun i => G (legAt L i)) S = plc n L G (sEnd L (S[S.length - 1]'(by omega))) - plc n L G (sBeg L S[0]) := by
  obtain ⟨hv, h1, h2⟩ := so_facts hs
  refine wk_wt (T := ownL L.length) (fun j hj => ?_) (chain_wk h1 h2 h0)
  obtain ⟨j0, j1⟩ := ownL_mem hj
  obtain ⟨k, rfl⟩ := Int.eq_ofNat_of_zero_le j0
  have := hz k (by omega)
  rw [mi_plc hv hG (by omega)] at this
  omega
end Go.Proofs.YtgcloaimolajjaaDoor
