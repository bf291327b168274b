/- Plain facts: a leg that goes farther. -/
import Derived.Test.YtgcloaimolajjaaDoorFnP2
namespace Go.Proofs.YtgcloaimolajjaaDoor
open Go.RowKit
set_option linter.all false
def ft (g : Lg) : Int × Int := (g.f, g.t)
theorem parts_ft {n : Nat} {L M : List Lg} (h : L.map ft = M.map ft) : partsL n L = partsL n M := by
  have e : ∀ K : List Lg, partsL n K = (K.map ft).foldl (fun l p => joinL l p.1 p.2) (ownL n) := fun K => by unfold partsL; rw [List.foldl_map]; rfl
  rw [e, e, h]
theorem get_ft {L M : List Lg} (h : L.map ft = M.map ft) (i : Nat) : (L[i]?).map ft = (M[i]?).map ft := by
  rw [← List.getElem?_map, ← List.getElem?_map, h]
theorem sep_ft {n : Nat} {L M : List Lg} (h : L.map ft = M.map ft) (i : Nat) : sepB n L i = sepB n M i := by
  have h1 : (L.take i).map ft = (M.take i).map ft := by rw [List.map_take, List.map_take, h]
  have h2 := get_ft h i
  unfold sepB
  cases hL : L[i]? with
  | none =>
    cases hM : M[i]? with
    | none => rfl
    | some g => rw [hL, hM] at h2; simp at h2
  | some g =>
    cases hM : M[i]? with
    | none => rw [hL, hM] at h2; simp at h2
    | some g' =>
      rw [hL, hM] at h2
      simp [ft] at h2
      simp only
      rw [parts_ft h1, h2.1, h2.2]
theorem len_ft {L M : List Lg} (h : L.map ft = M.map ft) : L.length = M.length := by
  have := congrArg List.length h
  simpa using this
theorem tree_ft {n : Nat} {L M : List Lg} (h : L.map ft = M.map ft) : treeL n L L.length = treeL n M M.length := by
  unfold treeL
  rw [len_ft h]
  congr 1
  exact List.filter_congr fun i _ => sep_ft h i
theorem tl_ft {n : Nat} {L M : List Lg} (h : L.map ft = M.map ft) (h1 : svB n L = true) (h2 : svB n M = true) : tlL n L = tlL n M := by
  rw [tlL_ok h1, tlL_ok h2]
  exact tree_ft h
theorem legAt_ft {L M : List Lg} (h : L.map ft = M.map ft) (i : Int) : (legAt L i).f = (legAt M i).f ∧ (legAt L i).t = (legAt M i).t := by
  have h2 := get_ft h i.toNat
  unfold legAt
  rw [List.getD_eq_getElem?_getD, List.getD_eq_getElem?_getD]
  cases hL : L[i.toNat]? with
  | none =>
    cases hM : M[i.toNat]? with
    | none => exact ⟨rfl, rfl⟩
    | some g => rw [hL, hM] at h2; simp at h2
  | some g =>
    cases hM : M[i.toNat]? with
    | none => rw [hL, hM] at h2; simp at h2
    | some g' => rw [hL, hM] at h2; simpa [ft] using h2
theorem ends_ft {L M : List Lg} (h : L.map ft = M.map ft) (x : St) : sBeg L x = sBeg M x ∧ sEnd L x = sEnd M x := by
  obtain ⟨h1, h2⟩ := legAt_ft h x.i
  unfold sBeg sEnd
  rw [h1, h2]
  exact ⟨rfl, rfl⟩
theorem wk_ft {L M : List Lg} (h : L.map ft = M.map ft) {T : List Int} : ∀ {S : List St} {a b : Int}, Wk L T a S b → Wk M T a S b
  | [], _, _, hw => hw
  | x :: S, a, b, ⟨h1, h2, h3⟩ => by
    obtain ⟨e1, e2⟩ := ends_ft h x
    rw [e2] at h3
    exact ⟨h1, e1.symm.trans h2, wk_ft h h3⟩
theorem wt_ft {w w' : Int → Int} : ∀ {S : List St}, (∀ x ∈ S, w x.i = w' x.i) → wt w S = wt w' S
  | [], _ => rfl
  | x :: S, h => by
    show (if x.b then - w x.i else w x.i) + wt w S = (if x.b then - w' x.i else w' x.i) + wt w' S
    rw [h x (List.mem_cons_self ..), wt_ft fun y hy => h y (List.mem_cons_of_mem _ hy)]
/-- The places are the same where the legs of the tree are. -/
theorem plc_ft {n : Nat} {L M : List Lg} (h : L.map ft = M.map ft) (h1 : svB n L = true) (h2 : svB n M = true) {G : Lg → Int} (g1 : SmG G L) (g2 : SmG G M) (hT : ∀ i ∈ tlL n L, G (legAt L i) = G (legAt M i)) {v : Int} (hv : inS n v) : plc n L G v = plc n M G v := by
  obtain ⟨S, hS, -, -, hp⟩ := plc_wt h1 hv
  obtain ⟨R, hR, -, -, hq⟩ := plc_wt h2 hv
  rw [hp G g1, hq G g2]
  have hS4 := hS.2.2.2
  have hR4 := hR.2.2.2
  rw [← parts_ft h, ← tl_ft h h1 h2] at hR4
  have e : S = R := tr_unique (pot_of h1) hS4 ⟨wk_ft h.symm hR4.1, hR4.2⟩
  subst e
  exact wt_ft fun x hx => hT _ (wk_mem hS4.1 x hx)
/-- The survey in which leg j goes one farther to the east. -/
def farL (L : List Lg) (j : Nat) : List Lg := L.set j ⟨(legAt L j).f, (legAt L j).t, (legAt L j).e + 1, (legAt L j).n, (legAt L j).u⟩
theorem far_len (L : List Lg) (j : Nat) : (farL L j).length = L.length := by simp [farL]
theorem far_ft {L : List Lg} {j : Nat} (hj : j < L.length) : (farL L j).map ft = L.map ft := by
  unfold farL
  rw [List.map_set]
  have : ft ⟨(legAt L j).f, (legAt L j).t, (legAt L j).e + 1, (legAt L j).n, (legAt L j).u⟩ = (L.map ft)[j]'(by rw [List.length_map]; exact hj) := by
    rw [List.getElem_map, legAt_get hj]; rfl
  rw [this]
  exact List.set_getElem_self _
theorem far_at {L : List Lg} {j : Nat} (hj : j < L.length) : legAt (farL L j) j = ⟨(legAt L j).f, (legAt L j).t, (legAt L j).e + 1, (legAt L j).n, (legAt L j).u⟩ := by
  rw [legAt_get (by rw [far_len]; exact hj)]
  simp [farL]
theorem far_other {L : List Lg} {j : Nat} {i : Int} (h0 : 0 ≤ i) (h : i ≠ j) : legAt (farL L j) i = legAt L i := by
  unfold legAt farL
  rw [List.getD_eq_getElem?_getD, List.getD_eq_getElem?_getD, List.getElem?_set_ne (by omega)]
/-- A leg that goes farther misses by more. -/
theorem mi_far {n : Nat} {L : List Lg} {j : Nat} (hj : j < L.length) (h1 : svB n L = true) (h2 : svB n (farL L j) = true) (hm : (j : Int) ∉ tlL n L) :
    ad (miF n L j (stE L) Lg.e) 1 = miF n (farL L j) j (stE (farL L j)) Lg.e ∧ ad (miF n L j (stN L) Lg.n) 0 = miF n (farL L j) j (stN (farL L j)) Lg.n ∧ ad (miF n L j (stU L) Lg.u) 0 = miF n (farL L j) j (stU (farL L j)) Lg.u := by
  have hft := far_ft hj
  have hj2 : j < (farL L j).length := by rw [far_len]; exact hj
  obtain ⟨c1, c2, c3⟩ := (legsOk_of h1).leg (j := j) hj
  have hat := far_at hj
  have key : ∀ G : Lg → Int, SmG G L → SmG G (farL L j) → miF n L j (stG G L) G = plc n L G (legAt L j).f + G (legAt L j) - plc n L G (legAt L j).t ∧ miF n (farL L j) j (stG G (farL L j)) G = plc n L G (legAt L j).f + G (legAt (farL L j) j) - plc n L G (legAt L j).t ∧ (-891 ≤ plc n L G (legAt L j).f ∧ plc n L G (legAt L j).f ≤ 891) ∧ (-891 ≤ plc n L G (legAt L j).t ∧ plc n L G (legAt L j).t ≤ 891) ∧ (-99 ≤ G (legAt L j) ∧ G (legAt L j) ≤ 99) := fun G g1 g2 => by
    have hT : ∀ i ∈ tlL n L, G (legAt L i) = G (legAt (farL L j) i) := fun i hi => by
      rw [far_other (tl_mem hi).1 (fun e => hm (by rw [← e]; exact hi))]
    refine ⟨mi_plc h1 g1 hj, ?_, plc_bd h1 c1 g1, plc_bd h1 c2 g1, g1 j⟩
    rw [mi_plc h2 g2 hj2, plc_ft hft.symm h1 h2 g1 g2 hT c1, plc_ft hft.symm h1 h2 g1 g2 hT c2, (legAt_ft hft j).1, (legAt_ft hft j).2]
  obtain ⟨a1, a2, a3, a4, a5⟩ := key Lg.e (smE h1) (smE h2)
  obtain ⟨b1, b2, b3, b4, b5⟩ := key Lg.n (smN h1) (smN h2)
  obtain ⟨d1, d2, d3, d4, d5⟩ := key Lg.u (smU h1) (smU h2)
  rw [hat] at a2 b2 d2
  simp only at a2 b2 d2
  have e1 : miF n L j (stE L) Lg.e = _ := a1
  have e2 : miF n (farL L j) j (stE (farL L j)) Lg.e = _ := a2
  have e3 : miF n L j (stN L) Lg.n = _ := b1
  have e4 : miF n (farL L j) j (stN (farL L j)) Lg.n = _ := b2
  have e5 : miF n L j (stU L) Lg.u = _ := d1
  have e6 : miF n (farL L j) j (stU (farL L j)) Lg.u = _ := d2
  rw [e1, e2, e3, e4, e5, e6]
  unfold ad
  rw [wrap_sm (by omega), wrap_sm (by omega), wrap_sm (by omega)]
  omega
end Go.Proofs.YtgcloaimolajjaaDoor
