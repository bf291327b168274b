/- Contract of TreeWay (program). -/
import Derived.Test.YtgcloaimolajjaaDoorTwP
import Derived.Test.YtgcloaimolajjaaDoorRev
namespace Go.Proofs.YtgcloaimolajjaaDoor
open Go.RowKit
set_option linter.all false
theorem rB_get {R : List Bool} {n v : Nat} (hR : R.length = n) (hv : v < n) : R[v]? = some (rB R v) := by
  unfold rB; simp [hR, hv]
theorem cAt_get {C : List St} {n v : Nat} (hC : C.length = n) (hv : v < n) : C[v]? = some (cAt C v) := by
  unfold cAt; simp [hC, hv]
/-- What the search keeps, in memory. -/
def BfM (L : List Lg) (T : List Int) (n f gR gC : Nat) (base : Nat) (v : Value) (wr : World) (k : Nat) (pend : St → Prop) (x : Int) : Prop :=
  ∃ (R : List Bool) (C : List St) (Q : List Int) (P : Int → List St), unr R + Q.length = k ∧ rB R x = true ∧ Bf L T n f R C Q pend P ∧ Bools wr gR R ∧ StepBlk wr gC C ∧ QOwn wr base v Q
theorem BfM.weaken {L : List Lg} {T : List Int} {n f gR gC base : Nat} {v : Value} {wr : World} {k : Nat} {pend pend' : St → Prop} {x : Int} (h : BfM L T n f gR gC base v wr k pend x) (hw : ∀ y, y.i ∈ T → pend y → pend' y) : BfM L T n f gR gC base v wr k pend' x := by
  obtain ⟨R, C, Q, P, h1, h2, h3, h4⟩ := h
  exact ⟨R, C, Q, P, h1, h2, h3.weaken hw, h4⟩
theorem BfM.keep {L : List Lg} {T : List Int} {n f gR gC base : Nat} {v : Value} {wr w' : World} {k : Nat} {pend : St → Prop} {x : Int} (h : BfM L T n f gR gC base v wr k pend x) (hn : New wr w') : BfM L T n f gR gC base v w' k pend x := by
  obtain ⟨R, C, Q, P, h1, h2, h3, h4, h5, h6⟩ := h
  exact ⟨R, C, Q, P, h1, h2, h3, h4.keep hn, h5.keep hn, h6.keep hn⟩
theorem two_new (w : World) (x y : Value) (t : TypeId) : ∀ j u, [x, y][j]? = some u → (w.alloc (.cells #[x, y] t)).cell? ((⟨w.heap.size, 0, none⟩ : Addr).add j) = some u := fun j u hu => by
  have h := (Has.new w #[x, y] t).at2
  rcases j with _ | _ | j
  · simp at hu; subst hu; simpa [Addr.add] using h.1
  · simp at hu; subst hu; simpa [Addr.add] using h.2.1
  · simp at hu
def two (i : Int) : List St := [⟨i, false⟩, ⟨i, true⟩]
theorem two_at (j : Int) (q : Nat) (h : q < 2) : ∃ b, (two j)[q]? = some ⟨j, b⟩ ∧ (#[Value.int .i64 j, .bool false, .int .i64 j, .bool true] : Array Value)[q * 2]? = some (.int .i64 j) ∧ (#[Value.int .i64 j, .bool false, .int .i64 j, .bool true] : Array Value)[q * 2 + 1]? = some (.bool b) := by
  rcases q with _ | _ | q
  · exact ⟨false, rfl, rfl, rfl⟩
  · exact ⟨true, rfl, rfl, rfl⟩
  · omega
theorem two_mem {j : Int} {y : St} (h : y.i = j) : y ∈ two j := by
  obtain ⟨i, b⟩ := y
  simp only at h
  subst h
  cases b <;> simp [two]
set_option maxRecDepth 100000 in
set_option maxHeartbeats 4000000 in
theorem implTreeWay_ok (n f t : Nat) (A : Option Addr) (cap : Nat) (L : List Lg) (w : World) (hL : LegsAt w A L) (hv : svB n L = true) (hf : f < n) (ht : t < n) :
    Calls Tryd.prog 37 #[.agg #[.int .i64 n, .slice A L.length cap], .int .i64 f, .int .i64 t] w fun r w' => ∃ B cp, r = .returned (.tuple #[.slice B (twS n L f t).length cp, .bool (twB n L f t)]) ∧ FSteps w w' B (twS n L f t) ∧ New w w' := by
  obtain ⟨i1, ki, kz, ks, kb⟩ := info_parts infoStep
  obtain ⟨b1, b2, b3, b4⟩ := svB_true hv
  have h1 : New w (w.alloc (Obj.cells #[.int .i64 n, .slice A L.length cap] 25)) := (by repeat (first | with_reducible exact New.refl _ | with_reducible assumption | with_reducible refine New.alloc ?_ _ | with_reducible refine New.drewN ?_ _ | with_reducible refine New.drew ?_ | with_reducible refine New.setCell ?_ (by first | omega | (simp; done) | (simp; omega)) _ | with_reducible refine New.tail (by assumption) ?_))
  have h2 := Has.new w #[.int .i64 n, .slice A L.length cap] 25
  have hL' := hL.keep h1
  have B4 := Lib.hid b4
  have hmB := makeBools n (by omega)
  have hmS := makeSteps n (by omega)
  have hf0 : (0 : Int) ≤ (f : Int) := by omega
  have hf1 : (f : Int) < (n : Int) := by omega
  have ht0 : (0 : Int) ≤ (t : Int) := by omega
  have ht1 : (t : Int) < (n : Int) := by omega
  have HixF : Hid (ixB (f : Int) n = true) := ixB_t.2 ⟨hf0, hf1⟩
  have HixT : Hid (ixB (t : Int) n = true) := ixB_t.2 ⟨ht0, ht1⟩
  have HE := Lib.hid (ends_of hv (Nat.le_refl L.length))
  have HV := Lib.hid hv
  have htw := fun S (h : IsWay n L f t S) => tw_ok h
  have htn := fun (h : ¬ ∃ S, IsWay n L f t S) => tw_no h
  have hTl : (treeL n L L.length).length ≤ 9 := by have := treeL_len n L L.length; omega
  have HTok := Lib.hid htw
  have HTno := Lib.hid htn
  have HTm : Hid (∀ i ∈ treeL n L L.length, 0 ≤ i ∧ i < L.length) := fun i hi => by have := treeL_mem hi; omega
  have HTT : Hid (tlL n L = treeL n L L.length) := tlL_ok hv
  clear b4 htw htn
  go_enter Tryd.func37, Tryd.ntmps37
  go_upto_region 1 with fail
  generalize (w.alloc (Obj.cells #[.int .i64 n, .slice A L.length cap] 25)) = W0 at *
  have c2 := h2.cells2
  clear h2
  go_wp2_with fail
  refine (implSurveyValid_any _ _ _ _ _ hL' (by omega)).mono ?_
  rw [HV.out]
  rintro e w1 ⟨rfl, hn1⟩
  go_upto_region 4 with (first | (go_at_call 71; refine (isIndex_any _ _ _).mono ?_; (first | rw [HixF.out] | rw [HixT.out]); rintro e w2 ⟨rfl, rfl⟩) | (go_at_call 32; refine (implTreeLegs_ok _ _ _ _ _ (hL'.keep hn1) HV.out).mono ?_; rintro e w3 ⟨BT, cpT, rfl, hF, hn3⟩))
  have hk3 : New W0 w3 := hn1.trans hn3
  have c3 := fun w' (hn : New w3 w') => c2 w' (hk3.trans hn)
  have hT3 := hF.reads
  have hL3 := hL'.keep hk3
  have h3 := h1.trans hk3
  clear c2 hF hn1 hn3 hL' hL
  go_upto_region 6 with fail
  have hk4 : New w3 ((w3.alloc (Obj.cells (madeCells #[Value.bool false] n) 4)).alloc (Obj.cells (madeCells #[Value.int .i64 0, .bool false] (n * 2)) 40)) := (by repeat (first | with_reducible exact New.refl _ | with_reducible assumption | with_reducible refine New.alloc ?_ _ | with_reducible refine New.drewN ?_ _ | with_reducible refine New.drew ?_ | with_reducible refine New.setCell ?_ (by first | omega | (simp; done) | (simp; omega)) _ | with_reducible refine New.tail (by assumption) ?_))
  have hR4 := (Bools.made w3 n).keep ((New.refl _).alloc (Obj.cells (madeCells #[Value.int .i64 0, .bool false] (n * 2)) 40))
  have hC4 := StepBlk.made (w3.alloc (Obj.cells (madeCells #[Value.bool false] n) 4)) n
  simp only [World.size_alloc] at hC4
  generalize ((w3.alloc (Obj.cells (madeCells #[Value.bool false] n) 4)).alloc (Obj.cells (madeCells #[Value.int .i64 0, .bool false] (n * 2)) 40)) = W4 at *
  have cf := hR4.cell (k := f) (x := false) (by simp [hf])
  have ff := hR4.free
  obtain ⟨gR, hgR⟩ : ∃ g, w3.heap.size = g := ⟨_, rfl⟩
  have HgR := Lib.hid hgR
  rw [hgR] at hR4 hC4 cf ff ⊢
  clear hmB hmS hgR
  go_wp2_with fail
  have hw5 : New w3 ((W4.setCell ⟨gR, f, none⟩ (.bool true)).alloc (Obj.cells #[Value.int .i64 f] 3)) := (hk4.setCell (p := ⟨gR, f, none⟩) (by have := HgR.out; simp; omega) _).alloc _
  have hR5 := (hR4.set f true).keep ((New.refl _).alloc (Obj.cells #[Value.int .i64 f] 3))
  have hC5 := (hC4.far (p := ⟨gR, f, none⟩) (by simp) (.bool true)).keep ((New.refl _).alloc (Obj.cells #[Value.int .i64 f] 3))
  have hQ5 := QOwn.one (W4.setCell ⟨gR, f, none⟩ (.bool true)) f
  have hsz5 : (W4.setCell ⟨gR, f, none⟩ (.bool true)).heap.size = W4.heap.size := by simp [World.setCell]
  rw [hsz5] at hQ5
  have hg1 := hR4.lt
  have hg2 := hC4.lt
  have hb5 : W4.heap.size ≤ ((W4.setCell ⟨gR, f, none⟩ (.bool true)).alloc (Obj.cells #[Value.int .i64 f] 3)).heap.size := by simp [World.setCell]
  have hbf := Bf.start HE.out hf
  have hun : unr ((List.replicate n false).set f true) + [(f : Int)].length = n := by
    have := unr_set (l := List.replicate n false) (k := f) (by simp [hf])
    have h2 : ∀ m, unr (List.replicate m false) = m := fun m => by
      induction m with
      | zero => rfl
      | succ m ih => rw [List.replicate_succ]; simp only [unr, ih]; simp; omega
    rw [h2] at this
    simpa using this
  generalize ((W4.setCell ⟨gR, f, none⟩ (.bool true)).alloc (Obj.cells #[Value.int .i64 f] 3)) = W5 at *
  obtain ⟨base, hbase⟩ : ∃ b, W4.heap.size = b := ⟨_, rfl⟩
  rw [hbase] at hQ5 hg1 hg2 hb5 ⊢
  have hM5 : BfM L (treeL n L L.length) n f gR (gR + 1) base (.slice (some ⟨base, 0, none⟩) 1 1) W5 n (fun _ => False) f := ⟨_, _, _, _, hun, hbf.fr0, hbf, hR5, hC5, hQ5⟩
  obtain ⟨T, hT⟩ : ∃ T, treeL n L L.length = T := ⟨_, rfl⟩
  rw [hT] at hM5 HE hTl HTm HTT hT3 ⊢
  clear hR5 hC5 hQ5 hbf hun hsz5 hbase hR4 hC4 cf ff hk4 hT
  go_loopg [11] n (fun k v wr => k ≤ n ∧ New w3 wr ∧ base ≤ wr.heap.size ∧ BfM L T n f gR (gR + 1) base v wr k (fun _ => False) f)
  case atStart => exact ⟨Nat.le_refl _, hw5, hb5, hM5⟩
  case round =>
    clear hM5 hb5 hw5
    obtain ⟨hkn, hw, hb, R, C, Q, P, hkk, -, hBf, hR, hC, g, off, cq, cs, rfl, hgb, hcs, hoc, hQc, hQx⟩ := hrel
    rcases Q with _ | ⟨x, Q⟩
    · have HBf := Lib.hid hBf
      have Hkk := Lib.hid hkk
      clear hBf hkk hQx
      simp only [List.length_nil]
      obtain ⟨r, hr⟩ : ∃ r, rB R (t : Int) = r := ⟨_, rfl⟩
      have ct := hR.cell (rB_get (n := n) HBf.out.lenR ht)
      rw [hr] at ct
      have Hr := Lib.hid hr
      clear hr
      cases r
      · obtain ⟨e1, e2⟩ := HTno.out fun ⟨S, hS⟩ => by
          have h4 := hS.2.2.2.1
          rw [HTT.out] at h4
          have h5 := HBf.out.closed HBf.out.fr0 h4
          rw [Hr.out] at h5
          cases h5
        have E1 := Lib.hid e1
        have E2 := Lib.hid e2
        clear e1 e2
        go_wp2_with fail
        simp only [E1.out, E2.out]
        go_ret2
        exact ⟨_, _, rfl, FSteps.nil, h3.trans hw⟩
      · obtain ⟨e1, e2⟩ := HTok.out (P t) ⟨HV.out, ⟨by omega, by simp; omega⟩, ⟨by omega, by simp; omega⟩, by rw [HTT.out]; exact HBf.out.tr t ⟨ht0, ht1⟩ Hr.out⟩
        have E1 := Lib.hid e1
        have E2 := Lib.hid e2
        have hPl : Hid ((P t).length ≤ 9) := Nat.le_trans (tr_len (HBf.out.tr t ⟨ht0, ht1⟩ Hr.out)) hTl
        clear e1 e2
        go_wp2_with fail
        obtain ⟨wo, rfl⟩ : ∃ wo : World, wo = wr := ⟨_, rfl⟩
        go_loopw [19, 20] (fun v a wi => ∃ (u : Nat) (S : List St), a = .int .i64 u ∧ u < n ∧ Hid (rB R u = true) ∧ Hid (P t = P u ++ S.reverse) ∧ New wo wi ∧ wi.ownsRow wo.heap.size 40 2 v S.length (stC S)) (fun _ a _ => (P (intOf a)).length)
        case atStart => exact ⟨t, [], rfl, ht, Hr, (List.append_nil _).symm, New.refl _, World.ownsRow_nil _ _ _ _⟩
        case round =>
          obtain ⟨u, S, rfl, hun, HRu, HPu, hwi, hown⟩ := hrel
          have hSl : S.length ≤ 9 := by
            have h1 := hPl.out
            rw [HPu.out] at h1
            simp at h1
            omega
          by_cases huf : u = f
          · subst huf
            have hne : ((u : Int) != (u : Int)) = false := by simp
            have HS : Hid (P t = S.reverse) := by
              show P t = S.reverse
              rw [HPu.out, HBf.out.p0]; rfl
            obtain ⟨B, cp, rfl, hFS⟩ := FSteps.of_own hown (Nat.le_refl _)
            go_wp2_with fail
            refine (stepsReverse_any _ _ _ S wo _ rfl hFS hwi.size (by omega)).mono ?_
            rintro e w6 ⟨rfl, hb6, hF6⟩
            have hk6 : New wo w6 := Below.trans hwi hb6
            go_wp2_with fail
            simp only [E1.out, E2.out, HS.out]
            go_ret2
            exact ⟨B, cp, by simp, hF6.older (by have := h3.size; have := hw.size; omega), h3.trans (hw.trans hk6)⟩
          · have hne : ((u : Int) != (f : Int)) = true := by simp; omega
            obtain ⟨l1, l2, l3, l4⟩ := HBf.out.last u ⟨by omega, by omega⟩ HRu.out (by omega)
            have cu := hC.cell (cAt_get (n := n) HBf.out.lenC hun)
            obtain ⟨xx, hxx⟩ : ∃ x, cAt C (u : Int) = x := ⟨_, rfl⟩
            rw [hxx] at l1 l2 l3 l4 cu
            obtain ⟨xi, xb⟩ := xx
            obtain ⟨m0, m1⟩ := HTm.out _ l1
            obtain ⟨j, hj⟩ := Int.eq_ofNat_of_zero_le m0
            simp only at hj m0 m1 cu
            subst hj
            have hjl : j < L.length := by omega
            obtain ⟨n1, -, -⟩ := HE.out _ l1
            obtain ⟨bb, hbb⟩ := Int.eq_ofNat_of_zero_le n1.1
            have HBB := Lib.hid hbb
            rw [hbb] at l3 l4 n1
            have hbn : bb < n := by have := n1.2; omega
            have L3 := Lib.hid l3
            have L4 := Lib.hid l4
            have hu0 : (0 : Int) ≤ (u : Int) := by omega
            have hu1 : (u : Int) < (n : Int) := by omega
            obtain ⟨xs, hxs⟩ : ∃ xs : St, xs = ⟨(j : Int), xb⟩ := ⟨_, rfl⟩
            have HXS := Lib.hid hxs
            have HS : Hid (stC (S ++ [xs]) = stC S ++ [.int .i64 j, .bool xb]) := by show _ = _; rw [stC_snoc, hxs]
            have HP2 : Hid (P t = P bb ++ (S ++ [xs]).reverse) := by
              show P t = _
              rw [HPu.out, L4.out, hxs]; simp
            have HPL : Hid ((P (bb : Int)).length < (P (u : Int)).length) := by
              show _ < _
              rw [L4.out]; simp
            clear hxs
            clear l1 l2 l3 l4 n1 hbb hxx m0 m1 huf
            go_upto_region 30 with (at_builtin; refine wpList_append_own _ rfl _ _ 35 rfl wo.heap.size 40 i1 (.agg #[.int .i64 0, .bool false]) 2 16 Tryd.underlying35 ki kz ks kb rfl (by decide) _ _ _ rfl (hown.alloc _) ⟨wr.heap.size, 0, none⟩ 1 1 [.int .i64 j, .bool xb] rfl rfl (two_new _ _ _ _) (stC_one [⟨(j : Int), xb⟩]) (by unfold maxLen; omega) (by omega) (by have := hwi.size; simp; omega) ?_; intro v' w5 hown' hgrow _)
            have hk5 : New wo w5 := (hwi.alloc _).grown hgrow (fun j hj => (hown.lt j hj).1)
            have c5 := fun w' (hn : New w5 w') => c3 w' ((hw.trans hk5).trans hn)
            have cu5 := fun w' (hn : New w5 w') => cu w' (hk5.trans hn)
            have hL5 := hL3.keep (hw.trans hk5)
            clear c3 cu
            go_region_held3 (fun w' => New w5 w') ((repeat (first | with_reducible exact New.refl _ | with_reducible assumption | with_reducible refine New.alloc ?_ _ | with_reducible refine New.drewN ?_ _ | with_reducible refine New.drew ?_ | with_reducible refine New.setCell ?_ (by first | omega | (simp; done) | (simp; omega)) _ | with_reducible refine New.tail (by assumption) ?_))) (first | (go_at_call 72; refine (stepEnds_any _ _ _ _ _ _ _ (hL5.keep (by repeat (first | with_reducible exact New.refl _ | with_reducible assumption | with_reducible refine New.alloc ?_ _ | with_reducible refine New.drewN ?_ _ | with_reducible refine New.drew ?_ | with_reducible refine New.setCell ?_ (by first | omega | (simp; done) | (simp; omega)) _ | with_reducible refine New.tail (by assumption) ?_))) hjl).mono ?_; rw [HBB.out]; rintro e w6 ⟨rfl, hn6⟩))
            go_wp2_with fail
            go_roundw
            case rel => exact ⟨bb, S ++ [xs], rfl, hbn, L3, HP2, hk5.trans (by repeat (first | with_reducible exact New.refl _ | with_reducible assumption | with_reducible refine New.alloc ?_ _ | with_reducible refine New.drewN ?_ _ | with_reducible refine New.drew ?_ | with_reducible refine New.setCell ?_ (by first | omega | (simp; done) | (simp; omega)) _ | with_reducible refine New.tail (by assumption) ?_)), by rw [HS.out, List.length_append]; exact own_new hown' (by repeat (first | with_reducible exact New.refl _ | with_reducible assumption | with_reducible refine New.alloc ?_ _ | with_reducible refine New.drewN ?_ _ | with_reducible refine New.drew ?_ | with_reducible refine New.setCell ?_ (by first | omega | (simp; done) | (simp; omega)) _ | with_reducible refine New.tail (by assumption) ?_))⟩
            case measure => simp [intOf]; exact HPL.out
    · obtain ⟨hxS, hxR⟩ := hBf.q x (List.mem_cons_self ..)
      obtain ⟨x, rfl⟩ := Int.eq_ofNat_of_zero_le hxS.1
      have hxn : x < n := by have := hxS.2; omega
      have HBf := Lib.hid hBf.pop
      have Hkk := Lib.hid hkk
      have cx : ∀ w', New wr w' → w'.cell? ⟨g, off, none⟩ = some (.int .i64 x) := fun w' hn => by
        have := hcs.cells (off + 0) w' hn
        rw [hQx 0 x rfl] at this
        exact this
      have hQ1 : QOwn wr base (.slice (some ⟨g, off, none⟩) (Q.length + 1) cq) (x :: Q) := ⟨g, off, cq, cs, by simp, hgb, hcs, hoc, hQc, hQx⟩
      have HQ := Lib.hid hQ1.pop
      simp only [List.length_cons] at hQc
      have hc1 : (1 : Int) ≤ (cq : Int) := by omega
      have hc2 : ((Q.length + 1 : Nat) : Int) ≤ (cq : Int) := by omega
      have hx0 : (0 : Int) ≤ (x : Int) := by omega
      have hx1 : (x : Int) < (n : Int) := by omega
      obtain ⟨A1, hA1⟩ : ∃ A1, (if cq = 1 then some (⟨g, off, none⟩ : Addr) else some ⟨g, off + 1, none⟩) = A1 := ⟨_, rfl⟩
      rw [hA1] at HQ
      obtain ⟨kk, hkk'⟩ : ∃ kk, unr R + Q.length = kk := ⟨_, rfl⟩
      have hkg : kk < gk := by rw [← hkk, ← hkk']; simp
      have hM1 : BfM L T n f gR (gR + 1) base (.slice A1 Q.length (cq - 1)) wr kk (fun y => sBeg L y = x) x := ⟨R, C, Q, P, hkk', hxR, HBf.out, hR, hC, HQ.out⟩
      have HM1 := Lib.hid hM1
      clear hBf hkk hQx hQ1 hcs hoc hkk' hM1 HQ hR hC hxR hxS HBf Hkk
      simp only [List.length_cons]
      go_wp2_with fail
      go_loopw [61, 11] (fun i v wi => ∃ m : Nat, m ≤ T.length ∧ i = .int .i64 m ∧ New w3 wi ∧ base ≤ wi.heap.size ∧ BfM L T n f gR (gR + 1) base v wi kk (fun y => sBeg L y = x ∧ y.i ∈ T.drop m) x) (fun i _ _ => T.length - (intOf i).toNat)
      case atStart => exact ⟨0, Nat.zero_le _, rfl, hw, hb, HM1.out.weaken fun y h1 h2 => ⟨h2, by simpa using h1⟩⟩
      case round =>
        clear HM1 cx hA1 hw hb
        obtain ⟨m, hm, rfl, hw, hb, hM⟩ := hrel
        by_cases hmT : m < T.length
        · obtain ⟨bT, oT, y, hBT, hTm, cT⟩ := hT3.at_ hmT
          subst hBT
          obtain ⟨m0, m1⟩ := HTm.out y (by rw [← hTm]; exact List.getElem_mem hmT)
          obtain ⟨j, rfl⟩ := Int.eq_ofNat_of_zero_le m0
          have hjl : j < L.length := by omega
          have HTJ := Lib.hid hTm
          have hm0 : (0 : Int) ≤ (m : Int) := by omega
          have hm2 : (m : Int) < (T.length : Int) := by omega
          have HM := Lib.hid hM
          have cT' := fun w' (hn : New wr w') => cT w' (hw.trans hn)
          clear hTm m0 m1 hM cT
          go_wp2_with fail
          have hw2 : New w3 (wr.alloc (Obj.cells #[Value.int .i64 j, .bool false, .int .i64 j, .bool true] 40)) := hw.alloc _
          have hb2 : base ≤ (wr.alloc (Obj.cells #[Value.int .i64 j, .bool false, .int .i64 j, .bool true] 40)).heap.size := by simp; omega
          have hM2 := HM.out.keep ((New.refl wr).alloc (Obj.cells #[Value.int .i64 j, .bool false, .int .i64 j, .bool true] 40))
          have hG2 := Has.new wr #[Value.int .i64 j, .bool false, .int .i64 j, .bool true] 40
          obtain ⟨g2, hg2e⟩ : ∃ g2, wr.heap.size = g2 := ⟨_, rfl⟩
          have hg2b : base ≤ g2 := by omega
          rw [hg2e] at hG2 ⊢
          clear HM hg2e
          go_loopw [71, 11] (fun i v wi => ∃ q : Nat, q ≤ 2 ∧ i = .int .i64 q ∧ New w3 wi ∧ base ≤ wi.heap.size ∧ Has wi g2 #[Value.int .i64 j, .bool false, .int .i64 j, .bool true] 40 ∧ BfM L T n f gR (gR + 1) base v wi kk (fun y => (sBeg L y = x ∧ y.i ∈ T.drop m) ∧ y ∉ (two j).take q) x) (fun i _ _ => 2 - (intOf i).toNat)
          case atStart => exact ⟨0, by omega, rfl, hw2, hb2, hG2, hM2.weaken fun y _ h2 => ⟨h2, by simp⟩⟩
          case round =>
            clear hM2 hG2 hb2 hw2 cT' hb hw
            obtain ⟨q, hq, rfl, hw, hb, hG, hM⟩ := hrel
            by_cases hq2 : q < 2
            · obtain ⟨xb, hxb, hxi, hxx⟩ := two_at j q hq2
              have ci := fun w' (hn : New wr w') => (hG.cells (q * 2) w' hn).trans hxi
              have cb := fun w' (hn : New wr w') => (hG.cells (q * 2 + 1) w' hn).trans hxx
              obtain ⟨xs, hxs⟩ : ∃ xs : St, xs = ⟨(j : Int), xb⟩ := ⟨_, rfl⟩
              rw [← hxs] at hxb
              have hxT : xs.i ∈ T := by rw [hxs, ← HTJ.out]; exact List.getElem_mem hmT
              obtain ⟨e1, e2, e3⟩ := HE.out xs hxT
              obtain ⟨sb, hsb⟩ := Int.eq_ofNat_of_zero_le e1.1
              obtain ⟨se, hse⟩ := Int.eq_ofNat_of_zero_le e2.1
              have hse2 : se < n := by have := e2.2; omega
              have hsb2 : sb < n := by have := e1.2; omega
              have HSB : Hid (sBeg L ⟨(j : Int), xb⟩ = sb) := by rw [← hxs]; exact hsb
              have HSE : Hid (sEnd L ⟨(j : Int), xb⟩ = se) := by rw [← hxs]; exact hse
              have HXB := Lib.hid hxb
              have HXS := Lib.hid hxs
              have HXT := Lib.hid hxT
              have HSB' := Lib.hid hsb
              have HSE' := Lib.hid hse
              have hq0 : (0 : Int) ≤ (q : Int) := by omega
              have hq1 : (q : Int) < 2 := by omega
              have hse0 : (0 : Int) ≤ (se : Int) := by omega
              have hse1 : (se : Int) < (n : Int) := by omega
              have c4 := fun w' (hn : New wr w') => c3 w' (hw.trans hn)
              have hL4 := hL3.keep hw
              have hnext : ∀ y, ((sBeg L y = x ∧ y.i ∈ T.drop m) ∧ y ∉ (two j).take q) ∧ y ≠ xs → (sBeg L y = x ∧ y.i ∈ T.drop m) ∧ y ∉ (two j).take (q + 1) := fun y h => ⟨h.1.1, fun hy => by
                rw [List.take_add_one, HXB.out] at hy
                rcases List.mem_append.1 hy with hy | hy
                · exact h.1.2 hy
                · simp at hy; exact h.2 hy⟩
              have HNX := Lib.hid hnext
              obtain ⟨R, C, Q, P, hkk, hxR, hBf, hR, hC, hQ⟩ := hM
              have HBf := Lib.hid hBf
              have Hkk := Lib.hid hkk
              have HxR := Lib.hid hxR
              clear hxb hxi hxx hxs hxT e1 e2 e3 hsb hse hnext hBf hkk hxR
              go_wp2_with fail
              refine (stepEnds_any _ _ _ _ _ _ _ (hL4.keep (by repeat (first | with_reducible exact New.refl _ | with_reducible assumption | with_reducible refine New.alloc ?_ _ | with_reducible refine New.drewN ?_ _ | with_reducible refine New.drew ?_ | with_reducible refine New.setCell ?_ (by first | omega | (simp; done) | (simp; omega)) _ | with_reducible refine New.tail (by assumption) ?_))) hjl).mono ?_
              rw [HSB.out, HSE.out]
              rintro e w6 ⟨rfl, hn6⟩
              have hS6 := (Has.new wr #[Value.int .i64 j, .bool xb] 40).keep hn6
              have hk6 : New wr w6 := ((New.refl wr).alloc _).trans hn6
              obtain ⟨g6, hg6⟩ : ∃ g, wr.heap.size = g := ⟨_, rfl⟩
              have hg6b : base ≤ g6 := by omega
              rw [hg6] at hS6 ⊢
              have hR6 := hR.keep hk6
              have hC6 := hC.keep hk6
              have hQ6 := hQ.keep hk6
              have hG6 := hG.keep hk6
              have hw6 := hw.trans hk6
              have hb6 : base ≤ w6.heap.size := by have := hk6.size; omega
              clear hR hC hQ hG hw hb hn6 ci cb c4 hL4 hk6
              by_cases hbx : sb = x
              · subst hbx
                obtain ⟨r, hr⟩ : ∃ r, rB R (se : Int) = r := ⟨_, rfl⟩
                have ce := hR6.cell (rB_get (n := n) HBf.out.lenR hse2)
                rw [hr] at ce
                have Hr := Lib.hid hr
                clear hr
                cases r
                · have hst := HBf.out.step HE.out HXT.out (by rw [HSB'.out]; exact HxR.out) (by rw [HSE'.out]; exact Hr.out)
                  rw [HSE'.out] at hst
                  have hun : unr (R.set se true) + (Q ++ [(se : Int)]).length = kk := by
                    have h1 := unr_set (l := R) (k := se) (by rw [rB_get (n := n) HBf.out.lenR hse2, Hr.out])
                    have h2 := Hkk.out
                    simp
                    omega
                  have hrx : rB (R.set se true) (sb : Int) = true := by
                    have h1 := rB_set (R := R) HBf.out.lenR (v := (se : Int)) ⟨hse0, hse1⟩ (u := (sb : Int)) ⟨by omega, by omega⟩
                    simp only [Int.toNat_natCast] at h1
                    rw [h1]
                    split
                    · rfl
                    · exact HxR.out
                  have HST := Lib.hid (hst.weaken fun y _ h => HNX.out y h)
                  have HUN := Lib.hid hun
                  have HRX := Lib.hid hrx
                  have fR := hR6.free
                  have hQl : Q.length ≤ 100 := by have := Hkk.out; omega
                  have hCl : Hid (C.length = n) := HBf.out.lenC
                  clear hst hun hrx hg6
                  go_upto_region 20 with fail
                  have hS7 := hS6.far (p := ⟨gR, se, none⟩) (by simp; omega) (.bool true)
                  have hR7 := hR6.set se true
                  have hC7 := hC6.far (p := ⟨gR, se, none⟩) (by simp) (.bool true)
                  have hQ7 := hQ6.far (p := ⟨gR, se, none⟩) (by simp; omega) (.bool true)
                  have hG7 := hG6.far (p := ⟨gR, se, none⟩) (by simp; omega) (.bool true)
                  have hw7 := hw6.setCell (p := ⟨gR, se, none⟩) (by have := HgR.out; simp; omega) (.bool true)
                  have hb7 : base ≤ (w6.setCell ⟨gR, se, none⟩ (.bool true)).heap.size := by simp [World.setCell]; omega
                  generalize (w6.setCell ⟨gR, se, none⟩ (.bool true)) = W7 at *
                  have s2 := hS7.cells2
                  have fC := hC7.free
                  have ck := hC7.cell (cAt_get (n := n) hCl.out hse2)
                  clear hS6 hR6 hC6 hQ6 hG6 hw6 hb6 fR ce
                  go_upto_region 21 with fail
                  have hR8 := (hR7.far (p := ⟨gR + 1, se * 2, none⟩) (by simp) (.int .i64 j)).far (p := ⟨gR + 1, se * 2 + 1, none⟩) (by simp) (.bool xb)
                  have hC8 := hC7.set se ⟨(j : Int), xb⟩ (by rw [hCl.out]; exact hse2)
                  have hQ8 := (hQ7.far (p := ⟨gR + 1, se * 2, none⟩) (by simp; omega) (.int .i64 j)).far (p := ⟨gR + 1, se * 2 + 1, none⟩) (by simp; omega) (.bool xb)
                  have hG8 := (hG7.far (p := ⟨gR + 1, se * 2, none⟩) (by simp; omega) (.int .i64 j)).far (p := ⟨gR + 1, se * 2 + 1, none⟩) (by simp; omega) (.bool xb)
                  have hw8 := (hw7.setCell (p := ⟨gR + 1, se * 2, none⟩) (by have := HgR.out; simp; omega) (.int .i64 j)).setCell (p := ⟨gR + 1, se * 2 + 1, none⟩) (by have := HgR.out; simp; omega) (.bool xb)
                  have hb8 : base ≤ ((W7.setCell ⟨gR + 1, se * 2, none⟩ (.int .i64 j)).setCell ⟨gR + 1, se * 2 + 1, none⟩ (.bool xb)).heap.size := by have := hb7; simp [World.setCell]; omega
                  generalize ((W7.setCell ⟨gR + 1, se * 2, none⟩ (.int .i64 j)).setCell ⟨gR + 1, se * 2 + 1, none⟩ (.bool xb)) = W8 at *
                  clear hS7 hR7 hC7 hQ7 hG7 hw7 hb7 s2 fC ck
                  have hA8 : New W8 (W8.alloc (Obj.cells #[Value.int .i64 se] 3)) := (New.refl W8).alloc _
                  have ha8 := (Has.new W8 #[Value.int .i64 se] 3).at1.1
                  go_wp2_with (at_builtin; refine wpList_append_q rfl _ _ rfl base _ Q (hQ8.keep hA8) rfl W8.heap.size 1 se rfl ha8 (by omega) (by simp; omega) ?_; intro v' w9 hQ9 hT9 hB9)
                  go_roundw
                  case rel =>
                    have hw9 : New w3 w9 := Below.trans (hw8.alloc _) (hB9.mono (by have := HgR.out; omega))
                    have hb9 : base ≤ w9.heap.size := by have := hB9.size; simp at this; omega
                    have hR9 : Bools w9 gR (R.set se true) := by
                      obtain ⟨cs, z1, z2⟩ := hR8.keep hA8
                      exact ⟨cs, hT9 _ _ _ (by decide) z1, z2⟩
                    have hC9 : StepBlk w9 (gR + 1) (C.set se ⟨(j : Int), xb⟩) := by
                      obtain ⟨cs, z1, z2⟩ := hC8.keep hA8
                      exact ⟨cs, hT9 _ _ _ (by decide) z1, z2⟩
                    rw [← HXS.out] at hC9
                    exact ⟨q + 1, by omega, by go_num, hw9, hb9, hT9 _ _ _ (by decide) (hG8.keep hA8), R.set se true, C.set se xs, _, _, HUN.out, HRX.out, HST.out, hR9, hC9, hQ9⟩
                  case measure => simp [intOf]; omega
                · have hsk := HBf.out.skip (x := xs) fun _ => by rw [HSE'.out]; exact Hr.out
                  have HST := Lib.hid (hsk.weaken fun y _ h => HNX.out y h)
                  clear hsk
                  go_wp2_with fail
                  go_roundw
                  case rel => exact ⟨q + 1, by omega, by go_num, hw6, hb6, hG6, R, C, Q, P, Hkk.out, HxR.out, HST.out, hR6, hC6, hQ6⟩
                  case measure => simp [intOf]; omega
              · have hne : ((sb : Int) == (x : Int)) = false := by simp; omega
                have hsk := HBf.out.skip (x := xs) fun h => by
                  exfalso
                  have h1 := h.1.1
                  rw [HSB'.out] at h1
                  omega
                have HST := Lib.hid (hsk.weaken fun y _ h => HNX.out y h)
                clear hbx hsk
                go_wp2_with fail
                go_roundw
                case rel => exact ⟨q + 1, by omega, by go_num, hw6, hb6, hG6, R, C, Q, P, Hkk.out, HxR.out, HST.out, hR6, hC6, hQ6⟩
                case measure => simp [intOf]; omega
            · obtain rfl : q = 2 := by omega
              have HM2 := Lib.hid (hM.weaken (pend' := fun y => sBeg L y = x ∧ y.i ∈ T.drop (m + 1)) fun y _ h => ⟨h.1.1, by
                have h1 := h.1.2
                rw [List.drop_eq_getElem_cons hmT, HTJ.out] at h1
                rcases List.mem_cons.1 h1 with h2 | h2
                · exact absurd (two_mem h2) h.2
                · exact h2⟩)
              clear hM
              go_wp2_with fail
              go_roundw
              case rel => exact ⟨m + 1, by omega, by go_num, hw, hb, HM2.out⟩
              case measure => simp [intOf]; omega
        · obtain rfl : m = T.length := by omega
          have HM2 := Lib.hid (hM.weaken (pend' := fun _ => False) fun y _ h => by simp at h)
          clear hM
          go_wp2_with fail
          go_roundg kk
          case rel =>
            obtain ⟨R, C, Q, P, z1, z2, z3, z4⟩ := HM2.out
            exact ⟨by omega, hw, hb, R, C, Q, P, z1, z3.fr0, z3, z4⟩
          case measure => exact hkg
theorem implTreeWay_bad (st f t : Int) (A : Option Addr) (cap : Nat) (L : List Lg) (w : World) (hL : LegsAt w A L) (hm : L.length ≤ 1099511627776) (h : svB st L = false ∨ (svB st L = true ∧ ixB f st = false) ∨ (svB st L = true ∧ ixB f st = true ∧ ixB t st = false)) :
    Calls Tryd.prog 37 #[.agg #[.int .i64 st, .slice A L.length cap], .int .i64 f, .int .i64 t] w fun r w' => r = .returned (.tuple #[.slice none 0 0, .bool false]) ∧ New w w' := by
  have h1 : New w (w.alloc (Obj.cells #[.int .i64 st, .slice A L.length cap] 25)) := (by repeat (first | with_reducible exact New.refl _ | with_reducible assumption | with_reducible refine New.alloc ?_ _ | with_reducible refine New.drewN ?_ _ | with_reducible refine New.drew ?_ | with_reducible refine New.setCell ?_ (by first | omega | (simp; done) | (simp; omega)) _ | with_reducible refine New.tail (by assumption) ?_))
  have h2 := Has.new w #[.int .i64 st, .slice A L.length cap] 25
  have hL' := hL.keep h1
  rcases h with h | ⟨hv, h⟩ | ⟨hv, hf, h⟩
  · have H := Lib.hid h
    clear h
    go_enter Tryd.func37, Tryd.ntmps37
    go_upto_region 1 with fail
    generalize (w.alloc (Obj.cells #[.int .i64 st, .slice A L.length cap] 25)) = W0 at *
    have c2 := h2.cells2
    clear h2
    go_wp2_with fail
    refine (implSurveyValid_any _ _ _ _ _ hL' hm).mono ?_
    rw [H.out]
    rintro e w1 ⟨rfl, hn1⟩
    go_wp2_with fail
    go_ret2
    exact ⟨rfl, h1.trans hn1⟩
  · have H := Lib.hid h
    have HV := Lib.hid hv
    clear h hv
    go_enter Tryd.func37, Tryd.ntmps37
    go_upto_region 1 with fail
    generalize (w.alloc (Obj.cells #[.int .i64 st, .slice A L.length cap] 25)) = W0 at *
    have c2 := h2.cells2
    clear h2
    go_wp2_with fail
    refine (implSurveyValid_any _ _ _ _ _ hL' hm).mono ?_
    rw [HV.out]
    rintro e w1 ⟨rfl, hn1⟩
    go_wp2_with fail
    refine (isIndex_any _ _ _).mono ?_
    rw [H.out]
    rintro e w2 ⟨rfl, rfl⟩
    go_wp2_with fail
    go_ret2
    exact ⟨rfl, h1.trans hn1⟩
  · have H := Lib.hid h
    have HV := Lib.hid hv
    have HF := Lib.hid hf
    clear h hv hf
    go_enter Tryd.func37, Tryd.ntmps37
    go_upto_region 1 with fail
    generalize (w.alloc (Obj.cells #[.int .i64 st, .slice A L.length cap] 25)) = W0 at *
    have c2 := h2.cells2
    clear h2
    go_wp2_with fail
    refine (implSurveyValid_any _ _ _ _ _ hL' hm).mono ?_
    rw [HV.out]
    rintro e w1 ⟨rfl, hn1⟩
    go_wp2_with fail
    refine (isIndex_any _ _ _).mono ?_
    rw [HF.out]
    rintro e w2 ⟨rfl, rfl⟩
    go_wp2_with fail
    refine (isIndex_any _ _ _).mono ?_
    rw [H.out]
    rintro e w2 ⟨rfl, rfl⟩
    go_wp2_with fail
    go_ret2
    exact ⟨rfl, h1.trans hn1⟩
theorem implTreeWay_any (st f t : Int) (A : Option Addr) (cap : Nat) (L : List Lg) (w : World) (hL : LegsAt w A L) (hm : L.length ≤ 1099511627776) :
    Calls Tryd.prog 37 #[.agg #[.int .i64 st, .slice A L.length cap], .int .i64 f, .int .i64 t] w fun r w' => ∃ B cp, r = .returned (.tuple #[.slice B (twS st L f t).length cp, .bool (twB st L f t)]) ∧ FSteps w w' B (twS st L f t) ∧ New w w' := by
  cases hv : svB st L
  · rw [(tw_sv hv).1, (tw_sv hv).2]
    exact (implTreeWay_bad st f t A cap L w hL hm (.inl hv)).mono fun e w' ⟨h1, h2⟩ => ⟨none, 0, h1, FSteps.nil, h2⟩
  · obtain ⟨n, rfl⟩ := svB_nat hv
    by_cases hin : inS n f ∧ inS n t
    · obtain ⟨h1, h2⟩ := hin
      obtain ⟨f, rfl⟩ := Int.eq_ofNat_of_zero_le h1.1
      obtain ⟨t, rfl⟩ := Int.eq_ofNat_of_zero_le h2.1
      exact implTreeWay_ok n f t A cap L w hL hv (by have := h1.2; omega) (by have := h2.2; omega)
    · have ho := tw_out (st := n) (L := L) (a := f) (b := t) (by simpa using hin)
      rw [ho.1, ho.2]
      refine (implTreeWay_bad n f t A cap L w hL hm ?_).mono fun e w' ⟨h1, h2⟩ => ⟨none, 0, h1, FSteps.nil, h2⟩
      cases hf : ixB f n
      · exact .inr (.inl ⟨hv, rfl⟩)
      · refine .inr (.inr ⟨hv, rfl, ?_⟩)
        cases ht : ixB t n
        · rfl
        · exact absurd ⟨ixB_t.1 hf, ixB_t.1 ht⟩ hin
end Go.Proofs.YtgcloaimolajjaaDoor
