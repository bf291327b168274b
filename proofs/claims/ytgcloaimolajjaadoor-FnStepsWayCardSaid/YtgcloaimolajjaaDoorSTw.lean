/- Contracts of l1Find and TreeWay (reference). -/
import Derived.Test.YtgcloaimolajjaaDoorTwP
import Derived.Test.YtgcloaimolajjaaDoorBfsM
namespace Go.Proofs.YtgcloaimolajjaaDoor
open Go.RowKit
set_option linter.all false
theorem StepBlk.news {w : World} {g : Nat} {S : List St} (h : StepBlk w g S) : ∀ j u, (stC S)[j]? = some u → w.cell? ((⟨g, 0, none⟩ : Addr).add j) = some u := fun j u hu => by
  have hj := (List.getElem?_eq_some_iff.1 hu).1
  rw [stC_len] at hj
  have hx : S[j / 2]? = some S[j / 2] := List.getElem?_eq_getElem (by omega)
  obtain ⟨c1, c2⟩ := h.cell hx w (New.refl w)
  obtain ⟨s1, s2⟩ := stC_get S _ _ hx
  have ha : (⟨g, 0, none⟩ : Addr).add j = ⟨g, j, none⟩ := by unfold Addr.add; split <;> simp_all
  rw [ha]
  by_cases hp : j % 2 = 0
  · have e : j / 2 * 2 = j := by omega
    rw [e] at c1 s1
    rw [c1, ← s1, hu]
  · have e : j / 2 * 2 + 1 = j := by omega
    rw [e] at c2 s2
    rw [c2, ← s2, hu]
theorem World.ownsRow_one (w : World) (x y : Value) (t : TypeId) : (w.alloc (.cells #[x, y] t)).ownsRow w.heap.size t 2 (.slice (some ⟨w.heap.size, 0, none⟩) 1 1) 1 [x, y] :=
  ⟨rfl, .inr ⟨w.heap.size, 1, #[x, y], rfl, Nat.le_refl _, by show (w.heap.push _)[w.heap.size]? = _; simp, Nat.le_refl _, by unfold maxLen; omega, rfl, rfl⟩⟩
/-- What the search that goes down comes back with. -/
def FoundP (L : List Lg) (T : List Int) (P : List St) (fr too : Int) (w : World) (e : Ending) (w' : World) : Prop :=
  ∃ (g cp : Nat) (S : List St) (ok : Bool), e = .returned (.tuple #[.slice (some ⟨g, 0, none⟩) S.length cp, .bool ok]) ∧ w.heap.size ≤ g ∧ StepBlk w' g S ∧ New w w' ∧ ((ok = true ∧ Wk L T fr S too ∧ ((P ++ S).map St.i).Nodup) ∨ (ok = false ∧ S = [] ∧ Dead L T P fr too))
theorem StepBlk.empty (w : World) : StepBlk (w.alloc (.cells #[] 40)) w.heap.size [] := ⟨_, Has.new _ _ _, by simp, fun k x h => by simp at h⟩
set_option maxRecDepth 100000 in
set_option maxHeartbeats 4000000 in
theorem l1Find_any (n : Nat) (A : Option Addr) (cap : Nat) (L : List Lg) (hv : svB n L = true) (T : List Int) (hT : treeL n L L.length = T) (BT : Option Addr) (cpT : Nat) : ∀ (k : Nat) (P : List St) (s0 fr too but : Int) (w : World), T.length - P.length = k → Tr L T s0 P fr → Came L P but → inS n fr → LegsAt w A L → IntsAt w BT T →
    Calls Tryd.prog 77 #[.agg #[.int .i64 n, .slice A L.length cap], .slice BT T.length cpT, .int .i64 fr, .int .i64 too, .int .i64 but] w fun e w' => FoundP L T P fr too w e w' := by
  intro k
  induction k using Nat.strongRecOn with
  | ind k ih =>
  intro P s0 fr too but w hk hP hbut hfr hL hTT
  obtain ⟨i1, ki, kz, ks, kb⟩ := info_parts infoStep
  obtain ⟨b1, b2, b3, b4⟩ := svB_true hv
  have IH := Lib.hid ih
  have HB := Lib.hid b4
  have HP := Lib.hid hP
  have HC := Lib.hid hbut
  have HK := Lib.hid hk
  have hPot : Hid (Pot L T) := by rw [← hT]; exact pot_tree (legsOk_of hv) _ (Nat.le_refl _)
  have HTm : Hid (∀ i ∈ T, 0 ≤ i ∧ i < L.length) := fun i hi => by rw [← hT] at hi; have := treeL_mem hi; omega
  have HE : Hid (EndsIn L T n) := by rw [← hT]; exact ends_of hv (Nat.le_refl _)
  have hTl : T.length ≤ 9 := by have := treeL_len n L L.length; rw [hT] at this; omega
  have h1 : New w (w.alloc (Obj.cells #[.int .i64 n, .slice A L.length cap] 25)) := (by repeat (first | with_reducible exact New.refl _ | with_reducible assumption | with_reducible refine New.alloc ?_ _ | with_reducible refine New.drewN ?_ _ | with_reducible refine New.drew ?_ | with_reducible refine New.setCell ?_ (by first | omega | (simp; done) | (simp; omega)) _ | with_reducible refine New.tail (by assumption) ?_))
  have h2 := Has.new w #[.int .i64 n, .slice A L.length cap] 25
  have hL' := hL.keep h1
  have hT' := hTT.keep h1
  clear ih b4 hP hbut hk hv hT hL hTT
  by_cases hft : fr = too
  · subst hft
    go_enter Tryd.func77, Tryd.ntmps77
    go_upto_region 1 with fail
    generalize (w.alloc (Obj.cells #[.int .i64 n, .slice A L.length cap] 25)) = W0 at *
    go_wp2_with fail
    go_ret2
    exact ⟨_, _, [], true, rfl, h1.size, StepBlk.empty _, h1.alloc _, .inl ⟨rfl, rfl, by rw [List.append_nil]; exact HP.out.2⟩⟩
  · have hne : (fr == too) = false := by simpa using hft
    go_enter Tryd.func77, Tryd.ntmps77
    go_upto_region 1 with fail
    generalize (w.alloc (Obj.cells #[.int .i64 n, .slice A L.length cap] 25)) = W0 at *
    have c2 := h2.cells2
    clear h2
    go_wp2_with fail
    go_loopw [12] (fun i wr => ∃ m : Nat, m ≤ T.length ∧ i = .int .i64 m ∧ New W0 wr ∧ Hid (DeadTo L T P fr too m)) (fun i _ => T.length - (intOf i).toNat)
    case atStart => exact ⟨0, Nat.zero_le _, rfl, New.refl _, fun m h => absurd h (Nat.not_lt_zero _)⟩
    case round =>
      obtain ⟨m, hm, rfl, hw, HD⟩ := hrel
      by_cases hmT : m < T.length
      · obtain ⟨bT, oT, y, hBT, hTm, cT⟩ := (hT'.keep hw).at_ hmT
        subst hBT
        obtain ⟨m0, m1⟩ := HTm.out y (by rw [← hTm]; exact List.getElem_mem hmT)
        obtain ⟨j, rfl⟩ := Int.eq_ofNat_of_zero_le m0
        have hjl : j < L.length := by omega
        have HTJ := Lib.hid hTm
        have HTG : Hid (T[m]? = some (j : Int)) := by show _ = _; rw [List.getElem?_eq_getElem hmT, hTm]
        have HTI : Hid ((j : Int) ∈ T) := by show _ ∈ T; rw [← hTm]; exact List.getElem_mem hmT
        have hla := legAt_get hjl
        obtain ⟨b, off, f, t, e, nn, u, hA, hg, hc⟩ := (hL'.keep hw).at_ hjl
        rw [hg] at hla
        subst hA
        have hb0 : sBeg L ⟨(j : Int), false⟩ = f := by unfold sBeg; rw [hla]; rfl
        have hb1 : sBeg L ⟨(j : Int), true⟩ = t := by unfold sBeg; rw [hla]; rfl
        have he0 : sEnd L ⟨(j : Int), false⟩ = t := by unfold sEnd; rw [hla]; rfl
        have he1 : sEnd L ⟨(j : Int), true⟩ = f := by unfold sEnd; rw [hla]; rfl
        obtain ⟨in1, in2, in3⟩ := HE.out ⟨(j : Int), false⟩ HTI.out
        rw [hb0] at in1 in3
        rw [he0] at in2 in3
        have HB0 := Lib.hid hb0
        have HB1 := Lib.hid hb1
        have HE0 := Lib.hid he0
        have HE1 := Lib.hid he1
        have hm0 : (0 : Int) ≤ (m : Int) := by omega
        have hm2 : (m : Int) < (T.length : Int) := by omega
        have hj0 : (0 : Int) ≤ (j : Int) := by omega
        have hj1 : (j : Int) < (L.length : Int) := by omega
        have c3 := fun w' (hn : New wr w') => c2 w' (hw.trans hn)
        clear hTm m0 m1 hla hg hb0 hb1 he0 he1 c2
        go_wp2_with fail
        go_region_held3 (fun w' => New wr w') ((repeat (first | with_reducible exact New.refl _ | with_reducible assumption | with_reducible refine New.alloc ?_ _ | with_reducible refine New.drewN ?_ _ | with_reducible refine New.drew ?_ | with_reducible refine New.setCell ?_ (by first | omega | (simp; done) | (simp; omega)) _ | with_reducible refine New.tail (by assumption) ?_))) (fail)
        go_upto_region 7 with fail
        have hX : New wr (wr.alloc (Obj.cells #[.int .i64 f, .int .i64 t, .int .i64 e, .int .i64 nn, .int .i64 u] 34)).drew := (by repeat (first | with_reducible exact New.refl _ | with_reducible assumption | with_reducible refine New.alloc ?_ _ | with_reducible refine New.drewN ?_ _ | with_reducible refine New.drew ?_ | with_reducible refine New.setCell ?_ (by first | omega | (simp; done) | (simp; omega)) _ | with_reducible refine New.tail (by assumption) ?_))
        have hH := (Has.new wr #[.int .i64 f, .int .i64 t, .int .i64 e, .int .i64 nn, .int .i64 u] 34).drew
        obtain ⟨g8, hg8⟩ : ∃ g, wr.heap.size = g := ⟨_, rfl⟩
        rw [hg8] at hH ⊢
        generalize (wr.alloc (Obj.cells #[.int .i64 f, .int .i64 t, .int .i64 e, .int .i64 nn, .int .i64 u] 34)).drew = W1 at *
        have hw1 := hw.trans hX
        have c8 := hH.cells5
        have d3 := fun w' (hn : New W1 w') => c3 w' (hX.trans hn)
        have cT6 := cT
        clear c3 hc cT hH hg8
        by_cases hff : f = fr
        · subst hff
          have t1 : (f == f) = true := by simp
          have t2 : (t == f) = false := by simp; exact fun e => in3 e.symm
          have hno : t ≠ f := fun e => in3 e.symm
          by_cases hnb : t = but
          · subst hnb
            have t3 : (t != t) = false := by simp


            have hdead : DeadTo L T P f too (m + 1) := deadTo_succ HD.out HTG.out fun bb h => by
              cases bb
              · rw [HE0.out]
                exact dead_used (dfs_back hPot.out HP.out HTI.out h HC.out HE0.out (by rw [HE0.out]; exact in2.1))
              · rw [HB1.out] at h; exact absurd h hno
            have HDD := Lib.hid hdead
            clear hdead
            go_wp2_with fail
            go_roundw
            case rel => exact ⟨m + 1, by omega, by go_num, hw1, HDD.out⟩
            case measure => simp [intOf]; omega
          have t3 : (t != but) = true := by simpa using hnb

          have hfresh := dfs_fresh hPot.out HP.out (x := ⟨(j : Int), false⟩) HB0.out HC.out (by rw [HE0.out]; exact hnb)
          have htr := tr_snoc HP.out (x := ⟨(j : Int), false⟩) HTI.out HB0.out hfresh
          rw [HE0.out] at htr
          have hcame : Came L (P ++ [⟨(j : Int), false⟩]) f := .inr ⟨P, ⟨(j : Int), false⟩, rfl, HB0.out⟩
          have hlt : T.length - (P ++ [(⟨(j : Int), false⟩ : St)]).length < k := by
            have h1 := tr_len htr
            have h2 := HK.out
            simp at h1 ⊢
            omega
          have CALL := IH.out _ hlt (P ++ [⟨(j : Int), false⟩]) s0 t too f W1 rfl htr hcame in2 (hL'.keep hw1) (hT'.keep hw1)
          have HCALL := Lib.hid CALL
          clear hfresh htr hcame hlt CALL
          go_wp2_with fail
          refine HCALL.out.mono ?_
          rintro e w6 ⟨g6, cp6, S6, ok, rfl, hg6, hS6, hn6, hres⟩
          have hw6 := hw1.trans hn6
          have Hres := Lib.hid hres
          have d6 := fun w' (hn : New w6 w') => c8 w' (hn6.trans hn)
          have e6 := fun w' (hn : New w6 w') => cT6 w' ((hX.trans hn6).trans hn)
          clear hres HCALL c8 cT6
          cases ok
          · have hdead : DeadTo L T P f too (m + 1) := deadTo_succ HD.out HTG.out fun bb h => by
              rcases Hres.out with ⟨h1, _⟩ | ⟨_, _, h3⟩
              · cases h1
              · cases bb
                · rw [HE0.out]; exact h3
                · rw [HB1.out] at h; exact absurd h hno
            have HDD := Lib.hid hdead
            clear hdead
            go_wp2_with fail
            go_roundw
            case rel => exact ⟨m + 1, by omega, by go_num, hw6, HDD.out⟩
            case measure => simp [intOf]; omega
          · have hres2 : Wk L T t S6 too ∧ (((P ++ [(⟨(j : Int), false⟩ : St)]) ++ S6).map St.i).Nodup := by
              rcases Hres.out with ⟨_, h2, h3⟩ | ⟨h1, _⟩
              · exact ⟨h2, h3⟩
              · cases h1
            have hSl : S6.length ≤ 9 := by
              have h1 : ((P ++ [(⟨(j : Int), false⟩ : St)]) ++ S6).length ≤ T.length := by
                have h0 := nodup_len (l := ((P ++ [(⟨(j : Int), false⟩ : St)]) ++ S6).map St.i) (m := T) hres2.2 fun i hi => by
                  rw [List.mem_map] at hi
                  obtain ⟨x, hx, rfl⟩ := hi
                  rcases List.mem_append.1 hx with hx | hx
                  · rcases List.mem_append.1 hx with hx | hx
                    · exact wk_mem HP.out.1 x hx
                    · simp only [List.mem_singleton] at hx; subst hx; exact HTI.out
                  · exact wk_mem hres2.1 x hx
                simpa using h0
              simp at h1
              omega
            have HR2 := Lib.hid hres2
            have hown := World.ownsRow_one w6 (.int .i64 j) (.bool false) 40
            have hS7 := hS6.keep ((New.refl w6).alloc (Obj.cells #[Value.int .i64 j, .bool false] 40))
            clear hres2 Hres
            go_wp2_with (at_builtin; refine wpList_append_own _ rfl _ _ 35 rfl w6.heap.size 40 i1 (.agg #[.int .i64 0, .bool false]) 2 16 Tryd.underlying35 ki kz ks kb rfl (by decide) _ _ _ rfl hown ⟨g6, 0, none⟩ S6.length cp6 (stC S6) rfl (stC_len S6) hS7.news (stC_one S6) (by unfold maxLen; omega) (by omega) (by simp) ?_; intro v' w7 hown' hgrow hnil)
            have hk7 : New w6 w7 := ((New.refl w6).alloc _).grown hgrow (fun j hj => (hown.lt j hj).1)
            have hE : [Value.int .i64 (j : Int), .bool false] ++ stC S6 = stC (⟨(j : Int), false⟩ :: S6) := (stC_cons S6 ⟨(j : Int), false⟩).symm
            rw [hE] at hown'
            obtain ⟨-, ⟨-, h0⟩ | ⟨g7, c7, hv7, hg7, hS8⟩⟩ := StepBlk.of_own hown'
            · cases h0
            subst hv7
            clear hE hown hown' hgrow hnil
            go_wp2_with fail
            go_ret2
            exact ⟨g7, c7, ⟨(j : Int), false⟩ :: S6, true, rfl, by have := (h1.trans hw6).size; omega, hS8, h1.trans (hw6.trans hk7), .inl ⟨rfl, ⟨HTI.out, HB0.out, by rw [HE0.out]; exact HR2.out.1⟩, by have := HR2.out.2; rwa [List.append_assoc] at this⟩⟩
        · have t1 : (f == fr) = false := by simpa using hff
          by_cases htf : t = fr
          · subst htf
            have t2 : (t == t) = true := by simp
            have hno : f ≠ t := hff
            by_cases hnb : f = but
            · subst hnb
              have t3 : (f != f) = false := by simp


              have hdead : DeadTo L T P t too (m + 1) := deadTo_succ HD.out HTG.out fun bb h => by
                cases bb
                · rw [HB0.out] at h; exact absurd h hno
                · rw [HE1.out]
                  exact dead_used (dfs_back hPot.out HP.out HTI.out h HC.out HE1.out (by rw [HE1.out]; exact in1.1))
              have HDD := Lib.hid hdead
              clear hdead
              go_wp2_with fail
              go_roundw
              case rel => exact ⟨m + 1, by omega, by go_num, hw1, HDD.out⟩
              case measure => simp [intOf]; omega
            have t3 : (f != but) = true := by simpa using hnb

            have hfresh := dfs_fresh hPot.out HP.out (x := ⟨(j : Int), true⟩) HB1.out HC.out (by rw [HE1.out]; exact hnb)
            have htr := tr_snoc HP.out (x := ⟨(j : Int), true⟩) HTI.out HB1.out hfresh
            rw [HE1.out] at htr
            have hcame : Came L (P ++ [⟨(j : Int), true⟩]) t := .inr ⟨P, ⟨(j : Int), true⟩, rfl, HB1.out⟩
            have hlt : T.length - (P ++ [(⟨(j : Int), true⟩ : St)]).length < k := by
              have h1 := tr_len htr
              have h2 := HK.out
              simp at h1 ⊢
              omega
            have CALL := IH.out _ hlt (P ++ [⟨(j : Int), true⟩]) s0 f too t W1 rfl htr hcame in1 (hL'.keep hw1) (hT'.keep hw1)
            have HCALL := Lib.hid CALL
            clear hfresh htr hcame hlt CALL
            go_wp2_with fail
            refine HCALL.out.mono ?_
            rintro e w6 ⟨g6, cp6, S6, ok, rfl, hg6, hS6, hn6, hres⟩
            have hw6 := hw1.trans hn6
            have Hres := Lib.hid hres
            have d6 := fun w' (hn : New w6 w') => c8 w' (hn6.trans hn)
            have e6 := fun w' (hn : New w6 w') => cT6 w' ((hX.trans hn6).trans hn)
            clear hres HCALL c8 cT6
            cases ok
            · have hdead : DeadTo L T P t too (m + 1) := deadTo_succ HD.out HTG.out fun bb h => by
                rcases Hres.out with ⟨h1, _⟩ | ⟨_, _, h3⟩
                · cases h1
                · cases bb
                  · rw [HB0.out] at h; exact absurd h hno
                  · rw [HE1.out]; exact h3
              have HDD := Lib.hid hdead
              clear hdead
              go_wp2_with fail
              go_roundw
              case rel => exact ⟨m + 1, by omega, by go_num, hw6, HDD.out⟩
              case measure => simp [intOf]; omega
            · have hres2 : Wk L T f S6 too ∧ (((P ++ [(⟨(j : Int), true⟩ : St)]) ++ S6).map St.i).Nodup := by
                rcases Hres.out with ⟨_, h2, h3⟩ | ⟨h1, _⟩
                · exact ⟨h2, h3⟩
                · cases h1
              have hSl : S6.length ≤ 9 := by
                have h1 : ((P ++ [(⟨(j : Int), true⟩ : St)]) ++ S6).length ≤ T.length := by
                  have h0 := nodup_len (l := ((P ++ [(⟨(j : Int), true⟩ : St)]) ++ S6).map St.i) (m := T) hres2.2 fun i hi => by
                    rw [List.mem_map] at hi
                    obtain ⟨x, hx, rfl⟩ := hi
                    rcases List.mem_append.1 hx with hx | hx
                    · rcases List.mem_append.1 hx with hx | hx
                      · exact wk_mem HP.out.1 x hx
                      · simp only [List.mem_singleton] at hx; subst hx; exact HTI.out
                    · exact wk_mem hres2.1 x hx
                  simpa using h0
                simp at h1
                omega
              have HR2 := Lib.hid hres2
              have hown := World.ownsRow_one w6 (.int .i64 j) (.bool true) 40
              have hS7 := hS6.keep ((New.refl w6).alloc (Obj.cells #[Value.int .i64 j, .bool true] 40))
              clear hres2 Hres
              go_wp2_with (at_builtin; refine wpList_append_own _ rfl _ _ 35 rfl w6.heap.size 40 i1 (.agg #[.int .i64 0, .bool false]) 2 16 Tryd.underlying35 ki kz ks kb rfl (by decide) _ _ _ rfl hown ⟨g6, 0, none⟩ S6.length cp6 (stC S6) rfl (stC_len S6) hS7.news (stC_one S6) (by unfold maxLen; omega) (by omega) (by simp) ?_; intro v' w7 hown' hgrow hnil)
              have hk7 : New w6 w7 := ((New.refl w6).alloc _).grown hgrow (fun j hj => (hown.lt j hj).1)
              have hE : [Value.int .i64 (j : Int), .bool true] ++ stC S6 = stC (⟨(j : Int), true⟩ :: S6) := (stC_cons S6 ⟨(j : Int), true⟩).symm
              rw [hE] at hown'
              obtain ⟨-, ⟨-, h0⟩ | ⟨g7, c7, hv7, hg7, hS8⟩⟩ := StepBlk.of_own hown'
              · cases h0
              subst hv7
              clear hE hown hown' hgrow hnil
              go_wp2_with fail
              go_ret2
              exact ⟨g7, c7, ⟨(j : Int), true⟩ :: S6, true, rfl, by have := (h1.trans hw6).size; omega, hS8, h1.trans (hw6.trans hk7), .inl ⟨rfl, ⟨HTI.out, HB1.out, by rw [HE1.out]; exact HR2.out.1⟩, by have := HR2.out.2; rwa [List.append_assoc] at this⟩⟩
          · have t2 : (t == fr) = false := by simpa using htf


            have hdead : DeadTo L T P fr too (m + 1) := deadTo_succ HD.out HTG.out fun bb h => by
              cases bb
              · rw [HB0.out] at h; exact absurd h hff
              · rw [HB1.out] at h; exact absurd h htf
            have HDD := Lib.hid hdead
            clear hdead
            go_wp2_with fail
            go_roundw
            case rel => exact ⟨m + 1, by omega, by go_num, hw1, HDD.out⟩
            case measure => simp [intOf]; omega
      · obtain rfl : m = T.length := by omega
        have hd := dead_all hft HD.out
        have HD2 := Lib.hid hd
        clear hd
        go_wp2_with fail
        go_ret2
        exact ⟨_, _, [], false, rfl, by have := (h1.trans hw).size; omega, StepBlk.empty _, (h1.trans hw).alloc _, .inr ⟨rfl, rfl, HD2.out⟩⟩
set_option maxHeartbeats 1000000 in
theorem specTreeWay_ok (n f t : Nat) (A : Option Addr) (cap : Nat) (L : List Lg) (w : World) (hL : LegsAt w A L) (hv : svB n L = true) (hf : f < n) (ht : t < n) :
    Calls Tryd.prog 38 #[.agg #[.int .i64 n, .slice A L.length cap], .int .i64 f, .int .i64 t] w fun r w' => ∃ B cp, r = .returned (.tuple #[.slice B (twS n L f t).length cp, .bool (twB n L f t)]) ∧ FSteps w w' B (twS n L f t) ∧ New w w' := by
  obtain ⟨b1, b2, b3, b4⟩ := svB_true hv
  have h1 : New w (w.alloc (Obj.cells #[.int .i64 n, .slice A L.length cap] 25)) := (by repeat (first | with_reducible exact New.refl _ | with_reducible assumption | with_reducible refine New.alloc ?_ _ | with_reducible refine New.drewN ?_ _ | with_reducible refine New.drew ?_ | with_reducible refine New.setCell ?_ (by first | omega | (simp; done) | (simp; omega)) _ | with_reducible refine New.tail (by assumption) ?_))
  have h2 := Has.new w #[.int .i64 n, .slice A L.length cap] 25
  have hL' := hL.keep h1
  have HV := Lib.hid hv
  have HF : Hid (inB (f : Int) 0 ((n : Int) - 1) = true) := inB_t.2 (by omega)
  have HT : Hid (inB (t : Int) 0 ((n : Int) - 1) = true) := inB_t.2 (by omega)
  have HTok := Lib.hid (fun S (h : IsWay n L f t S) => tw_ok h)
  have HTno := Lib.hid (fun (h : ¬ ∃ S, IsWay n L f t S) => tw_no h)
  have HTT : Hid (tlL n L = treeL n L L.length) := tlL_ok hv
  clear b4 hv
  go_enter Tryd.func38, Tryd.ntmps38
  go_upto_region 1 with fail
  generalize (w.alloc (Obj.cells #[.int .i64 n, .slice A L.length cap] 25)) = W0 at *
  have c2 := h2.cells2
  clear h2
  go_wp2_with fail
  refine (specSurveyValid_any _ _ _ _ _ hL' (by omega)).mono ?_
  rw [HV.out]
  rintro e w1 ⟨rfl, hn1⟩
  go_upto_region 3 with (go_at_call 64; refine (l1In_any _ _ _ _).mono ?_; (first | rw [HF.out] | rw [HT.out]); rintro e w2 ⟨rfl, rfl⟩)
  have hL1 := hL'.keep hn1
  have c3 := fun w' (hn : New w1 w') => c2 w' (hn1.trans hn)
  clear c2
  go_region_held3 (fun w' => New w1 w') ((repeat (first | with_reducible exact New.refl _ | with_reducible assumption | with_reducible refine New.alloc ?_ _ | with_reducible refine New.drewN ?_ _ | with_reducible refine New.drew ?_ | with_reducible refine New.setCell ?_ (by first | omega | (simp; done) | (simp; omega)) _ | with_reducible refine New.tail (by assumption) ?_))) (first
    | (go_at_call 34; refine (specTreeLegs_ok _ _ _ _ _ (hL1.keep (by repeat (first | with_reducible exact New.refl _ | with_reducible assumption | with_reducible refine New.alloc ?_ _ | with_reducible refine New.drewN ?_ _ | with_reducible refine New.drew ?_ | with_reducible refine New.setCell ?_ (by first | omega | (simp; done) | (simp; omega)) _ | with_reducible refine New.tail (by assumption) ?_))) HV.out).mono ?_; rintro e w3 ⟨BT, cpT, rfl, hF, hn3⟩)
    | (go_at_call 77; refine (l1Find_any n A cap L HV.out _ rfl BT cpT _ [] f f t (-1) _ rfl ⟨rfl, List.nodup_nil⟩ (.inl ⟨rfl, rfl⟩) ⟨by omega, by omega⟩ (hL1.keep (by repeat (first | with_reducible exact New.refl _ | with_reducible assumption | with_reducible refine New.alloc ?_ _ | with_reducible refine New.drewN ?_ _ | with_reducible refine New.drew ?_ | with_reducible refine New.setCell ?_ (by first | omega | (simp; done) | (simp; omega)) _ | with_reducible refine New.tail (by assumption) ?_))) (hF.reads.keep (by repeat (first | with_reducible exact New.refl _ | with_reducible assumption | with_reducible refine New.alloc ?_ _ | with_reducible refine New.drewN ?_ _ | with_reducible refine New.drew ?_ | with_reducible refine New.setCell ?_ (by first | omega | (simp; done) | (simp; omega)) _ | with_reducible refine New.tail (by assumption) ?_)))).mono ?_; rintro e w4 ⟨g, cp, S, ok, rfl, hg, hS, hn4, hres⟩))
  have hk4 : New w1 w4 := (by repeat (first | with_reducible exact New.refl _ | with_reducible assumption | with_reducible refine New.alloc ?_ _ | with_reducible refine New.drewN ?_ _ | with_reducible refine New.drew ?_ | with_reducible refine New.setCell ?_ (by first | omega | (simp; done) | (simp; omega)) _ | with_reducible refine New.tail (by assumption) ?_))
  have Hres := Lib.hid hres
  have hz4 := hn4.size
  have hz1 := (h1.trans (hn1.trans hk4)).size
  have hgw : w.heap.size ≤ g := by
    have := h1.size
    have := hn1.size
    first | omega | (have := hn3.size; simp at *; omega)
  clear hres hF
  cases ok
  · obtain ⟨e1, e2⟩ := HTno.out fun ⟨R, hR⟩ => by
      rcases Hres.out with ⟨h, _⟩ | ⟨_, _, h3⟩
      · cases h
      · have h4 := hR.2.2.2
        rw [HTT.out] at h4
        exact h3 R h4.1 h4.2
    have hS0 : S = [] := by
      rcases Hres.out with ⟨h, _⟩ | ⟨_, h2, _⟩
      · cases h
      · exact h2
    subst hS0
    have E1 := Lib.hid e1
    have E2 := Lib.hid e2
    clear e1 e2
    go_wp2_with fail
    simp only [E1.out, E2.out]
    go_ret2
    exact ⟨_, ⟨_, rfl⟩, FSteps.nil, h1.trans (hn1.trans hk4)⟩
  · obtain ⟨e1, e2⟩ := HTok.out S (by
      rcases Hres.out with ⟨_, h2, h3⟩ | ⟨h, _⟩
      · exact ⟨HV.out, ⟨by omega, by simp; omega⟩, ⟨by omega, by simp; omega⟩, by rw [HTT.out]; exact ⟨h2, h3⟩⟩
      · cases h)
    have E1 := Lib.hid e1
    have E2 := Lib.hid e2
    clear e1 e2
    go_wp2_with fail
    simp only [E1.out, E2.out]
    go_ret2
    exact ⟨_, ⟨_, rfl⟩, fun _ => ⟨g, rfl, hgw, hS⟩, h1.trans (hn1.trans hk4)⟩
theorem specTreeWay_bad (st f t : Int) (A : Option Addr) (cap : Nat) (L : List Lg) (w : World) (hL : LegsAt w A L) (hm : L.length ≤ 1099511627776) (h : svB st L = false ∨ (svB st L = true ∧ inB f 0 (st - 1) = false) ∨ (svB st L = true ∧ inB f 0 (st - 1) = true ∧ inB t 0 (st - 1) = false)) :
    Calls Tryd.prog 38 #[.agg #[.int .i64 st, .slice A L.length cap], .int .i64 f, .int .i64 t] w fun r w' => ∃ g, r = .returned (.tuple #[.slice (some ⟨g, 0, none⟩) 0 0, .bool false]) ∧ New w w' := by
  have h1 : New w (w.alloc (Obj.cells #[.int .i64 st, .slice A L.length cap] 25)) := (by repeat (first | with_reducible exact New.refl _ | with_reducible assumption | with_reducible refine New.alloc ?_ _ | with_reducible refine New.drewN ?_ _ | with_reducible refine New.drew ?_ | with_reducible refine New.setCell ?_ (by first | omega | (simp; done) | (simp; omega)) _ | with_reducible refine New.tail (by assumption) ?_))
  have h2 := Has.new w #[.int .i64 st, .slice A L.length cap] 25
  have hL' := hL.keep h1
  rcases h with h | ⟨hv, h⟩ | ⟨hv, hf, h⟩
  · have H := Lib.hid h
    clear h
    go_enter Tryd.func38, Tryd.ntmps38
    go_upto_region 1 with fail
    generalize (w.alloc (Obj.cells #[.int .i64 st, .slice A L.length cap] 25)) = W0 at *
    have c2 := h2.cells2
    clear h2
    go_wp2_with fail
    refine (specSurveyValid_any _ _ _ _ _ hL' hm).mono ?_
    rw [H.out]
    rintro e w1 ⟨rfl, hn1⟩
    go_wp2_with fail
    go_ret2
    exact ⟨_, rfl, (h1.trans hn1).alloc _⟩
  · obtain ⟨b1, b2, b3, b4⟩ := svB_true hv
    have H := Lib.hid h
    have HV := Lib.hid hv
    clear h hv b4
    go_enter Tryd.func38, Tryd.ntmps38
    go_upto_region 1 with fail
    generalize (w.alloc (Obj.cells #[.int .i64 st, .slice A L.length cap] 25)) = W0 at *
    have c2 := h2.cells2
    clear h2
    go_wp2_with fail
    refine (specSurveyValid_any _ _ _ _ _ hL' hm).mono ?_
    rw [HV.out]
    rintro e w1 ⟨rfl, hn1⟩
    go_wp2_with fail
    refine (l1In_any _ _ _ _).mono ?_
    rw [H.out]
    rintro e w2 ⟨rfl, rfl⟩
    go_wp2_with fail
    go_ret2
    exact ⟨_, rfl, (h1.trans hn1).alloc _⟩
  · obtain ⟨b1, b2, b3, b4⟩ := svB_true hv
    have H := Lib.hid h
    have HV := Lib.hid hv
    have HF := Lib.hid hf
    clear h hv hf b4
    go_enter Tryd.func38, Tryd.ntmps38
    go_upto_region 1 with fail
    generalize (w.alloc (Obj.cells #[.int .i64 st, .slice A L.length cap] 25)) = W0 at *
    have c2 := h2.cells2
    clear h2
    go_wp2_with fail
    refine (specSurveyValid_any _ _ _ _ _ hL' hm).mono ?_
    rw [HV.out]
    rintro e w1 ⟨rfl, hn1⟩
    go_wp2_with fail
    refine (l1In_any _ _ _ _).mono ?_
    rw [HF.out]
    rintro e w2 ⟨rfl, rfl⟩
    go_wp2_with fail
    refine (l1In_any _ _ _ _).mono ?_
    rw [H.out]
    rintro e w2 ⟨rfl, rfl⟩
    go_wp2_with fail
    go_ret2
    exact ⟨_, rfl, (h1.trans hn1).alloc _⟩
theorem specTreeWay_any (st f t : Int) (A : Option Addr) (cap : Nat) (L : List Lg) (w : World) (hL : LegsAt w A L) (hm : L.length ≤ 1099511627776) :
    Calls Tryd.prog 38 #[.agg #[.int .i64 st, .slice A L.length cap], .int .i64 f, .int .i64 t] w fun r w' => ∃ B cp, r = .returned (.tuple #[.slice B (twS st L f t).length cp, .bool (twB st L f t)]) ∧ FSteps w w' B (twS st L f t) ∧ New w w' := by
  cases hv : svB st L
  · rw [(tw_sv hv).1, (tw_sv hv).2]
    exact (specTreeWay_bad st f t A cap L w hL hm (.inl hv)).mono fun e w' ⟨g, h1, h2⟩ => ⟨_, 0, h1, FSteps.nil, h2⟩
  · obtain ⟨n, rfl⟩ := svB_nat hv
    by_cases hin : inS n f ∧ inS n t
    · obtain ⟨h1, h2⟩ := hin
      obtain ⟨f, rfl⟩ := Int.eq_ofNat_of_zero_le h1.1
      obtain ⟨t, rfl⟩ := Int.eq_ofNat_of_zero_le h2.1
      exact specTreeWay_ok n f t A cap L w hL hv (by have := h1.2; omega) (by have := h2.2; omega)
    · have ho := tw_out (st := n) (L := L) (a := f) (b := t) (by simpa using hin)
      rw [ho.1, ho.2]
      refine (specTreeWay_bad n f t A cap L w hL hm ?_).mono fun e w' ⟨g, h1, h2⟩ => ⟨_, 0, h1, FSteps.nil, h2⟩
      cases hf : inB f 0 ((n : Int) - 1)
      · exact .inr (.inl ⟨hv, rfl⟩)
      · refine .inr (.inr ⟨hv, rfl, ?_⟩)
        cases ht : inB t 0 ((n : Int) - 1)
        · rfl
        · have h1 := inB_t.1 hf
          have h2 := inB_t.1 ht
          exact absurd ⟨⟨by omega, by omega⟩, ⟨by omega, by omega⟩⟩ hin
end Go.Proofs.YtgcloaimolajjaaDoor
