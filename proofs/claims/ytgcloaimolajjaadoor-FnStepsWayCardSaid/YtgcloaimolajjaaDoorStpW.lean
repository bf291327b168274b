/- The contract of l20Steps. -/
import Derived.Test.YtgcloaimolajjaaDoorStp
import Derived.Test.YtgcloaimolajjaaDoorFnS
import Derived.Deep.CutBlock
import Derived.Deep.RegionLaw
import Derived.Test.YtgcloaimolajjaaDoorTw
namespace Go.Proofs.YtgcloaimolajjaaDoor
open Go.RowKit
set_option linter.all false
theorem own_steps {w : World} {base n : Nat} {v : Value} {S : List St} (h : w.ownsRow base 40 2 v n (stC S)) (hne : v ≠ .slice none 0 0) : ∃ g cap, v = .slice (some ⟨g, 0, none⟩) n cap ∧ n ≤ cap ∧ ∀ w', New w w' → ∀ j u, (stC S)[j]? = some u → w'.cell? ((⟨g, 0, none⟩ : Addr).add j) = some u := by
  rcases h.2 with ⟨rfl, h0⟩ | ⟨g, cap, cur, rfl, hg, hh, hc, hm, hs, ht⟩
  · exact absurd rfl hne
  · refine ⟨g, cap, rfl, hc, fun w' hn j u hj => ?_⟩
    have hjl := (List.getElem?_eq_some_iff.1 hj).1
    rw [add_none, Nat.zero_add, Has.cells (cs := cur) (T := 40) hh j w' hn]
    rw [← ht, List.getElem?_take] at hj
    split at hj
    · simpa using hj
    · cases hj
theorem steps_own' {w : World} {base n : Nat} {v : Value} {S : List St} {x : St} (h : w.ownsRow base 40 2 v n (stC S ++ [.int .i64 x.i, .bool x.b])) : ∃ A cap, v = .slice A (S.length + 1) cap ∧ S.length + 1 ≤ cap ∧ StepsAt w A (S ++ [x]) := by
  rw [← stC_snoc] at h
  obtain ⟨A, cap, h1, h2, h3, -⟩ := steps_own h
  rw [List.length_append, List.length_singleton] at h1 h2
  exact ⟨A, cap, h1, h2, h3⟩
theorem stepsOk_n (st : Int) (A B : Option Addr) (cap cb : Nat) (L : List Lg) (S : List St) (n : Nat) (hn : S.length = n) (w : World) (hL : LegsAt w A L) (hS : StepsAt w B S) (hm : L.length ≤ 1099511627776) (hms : n ≤ 1099511627776) :
    Calls Tryd.prog 25 #[.agg #[.int .i64 st, .slice A L.length cap], .slice B n cb] w fun r w' => r = .returned (.bool (soB st L S)) ∧ New w w' := by
  subst hn
  exact specStepsOk_any st A B cap cb L S w hL hS hm hms
theorem two_grown {w w1 : World} {row : Option Nat} (hg : w.grownBy w1 row) {b : Nat} (hr : row ≠ some b) {x y : Value} {T : TypeId} (h : Has w b #[x, y] T) : ∀ j u, [x, y][j]? = some u → w1.cell? ((⟨b, 0, none⟩ : Addr).add j) = some u := by
  have h1 : Has w1 b #[x, y] T := (hg.block b h.lt hr.symm).trans h
  intro j u hj
  rw [add_none, Nat.zero_add, h1.cells j w1 (New.refl _)]
  simpa using hj
set_option maxHeartbeats 4000000 in
set_option maxRecDepth 100000 in
theorem l20StepsW_any (rb b : Nat) (w : World) (hr : Rd w rb b) (hb : b ≤ 1000) :
    Calls Tryd.prog 70 #[.pointer (some ⟨rb, 0, none⟩)] w fun r w' => ∃ (st : Int) (B : Option Addr) (L : List Lg) (cp : Nat) (C : Option Addr) (S : List St) (c : Nat), r = .returned (.tuple #[.agg #[.int .i64 st, .slice B L.length cp], .slice C S.length c]) ∧ (L.length ≤ cp ∧ 0 ≤ st ∧ st ≤ 7 ∧ L.length ≤ 10 ∧ ∀ q ∈ L, smL q) ∧ (S.length ≤ 9 ∧ S.length ≤ c) ∧ LegsAt w' B L ∧ StepsAt w' C S ∧ (∀ p, C = some p → w.heap.size ≤ p.block) ∧ Only rb w w' := by
  obtain ⟨i0, hi, hz, hs, hby⟩ := info_parts infoStep
  have hlt := hr.lt
  have h1 := Has.new w #[.int .i64 0, .slice none 0 0] 25
  have ho := Only.alloc (Only.refl rb w) (Obj.cells #[.int .i64 0, .slice none 0 0] 25)
  have hr1 := hr.keep ((New.refl w).alloc (Obj.cells #[.int .i64 0, .slice none 0 0] 25))
  clear hr
  go_enter Tryd.func70, Tryd.ntmps70
  go_upto_region 1 with fail
  generalize (w.alloc (Obj.cells #[.int .i64 0, .slice none 0 0] 25)) = W0 at *
  go_wp2_with fail
  refine (l20Survey_any rb _ _ _ hr1 (by omega) (by omega)).mono ?_
  rintro _ w2 ⟨st, B, L, cp, rfl, hbd, hL, o2, r2⟩
  have hA2 := h1.only o2 (by omega)
  have hO2 := ho.trans o2
  have hl2 := hA2.lt
  have hlow := hL.low
  clear h1 ho hr1 o2
  go_upto_region 2 with fail
  have hn3 := (New.refl w2).alloc (Obj.cells #[.int .i64 st, .slice B L.length cp] 25)
  have h3 := Has.new w2 #[.int .i64 st, .slice B L.length cp] 25
  have hS : StSt w ((w2.alloc (Obj.cells #[.int .i64 st, .slice B L.length cp] 25)).alloc (.cells #[] 40)) rb (b + 1000) w2.heap.size st B L cp (.slice (some ⟨w2.heap.size + 1, 0, none⟩) 0 0) [] :=
    ⟨(hO2.alloc _).alloc _, (r2.keep hn3).keep ((New.refl _).alloc _), (hA2.alloc _).alloc _, h3.alloc _, (hL.keep hn3).keep ((New.refl _).alloc _), by
      have := World.ownsRow_made (w := (w2.alloc (Obj.cells #[.int .i64 st, .slice B L.length cp] 25))) (base := w2.heap.size + 1) (e := 40) (size := 2) #[] 0 (by simp) (by simp) rfl
      simpa [stC] using this⟩
  go_upto_region 4 with fail
  clear hA2 hO2 r2 hn3 h3 hL
  generalize ((w2.alloc (Obj.cells #[.int .i64 st, .slice B L.length cp] 25)).alloc (.cells #[] 40)) = W3 at *
  generalize w2.heap.size = g at *
  have hl10 : L.length ≤ 10 := hbd.2.2.2.1
  have hst : 0 ≤ st ∧ st ≤ 7 := ⟨hbd.2.1, hbd.2.2.1⟩
  go_wp2_with fail
  refine (pick_any rb _ _ _ hS.2.1 (by omega) (by omega)).mono ?_
  rintro _ w4 ⟨k0, rfl, k1, k2, o4, r4⟩
  have k3 := k2 (by omega)
  have hS4 := hS.only o4 r4 hlt hl2
  obtain ⟨k, rfl⟩ := Int.eq_ofNat_of_zero_le k1
  clear hS o4 r4 k2 k1
  go_wp2_with fail
  go_loopw [5, 6, 7] (fun v a i wr => ∃ (k : Nat) (S : List St) (at' : Int) (vv : Value), vv = v ∧ k ≤ 8 ∧ i = .int .i64 k ∧ a = .int .i64 at' ∧ S.length + k ≤ 8 ∧ Hid (vv ≠ .slice none 0 0) ∧ StSt w wr rb (b + 2000 + 1000 * (8 - k)) g st B L cp vv S) (fun _ _ i _ => (intOf i).toNat)
  case atStart => exact ⟨k, [], -1, _, rfl, by omega, rfl, rfl, by simp; omega, (fun h => by cases h), hS4.le (by omega)⟩
  case round =>
    obtain ⟨wo, rfl⟩ : ∃ wo : World, wo = wr := ⟨_, rfl⟩
    obtain ⟨k, S, at', vv, rfl, hk8, rfl, rfl, hSk, NN, hS⟩ := hrel
    have c4 := hS.2.2.2.1.at2
    by_cases hk0 : 0 < k
    · have hk0' : (0 : Int) < (k : Int) := by omega
      go_wp2_with fail
      refine (l20Index_any rb _ _ _ _ _ _ hS.2.1 (by omega) (by omega)).mono ?_
      rintro _ w5 ⟨x0, rfl, o5, r5⟩
      have hS5 := hS.only o5 r5 hlt hl2
      clear hS o5 r5 c4
      go_wp2_with fail
      refine (pick_any rb _ _ _ hS5.2.1 (by omega) (by omega)).mono ?_
      rintro _ w6 ⟨y, rfl, -, -, o6, r6⟩
      have hS6 := hS5.only o6 r6 hlt hl2
      clear hS5 o6 r6
      obtain ⟨yb, hyb⟩ : ∃ yb : Bool, (y == 0) = yb := ⟨_, rfl⟩
      go_upto_region 8 with fail
      have hS7 := hS6.new ((New.refl w6).alloc (.cells #[.int .i64 x0, .bool yb] 40))
      have h8 := Has.new w6 #[.int .i64 x0, .bool yb] 40
      have hg8 : g < w6.heap.size := hS6.2.2.2.1.lt
      have hv8 : ∀ k, Value.ownBlock vv = some k → k < w6.heap.size := fun k hk => (hS6.2.2.2.2.2.lt k hk).2
      generalize (w6.alloc (.cells #[.int .i64 x0, .bool yb] 40)) = W7 at *
      generalize w6.heap.size = g8 at *
      clear hS6 hyb
      go_upto_block 2 with fail
      go_cut [9] (fun s9 wx => ∃ (xi : Int) (xb : Bool), Has wx g8 #[.int .i64 xi, .bool xb] 40 ∧ StSt w wx rb (b + 2000 + 1000 * (8 - k) + 500) g st B L cp vv S)
      case first =>
        have hg80 : rb < g8 := by omega
        go_wp2_with fail
        go_loopw [9] (fun i wr => ∃ (j : Nat) (xi : Int) (xb : Bool), j ≤ 2 * L.length ∧ i = .int .i64 j ∧ Has wr g8 #[.int .i64 xi, .bool xb] 40 ∧ StSt w wr rb (b + 2000 + 1000 * (8 - k) + 10 + 10 * j) g st B L cp vv S) (fun i _ => 2 * L.length - (intOf i).toNat)
        case atStart => exact ⟨0, x0, yb, by omega, rfl, h8, hS7.le (by omega)⟩
        case round =>
          obtain ⟨j, xi, xb, hj, rfl, hX, hS⟩ := hrel
          clear hS7 h8
          have d4 := hS.2.2.2.1.at2
          by_cases hjl : j < 2 * L.length
          · have hjl' : (j : Int) < 2 * (L.length : Int) := by omega
            go_wp2_with fail
            refine (pick_any rb _ _ _ hS.2.1 (by omega) (by omega)).mono ?_
            rintro _ wa ⟨y, rfl, y0, y1, oa, ra⟩
            have hSa := hS.only oa ra hlt hl2
            have hXa := hX.only oa (by omega)
            clear hS hX oa ra y1 d4
            by_cases hy : 0 < y
            · have hL0 : 0 < L.length := by omega
              obtain ⟨m, hm⟩ : ∃ m, j % L.length = m := ⟨_, rfl⟩
              have hmL : m < L.length := by rw [← hm]; exact Nat.mod_lt _ hL0
              have e1 : Int.tmod (j : Int) (L.length : Int) = (m : Int) := by rw [← hm]; rfl
              have e2 : (L.length : Int) ≠ 0 := by omega
              have e3 : ((L.length : Int) == 0) = false := by simpa using e2
              have e4 : (0 : Int) ≤ (m : Int) := by omega
              have e5 : (m : Int) < (L.length : Int) := by omega
              clear hm
              obtain ⟨bb, hbb⟩ : ∃ bb : Bool, decide (L.length ≤ j) = bb := ⟨_, rfl⟩
              have d4 := hSa.2.2.2.1.at2
              have d8 := hXa.at2
              go_upto_region 13 with fail
              have hS3 := (hSa.far hlt hl2 (p := ⟨g8, 0, none⟩) (by simpa using hg8) (fun q hq => by have := hv8 q hq; simp; omega) hlow (.int .i64 (m : Int))).far hlt hl2 (p := ⟨g8, 1, none⟩) (by simpa using hg8) (fun q hq => by have := hv8 q hq; simp; omega) hlow (.bool bb)
              have hX3 := hXa.set2 (y0 := .int .i64 (m : Int)) (y1 := .bool bb)
              generalize ((wa.setCell ⟨g8, 0, none⟩ (.int .i64 (m : Int))).setCell ⟨g8, 1, none⟩ (.bool bb)) = W3 at *
              clear hSa hXa d4 d8 hbb
              obtain ⟨bL, oL, f, t, e, nn, u, hA, hg, hc⟩ := hS3.2.2.2.2.1.at_ hmL
              subst hA
              clear hg
              have d4 := hS3.2.2.2.1.at2
              have d8 := hX3.at2
              go_upto_region 14 with fail
              have hS4 := hS3.new ((New.refl W3).alloc (.cells #[.int .i64 f, .int .i64 t, .int .i64 e, .int .i64 nn, .int .i64 u] 34))
              have hX4 := hX3.alloc (.cells #[.int .i64 f, .int .i64 t, .int .i64 e, .int .i64 nn, .int .i64 u] 34)
              have hG4 := Has.new W3 #[.int .i64 f, .int .i64 t, .int .i64 e, .int .i64 nn, .int .i64 u] 34
              generalize (W3.alloc (.cells #[.int .i64 f, .int .i64 t, .int .i64 e, .int .i64 nn, .int .i64 u] 34)) = W4 at *
              generalize W3.heap.size = gl at *
              clear hS3 hX3 d4 d8 hc
              have d8 := hX4.at2
              have dG := hG4.at5
              go_cut [85] (fun s85 wx => ∃ c : Bool, s85 = .bool c ∧ Has wx g8 #[.int .i64 m, .bool bb] 40 ∧ StSt w wx rb (b + 2000 + 1000 * (8 - k) + 10 + 10 * j + 2) g st (some ⟨bL, oL, none⟩) L cp vv S)
              case first =>
                by_cases h0 : at' < 0
                · go_wp2_with fail
                  refine (pick_any rb _ _ _ hS4.2.1 (by omega) (by omega)).mono ?_
                  rintro _ wb ⟨z, rfl, -, -, ob, rb'⟩
                  go_wp2_with fail
                  go_meet
                  exact ⟨_, rfl, hX4.only ob (by omega), hS4.only ob (rb'.le (by omega)) hlt hl2⟩
                · cases bb
                  · by_cases h1 : f = at'
                    · subst h1
                      go_wp2_with fail
                      refine (pick_any rb _ _ _ hS4.2.1 (by omega) (by omega)).mono ?_
                      rintro _ wb ⟨z, rfl, -, -, ob, rb'⟩
                      go_wp2_with fail
                      go_meet
                      exact ⟨_, rfl, hX4.only ob (by omega), hS4.only ob (rb'.le (by omega)) hlt hl2⟩
                    · have h1' : (f == at') = false := by simpa using h1
                      go_wp2_with fail
                      go_meet
                      exact ⟨false, rfl, hX4, hS4.le (by omega)⟩
                  · by_cases h1 : t = at'
                    · subst h1
                      go_wp2_with fail
                      refine (pick_any rb _ _ _ hS4.2.1 (by omega) (by omega)).mono ?_
                      rintro _ wb ⟨z, rfl, -, -, ob, rb'⟩
                      go_wp2_with fail
                      go_meet
                      exact ⟨_, rfl, hX4.only ob (by omega), hS4.only ob (rb'.le (by omega)) hlt hl2⟩
                    · have h1' : (t == at') = false := by simpa using h1
                      go_wp2_with fail
                      go_meet
                      exact ⟨false, rfl, hX4, hS4.le (by omega)⟩
              case rest =>
                obtain ⟨c, rfl, hX5, hS5⟩ := hcut
                clear hX4 hS4 hG4 d8 dG
                cases c
                · go_wp2_with fail
                  go_roundw
                  case rel => exact ⟨j + 1, _, _, by omega, by go_num, hX5, hS5.le (by omega)⟩
                  case measure => simp [intOf]; omega
                · go_wp2_with fail
                  go_meet
                  exact ⟨_, _, hX5, hS5.le (by omega)⟩
            · go_wp2_with fail
              go_meet
              exact ⟨_, _, hXa, hSa.le (by omega)⟩
          · have hjl' : ¬ (j : Int) < 2 * (L.length : Int) := by omega
            go_wp2_with fail
            go_meet
            exact ⟨_, _, hX, hS.le (by omega)⟩
      case rest =>
        clear hS7 h8
        obtain ⟨xi, xb, hX, hS⟩ := hcut
        obtain ⟨W8, hW8⟩ : ∃ W, W = wc := ⟨_, rfl⟩
        subst hW8
        have hg80 : rb < g8 := by omega
        have d8 := hX.at2
        have d4 := hS.2.2.2.1.at2
        obtain ⟨c, hc⟩ : ∃ c, inB xi 0 ((L.length : Int) - 1) = c := ⟨_, rfl⟩
        have HC := Lib.hid hc
        clear hc
        go_wp2_with fail
        refine (l1In_any _ _ _ _).mono ?_
        rw [HC.out]
        rintro _ wd ⟨rfl, rfl⟩
        go_upto_if 92 with fail
        go_cut [6] (fun s6 wx => ∃ a6 : Int, s6 = .int .i64 a6 ∧ wx = W8)
        case first =>
          cases c
          · go_wp2_with fail
            go_meet
            exact ⟨_, rfl, rfl⟩
          · obtain ⟨x1, x2⟩ := inB_t.1 HC.out
            obtain ⟨m, rfl⟩ := Int.eq_ofNat_of_zero_le x1
            have hmL : m < L.length := by omega
            have hmL' : (m : Int) < (L.length : Int) := by omega
            obtain ⟨bL, oL, f, t, e, nn, u, hA, hg, hc⟩ := hS.2.2.2.2.1.at_ hmL
            subst hA
            clear hg
            cases xb
            all_goals
              go_wp2_with fail
              go_meet
              exact ⟨_, rfl, rfl⟩
        case rest =>
          obtain ⟨a6, rfl, hwx⟩ := hcut
          subst hwx
          obtain ⟨W8, rfl⟩ : ∃ W : World, W = wc := ⟨_, rfl⟩
          clear HC
          obtain ⟨gv, cv, hvv, hcv, hnews⟩ := own_steps hS.2.2.2.2.2 NN.out
          subst hvv
          have hLg := hS.2.2.2.2.1
          have hm0 : (W8.alloc (.cells #[] 40)).ownsRow W8.heap.size 40 2 (.slice (some ⟨W8.heap.size, 0, none⟩) 0 0) 0 [] := World.ownsRow_made W8 #[] 0 (Nat.le_refl _) (by simp) rfl
          obtain ⟨so, hso⟩ : ∃ so, soB st L (S ++ [⟨xi, xb⟩]) = so := ⟨_, rfl⟩
          have HSO := Lib.hid hso
          have HSK : Hid (S.length + k ≤ 8) := hSk
          clear hso
          have c8 := fun w' (ho : Only rb W8 w') => (hX.only ho (by omega)).cells2 w' (New.refl w')
          have c4 := fun w' (ho : Only rb W8 w') => (hS.2.2.2.1.only ho (by omega)).cells2 w' (New.refl w')
          have hm1 : ((W8.alloc (.cells #[.int .i64 xi, .bool xb] 40)).alloc (.cells #[] 40)).ownsRow W8.heap.size 40 2 (.slice (some ⟨W8.heap.size + 1, 0, none⟩) 0 0) 0 [] := by
            have := World.ownsRow_made (w := (W8.alloc (.cells #[.int .i64 xi, .bool xb] 40))) (base := W8.heap.size) (e := 40) (size := 2) #[] 0 (by simp) (by simp) rfl
            simpa using this
          clear d8 d4
          go_upto_region 19 with fail
          go_cut [120] (fun s120 wx => ∃ c : Bool, s120 = .bool c ∧ Has wx g8 #[.int .i64 xi, .bool xb] 40 ∧ StSt w wx rb (b + 2000 + 1000 * (8 - k) + 500 + 1) g st B L cp (.slice (some ⟨gv, 0, none⟩) S.length cv) S)
          case first =>
            have hR8 := hS.2.1
            have hx1 : Has ((W8.alloc (.cells #[] 40)).alloc (.cells #[.int .i64 xi, .bool xb] 40)) (W8.heap.size + 1) #[.int .i64 xi, .bool xb] 40 := by simpa using Has.new (W8.alloc (.cells #[] 40)) #[.int .i64 xi, .bool xb] 40
            have hx2 : Has ((W8.alloc (.cells #[.int .i64 xi, .bool xb] 40)).alloc (.cells #[] 40)) W8.heap.size #[.int .i64 xi, .bool xb] 40 := (Has.new W8 #[.int .i64 xi, .bool xb] 40).alloc _
            cases so
            · first | go_region_held3 (fun w' => Only rb W8 w') (first | (refine Only.of_new ?_; (repeat (first | with_reducible exact New.refl _ | with_reducible assumption | with_reducible refine New.alloc ?_ _ | with_reducible refine New.drewN ?_ _ | with_reducible refine New.drew ?_ | with_reducible refine New.setCell ?_ (by first | omega | (simp; done) | (simp; omega)) _ | with_reducible refine New.tail (by assumption) ?_)); done) | exact o4') (first
                | (refine step_own (by rfl) _ _ 35 (by rfl) W8.heap.size 40 i0 (.agg #[.int .i64 0, .bool false]) 2 16 Tryd.underlying35 hi hz hs hby rfl (by decide) _ 0 [] (by rfl) (own_new hm0 (by (first | exact (by repeat (first | with_reducible exact New.refl _ | with_reducible assumption | with_reducible refine New.alloc ?_ _ | with_reducible refine New.drewN ?_ _ | with_reducible refine New.drew ?_ | with_reducible refine New.setCell ?_ (by first | omega | (simp; done) | (simp; omega)) _ | with_reducible refine New.tail (by assumption) ?_)) | exact (New.refl _).drew | exact ((New.refl _).drew).drew))) ⟨gv, 0, none⟩ S.length cv (stC S) (by rfl) (stC_len S) (hnews _ (by repeat (first | with_reducible exact New.refl _ | with_reducible assumption | with_reducible refine New.alloc ?_ _ | with_reducible refine New.drewN ?_ _ | with_reducible refine New.drew ?_ | with_reducible refine New.setCell ?_ (by first | omega | (simp; done) | (simp; omega)) _ | with_reducible refine New.tail (by assumption) ?_))) (stC_one S) (by unfold maxLen; omega) (by omega) (by first | omega | (simp; done) | (simp; omega)) ?_; intro v1 w1 hown1 hgrow1 _; have hn1 : New W8 w1 := New.grown (show New W8 _ from (by repeat (first | with_reducible exact New.refl _ | with_reducible assumption | with_reducible refine New.alloc ?_ _ | with_reducible refine New.drewN ?_ _ | with_reducible refine New.drew ?_ | with_reducible refine New.setCell ?_ (by first | omega | (simp; done) | (simp; omega)) _ | with_reducible refine New.tail (by assumption) ?_))) hgrow1 (fun j hj => (hm0.lt j hj).1))
                | (refine step_own (by rfl) _ _ 35 (by rfl) W8.heap.size 40 i0 (.agg #[.int .i64 0, .bool false]) 2 16 Tryd.underlying35 hi hz hs hby rfl (by decide) _ 0 [] (by rfl) (own_new hm1 (by (first | exact (by repeat (first | with_reducible exact New.refl _ | with_reducible assumption | with_reducible refine New.alloc ?_ _ | with_reducible refine New.drewN ?_ _ | with_reducible refine New.drew ?_ | with_reducible refine New.setCell ?_ (by first | omega | (simp; done) | (simp; omega)) _ | with_reducible refine New.tail (by assumption) ?_)) | exact (New.refl _).drew | exact ((New.refl _).drew).drew))) ⟨gv, 0, none⟩ S.length cv (stC S) (by rfl) (stC_len S) (hnews _ (by repeat (first | with_reducible exact New.refl _ | with_reducible assumption | with_reducible refine New.alloc ?_ _ | with_reducible refine New.drewN ?_ _ | with_reducible refine New.drew ?_ | with_reducible refine New.setCell ?_ (by first | omega | (simp; done) | (simp; omega)) _ | with_reducible refine New.tail (by assumption) ?_))) (stC_one S) (by unfold maxLen; omega) (by omega) (by first | omega | (simp; done) | (simp; omega)) ?_; intro v1 w1 hown1 hgrow1 _; have hn1 : New W8 w1 := New.grown (show New W8 _ from (by repeat (first | with_reducible exact New.refl _ | with_reducible assumption | with_reducible refine New.alloc ?_ _ | with_reducible refine New.drewN ?_ _ | with_reducible refine New.drew ?_ | with_reducible refine New.setCell ?_ (by first | omega | (simp; done) | (simp; omega)) _ | with_reducible refine New.tail (by assumption) ?_))) hgrow1 (fun j hj => (hm1.lt j hj).1))
                | (refine step_own (by rfl) _ _ 35 (by rfl) W8.heap.size 40 i0 (.agg #[.int .i64 0, .bool false]) 2 16 Tryd.underlying35 hi hz hs hby rfl (by decide) _ _ _ (by rfl) (own_new hown1 (by repeat (first | with_reducible exact New.refl _ | with_reducible assumption | with_reducible refine New.alloc ?_ _ | with_reducible refine New.drewN ?_ _ | with_reducible refine New.drew ?_ | with_reducible refine New.setCell ?_ (by first | omega | (simp; done) | (simp; omega)) _ | with_reducible refine New.tail (by assumption) ?_))) ⟨w1.heap.size, 0, none⟩ 1 1 [.int .i64 xi, .bool xb] (by rfl) (by rfl) (two_new _ _ _ _) (stC_one [⟨xi, xb⟩]) (by unfold maxLen; omega) (by omega) (by have := hn1.size; first | omega | (simp; done) | (simp; omega)) ?_; intro v2 w2 hown2 hgrow2 _; have hn2 : New W8 w2 := New.grown (show New W8 _ from (by repeat (first | with_reducible exact New.refl _ | with_reducible assumption | with_reducible refine New.alloc ?_ _ | with_reducible refine New.drewN ?_ _ | with_reducible refine New.drew ?_ | with_reducible refine New.setCell ?_ (by first | omega | (simp; done) | (simp; omega)) _ | with_reducible refine New.tail (by assumption) ?_))) hgrow2 (fun j hj => (hown1.lt j hj).1); obtain ⟨C, c2, hv2, hc2, hSt2⟩ := steps_own' (S := S) (x := ⟨xi, xb⟩) hown2; subst hv2; clear hgrow2 hown2)
                | (refine step_own (by rfl) _ _ 35 (by rfl) W8.heap.size 40 i0 (.agg #[.int .i64 0, .bool false]) 2 16 Tryd.underlying35 hi hz hs hby rfl (by decide) _ _ _ (by rfl) (own_new hown1 (by repeat (first | with_reducible exact New.refl _ | with_reducible assumption | with_reducible refine New.alloc ?_ _ | with_reducible refine New.drewN ?_ _ | with_reducible refine New.drew ?_ | with_reducible refine New.setCell ?_ (by first | omega | (simp; done) | (simp; omega)) _ | with_reducible refine New.tail (by assumption) ?_))) ⟨W8.heap.size + 1, 0, none⟩ 1 1 [.int .i64 xi, .bool xb] (by rfl) (by rfl) (two_grown hgrow1 (by simp [Value.ownBlock]) hx1) (stC_one [⟨xi, xb⟩]) (by unfold maxLen; omega) (by omega) (by have := hn1.size; first | omega | (simp; done) | (simp; omega)) ?_; intro v2 w2 hown2 hgrow2 _; have hn2 : New W8 w2 := New.grown (show New W8 _ from (by repeat (first | with_reducible exact New.refl _ | with_reducible assumption | with_reducible refine New.alloc ?_ _ | with_reducible refine New.drewN ?_ _ | with_reducible refine New.drew ?_ | with_reducible refine New.setCell ?_ (by first | omega | (simp; done) | (simp; omega)) _ | with_reducible refine New.tail (by assumption) ?_))) hgrow2 (fun j hj => (hown1.lt j hj).1); obtain ⟨C, c2, hv2, hc2, hSt2⟩ := steps_own' (S := S) (x := ⟨xi, xb⟩) hown2; subst hv2; clear hgrow2 hown2)
                | (refine step_own (by rfl) _ _ 35 (by rfl) W8.heap.size 40 i0 (.agg #[.int .i64 0, .bool false]) 2 16 Tryd.underlying35 hi hz hs hby rfl (by decide) _ _ _ (by rfl) (own_new hown1 (by repeat (first | with_reducible exact New.refl _ | with_reducible assumption | with_reducible refine New.alloc ?_ _ | with_reducible refine New.drewN ?_ _ | with_reducible refine New.drew ?_ | with_reducible refine New.setCell ?_ (by first | omega | (simp; done) | (simp; omega)) _ | with_reducible refine New.tail (by assumption) ?_))) ⟨W8.heap.size, 0, none⟩ 1 1 [.int .i64 xi, .bool xb] (by rfl) (by rfl) (two_grown hgrow1 (by simp [Value.ownBlock]) hx2) (stC_one [⟨xi, xb⟩]) (by unfold maxLen; omega) (by omega) (by have := hn1.size; first | omega | (simp; done) | (simp; omega)) ?_; intro v2 w2 hown2 hgrow2 _; have hn2 : New W8 w2 := New.grown (show New W8 _ from (by repeat (first | with_reducible exact New.refl _ | with_reducible assumption | with_reducible refine New.alloc ?_ _ | with_reducible refine New.drewN ?_ _ | with_reducible refine New.drew ?_ | with_reducible refine New.setCell ?_ (by first | omega | (simp; done) | (simp; omega)) _ | with_reducible refine New.tail (by assumption) ?_))) hgrow2 (fun j hj => (hown1.lt j hj).1); obtain ⟨C, c2, hv2, hc2, hSt2⟩ := steps_own' (S := S) (x := ⟨xi, xb⟩) hown2; subst hv2; clear hgrow2 hown2)
                | (go_at_call 25; with_reducible refine (stepsOk_n st B C cp c2 L (S ++ [⟨xi, xb⟩]) (S.length + 1) (by simp) _ (hLg.keep (by repeat (first | with_reducible exact New.refl _ | with_reducible assumption | with_reducible refine New.alloc ?_ _ | with_reducible refine New.drewN ?_ _ | with_reducible refine New.drew ?_ | with_reducible refine New.setCell ?_ (by first | omega | (simp; done) | (simp; omega)) _ | with_reducible refine New.tail (by assumption) ?_))) (hSt2.keep (by repeat (first | with_reducible exact New.refl _ | with_reducible assumption | with_reducible refine New.alloc ?_ _ | with_reducible refine New.drewN ?_ _ | with_reducible refine New.drew ?_ | with_reducible refine New.setCell ?_ (by first | omega | (simp; done) | (simp; omega)) _ | with_reducible refine New.tail (by assumption) ?_))) (by omega) (by omega)).mono ?_; rw [HSO.out]; rintro _ w3 ⟨rfl, hn3⟩; have hn3' : New W8 w3 := (by repeat (first | with_reducible exact New.refl _ | with_reducible assumption | with_reducible refine New.alloc ?_ _ | with_reducible refine New.drewN ?_ _ | with_reducible refine New.drew ?_ | with_reducible refine New.setCell ?_ (by first | omega | (simp; done) | (simp; omega)) _ | with_reducible refine New.tail (by assumption) ?_)))
                | (go_at_call 88; with_reducible refine (odd_any rb (b + 2000 + 1000 * (8 - k) + 500) 12 _ (hR8.keep hn3') (by omega) (by omega)).mono ?_; rintro _ w4 ⟨v, rfl, o4, r4⟩; have o4' : Only rb W8 w4 := (Only.of_new hn3').trans o4; have hX4 := (hX.keep hn3').only o4 (by omega); have hS4 := (hS.new hn3').only o4 r4 hlt hl2)) | fail
              all_goals
                go_wp2_with fail
                go_meet
                exact ⟨_, rfl, hX4, hS4⟩
            · go_wp2_with fail
              refine wp_region_held_drew (S := fun w' => Only rb W8 w') (by kernel_rfl) (Only.of_new (by repeat (first | with_reducible exact New.refl _ | with_reducible assumption | with_reducible refine New.alloc ?_ _ | with_reducible refine New.drewN ?_ _ | with_reducible refine New.drew ?_ | with_reducible refine New.setCell ?_ (by first | omega | (simp; done) | (simp; omega)) _ | with_reducible refine New.tail (by assumption) ?_))) (fun hHeld => ?_)
              refine wpAnyH_take (i := 0) (v := ?_) rfl (by kernel_rfl) (by kernel_rfl) (by kernel_rfl) (fun _ _ _ h => h) (Or.inl ⟨by rfl, ?_⟩) (by assumption) ?_; rotate_left; (intro w hSw; (try dsimp only at hSw); go_simp; (try with_reducible rfl)); (try simp only [Act.put, List.setIfInBounds_toArray, List.set_cons_zero, List.set_cons_succ, List.getElem_toArray, List.getElem_cons_zero, List.getElem_cons_succ])
              refine wpAnyH_take (i := 2) (v := ?_) rfl (by kernel_rfl) (by kernel_rfl) (by kernel_rfl) (fun _ _ _ h => h) (Or.inl ⟨by rfl, ?_⟩) (by assumption) ?_; rotate_left; (intro w hSw; (try dsimp only at hSw); go_simp; (try with_reducible rfl)); (try simp only [Act.put, List.setIfInBounds_toArray, List.set_cons_zero, List.set_cons_succ, List.getElem_toArray, List.getElem_cons_zero, List.getElem_cons_succ])
              refine wpAnyH_take (i := 4) (v := ?_) rfl (by kernel_rfl) (by kernel_rfl) (by kernel_rfl) (fun _ _ _ h => h) (Or.inl ⟨by rfl, ?_⟩) (by assumption) ?_; rotate_left; (intro w hSw; (try dsimp only at hSw); go_simp; (try with_reducible rfl)); (try simp only [Act.put, List.setIfInBounds_toArray, List.set_cons_zero, List.set_cons_succ, List.getElem_toArray, List.getElem_cons_zero, List.getElem_cons_succ])
              refine wpAnyH_ready (rs := [1, 5]) (by kernel_rfl) (by simp) ?_
              refine AllReadyH.cons rfl (fun K hK => ?_) (AllReadyH.cons rfl (fun K hK => ?_) AllReadyH.nil)
              · go_simp
                refine hK.out _ _ ?_ (fun hHeld => ?_)
                · show Only rb W8 _
                  exact Only.of_new (by repeat (first | with_reducible exact New.refl _ | with_reducible assumption | with_reducible refine New.alloc ?_ _ | with_reducible refine New.drewN ?_ _ | with_reducible refine New.drew ?_ | with_reducible refine New.setCell ?_ (by first | omega | (simp; done) | (simp; omega)) _ | with_reducible refine New.tail (by assumption) ?_))
                clear hK K
                (try simp only [Act.put, List.setIfInBounds_toArray, List.set_cons_zero, List.set_cons_succ, List.getElem_toArray, List.getElem_cons_zero, List.getElem_cons_succ])
                refine wpAnyH_ready (rs := [3, 5]) (by kernel_rfl) (by simp) ?_
                refine AllReadyH.cons rfl (fun K hK => ?_) (AllReadyH.cons rfl (fun K hK => ?_) AllReadyH.nil)
                · refine step_own (by rfl) _ _ 35 (by rfl) W8.heap.size 40 i0 (.agg #[.int .i64 0, .bool false]) 2 16 Tryd.underlying35 hi hz hs hby rfl (by decide) _ 0 [] (by rfl) (own_new hm0 (by (first | exact (by repeat (first | with_reducible exact New.refl _ | with_reducible assumption | with_reducible refine New.alloc ?_ _ | with_reducible refine New.drewN ?_ _ | with_reducible refine New.drew ?_ | with_reducible refine New.setCell ?_ (by first | omega | (simp; done) | (simp; omega)) _ | with_reducible refine New.tail (by assumption) ?_)) | exact (New.refl _).drew | exact ((New.refl _).drew).drew))) ⟨gv, 0, none⟩ S.length cv (stC S) (by rfl) (stC_len S) (hnews _ (by repeat (first | with_reducible exact New.refl _ | with_reducible assumption | with_reducible refine New.alloc ?_ _ | with_reducible refine New.drewN ?_ _ | with_reducible refine New.drew ?_ | with_reducible refine New.setCell ?_ (by first | omega | (simp; done) | (simp; omega)) _ | with_reducible refine New.tail (by assumption) ?_))) (stC_one S) (by unfold maxLen; omega) (by omega) (by first | omega | (simp; done) | (simp; omega)) ?_; intro v1 w1 hown1 hgrow1 _; have hn1 : New W8 w1 := New.grown (show New W8 _ from (by repeat (first | with_reducible exact New.refl _ | with_reducible assumption | with_reducible refine New.alloc ?_ _ | with_reducible refine New.drewN ?_ _ | with_reducible refine New.drew ?_ | with_reducible refine New.setCell ?_ (by first | omega | (simp; done) | (simp; omega)) _ | with_reducible refine New.tail (by assumption) ?_))) hgrow1 (fun j hj => (hm0.lt j hj).1)
                  refine hK.out _ _ ?_ (fun hHeld => ?_)
                  · show Only rb W8 _
                    exact Only.of_new hn1
                  clear hK K
                  (try simp only [Act.put, List.setIfInBounds_toArray, List.set_cons_zero, List.set_cons_succ, List.getElem_toArray, List.getElem_cons_zero, List.getElem_cons_succ])
                  refine wpAnyH_ready (rs := [5]) (by kernel_rfl) (by simp) ?_
                  refine AllReadyH.cons rfl (fun K hK => ?_) AllReadyH.nil
                  go_simp
                  refine hK.out _ _ ?_ (fun hHeld => ?_)
                  · show Only rb W8 _
                    exact Only.of_new (by repeat (first | with_reducible exact New.refl _ | with_reducible assumption | with_reducible refine New.alloc ?_ _ | with_reducible refine New.drewN ?_ _ | with_reducible refine New.drew ?_ | with_reducible refine New.setCell ?_ (by first | omega | (simp; done) | (simp; omega)) _ | with_reducible refine New.tail (by assumption) ?_))
                  clear hK K
                  (try simp only [Act.put, List.setIfInBounds_toArray, List.set_cons_zero, List.set_cons_succ, List.getElem_toArray, List.getElem_cons_zero, List.getElem_cons_succ])
                  refine wpAnyH_ready (rs := [6]) (by kernel_rfl) (by simp) ?_
                  refine AllReadyH.cons rfl (fun K hK => ?_) AllReadyH.nil
                  refine step_own (by rfl) _ _ 35 (by rfl) W8.heap.size 40 i0 (.agg #[.int .i64 0, .bool false]) 2 16 Tryd.underlying35 hi hz hs hby rfl (by decide) _ _ _ (by rfl) (own_new hown1 (by repeat (first | with_reducible exact New.refl _ | with_reducible assumption | with_reducible refine New.alloc ?_ _ | with_reducible refine New.drewN ?_ _ | with_reducible refine New.drew ?_ | with_reducible refine New.setCell ?_ (by first | omega | (simp; done) | (simp; omega)) _ | with_reducible refine New.tail (by assumption) ?_))) ⟨w1.heap.size, 0, none⟩ 1 1 [.int .i64 xi, .bool xb] (by rfl) (by rfl) (two_new _ _ _ _) (stC_one [⟨xi, xb⟩]) (by unfold maxLen; omega) (by omega) (by have := hn1.size; first | omega | (simp; done) | (simp; omega)) ?_; intro v2 w2 hown2 hgrow2 _; have hn2 : New W8 w2 := New.grown (show New W8 _ from (by repeat (first | with_reducible exact New.refl _ | with_reducible assumption | with_reducible refine New.alloc ?_ _ | with_reducible refine New.drewN ?_ _ | with_reducible refine New.drew ?_ | with_reducible refine New.setCell ?_ (by first | omega | (simp; done) | (simp; omega)) _ | with_reducible refine New.tail (by assumption) ?_))) hgrow2 (fun j hj => (hown1.lt j hj).1); obtain ⟨C, c2, hv2, hc2, hSt2⟩ := steps_own' (S := S) (x := ⟨xi, xb⟩) hown2; subst hv2; clear hgrow2 hown2
                  refine hK.out _ _ ?_ (fun hHeld => ?_)
                  · show Only rb W8 _
                    exact Only.of_new hn2
                  clear hK K
                  (try simp only [Act.put, List.setIfInBounds_toArray, List.set_cons_zero, List.set_cons_succ, List.getElem_toArray, List.getElem_cons_zero, List.getElem_cons_succ])
                  refine wpAnyH_ready (rs := [7]) (by kernel_rfl) (by simp) ?_
                  refine AllReadyH.cons rfl (fun K hK => ?_) AllReadyH.nil
                  go_simp
                  go_at_call 25; with_reducible refine (stepsOk_n st B C cp c2 L (S ++ [⟨xi, xb⟩]) (S.length + 1) (by simp) _ (hLg.keep (by repeat (first | with_reducible exact New.refl _ | with_reducible assumption | with_reducible refine New.alloc ?_ _ | with_reducible refine New.drewN ?_ _ | with_reducible refine New.drew ?_ | with_reducible refine New.setCell ?_ (by first | omega | (simp; done) | (simp; omega)) _ | with_reducible refine New.tail (by assumption) ?_))) (hSt2.keep (by repeat (first | with_reducible exact New.refl _ | with_reducible assumption | with_reducible refine New.alloc ?_ _ | with_reducible refine New.drewN ?_ _ | with_reducible refine New.drew ?_ | with_reducible refine New.setCell ?_ (by first | omega | (simp; done) | (simp; omega)) _ | with_reducible refine New.tail (by assumption) ?_))) (by omega) (by omega)).mono ?_; rw [HSO.out]; rintro _ w3 ⟨rfl, hn3⟩; have hn3' : New W8 w3 := (by repeat (first | with_reducible exact New.refl _ | with_reducible assumption | with_reducible refine New.alloc ?_ _ | with_reducible refine New.drewN ?_ _ | with_reducible refine New.drew ?_ | with_reducible refine New.setCell ?_ (by first | omega | (simp; done) | (simp; omega)) _ | with_reducible refine New.tail (by assumption) ?_))
                  (try dsimp only)
                  refine hK.out _ _ ?_ (fun hHeld => ?_)
                  · show Only rb W8 _
                    exact Only.of_new hn3'
                  clear hK K
                  (try simp only [Act.put, List.setIfInBounds_toArray, List.set_cons_zero, List.set_cons_succ, List.getElem_toArray, List.getElem_cons_zero, List.getElem_cons_succ])
                  refine wpAnyH_take (i := 8) (v := ?_) rfl (by kernel_rfl) (by kernel_rfl) (by kernel_rfl) (fun _ _ _ h => h) (Or.inl ⟨by rfl, ?_⟩) (by assumption) ?_; rotate_left; (intro w hSw; (try dsimp only at hSw); go_simp; (try with_reducible rfl)); (try simp only [Act.put, List.setIfInBounds_toArray, List.set_cons_zero, List.set_cons_succ, List.getElem_toArray, List.getElem_cons_zero, List.getElem_cons_succ])
                  refine wpAnyH_take (i := 9) rfl (by kernel_rfl) (by kernel_rfl) (by kernel_rfl) (fun _ _ _ h => h) (Or.inr ⟨by rfl, rfl⟩) (by assumption) ?_; (try simp only [Act.put, List.setIfInBounds_toArray, List.set_cons_zero, List.set_cons_succ, List.getElem_toArray, List.getElem_cons_zero, List.getElem_cons_succ])
                  refine wpAnyH_take (i := 10) rfl (by kernel_rfl) (by kernel_rfl) (by kernel_rfl) (fun _ _ _ h => h) (Or.inr ⟨by rfl, rfl⟩) (by assumption) ?_; (try simp only [Act.put, List.setIfInBounds_toArray, List.set_cons_zero, List.set_cons_succ, List.getElem_toArray, List.getElem_cons_zero, List.getElem_cons_succ])
                  refine wpAnyH_take (i := 11) (v := ?_) rfl (by kernel_rfl) (by kernel_rfl) (by kernel_rfl) (fun _ _ _ h => h) (Or.inl ⟨by rfl, ?_⟩) (by assumption) ?_; rotate_left; (intro w hSw; (try dsimp only at hSw); go_simp; (try with_reducible rfl)); (try simp only [Act.put, List.setIfInBounds_toArray, List.set_cons_zero, List.set_cons_succ, List.getElem_toArray, List.getElem_cons_zero, List.getElem_cons_succ])
                  refine wpAnyH_done (by kernel_rfl) ?_ _
                  go_wp2_with fail
                  go_meet
                  exact ⟨_, rfl, hX.keep hn3', (hS.new hn3').le (by omega)⟩
                · go_simp
                  refine hK.out _ _ ?_ (fun hHeld => ?_)
                  · show Only rb W8 _
                    exact Only.of_new (by repeat (first | with_reducible exact New.refl _ | with_reducible assumption | with_reducible refine New.alloc ?_ _ | with_reducible refine New.drewN ?_ _ | with_reducible refine New.drew ?_ | with_reducible refine New.setCell ?_ (by first | omega | (simp; done) | (simp; omega)) _ | with_reducible refine New.tail (by assumption) ?_))
                  clear hK K
                  (try simp only [Act.put, List.setIfInBounds_toArray, List.set_cons_zero, List.set_cons_succ, List.getElem_toArray, List.getElem_cons_zero, List.getElem_cons_succ])
                  refine wpAnyH_ready (rs := [3]) (by kernel_rfl) (by simp) ?_
                  refine AllReadyH.cons rfl (fun K hK => ?_) AllReadyH.nil
                  refine step_own (by rfl) _ _ 35 (by rfl) W8.heap.size 40 i0 (.agg #[.int .i64 0, .bool false]) 2 16 Tryd.underlying35 hi hz hs hby rfl (by decide) _ 0 [] (by rfl) (own_new hm0 (by (first | exact (by repeat (first | with_reducible exact New.refl _ | with_reducible assumption | with_reducible refine New.alloc ?_ _ | with_reducible refine New.drewN ?_ _ | with_reducible refine New.drew ?_ | with_reducible refine New.setCell ?_ (by first | omega | (simp; done) | (simp; omega)) _ | with_reducible refine New.tail (by assumption) ?_)) | exact (New.refl _).drew | exact ((New.refl _).drew).drew))) ⟨gv, 0, none⟩ S.length cv (stC S) (by rfl) (stC_len S) (hnews _ (by repeat (first | with_reducible exact New.refl _ | with_reducible assumption | with_reducible refine New.alloc ?_ _ | with_reducible refine New.drewN ?_ _ | with_reducible refine New.drew ?_ | with_reducible refine New.setCell ?_ (by first | omega | (simp; done) | (simp; omega)) _ | with_reducible refine New.tail (by assumption) ?_))) (stC_one S) (by unfold maxLen; omega) (by omega) (by first | omega | (simp; done) | (simp; omega)) ?_; intro v1 w1 hown1 hgrow1 _; have hn1 : New W8 w1 := New.grown (show New W8 _ from (by repeat (first | with_reducible exact New.refl _ | with_reducible assumption | with_reducible refine New.alloc ?_ _ | with_reducible refine New.drewN ?_ _ | with_reducible refine New.drew ?_ | with_reducible refine New.setCell ?_ (by first | omega | (simp; done) | (simp; omega)) _ | with_reducible refine New.tail (by assumption) ?_))) hgrow1 (fun j hj => (hm0.lt j hj).1)
                  refine hK.out _ _ ?_ (fun hHeld => ?_)
                  · show Only rb W8 _
                    exact Only.of_new hn1
                  clear hK K
                  (try simp only [Act.put, List.setIfInBounds_toArray, List.set_cons_zero, List.set_cons_succ, List.getElem_toArray, List.getElem_cons_zero, List.getElem_cons_succ])
                  refine wpAnyH_ready (rs := [6]) (by kernel_rfl) (by simp) ?_
                  refine AllReadyH.cons rfl (fun K hK => ?_) AllReadyH.nil
                  refine step_own (by rfl) _ _ 35 (by rfl) W8.heap.size 40 i0 (.agg #[.int .i64 0, .bool false]) 2 16 Tryd.underlying35 hi hz hs hby rfl (by decide) _ _ _ (by rfl) (own_new hown1 (by repeat (first | with_reducible exact New.refl _ | with_reducible assumption | with_reducible refine New.alloc ?_ _ | with_reducible refine New.drewN ?_ _ | with_reducible refine New.drew ?_ | with_reducible refine New.setCell ?_ (by first | omega | (simp; done) | (simp; omega)) _ | with_reducible refine New.tail (by assumption) ?_))) ⟨W8.heap.size + 1, 0, none⟩ 1 1 [.int .i64 xi, .bool xb] (by rfl) (by rfl) (two_grown hgrow1 (by simp [Value.ownBlock]) hx1) (stC_one [⟨xi, xb⟩]) (by unfold maxLen; omega) (by omega) (by have := hn1.size; first | omega | (simp; done) | (simp; omega)) ?_; intro v2 w2 hown2 hgrow2 _; have hn2 : New W8 w2 := New.grown (show New W8 _ from (by repeat (first | with_reducible exact New.refl _ | with_reducible assumption | with_reducible refine New.alloc ?_ _ | with_reducible refine New.drewN ?_ _ | with_reducible refine New.drew ?_ | with_reducible refine New.setCell ?_ (by first | omega | (simp; done) | (simp; omega)) _ | with_reducible refine New.tail (by assumption) ?_))) hgrow2 (fun j hj => (hown1.lt j hj).1); obtain ⟨C, c2, hv2, hc2, hSt2⟩ := steps_own' (S := S) (x := ⟨xi, xb⟩) hown2; subst hv2; clear hgrow2 hown2
                  refine hK.out _ _ ?_ (fun hHeld => ?_)
                  · show Only rb W8 _
                    exact Only.of_new hn2
                  clear hK K
                  (try simp only [Act.put, List.setIfInBounds_toArray, List.set_cons_zero, List.set_cons_succ, List.getElem_toArray, List.getElem_cons_zero, List.getElem_cons_succ])
                  refine wpAnyH_ready (rs := [7]) (by kernel_rfl) (by simp) ?_
                  refine AllReadyH.cons rfl (fun K hK => ?_) AllReadyH.nil
                  go_simp
                  go_at_call 25; with_reducible refine (stepsOk_n st B C cp c2 L (S ++ [⟨xi, xb⟩]) (S.length + 1) (by simp) _ (hLg.keep (by repeat (first | with_reducible exact New.refl _ | with_reducible assumption | with_reducible refine New.alloc ?_ _ | with_reducible refine New.drewN ?_ _ | with_reducible refine New.drew ?_ | with_reducible refine New.setCell ?_ (by first | omega | (simp; done) | (simp; omega)) _ | with_reducible refine New.tail (by assumption) ?_))) (hSt2.keep (by repeat (first | with_reducible exact New.refl _ | with_reducible assumption | with_reducible refine New.alloc ?_ _ | with_reducible refine New.drewN ?_ _ | with_reducible refine New.drew ?_ | with_reducible refine New.setCell ?_ (by first | omega | (simp; done) | (simp; omega)) _ | with_reducible refine New.tail (by assumption) ?_))) (by omega) (by omega)).mono ?_; rw [HSO.out]; rintro _ w3 ⟨rfl, hn3⟩; have hn3' : New W8 w3 := (by repeat (first | with_reducible exact New.refl _ | with_reducible assumption | with_reducible refine New.alloc ?_ _ | with_reducible refine New.drewN ?_ _ | with_reducible refine New.drew ?_ | with_reducible refine New.setCell ?_ (by first | omega | (simp; done) | (simp; omega)) _ | with_reducible refine New.tail (by assumption) ?_))
                  (try dsimp only)
                  refine hK.out _ _ ?_ (fun hHeld => ?_)
                  · show Only rb W8 _
                    exact Only.of_new hn3'
                  clear hK K
                  (try simp only [Act.put, List.setIfInBounds_toArray, List.set_cons_zero, List.set_cons_succ, List.getElem_toArray, List.getElem_cons_zero, List.getElem_cons_succ])
                  refine wpAnyH_take (i := 8) (v := ?_) rfl (by kernel_rfl) (by kernel_rfl) (by kernel_rfl) (fun _ _ _ h => h) (Or.inl ⟨by rfl, ?_⟩) (by assumption) ?_; rotate_left; (intro w hSw; (try dsimp only at hSw); go_simp; (try with_reducible rfl)); (try simp only [Act.put, List.setIfInBounds_toArray, List.set_cons_zero, List.set_cons_succ, List.getElem_toArray, List.getElem_cons_zero, List.getElem_cons_succ])
                  refine wpAnyH_take (i := 9) rfl (by kernel_rfl) (by kernel_rfl) (by kernel_rfl) (fun _ _ _ h => h) (Or.inr ⟨by rfl, rfl⟩) (by assumption) ?_; (try simp only [Act.put, List.setIfInBounds_toArray, List.set_cons_zero, List.set_cons_succ, List.getElem_toArray, List.getElem_cons_zero, List.getElem_cons_succ])
                  refine wpAnyH_take (i := 10) rfl (by kernel_rfl) (by kernel_rfl) (by kernel_rfl) (fun _ _ _ h => h) (Or.inr ⟨by rfl, rfl⟩) (by assumption) ?_; (try simp only [Act.put, List.setIfInBounds_toArray, List.set_cons_zero, List.set_cons_succ, List.getElem_toArray, List.getElem_cons_zero, List.getElem_cons_succ])
                  refine wpAnyH_take (i := 11) (v := ?_) rfl (by kernel_rfl) (by kernel_rfl) (by kernel_rfl) (fun _ _ _ h => h) (Or.inl ⟨by rfl, ?_⟩) (by assumption) ?_; rotate_left; (intro w hSw; (try dsimp only at hSw); go_simp; (try with_reducible rfl)); (try simp only [Act.put, List.setIfInBounds_toArray, List.set_cons_zero, List.set_cons_succ, List.getElem_toArray, List.getElem_cons_zero, List.getElem_cons_succ])
                  refine wpAnyH_done (by kernel_rfl) ?_ _
                  go_wp2_with fail
                  go_meet
                  exact ⟨_, rfl, hX.keep hn3', (hS.new hn3').le (by omega)⟩
              · go_simp
                refine hK.out _ _ ?_ (fun hHeld => ?_)
                · show Only rb W8 _
                  exact Only.of_new (by repeat (first | with_reducible exact New.refl _ | with_reducible assumption | with_reducible refine New.alloc ?_ _ | with_reducible refine New.drewN ?_ _ | with_reducible refine New.drew ?_ | with_reducible refine New.setCell ?_ (by first | omega | (simp; done) | (simp; omega)) _ | with_reducible refine New.tail (by assumption) ?_))
                clear hK K
                (try simp only [Act.put, List.setIfInBounds_toArray, List.set_cons_zero, List.set_cons_succ, List.getElem_toArray, List.getElem_cons_zero, List.getElem_cons_succ])
                refine wpAnyH_ready (rs := [1]) (by kernel_rfl) (by simp) ?_
                refine AllReadyH.cons rfl (fun K hK => ?_) AllReadyH.nil
                go_simp
                refine hK.out _ _ ?_ (fun hHeld => ?_)
                · show Only rb W8 _
                  exact Only.of_new (by repeat (first | with_reducible exact New.refl _ | with_reducible assumption | with_reducible refine New.alloc ?_ _ | with_reducible refine New.drewN ?_ _ | with_reducible refine New.drew ?_ | with_reducible refine New.setCell ?_ (by first | omega | (simp; done) | (simp; omega)) _ | with_reducible refine New.tail (by assumption) ?_))
                clear hK K
                (try simp only [Act.put, List.setIfInBounds_toArray, List.set_cons_zero, List.set_cons_succ, List.getElem_toArray, List.getElem_cons_zero, List.getElem_cons_succ])
                refine wpAnyH_ready (rs := [3]) (by kernel_rfl) (by simp) ?_
                refine AllReadyH.cons rfl (fun K hK => ?_) AllReadyH.nil
                refine step_own (by rfl) _ _ 35 (by rfl) W8.heap.size 40 i0 (.agg #[.int .i64 0, .bool false]) 2 16 Tryd.underlying35 hi hz hs hby rfl (by decide) _ 0 [] (by rfl) (own_new hm1 (by (first | exact (by repeat (first | with_reducible exact New.refl _ | with_reducible assumption | with_reducible refine New.alloc ?_ _ | with_reducible refine New.drewN ?_ _ | with_reducible refine New.drew ?_ | with_reducible refine New.setCell ?_ (by first | omega | (simp; done) | (simp; omega)) _ | with_reducible refine New.tail (by assumption) ?_)) | exact (New.refl _).drew | exact ((New.refl _).drew).drew))) ⟨gv, 0, none⟩ S.length cv (stC S) (by rfl) (stC_len S) (hnews _ (by repeat (first | with_reducible exact New.refl _ | with_reducible assumption | with_reducible refine New.alloc ?_ _ | with_reducible refine New.drewN ?_ _ | with_reducible refine New.drew ?_ | with_reducible refine New.setCell ?_ (by first | omega | (simp; done) | (simp; omega)) _ | with_reducible refine New.tail (by assumption) ?_))) (stC_one S) (by unfold maxLen; omega) (by omega) (by first | omega | (simp; done) | (simp; omega)) ?_; intro v1 w1 hown1 hgrow1 _; have hn1 : New W8 w1 := New.grown (show New W8 _ from (by repeat (first | with_reducible exact New.refl _ | with_reducible assumption | with_reducible refine New.alloc ?_ _ | with_reducible refine New.drewN ?_ _ | with_reducible refine New.drew ?_ | with_reducible refine New.setCell ?_ (by first | omega | (simp; done) | (simp; omega)) _ | with_reducible refine New.tail (by assumption) ?_))) hgrow1 (fun j hj => (hm1.lt j hj).1)
                refine hK.out _ _ ?_ (fun hHeld => ?_)
                · show Only rb W8 _
                  exact Only.of_new hn1
                clear hK K
                (try simp only [Act.put, List.setIfInBounds_toArray, List.set_cons_zero, List.set_cons_succ, List.getElem_toArray, List.getElem_cons_zero, List.getElem_cons_succ])
                refine wpAnyH_ready (rs := [6]) (by kernel_rfl) (by simp) ?_
                refine AllReadyH.cons rfl (fun K hK => ?_) AllReadyH.nil
                refine step_own (by rfl) _ _ 35 (by rfl) W8.heap.size 40 i0 (.agg #[.int .i64 0, .bool false]) 2 16 Tryd.underlying35 hi hz hs hby rfl (by decide) _ _ _ (by rfl) (own_new hown1 (by repeat (first | with_reducible exact New.refl _ | with_reducible assumption | with_reducible refine New.alloc ?_ _ | with_reducible refine New.drewN ?_ _ | with_reducible refine New.drew ?_ | with_reducible refine New.setCell ?_ (by first | omega | (simp; done) | (simp; omega)) _ | with_reducible refine New.tail (by assumption) ?_))) ⟨W8.heap.size, 0, none⟩ 1 1 [.int .i64 xi, .bool xb] (by rfl) (by rfl) (two_grown hgrow1 (by simp [Value.ownBlock]) hx2) (stC_one [⟨xi, xb⟩]) (by unfold maxLen; omega) (by omega) (by have := hn1.size; first | omega | (simp; done) | (simp; omega)) ?_; intro v2 w2 hown2 hgrow2 _; have hn2 : New W8 w2 := New.grown (show New W8 _ from (by repeat (first | with_reducible exact New.refl _ | with_reducible assumption | with_reducible refine New.alloc ?_ _ | with_reducible refine New.drewN ?_ _ | with_reducible refine New.drew ?_ | with_reducible refine New.setCell ?_ (by first | omega | (simp; done) | (simp; omega)) _ | with_reducible refine New.tail (by assumption) ?_))) hgrow2 (fun j hj => (hown1.lt j hj).1); obtain ⟨C, c2, hv2, hc2, hSt2⟩ := steps_own' (S := S) (x := ⟨xi, xb⟩) hown2; subst hv2; clear hgrow2 hown2
                refine hK.out _ _ ?_ (fun hHeld => ?_)
                · show Only rb W8 _
                  exact Only.of_new hn2
                clear hK K
                (try simp only [Act.put, List.setIfInBounds_toArray, List.set_cons_zero, List.set_cons_succ, List.getElem_toArray, List.getElem_cons_zero, List.getElem_cons_succ])
                refine wpAnyH_ready (rs := [7]) (by kernel_rfl) (by simp) ?_
                refine AllReadyH.cons rfl (fun K hK => ?_) AllReadyH.nil
                go_simp
                go_at_call 25; with_reducible refine (stepsOk_n st B C cp c2 L (S ++ [⟨xi, xb⟩]) (S.length + 1) (by simp) _ (hLg.keep (by repeat (first | with_reducible exact New.refl _ | with_reducible assumption | with_reducible refine New.alloc ?_ _ | with_reducible refine New.drewN ?_ _ | with_reducible refine New.drew ?_ | with_reducible refine New.setCell ?_ (by first | omega | (simp; done) | (simp; omega)) _ | with_reducible refine New.tail (by assumption) ?_))) (hSt2.keep (by repeat (first | with_reducible exact New.refl _ | with_reducible assumption | with_reducible refine New.alloc ?_ _ | with_reducible refine New.drewN ?_ _ | with_reducible refine New.drew ?_ | with_reducible refine New.setCell ?_ (by first | omega | (simp; done) | (simp; omega)) _ | with_reducible refine New.tail (by assumption) ?_))) (by omega) (by omega)).mono ?_; rw [HSO.out]; rintro _ w3 ⟨rfl, hn3⟩; have hn3' : New W8 w3 := (by repeat (first | with_reducible exact New.refl _ | with_reducible assumption | with_reducible refine New.alloc ?_ _ | with_reducible refine New.drewN ?_ _ | with_reducible refine New.drew ?_ | with_reducible refine New.setCell ?_ (by first | omega | (simp; done) | (simp; omega)) _ | with_reducible refine New.tail (by assumption) ?_))
                (try dsimp only)
                refine hK.out _ _ ?_ (fun hHeld => ?_)
                · show Only rb W8 _
                  exact Only.of_new hn3'
                clear hK K
                (try simp only [Act.put, List.setIfInBounds_toArray, List.set_cons_zero, List.set_cons_succ, List.getElem_toArray, List.getElem_cons_zero, List.getElem_cons_succ])
                refine wpAnyH_take (i := 8) (v := ?_) rfl (by kernel_rfl) (by kernel_rfl) (by kernel_rfl) (fun _ _ _ h => h) (Or.inl ⟨by rfl, ?_⟩) (by assumption) ?_; rotate_left; (intro w hSw; (try dsimp only at hSw); go_simp; (try with_reducible rfl)); (try simp only [Act.put, List.setIfInBounds_toArray, List.set_cons_zero, List.set_cons_succ, List.getElem_toArray, List.getElem_cons_zero, List.getElem_cons_succ])
                refine wpAnyH_take (i := 9) rfl (by kernel_rfl) (by kernel_rfl) (by kernel_rfl) (fun _ _ _ h => h) (Or.inr ⟨by rfl, rfl⟩) (by assumption) ?_; (try simp only [Act.put, List.setIfInBounds_toArray, List.set_cons_zero, List.set_cons_succ, List.getElem_toArray, List.getElem_cons_zero, List.getElem_cons_succ])
                refine wpAnyH_take (i := 10) rfl (by kernel_rfl) (by kernel_rfl) (by kernel_rfl) (fun _ _ _ h => h) (Or.inr ⟨by rfl, rfl⟩) (by assumption) ?_; (try simp only [Act.put, List.setIfInBounds_toArray, List.set_cons_zero, List.set_cons_succ, List.getElem_toArray, List.getElem_cons_zero, List.getElem_cons_succ])
                refine wpAnyH_take (i := 11) (v := ?_) rfl (by kernel_rfl) (by kernel_rfl) (by kernel_rfl) (fun _ _ _ h => h) (Or.inl ⟨by rfl, ?_⟩) (by assumption) ?_; rotate_left; (intro w hSw; (try dsimp only at hSw); go_simp; (try with_reducible rfl)); (try simp only [Act.put, List.setIfInBounds_toArray, List.set_cons_zero, List.set_cons_succ, List.getElem_toArray, List.getElem_cons_zero, List.getElem_cons_succ])
                refine wpAnyH_done (by kernel_rfl) ?_ _
                go_wp2_with fail
                go_meet
                exact ⟨_, rfl, hX.keep hn3', (hS.new hn3').le (by omega)⟩
          case rest =>
            obtain ⟨c, rfl, hX9, hS9⟩ := hcut
            clear hX hS hLg hm0 hnews c8 c4
            cases c
            · go_wp2_with fail
              go_roundw
              case rel => exact ⟨k - 1, S, _, _, rfl, by omega, by rw [show ((k - 1 : Nat) : Int) = (k : Int) - 1 by omega], rfl, by omega, NN, hS9.le (by omega)⟩
              case measure => simp [intOf]; omega
            · have d9 := hX9.at2
              have hnA := (New.refl wc).alloc (.cells #[.int .i64 xi, .bool xb] 40)
              have hown := hS9.2.2.2.2.2
              go_wp2_with (at_builtin; refine wpList_append_own _ rfl _ _ 35 rfl (g + 1) 40 i0 (.agg #[.int .i64 0, .bool false]) 2 16 Tryd.underlying35 hi hz hs hby rfl (by decide) _ _ _ rfl (own_new hown hnA) ⟨wc.heap.size, 0, none⟩ 1 1 [.int .i64 xi, .bool xb] rfl rfl (two_new _ _ _ _) (stC_one [⟨xi, xb⟩]) (by unfold maxLen; omega) (by omega) (by have := hS9.2.2.2.1.lt; simp; omega) ?_; intro v' wE hown' hgrow hnil; have hP := (hS9.new hnA).push (x := ⟨xi, xb⟩) hlt hl2 hlow hown' hgrow; clear hown' hgrow)
              go_roundw
              case rel => exact ⟨k - 1, S ++ [⟨xi, xb⟩], _, _, rfl, by omega, by rw [show ((k - 1 : Nat) : Int) = (k : Int) - 1 by omega], rfl, by rw [List.length_append, List.length_singleton]; omega, fun h => by have := (hnil.1 h).2; omega, hP.le (by omega)⟩
              case measure => simp [intOf]; omega
    · have hk0' : ¬ (0 : Int) < (k : Int) := by omega
      have c2 := hS.2.2.1.at2
      obtain ⟨C, c, rfl, hcS, hSt, hCb⟩ := steps_own hS.2.2.2.2.2
      have hA := hS.2.2.1
      have hLg := hS.2.2.2.2.1
      have hO := hS.1
      go_wp2_with fail
      exact bodyPost_ret (v := .tuple #[.agg #[.int .i64 st, .slice B L.length cp], .slice C S.length c]) (by simp [results, Tryd.results70, go_sem, (hA.set2 (y0 := .int .i64 st) (y1 := .slice B L.length cp)).at2]) rfl ⟨st, B, L, cp, C, S, c, rfl, hbd, ⟨by omega, hcS⟩, (hLg.far2 hA 0 _).far2 (by simpa using hA.set 0 (.int .i64 st)) 1 _, (hSt.far (x := ⟨w.heap.size, 0, none⟩) (fun p hp => by have := hCb p hp; simp; omega) _).far (x := ⟨w.heap.size, 1, none⟩) (fun p hp => by have := hCb p hp; simp; omega) _, fun p hp => by have := hCb p hp; omega, (hO.setNew (p := ⟨w.heap.size, 0, none⟩) (by simp) _).setNew (p := ⟨w.heap.size, 1, none⟩) (by simp) _⟩
end Go.Proofs.YtgcloaimolajjaaDoor
