/- The contract of l20Matrix. -/
import Derived.Test.YtmdeekojioeomaaDoorMxA
import Derived.Test.YtmdeekojioeomaaDoorOpen
import Derived.Deep.CutBlock
namespace Go.Proofs.YtmdeekojioeomaaDoor
open Go.RowKit
set_option linter.all false
/-- What l20Matrix makes: at most six rows of at most five ints. -/
def MxOut (w : World) (v : Value) : Prop := ∃ A M c, v = .slice A M.length c ∧ M.length ≤ 6 ∧ M.length ≤ c ∧ (∀ r ∈ M, r.length ≤ 5) ∧ MatAt w A M
def yv (x : Nat) : Int := if x = 0 then -1000 else 1000
theorem two_has {W : World} {b x : Nat} {T : TypeId} (h : Has W b #[.int .i64 (-1000), .int .i64 1000] T) (hx : x < 2) : W.cell? ⟨b, x, none⟩ = some (.int .i64 (yv x)) := by
  rw [h.cells x W (New.refl W)]
  match x, hx with
  | 0, _ => rfl
  | 1, _ => rfl
theorem two_at (W : World) (x : Nat) (hx : x < 2) : (W.alloc (.cells #[.int .i64 (-1000), .int .i64 1000] 3)).cell? ⟨W.heap.size, x, none⟩ = some (.int .i64 (yv x)) := two_has (Has.new W _ _) hx
/-- A row of rows of our own is a matrix. -/
theorem rows_out {w : World} {base : Nat} {v : Value} {rs : List Value} (ho : w.ownsRow base 64 1 v rs.length rs) (h6 : rs.length ≤ 6) (h : ∀ (j : Nat) (u : Value), rs[j]? = some u → ∃ C l c, u = Value.slice C l.length c ∧ l.length ≤ 5 ∧ FI w C l) : MxOut w v := by
  obtain ⟨M, hM, hP⟩ := list_of_all (P := fun i (r : List Int) => ∃ C c, rs[i]? = some (Value.slice C r.length c) ∧ r.length ≤ 5 ∧ FI w C r) rs.length (fun i hi => by
    obtain ⟨C, l, c, e, hl, hf⟩ := h i _ (List.getElem?_eq_getElem hi)
    exact ⟨l, C, c, by rw [List.getElem?_eq_getElem hi, e], hl, hf⟩)
  have hlen : ∀ r ∈ M, r.length ≤ 5 := fun r hr => by
    obtain ⟨k, hk, rfl⟩ := List.getElem_of_mem hr
    obtain ⟨C, c, _, hl, _⟩ := hP k _ (List.getElem?_eq_getElem hk)
    exact hl
  rcases ho.2 with ⟨e, h0⟩ | ⟨g, cap, cur, e, hg, hh, hc, hm, hs, ht⟩
  · exact ⟨none, M, 0, by rw [e, hM, h0], by omega, by omega, hlen, fun hne => absurd (List.eq_nil_of_length_eq_zero (by omega)) hne⟩
  · refine ⟨_, M, cap, by rw [e, hM], by omega, by omega, hlen, fun hne => ⟨g, 0, rfl, Has.lt (cs := cur) (T := 64) hh, fun k r hk => ?_⟩⟩
    obtain ⟨C, c, a, _, b⟩ := hP k r hk
    have hkl := (List.getElem?_eq_some_iff.1 hk).1
    refine ⟨C, c, ?_, b.reads⟩
    rw [Nat.zero_add, Has.cells (cs := cur) (T := 64) hh k w (New.refl w), ← a, ← ht, List.getElem?_take, if_pos (by omega)]
    simp
theorem MxSt.out {w0 w : World} {rb b n : Nat} {v : Value} {rs : List Value} (h : MxSt w0 w rb b n v rs) (h5 : rs.length ≤ 5) (hn : n ≤ 5) : MxOut w v := rows_out h.2.2.1 (by omega) fun j u hj => by
  obtain ⟨C, l, c, e, hl, _, hf⟩ := h.2.2.2 j u hj
  exact ⟨C, l, c, e, by omega, hf⟩
theorem Rd.grown {w w' : World} {rb b : Nat} (r : Rd w rb b) {row : Option Nat} (hg : w.grownBy w' row) (h : ∀ k, row = some k → rb < k) : Rd w' rb b := by
  rcases row with _ | k
  · exact r.keep (New.grown (New.refl w) hg (fun k hk => by cases hk))
  · exact r.only (show Only k w w' from hg) (h k rfl)
set_option maxHeartbeats 4000000 in
set_option maxRecDepth 100000 in
theorem l20Matrix_any (rb b : Nat) (n : Int) (w : World) (hr : Rd w rb b) (hb : b ≤ 1000) (hn : n ≤ 1000) :
    Calls Tryd.prog 36 #[.pointer (some ⟨rb, 0, none⟩), .int .i64 n] w fun r w' => ∃ v, r = .returned v ∧ MxOut w' v ∧ Only rb w w' := by
  obtain ⟨i0, hi, hz, hs, hby⟩ := info_parts infoInt
  obtain ⟨i1, ki, kz, ks, kb⟩ := info_parts infoRow
  have hlt := hr.lt
  go_enter Tryd.func36, Tryd.ntmps36
  go_wp2_with fail
  refine (pick_any rb _ _ _ hr (by omega) (by omega)).mono ?_
  rintro _ w1 ⟨sz, rfl, s0, s1, o1, r1⟩
  have s2 := s1 (by omega)
  obtain ⟨m, rfl⟩ := Int.eq_ofNat_of_zero_le s0
  have hm5 : m ≤ 5 := by omega
  clear s1 s0
  go_wp2_with fail
  refine (pick_any rb _ _ _ r1 (by omega) (by omega)).mono ?_
  rintro _ w2 ⟨wd, rfl, d0, d1, o2, r2⟩
  have d2 := d1 (by omega)
  clear d1
  obtain ⟨wide, hwide⟩ : ∃ x, 2 + wd = x := ⟨_, rfl⟩
  have hw1 : 2 ≤ wide ∧ wide ≤ 14 := by omega
  have o12 := o1.trans o2
  have hz2 : w.heap.size ≤ w2.heap.size := o12.size
  go_upto_region 4 with fail
  have hS : MxSt w2 (w2.alloc (.cells #[] 64)) rb (b + 2) m (.slice (some ⟨w2.heap.size, 0, none⟩) 0 0) [] :=
    ⟨Only.alloc (Only.refl rb w2) _, r2.keep ((New.refl w2).alloc _), World.ownsRow_made w2 #[] 0 (Nat.le_refl _) (by simp) rfl, fun j u hj => by simp at hj⟩
  have hlt2 : rb < w2.heap.size := by omega
  generalize (w2.alloc (.cells #[] 64)) = W2 at *
  try rw [hwide]
  clear hr r1 r2 o1 o2 hwide d0 d2
  go_upto_block 0 with fail
  go_cut [7, 8, 9, 10] (fun s7 s8 s9 s10 wx => ∃ rs : List Value, rs.length = m ∧ MxSt w2 wx rb (b + 2 + 10 * m) m s7 rs)
  case first =>
    go_wp2_with fail
    go_loopw [7, 8, 9, 10] (fun v i _ _ wr => ∃ (k : Nat) (vv : Value) (rs : List Value), vv = v ∧ k ≤ m ∧ i = .int .i64 k ∧ rs.length = k ∧ MxSt w2 wr rb (b + 2 + 10 * k) m vv rs) (fun _ i _ _ _ => m - (intOf i).toNat)
    case atStart => exact ⟨0, _, [], rfl, Nat.zero_le _, rfl, rfl, hS.le (by omega)⟩
    case round =>
      obtain ⟨wo, rfl⟩ : ∃ wo : World, wo = wr := ⟨_, rfl⟩
      obtain ⟨k, vv, rs, rfl, hk, rfl, hrs, hS⟩ := hrel
      by_cases hkm : k < m
      · have hkm' : (k : Int) < (m : Int) := by omega
        go_upto_region 8 with fail
        have hrow : (wo.alloc (.cells #[] 3)).ownsRow wo.heap.size 3 1 (.slice (some ⟨wo.heap.size, 0, none⟩) 0 0) 0 (([] : List Int).map (Value.int .i64)) := World.ownsRow_made wo #[] 0 (Nat.le_refl _) (by simp) rfl
        have hgw : rb < wo.heap.size := hS.2.1.lt
        have hO7 : Only rb wo (wo.alloc (.cells #[] 3)) := Only.alloc (Only.refl rb wo) _
        have hR7 := hS.2.1.keep ((New.refl wo).alloc (.cells #[] 3))
        generalize (wo.alloc (.cells #[] 3)) = W7 at *
        have hbase : w2.heap.size ≤ wo.heap.size := hS.1.size
        go_wp2_with fail
        go_loopw [9, 10] (fun v i wr => ∃ (j : Nat) (rv : Value) (l : List Int), rv = v ∧ j ≤ m ∧ i = .int .i64 j ∧ l.length = j ∧ Only rb wo wr ∧ Rd wr rb (b + 2 + 10 * k + j) ∧ wr.ownsRow wo.heap.size 3 1 rv j (l.map (Value.int .i64))) (fun _ i _ => m - (intOf i).toNat)
        case atStart => exact ⟨0, _, [], rfl, Nat.zero_le _, rfl, rfl, hO7, hR7.le (by omega), hrow⟩
        case round =>
          obtain ⟨j, rv, l, rfl, hj, rfl, hl, hO, hR, hown⟩ := hrel
          clear hrow hO7 hR7
          by_cases hjm : j < m
          · have hjm' : (j : Int) < (m : Int) := by omega
            go_wp2_with fail
            refine (pick_any rb _ _ _ hR (by omega) (by omega)).mono ?_
            rintro _ w9 ⟨x, rfl, -, -, o9, r9⟩
            have hown9 := own_only hown o9 hgw
            have hO9 := hO.trans o9
            have hzg := hO9.size
            clear hown hO hR o9
            obtain ⟨y, hy⟩ : ∃ y, IntKind.i64.wrap (x - wide) = y := ⟨_, rfl⟩
            have hnA := (New.refl w9).alloc (.cells #[.int .i64 y] 3)
            go_wp2_with (at_builtin; refine wpList_append_own _ rfl _ _ 64 rfl wo.heap.size 3 i0 (.int .i64 0) 1 8 Tryd.underlying64 hi hz hs hby rfl (by decide) _ _ _ rfl (own_new hown9 hnA) ⟨w9.heap.size, 0, none⟩ 1 1 [.int .i64 y] rfl rfl (one_new _ _ _) (one_oneCell _) (by unfold maxLen; omega) (by omega) (by simp; omega) ?_; intro v' wE hown' hgrow _; have hOE : Only rb wo wE := (hO9.alloc (.cells #[.int .i64 y] 3)).grown hgrow (fun q hq => ((own_new hown9 hnA).lt q hq).1); have hRE := Rd.grown (r9.keep hnA) hgrow (fun q hq => by have := ((own_new hown9 hnA).lt q hq).1; omega); clear hgrow)
            go_roundw
            case rel => exact ⟨j + 1, _, l ++ [y], rfl, by omega, by go_num, by rw [List.length_append, List.length_singleton]; omega, hOE, hRE.le (by omega), by rw [List.map_append]; exact hown'⟩
            case measure => simp [intOf]; omega
          · obtain rfl : j = m := by omega
            obtain ⟨C, cc, hv, -, hf, hcb⟩ := ints_own hown
            rw [hl] at hv
            subst hv
            have hSx := hS.only hlt2 hO hR
            have hnA := (New.refl wr).alloc (.cells #[.slice C j cc] 64)
            have hsz := hSx.1.size
            clear hown hO hR
            go_wp2_with (at_builtin; refine wpList_append_own _ rfl _ _ 38 rfl w2.heap.size 64 i1 (.slice none 0 0) 1 24 Tryd.underlying38 ki kz ks kb rfl (by decide) _ _ _ rfl (own_new hSx.2.2.1 hnA) ⟨wr.heap.size, 0, none⟩ 1 1 [.slice C j cc] rfl rfl (one_new _ _ _) (slice_oneCell _ _ _) (by unfold maxLen; omega) (by omega) (by simp; omega) ?_; intro v' wE hown' hgrow _; have hP := MxSt.push (c := cc) (hSx.new hnA) hlt2 hl (fun p hp => Nat.le_trans hbase (hcb p hp)) (hf.keep hnA) (by rw [hl]; exact hown') hgrow; rw [hl] at hP; clear hown' hgrow)
            go_roundw
            case rel => exact ⟨k + 1, _, rs ++ [.slice C j cc], rfl, by omega, by go_num, by rw [List.length_append, List.length_singleton]; omega, hP.le (by omega)⟩
            case measure => simp [intOf]; omega
      · obtain rfl : k = m := by omega
        go_wp2_with fail
        go_meet
        exact ⟨rs, hrs, hS⟩
  case rest =>
    obtain ⟨rs, hrs, hS⟩ := hcut
    have hoW : Only rb w w2 := o12
    clear o12
    obtain ⟨w3, rfl⟩ : ∃ w3, w3 = wc := ⟨_, rfl⟩
    go_upto_region 13 with fail
    go_cut [48] (fun s48 wx => ∃ c : Bool, s48 = .bool c ∧ (c = true → 1 < m) ∧ MxSt w2 wx rb (b + 53) m u7 rs)
    case first =>
      by_cases hm1 : (1 : Int) < (m : Int)
      · go_wp2_with fail
        refine (pick_any rb _ _ _ hS.2.1 (by omega) (by omega)).mono ?_
        rintro _ w4 ⟨x, rfl, -, -, o4, r4⟩
        go_wp2_with fail
        go_meet
        exact ⟨_, rfl, fun _ => by omega, hS.only hlt2 o4 (r4.le (by omega))⟩
      · go_wp2_with fail
        go_meet
        exact ⟨_, rfl, (fun h => by cases h), hS.le (by omega)⟩
    case rest =>
      obtain ⟨c, rfl, hcm, hS4⟩ := hcut
      clear hS
      obtain ⟨w4, rfl⟩ : ∃ w4, w4 = wc := ⟨_, rfl⟩
      go_upto_if 48 with fail
      go_cut [] (fun wx => ∃ rs' : List Value, rs'.length = m ∧ MxSt w2 wx rb (b + 53) m u7 rs')
      case first =>
        cases c
        · go_wp2_with fail
          go_meet
          exact ⟨rs, hrs, hS4⟩
        · have hm1 : 1 < m := hcm rfl
          obtain ⟨C, l, c0, hr0, hl, hcb, hf⟩ := hS4.2.2.2 0 _ (List.getElem?_eq_getElem (show 0 < rs.length by omega))
          rcases hS4.2.2.1.2 with ⟨_, h0⟩ | ⟨g, cap, cur, hv, hg, hh, hcc, hmm, hss, ht⟩
          · exfalso; omega
          · have hHas : Has w4 g cur 64 := hh
            rcases hf with h | ⟨gC, rfl, hI⟩
            · exfalso; rw [h] at hl; simp at hl; omega
            · rw [hrs] at hv
              subst hv
              have k0 : ∀ w', New w4 w' → w'.cell? ⟨g, 0, none⟩ = some (.slice (some ⟨gC, 0, none⟩) m c0) := fun w' hn => by
                rw [hHas.cells 0 w' hn, ← hl, ← hr0]
                have : (cur.toList.take (rs.length * 1))[0]? = some rs[0] := by rw [ht]; exact List.getElem?_eq_getElem _
                rw [List.getElem?_take, if_pos (by omega)] at this
                simpa using this
              have k1 : ∀ w', New w4 w' → ∃ u, w'.cell? ⟨g, 1, none⟩ = some u := fun w' hn => by
                rw [hHas.cells 1 w' hn, Array.getElem?_eq_getElem (by omega)]
                exact ⟨_, rfl⟩
              have kf := hHas.frees 1
              have hIl : ∀ w', New w4 w' → ∀ j u, (l.map (Value.int .i64))[j]? = some u → w'.cell? ((⟨gC, 0, none⟩ : Addr).add j) = some u := fun w' hn => ints_news (n := 0) fun k x hx => by
                rw [Nat.zero_add]
                exact hI.cell hx w' hn
              have hm0 : (w4.alloc (.cells #[] 3)).ownsRow w4.heap.size 3 1 (.slice (some ⟨w4.heap.size, 0, none⟩) 0 0) 0 [] := World.ownsRow_made w4 #[] 0 (Nat.le_refl _) (by simp) rfl
              have q1 : (1 : Int) < (m : Int) := by omega
              have q0 : (0 : Int) < (m : Int) := by omega
              clear hh
              go_wp2_with (at_builtin; refine wpList_append_own _ rfl _ _ 64 rfl w4.heap.size 3 i0 (.int .i64 0) 1 8 Tryd.underlying64 hi hz hs hby rfl (by decide) _ _ _ rfl hm0 ⟨gC, 0, none⟩ m c0 (l.map (Value.int .i64)) rfl (by simp; omega) (hIl _ ((New.refl w4).alloc _)) (ints_one l) (by unfold maxLen; omega) (by omega) (by simp) ?_; intro v' w5 hown' hgrow _; have hnE : New w4 w5 := ((New.refl w4).alloc (.cells #[] 3)).grown hgrow (fun q hq => (hm0.lt q hq).1); obtain ⟨u1, hu1⟩ := k1 w5 hnE; obtain ⟨C2, c2, hv2, -, hf2, hb2⟩ := ints_own (l := l) (by simpa using hown'); rw [hl] at hv2; subst hv2; clear hgrow hown')
              go_meet
              have hSE := MxSt.set (g := g) (cap := cap) (rs := rs) (k := 1) (c := c2) (by rw [hrs]; exact hS4.new hnE) hlt2 (by omega) hl (fun p hp => Nat.le_trans hS4.1.size (hb2 p hp)) hf2
              rw [hl, hrs] at hSE
              exact ⟨_, by rw [List.length_set]; exact hrs, hSE⟩
      case rest =>
        obtain ⟨rs', hrs', hS5⟩ := hcut
        clear hS4 hcm hrs
        obtain ⟨w5, rfl⟩ : ∃ w5, w5 = wc := ⟨_, rfl⟩
        go_wp2_with fail
        refine (odd_any rb _ n _ hS5.2.1 (by omega) (by omega)).mono ?_
        rintro _ w6 ⟨od, rfl, o6, r6⟩
        have hS6 := hS5.only hlt2 o6 r6
        clear hS5 o6 r6
        cases od
        · go_wp2_with fail
          go_ret
          exact ⟨_, rfl, hS6.out (by omega) hm5, hoW.trans hS6.1⟩
        · go_upto_region 16 with fail
          go_cut [65] (fun s65 wx => ∃ c : Bool, s65 = .bool c ∧ (c = true → 0 < m) ∧ MxSt w2 wx rb (b + 55) m u7 rs')
          case first =>
            by_cases hm1 : (0 : Int) < (m : Int)
            · go_wp2_with fail
              refine (pick_any rb _ _ _ hS6.2.1 (by omega) (by omega)).mono ?_
              rintro _ w7 ⟨x, rfl, -, -, o7, r7⟩
              go_wp2_with fail
              go_meet
              exact ⟨_, rfl, fun _ => by omega, hS6.only hlt2 o7 (r7.le (by omega))⟩
            · go_wp2_with fail
              go_meet
              exact ⟨_, rfl, (fun h => by cases h), hS6.le (by omega)⟩
          case rest =>
            obtain ⟨c, rfl, hcm, hS8⟩ := hcut
            clear hS6
            obtain ⟨w8, rfl⟩ : ∃ w8, w8 = wc := ⟨_, rfl⟩
            cases c
            · have hnA : New w8 ((w8.alloc (.cells #[.int .i64 1] 3)).alloc (.cells #[.slice (some ⟨w8.heap.size, 0, none⟩) 1 1] 64)) := (by repeat (first | with_reducible exact New.refl _ | with_reducible assumption | with_reducible refine New.alloc ?_ _ | with_reducible refine New.drewN ?_ _ | with_reducible refine New.drew ?_ | with_reducible refine New.setCell ?_ (by first | omega | (simp; done) | (simp; omega)) _ | with_reducible refine New.tail (by assumption) ?_))
              have hone := one_new (w8.alloc (.cells #[.int .i64 1] 3)) (.slice (some ⟨w8.heap.size, 0, none⟩) 1 1) 64
              simp only [World.size_alloc] at hone
              have hIA : Ints ((w8.alloc (.cells #[.int .i64 1] 3)).alloc (.cells #[.slice (some ⟨w8.heap.size, 0, none⟩) 1 1] 64)) w8.heap.size [1] := ⟨#[.int .i64 1], (Has.new w8 #[.int .i64 1] 3).alloc _, by simp, fun k x hk => by
                rcases k with _ | k
                · simp at hk; subst hk; rfl
                · simp at hk⟩
              have hsz := hS8.1.size
              clear hcm
              go_wp2_with (at_builtin; refine wpList_append_own _ rfl _ _ 38 rfl w2.heap.size 64 i1 (.slice none 0 0) 1 24 Tryd.underlying38 ki kz ks kb rfl (by decide) _ _ _ rfl (own_new hS8.2.2.1 hnA) ⟨w8.heap.size + 1, 0, none⟩ 1 1 [.slice (some ⟨w8.heap.size, 0, none⟩) 1 1] rfl rfl hone (slice_oneCell _ _ _) (by unfold maxLen; omega) (by omega) (by simp; omega) ?_; intro v' w9 hown' hgrow _)
              have hS8A := hS8.new hnA
              have hO9 : Only rb w2 w9 := hS8A.1.grown hgrow (fun q hq => (hS8A.2.2.1.lt q hq).1)
              have hFI : FI w9 (some ⟨w8.heap.size, 0, none⟩) [1] := FI.grown (.inr ⟨_, rfl, hIA⟩) hS8A.2.2.1 (by decide) hgrow
              have hrows : ∀ (j : Nat) (u : Value), (rs' ++ [Value.slice (some ⟨w8.heap.size, 0, none⟩) 1 1])[j]? = some u → ∃ C l c, u = Value.slice C l.length c ∧ l.length ≤ 5 ∧ FI w9 C l := fun j u hj => by
                rcases Nat.lt_or_ge j rs'.length with h1 | h1
                · rw [List.getElem?_append_left h1] at hj
                  obtain ⟨C', l', c', e, hl', _, hf'⟩ := hS8A.2.2.2 j u hj
                  exact ⟨C', l', c', e, by omega, hf'.grown hS8A.2.2.1 (by decide) hgrow⟩
                · rw [List.getElem?_append_right h1] at hj
                  rcases Nat.eq_or_lt_of_le h1 with h2 | h2
                  · subst h2
                    simp at hj
                    exact ⟨_, [1], 1, hj.symm, by simp, hFI⟩
                  · rw [List.getElem?_eq_none (by simp; omega)] at hj; cases hj
              have hfin : MxOut w9 v' := rows_out (rs := rs' ++ [Value.slice (some ⟨w8.heap.size, 0, none⟩) 1 1]) (by rw [List.length_append, List.length_singleton]; exact hown') (by rw [List.length_append, List.length_singleton]; omega) hrows
              have HF := Lib.hid hfin
              clear hown' hgrow hrows hfin hFI hS8A hone hIA
              go_wp2_with fail
              go_ret
              exact ⟨_, rfl, HF.out, hoW.trans hO9⟩
            · have hm0 : 0 < m := hcm rfl
              obtain ⟨C, l, c0, hr0, hl, hcb, hf⟩ := hS8.2.2.2 0 _ (List.getElem?_eq_getElem (show 0 < rs'.length by omega))
              rcases hS8.2.2.1.2 with ⟨_, h0⟩ | ⟨g, cap, cur, hv, hg, hh, hcc, hmm, hss, ht⟩
              · exfalso; omega
              · have hHas : Has w8 g cur 64 := hh
                rcases hf with h | ⟨gC, rfl, hI⟩
                · exfalso; rw [h] at hl; simp at hl; omega
                · rw [hrs'] at hv
                  subst hv
                  have hgC := hcb _ rfl
                  simp only at hgC
                  have hR8 := hS8.2.1
                  have hl8 := hR8.lt
                  obtain ⟨v0, hv0⟩ : ∃ v0, l[0]? = some v0 := ⟨_, List.getElem?_eq_getElem (by omega)⟩
                  have k0 : ∀ w', Only rb w8 w' → w'.cell? ⟨g, 0, none⟩ = some (.slice (some ⟨gC, 0, none⟩) m c0) ∧ w'.cell? ⟨gC, 0, none⟩ = some (.int .i64 v0) ∧ w'.frozen? ⟨gC, 0, none⟩ = false := fun w' ho => by
                    refine ⟨?_, (hI.only ho (by omega)).cell hv0 w' (New.refl _), (hI.only ho (by omega)).free 0 w' (New.refl _)⟩
                    rw [(hHas.only ho (by omega)).cells 0 w' (New.refl _), ← hl, ← hr0]
                    have : (cur.toList.take (rs'.length * 1))[0]? = some rs'[0] := by rw [ht]; exact List.getElem?_eq_getElem _
                    rw [List.getElem?_take, if_pos (by omega)] at this
                    simpa using this
                  have kn := fun w' (hn : New w8 w') => k0 w' (Only.of_new hn)
                  have q0 : (0 : Int) < (m : Int) := by omega
                  clear hh hHas ht hss hmm hcc hr0 hcm
                  go_upto_region 17 with fail
                  go_cut [] (fun wx => MxSt w2 wx rb (b + 60) m (.slice (some ⟨g, 0, none⟩) m cap) rs')
                  case first =>
                    go_region_law (first | (go_simp; go_at_call 35; with_reducible refine (pick_any rb (b + 55) 2 _ (hR8.keep (by repeat (first | with_reducible exact New.refl _ | with_reducible assumption | with_reducible refine New.alloc ?_ _ | with_reducible refine New.drewN ?_ _ | with_reducible refine New.drew ?_ | with_reducible refine New.setCell ?_ (by first | omega | (simp; done) | (simp; omega)) _ | with_reducible refine New.tail (by assumption) ?_))) (by omega) (by omega)).mono ?_; rintro _ w9 ⟨x, rfl, x0, x1, o9, r9⟩; obtain ⟨xn, rfl⟩ := Int.eq_ofNat_of_zero_le x0; have xl : xn < 2 := (by have := x1 (by omega); omega); have xl2 : (xn : Int) < 2 := (by omega); have o89 : Only rb w8 w9 := (Only.of_new (show New w8 _ from (by repeat (first | with_reducible exact New.refl _ | with_reducible assumption | with_reducible refine New.alloc ?_ _ | with_reducible refine New.drewN ?_ _ | with_reducible refine New.drew ?_ | with_reducible refine New.setCell ?_ (by first | omega | (simp; done) | (simp; omega)) _ | with_reducible refine New.tail (by assumption) ?_)))).trans o9; have k9 := fun w' (hn : New w9 w') => k0 w' (o89.trans (Only.of_new hn)); have hT := fun W => two_at W xn xl; have hS9 := (hS8.new (show New w8 _ from (by repeat (first | with_reducible exact New.refl _ | with_reducible assumption | with_reducible refine New.alloc ?_ _ | with_reducible refine New.drewN ?_ _ | with_reducible refine New.drew ?_ | with_reducible refine New.setCell ?_ (by first | omega | (simp; done) | (simp; omega)) _ | with_reducible refine New.tail (by assumption) ?_)))).only hlt2 o9 r9; have hI9 := hI.only o89 (by omega); (first | (have hh := two_has (Has.only (Has.new _ _ _) o9 (by simp; omega)) xl) | (have hh := two_has (Has.only (Has.new _ _ _).drew o9 (by simp; omega)) xl) | (have hh := two_has (Has.only (Has.new _ _ _).drew.drew o9 (by simp; omega)) xl) | skip)))
                    all_goals
                      go_wp2_with fail
                      go_meet
                      exact (MxSt.put (hS9.new (by repeat (first | with_reducible exact New.refl _ | with_reducible assumption | with_reducible refine New.alloc ?_ _ | with_reducible refine New.drewN ?_ _ | with_reducible refine New.drew ?_ | with_reducible refine New.setCell ?_ (by first | omega | (simp; done) | (simp; omega)) _ | with_reducible refine New.tail (by assumption) ?_))) hlt2 hgC (hI9.keep (by repeat (first | with_reducible exact New.refl _ | with_reducible assumption | with_reducible refine New.alloc ?_ _ | with_reducible refine New.drewN ?_ _ | with_reducible refine New.drew ?_ | with_reducible refine New.setCell ?_ (by first | omega | (simp; done) | (simp; omega)) _ | with_reducible refine New.tail (by assumption) ?_)))).le (by omega)
                  case rest =>
                    go_wp2_with fail
                    go_ret
                    exact ⟨_, rfl, hcut.out (by omega) hm5, hoW.trans hcut.1⟩
end Go.Proofs.YtmdeekojioeomaaDoor
