/- A matrix with a column replaced; contracts of slices.Clone at []int, withColumn (program), l2Column (reference). -/
import Derived.Test.YtmopbghngaeplaaSDet
import Derived.Lib.SliceRun
namespace Go.Proofs.Ytmopbghngaeplaa
open Go.RowKit
set_option linter.all false
/-- M with R as column c. -/
def colM (M : List (List Int)) (c : Nat) (R : List Int) : List (List Int) := List.zipWith (fun r x => r.set c x) M R
theorem colM_length {M : List (List Int)} {c : Nat} {R : List Int} (h : R.length = M.length) : (colM M c R).length = M.length := by unfold colM; rw [List.length_zipWith]; omega
theorem colM_get {M : List (List Int)} {c k : Nat} {R : List Int} (h1 : k < M.length) (h2 : k < R.length) : (colM M c R)[k]? = some (M[k].set c R[k]) := by
  unfold colM
  rw [List.getElem?_zipWith, List.getElem?_eq_getElem h1, List.getElem?_eq_getElem h2]
theorem colM_rows {n c : Nat} {M : List (List Int)} {R : List Int} (hsq : Sq n M) : ∀ r ∈ colM M c R, r.length = n := fun r hr => by
  obtain ⟨k, hk, rfl⟩ := List.getElem_of_mem hr
  unfold colM at hk ⊢
  rw [List.length_zipWith] at hk
  rw [List.getElem_zipWith, List.length_set]
  exact (hsq.2 _ (List.getElem_mem (by omega))).1
set_option maxHeartbeats 1000000 in
theorem clone_any (b off n cap : Nat) (l : List Int) (w : World) (hln : l.length = n) (h : IntsAt w (some ⟨b, off, none⟩) l) (hn0 : 0 < n) (hm : n ≤ 1000) :
    Calls Try.prog 71 #[.slice (some ⟨b, off, none⟩) n cap] w fun e w' => ∃ g q, e = .returned (.slice (some ⟨g, 0, none⟩) n q) ∧ w.heap.size ≤ g ∧ n ≤ q ∧ Ints w' g l ∧ New w w' := by
  obtain ⟨i0, hi, hz, hs, hb⟩ := info_parts infoInt
  obtain ⟨b2, off2, hA, hb2, hr⟩ := h (by intro h0; subst h0; simp at hln; omega)
  have eb : b = b2 ∧ off = off2 := by simpa using hA
  obtain ⟨rfl, rfl⟩ := eb
  have hm0 : (w.alloc (.cells #[] 3)).ownsRow w.heap.size 3 1 (.slice (some ⟨w.heap.size, 0, none⟩) 0 0) 0 [] := World.ownsRow_made w #[] 0 (Nat.le_refl _) (by simp) rfl
  have l1 : (l.map (Value.int .i64)).length = n * 1 := by simp; omega
  have f1 : ∀ w', New w w' → ∀ j u, (l.map (Value.int .i64))[j]? = some u → w'.cell? ((⟨b, off, none⟩ : Addr).add j) = some u := fun w' hn => ints_news (n := 0) fun k x hx => by
    rw [New.cell hn hb2]; exact hr k x hx
  have o1 := ints_one l
  have qT : ∀ (w : World) (a : Option Addr) (n c n' c' : Nat), (binOp .eql 58 (.slice a n c) (.slice none n' c')).run Try.prog w = .ok (.bool a.isNone) w := fun w a n c n' c' => Lib.run_eql_slice_nil w _ _ a n c n' c' Try.underlying58
  clear hr hA
  go_enter Try.func71, Try.ntmps71
  go_wp2_with (at_builtin; refine wpList_append_own _ rfl _ _ 58 rfl w.heap.size 3 i0 (.int .i64 0) 1 8 Try.underlying58 hi hz hs hb rfl (by decide) _ _ _ rfl hm0 ⟨b, off, none⟩ n cap _ rfl l1 (f1 _ ((New.refl w).alloc _)) o1 (by unfold maxLen; omega) (by omega) (by simp) ?_; intro v' w5 hown hgrow _)
  have hnew : New w w5 := ((New.refl w).alloc _).grown hgrow (fun j hj => (hm0.lt j hj).1)
  rw [Nat.zero_add, List.nil_append] at hown
  obtain ⟨g2, q2, hv2, hg2, -⟩ := hown.form hn0
  subst hv2
  have hcap : n ≤ q2 := by
    rcases hown.2 with ⟨h, _⟩ | ⟨g, cap, cur, h, _, _, h4, _⟩
    · cases h
    · cases h; exact h4
  have hI2 : Ints w5 g2 l := by
    obtain ⟨-, ⟨h, _⟩ | ⟨g, cap, h, _, h4⟩⟩ := Ints.of_own hown
    · cases h
    · cases h; exact h4
  clear hown hgrow hm0 o1 f1 l1
  go_wp2_with fail
  go_ret
  exact ⟨g2, q2, rfl, hg2, hcap, hI2, hnew⟩
set_option maxHeartbeats 4000000 in
theorem withColumn_any (A B : Option Addr) (cap capB n c : Nat) (M : List (List Int)) (R : List Int) (w : World) (hsq : Sq n M) (hn : n ≤ 5) (hR : R.length = n) (hc : c < n) (hM : MatAt w A M) (hB : IntsAt w B R) :
    Calls Try.prog 66 #[.slice A n cap, .int .i64 c, .slice B n capB] w fun e w' => ∃ g, e = .returned (.slice (some ⟨g, 0, none⟩) n n) ∧ MatAt w' (some ⟨g, 0, none⟩) (colM M c R) ∧ New w w' := by
  have hmk := makeRows' n (by omega)
  have HSQ := Lib.hid hsq
  have HRL := Lib.hid hR
  have hc0 : (0 : Int) ≤ (c : Int) := by omega
  have hcn : (c : Int) < (n : Int) := by omega
  clear hsq hR
  go_enter Try.func66, Try.ntmps66
  go_wp2_with fail
  go_loopw [15, 8, 9] (fun i _ _ wr => ∃ k : Nat, k ≤ n ∧ i = .int .i64 k ∧ New w wr ∧ w.heap.size < wr.heap.size ∧ ∃ (cs : Array Value), Has wr w.heap.size cs 58 ∧ Hid (cs.size = n) ∧ 
      Hid (∀ j, j < k → ∀ r, (colM M c R)[j]? = some r → ∃ gj q, cs[j]? = some (.slice (some ⟨gj, 0, none⟩) n q) ∧ w.heap.size < gj ∧ Ints wr gj r)) (fun i _ _ _ => n - (intOf i).toNat)
  case atStart => exact ⟨0, Nat.zero_le _, rfl, (by repeat (first | with_reducible exact New.refl _ | with_reducible assumption | with_reducible refine New.alloc ?_ _ | with_reducible refine New.drewN ?_ _ | with_reducible refine New.drew ?_ | with_reducible refine New.setCell ?_ (by first | omega | (simp; done) | (simp; omega)) _ | with_reducible refine New.tail (by assumption) ?_)), by simp, _, Has.new _ _ _, by show _ = _; rw [size_madeCells], fun j h => absurd h (Nat.not_lt_zero _)⟩
  case round =>
    obtain ⟨k, hk, rfl, hw, hsz, cs, hcs, Hcl, Hin⟩ := hrel
    by_cases hlt : k < n
    · have hltM : k < M.length := by rw [HSQ.out.1]; exact hlt
      have hltR : k < R.length := by rw [HRL.out]; exact hlt
      obtain ⟨b, off, Ra, q, hA, hI, hcell⟩ := hM.at_ hltM
      subst hA
      have hlen : M[k].length = n := (HSQ.out.2 _ (List.getElem_mem hltM)).1
      have HCG := Lib.hid (colM_get (c := c) hltM hltR)
      obtain ⟨r, hrk⟩ : ∃ r, M[k] = r := ⟨_, rfl⟩
      rw [hrk] at hI hcell hlen HCG
      rw [hlen] at hcell
      obtain ⟨b2, off2, hRa, hb2, hr2⟩ := hI (by intro h; subst h; simp at hlen; omega)
      subst hRa
      obtain ⟨b3, off3, x, hB3, hx, hcx⟩ := hB.at_ hltR
      subst hB3
      have HX := Lib.hid hx
      obtain ⟨x0, hx0⟩ : ∃ x, cs[k]? = some x := ⟨_, Array.getElem?_eq_getElem (by have := Hcl.out; omega)⟩
      have HLEN := Lib.hid hlen
      have hcell' := fun w' (hn : New wr w') => hcell w' (hw.trans hn)
      have kf := hcs.frees
      have k0 := fun w' hn => (hcs.cells k w' hn).trans hx0
      have hk0 : (0 : Int) ≤ (k : Int) := by omega
      have hkn : (k : Int) < (n : Int) := by omega
      clear hrk hx0 hmk hcell hr2 hx hlen
      go_wp2_with fail
      refine (clone_any b2 off2 n q r _ HLEN.out (hI.keep hw) (by omega) (by omega)).mono ?_
      rintro e w1 ⟨g2, q2, rfl, hg2, hq2, hI2, hn1⟩
      have hcs1 := hcs.keep hn1
      have hs1 := hn1.size
      have kf1 := hcs1.frees
      have k1 := k0 _ hn1
      have hcs2 := hcs1.set k (.slice (some ⟨g2, 0, none⟩) n q2)
      have hsc : k < cs.size := by rw [Hcl.out]; exact hlt
      have hcg : (cs.setIfInBounds k (.slice (some ⟨g2, 0, none⟩) n q2))[k]? = some (.slice (some ⟨g2, 0, none⟩) n q2) := by
        rw [Array.getElem?_setIfInBounds, if_pos rfl, if_pos hsc]
      have k2 := fun w' hn => (hcs2.cells k w' hn).trans hcg
      have hI3 : Ints (w1.setCell ⟨w.heap.size, k, none⟩ (.slice (some ⟨g2, 0, none⟩) n q2)) g2 r := hI2.far (p := ⟨w.heap.size, k, none⟩) (by simp; omega) _
      have f3 := hI3.free
      have hgb := hI2.lt
      have hw2 : New w (w1.setCell ⟨w.heap.size, k, none⟩ (.slice (some ⟨g2, 0, none⟩) n q2)) := (hw.trans hn1).setCell (p := ⟨w.heap.size, k, none⟩) (Nat.le_refl _) _
      have hin2 : Hid (∀ j, j < k + 1 → ∀ r', (colM M c R)[j]? = some r' → ∃ gj q, (cs.setIfInBounds k (.slice (some ⟨g2, 0, none⟩) n q2))[j]? = some (.slice (some ⟨gj, 0, none⟩) n q) ∧ w.heap.size < gj ∧ Ints ((w1.setCell ⟨w.heap.size, k, none⟩ (.slice (some ⟨g2, 0, none⟩) n q2)).setCell ⟨g2, c, none⟩ (.int .i64 x)) gj r') := fun j hj r' hr' => by
        rcases Nat.lt_or_ge j k with hjk | hjk
        · obtain ⟨gj, q, a1, a2, a3⟩ := Hin.out j hjk r' hr'
          have := a3.lt
          refine ⟨gj, q, by rw [Array.getElem?_setIfInBounds, if_neg (by omega)]; exact a1, a2, ?_⟩
          exact ((a3.keep hn1).far (p := ⟨w.heap.size, k, none⟩) (by simp; omega) _).far (p := ⟨g2, c, none⟩) (by simp; omega) _
        · obtain rfl : j = k := by omega
          rw [HCG.out] at hr'
          simp only [Option.some.injEq] at hr'
          subst hr'
          refine ⟨g2, q2, hcg, by omega, ?_⟩
          rw [HX.out]
          exact hI3.set c x
      have hcs3 := hcs2.far (p := ⟨g2, c, none⟩) (by simp; omega) (.int .i64 x)
      have hw3 : New w ((w1.setCell ⟨w.heap.size, k, none⟩ (.slice (some ⟨g2, 0, none⟩) n q2)).setCell ⟨g2, c, none⟩ (.int .i64 x)) := hw2.setCell (p := ⟨g2, c, none⟩) (by simp; omega) _
      have hsz3 : w.heap.size < ((w1.setCell ⟨w.heap.size, k, none⟩ (.slice (some ⟨g2, 0, none⟩) n q2)).setCell ⟨g2, c, none⟩ (.int .i64 x)).heap.size := by simp; omega
      have hcl3 : Hid ((cs.setIfInBounds k (.slice (some ⟨g2, 0, none⟩) n q2)).size = n) := by show _ = _; simpa using Hcl.out
      clear hcell' hI hcs1 hcs2 hcg hI2 Hin hn1 hcs hB hM HCG
      have k4 := k2 _ (New.refl _)
      have c4 := hcx _ hw2
      have f4 := f3 c _ (New.refl _)
      have hclen : c < r.length := by have := HLEN.out; omega
      have c5 := hI3.cell (List.getElem?_eq_getElem hclen) _ (New.refl _)
      have hw4 := hw3.drew
      have hin4 : Hid (∀ j, j < k + 1 → ∀ r', (colM M c R)[j]? = some r' → ∃ gj q, (cs.setIfInBounds k (.slice (some ⟨g2, 0, none⟩) n q2))[j]? = some (.slice (some ⟨gj, 0, none⟩) n q) ∧ w.heap.size < gj ∧ Ints ((w1.setCell ⟨w.heap.size, k, none⟩ (.slice (some ⟨g2, 0, none⟩) n q2)).setCell ⟨g2, c, none⟩ (.int .i64 x)).drew gj r') := fun j hj r' hr' => by
        obtain ⟨gj, q, a, b, d⟩ := hin2.out j hj r' hr'
        exact ⟨gj, q, a, b, d.keep ((New.refl _).drew)⟩
      have hcs4 := hcs3.keep ((New.refl _).drew)
      clear k2 hcx f3 hI3 hw3 hin2 hcs3 hw2
      obtain ⟨y, hy⟩ : ∃ y, r[c] = y := ⟨_, rfl⟩
      rw [hy] at c5
      clear hy
      go_wp2_with fail
      go_region
      all_goals
        go_wp2_with fail
        go_roundw
        case rel => exact ⟨k + 1, by omega, by go_num, hw4, hsz3, _, hcs4, hcl3, hin4⟩
        case measure => simp [intOf]; omega
    · obtain rfl : k = n := by omega
      go_wp2_with fail
      go_ret
      refine ⟨_, rfl, fun _ => ⟨_, 0, rfl, hcs.lt, fun j r hj => ?_⟩, hw⟩
      have hjl := (List.getElem?_eq_some_iff.1 hj).1
      rw [colM_length (by rw [HRL.out, HSQ.out.1]), HSQ.out.1] at hjl
      obtain ⟨gj, q, a, -, b⟩ := Hin.out j hjl r hj
      have hrl := colM_rows HSQ.out r (List.mem_of_getElem? hj)
      exact ⟨some ⟨gj, 0, none⟩, q, by rw [Nat.zero_add, hcs.cells j wr (New.refl wr), hrl]; exact a, b.reads⟩
set_option maxHeartbeats 4000000 in
theorem l2Column_any (A B : Option Addr) (cap capB n c : Nat) (M : List (List Int)) (R : List Int) (w : World) (hsq : Sq n M) (hn : n ≤ 5) (hR : R.length = n) (hc : c < n) (hM : MatC w A M) (hB : IntsAt w B R) :
    Calls Try.prog 65 #[.slice A n cap, .int .i64 c, .slice B n capB] w fun e w' => ∃ C cp, e = .returned (.slice C n cp) ∧ MatC w' C (colM M c R) ∧ New w w' := by
  obtain ⟨i0, hi, hz, hs, hb⟩ := info_parts infoInt
  obtain ⟨i1, ki, kz, ks, kb⟩ := info_parts infoRow
  have HSQ := Lib.hid hsq
  have HRL := Lib.hid hR
  have hc0 : (0 : Int) ≤ (c : Int) := by omega
  have hcn : (c : Int) < (n : Int) := by omega
  clear hsq hR
  go_enter Try.func65, Try.ntmps65
  go_wp2_with fail
  go_loopw [8, 7, 9] (fun i v _ wr => ∃ k : Nat, k ≤ n ∧ i = .int .i64 k ∧ New w wr ∧ ∃ rs : List Value, wr.ownsRow w.heap.size 58 1 v k rs ∧ Hid (∀ j, j < k → ∀ r, (colM M c R)[j]? = some r → ∃ gj q, n ≤ q ∧ rs[j]? = some (.slice (some ⟨gj, 0, none⟩) n q) ∧ Ints wr gj r)) (fun i _ _ _ => n - (intOf i).toNat)
  case atStart => exact ⟨0, Nat.zero_le _, rfl, (by repeat (first | with_reducible exact New.refl _ | with_reducible assumption | with_reducible refine New.alloc ?_ _ | with_reducible refine New.drewN ?_ _ | with_reducible refine New.drew ?_ | with_reducible refine New.setCell ?_ (by first | omega | (simp; done) | (simp; omega)) _ | with_reducible refine New.tail (by assumption) ?_)), [], World.ownsRow_made w #[] 0 (Nat.le_refl _) (by simp) rfl, fun j h => absurd h (Nat.not_lt_zero _)⟩
  case round =>
    obtain ⟨k, hk, rfl, hw, rs, hown, Hrs⟩ := hrel
    by_cases hlt : k < n
    · have hltM : k < M.length := by rw [HSQ.out.1]; exact hlt
      have hltR : k < R.length := by rw [HRL.out]; exact hlt
      obtain ⟨b, off, Ra, q, hA, hq, hI, hcell⟩ := hM.at_ hltM
      subst hA
      have hlen : M[k].length = n := (HSQ.out.2 _ (List.getElem_mem hltM)).1
      have HCG := Lib.hid (colM_get (c := c) hltM hltR)
      obtain ⟨r, hrk⟩ : ∃ r, M[k] = r := ⟨_, rfl⟩
      rw [hrk] at hI hcell hlen hq HCG
      rw [hlen] at hcell hq
      obtain ⟨b2, off2, hRa, hb2, hr2⟩ := hI (by intro h; subst h; simp at hlen; omega)
      subst hRa
      obtain ⟨b3, off3, x, hB3, hx, hcx⟩ := hB.at_ hltR
      subst hB3
      have HX := Lib.hid hx
      have HLEN := Lib.hid hlen
      have hcell' := fun w' (hn : New wr w') => hcell w' (hw.trans hn)
      have hcx' := fun w' (hn : New wr w') => hcx w' (hw.trans hn)
      have hk0 : (0 : Int) ≤ (k : Int) := by omega
      have hkn : (k : Int) < (n : Int) := by omega
      have hm0 : (wr.alloc (.cells #[] 3)).ownsRow wr.heap.size 3 1 (.slice (some ⟨wr.heap.size, 0, none⟩) 0 0) 0 [] := World.ownsRow_made wr #[] 0 (Nat.le_refl _) (by simp) rfl
      have l1 : (r.map (Value.int .i64)).length = n * 1 := by simp; omega
      have f1 : ∀ w', New w w' → ∀ j u, (r.map (Value.int .i64))[j]? = some u → w'.cell? ((⟨b2, off2, none⟩ : Addr).add j) = some u := fun w' hn => ints_news (n := 0) fun k x hx => by
        rw [New.cell hn hb2]; exact hr2 k x hx
      have o1 := ints_one r
      clear hrk hcell hr2 hx hlen hcx
      have hclen : c < r.length := by have := HLEN.out; omega
      go_wp2_with (first
        | (at_builtin; refine wpList_append_own _ rfl _ _ 58 rfl wr.heap.size 3 i0 (.int .i64 0) 1 8 Try.underlying58 hi hz hs hb rfl (by decide) _ _ _ rfl hm0 ⟨b2, off2, none⟩ n q _ rfl l1 (f1 _ (hw.alloc _)) o1 (by unfold maxLen; omega) (by omega) (by simp) ?_
           intro v5 w5 hown5 hgrow5 _
           have hn5 : New wr w5 := ((New.refl wr).alloc _).grown hgrow5 (fun j hj => (hm0.lt j hj).1)
           rw [Nat.zero_add, List.nil_append] at hown5
           obtain ⟨g2, q2, hv2, hg2, -⟩ := hown5.form (by omega)
           subst hv2
           have hcap : n ≤ q2 := by
             rcases hown5.2 with ⟨h, _⟩ | ⟨g, cap, cur, h, _, _, h4, _⟩
             · cases h
             · cases h; exact h4
           have hI2 : Ints w5 g2 r := by
             obtain ⟨-, ⟨h, _⟩ | ⟨g, cap, h, _, h4⟩⟩ := Ints.of_own hown5
             · cases h
             · cases h; exact h4
           have hx5 := hcx' _ hn5
           have f5 := hI2.free c _ (New.refl _)
           have c5 := hI2.cell (List.getElem?_eq_getElem hclen) _ (New.refl _)
           have hn6 : New wr (w5.setCell ⟨g2, c, none⟩ (.int .i64 x)) := hn5.setCell (p := ⟨g2, c, none⟩) hg2 _
           have hI6 := hI2.set c x
           clear hown5 hgrow5 hm0)
        | (at_builtin; refine wpList_append_own _ rfl _ _ 41 rfl w.heap.size 58 i1 (.slice none 0 0) 1 24 Try.underlying41 ki kz ks kb rfl (by decide) _ _ _ rfl (own_new hown (hn6.alloc _)) ⟨w5.heap.size, 0, none⟩ 1 1 [.slice (some ⟨g2, 0, none⟩) n q2] rfl rfl (by have h9 := one_new (w5.setCell ⟨g2, c, none⟩ (.int .i64 x)) (.slice (some ⟨g2, 0, none⟩) n q2) 58; rw [World.size_setCell] at h9; exact h9) (slice_oneCell _ _ _) (by unfold maxLen; omega) (by omega) (by have := hw.size; have := hn6.size; simp at this ⊢; omega) ?_
           intro v7 w7 hown7 hgrow7 _))
      have hw7 : New w w7 := ((hw.trans hn6).alloc _).grown hgrow7 (fun j hj => (hown.lt j hj).1)
      have hal : New (w5.setCell ⟨g2, c, none⟩ (.int .i64 x)) ((w5.setCell ⟨g2, c, none⟩ (.int .i64 x)).alloc (.cells #[.slice (some ⟨g2, 0, none⟩) n q2] 58)) := (New.refl _).alloc _
      have hoo := own_new hown (hn6.trans hal)
      have hI7 : Ints w7 g2 (r.set c x) := (hI6.keep hal).grown hgrow7 (own_ne hoo (hI6.keep hal) (by decide))
      have hrs0 := hown.1
      have hrows : Hid (∀ j, j < k + 1 → ∀ r', (colM M c R)[j]? = some r' → ∃ gj q, n ≤ q ∧ (rs ++ [Value.slice (some ⟨g2, 0, none⟩) n q2])[j]? = some (.slice (some ⟨gj, 0, none⟩) n q) ∧ Ints w7 gj r') := fun j hj r' hr' => by
        rcases Nat.lt_or_ge j k with hjk | hjk
        · obtain ⟨gj, q, a0, a, b⟩ := Hrs.out j hjk r' hr'
          refine ⟨gj, q, a0, by rw [List.getElem?_append_left (by omega)]; exact a, ?_⟩
          have hb2 := b.keep (hn6.trans hal)
          exact hb2.grown hgrow7 (own_ne hoo hb2 (by decide))
        · obtain rfl : j = k := by omega
          rw [HCG.out, HX.out] at hr'
          simp only [Option.some.injEq] at hr'
          subst hr'
          refine ⟨g2, q2, hcap, ?_, hI7⟩
          rw [List.getElem?_append_right (by omega)]
          have e0 : j - rs.length = 0 := by omega
          rw [e0]
          rfl
      clear hI7 hI6 hoo hal hown hgrow7 hn6 f5 c5 hx5 hI2 hn5 hI Hrs f1 l1 o1
      go_wp2_with fail
      go_roundw
      case rel => exact ⟨k + 1, by omega, by go_num, hw7, _, hown7, hrows⟩
      case measure => simp [intOf]; omega
    · obtain rfl : k = n := by omega
      have hlen := hown.1
      have hfin : ∃ C cp, u7 = .slice C k cp ∧ MatC wr C (colM M c R) := by
        rcases hown.2 with ⟨rfl, h0⟩ | ⟨g, cp, cur, rfl, hg, hh, hcp, _, hsz, htk⟩
        · subst h0
          refine ⟨none, 0, rfl, fun h => absurd ?_ h⟩
          exact List.eq_nil_of_length_eq_zero (by rw [colM_length (by rw [HRL.out, HSQ.out.1]), HSQ.out.1])
        · refine ⟨_, cp, rfl, fun _ => ⟨g, 0, rfl, Has.lt (cs := cur) (T := 58) hh, fun j r hj => ?_⟩⟩
          have hjl := (List.getElem?_eq_some_iff.1 hj).1
          rw [colM_length (by rw [HRL.out, HSQ.out.1]), HSQ.out.1] at hjl
          obtain ⟨gj, q, a0, a, b⟩ := Hrs.out j hjl r hj
          have hrl := colM_rows HSQ.out r (List.mem_of_getElem? hj)
          refine ⟨some ⟨gj, 0, none⟩, q, by omega, ?_, b.reads⟩
          rw [Nat.zero_add, Has.cells (cs := cur) (T := 58) hh j wr (New.refl wr), hrl, ← a, ← htk, List.getElem?_take, if_pos (by omega)]
          simp
      obtain ⟨C, cp, hC, hMt⟩ := hfin
      subst hC
      clear hown Hrs hlen
      go_wp2_with fail
      go_ret
      exact ⟨C, cp, rfl, hMt, hw⟩
end Go.Proofs.Ytmopbghngaeplaa
