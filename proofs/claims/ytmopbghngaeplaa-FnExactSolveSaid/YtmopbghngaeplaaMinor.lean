/- Contract of l2Minor (reference): the matrix without its first row and a column. -/
import Derived.Test.YtmopbghngaeplaaDet
namespace Go.Proofs.Ytmopbghngaeplaa
open Go.RowKit
set_option linter.all false
theorem step_append_own {P : Program} {w : World} {ops : Array Oper} {o : Oper} {a : Act} {K : Act → World → Prop} {Q : Exit → Act → World → Prop} {E : Prop} (hgd : o.guard = none) (s x : Operand) (t : TypeId)
    (ho : o.op = .call { callee := .builtin .append, args := #[s, x], argTypes := #[t, t] })
    (base : Nat) (e : TypeId) (i : TypeInfo) (z : Value) (size bytes : Nat) (ht : P.underlying t = some (.slice e)) (hi : P.info? e = some i) (hz : i.zero = some z)
    (hsize : i.size = size) (hby : i.bytes = bytes) (hzs : z.cells.size = size) (hsz : 0 < size)
    (v : Value) (n : Nat) (xs : List Value) (hs : a.eval s = v) (hown : w.ownsRow base e size v n xs)
    (ad : Addr) (m c : Nat) (news : List Value) (hx : a.eval x = .slice (some ad) m c) (hl : news.length = m * size) (hnews : ∀ j u, news[j]? = some u → w.cell? (ad.add j) = some u) (h1 : ∀ u ∈ news, u.oneCell' = true)
    (h63 : n + m ≤ maxLen) (hbytes : (n + m) * bytes ≤ 140737488355328) (hbase : base ≤ w.heap.size)
    (h : ∀ v' w', w'.ownsRow base e size v' (n + m) (xs ++ news) → w.grownBy w' v.ownBlock → (v' = .slice none 0 0 ↔ v = .slice none 0 0 ∧ m = 0) → K (a.put o.dst v') w') :
    if Region.wanted o (yielded ops a.tmps) = true then Oper.wp P o a w K Q else E := by
  have hw : Region.wanted o (yielded ops a.tmps) = true := by simp [Region.wanted, hgd]
  rw [if_pos hw]
  exact wp_append_own w s x t ho base e i z size bytes ht hi hz hsize hby hzs hsz v n xs hs hown ad m c news hx hl hnews h1 h63 hbytes hbase h
theorem ints_news {w : World} {b off n : Nat} {l : List Int} (h : ∀ k x, l[k]? = some x → w.cell? ⟨b, off + k, none⟩ = some (.int .i64 x)) : ∀ j u, (l.map (Value.int .i64))[j]? = some u → w.cell? ((⟨b, off, none⟩ : Addr).add j) = some u := fun j u hu => by
  have hadd : (⟨b, off, none⟩ : Addr).add j = ⟨b, off + j, none⟩ := by unfold Addr.add; split <;> simp_all
  rw [hadd]
  rw [List.getElem?_map] at hu
  cases hx : l[j]? with
  | none => rw [hx] at hu; cases hu
  | some x =>
    rw [hx] at hu
    simp at hu
    subst hu
    exact h j x hx
theorem ints_one (l : List Int) : ∀ u ∈ l.map (Value.int .i64), u.oneCell' = true := by
  intro u hu
  rw [List.mem_map] at hu
  obtain ⟨x, _, rfl⟩ := hu
  rfl
theorem own_one {w : World} {base : Nat} {e : TypeId} {size n : Nat} {v : Value} {xs : List Value} (h : w.ownsRow base e size v n xs) : ∀ u ∈ [v], u.oneCell' = true := by
  intro u hu
  simp at hu
  subst hu
  rcases h.2 with ⟨rfl, _⟩ | ⟨g, cap, cur, rfl, _⟩ <;> rfl
set_option maxHeartbeats 4000000 in
theorem specMinor_any (A : Option Addr) (cap n N c : Nat) (M : List (List Int)) (w : World) (hN : N = n + 1) (hsq : Sq N M) (hn : n ≤ 4) (hc : c ≤ n) (hM : MatC w A M) :
    Calls Try.prog 70 #[.slice A N cap, .int .i64 0, .int .i64 c] w fun e w' => ∃ B cp, e = .returned (.slice B n cp) ∧ MatC w' B (minor M c) ∧ New w w' := by
  obtain ⟨i0, hi, hz, hs, hb⟩ := info_parts infoInt
  obtain ⟨i1, ki, kz, ks, kb⟩ := info_parts infoRow
  have HSQ := Lib.hid hsq
  have HN := Lib.hid hN
  have hc0 : (0 : Int) ≤ (c : Int) := by omega
  have hcN : c < N := by omega
  have hN5 : N ≤ 5 := by omega
  clear hsq hN
  go_enter Try.func70, Try.ntmps70
  go_wp2_with fail
  go_loopw [8, 7] (fun i v wr => ∃ k : Nat, k ≤ N ∧ i = .int .i64 k ∧ New w wr ∧ ∃ rs : List Value, wr.ownsRow w.heap.size 58 1 v (k - 1) rs ∧ Hid (∀ j, j < k - 1 → ∀ r, M[j + 1]? = some r → ∃ gj q, n ≤ q ∧ rs[j]? = some (.slice (some ⟨gj, 0, none⟩) n q) ∧ Ints wr gj (r.eraseIdx c))) (fun i _ _ => N - (intOf i).toNat)
  case atStart => exact ⟨0, Nat.zero_le _, rfl, (by repeat (first | with_reducible exact New.refl _ | with_reducible assumption | with_reducible refine New.alloc ?_ _ | with_reducible refine New.drewN ?_ _ | with_reducible refine New.drew ?_ | with_reducible refine New.setCell ?_ (by first | omega | (simp; done) | (simp; omega)) _ | with_reducible refine New.tail (by assumption) ?_)), [], World.ownsRow_made w #[] 0 (Nat.le_refl _) (by simp) rfl, fun j h => absurd h (Nat.not_lt_zero _)⟩
  case round =>
    obtain ⟨k, hk, rfl, hw, rs, hown, Hrs⟩ := hrel
    by_cases hlt : k < N
    · have hlt' : (k : Int) < (N : Int) := by omega
      have hk0 : (0 : Int) ≤ (k : Int) := by omega
      by_cases hz0 : k = 0
      · subst hz0
        go_wp2_with fail
        go_roundw
        case rel => exact ⟨1, by omega, rfl, hw, rs, hown, Hrs⟩
        case measure => simp [intOf]; omega
      · have hne : ((k : Int) != 0) = true := by simp; omega
        have hkM : k < M.length := by rw [HSQ.out.1]; exact hlt
        obtain ⟨b, off, R, q, hA, hq, hI, hcell⟩ := hM.at_ hkM
        subst hA
        have hlen : M[k].length = N := (HSQ.out.2 _ (List.getElem_mem _)).1
        have HMK : Hid (M[k]? = some M[k]) := List.getElem?_eq_getElem _
        obtain ⟨r, hrk⟩ : ∃ r, M[k] = r := ⟨_, rfl⟩
        rw [hrk] at hI hcell hlen hq HMK
        rw [hlen] at hcell hq
        obtain ⟨b2, off2, hR, hb2, hr2⟩ := hI (by intro h; subst h; simp at hlen; omega)
        subst hR
        have hq' : (N : Int) ≤ (q : Int) := by omega
        have hcq : (c : Int) ≤ (q : Int) := by omega
        have hc1 : (c : Int) + 1 ≤ (N : Int) := by omega
        have hc2 : (0 : Int) ≤ (c : Int) + 1 := by omega
        obtain ⟨d, hd⟩ : ∃ d : Nat, c + 1 = d := ⟨_, rfl⟩
        have hwc : IntKind.i64.wrap ((c : Int) + 1) = (d : Int) := by rw [IntKind.wrap_i64]; omega
        have hd0 : (0 : Int) ≤ (d : Int) := by omega
        have hdN : (d : Int) ≤ (N : Int) := by omega
        have HD := Lib.hid hd
        have hm0 : (wr.alloc (.cells #[] 3)).ownsRow wr.heap.size 3 1 (.slice (some ⟨wr.heap.size, 0, none⟩) 0 0) 0 [] := World.ownsRow_made wr #[] 0 (Nat.le_refl _) (by simp) rfl
        have l1 : ((r.take c).map (Value.int .i64)).length = c * 1 := by simp; omega
        have l2 : ((r.drop d).map (Value.int .i64)).length = (N - d) * 1 := by simp; omega
        have f1 : ∀ w', New w w' → ∀ j u, ((r.take c).map (Value.int .i64))[j]? = some u → w'.cell? ((⟨b2, off2, none⟩ : Addr).add j) = some u := fun w' hn => ints_news (n := 0) fun k x hx => by
          rw [List.getElem?_take] at hx
          split at hx
          · rw [New.cell hn hb2]; exact hr2 k x hx
          · cases hx
        obtain ⟨o3, ho3, hif⟩ : ∃ o3, (o3 = off2 + d ∨ N - d = 0) ∧ (if q = d then some (⟨b2, off2, none⟩ : Addr) else some ⟨b2, off2 + d, none⟩) = some ⟨b2, o3, none⟩ := by
          by_cases h : q = d
          · exact ⟨off2, .inr (by omega), by rw [if_pos h]⟩
          · exact ⟨off2 + d, .inl rfl, by rw [if_neg h]⟩
        have f2 : ∀ w', New w w' → ∀ j u, ((r.drop d).map (Value.int .i64))[j]? = some u → w'.cell? ((⟨b2, o3, none⟩ : Addr).add j) = some u := fun w' hn => ints_news (n := 0) fun k x hx => by
          rw [List.getElem?_drop] at hx
          have hkl := (List.getElem?_eq_some_iff.1 hx).1
          have h3 : o3 = off2 + d := by omega
          rw [New.cell hn hb2, h3, Nat.add_assoc]; exact hr2 _ x hx
        have HO3 := Lib.hid ho3
        clear ho3
        have o1 := ints_one (r.take c)
        have o2 := ints_one (r.drop d)
        have HQ : Hid (0 + c + (N - d) = n) := by show _ = _; have := HN.out; omega
        have hnp : 0 < n := by have := HN.out; omega
        clear hrk hc1 hc2 hd hM
        go_wp2_with fail
        go_region_held3 (fun w' => New w w') ((repeat (first | with_reducible exact New.refl _ | with_reducible assumption | with_reducible refine New.alloc ?_ _ | with_reducible refine New.drewN ?_ _ | with_reducible refine New.drew ?_ | with_reducible refine New.setCell ?_ (by first | omega | (simp; done) | (simp; omega)) _ | with_reducible refine New.tail (by assumption) ?_))) (first
          | ((refine step_append_own (by rfl) _ _ 58 (by rfl) wr.heap.size 3 i0 (.int .i64 0) 1 8 Try.underlying58 hi hz hs hb rfl (by decide) _ 0 [] (by rfl) (own_new hm0 ((New.refl _).drew)) ⟨b2, off2, none⟩ c q ((r.take c).map (Value.int .i64)) (by rfl) l1 (f1 _ ((hw.alloc _).drew)) o1 (by unfold maxLen; omega) (by omega) (by simp) ?_; intro v1 w1 hown1 hgrow1 _; have hn1 : New wr w1 := New.grown (((New.refl wr).alloc _).drew) hgrow1 (fun j hj => ((own_new hm0 ((New.refl _).drew)).lt j hj).1); have hm1 := hw.trans hn1))
          | ((refine step_append_own (by rfl) _ _ 58 (by rfl) wr.heap.size 3 i0 (.int .i64 0) 1 8 Try.underlying58 hi hz hs hb rfl (by decide) _ _ _ (by rfl) hown1 ⟨b2, o3, none⟩ (N - d) (q - d) ((r.drop d).map (Value.int .i64)) (by rfl) l2 (f2 _ (hw.trans hn1)) o2 (by unfold maxLen; omega) (by omega) hn1.size ?_; intro v2 w2 hown2 hgrow2 _; have hn2 : New wr w2 := New.grown hn1 hgrow2 (fun j hj => (hown1.lt j hj).1); rw [HQ.out] at hown2; obtain ⟨g2, q2, hv2, hg2, hg2'⟩ := hown2.form hnp; subst hv2; have hm2 := hw.trans hn2))
          | ((refine step_append_own (by rfl) _ _ 41 (by rfl) w.heap.size 58 i1 (.slice none 0 0) 1 24 Try.underlying41 ki kz ks kb rfl (by decide) _ _ _ (by rfl) (own_new hown (hn2.alloc _)) ⟨w2.heap.size, 0, none⟩ 1 1 [.slice (some ⟨g2, 0, none⟩) n q2] (by rfl) (by rfl) (one_new _ _ _) (own_one hown2) (by unfold maxLen; omega) (by omega) (by have := hw.size; have := hn2.size; simp; omega) ?_; intro v3 w3 hown3 hgrow3 _; have hm3 : New w w3 := New.grown (hm2.alloc (.cells #[.slice (some ⟨g2, 0, none⟩) n q2] 58)) hgrow3 (fun j hj => (hown.lt j hj).1))))
        have hE : [] ++ (r.take c).map (Value.int .i64) ++ (r.drop d).map (Value.int .i64) = (r.eraseIdx c).map (Value.int .i64) := by
          rw [List.eraseIdx_eq_take_drop_succ, HD.out, List.map_append, List.nil_append]
        rw [hE] at hown2
        have hcap : n ≤ q2 := by
          rcases hown2.2 with ⟨h, _⟩ | ⟨g, cap, cur, h, _, _, h4, _⟩
          · cases h
          · cases h; exact h4
        have hI2 : Ints w2 g2 (r.eraseIdx c) := by
          obtain ⟨-, ⟨h, _⟩ | ⟨g, cap, h, _, h4⟩⟩ := Ints.of_own hown2
          · cases h
          · cases h; exact h4
        have hal : New w2 (w2.alloc (.cells #[.slice (some ⟨g2, 0, none⟩) n q2] 58)) := (New.refl w2).alloc _
        have hoo := own_new hown (hn2.trans hal)
        have hI3 : Ints w3 g2 (r.eraseIdx c) := (hI2.keep hal).grown hgrow3 (own_ne hoo (hI2.keep hal) (by decide))
        have hrs0 := hown.1
        have hrows : Hid (∀ j, j < k + 1 - 1 → ∀ r', M[j + 1]? = some r' → ∃ gj q, n ≤ q ∧ (rs ++ [Value.slice (some ⟨g2, 0, none⟩) n q2])[j]? = some (.slice (some ⟨gj, 0, none⟩) n q) ∧ Ints w3 gj (r'.eraseIdx c)) := fun j hj r' hr' => by
          rcases Nat.lt_or_ge j (k - 1) with hjk | hjk
          · obtain ⟨gj, q, a0, a, b⟩ := Hrs.out j hjk r' hr'
            refine ⟨gj, q, a0, by rw [List.getElem?_append_left (by omega)]; exact a, ?_⟩
            have hb2 := b.keep (hn2.trans hal)
            exact hb2.grown hgrow3 (own_ne hoo hb2 (by decide))
          · obtain rfl : j + 1 = k := by omega
            rw [HMK.out] at hr'
            simp only [Option.some.injEq] at hr'
            subst hr'
            refine ⟨g2, q2, hcap, ?_, hI3⟩
            rw [List.getElem?_append_right (by omega)]
            have e0 : j - rs.length = 0 := by omega
            rw [e0]
            rfl
        have hkk : k - 1 + 1 = k + 1 - 1 := by omega
        rw [hkk] at hown3
        clear hI3 hI2 hoo hal hE f1 f2 o1 o2 l1 l2 hown hown1 hown2 hgrow1 hgrow2 hgrow3 hm0 hif hwc hn1 hn2 hm1 hm2 hcell hI hr2 Hrs
        go_wp2_with fail
        go_roundw
        case rel => exact ⟨k + 1, by omega, by go_num, hm3, _, hown3, hrows⟩
        case measure => simp [intOf]; omega
    · obtain rfl : k = N := by omega
      have hnlt : ¬ (k : Int) < (k : Int) := by omega
      have hkn : k - 1 = n := by have := HN.out; omega
      rw [hkn] at hown
      have hlen := hown.1
      have hfin : ∃ B cp, u7 = .slice B n cp ∧ MatC wr B (minor M c) := by
        rcases hown.2 with ⟨rfl, h0⟩ | ⟨g, cp, cur, rfl, hg, hh, hcp, _, hsz, htk⟩
        · subst h0
          refine ⟨none, 0, rfl, fun h => absurd ?_ h⟩
          exact List.eq_nil_of_length_eq_zero (by have h1 := HSQ.out.1; have h2 := HN.out; simp only [minor, List.length_map, List.length_tail]; omega)
        · refine ⟨_, cp, rfl, fun _ => ⟨g, 0, rfl, Has.lt (cs := cur) (T := 58) hh, fun j r hj => ?_⟩⟩
          unfold minor at hj
          rw [List.getElem?_map, List.getElem?_tail] at hj
          cases hm : M[j + 1]? with
          | none => rw [hm] at hj; cases hj
          | some r0 =>
            rw [hm] at hj
            simp only [Option.map_some, Option.some.injEq] at hj
            have hjl := (List.getElem?_eq_some_iff.1 hm).1
            have hMl := HSQ.out.1
            obtain ⟨gj, q, a0, a, b⟩ := Hrs.out j (by omega) r0 hm
            have hrl : r.length = n := by
              rw [← hj, List.length_eraseIdx, (HSQ.out.2 r0 (List.mem_of_getElem? hm)).1, if_pos (by omega)]; omega
            refine ⟨some ⟨gj, 0, none⟩, q, by omega, ?_, by rw [← hj]; exact b.reads⟩
            rw [Nat.zero_add, Has.cells (cs := cur) (T := 58) hh j wr (New.refl wr), hrl, ← a, ← htk, List.getElem?_take, if_pos (by omega)]
            simp
      obtain ⟨B, cp, hB, hMt⟩ := hfin
      subst hB
      clear hown Hrs hlen
      go_wp2_with fail
      go_ret
      exact ⟨B, ⟨cp, rfl⟩, hMt, hw⟩
end Go.Proofs.Ytmopbghngaeplaa
