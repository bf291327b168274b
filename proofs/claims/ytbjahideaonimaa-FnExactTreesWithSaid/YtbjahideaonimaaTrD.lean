/- Contracts of slices.Clone and slices.Delete at legs. -/
import Derived.Test.YtbjahideaonimaaLgC
import Derived.Lib.SliceRun
import Derived.Laws.IdiomCopy
namespace Go.Proofs.Ytbjahideaonimaa
open Go.RowKit
set_option linter.all false
theorem Has.setCells {b : Nat} {T : TypeId} : ∀ (vs : List Value) (o : Nat) {W : World} {cs : Array Value}, Has W b cs T → ∃ cs', Has (W.setCells b o vs) b cs' T
  | [], _, _, cs, h => ⟨cs, h⟩
  | v :: vs, o, _, cs, h => Has.setCells vs (o + 1) (h.set o v)
theorem Only.setCells {g : Nat} {a : World} : ∀ (vs : List Value) (o : Nat) {b : World}, Only g a b → Only g a (b.setCells g o vs)
  | [], _, _, h => h
  | v :: vs, o, b, h => Only.setCells vs (o + 1) (h.setCell (p := ⟨g, o, none⟩) rfl v)
theorem add_none' (b o i : Nat) : (⟨b, o, none⟩ : Addr).add i = ⟨b, o + i, none⟩ := by
  unfold Addr.add
  by_cases h : i = 0
  · subst h; simp
  · simp [h]
theorem lgC_append (L M : List Lg) : lgC (L ++ M) = lgC L ++ lgC M := by simp [lgC]
/-- Block g holds these legs in its first cells. -/
def LegRow (w : World) (g q : Nat) (L : List Lg) : Prop := ∃ cur : Array Value, Has w g cur 61 ∧ cur.size = q * 5 ∧ L.length ≤ q ∧ ∀ t, t < L.length * 5 → cur[t]? = (lgC L)[t]?
theorem LegRow.reads {w : World} {g q : Nat} {L : List Lg} (h : LegRow w g q L) : LegsAt w (some ⟨g, 0, none⟩) L := fun _ => by
  obtain ⟨cur, h1, h2, h3, h4⟩ := h
  refine ⟨g, 0, rfl, h1.lt, fun k p hk => ?_⟩
  have hkl := (List.getElem?_eq_some_iff.1 hk).1
  obtain ⟨a0, a1, a2, a3, a4⟩ := lgC_get L k p hk
  have hx : ∀ j, j < L.length * 5 → w.cell? ⟨g, j, none⟩ = (lgC L)[j]? := fun j hj => by rw [h1.cells j w (New.refl w), h4 j hj]
  rw [Nat.zero_add, hx _ (by omega), hx _ (by omega), hx _ (by omega), hx _ (by omega), hx _ (by omega)]
  exact ⟨a0, a1, a2, a3, a4⟩
theorem LegRow.keep {w w' : World} {g q : Nat} {L : List Lg} (h : LegRow w g q L) (hn : New w w') : LegRow w' g q L := by
  obtain ⟨cur, h1, h2⟩ := h
  exact ⟨cur, h1.keep hn, h2⟩
theorem leg_news {w : World} {b off : Nat} {L : List Lg} (h : ∀ k q, L[k]? = some q → w.cell? ⟨b, off + k * 5, none⟩ = some (.int .i64 q.f) ∧ w.cell? ⟨b, off + k * 5 + 1, none⟩ = some (.int .i64 q.t) ∧ w.cell? ⟨b, off + k * 5 + 2, none⟩ = some (.int .i64 q.e) ∧
    w.cell? ⟨b, off + k * 5 + 3, none⟩ = some (.int .i64 q.n) ∧ w.cell? ⟨b, off + k * 5 + 4, none⟩ = some (.int .i64 q.u)) : ∀ j u, (lgC L)[j]? = some u → w.cell? ((⟨b, off, none⟩ : Addr).add j) = some u := by
  intro j u hj
  have hjl := (List.getElem?_eq_some_iff.1 hj).1
  rw [lgC_len] at hjl
  obtain ⟨k, r, hr, rfl⟩ : ∃ k r, r < 5 ∧ j = k * 5 + r := ⟨j / 5, j % 5, Nat.mod_lt _ (by decide), by omega⟩
  have hkl : k < L.length := by omega
  have hk := List.getElem?_eq_getElem hkl
  obtain ⟨a0, a1, a2, a3, a4⟩ := lgC_get L k _ hk
  obtain ⟨c0, c1, c2, c3, c4⟩ := h k _ hk
  rw [show (⟨b, off, none⟩ : Addr).add (k * 5 + r) = ⟨b, off + k * 5 + r, none⟩ by unfold Addr.add; split <;> simp_all [Nat.add_assoc]]
  match r, hr with
  | 0, _ => rw [Nat.add_zero] at hj ⊢; rw [c0, ← a0, hj]
  | 1, _ => rw [c1, ← a1, hj]
  | 2, _ => rw [c2, ← a2, hj]
  | 3, _ => rw [c3, ← a3, hj]
  | 4, _ => rw [c4, ← a4, hj]
set_option maxHeartbeats 1000000 in
theorem cloneLegs_any (b off cap : Nat) (L : List Lg) (w : World) (h : LegsAt w (some ⟨b, off, none⟩) L) (hn0 : 0 < L.length) (hm : L.length ≤ 1000) :
    Calls Try.prog 42 #[.slice (some ⟨b, off, none⟩) L.length cap] w fun e w' => ∃ g q, e = .returned (.slice (some ⟨g, 0, none⟩) L.length q) ∧ w.heap.size ≤ g ∧ LegRow w' g q L ∧ q ≤ 9223372036854775807 ∧ New w w' := by
  obtain ⟨i0, hi, hz, hs, hb⟩ := info_parts infoLeg
  obtain ⟨b2, off2, hA, hb2, hr⟩ := h (by intro h0; subst h0; simp at hn0)
  have eb : b = b2 ∧ off = off2 := by simpa using hA
  obtain ⟨rfl, rfl⟩ := eb
  have hm0 : (w.alloc (.cells #[] 61)).ownsRow w.heap.size 61 5 (.slice (some ⟨w.heap.size, 0, none⟩) 0 0) 0 [] := World.ownsRow_made w #[] 0 (Nat.le_refl _) (by simp) rfl
  have f1 : ∀ w', New w w' → ∀ j u, (lgC L)[j]? = some u → w'.cell? ((⟨b, off, none⟩ : Addr).add j) = some u := fun w' hn => leg_news fun k x hx => by
    have kp : ∀ o, w'.cell? ⟨b, o, none⟩ = w.cell? ⟨b, o, none⟩ := fun o => New.cell hn (p := ⟨b, o, none⟩) hb2
    rw [kp, kp, kp, kp, kp]
    exact hr k x hx
  have l1 := lgC_len L
  have o1 := lgC_one L
  have qT : ∀ (w : World) (a : Option Addr) (n c n' c' : Nat), (binOp .eql 31 (.slice a n c) (.slice none n' c')).run Try.prog w = .ok (.bool a.isNone) w := fun w a n c n' c' => Lib.run_eql_slice_nil w _ _ a n c n' c' Try.underlying31
  clear hr hA
  go_enter Try.func42, Try.ntmps42
  go_wp2_with (at_builtin; refine wpList_append_own _ rfl _ _ 31 rfl w.heap.size 61 i0 (.agg #[.int .i64 0, .int .i64 0, .int .i64 0, .int .i64 0, .int .i64 0]) 5 40 Try.underlying31 hi hz hs hb rfl (by decide) _ _ _ rfl hm0 ⟨b, off, none⟩ L.length cap (lgC L) rfl l1 (f1 _ ((New.refl w).alloc _)) o1 (by unfold maxLen; omega) (by omega) (by simp) ?_; intro v' w5 hown hgrow _)
  have hnew : New w w5 := ((New.refl w).alloc _).grown hgrow (fun j hj => (hm0.lt j hj).1)
  rw [Nat.zero_add, List.nil_append] at hown
  have hfin : ∃ g q, v' = .slice (some ⟨g, 0, none⟩) L.length q ∧ w.heap.size ≤ g ∧ LegRow w5 g q L ∧ q ≤ 9223372036854775807 := by
    rcases hown.2 with ⟨rfl, h0⟩ | ⟨g, cap, cur, rfl, hg, hh, hc, hmm, hss, ht⟩
    · omega
    · refine ⟨g, cap, rfl, hg, ⟨cur, hh, by omega, hc, fun t ht2 => ?_⟩, by unfold maxLen at hmm; omega⟩
      rw [← ht, List.getElem?_take, if_pos ht2]
      simp
  obtain ⟨g, q, hv, hg, hR, hqm⟩ := hfin
  subst hv
  clear hown hgrow hm0 o1 f1 l1
  go_wp2_with fail
  go_ret
  exact ⟨g, q, rfl, hg, hR, hqm, hnew⟩
theorem clear_leg (w : World) (ty : TypeId) (b o c : Nat) (hc : ∀ j, j < 5 → (w.cell? ⟨b, o + j, none⟩).isSome = true) (hf : ∀ j, j < 5 → w.frozen? ⟨b, o + j, none⟩ = false) :
    (Builtin.clear_ #[31] ty #[.slice (some ⟨b, o, none⟩) 1 c]).run Try.prog w = .ok (.tuple #[]) (w.setCells b o [.int .i64 0, .int .i64 0, .int .i64 0, .int .i64 0, .int .i64 0]) := by
  have hst := run_storeCells_cells (P := Try.prog) b o [.int .i64 0, .int .i64 0, .int .i64 0, .int .i64 0, .int .i64 0] 0 w (by simpa using hc) (by simpa using hf) (by intro v hv'; simp at hv'; subst hv'; rfl)
  simp only [Nat.add_zero] at hst
  have hzc : (Builtin.zeroCells (Value.cells (.agg #[.int .i64 0, .int .i64 0, .int .i64 0, .int .i64 0, .int .i64 0])) 1).toList = [.int .i64 0, .int .i64 0, .int .i64 0, .int .i64 0, .int .i64 0] := by kernel_rfl
  have hv := Try.zeroValue61
  simp [Builtin.clear_, run_underlying Try.underlying31, hv, hzc, hst]
set_option maxHeartbeats 2000000 in
set_option maxRecDepth 1000000 in
theorem deleteLeg_any (g q i n : Nat) (L : List Lg) (w : World) (hn : L.length = n) (h : LegRow w g q L) (hi : i < n) (hq : q ≤ 9223372036854775807) :
    Calls Try.prog 41 #[.slice (some ⟨g, 0, none⟩) n q, .int .i64 i, .int .i64 ((i : Int) + 1)] w fun e w' => e = .returned (.slice (some ⟨g, 0, none⟩) (n - 1) q) ∧ LegsAt w' (some ⟨g, 0, none⟩) (L.eraseIdx i) ∧ Only g w w' := by
  obtain ⟨i0, hi0, hz0, hs0, hb0⟩ := info_parts infoLeg
  obtain ⟨cur, hh, hsz, hnq, hget⟩ := h
  rw [hn] at hnq hget
  obtain ⟨news, hnews⟩ : ∃ news, lgC (L.drop (i + 1)) = news := ⟨_, rfl⟩
  have hnl : news.length = (n - (i + 1)) * 5 := by rw [← hnews, lgC_len, List.length_drop, hn]
  have hsplit : lgC L = lgC (L.take (i + 1)) ++ news := by rw [← hnews, ← lgC_append, List.take_append_drop]
  have hne : ∀ t, t < (n - (i + 1)) * 5 → cur[(i + 1) * 5 + t]? = news[t]? := fun t ht => by
    rw [hget _ (by omega), hsplit, List.getElem?_append_right (by rw [lgC_len, List.length_take]; omega), lgC_len, List.length_take]
    congr 1
    omega
  have hc : ∀ t, w.cell? ⟨g, t, none⟩ = cur[t]? := fun t => hh.cells t w (New.refl w)
  obtain ⟨A, hA, hsrc⟩ : ∃ A : Addr, (if q = i + 1 then some (⟨g, 0, none⟩ : Addr) else some ⟨g, (i + 1) * 5, none⟩) = some A ∧ Hid (∀ t u, news[t]? = some u → w.drew.cell? (A.add t) = some u) := by
    by_cases h : q = i + 1
    · refine ⟨⟨g, 0, none⟩, by simp [h], fun t u hu => ?_⟩
      have h0 : news.length = 0 := by rw [hnl]; omega
      rw [List.length_eq_zero_iff.1 h0] at hu
      simp at hu
    · refine ⟨⟨g, (i + 1) * 5, none⟩, by simp [h], fun t u hu => ?_⟩
      have ht : t < (n - (i + 1)) * 5 := by
        have := (List.getElem?_eq_some_iff.1 hu).1
        omega
      show w.cell? _ = _
      rw [add_none', hc, hne t ht, hu]
  have s1 : Hid (news.length = (n - (i + 1)) * 5) := hnl
  have s2 : Hid (∀ u ∈ news, u.oneCell' = true) := by rw [← hnews]; exact lgC_one _
  have s3 : Hid (∀ t, t < news.length → (w.drew.cell? ⟨g, 0 + i * 5 + t, none⟩).isSome = true ∧ w.drew.frozen? ⟨g, 0 + i * 5 + t, none⟩ = false) := fun t ht => by
    refine ⟨?_, hh.free _⟩
    show (w.cell? _).isSome = true
    rw [hc, Array.getElem?_eq_getElem (by omega)]
    rfl
  obtain ⟨W1, hW1⟩ : ∃ W1, W1 = w.drew.setCells g (0 + i * 5) news := ⟨_, rfl⟩
  have hO1 : Only g w W1 := by rw [hW1]; exact Only.setCells news _ (Only.drew (Only.refl g w))
  have hin : ∀ t, t < (n - (i + 1)) * 5 → W1.cell? ⟨g, i * 5 + t, none⟩ = news[t]? := fun t ht => by
    rw [hW1, Nat.zero_add, List.getElem?_eq_getElem (by omega)]
    exact World.cell?_setCells_in g news (i * 5) w.drew (fun j hj => by have := (s3 j hj).1; rwa [Nat.zero_add] at this) t (by omega)
  have hout : ∀ t, t < i * 5 ∨ (n - 1) * 5 ≤ t → W1.cell? ⟨g, t, none⟩ = cur[t]? := fun t ht => by
    rw [hW1, World.cell?_setCells_out g news (0 + i * 5) w.drew ⟨g, t, none⟩ (fun _ _ => by simp only; omega)]
    exact hc t
  obtain ⟨cs1, hh1⟩ := Has.setCells news (0 + i * 5) (show Has w.drew g cur 61 from hh)
  rw [← hW1] at hh1
  have hr : i + (n - (i + 1)) = n - 1 := by omega
  have hr1 : n - (n - 1) = 1 := by omega
  have hr2 : ((n - 1 : Nat) : Int) = (n : Int) - 1 := by omega
  have hcl : ∀ ty c, (Builtin.clear_ #[31] ty #[.slice (some ⟨g, (n - 1) * 5, none⟩) 1 c]).run Try.prog W1 = .ok (.tuple #[]) (W1.setCells g ((n - 1) * 5) [.int .i64 0, .int .i64 0, .int .i64 0, .int .i64 0, .int .i64 0]) := fun ty c =>
    clear_leg W1 ty g ((n - 1) * 5) c (fun j hj => by rw [hout _ (by omega), Array.getElem?_eq_getElem (by omega)]; rfl) (fun j _ => hh1.free _)
  have hfin : LegsAt (W1.setCells g ((n - 1) * 5) [.int .i64 0, .int .i64 0, .int .i64 0, .int .i64 0, .int .i64 0]) (some ⟨g, 0, none⟩) (L.eraseIdx i) := fun _ => by
    have hE : lgC (L.eraseIdx i) = lgC (L.take i) ++ news := by rw [List.eraseIdx_eq_take_drop_succ, lgC_append, hnews]
    have hx : ∀ t, t < (n - 1) * 5 → (W1.setCells g ((n - 1) * 5) [.int .i64 0, .int .i64 0, .int .i64 0, .int .i64 0, .int .i64 0]).cell? ⟨g, t, none⟩ = (lgC (L.eraseIdx i))[t]? := fun t ht => by
      rw [World.cell?_setCells_out g _ ((n - 1) * 5) W1 ⟨g, t, none⟩ (fun _ _ => by simp only; omega), hE]
      by_cases h1 : t < i * 5
      · have e : lgC L = lgC (L.take i) ++ lgC (L.drop i) := by rw [← lgC_append, List.take_append_drop]
        rw [hout t (.inl h1), List.getElem?_append_left (by rw [lgC_len, List.length_take]; omega), hget t (by omega), e, List.getElem?_append_left (by rw [lgC_len, List.length_take]; omega)]
      · obtain ⟨u, rfl⟩ : ∃ u, t = i * 5 + u := ⟨t - i * 5, by omega⟩
        rw [hin u (by omega), List.getElem?_append_right (by rw [lgC_len, List.length_take]; omega), lgC_len, List.length_take]
        congr 1
        omega
    refine ⟨g, 0, rfl, Nat.lt_of_lt_of_le hh.lt (hO1.setCells [.int .i64 0, .int .i64 0, .int .i64 0, .int .i64 0, .int .i64 0] ((n - 1) * 5)).size, fun k p hk => ?_⟩
    have hkl := (List.getElem?_eq_some_iff.1 hk).1
    rw [List.length_eraseIdx, if_pos (by omega), hn] at hkl
    obtain ⟨a0, a1, a2, a3, a4⟩ := lgC_get _ k p hk
    rw [Nat.zero_add, hx _ (by omega), hx _ (by omega), hx _ (by omega), hx _ (by omega), hx _ (by omega)]
    exact ⟨a0, a1, a2, a3, a4⟩
  have hO2 := hO1.setCells [.int .i64 0, .int .i64 0, .int .i64 0, .int .i64 0, .int .i64 0] ((n - 1) * 5)
  have HF := Lib.hid hfin
  have hW : Hid (W1 = w.drew.setCells g (0 + i * 5) news) := hW1
  have hiq : i ≤ q := by omega
  have hjq : i + 1 ≤ q := by omega
  have hwr : IntKind.i64.wrap ((i : Int) + 1) = (i : Int) + 1 := by rw [IntKind.wrap_i64]; omega
  have hp0 : (0 : Int) ≤ (i : Int) + 1 := by omega
  have hp1 : (i : Int) + 1 ≤ (n : Int) := by omega
  have hp2 : ((i : Int) + 1).toNat = i + 1 := by omega
  have hp3 : (i : Int) ≤ (i : Int) + 1 := by omega
  have hp4 : ((i : Int) == (i : Int) + 1) = false := by simp; omega
  have hp5 : n ≤ q := hnq
  clear hW1 hin hout hh1 hh hget hne hc hnews hsplit hnl hsz hfin
  go_enter Try.func41, Try.ntmps41
  go_wp2_with fail
  go_region_law (refine step_append_room rfl (.tmp 22) (.tmp 25) 31 rfl 61 i0 5 Try.underlying31 hi0 hs0 g 0 i q (by simp [Act.eval, Act.put]) A (n - (i + 1)) (q - (i + 1)) news (by simp [Act.eval, Act.put]) s1.out hsrc.out s2.out (by omega) s3.out ?_; rw [← hW.out])
  all_goals
    clear hA hsrc s1 s2 s3
    go_wp2_with fail
    go_ret
    exact ⟨rfl, HF.out, hO2⟩
end Go.Proofs.Ytbjahideaonimaa
