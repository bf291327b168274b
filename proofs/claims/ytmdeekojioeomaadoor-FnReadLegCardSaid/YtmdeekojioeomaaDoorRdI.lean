/- The contract of the program's ReadLeg. -/
import Derived.Test.YtmdeekojioeomaaDoorEnv
import Derived.Test.YtmdeekojioeomaaDoorSParts
namespace Go.Proofs.YtmdeekojioeomaaDoor
open Go.RowKit
set_option linter.all false
/-- What a reader returns. -/
def RdPost (s : ByteArray) (w : World) (r : Ending) (w' : World) : Prop :=
  ∃ (f t e n u : Int) (ok : Bool), r = .returned (.tuple #[.agg #[.int .i64 f, .int .i64 t, .int .i64 e, .int .i64 n, .int .i64 u], .bool ok]) ∧ Reads s f t e n u ok ∧ New w w'
theorem reads_none {s : ByteArray} (h : ∀ f t e n u, legB 6 f t e n u = true → ltx f t e n u ≠ s) : Reads s 0 0 0 0 0 false := Or.inr ⟨rfl, rfl, rfl, rfl, rfl, rfl, h⟩
theorem new_set5 {w w1 : World} {b : Nat} (h : New w w1) (hb : w.heap.size ≤ b) (a0 a1 a2 a3 a4 : Value) :
    New w (((((w1.setCell ⟨b, 0, none⟩ a0).setCell ⟨b, 1, none⟩ a1).setCell ⟨b, 2, none⟩ a2).setCell ⟨b, 3, none⟩ a3).setCell ⟨b, 4, none⟩ a4) :=
  ((((h.setCell (p := ⟨b, 0, none⟩) hb _).setCell (p := ⟨b, 1, none⟩) hb _).setCell (p := ⟨b, 2, none⟩) hb _).setCell (p := ⟨b, 3, none⟩) hb _).setCell (p := ⟨b, 4, none⟩) hb _
theorem no_cut1 {s x0 xr : ByteArray} (h : Lib.cut (bs s) [62] = (bs x0, bs xr, false)) : Reads s 0 0 0 0 0 false := reads_none fun f t e n u hv hs => by
  subst hs
  rw [(ltx_apart hv).1] at h
  simp at h
theorem apart1 {s x0 xr : ByteArray} (h : Lib.cut (bs s) [62] = (bs x0, bs xr, true)) {f t e n u : Int} (hv : legB 6 f t e n u = true) (hs : ltx f t e n u = s) : x0 = tx f ∧ bs xr = bs (tx t) ++ 58 :: bs (wtx e n u) := by
  subst hs
  rw [(ltx_apart hv).1] at h
  simp only [Prod.mk.injEq] at h
  exact ⟨(bs_inj h.1).symm, h.2.1.symm⟩
theorem no_cut2 {s x0 xr x1 xw : ByteArray} (h : Lib.cut (bs s) [62] = (bs x0, bs xr, true)) (h2 : Lib.cut (bs xr) [58] = (bs x1, bs xw, false)) : Reads s 0 0 0 0 0 false := reads_none fun f t e n u hv hs => by
  rw [(apart1 h hv hs).2, (ltx_apart hv).2] at h2
  simp at h2
theorem apart2 {s x0 xr x1 xw : ByteArray} (h : Lib.cut (bs s) [62] = (bs x0, bs xr, true)) (h2 : Lib.cut (bs xr) [58] = (bs x1, bs xw, true)) {f t e n u : Int} (hv : legB 6 f t e n u = true) (hs : ltx f t e n u = s) : x1 = tx t ∧ xw = wtx e n u := by
  rw [(apart1 h hv hs).2, (ltx_apart hv).2] at h2
  simp only [Prod.mk.injEq] at h2
  exact ⟨(bs_inj h2.1).symm, (bs_inj h2.2.1).symm⟩
theorem leg_bounds {f t e n u : Int} (hv : legB 6 f t e n u = true) : (-99 ≤ f ∧ f ≤ 99) ∧ (-99 ≤ t ∧ t ≤ 99) ∧ (-99 ≤ e ∧ e ≤ 99) ∧ (-99 ≤ n ∧ n ≤ 99) ∧ (-99 ≤ u ∧ u ≤ 99) := by
  obtain ⟨-, -, f0, f1, t0, t1, -, e0, e1, n0, n1, u0, u1⟩ := legB_t.1 hv
  omega
theorem no_three {s x0 xr x1 xw : ByteArray} (h : Lib.cut (bs s) [62] = (bs x0, bs xr, true)) (h2 : Lib.cut (bs xr) [58] = (bs x1, bs xw, true)) (h3 : Lib.countB xw ⟨#[44]⟩ ≠ 2) : Reads s 0 0 0 0 0 false := reads_none fun f t e n u hv hs => by
  obtain ⟨-, -, be, bn, bu⟩ := leg_bounds hv
  rw [(apart2 h h2 hv hs).2, (wtx_split e n u be bn bu).1] at h3
  exact h3 rfl
/-- The five texts of a text that is a leg's. -/
theorem apart5 {s x0 xr x1 xw x2 x3 x4 : ByteArray} (h : Lib.cut (bs s) [62] = (bs x0, bs xr, true)) (h2 : Lib.cut (bs xr) [58] = (bs x1, bs xw, true)) (h3 : Lib.splitB ⟨#[44]⟩ 0 2 xw = [x2, x3, x4])
    {f t e n u : Int} (hv : legB 6 f t e n u = true) (hs : ltx f t e n u = s) : x0 = tx f ∧ x1 = tx t ∧ x2 = tx e ∧ x3 = tx n ∧ x4 = tx u := by
  obtain ⟨-, -, be, bn, bu⟩ := leg_bounds hv
  rw [(apart2 h h2 hv hs).2, (wtx_split e n u be bn bu).2] at h3
  simp only [List.cons.injEq, and_true] at h3
  exact ⟨(apart1 h hv hs).1, (apart2 h h2 hv hs).1, h3.1.symm, h3.2.1.symm, h3.2.2.symm⟩
/-- The five numbers of a text that is a leg's. -/
theorem nums5 {s x0 xr x1 xw x2 x3 x4 : ByteArray} (h : Lib.cut (bs s) [62] = (bs x0, bs xr, true)) (h2 : Lib.cut (bs xr) [58] = (bs x1, bs xw, true)) (h3 : Lib.splitB ⟨#[44]⟩ 0 2 xw = [x2, x3, x4])
    {f t e n u : Int} (hv : legB 6 f t e n u = true) (hs : ltx f t e n u = s) : ∀ (j : Nat) (x : ByteArray), [x0, x1, x2, x3, x4][j]? = some x → ∃ v, [f, t, e, n, u][j]? = some v ∧ Lib.atoiAll (bs x) = .ok v := by
  obtain ⟨bf, bt, be, bn, bu⟩ := leg_bounds hv
  obtain ⟨rfl, rfl, rfl, rfl, rfl⟩ := apart5 h h2 h3 hv hs
  intro j x hx
  have hj : j < 5 := by have := (List.getElem?_eq_some_iff.1 hx).1; simpa using this
  rcases (by omega : j = 0 ∨ j = 1 ∨ j = 2 ∨ j = 3 ∨ j = 4) with rfl | rfl | rfl | rfl | rfl <;> (simp at hx; subst hx; simp)
  · exact tx_atoi f bf.1 bf.2
  · exact tx_atoi t bt.1 bt.2
  · exact tx_atoi e be.1 be.2
  · exact tx_atoi n bn.1 bn.2
  · exact tx_atoi u bu.1 bu.2
theorem five_cells {cs : Array Value} (h : cs.size = 5) {a b c d e : Value} (h0 : cs[0]? = some a) (h1 : cs[1]? = some b) (h2 : cs[2]? = some c) (h3 : cs[3]? = some d) (h4 : cs[4]? = some e) : cs = #[a, b, c, d, e] := by
  apply Array.ext_getElem?
  intro i
  rcases Nat.lt_or_ge i 5 with hi | hi
  · rcases (by omega : i = 0 ∨ i = 1 ∨ i = 2 ∨ i = 3 ∨ i = 4) with rfl | rfl | rfl | rfl | rfl
    · rw [h0]; rfl
    · rw [h1]; rfl
    · rw [h2]; rfl
    · rw [h3]; rfl
    · rw [h4]; rfl
  · rw [Array.getElem?_eq_none (by omega), Array.getElem?_eq_none (by simpa using hi)]
theorem txt_cell {x0 x1 x2 x3 x4 x : ByteArray} {k : Nat} (h : [x0, x1, x2, x3, x4][k]? = some x) : (#[.string x0, .string x1, .string x2, .string x3, .string x4] : Array Value)[k]? = some (.string x) := by
  have hj : k < 5 := by have := (List.getElem?_eq_some_iff.1 h).1; simpa using this
  rcases (by omega : k = 0 ∨ k = 1 ∨ k = 2 ∨ k = 3 ∨ k = 4) with rfl | rfl | rfl | rfl | rfl <;> (simp at h; subst h; rfl)
theorem done_step {xs : List ByteArray} {cs : Array Value} {k : Nat} {x : ByteArray} {v : Int} (hd : ∀ (j : Nat) (y : ByteArray), j < k → xs[j]? = some y → ∃ v, cs[j]? = some (.int .i64 v) ∧ Lib.atoiAll (bs y) = .ok v) (hk : k < cs.size) (hx : xs[k]? = some x) (hv : Lib.atoiAll (bs x) = .ok v) :
    ∀ (j : Nat) (y : ByteArray), j < k + 1 → xs[j]? = some y → ∃ v', (cs.setIfInBounds k (.int .i64 v))[j]? = some (.int .i64 v') ∧ Lib.atoiAll (bs y) = .ok v' := by
  intro j y hj hy
  by_cases e : j = k
  · subst e
    rw [hx] at hy
    cases hy
    exact ⟨v, by rw [Array.getElem?_setIfInBounds_self_of_lt hk], hv⟩
  · obtain ⟨v', h1, h2⟩ := hd j y (by omega) hy
    exact ⟨v', by rw [Array.getElem?_setIfInBounds_ne (fun h => e h.symm)]; exact h1, h2⟩
theorem bs_toArray (x : ByteArray) : (⟨(bs x).toArray⟩ : ByteArray) = x := by
  obtain ⟨⟨l⟩⟩ := x
  rfl
theorem cut_parts (s : ByteArray) (c : UInt8) : ∃ (a b : ByteArray) (o : Bool), Lib.cut (bs s) [c] = (bs a, bs b, o) ∧ a.size ≤ s.size ∧ b.size ≤ s.size ∧
    ∀ w, Env w → s.size < 4294967281 → Calls Tryd.prog 30 #[.string s, .string ⟨#[c]⟩] w fun e w' => e = .returned (.tuple #[.string a, .string b, .bool o]) ∧ New w w' := by
  have h := cut_le (bs s) c
  refine ⟨⟨(Lib.cut (bs s) [c]).1.toArray⟩, ⟨(Lib.cut (bs s) [c]).2.1.toArray⟩, (Lib.cut (bs s) [c]).2.2, rfl, by rw [bs_size, bs_size]; exact h.1, by rw [bs_size, bs_size]; exact h.2, fun w hE hs => cut_any s ⟨#[c]⟩ w hE hs⟩
set_option maxHeartbeats 2000000 in
set_option maxRecDepth 100000 in
theorem implRd_a (s x0 xr : ByteArray) (w : World) (hE : Env w) (hR : Reads s 0 0 0 0 0 false)
    (HC1 : ∀ w, Env w → Calls Tryd.prog 30 #[.string s, .string ⟨#[62]⟩] w fun e w' => e = .returned (.tuple #[.string x0, .string xr, .bool false]) ∧ New w w') :
    Calls Tryd.prog 13 #[.string s] w (RdPost s w) := by
  have h1 : New w (w.alloc (Obj.cells #[.int .i64 0, .int .i64 0, .int .i64 0, .int .i64 0, .int .i64 0] 24)) := (by repeat (first | with_reducible exact New.refl _ | with_reducible assumption | with_reducible refine New.alloc ?_ _ | with_reducible refine New.drewN ?_ _ | with_reducible refine New.drew ?_ | with_reducible refine New.setCell ?_ (by first | omega | (simp; done) | (simp; omega)) _ | with_reducible refine New.tail (by assumption) ?_))
  have h2 := Has.new w #[.int .i64 0, .int .i64 0, .int .i64 0, .int .i64 0, .int .i64 0] 24
  have hz : w.heap.size < (w.alloc (Obj.cells #[.int .i64 0, .int .i64 0, .int .i64 0, .int .i64 0, .int .i64 0] 24)).heap.size := by simp
  have HE := Lib.hid (hE.keep h1)
  clear hE
  go_enter Tryd.func13, Tryd.ntmps13
  go_upto_region 1 with fail
  generalize (w.alloc (Obj.cells #[.int .i64 0, .int .i64 0, .int .i64 0, .int .i64 0, .int .i64 0] 24)) = W0 at *
  go_wp2_with fail
  refine (HC1 _ HE.out).mono ?_
  rintro _ w1 ⟨rfl, hn1⟩
  have h3 := h2.keep hn1
  have c1 := h3.at5
  have c2 := (h3.set5 (y0 := .int .i64 0) (y1 := .int .i64 0) (y2 := .int .i64 0) (y3 := .int .i64 0) (y4 := .int .i64 0)).at5
  go_wp2_with fail
  exact bodyPost_ret (v := .tuple #[.agg #[.int .i64 0, .int .i64 0, .int .i64 0, .int .i64 0, .int .i64 0], .bool false]) (by simp [results, Tryd.results13, go_sem, c2]) rfl ⟨_, _, _, _, _, _, rfl, hR, new_set5 (h1.trans hn1) (Nat.le_refl _) _ _ _ _ _⟩
set_option maxHeartbeats 2000000 in
set_option maxRecDepth 100000 in
theorem implRd_b (s x0 xr x1 xw : ByteArray) (w : World) (hE : Env w) (hR : Reads s 0 0 0 0 0 false)
    (HC1 : ∀ w, Env w → Calls Tryd.prog 30 #[.string s, .string ⟨#[62]⟩] w fun e w' => e = .returned (.tuple #[.string x0, .string xr, .bool true]) ∧ New w w')
    (HC2 : ∀ w, Env w → Calls Tryd.prog 30 #[.string xr, .string ⟨#[58]⟩] w fun e w' => e = .returned (.tuple #[.string x1, .string xw, .bool false]) ∧ New w w') :
    Calls Tryd.prog 13 #[.string s] w (RdPost s w) := by
  have h1 : New w (w.alloc (Obj.cells #[.int .i64 0, .int .i64 0, .int .i64 0, .int .i64 0, .int .i64 0] 24)) := (by repeat (first | with_reducible exact New.refl _ | with_reducible assumption | with_reducible refine New.alloc ?_ _ | with_reducible refine New.drewN ?_ _ | with_reducible refine New.drew ?_ | with_reducible refine New.setCell ?_ (by first | omega | (simp; done) | (simp; omega)) _ | with_reducible refine New.tail (by assumption) ?_))
  have h2 := Has.new w #[.int .i64 0, .int .i64 0, .int .i64 0, .int .i64 0, .int .i64 0] 24
  have hz : w.heap.size < (w.alloc (Obj.cells #[.int .i64 0, .int .i64 0, .int .i64 0, .int .i64 0, .int .i64 0] 24)).heap.size := by simp
  have HE := Lib.hid (hE.keep h1)
  clear hE
  go_enter Tryd.func13, Tryd.ntmps13
  go_upto_region 1 with fail
  generalize (w.alloc (Obj.cells #[.int .i64 0, .int .i64 0, .int .i64 0, .int .i64 0, .int .i64 0] 24)) = W0 at *
  go_wp2_with fail
  refine (HC1 _ HE.out).mono ?_
  rintro _ w1 ⟨rfl, hn1⟩
  go_wp2_with fail
  refine (HC2 _ (HE.out.keep hn1)).mono ?_
  rintro _ w2 ⟨rfl, hn2⟩
  have hk := hn1.trans hn2
  have h3 := h2.keep hk
  have c1 := h3.at5
  have c2 := (h3.set5 (y0 := .int .i64 0) (y1 := .int .i64 0) (y2 := .int .i64 0) (y3 := .int .i64 0) (y4 := .int .i64 0)).at5
  go_wp2_with fail
  exact bodyPost_ret (v := .tuple #[.agg #[.int .i64 0, .int .i64 0, .int .i64 0, .int .i64 0, .int .i64 0], .bool false]) (by simp [results, Tryd.results13, go_sem, c2]) rfl ⟨_, _, _, _, _, _, rfl, hR, new_set5 (h1.trans hk) (Nat.le_refl _) _ _ _ _ _⟩
set_option maxHeartbeats 2000000 in
set_option maxRecDepth 100000 in
theorem implRd_c (s x0 xr x1 xw : ByteArray) (N : Nat) (L : List ByteArray) (w : World) (hE : Env w) (hR : Reads s 0 0 0 0 0 false) (hN : N ≠ 2) (hN2 : N ≤ 100000000)
    (HC1 : ∀ w, Env w → Calls Tryd.prog 30 #[.string s, .string ⟨#[62]⟩] w fun e w' => e = .returned (.tuple #[.string x0, .string xr, .bool true]) ∧ New w w')
    (HC2 : ∀ w, Env w → Calls Tryd.prog 30 #[.string xr, .string ⟨#[58]⟩] w fun e w' => e = .returned (.tuple #[.string x1, .string xw, .bool true]) ∧ New w w')
    (HS : ∀ w, Env w → Calls Tryd.prog 31 #[.string xw, .string ⟨#[44]⟩] w fun e w' => ∃ g, e = .returned (.slice (some ⟨g, 0, none⟩) (N + 1) (N + 1)) ∧ Has w' g (L.map Value.string).toArray 9 ∧ New w w') :
    Calls Tryd.prog 13 #[.string s] w (RdPost s w) := by
  have h1 : New w (w.alloc (Obj.cells #[.int .i64 0, .int .i64 0, .int .i64 0, .int .i64 0, .int .i64 0] 24)) := (by repeat (first | with_reducible exact New.refl _ | with_reducible assumption | with_reducible refine New.alloc ?_ _ | with_reducible refine New.drewN ?_ _ | with_reducible refine New.drew ?_ | with_reducible refine New.setCell ?_ (by first | omega | (simp; done) | (simp; omega)) _ | with_reducible refine New.tail (by assumption) ?_))
  have h2 := Has.new w #[.int .i64 0, .int .i64 0, .int .i64 0, .int .i64 0, .int .i64 0] 24
  have hz : w.heap.size < (w.alloc (Obj.cells #[.int .i64 0, .int .i64 0, .int .i64 0, .int .i64 0, .int .i64 0] 24)).heap.size := by simp
  have HE := Lib.hid (hE.keep h1)
  clear hE
  have hne : (((N : Int) + 1) == 3) = false := by simp; omega
  clear hN
  go_enter Tryd.func13, Tryd.ntmps13
  go_upto_region 1 with fail
  generalize (w.alloc (Obj.cells #[.int .i64 0, .int .i64 0, .int .i64 0, .int .i64 0, .int .i64 0] 24)) = W0 at *
  go_wp2_with fail
  refine (HC1 _ HE.out).mono ?_
  rintro _ w1 ⟨rfl, hn1⟩
  go_wp2_with fail
  refine (HC2 _ (HE.out.keep hn1)).mono ?_
  rintro _ w2 ⟨rfl, hn2⟩
  have hk2 := hn1.trans hn2
  go_wp2_with fail
  refine (HS _ (HE.out.keep hk2)).mono ?_
  rintro _ w3 ⟨g, rfl, -, hn3⟩
  have hk := hk2.trans hn3
  have h3 := h2.keep hk
  have c1 := h3.at5
  have c2 := (h3.set5 (y0 := .int .i64 0) (y1 := .int .i64 0) (y2 := .int .i64 0) (y3 := .int .i64 0) (y4 := .int .i64 0)).at5
  go_wp2_with fail
  exact bodyPost_ret (v := .tuple #[.agg #[.int .i64 0, .int .i64 0, .int .i64 0, .int .i64 0, .int .i64 0], .bool false]) (by simp [results, Tryd.results13, go_sem, c2]) rfl ⟨_, _, _, _, _, _, rfl, hR, new_set5 (h1.trans hk) (Nat.le_refl _) _ _ _ _ _⟩
set_option maxHeartbeats 2000000 in
set_option maxRecDepth 100000 in
theorem implRd_d (s x0 xr x1 xw x2 x3 x4 : ByteArray) (w : World) (hE : Env w)
    (hsz : ∀ (j : Nat) (x : ByteArray), [x0, x1, x2, x3, x4][j]? = some x → x.size ≤ 2000000)
    (hbad : ∀ (j : Nat) (x : ByteArray), [x0, x1, x2, x3, x4][j]? = some x → (∀ v, Lib.atoiAll (bs x) ≠ .ok v) → Reads s 0 0 0 0 0 false)
    (hend : ∀ f t e n u : Int, (∀ (j : Nat) (x : ByteArray), [x0, x1, x2, x3, x4][j]? = some x → ∃ v, [f, t, e, n, u][j]? = some v ∧ Lib.atoiAll (bs x) = .ok v) → (ltx f t e n u = s → Reads s f t e n u true) ∧ (ltx f t e n u ≠ s → Reads s 0 0 0 0 0 false))
    (HC1 : ∀ w, Env w → Calls Tryd.prog 30 #[.string s, .string ⟨#[62]⟩] w fun e w' => e = .returned (.tuple #[.string x0, .string xr, .bool true]) ∧ New w w')
    (HC2 : ∀ w, Env w → Calls Tryd.prog 30 #[.string xr, .string ⟨#[58]⟩] w fun e w' => e = .returned (.tuple #[.string x1, .string xw, .bool true]) ∧ New w w')
    (HS : ∀ w, Env w → Calls Tryd.prog 31 #[.string xw, .string ⟨#[44]⟩] w fun e w' => ∃ g, e = .returned (.slice (some ⟨g, 0, none⟩) 3 3) ∧ Has w' g #[.string x2, .string x3, .string x4] 9 ∧ New w w') :
    Calls Tryd.prog 13 #[.string s] w (RdPost s w) := by
  have h1 : New w (w.alloc (Obj.cells #[.int .i64 0, .int .i64 0, .int .i64 0, .int .i64 0, .int .i64 0] 24)) := (by repeat (first | with_reducible exact New.refl _ | with_reducible assumption | with_reducible refine New.alloc ?_ _ | with_reducible refine New.drewN ?_ _ | with_reducible refine New.drew ?_ | with_reducible refine New.setCell ?_ (by first | omega | (simp; done) | (simp; omega)) _ | with_reducible refine New.tail (by assumption) ?_))
  have h2 := Has.new w #[.int .i64 0, .int .i64 0, .int .i64 0, .int .i64 0, .int .i64 0] 24
  have hz : w.heap.size < (w.alloc (Obj.cells #[.int .i64 0, .int .i64 0, .int .i64 0, .int .i64 0, .int .i64 0] 24)).heap.size := by simp
  have HE := Lib.hid (hE.keep h1)
  clear hE
  go_enter Tryd.func13, Tryd.ntmps13
  go_upto_region 1 with fail
  generalize (w.alloc (Obj.cells #[.int .i64 0, .int .i64 0, .int .i64 0, .int .i64 0, .int .i64 0] 24)) = W0 at *
  go_wp2_with fail
  refine (HC1 _ HE.out).mono ?_
  rintro _ w1 ⟨rfl, hn1⟩
  go_wp2_with fail
  refine (HC2 _ (HE.out.keep hn1)).mono ?_
  rintro _ w2 ⟨rfl, hn2⟩
  have hk2 := hn1.trans hn2
  go_wp2_with fail
  refine (HS _ (HE.out.keep hk2)).mono ?_
  rintro _ w3 ⟨g, rfl, h3, hn3⟩
  have hk3 := hk2.trans hn3
  have c3 := h3.cells3
  have hglt := h3.lt
  clear hn1 hn2 hn3 hk2 HC1 HC2 HS
  go_upto_region 11 with fail
  have h4 := Has.new w3 #[.int .i64 0, .int .i64 0, .int .i64 0, .int .i64 0, .int .i64 0] 55
  have hk4 : New w3 (w3.alloc (Obj.cells #[.int .i64 0, .int .i64 0, .int .i64 0, .int .i64 0, .int .i64 0] 55)) := (by repeat (first | with_reducible exact New.refl _ | with_reducible assumption | with_reducible refine New.alloc ?_ _ | with_reducible refine New.drewN ?_ _ | with_reducible refine New.drew ?_ | with_reducible refine New.setCell ?_ (by first | omega | (simp; done) | (simp; omega)) _ | with_reducible refine New.tail (by assumption) ?_))
  have hz4 : w3.heap.size < (w3.alloc (Obj.cells #[.int .i64 0, .int .i64 0, .int .i64 0, .int .i64 0, .int .i64 0] 55)).heap.size := by simp
  obtain ⟨gN, hgN⟩ : ∃ gN, w3.heap.size = gN := ⟨_, rfl⟩
  rw [hgN] at h4 hz4 hglt ⊢
  generalize (w3.alloc (Obj.cells #[.int .i64 0, .int .i64 0, .int .i64 0, .int .i64 0, .int .i64 0] 55)) = W4 at *
  have c4 := fun w' (hn : New W4 w') => c3 w' (hk4.trans hn)
  clear c3
  go_cut [51, 52, 53] (fun s51 s52 s53 wx => ∃ gS, s51 = .slice (some ⟨gS, 0, none⟩) 5 5 ∧ s52 = .int .i64 5 ∧ s53 = .int .i64 0 ∧ Has wx gS #[.string x0, .string x1, .string x2, .string x3, .string x4] 9 ∧ W4.heap.size ≤ gS ∧ New W4 wx)
  case first =>
    go_region_with fail
    all_goals
      go_wp2_with fail
      go_meet
      exact ⟨W4.heap.size, rfl, rfl, rfl, Has.new _ _ _, Nat.le_refl _, (by repeat (first | with_reducible exact New.refl _ | with_reducible assumption | with_reducible refine New.alloc ?_ _ | with_reducible refine New.drewN ?_ _ | with_reducible refine New.drew ?_ | with_reducible refine New.setCell ?_ (by first | omega | (simp; done) | (simp; omega)) _ | with_reducible refine New.tail (by assumption) ?_))⟩
  case rest =>
    obtain ⟨gS, rfl, rfl, rfl, h5, hgS, hn5⟩ := hcut
    have hW := hk3.trans (hk4.trans hn5)
    have h4c := h4.keep hn5
    have h5lt := h5.lt
    have hgN0 : W0.heap.size ≤ gN := by rw [← hgN]; exact hk3.size
    have Hbad := Lib.hid hbad
    have Hend := Lib.hid hend
    have Hsz := Lib.hid hsz
    have hgSN : gS ≠ gN := by omega
    clear hgN hk4 hn5 hk3 h3 h4 hbad hend hsz
    go_wp2_with fail
    go_loopw [53] (fun i wr => ∃ (k : Nat) (cs : Array Value), k ≤ 5 ∧ i = .int .i64 k ∧ Has wr gN cs 55 ∧ cs.size = 5 ∧ (∀ (j : Nat) (x : ByteArray), j < k → [x0, x1, x2, x3, x4][j]? = some x → ∃ v, cs[j]? = some (.int .i64 v) ∧ Lib.atoiAll (bs x) = .ok v) ∧ Only gN wc wr) (fun i _ => 5 - (intOf i).toNat)
    case atStart => exact ⟨0, _, Nat.zero_le _, rfl, h4c, rfl, fun j x hj => absurd hj (Nat.not_lt_zero _), Only.refl _ _⟩
    case round =>
      obtain ⟨k, cs, hk, rfl, hN, hcs, hdone, ho⟩ := hrel
      have hWr := New.only hW ho hgN0
      have HD := Lib.hid hdone
      have HCs := Lib.hid hcs
      clear hdone hcs
      by_cases hlt : k < 5
      · obtain ⟨x, hx⟩ : ∃ x, [x0, x1, x2, x3, x4][k]? = some x := ⟨_, List.getElem?_eq_getElem (by simpa using hlt)⟩
        have ct : ∀ w', New wr w' → w'.cell? ⟨gS, k, none⟩ = some (.string x) := fun w' hn => by rw [(h5.only ho hgSN).cells k w' hn, txt_cell hx]
        have HX := Lib.hid hx
        have hxs := Hsz.out k x hx
        have HA := fun w h => atoi_any x w h (by omega)
        have hlt' : (k : Int) < 5 := by omega
        clear hx
        go_wp2_with fail
        refine (HA _ (HE.out.keep hWr)).mono ?_
        rintro _ w5 ⟨hn5, ⟨v, hv, rfl⟩ | ⟨hv, z, tp, N, rfl⟩⟩
        · have HV := Lib.hid hv
          have hN5 := hN.keep hn5
          have cN : w5.cell? ⟨gN, k, none⟩ = some (cs[k]'(by rw [HCs.out]; exact hlt)) := by rw [hN5.cells k w5 (New.refl _)]; simp
          have fN := hN5.free k
          clear hv
          go_wp2_with fail
          go_roundw
          case rel => exact ⟨k + 1, _, by omega, by go_num, hN5.set k _, by simp [HCs.out], done_step HD.out (by rw [HCs.out]; exact hlt) HX.out HV.out, (ho.trans (Only.of_new hn5)).setCell rfl _⟩
          case measure => simp [intOf]; omega
        · have HB := Lib.hid (Hbad.out k x HX.out hv)
          have h6 := h2.keep (hWr.trans hn5)
          have c1 := h6.at5
          have c2 := (h6.set5 (y0 := .int .i64 0) (y1 := .int .i64 0) (y2 := .int .i64 0) (y3 := .int .i64 0) (y4 := .int .i64 0)).at5
          clear hv
          go_wp2_with fail
          exact bodyPost_ret (v := .tuple #[.agg #[.int .i64 0, .int .i64 0, .int .i64 0, .int .i64 0, .int .i64 0], .bool false]) (by simp [results, Tryd.results13, go_sem, c2]) rfl ⟨_, _, _, _, _, _, rfl, HB.out, new_set5 (h1.trans (hWr.trans hn5)) (Nat.le_refl _) _ _ _ _ _⟩
      · obtain rfl : k = 5 := by omega
        obtain ⟨f, f1, f2⟩ := HD.out 0 x0 (by omega) rfl
        obtain ⟨t, t1, t2⟩ := HD.out 1 x1 (by omega) rfl
        obtain ⟨e, e1, e2⟩ := HD.out 2 x2 (by omega) rfl
        obtain ⟨n, n1, n2⟩ := HD.out 3 x3 (by omega) rfl
        obtain ⟨u, u1, u2⟩ := HD.out 4 x4 (by omega) rfl
        obtain rfl := five_cells HCs.out f1 t1 e1 n1 u1
        have HF := Lib.hid (Hend.out f t e n u (fun j x hx => by
          have hj : j < 5 := by have := (List.getElem?_eq_some_iff.1 hx).1; simpa using this
          rcases (by omega : j = 0 ∨ j = 1 ∨ j = 2 ∨ j = 3 ∨ j = 4) with rfl | rfl | rfl | rfl | rfl <;> (simp at hx; subst hx; simp)
          · exact f2
          · exact t2
          · exact e2
          · exact n2
          · exact u2))
        clear HD HCs Hend Hbad Hsz f1 f2 t1 t2 e1 e2 n1 n2 u1 u2 h5 hgSN h5lt hlt
        have cN := hN.cells5
        have HT := fun w' (hn : New wr w') => implLegText_any f t e n u w' (HE.out.keep (hWr.trans hn)).tab
        by_cases hs : ltx f t e n u = s
        · have HR := Lib.hid (HF.out.1 hs)
          rw [hs] at HT
          clear HF hs
          go_wp2_with fail
          refine (HT _ (by repeat (first | with_reducible exact New.refl _ | with_reducible assumption | with_reducible refine New.alloc ?_ _ | with_reducible refine New.drewN ?_ _ | with_reducible refine New.drew ?_ | with_reducible refine New.setCell ?_ (by first | omega | (simp; done) | (simp; omega)) _ | with_reducible refine New.tail (by assumption) ?_))).mono ?_
          rintro _ w7 ⟨rfl, hn7⟩
          have c7 := ((Has.new wr #[.int .i64 f, .int .i64 t, .int .i64 e, .int .i64 n, .int .i64 u] 24).keep hn7).at5
          have hk7 : New wr w7 := ((New.refl wr).alloc _).trans hn7
          have h6 := h2.keep (hWr.trans hk7)
          have c1 := h6.at5
          have c2 := (h6.set5 (y0 := .int .i64 f) (y1 := .int .i64 t) (y2 := .int .i64 e) (y3 := .int .i64 n) (y4 := .int .i64 u)).at5
          go_wp2_with fail
          exact bodyPost_ret (v := .tuple #[.agg #[.int .i64 f, .int .i64 t, .int .i64 e, .int .i64 n, .int .i64 u], .bool true]) (by simp [results, Tryd.results13, go_sem, c2]) rfl ⟨_, _, _, _, _, _, rfl, HR.out, new_set5 (h1.trans (hWr.trans hk7)) (Nat.le_refl _) _ _ _ _ _⟩
        · have HR := Lib.hid (HF.out.2 hs)
          obtain ⟨X, hX⟩ : ∃ X, ltx f t e n u = X := ⟨_, rfl⟩
          rw [hX] at HT hs
          have hne := txt_ne hs
          clear HF hX
          go_wp2_with fail
          refine (HT _ (by repeat (first | with_reducible exact New.refl _ | with_reducible assumption | with_reducible refine New.alloc ?_ _ | with_reducible refine New.drewN ?_ _ | with_reducible refine New.drew ?_ | with_reducible refine New.setCell ?_ (by first | omega | (simp; done) | (simp; omega)) _ | with_reducible refine New.tail (by assumption) ?_))).mono ?_
          rintro _ w7 ⟨rfl, hn7⟩
          have hk7 : New wr w7 := ((New.refl wr).alloc _).trans hn7
          have h6 := h2.keep (hWr.trans hk7)
          have c1 := h6.at5
          have c2 := (h6.set5 (y0 := .int .i64 0) (y1 := .int .i64 0) (y2 := .int .i64 0) (y3 := .int .i64 0) (y4 := .int .i64 0)).at5
          go_wp2_with fail
          exact bodyPost_ret (v := .tuple #[.agg #[.int .i64 0, .int .i64 0, .int .i64 0, .int .i64 0, .int .i64 0], .bool false]) (by simp [results, Tryd.results13, go_sem, c2]) rfl ⟨_, _, _, _, _, _, rfl, HR.out, new_set5 (h1.trans (hWr.trans hk7)) (Nat.le_refl _) _ _ _ _ _⟩
theorem ltx_nil (f t e n u : Int) (h : ltx f t e n u ≠ ⟨#[]⟩) : legB 6 f t e n u = true := by
  cases hv : legB 6 f t e n u
  · exact absurd (ltx_no hv) h
  · rfl
theorem implReadLeg_any (s : ByteArray) (w : World) (hE : Env w) (hs : s.size ≤ 2000000) : Calls Tryd.prog 13 #[.string s] w (RdPost s w) := by
  obtain ⟨x0, xr, o1, hc1, z0, zr, HC1⟩ := cut_parts s 62
  have HC1' := fun w h => HC1 w h (by omega)
  cases o1
  · exact implRd_a s x0 xr w hE (no_cut1 hc1) HC1'
  obtain ⟨x1, xw, o2, hc2, z1, zw, HC2⟩ := cut_parts xr 58
  have HC2' := fun w h => HC2 w h (by omega)
  cases o2
  · exact implRd_b s x0 xr x1 xw w hE (no_cut2 hc1 hc2) HC1' HC2'
  have HS := fun w h => split_any xw 44 w h (by omega)
  have hlen := Lib.splitB_all ⟨#[44]⟩ (Nat.le_refl 1) 0 _ xw rfl
  by_cases hN : Lib.countB xw ⟨#[44]⟩ = 2
  · rw [hN] at HS hlen
    match hL : Lib.splitB ⟨#[44]⟩ 0 2 xw, hlen with
    | [x2, x3, x4], _ =>
      have hz : ∀ x, x ∈ [x2, x3, x4] → x.size ≤ xw.size := fun x hx => splitB_le ⟨#[44]⟩ 2 xw x (by rw [hL]; exact hx)
      rw [hL] at HS
      have hne : s ≠ ⟨#[]⟩ := fun e => by
        subst e
        have := cut_nil 62
        rw [show ([] : List UInt8) = bs ⟨#[]⟩ from rfl, hc1] at this
        cases this
      have hnum : ∀ {f t e n u : Int}, legB 6 f t e n u = true → ltx f t e n u = s → ∀ (j : Nat) (x : ByteArray), [x0, x1, x2, x3, x4][j]? = some x → ∃ v, [f, t, e, n, u][j]? = some v ∧ Lib.atoiAll (bs x) = .ok v := fun hv hs => nums5 hc1 hc2 hL hv hs
      refine implRd_d s x0 xr x1 xw x2 x3 x4 w hE ?_ ?_ ?_ HC1' HC2' HS
      · intro j x hx
        have hm := List.mem_of_getElem? hx
        simp only [List.mem_cons, List.mem_nil_iff, or_false] at hm
        rcases hm with rfl | rfl | rfl | rfl | rfl
        · omega
        · omega
        · have := hz x (by simp); omega
        · have := hz x (by simp); omega
        · have := hz x (by simp); omega
      · exact fun j x hx hno => reads_none fun f t e n u hv hs => by
          obtain ⟨v, -, h⟩ := hnum hv hs j x hx
          exact hno v h
      · intro f t e n u hv
        refine ⟨fun hs => Or.inl ⟨rfl, ltx_nil f t e n u (by rw [hs]; exact hne), hs⟩, fun hs => reads_none fun f' t' e' n' u' hv' hs' => ?_⟩
        have hk := hnum hv' hs'
        have same : ∀ (j : Nat) (x : ByteArray) (a b : Int), [x0, x1, x2, x3, x4][j]? = some x → [f, t, e, n, u][j]? = some a → [f', t', e', n', u'][j]? = some b → a = b := fun j x a b hx ha hb => by
          obtain ⟨v, h1, h2⟩ := hv j x hx
          obtain ⟨v', h1', h2'⟩ := hk j x hx
          rw [ha] at h1
          rw [hb] at h1'
          rw [h2] at h2'
          cases h1; cases h1'; cases h2'
          rfl
        obtain rfl := same 0 x0 f f' rfl rfl rfl
        obtain rfl := same 1 x1 t t' rfl rfl rfl
        obtain rfl := same 2 x2 e e' rfl rfl rfl
        obtain rfl := same 3 x3 n n' rfl rfl rfl
        obtain rfl := same 4 x4 u u' rfl rfl rfl
        exact hs hs'
  · have h0 : Lib.countB xw ⟨#[44]⟩ ≤ 100000000 := by
      have : Lib.countB xw ⟨#[44]⟩ = Lib.count (bs xw) [44] := rfl
      rw [this, Lib.count_one]
      have := List.count_le_length (a := (44 : UInt8)) (l := bs xw)
      rw [← bs_size] at this
      omega
    exact implRd_c s x0 xr x1 xw _ _ w hE (no_three hc1 hc2 hN) hN h0 HC1' HC2' HS
end Go.Proofs.YtmdeekojioeomaaDoor
