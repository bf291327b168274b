/- Contracts of LegText (program and reference), and of alive. -/
import Derived.Test.YtmdeekojioeomaaDoorLeg
import Derived.Test.YtmdeekojioeomaaDoorShelf
namespace Go.Proofs.YtmdeekojioeomaaDoor
open Go.RowKit
set_option linter.all false
/-- The library's table of powers is laid. -/
def Tab (w : World) : Prop := Lib.TabIs Tryd.prog w "internal/strconv.uint64pow10" .u64 Lib.pow10Tab
theorem tabG : (Tryd.prog.globalNamed "internal/strconv.uint64pow10").isSome = true := by kernel_rfl
theorem Tab.keep {w w' : World} (h : Tab w) (hb : New w w') : Tab w' := by
  obtain ⟨g, hg⟩ := Option.isSome_iff_exists.1 tabG
  unfold Tab Lib.TabIs World.var? at h ⊢
  rw [hg] at h ⊢
  simp only [Option.bind_some] at h ⊢
  have hlt : g < w.heap.size := by
    rcases Nat.lt_or_ge g w.heap.size with h' | h'
    · exact h'
    · rw [Array.getElem?_eq_none h'] at h; cases h
  rw [Below.block hb g hlt]
  exact h
theorem new_grow (w : World) (k : Nat) (os : Array Obj) : New w (Go.Sort.grow (w.drewN k) os) :=
  ⟨rfl, rfl, rfl, by show w.heap.size ≤ (w.heap ++ os).size; simp, fun i hi => by
    show (w.heap ++ os)[i]? = _
    rw [Array.getElem?_append_left hi]⟩
def tx (n : Int) : ByteArray := ⟨(Lib.itoa n).toArray⟩
theorem itoa_any (n : Int) (w : World) (h0 : -99 ≤ n) (h1 : n ≤ 99) (ht : Tab w) : Calls Tryd.prog 23 #[.int .i64 n] w fun e w' => e = .returned (.string (tx n)) ∧ New w w' :=
  (Tryd.strconv_Itoa n (by omega) (by omega) w ht).mono fun e w' ⟨h1, k, os, h2⟩ => ⟨h1, by subst h2; exact new_grow w k os⟩
theorem tx_size (n : Int) (h0 : -99 ≤ n) (h1 : n ≤ 99) : (tx n).size ≤ 3 := by
  have h : ∀ k : Fin 199, (tx ((k.val : Int) - 99)).size ≤ 3 := by decide +kernel
  have := h ⟨(n + 99).toNat, by omega⟩
  rw [show (((n + 99).toNat : Nat) : Int) - 99 = n by omega] at this
  exact this
/-- The text of three numbers. -/
def wtx (e n u : Int) : ByteArray := tx e ++ ⟨#[44]⟩ ++ tx n ++ ⟨#[44]⟩ ++ tx u
set_option maxHeartbeats 1000000 in
set_option maxRecDepth 100000 in
theorem wayText_any (e n u : Int) (w : World) (he : -99 ≤ e ∧ e ≤ 99) (hn : -99 ≤ n ∧ n ≤ 99) (hu : -99 ≤ u ∧ u ≤ 99) (ht : Tab w) :
    Calls Tryd.prog 24 #[.agg #[.int .i64 e, .int .i64 n, .int .i64 u]] w fun r w' => r = .returned (.string (wtx e n u)) ∧ New w w' := by
  have h1 : New w (w.alloc (Obj.cells #[.int .i64 e, .int .i64 n, .int .i64 u] 47)) := (by repeat (first | with_reducible exact New.refl _ | with_reducible assumption | with_reducible refine New.alloc ?_ _ | with_reducible refine New.drewN ?_ _ | with_reducible refine New.drew ?_ | with_reducible refine New.setCell ?_ (by first | omega | (simp; done) | (simp; omega)) _ | with_reducible refine New.tail (by assumption) ?_))
  have h2 := Has.new w #[.int .i64 e, .int .i64 n, .int .i64 u] 47
  have HT := Lib.hid (ht.keep h1)
  have HE := fun w => itoa_any e w he.1 he.2
  have HN := fun w => itoa_any n w hn.1 hn.2
  have HU := fun w => itoa_any u w hu.1 hu.2
  have z1 := tx_size e he.1 he.2
  have z2 := tx_size n hn.1 hn.2
  have z3 := tx_size u hu.1 hu.2
  unfold wtx
  obtain ⟨E, hE⟩ : ∃ x, tx e = x := ⟨_, rfl⟩
  obtain ⟨N, hN⟩ : ∃ x, tx n = x := ⟨_, rfl⟩
  obtain ⟨U, hU⟩ : ∃ x, tx u = x := ⟨_, rfl⟩
  rw [hE] at HE z1 ⊢
  rw [hN] at HN z2 ⊢
  rw [hU] at HU z3 ⊢
  have s1 : ¬ (9223372036854775807 < E.size + 1) := by omega
  have s2 : ¬ (9223372036854775807 < E.size + 1 + N.size) := by omega
  have s3 : ¬ (9223372036854775807 < E.size + 1 + N.size + 1) := by omega
  have s4 : ¬ (9223372036854775807 < E.size + 1 + N.size + 1 + U.size) := by omega
  clear ht hE hN hU he hn hu
  go_enter Tryd.func24, Tryd.ntmps24
  go_upto_region 1 with fail
  generalize (w.alloc (Obj.cells #[.int .i64 e, .int .i64 n, .int .i64 u] 47)) = W0 at *
  have c2 := h2.cells3
  clear h2
  go_wp2_with fail
  go_region_held3 (fun w' => New W0 w') ((repeat (first | with_reducible exact New.refl _ | with_reducible assumption | with_reducible refine New.alloc ?_ _ | with_reducible refine New.drewN ?_ _ | with_reducible refine New.drew ?_ | with_reducible refine New.setCell ?_ (by first | omega | (simp; done) | (simp; omega)) _ | with_reducible refine New.tail (by assumption) ?_))) (first | (go_at_call 23; (first | refine (HE _ (HT.out.keep (by repeat (first | with_reducible exact New.refl _ | with_reducible assumption | with_reducible refine New.alloc ?_ _ | with_reducible refine New.drewN ?_ _ | with_reducible refine New.drew ?_ | with_reducible refine New.setCell ?_ (by first | omega | (simp; done) | (simp; omega)) _ | with_reducible refine New.tail (by assumption) ?_)))).mono ?_ | refine (HN _ (HT.out.keep (by repeat (first | with_reducible exact New.refl _ | with_reducible assumption | with_reducible refine New.alloc ?_ _ | with_reducible refine New.drewN ?_ _ | with_reducible refine New.drew ?_ | with_reducible refine New.setCell ?_ (by first | omega | (simp; done) | (simp; omega)) _ | with_reducible refine New.tail (by assumption) ?_)))).mono ?_ | refine (HU _ (HT.out.keep (by repeat (first | with_reducible exact New.refl _ | with_reducible assumption | with_reducible refine New.alloc ?_ _ | with_reducible refine New.drewN ?_ _ | with_reducible refine New.drew ?_ | with_reducible refine New.setCell ?_ (by first | omega | (simp; done) | (simp; omega)) _ | with_reducible refine New.tail (by assumption) ?_)))).mono ?_); rintro e1 x1 ⟨rfl, hx1⟩))
  go_wp2_with fail
  go_ret
  exact ⟨rfl, h1.trans (by repeat (first | with_reducible exact New.refl _ | with_reducible assumption | with_reducible refine New.alloc ?_ _ | with_reducible refine New.drewN ?_ _ | with_reducible refine New.drew ?_ | with_reducible refine New.setCell ?_ (by first | omega | (simp; done) | (simp; omega)) _ | with_reducible refine New.tail (by assumption) ?_))⟩
theorem wtx_size (e n u : Int) (he : -99 ≤ e ∧ e ≤ 99) (hn : -99 ≤ n ∧ n ≤ 99) (hu : -99 ≤ u ∧ u ≤ 99) : (wtx e n u).size ≤ 11 := by
  have z1 := tx_size e he.1 he.2
  have z2 := tx_size n hn.1 hn.2
  have z3 := tx_size u hu.1 hu.2
  have z4 : (⟨#[44]⟩ : ByteArray).size = 1 := rfl
  unfold wtx
  simp only [ByteArray.size_append]
  omega
/-- What LegText returns. -/
def ltx (f t e n u : Int) : ByteArray := if legB 6 f t e n u then tx f ++ ⟨#[62]⟩ ++ tx t ++ ⟨#[58]⟩ ++ wtx e n u else ⟨#[]⟩
theorem ltx_no {f t e n u : Int} (h : legB 6 f t e n u = false) : ltx f t e n u = ⟨#[]⟩ := by simp [ltx, h]
theorem ltx_ok {f t e n u : Int} (h : legB 6 f t e n u = true) : ltx f t e n u = tx f ++ ⟨#[62]⟩ ++ tx t ++ ⟨#[58]⟩ ++ wtx e n u := by simp [ltx, h]
set_option maxHeartbeats 1000000 in
set_option maxRecDepth 100000 in
theorem implLegText_any (f t e n u : Int) (w : World) (ht : Tab w) :
    Calls Tryd.prog 9 #[.agg #[.int .i64 f, .int .i64 t, .int .i64 e, .int .i64 n, .int .i64 u]] w fun r w' => r = .returned (.string (ltx f t e n u)) ∧ New w w' := by
  have h1 : New w (w.alloc (Obj.cells #[.int .i64 f, .int .i64 t, .int .i64 e, .int .i64 n, .int .i64 u] 24)) := (by repeat (first | with_reducible exact New.refl _ | with_reducible assumption | with_reducible refine New.alloc ?_ _ | with_reducible refine New.drewN ?_ _ | with_reducible refine New.drew ?_ | with_reducible refine New.setCell ?_ (by first | omega | (simp; done) | (simp; omega)) _ | with_reducible refine New.tail (by assumption) ?_))
  have h2 := Has.new w #[.int .i64 f, .int .i64 t, .int .i64 e, .int .i64 n, .int .i64 u] 24
  have HT := Lib.hid (ht.keep h1)
  clear ht
  cases hv : legB 6 f t e n u
  · have HX := Lib.hid (ltx_no hv)
    have HV := Lib.hid hv
    clear hv
    go_enter Tryd.func9, Tryd.ntmps9
    go_upto_region 1 with fail
    generalize (w.alloc (Obj.cells #[.int .i64 f, .int .i64 t, .int .i64 e, .int .i64 n, .int .i64 u] 24)) = W0 at *
    have c2 := h2.cells5
    clear h2
    go_wp2_with fail
    refine (implLegValid_any _ _ _ _ _ _ _).mono ?_
    rw [HV.out]
    rintro e w1 ⟨rfl, hn1⟩
    go_wp2_with fail
    rw [HX.out]
    go_ret
    exact ⟨rfl, h1.trans hn1⟩
  · have HX := Lib.hid (ltx_ok hv)
    have HV := Lib.hid hv
    obtain ⟨-, -, f0, f1, t0, t1, -, e0, e1, n0, n1, u0, u1⟩ := legB_t.1 hv
    have HF := fun w => itoa_any f w (by omega) (by omega)
    have HG := fun w => itoa_any t w (by omega) (by omega)
    have HW := fun w => wayText_any e n u w ⟨e0, e1⟩ ⟨n0, n1⟩ ⟨u0, u1⟩
    have z1 := tx_size f (by omega) (by omega)
    have z2 := tx_size t (by omega) (by omega)
    have z3 := wtx_size e n u ⟨e0, e1⟩ ⟨n0, n1⟩ ⟨u0, u1⟩
    obtain ⟨F, hF⟩ : ∃ x, tx f = x := ⟨_, rfl⟩
    obtain ⟨G, hG⟩ : ∃ x, tx t = x := ⟨_, rfl⟩
    obtain ⟨U, hU⟩ : ∃ x, wtx e n u = x := ⟨_, rfl⟩
    rw [hF] at HF z1 HX
    rw [hG] at HG z2 HX
    rw [hU] at HW z3 HX
    have s1 : ¬ (9223372036854775807 < F.size + 1) := by omega
    have s2 : ¬ (9223372036854775807 < F.size + 1 + G.size) := by omega
    have s3 : ¬ (9223372036854775807 < F.size + 1 + G.size + 1) := by omega
    have s4 : ¬ (9223372036854775807 < F.size + 1 + G.size + 1 + U.size) := by omega
    rw [HX.out]
    clear hv hF hG hU f0 f1 t0 t1 e0 e1 n0 n1 u0 u1
    go_enter Tryd.func9, Tryd.ntmps9
    go_upto_region 1 with fail
    generalize (w.alloc (Obj.cells #[.int .i64 f, .int .i64 t, .int .i64 e, .int .i64 n, .int .i64 u] 24)) = W0 at *
    have c2 := h2.cells5
    clear h2
    go_wp2_with fail
    refine (implLegValid_any _ _ _ _ _ _ _).mono ?_
    rw [HV.out]
    rintro e w1 ⟨rfl, hn1⟩
    have HT1 := Lib.hid (HT.out.keep hn1)
    have c3 := fun w' hn => c2 w' (hn1.trans hn)
    clear c2
    go_wp2_with fail
    go_region_held3 (fun w' => New w1 w') ((repeat (first | with_reducible exact New.refl _ | with_reducible assumption | with_reducible refine New.alloc ?_ _ | with_reducible refine New.drewN ?_ _ | with_reducible refine New.drew ?_ | with_reducible refine New.setCell ?_ (by first | omega | (simp; done) | (simp; omega)) _ | with_reducible refine New.tail (by assumption) ?_))) (first | (go_at_call 25; refine (legWay_any _ _ _ _ _ _).mono ?_; rintro e1 x1 ⟨rfl, hx1⟩) | (go_at_call 24; refine (HW _ (HT1.out.keep (by repeat (first | with_reducible exact New.refl _ | with_reducible assumption | with_reducible refine New.alloc ?_ _ | with_reducible refine New.drewN ?_ _ | with_reducible refine New.drew ?_ | with_reducible refine New.setCell ?_ (by first | omega | (simp; done) | (simp; omega)) _ | with_reducible refine New.tail (by assumption) ?_)))).mono ?_; rintro e1 x1 ⟨rfl, hx1⟩) | (go_at_call 23; (first | refine (HF _ (HT1.out.keep (by repeat (first | with_reducible exact New.refl _ | with_reducible assumption | with_reducible refine New.alloc ?_ _ | with_reducible refine New.drewN ?_ _ | with_reducible refine New.drew ?_ | with_reducible refine New.setCell ?_ (by first | omega | (simp; done) | (simp; omega)) _ | with_reducible refine New.tail (by assumption) ?_)))).mono ?_ | refine (HG _ (HT1.out.keep (by repeat (first | with_reducible exact New.refl _ | with_reducible assumption | with_reducible refine New.alloc ?_ _ | with_reducible refine New.drewN ?_ _ | with_reducible refine New.drew ?_ | with_reducible refine New.setCell ?_ (by first | omega | (simp; done) | (simp; omega)) _ | with_reducible refine New.tail (by assumption) ?_)))).mono ?_); rintro e1 x1 ⟨rfl, hx1⟩))
    go_wp2_with fail
    go_ret
    exact ⟨rfl, h1.trans (hn1.trans (by repeat (first | with_reducible exact New.refl _ | with_reducible assumption | with_reducible refine New.alloc ?_ _ | with_reducible refine New.drewN ?_ _ | with_reducible refine New.drew ?_ | with_reducible refine New.setCell ?_ (by first | omega | (simp; done) | (simp; omega)) _ | with_reducible refine New.tail (by assumption) ?_)))⟩
theorem alive_text : ltx 0 1 3 (-4) 2 = ⟨#[48, 62, 49, 58, 51, 44, 45, 52, 44, 50]⟩ := by decide +kernel
theorem dead_text : ltx 0 0 0 0 0 = ⟨#[]⟩ := by decide +kernel
set_option maxHeartbeats 1000000 in
theorem alive_any (w : World) (ht : Tab w) : Calls Tryd.prog 12 #[] w fun r w' => r = .returned (.bool true) ∧ New w w' := by
  go_enter Tryd.func12, Tryd.ntmps12
  go_wp2_with fail
  refine (implLegText_any _ _ _ _ _ _ ht).mono ?_
  rw [alive_text]
  rintro e w1 ⟨rfl, hn1⟩
  go_wp2_with fail
  refine (implLegText_any _ _ _ _ _ _ (ht.keep hn1)).mono ?_
  rw [dead_text]
  rintro e w2 ⟨rfl, hn2⟩
  go_wp2_with fail
  go_ret
  exact ⟨rfl, hn1.trans hn2⟩
end Go.Proofs.YtmdeekojioeomaaDoor
