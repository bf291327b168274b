/- Contracts of the laws' own helpers on fixes: toFix, eqFix, szFix; arguments that are fixes. -/
import Derived.Test.YtbjahideaonimaaWys
import Derived.Test.YtbjahideaonimaaWay
import Derived.Test.YtbjahideaonimaaOpen
namespace Go.Proofs.Ytbjahideaonimaa
open Go.ChangeShapes Go.WideShapes Go.ChangeAt Go.RowKit Go.Deep Go.Joins
set_option linter.all false
theorem infoWay : (Try.prog.info? 43).map (fun i => (i.zero, i.size, i.bytes)) = some (some (.agg #[.int .i64 0, .int .i64 0, .int .i64 0]), 3, 24) := by kernel_rfl
theorem makeWays (n : Nat) (hn : n ≤ 1099511627776) : ∀ w : World, (Instr.makeSlice 35 (.int .i64 (n : Int)) (.int .i64 (n : Int))).run Try.prog w =
    .ok (.slice (some ⟨w.heap.size, 0, none⟩) n n) (w.alloc (.cells (madeCells #[.int .i64 0, .int .i64 0, .int .i64 0] (n * 3)) 43)) := by
  intro w
  obtain ⟨i0, hi, hz, hs, hb⟩ := info_parts infoWay
  have h := run_make (P := Try.prog) w 35 43 i0 _ Try.underlying35 hi hz .i64 .i64 n n (by omega) (by omega) (by rw [hb]; omega) (by omega)
  rw [hs] at h
  simp only [Int.toNat_natCast] at h
  exact h
set_option maxHeartbeats 1000000 in
theorem toWayS_any (A : Option Addr) (cap : Nat) (L : List Wy) (w : World) (hL : WaysAt w A L) (hm : L.length ≤ 1099511627776) :
    Calls Try.prog 27 #[.slice A L.length cap] w fun r w' => ∃ g, r = .returned (.slice (some ⟨g, 0, none⟩) L.length L.length) ∧ w.heap.size ≤ g ∧ WayBlk w' g L ∧ New w w' := by
  have hmk := makeWays L.length hm
  go_enter Try.func27, Try.ntmps27
  go_wp2_with fail
  go_loopw [4] (fun i wr => ∃ k : Nat, k ≤ L.length ∧ i = .int .i64 k ∧ New w wr ∧ ∃ cs : Array Value, Has wr w.heap.size cs 43 ∧ cs.size = L.length * 3 ∧ ∀ (j : Nat) (q : Wy), j < k → L[j]? = some q → WayIn cs j q)
    (fun i _ => L.length - (intOf i).toNat)
  case atStart => exact ⟨0, Nat.zero_le _, rfl, (by repeat (first | with_reducible exact New.refl _ | with_reducible assumption | with_reducible refine New.alloc ?_ _ | with_reducible refine New.drewN ?_ _ | with_reducible refine New.drew ?_ | with_reducible refine New.setCell ?_ (by first | omega | (simp; done) | (simp; omega)) _ | with_reducible refine New.tail (by assumption) ?_)), _, Has.new _ _ _, by rw [size_madeCells], fun j q h => absurd h (Nat.not_lt_zero _)⟩
  case round =>
    obtain ⟨k, hk, rfl, hw, cs, hcs, hsz, hin⟩ := hrel
    have Hin := Lib.hid hin
    have Hsz := Lib.hid hsz
    clear hin
    by_cases hlt : k < L.length
    · obtain ⟨b, off, e, n, u, hA, hg, hc⟩ := (hL.keep hw).at_ hlt
      subst hA
      have HG := Lib.hid hg
      clear hg hmk
      obtain ⟨x0, hx0⟩ : ∃ x, cs[k * 3]? = some x := ⟨_, Array.getElem?_eq_getElem (by omega)⟩
      obtain ⟨x1, hx1⟩ : ∃ x, cs[k * 3 + 1]? = some x := ⟨_, Array.getElem?_eq_getElem (by omega)⟩
      obtain ⟨x2, hx2⟩ : ∃ x, cs[k * 3 + 2]? = some x := ⟨_, Array.getElem?_eq_getElem (by omega)⟩
      have k0 := fun w' hn => (hcs.cells (k * 3) w' hn).trans hx0
      have k1 := fun w' hn => (hcs.cells (k * 3 + 1) w' hn).trans hx1
      have k2 := fun w' hn => (hcs.cells (k * 3 + 2) w' hn).trans hx2
      have kf := fun i => hcs.frees i
      clear hx0 hx1 hx2 hsz
      go_wp2_with (go_at_call 46; refine (toWay_any _ _ _ _).mono ?_; rintro e w1 ⟨rfl, hn⟩)
      go_roundw
      case rel =>
        refine ⟨k + 1, by omega, by go_num, ?_, put3 cs k (.int .i64 e) (.int .i64 n) (.int .i64 u), ?_, ?_, ?_⟩
        · exact New.put3 (hn.tail hw) (Nat.le_refl _) k _ _ _
        · exact Has.put3 (hcs.keep hn) k _ _ _
        · rw [put3_size]; exact Hsz.out
        · exact wayIn_put3 (q := ⟨e, n, u⟩) hlt Hsz.out HG.out Hin.out
      case measure => simp [intOf]; omega
    · go_wp2_with fail
      go_ret
      exact ⟨_, rfl, Nat.le_refl _, ⟨cs, hcs, Hsz.out, fun j q hq => Hin.out j q (by have := (List.getElem?_eq_some_iff.1 hq).1; omega) hq⟩, hw⟩
set_option maxHeartbeats 1000000 in
theorem toFix_any (st : Int) (A : Option Addr) (cap : Nat) (L : List Wy) (w : World) (hL : WaysAt w A L) (hm : L.length ≤ 1099511627776) :
    Calls Try.prog 11 #[.agg #[.int .i64 st, .slice A L.length cap]] w fun r w' => ∃ g, r = .returned (.agg #[.int .i64 st, .slice (some ⟨g, 0, none⟩) L.length L.length]) ∧ w.heap.size ≤ g ∧ WayBlk w' g L ∧ New w w' := by
  have h1 : New w (((w.alloc (Obj.cells #[.int .i64 st, .slice A L.length cap] 27)).alloc (Obj.cells #[.int .i64 0, .slice none 0 0] 37)).alloc (Obj.cells #[.int .i64 st, .slice none 0 0] 37)) := (by repeat (first | with_reducible exact New.refl _ | with_reducible assumption | with_reducible refine New.alloc ?_ _ | with_reducible refine New.drewN ?_ _ | with_reducible refine New.drew ?_ | with_reducible refine New.setCell ?_ (by first | omega | (simp; done) | (simp; omega)) _ | with_reducible refine New.tail (by assumption) ?_))
  have h2 := ((Has.new w #[.int .i64 st, .slice A L.length cap] 27).alloc (Obj.cells #[.int .i64 0, .slice none 0 0] 37)).alloc (Obj.cells #[.int .i64 st, .slice none 0 0] 37)
  have h3 := (Has.new (w.alloc (Obj.cells #[.int .i64 st, .slice A L.length cap] 27)) #[.int .i64 0, .slice none 0 0] 37).alloc (Obj.cells #[.int .i64 st, .slice none 0 0] 37)
  have h4 := Has.new ((w.alloc (Obj.cells #[.int .i64 st, .slice A L.length cap] 27)).alloc (Obj.cells #[.int .i64 0, .slice none 0 0] 37)) #[.int .i64 st, .slice none 0 0] 37
  simp only [World.size_alloc] at h3 h4
  have hL' := hL.keep h1
  go_enter Try.func11, Try.ntmps11
  go_upto_region 3 with fail
  generalize (((w.alloc (Obj.cells #[.int .i64 st, .slice A L.length cap] 27)).alloc (Obj.cells #[.int .i64 0, .slice none 0 0] 37)).alloc (Obj.cells #[.int .i64 st, .slice none 0 0] 37)) = W0 at *
  have c2 := h2.cells2
  have c3 := h3.cells2
  have c4 := h4.cells2
  have f3 := h3.frees
  have f4 := h4.frees
  have hz := h1.size
  go_wp2_with (go_at_call 27; refine (toWayS_any _ _ _ _ hL' hm).mono ?_; rintro e w1 ⟨g, rfl, hg, hb, hn⟩)
  have hlt4 := h4.lt
  have hne1 : g ≠ w.heap.size + 1 + 1 := by omega
  have hne2 : g ≠ w.heap.size + 1 := by omega
  refine bodyPost_ret (v := .agg #[.int .i64 st, .slice (some ⟨g, 0, none⟩) L.length L.length]) (by simp [results, Try.results11, go_sem, c3, hn]) rfl ⟨g, rfl, by omega, ((hb.far hne1 _).far hne2 _).far hne2 _, ?_⟩
  exact (((hn.tail h1).setCell (p := ⟨w.heap.size + 1 + 1, 1, none⟩) (by simp; omega) _).setCell (p := ⟨w.heap.size + 1, 0, none⟩) (by simp) _).setCell (p := ⟨w.heap.size + 1, 1, none⟩) (by simp) _
theorem szWayS_any (A : Option Addr) (n cap : Nat) (left : Int) (w : World) (h0 : 0 ≤ left) (h1 : left ≤ 1099511627776) (hn : n ≤ maxLen) :
    Calls Try.prog 23 #[.slice A n cap, .int .i64 left] w fun r w' => r = .returned (.int .i64 (if left < n then -1 else left - n)) ∧ w = w' := by
  have hn' : (n : Int) ≤ 9223372036854775807 := by unfold maxLen at hn; omega
  by_cases h : left < (n : Int)
  · have h' : left - (n : Int) < 0 := by omega
    go_enter Try.func23, Try.ntmps23
    go_wp2
    go_ret
    exact ⟨rfl, rfl⟩
  · have h' : ¬ left - (n : Int) < 0 := by omega
    go_enter Try.func23, Try.ntmps23
    go_wp2
    go_ret
    exact ⟨rfl, rfl⟩
theorem szFix_any (st : Int) (A : Option Addr) (n cap : Nat) (left : Int) (w : World) (h0 : 0 ≤ left) (h1 : left ≤ 1099511627776) (hn : n ≤ maxLen) :
    Calls Try.prog 8 #[.agg #[.int .i64 st, .slice A n cap], .int .i64 left] w fun r w' => r = .returned (.int .i64 (if left < n then -1 else left - n)) ∧ New w w' := by
  by_cases h : left < (n : Int)
  · go_enter Try.func8, Try.ntmps8
    go_wp2_with (go_at_call 23; refine (szWayS_any _ _ _ _ _ h0 h1 hn).mono ?_; rw [if_pos h]; rintro e w1 ⟨rfl, rfl⟩)
    go_ret
    exact ⟨rfl, (by repeat (first | with_reducible exact New.refl _ | with_reducible assumption | with_reducible refine New.alloc ?_ _ | with_reducible refine New.drewN ?_ _ | with_reducible refine New.drew ?_ | with_reducible refine New.setCell ?_ (by first | omega | (simp; done) | (simp; omega)) _ | with_reducible refine New.tail (by assumption) ?_))⟩
  · have h' : ¬ left - (n : Int) < 0 := by omega
    go_enter Try.func8, Try.ntmps8
    go_wp2_with (go_at_call 23; refine (szWayS_any _ _ _ _ _ h0 h1 hn).mono ?_; rw [if_neg h]; rintro e w1 ⟨rfl, rfl⟩)
    go_ret
    exact ⟨rfl, (by repeat (first | with_reducible exact New.refl _ | with_reducible assumption | with_reducible refine New.alloc ?_ _ | with_reducible refine New.drewN ?_ _ | with_reducible refine New.drew ?_ | with_reducible refine New.setCell ?_ (by first | omega | (simp; done) | (simp; omega)) _ | with_reducible refine New.tail (by assumption) ?_))⟩
set_option maxHeartbeats 1000000 in
theorem eqWayS_same (A B : Option Addr) (ca cb : Nat) (L : List Wy) (w : World) (hA : WaysAt w A L) (hB : WaysAt w B L) (hm : L.length ≤ 1099511627776) :
    Calls Try.prog 31 #[.slice A L.length ca, .slice B L.length cb] w fun r w' => r = .returned (.bool true) ∧ New w w' := by
  go_enter Try.func31, Try.ntmps31
  go_wp2_with fail
  go_loopw [5] (fun i wr => ∃ k : Nat, k ≤ L.length ∧ i = .int .i64 k ∧ New w wr) (fun i _ => L.length - (intOf i).toNat)
  case atStart => exact ⟨0, Nat.zero_le _, rfl, New.refl _⟩
  case round =>
    obtain ⟨k, hk, rfl, hw⟩ := hrel
    by_cases hlt : k < L.length
    · obtain ⟨b, off, e, n, u, e1, hg, hc⟩ := (hA.keep hw).at_ hlt
      obtain ⟨b', off', e', n', u', e2, hg', hc'⟩ := (hB.keep hw).at_ hlt
      rw [hg] at hg'
      obtain ⟨rfl, rfl, rfl⟩ := Wy.mk.inj hg'
      subst e1 e2
      clear hg hg' hA hB
      have hk0 : (0 : Int) ≤ (k : Int) := by omega
      have hk1 : (k : Int) < (L.length : Int) := by omega
      go_wp2_with fail
      go_region_held3 (fun w' => New wr w') ((repeat (first | with_reducible exact New.refl _ | with_reducible assumption | with_reducible refine New.alloc ?_ _ | with_reducible refine New.drewN ?_ _ | with_reducible refine New.drew ?_ | with_reducible refine New.setCell ?_ (by first | omega | (simp; done) | (simp; omega)) _ | with_reducible refine New.tail (by assumption) ?_))) (first | (go_at_call 17; refine (eqWay_refl _ _ _ _).mono ?_; rintro e w1 ⟨rfl, hn⟩))
      go_wp2_with fail
      go_roundw
      case rel => exact ⟨k + 1, by omega, by go_num, hw.trans (by repeat (first | with_reducible exact New.refl _ | with_reducible assumption | with_reducible refine New.alloc ?_ _ | with_reducible refine New.drewN ?_ _ | with_reducible refine New.drew ?_ | with_reducible refine New.setCell ?_ (by first | omega | (simp; done) | (simp; omega)) _ | with_reducible refine New.tail (by assumption) ?_))⟩
      case measure => simp [intOf]; omega
    · go_wp2_with fail
      go_ret
      exact ⟨rfl, hw⟩
set_option maxHeartbeats 1000000 in
theorem eqFix_same (st : Int) (A B : Option Addr) (ca cb : Nat) (L : List Wy) (w : World) (hA : WaysAt w A L) (hB : WaysAt w B L) (hm : L.length ≤ 1099511627776) :
    Calls Try.prog 14 #[.agg #[.int .i64 st, .slice A L.length ca], .agg #[.int .i64 st, .slice B L.length cb]] w fun r w' => r = .returned (.bool true) ∧ New w w' := by
  have h1 : New w ((w.alloc (Obj.cells #[.int .i64 st, .slice A L.length ca] 37)).alloc (Obj.cells #[.int .i64 st, .slice B L.length cb] 37)) := (by repeat (first | with_reducible exact New.refl _ | with_reducible assumption | with_reducible refine New.alloc ?_ _ | with_reducible refine New.drewN ?_ _ | with_reducible refine New.drew ?_ | with_reducible refine New.setCell ?_ (by first | omega | (simp; done) | (simp; omega)) _ | with_reducible refine New.tail (by assumption) ?_))
  have hA' := hA.keep h1
  have hB' := hB.keep h1
  go_enter Try.func14, Try.ntmps14
  go_wp2_with (go_at_call 31; refine (eqWayS_same _ _ _ _ _ _ hA' hB' hm).mono ?_; rintro e w1 ⟨rfl, hn⟩)
  go_ret
  exact ⟨rfl, h1.trans hn⟩
section
variable {H : Type} {enc : TypeId × Value → H} {P : Program} {w : World} {base : Nat} {spare : Nat → Bool} {held : Bool}
/-- A slice of structs of three ints reads as a list of ways. -/
theorem open_ways {t e : TypeId} {f0 f1 f2 : Field} {fuel : Nat} {v : Value} {x : DataW H × List MemPlace} (ht : P.underlying t = some (.slice e)) (he : P.underlying e = some (.struct #[f0, f1, f2]))
    (hone : oneCellFields P #[f0, f1, f2] = true) (hC : P.cellsOf e = 3) (h0 : P.underlying f0.type = some (.int .i64)) (h1 : P.underlying f1.type = some (.int .i64)) (h2 : P.underlying f2.type = some (.int .i64))
    (h : DataW.trod enc P w base spare held fuel t [v] = some x) :
    ∃ (A : Option Addr) (cap : Nat) (L : List Wy), v = .slice A L.length cap ∧ WaysAt w A L ∧ L.length ≤ maxLen := by
  rcases open_slice ht h with ⟨e1, -⟩ | ⟨a, len, cap, m, n, D, Pl, e1, hb, hl, hmx, hm, -, hi⟩
  · simp at e1
    exact ⟨none, 0, [], by simpa using e1, fun h => absurd rfl h, by simp⟩
  · have hml : len ≤ m := by rw [hm]; split <;> omega
    have hall : ∀ i, i < len → ∃ q : Wy, w.cell? ((a.add (i * 3)).add 0) = some (.int .i64 q.e) ∧ w.cell? ((a.add (i * 3)).add 1) = some (.int .i64 q.n) ∧ w.cell? ((a.add (i * 3)).add 2) = some (.int .i64 q.u) := by
      intro i hil
      obtain ⟨cs', hc, ht'⟩ := hi i (by omega)
      rw [hC] at hc
      obtain ⟨_, hcl, hat⟩ := World.cells?_some hc
      obtain ⟨ys, n', _, _, _, _, hf⟩ := DataW.trod_struct he ht'
      have cell : ∀ (j : Nat) (f : Field), j < 3 → #[f0, f1, f2][j]? = some f → P.underlying f.type = some (.int .i64) → ∃ q : Int, w.cell? ((a.add (i * 3)).add j) = some (.int .i64 q) := by
        intro j f hj hfj hfi
        obtain ⟨o, c⟩ := hone_of hone j f hfj
        have g := hf j f hfj
        rw [o, c] at g
        have hjl : j < cs'.length := by omega
        have e2 : (cs'.drop j).take 1 = [cs'[j]] := by rw [List.drop_eq_getElem_cons hjl]; rfl
        rw [e2] at g
        rw [hat j hj, List.getElem?_eq_getElem hjl]
        rcases hy : ys[j]? with _ | y
        · rw [hy] at g
          exfalso
          have hh := List.getElem?_eq_none_iff.1 hy
          simp at *
          omega
        · rw [hy] at g
          obtain ⟨q, hq⟩ := int_of_cell hfi g
          exact ⟨q, by rw [hq]⟩
      obtain ⟨q0, c0⟩ := cell 0 f0 (by omega) rfl h0
      obtain ⟨q1, c1⟩ := cell 1 f1 (by omega) rfl h1
      obtain ⟨q2, c2⟩ := cell 2 f2 (by omega) rfl h2
      exact ⟨⟨q0, q1, q2⟩, c0, c1, c2⟩
    obtain ⟨L, hL, hP⟩ := list_of_all len hall
    subst hL
    refine ⟨some a, cap, L, by simpa using e1, fun hne => ?_, by omega⟩
    obtain ⟨q, hq⟩ : ∃ q, L[0]? = some q := ⟨_, List.getElem?_eq_getElem (by cases L; exact absurd rfl hne; simp)⟩
    have h00 := (hP 0 q hq).1
    rw [Nat.zero_mul] at h00
    have ea : (a.add 0).add 0 = a := by unfold Addr.add; simp
    rw [ea] at h00
    have hsp := spot_of_cell h00
    have hlt := World.block_lt_of_cell? w a h00
    refine ⟨a.block, a.off, by rw [← hsp], hlt, fun k g hk => ?_⟩
    have g5 := hP k g hk
    rw [hsp] at g5
    simp only [add_none, Nat.add_zero] at g5
    exact g5
end
theorem open_fix {H : Type} {enc : TypeId × Value → H} {w : World} {base : Nat} {spare : Nat → Bool} {held : Bool} {r : Reach} {b0 : Nat} {v : Value} {d : DataW H} {p : List MemPlace}
    (hv : Value.okWide Try.prog w r b0 27 v) (h : DataW.Trod enc Try.prog w base spare held 27 v d p) :
    ∃ (dn : Int) (A : Option Addr) (cap : Nat) (L : List Wy), v = .agg #[.int .i64 dn, .slice A L.length cap] ∧ WaysAt w A L ∧ L.length ≤ maxLen := by
  obtain ⟨c0, c1, y0, y1, n, rfl, rfl, rfl, e0, e1⟩ := open_agg2 Try.underlying27 (by kernel_rfl) (by kernel_rfl) hv h
  obtain ⟨st, rfl⟩ := int_of_cell Try.underlying3 e0
  obtain ⟨A, cap, L, rfl, hL, hm⟩ := open_ways Try.underlying25 Try.underlying76 (by kernel_rfl) (by kernel_rfl) Try.underlying3 Try.underlying3 Try.underlying3 e1
  exact ⟨st, A, cap, L, rfl, hL, hm⟩
end Go.Proofs.Ytbjahideaonimaa
