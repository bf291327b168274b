/- Square matrices that a call makes and fills; contracts of squareOf, MatrixTurn (program and reference). -/
import Derived.Test.YtmopbghngaeplaaLawM
namespace Go.Proofs.Ytmopbghngaeplaa
open Go.RowKit
set_option linter.all false
def sq (n : Nat) (f : Nat → Nat → Int) : List (List Int) := (List.range n).map fun c => (List.range n).map fun r => f c r
def upd (f : Nat → Nat → Int) (c r : Nat) (v : Int) : Nat → Nat → Int := fun a b => if a = c ∧ b = r then v else f a b
theorem sq_length (n : Nat) (f : Nat → Nat → Int) : (sq n f).length = n := by simp [sq]
theorem sq_row (n : Nat) (f : Nat → Nat → Int) (c : Nat) (h : c < n) : (sq n f)[c]? = some ((List.range n).map fun r => f c r) := by simp [sq, h]
theorem sq_rows {n : Nat} {f : Nat → Nat → Int} {r : List Int} (h : r ∈ sq n f) : r.length = n := by
  unfold sq at h
  simp at h
  obtain ⟨c, _, rfl⟩ := h
  simp
theorem sq_congr {n : Nat} {f g : Nat → Nat → Int} (h : ∀ c r, c < n → r < n → f c r = g c r) : sq n f = sq n g := by
  unfold sq
  apply List.map_congr_left
  intro c hc
  apply List.map_congr_left
  intro r hr
  exact h c r (by simpa using hc) (by simpa using hr)
theorem sq_set (n : Nat) (f : Nat → Nat → Int) (c r : Nat) (v : Int) (hc : c < n) (hr : r < n) : (sq n f).set c (((List.range n).map fun r => f c r).set r v) = sq n (upd f c r v) := by
  apply List.ext_getElem?
  intro i
  rw [List.getElem?_set, sq_length]
  by_cases hi : c = i
  · subst hi
    rw [if_pos rfl, if_pos hc, sq_row _ _ _ hc]
    congr 1
    apply List.ext_getElem?
    intro j
    rw [List.getElem?_set]
    by_cases hj : r = j
    · subst hj
      simp [hr, upd]
    · rw [if_neg hj]
      by_cases hjn : j < n
      · have : ¬ j = r := fun e => hj e.symm
        simp [hjn, upd, this]
      · simp [hjn]
  · rw [if_neg hi]
    have : ¬ i = c := fun e => hi e.symm
    by_cases hin : i < n
    · rw [sq_row _ _ _ hin, sq_row _ _ _ hin]
      simp [upd, this]
    · rw [List.getElem?_eq_none (by rw [sq_length]; omega), List.getElem?_eq_none (by rw [sq_length]; omega)]
theorem FMat.older {w0 w1 w : World} {A : Option Addr} {M : List (List Int)} (h : FMat w1 w A M) (hs : w0.heap.size ≤ w1.heap.size) : FMat w0 w A M := fun hne => by
  obtain ⟨g, cs, Gs, e, h1, h2⟩ := h hne
  exact ⟨g, cs, Gs, e, Nat.le_trans hs h1, h2⟩
/-- A store into row c of such a matrix. -/
theorem FMat.store {w0 w : World} {g : Nat} {cs : Array Value} {Gs : List Nat} {M : List (List Int)} {c gk : Nat} {row : List Int} (h1 : w0.heap.size ≤ g) (h2 : Has w g cs 58) (h3 : cs.size = M.length) (h4 : Gs.length = M.length) (h5 : Gs.Pairwise (· < ·))
    (h6 : ∀ (k : Nat) (r : List Int) (gk : Nat), M[k]? = some r → Gs[k]? = some gk → g < gk ∧ Ints w gk r ∧ ∃ c, r.length ≤ c ∧ cs[k]? = some (.slice (some ⟨gk, 0, none⟩) r.length c))
    (hg : Gs[c]? = some gk) (hr : M[c]? = some row) (i : Nat) (v : Int) : FMat w0 (w.setCell ⟨gk, i, none⟩ (.int .i64 v)) (some ⟨g, 0, none⟩) (M.set c (row.set i v)) := fun _ => by
  have hcl := (List.getElem?_eq_some_iff.1 hr).1
  obtain ⟨a1, a2, a3⟩ := h6 c row gk hr hg
  refine ⟨g, cs, Gs, rfl, h1, h2.far (p := ⟨gk, i, none⟩) (by simp; omega) _, by simpa using h3, by simpa using h4, h5, fun k r gj hk hj => ?_⟩
  rw [List.getElem?_set] at hk
  by_cases hck : c = k
  · subst hck
    rw [if_pos rfl, if_pos hcl] at hk
    rw [hg] at hj
    simp only [Option.some.injEq] at hk hj
    subst hk hj
    exact ⟨a1, a2.set i v, by simpa using a3⟩
  · rw [if_neg hck] at hk
    obtain ⟨b1, b2, b3⟩ := h6 k r gj hk hj
    refine ⟨b1, b2.far (p := ⟨gk, i, none⟩) ?_ _, b3⟩
    show gj ≠ gk
    have hc1 := (List.getElem?_eq_some_iff.1 hg)
    have hk1 := (List.getElem?_eq_some_iff.1 hj)
    obtain ⟨c1, c2⟩ := hc1
    obtain ⟨k1, k2⟩ := hk1
    have hp := List.pairwise_iff_getElem.1 h5
    rcases Nat.lt_or_ge c k with hlt | hge
    · have := hp c k c1 k1 hlt; omega
    · have := hp k c k1 c1 (by omega); omega
theorem makeRows' (n : Nat) (hn : n ≤ 1099511627776) : ∀ w : World, (Instr.makeSlice 41 (.int .i64 (n : Int)) (.int .i64 (n : Int))).run Try.prog w =
    .ok (.slice (some ⟨w.heap.size, 0, none⟩) n n) (w.alloc (.cells (madeCells #[.slice none 0 0] n) 58)) := by
  intro w
  obtain ⟨i0, hi, hz, hs, hb⟩ := info_parts infoRow
  have h := run_make (P := Try.prog) w 41 58 i0 _ Try.underlying41 hi hz .i64 .i64 n n (by omega) (by omega) (by rw [hb]; omega) (by omega)
  rw [hs, Nat.mul_one] at h
  simp only [Int.toNat_natCast] at h
  exact h
theorem replicate_row (n c : Nat) : List.replicate n (0 : Int) = (List.range n).map fun r => (fun _ _ => (0 : Int)) c r := by
  apply List.ext_getElem?
  intro i
  by_cases h : i < n <;> simp [h]
set_option maxHeartbeats 1000000 in
theorem squareOf_any (n : Nat) (w : World) (hn : n ≤ 1000) :
    Calls Try.prog 64 #[.int .i64 n] w fun r w' => ∃ g, r = .returned (.slice (some ⟨g, 0, none⟩) n n) ∧ FMat w w' (some ⟨g, 0, none⟩) (sq n fun _ _ => 0) ∧ New w w' := by
  have hmk := makeRows' n (by omega)
  have hmi := makeInts n (by omega)
  go_enter Try.func64, Try.ntmps64
  go_wp2_with fail
  go_loopw [9, 4] (fun i _ wr => ∃ k : Nat, k ≤ n ∧ i = .int .i64 k ∧ New w wr ∧ w.heap.size < wr.heap.size ∧ ∃ (cs : Array Value) (Gs : List Nat), Has wr w.heap.size cs 58 ∧ Hid (cs.size = n) ∧ Hid (Gs.length = k) ∧ Gs.Pairwise (· < ·) ∧ Hid (∀ x ∈ Gs, x < wr.heap.size) ∧
      Hid (∀ (j : Nat) (gj : Nat), Gs[j]? = some gj → w.heap.size < gj ∧ Ints wr gj (List.replicate n 0) ∧ ∃ c, n ≤ c ∧ cs[j]? = some (.slice (some ⟨gj, 0, none⟩) n c))) (fun i _ _ => n - (intOf i).toNat)
  case atStart => exact ⟨0, Nat.zero_le _, rfl, (by repeat (first | with_reducible exact New.refl _ | with_reducible assumption | with_reducible refine New.alloc ?_ _ | with_reducible refine New.drewN ?_ _ | with_reducible refine New.drew ?_ | with_reducible refine New.setCell ?_ (by first | omega | (simp; done) | (simp; omega)) _ | with_reducible refine New.tail (by assumption) ?_)), by simp, _, [], Has.new _ _ _, by show _ = _; rw [size_madeCells], rfl, List.Pairwise.nil, by intro x hx; simp at hx, fun j gj h => by simp at h⟩
  case round =>
    obtain ⟨k, hk, rfl, hw, hsz, cs, Gs, hcs, Hcl, Hgl, hpw, Hlt2, Hin⟩ := hrel
    by_cases hlt : k < n
    · obtain ⟨x0, hx0⟩ : ∃ x, cs[k]? = some x := ⟨_, Array.getElem?_eq_getElem (by have := Hcl.out; omega)⟩
      have hA : New wr (wr.alloc (.cells (madeCells #[.int .i64 0] n) 3)) := (by repeat (first | with_reducible exact New.refl _ | with_reducible assumption | with_reducible refine New.alloc ?_ _ | with_reducible refine New.drewN ?_ _ | with_reducible refine New.drew ?_ | with_reducible refine New.setCell ?_ (by first | omega | (simp; done) | (simp; omega)) _ | with_reducible refine New.tail (by assumption) ?_))
      have k0 := fun w' hn => (hcs.cells k w' hn).trans hx0
      have kf := hcs.frees
      clear hx0 hmk
      go_wp2_with fail
      go_roundw
      case rel =>
        refine ⟨k + 1, by omega, by go_num, (hw.setCell (p := ⟨w.heap.size, k, none⟩) (Nat.le_refl _) _).alloc _, by simp; omega, _, Gs ++ [wr.heap.size], (hcs.set k _).alloc _, by show _ = _; simpa using Hcl.out, by show _ = _; simp [Hgl.out], ?_, ?_, ?_⟩
        · rw [List.pairwise_append]
          refine ⟨hpw, List.pairwise_singleton _ _, fun a ha b hb => ?_⟩
          have := Hlt2.out a ha
          simp at hb
          omega
        · intro x hx
          rw [List.mem_append] at hx
          rcases hx with hx | hx
          · have := Hlt2.out x hx; simp; omega
          · simp at hx; subst hx; simp
        · intro j gj hgj
          rcases Nat.lt_or_ge j k with hjk | hjk
          · rw [List.getElem?_append_left (by rw [Hgl.out]; exact hjk)] at hgj
            obtain ⟨a1, a2, c2, a4, a3⟩ := Hin.out j gj hgj
            exact ⟨a1, (a2.far (p := ⟨w.heap.size, k, none⟩) (by simp; omega) _).keep ((New.refl _).alloc _), c2, a4, by rw [Array.getElem?_setIfInBounds, if_neg (by omega)]; exact a3⟩
          · rw [List.getElem?_append_right (by rw [Hgl.out]; exact hjk), Hgl.out] at hgj
            have hjk2 : j = k := by
              have := (List.getElem?_eq_some_iff.1 hgj).1
              simp at this
              omega
            subst hjk2
            simp at hgj
            subst hgj
            have hmade := Ints.made (wr.setCell ⟨w.heap.size, j, none⟩ (.slice (some ⟨wr.heap.size, 0, none⟩) n n)) n
            rw [World.size_setCell] at hmade
            refine ⟨by omega, hmade, n, Nat.le_refl _, ?_⟩
            rw [Array.getElem?_setIfInBounds, if_pos rfl, if_pos (by have := Hcl.out; omega)]
      case measure => simp [intOf]; omega
    · obtain rfl : k = n := by omega
      go_wp2_with fail
      go_ret
      refine ⟨_, rfl, fun _ => ⟨_, cs, Gs, rfl, Nat.le_refl _, hcs, by rw [sq_length]; exact Hcl.out, by rw [sq_length]; exact Hgl.out, hpw, fun j r gj hr hg => ?_⟩, hw⟩
      have hjl := (List.getElem?_eq_some_iff.1 hr).1
      rw [sq_length] at hjl
      rw [sq_row _ _ _ hjl] at hr
      simp only [Option.some.injEq] at hr
      obtain ⟨a1, a2, c2, a4, a3⟩ := Hin.out j gj hg
      rw [← hr, ← replicate_row k j]
      exact ⟨a1, a2, c2, by simpa using a4, by simpa using a3⟩
def mAt (M : List (List Int)) (r c : Nat) : Int := (M.getD r []).getD c 0
/-- What MatrixTurn returns. -/
def turnM (M : List (List Int)) : List (List Int) := if mvB M then sq M.length fun c r => mAt M r c else []
theorem turnM_no {M : List (List Int)} (h : mvB M = false) : turnM M = [] := by simp [turnM, h]
theorem turnM_ok {M : List (List Int)} (h : mvB M = true) : turnM M = sq M.length fun c r => mAt M r c := by simp [turnM, h]
def tF (M : List (List Int)) (i j : Nat) : Nat → Nat → Int := fun c r => if r < i ∨ (r = i ∧ c < j) then mAt M r c else 0
theorem tF_zero (M : List (List Int)) (n : Nat) : sq n (tF M 0 0) = sq n fun _ _ => 0 := sq_congr fun c r _ _ => by unfold tF; rw [if_neg (by omega)]
theorem tF_step (M : List (List Int)) (i j : Nat) : upd (tF M i j) j i (mAt M i j) = tF M i (j + 1) := by
  funext c r
  unfold upd tF
  by_cases h : c = j ∧ r = i
  · obtain ⟨rfl, rfl⟩ := h
    rw [if_pos ⟨rfl, rfl⟩, if_pos (by omega)]
  · rw [if_neg h]
    by_cases h2 : r < i ∨ (r = i ∧ c < j)
    · rw [if_pos h2, if_pos (by omega)]
    · rw [if_neg h2, if_neg (by omega)]
theorem tF_next (M : List (List Int)) (n i : Nat) : sq n (tF M i n) = sq n (tF M (i + 1) 0) := sq_congr fun c r hc _ => by
  unfold tF
  by_cases h : r < i ∨ (r = i ∧ c < n)
  · rw [if_pos h, if_pos (by omega)]
  · rw [if_neg h, if_neg (by omega)]
theorem tF_all (M : List (List Int)) (n : Nat) : sq n (tF M n 0) = sq n fun c r => mAt M r c := sq_congr fun c r _ hr => by unfold tF; rw [if_pos (by omega)]
theorem mAt_get {M : List (List Int)} {r c : Nat} (hr : r < M.length) (hc : c < M[r].length) : M[r][c] = mAt M r c := by unfold mAt; simp [hr, hc]
theorem implMatrixTurn_no (A : Option Addr) (cap : Nat) (M : List (List Int)) (w : World) (hM : MatAt w A M) (hm : M.length ≤ 1099511627776) (hr : ∀ r ∈ M, r.length ≤ 1099511627776) (hv : mvB M = false) :
    Calls Try.prog 40 #[.slice A M.length cap] w fun e w' => e = .returned (.slice none 0 0) ∧ New w w' := by
  have HR := Lib.hid hr
  clear hr
  go_enter Try.func40, Try.ntmps40
  go_wp2_with (go_at_call 30; refine (implMatrixValid_any _ _ _ _ hM hm HR.out).mono ?_; rw [hv]; rintro e w1 ⟨rfl, hn⟩)
  go_ret
  exact ⟨rfl, hn⟩
set_option maxHeartbeats 2000000 in
theorem implMatrixTurn_ok (A : Option Addr) (cap n : Nat) (M : List (List Int)) (w : World) (hln : M.length = n) (hM : MatAt w A M) (hv : mvB M = true) :
    Calls Try.prog 40 #[.slice A n cap] w fun e w' => ∃ g, e = .returned (.slice (some ⟨g, 0, none⟩) n n) ∧ FMat w w' (some ⟨g, 0, none⟩) (sq n fun c r => mAt M r c) ∧ New w w' := by
  obtain ⟨b5, brow⟩ := mvB_true hv
  have HV := Lib.hid hv
  have HB := Lib.hid brow
  have HR : Hid (∀ r ∈ M, r.length ≤ 1099511627776) := fun r h => by have := (brow r h).1; omega
  have hval := implMatrixValid_any A cap M
  rw [hln] at hval b5
  have HVAL := Lib.hid hval
  have HL := Lib.hid hln
  clear hv brow hval hln
  go_enter Try.func40, Try.ntmps40
  go_wp2_with fail
  refine (HVAL.out _ hM (by omega) HR.out).mono ?_
  rw [HV.out]
  rintro e w1 ⟨rfl, hn1⟩
  go_wp2_with fail
  refine (squareOf_any _ _ (by omega)).mono ?_
  rintro e w2 ⟨g, rfl, hF, hn2⟩
  have hk2 := hn1.trans hn2
  go_wp2_with fail
  go_loopw [16, 4, 5, 6, 7] (fun i _ _ _ _ wr => ∃ k : Nat, k ≤ n ∧ i = .int .i64 k ∧ New w wr ∧ FMat w wr (some ⟨g, 0, none⟩) (sq n (tF M k 0))) (fun i _ _ _ _ _ => n - (intOf i).toNat)
  case atStart => exact ⟨0, Nat.zero_le _, rfl, hk2, by rw [tF_zero]; exact hF.older hn1.size⟩
  case round =>
    obtain ⟨k, hk, rfl, hw, hFk⟩ := hrel
    by_cases hlt : k < n
    · have hltM : k < M.length := by rw [HL.out]; exact hlt
      obtain ⟨b, off, R, c, hA, hI, hc⟩ := hM.at_ hltM
      subst hA
      have hrl := (HB.out M[k] (List.getElem_mem hltM)).1
      rw [HL.out] at hrl
      have Hme : Hid (∀ q, q < n → ∀ hq : q < M[k].length, M[k][q] = mAt M k q) := fun q _ hq => mAt_get hltM hq
      obtain ⟨r, hrk⟩ : ∃ r, M[k] = r := ⟨_, rfl⟩
      have HK := Lib.hid hrk
      rw [hrk] at hI hc hrl
      have Hrl := Lib.hid hrl
      have hr1 : r.length ≤ n := by omega
      have hr2 : n ≤ r.length := by omega
      rw [hrl] at hc
      clear hrk hrl
      go_wp2_with fail
      clear hc
      go_loopw [23, 6, 7] (fun i _ _ wi => ∃ q : Nat, q ≤ n ∧ i = .int .i64 q ∧ New w wi ∧ FMat w wi (some ⟨g, 0, none⟩) (sq n (tF M k q))) (fun i _ _ _ => n - (intOf i).toNat)
      case atStart => exact ⟨0, Nat.zero_le _, rfl, hw, hFk⟩
      case round =>
        obtain ⟨q, hq, rfl, hwi, hFq⟩ := hrel
        by_cases hql : q < n
        · obtain ⟨b2, off2, x, hR, hx, hcx⟩ := (hI.keep hwi).at_ (k := q) (by omega)
          have hxm : x = mAt M k q := by
            have h1 : q < M[k].length := by rw [HK.out]; omega
            have h2 := Hme.out q hql h1
            rw [← h2, ← hx]
            simp only [HK.out]
          have hne : sq n (tF M k q) ≠ [] := fun e => by have := congrArg List.length e; rw [sq_length] at this; simp at this; omega
          obtain ⟨g', cs, Gs, eg, f1, f2, f3, f4, f5, f6⟩ := hFq hne
          have eg' : g = g' := by simpa using eg
          subst eg'
          obtain ⟨gq, hGq⟩ : ∃ gq, Gs[q]? = some gq := ⟨_, List.getElem?_eq_getElem (by rw [f4, sq_length]; exact hql)⟩
          obtain ⟨p1, p2, c2, -, p3⟩ := f6 q _ gq (sq_row _ _ _ hql) hGq
          have hst := fun v => FMat.store (w0 := w) f1 f2 f3 f4 f5 f6 hGq (sq_row _ _ _ hql) k v
          have hst2 := hst (mAt M k q)
          rw [sq_set _ _ _ _ _ hql hlt, tF_step] at hst2
          have Hst := Lib.hid hst2
          have cg := fun w' hn => (f2.cells q w' hn).trans p3
          have crow := p2.cell (k := k) (x := tF M k q q k) (by simp [hlt])
          have frow := p2.free
          have hlen : ((List.range n).map fun r => tF M k q q r).length = n := by simp
          rw [hlen] at cg
          have Hxm := Lib.hid hxm
          subst hR
          clear hFq hFk hst hst2 f3 f4 f5 f6 p3 hGq hlen hxm hx eg hne
          go_wp2_with fail
          go_roundw
          case rel => exact ⟨q + 1, by omega, by go_num, hwi.setCell (p := ⟨gq, k, none⟩) (by simp; omega) _, by rw [Hxm.out]; exact Hst.out⟩
          case measure => simp [intOf]; omega
        · obtain rfl : q = n := by omega
          go_wp2_with fail
          go_roundw
          case rel => exact ⟨k + 1, by omega, by go_num, hwi, by rw [← tF_next]; exact hFq⟩
          case measure => simp [intOf]; omega
    · obtain rfl : k = n := by omega
      go_wp2_with fail
      go_ret
      exact ⟨g, rfl, by rw [← tF_all]; exact hFk, hw⟩
theorem implMatrixTurn_any (A : Option Addr) (cap : Nat) (M : List (List Int)) (w : World) (hM : MatAt w A M) (hm : M.length ≤ 1099511627776) (hr : ∀ r ∈ M, r.length ≤ 1099511627776) :
    Calls Try.prog 40 #[.slice A M.length cap] w fun e w' => ∃ B cp, e = .returned (.slice B (turnM M).length cp) ∧ FMat w w' B (turnM M) ∧ New w w' := by
  cases hv : mvB M
  · rw [turnM_no hv]
    exact (implMatrixTurn_no A cap M w hM hm hr hv).mono fun e w' ⟨h1, h2⟩ => ⟨_, _, h1, FMat.nil, h2⟩
  · rw [turnM_ok hv, sq_length]
    exact (implMatrixTurn_ok A cap _ M w rfl hM hv).mono fun e w' ⟨g, h1, h2, h3⟩ => ⟨_, _, h1, h2, h3⟩
theorem own_ne {w : World} {base : Nat} {e : TypeId} {size n : Nat} {v : Value} {xs : List Value} {gj : Nat} {l : List Int} (h : w.ownsRow base e size v n xs) (hI : Ints w gj l) (hne : e ≠ 3) : v.ownBlock ≠ some gj := by
  obtain ⟨cs, h1, _⟩ := hI
  rcases h.2 with ⟨rfl, _⟩ | ⟨g, cap, cur, rfl, _, hh, _⟩
  · simp [Value.ownBlock]
  · intro he
    have : g = gj := by simpa [Value.ownBlock] using he
    subst this
    unfold Has at h1
    rw [hh] at h1
    simp only [Option.some.injEq, Obj.cells.injEq] at h1
    exact hne h1.2.1
def colF (M : List (List Int)) (n j : Nat) : List Int := (List.range n).map fun r => mAt M r j
theorem colF_length (M : List (List Int)) (n j : Nat) : (colF M n j).length = n := by simp [colF]
theorem colF_take (M : List (List Int)) (n j q : Nat) (h : q < n) : (colF M n j).take (q + 1) = (colF M n j).take q ++ [mAt M q j] := by
  rw [List.take_add_one]
  simp [colF, h]
theorem sq_col (M : List (List Int)) (n j : Nat) (h : j < n) : (sq n fun c r => mAt M r c)[j]? = some (colF M n j) := sq_row _ _ _ h
theorem slice_oneCell (a : Option Addr) (n c : Nat) : ∀ u ∈ [Value.slice a n c], u.oneCell' = true := by
  intro u hu; simp at hu; subst hu; rfl
set_option maxHeartbeats 4000000 in
theorem specMatrixTurn_any (A : Option Addr) (cap n : Nat) (M : List (List Int)) (w : World) (hln : M.length = n) (hM : MatAt w A M) (hm : n ≤ 1099511627776) (hr : ∀ r ∈ M, r.length ≤ 1099511627776) :
    Calls Try.prog 39 #[.slice A n cap] w fun e w' => ∃ B cp, e = .returned (.slice B (turnM M).length cp) ∧ MatAt w' B (turnM M) ∧ New w w' := by
  obtain ⟨i0, hi, hz, hs, hb⟩ := info_parts infoInt
  obtain ⟨i1, ki, kz, ks, kb⟩ := info_parts infoRow
  have hval := specMatrixValid_any A cap M
  rw [hln] at hval
  have HVAL := Lib.hid hval
  have HR := Lib.hid hr
  have HL := Lib.hid hln
  clear hval hr hln
  cases hv : mvB M
  · have HV := Lib.hid hv
    have HT := Lib.hid (turnM_no hv)
    rw [HT.out]
    by_cases h0 : 0 < n
    · have h0' : (0 : Int) < (n : Int) := by omega
      clear hv
      go_enter Try.func39, Try.ntmps39
      go_wp2_with fail
      refine wp_loop_rounds 1 ?_
      rw [rounds_succ]
      go_wp2_with fail
      refine (HVAL.out _ (hM.keep (by repeat (first | with_reducible exact New.refl _ | with_reducible assumption | with_reducible refine New.alloc ?_ _ | with_reducible refine New.drewN ?_ _ | with_reducible refine New.drew ?_ | with_reducible refine New.setCell ?_ (by first | omega | (simp; done) | (simp; omega)) _ | with_reducible refine New.tail (by assumption) ?_))) hm HR.out).mono ?_
      rw [HV.out]
      rintro e w1 ⟨rfl, hn1⟩
      go_wp2_with fail
      go_ret
      exact ⟨_, _, rfl, fun h => absurd rfl h, (by repeat (first | with_reducible exact New.refl _ | with_reducible assumption | with_reducible refine New.alloc ?_ _ | with_reducible refine New.drewN ?_ _ | with_reducible refine New.drew ?_ | with_reducible refine New.setCell ?_ (by first | omega | (simp; done) | (simp; omega)) _ | with_reducible refine New.tail (by assumption) ?_))⟩
    · exfalso
      have : M = [] := List.eq_nil_of_length_eq_zero (by rw [HL.out]; omega)
      subst this
      exact absurd hv (by decide)
  · have HV := Lib.hid hv
    obtain ⟨b5, brow⟩ := mvB_true hv
    have HB := Lib.hid brow
    have HT := Lib.hid (turnM_ok hv)
    rw [HT.out, HL.out, sq_length]
    rw [HL.out] at b5
    clear hv brow
    go_enter Try.func39, Try.ntmps39
    go_wp2_with fail
    go_loopw [4, 3, 5, 6] (fun i v _ _ wr => ∃ k : Nat, k ≤ n ∧ i = .int .i64 k ∧ New w wr ∧ ∃ rs : List Value, wr.ownsRow w.heap.size 58 1 v k rs ∧ Hid (∀ j, j < k → ∃ gj c, rs[j]? = some (.slice (some ⟨gj, 0, none⟩) n c) ∧ Ints wr gj (colF M n j))) (fun i _ _ _ _ => n - (intOf i).toNat)
    case atStart => exact ⟨0, Nat.zero_le _, rfl, (by repeat (first | with_reducible exact New.refl _ | with_reducible assumption | with_reducible refine New.alloc ?_ _ | with_reducible refine New.drewN ?_ _ | with_reducible refine New.drew ?_ | with_reducible refine New.setCell ?_ (by first | omega | (simp; done) | (simp; omega)) _ | with_reducible refine New.tail (by assumption) ?_)), [], World.ownsRow_made w #[] 0 (Nat.le_refl _) (by simp) rfl, fun j h => absurd h (Nat.not_lt_zero _)⟩
    case round =>
      obtain ⟨k, hk, rfl, hw, rs, hown, Hrs⟩ := hrel
      by_cases hlt : k < n
      · have hlt' : (k : Int) < (n : Int) := by omega
        have hk0 : (0 : Int) ≤ (k : Int) := by omega
        go_wp2_with fail
        refine (HVAL.out _ (hM.keep hw) hm HR.out).mono ?_
        rw [HV.out]
        rintro e w1 ⟨rfl, hn1⟩
        have hw1 := hw.trans hn1
        have hown1 := own_new hown hn1
        have Hrs1 : Hid (∀ j, j < k → ∃ gj c, rs[j]? = some (.slice (some ⟨gj, 0, none⟩) n c) ∧ Ints w1 gj (colF M n j)) := fun j hj => by
          obtain ⟨gj, c, a, b⟩ := Hrs.out j hj
          exact ⟨gj, c, a, b.keep hn1⟩
        clear hn1 hown Hrs hw
        go_wp2_with fail
        go_loopw [6, 5] (fun i v wi => ∃ q : Nat, q ≤ n ∧ i = .int .i64 q ∧ New w1 wi ∧ wi.ownsRow w1.heap.size 3 1 v q (((colF M n k).take q).map (Value.int .i64))) (fun i _ _ => n - (intOf i).toNat)
        case atStart => exact ⟨0, Nat.zero_le _, rfl, (by repeat (first | with_reducible exact New.refl _ | with_reducible assumption | with_reducible refine New.alloc ?_ _ | with_reducible refine New.drewN ?_ _ | with_reducible refine New.drew ?_ | with_reducible refine New.setCell ?_ (by first | omega | (simp; done) | (simp; omega)) _ | with_reducible refine New.tail (by assumption) ?_)), World.ownsRow_made w1 #[] 0 (Nat.le_refl _) (by simp) rfl⟩
        case round =>
          obtain ⟨q, hq, rfl, hwi, hownq⟩ := hrel
          by_cases hql : q < n
          · have hqM : q < M.length := by rw [HL.out]; exact hql
            obtain ⟨b, off, R, c, hA, hI, hc⟩ := hM.at_ hqM
            have hrl := (HB.out M[q] (List.getElem_mem hqM)).1
            rw [HL.out] at hrl
            have hkl : k < M[q].length := by omega
            have hme := mAt_get hqM hkl
            obtain ⟨b2, off2, x, hR, hx, hcx⟩ := (hI.keep (hw1.trans hwi)).at_ hkl
            rw [hx] at hme
            have Ht := Lib.hid (colF_take M n k q hql)
            rw [← hme] at Ht
            have hc2 := fun w' (hn : New wr w') => hc w' ((hw1.trans hwi).trans hn)
            rw [hrl] at hc2
            subst hA hR
            clear hc hI hrl hkl hme hx
            go_wp2_with (at_builtin; refine wpList_append_own _ rfl _ _ 58 rfl w1.heap.size 3 i0 (.int .i64 0) 1 8 Try.underlying58 hi hz hs hb rfl (by decide) _ _ _ rfl (hownq.alloc _) ⟨wr.heap.size, 0, none⟩ 1 1 [.int .i64 x] rfl rfl (one_new _ _ _) (one_oneCell _) (by unfold maxLen; omega) (by omega) (by have := hwi.size; simp; omega) ?_; intro v' w5 hown' hgrow _)
            have hnew : New w1 w5 := (hwi.alloc _).grown hgrow (fun j hj => (hownq.lt j hj).1)
            go_wp2_with fail
            go_roundw
            case rel => exact ⟨q + 1, by omega, by go_num, hnew, by rw [Ht.out, List.map_append]; exact hown'⟩
            case measure => simp [intOf]; omega
          · obtain rfl : q = n := by omega
            have hcl := colF_length M q k
            rw [List.take_of_length_le (by omega)] at hownq
            obtain ⟨-, h0 | ⟨g5, c5, hv5, hg5, hI5⟩⟩ := Ints.of_own hownq
            · have := congrArg List.length h0.2
              rw [hcl] at this
              simp at this
              omega
            rw [hcl] at hv5
            subst hv5
            have hown2 := own_new hown1 hwi
            clear hownq hcl hown1
            go_wp2_with (at_builtin; refine wpList_append_own _ rfl _ _ 41 rfl w.heap.size 58 i1 (.slice none 0 0) 1 24 Try.underlying41 ki kz ks kb rfl (by decide) _ _ _ rfl (hown2.alloc _) ⟨wr.heap.size, 0, none⟩ 1 1 [.slice (some ⟨g5, 0, none⟩) q c5] rfl rfl (one_new _ _ _) (slice_oneCell _ _ _) (by unfold maxLen; omega) (by omega) (by have := hwi.size; have := hw1.size; simp; omega) ?_; intro v' w5 hown' hgrow _)
            have hnew : New w w5 := ((hw1.trans hwi).alloc _).grown hgrow (fun j hj => (hown2.lt j hj).1)
            have hlen := hown2.1
            have hI6 := (hI5.keep ((New.refl wr).alloc (.cells #[.slice (some ⟨g5, 0, none⟩) q c5] 58))).grown hgrow (own_ne (hown2.alloc _) (hI5.keep ((New.refl wr).alloc (.cells #[.slice (some ⟨g5, 0, none⟩) q c5] 58))) (by decide))
            have hrows : Hid (∀ j, j < k + 1 → ∃ gj c, (rs ++ [Value.slice (some ⟨g5, 0, none⟩) q c5])[j]? = some (.slice (some ⟨gj, 0, none⟩) q c) ∧ Ints w5 gj (colF M q j)) := fun j hj => by
              rcases Nat.lt_or_ge j k with hjk | hjk
              · obtain ⟨gj, c, a, b⟩ := Hrs1.out j hjk
                refine ⟨gj, c, by rw [List.getElem?_append_left (by omega)]; exact a, ?_⟩
                have hb2 := (b.keep hwi).keep ((New.refl wr).alloc (.cells #[.slice (some ⟨g5, 0, none⟩) q c5] 58))
                exact hb2.grown hgrow (own_ne (hown2.alloc _) hb2 (by decide))
              · obtain rfl : j = k := by omega
                refine ⟨g5, c5, ?_, hI6⟩
                rw [List.getElem?_append_right (by omega)]
                have e0 : j - rs.length = 0 := by omega
                rw [e0]
                rfl
            clear hI5 hI6 hown2 hgrow hlen
            go_wp2_with fail
            go_roundw
            case rel => exact ⟨k + 1, by omega, by go_num, hnew, _, hown', hrows⟩
            case measure => simp [intOf]; omega
      · obtain rfl : k = n := by omega
        have hnlt : ¬ (k : Int) < (k : Int) := by omega
        have hlen := hown.1
        have hfin : ∃ B cp, u3 = .slice B k cp ∧ MatAt wr B (sq k fun c r => mAt M r c) := by
          rcases hown.2 with ⟨rfl, h0⟩ | ⟨g, cp, cur, rfl, hg, hh, hcp, _, hsz, htk⟩
          · subst h0; exact ⟨none, 0, rfl, fun h => absurd rfl h⟩
          · refine ⟨_, cp, rfl, fun _ => ⟨g, 0, rfl, Has.lt (cs := cur) (T := 58) hh, fun j r hj => ?_⟩⟩
            have hjl := (List.getElem?_eq_some_iff.1 hj).1
            rw [sq_length] at hjl
            rw [sq_col _ _ _ hjl] at hj
            simp only [Option.some.injEq] at hj
            obtain ⟨gj, c, a, b⟩ := Hrs.out j hjl
            refine ⟨some ⟨gj, 0, none⟩, c, ?_, by rw [← hj]; exact b.reads⟩
            rw [Nat.zero_add, Has.cells (cs := cur) (T := 58) hh j wr (New.refl wr), ← hj, colF_length, ← a, ← htk, List.getElem?_take, if_pos (by omega)]
            simp
        obtain ⟨B, cp, hB, hMt⟩ := hfin
        subst hB
        clear hown Hrs hlen
        go_wp2_with fail
        go_ret
        exact ⟨B, ⟨cp, rfl⟩, hMt, hw⟩
end Go.Proofs.Ytmopbghngaeplaa
