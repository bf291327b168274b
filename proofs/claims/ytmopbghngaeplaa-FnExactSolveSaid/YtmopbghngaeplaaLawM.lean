/- Contracts of the laws' helpers on matrices: toIntS, toIntSS, eqIntSS, szIntSS. -/
import Derived.Test.YtmopbghngaeplaaMat
import Derived.Test.YtmopbghngaeplaaMarks
namespace Go.Proofs.Ytmopbghngaeplaa
open Go.ChangeShapes Go.WideShapes Go.ChangeAt Go.RowKit Go.Deep Go.Joins
set_option linter.all false
/-- The first k entries copied. -/
def cpTo (l : List Int) (k : Nat) : List Int := l.take k ++ List.replicate (l.length - k) 0
theorem cpTo_zero (l : List Int) : cpTo l 0 = List.replicate l.length 0 := by simp [cpTo]
theorem cpTo_all (l : List Int) : cpTo l l.length = l := by simp [cpTo]
theorem cpTo_len (l : List Int) (k : Nat) (h : k ≤ l.length) : (cpTo l k).length = l.length := by simp [cpTo]; omega
theorem cpTo_set (l : List Int) (k : Nat) (h : k < l.length) : (cpTo l k).set k l[k] = cpTo l (k + 1) := by
  have e : l.length - k = (l.length - (k + 1)) + 1 := by omega
  unfold cpTo
  have e3 : l.take (k + 1) = l.take k ++ [l[k]] := List.take_succ_eq_append_getElem h
  rw [e, e3, List.replicate_succ, List.set_append_right _ _ (by simp; omega)]
  have e2 : k - (l.take k).length = 0 := by simp; omega
  rw [e2, List.set_cons_zero, List.append_assoc]
  rfl
theorem toIntS_any (A : Option Addr) (cap n : Nat) (l : List Int) (w : World) (hln : l.length = n) (h : IntsAt w A l) (hm : n ≤ 1099511627776) :
    Calls Try.prog 44 #[.slice A n cap] w fun r w' => ∃ g, r = .returned (.slice (some ⟨g, 0, none⟩) n n) ∧ w.heap.size ≤ g ∧ Ints w' g l ∧ New w w' := by
  subst hln
  have hmk := makeInts l.length hm
  go_enter Try.func44, Try.ntmps44
  go_wp2_with fail
  go_loopw [4] (fun i wr => ∃ k : Nat, k ≤ l.length ∧ i = .int .i64 k ∧ New w wr ∧ Ints wr w.heap.size (cpTo l k)) (fun i _ => l.length - (intOf i).toNat)
  case atStart => exact ⟨0, Nat.zero_le _, rfl, (by repeat (first | with_reducible exact New.refl _ | with_reducible assumption | with_reducible refine New.alloc ?_ _ | with_reducible refine New.drewN ?_ _ | with_reducible refine New.drew ?_ | with_reducible refine New.setCell ?_ (by first | omega | (simp; done) | (simp; omega)) _ | with_reducible refine New.tail (by assumption) ?_)), by rw [cpTo_zero]; exact Ints.made _ _⟩
  case round =>
    obtain ⟨k, hk, rfl, hw, hi⟩ := hrel
    by_cases hlt : k < l.length
    · have Hset := Lib.hid (cpTo_set l k hlt)
      obtain ⟨b, off, y, hA, hy, hc⟩ := (h.keep hw).at_ hlt
      rw [hy] at Hset
      subst hA
      obtain ⟨x, hx⟩ : ∃ x, (cpTo l k)[k]? = some x := ⟨_, List.getElem?_eq_getElem (by rw [cpTo_len _ _ (by omega)]; exact hlt)⟩
      have c1 := hi.cell hx
      have f1 := hi.free
      clear hx hmk hy
      go_wp2_with fail
      go_roundw
      case rel => exact ⟨k + 1, by omega, by go_num, hw.setCell (p := ⟨w.heap.size, k, none⟩) (Nat.le_refl _) _, by rw [← Hset.out]; exact hi.set k _⟩
      case measure => simp [intOf]; omega
    · obtain rfl : k = l.length := by omega
      go_wp2_with fail
      go_ret
      exact ⟨_, rfl, Nat.le_refl _, by rw [cpTo_all] at hi; exact hi, hw⟩
/-- A matrix in blocks of its own, all new since w0: the outer row in block g, the rows in greater blocks, one each. -/
def FMat (w0 w : World) (A : Option Addr) (M : List (List Int)) : Prop :=
  M ≠ [] → ∃ (g : Nat) (cs : Array Value) (Gs : List Nat), A = some ⟨g, 0, none⟩ ∧ w0.heap.size ≤ g ∧ Has w g cs 58 ∧ cs.size = M.length ∧ Gs.length = M.length ∧ Gs.Pairwise (· < ·) ∧
    ∀ (k : Nat) (r : List Int) (gk : Nat), M[k]? = some r → Gs[k]? = some gk → g < gk ∧ Ints w gk r ∧ ∃ c, r.length ≤ c ∧ cs[k]? = some (.slice (some ⟨gk, 0, none⟩) r.length c)
theorem FMat.nil {w w' : World} {A : Option Addr} : FMat w w' A [] := fun h => absurd rfl h
theorem FMat.keep {w0 w w' : World} {A : Option Addr} {M : List (List Int)} (h : FMat w0 w A M) (hn : New w w') : FMat w0 w' A M := fun hne => by
  obtain ⟨g, cs, Gs, e, h1, h2, h3, h4, h5, h6⟩ := h hne
  exact ⟨g, cs, Gs, e, h1, h2.keep hn, h3, h4, h5, fun k r gk a b => ⟨(h6 k r gk a b).1, (h6 k r gk a b).2.1.keep hn, (h6 k r gk a b).2.2⟩⟩
theorem FMat.reads {w0 w : World} {A : Option Addr} {M : List (List Int)} (h : FMat w0 w A M) : MatAt w A M := fun hne => by
  obtain ⟨g, cs, Gs, e, h1, h2, h3, h4, h5, h6⟩ := h hne
  refine ⟨g, 0, e, h2.lt, fun k r hk => ?_⟩
  have hkl := (List.getElem?_eq_some_iff.1 hk).1
  obtain ⟨a, b, c, _, hc⟩ := h6 k r Gs[k] hk (List.getElem?_eq_getElem (by omega))
  exact ⟨_, c, by rw [Nat.zero_add, h2.cells k w (New.refl w)]; exact hc, b.reads⟩
/-- As MatAt, and each row's capacity holds it. -/
def MatC (w : World) (A : Option Addr) (M : List (List Int)) : Prop :=
  M ≠ [] → ∃ b off, A = some ⟨b, off, none⟩ ∧ b < w.heap.size ∧ ∀ (k : Nat) (r : List Int), M[k]? = some r → ∃ R c, r.length ≤ c ∧ w.cell? ⟨b, off + k, none⟩ = some (.slice R r.length c) ∧ IntsAt w R r
theorem MatC.reads {w : World} {A : Option Addr} {M : List (List Int)} (h : MatC w A M) : MatAt w A M := fun hne => by
  obtain ⟨b, off, e, hb, hc⟩ := h hne
  refine ⟨b, off, e, hb, fun k r hk => ?_⟩
  obtain ⟨R, c, _, h1, h2⟩ := hc k r hk
  exact ⟨R, c, h1, h2⟩
theorem MatC.keep {w w' : World} {A : Option Addr} {M : List (List Int)} (h : MatC w A M) (hn : New w w') : MatC w' A M := fun hne => by
  obtain ⟨b, off, e, hb, hc⟩ := h hne
  refine ⟨b, off, e, Nat.lt_of_lt_of_le hb hn.size, fun k r hk => ?_⟩
  obtain ⟨R, c, h0, h1, h2⟩ := hc k r hk
  exact ⟨R, c, h0, (New.cell hn (p := ⟨b, off + k, none⟩) hb).trans h1, h2.keep hn⟩
theorem MatC.at_ {w : World} {A : Option Addr} {M : List (List Int)} (h : MatC w A M) {k : Nat} (hk : k < M.length) : ∃ b off R c, A = some ⟨b, off, none⟩ ∧ M[k].length ≤ c ∧ IntsAt w R M[k] ∧ ∀ w', New w w' → w'.cell? ⟨b, off + k, none⟩ = some (.slice R M[k].length c) := by
  obtain ⟨b, off, e, hb, hc⟩ := h (by intro h0; subst h0; simp at hk)
  obtain ⟨R, c, h0, h1, h2⟩ := hc k _ (List.getElem?_eq_getElem hk)
  exact ⟨b, off, R, c, e, h0, h2, fun w' hn => (New.cell hn (p := ⟨b, off + k, none⟩) hb).trans h1⟩
theorem FMat.readsC {w0 w : World} {A : Option Addr} {M : List (List Int)} (h : FMat w0 w A M) : MatC w A M := fun hne => by
  obtain ⟨g, cs, Gs, e, h1, h2, h3, h4, h5, h6⟩ := h hne
  refine ⟨g, 0, e, h2.lt, fun k r hk => ?_⟩
  have hkl := (List.getElem?_eq_some_iff.1 hk).1
  obtain ⟨a, b, c, h0, hc⟩ := h6 k r Gs[k] hk (List.getElem?_eq_getElem (by omega))
  exact ⟨_, c, h0, by rw [Nat.zero_add, h2.cells k w (New.refl w)]; exact hc, b.reads⟩
theorem infoRow : (Try.prog.info? 58).map (fun i => (i.zero, i.size, i.bytes)) = some (some (.slice none 0 0), 1, 24) := by kernel_rfl
theorem makeRows (n : Nat) (hn : n ≤ 1099511627776) : ∀ w : World, (Instr.makeSlice 41 (.int .i64 (n : Int)) (.int .i64 (n : Int))).run Try.prog w =
    .ok (.slice (some ⟨w.heap.size, 0, none⟩) n n) (w.alloc (.cells (madeCells #[.slice none 0 0] n) 58)) := by
  intro w
  obtain ⟨i0, hi, hz, hs, hb⟩ := info_parts infoRow
  have h := run_make (P := Try.prog) w 41 58 i0 _ Try.underlying41 hi hz .i64 .i64 n n (by omega) (by omega) (by rw [hb]; omega) (by omega)
  rw [hs, Nat.mul_one] at h
  simp only [Int.toNat_natCast] at h
  exact h
set_option maxHeartbeats 1000000 in
theorem toIntSS_any (A : Option Addr) (cap : Nat) (M : List (List Int)) (w : World) (h : MatAt w A M) (hm : M.length ≤ 1099511627776) (hr : ∀ r ∈ M, r.length ≤ 1099511627776) :
    Calls Try.prog 29 #[.slice A M.length cap] w fun r w' => ∃ g, r = .returned (.slice (some ⟨g, 0, none⟩) M.length M.length) ∧ FMat w w' (some ⟨g, 0, none⟩) M ∧ New w w' := by
  have HR := Lib.hid hr
  clear hr
  have hmk := makeRows M.length hm
  go_enter Try.func29, Try.ntmps29
  go_wp2_with fail
  go_loopw [4] (fun i wr => ∃ k : Nat, k ≤ M.length ∧ i = .int .i64 k ∧ New w wr ∧ w.heap.size < wr.heap.size ∧ ∃ (cs : Array Value) (Gs : List Nat), Has wr w.heap.size cs 58 ∧ cs.size = M.length ∧ Gs.length = k ∧ Gs.Pairwise (· < ·) ∧ (∀ x ∈ Gs, x < wr.heap.size) ∧
      ∀ (j : Nat) (r : List Int) (gj : Nat), M[j]? = some r → Gs[j]? = some gj → w.heap.size < gj ∧ Ints wr gj r ∧ ∃ c, r.length ≤ c ∧ cs[j]? = some (.slice (some ⟨gj, 0, none⟩) r.length c)) (fun i _ => M.length - (intOf i).toNat)
  case atStart => exact ⟨0, Nat.zero_le _, rfl, (by repeat (first | with_reducible exact New.refl _ | with_reducible assumption | with_reducible refine New.alloc ?_ _ | with_reducible refine New.drewN ?_ _ | with_reducible refine New.drew ?_ | with_reducible refine New.setCell ?_ (by first | omega | (simp; done) | (simp; omega)) _ | with_reducible refine New.tail (by assumption) ?_)), by simp, _, [], Has.new _ _ _, by rw [size_madeCells], rfl, List.Pairwise.nil, by simp, fun j r gj _ h => by simp at h⟩
  case round =>
    obtain ⟨k, hk, rfl, hw, hsz, cs, Gs, hcs, hcl, hgl, hpw, hlt2, hin⟩ := hrel
    have Hin := Lib.hid hin
    have Hcl := Lib.hid hcl
    have Hgl := Lib.hid hgl
    have Hlt2 := Lib.hid hlt2
    clear hin hcl hgl hlt2 hmk
    by_cases hlt : k < M.length
    · obtain ⟨b, off, R, c, hA, hI, hc⟩ := (h.keep hw).at_ hlt
      subst hA
      have hlen := HR.out M[k] (List.getElem_mem hlt)
      obtain ⟨r, hrk⟩ : ∃ r, M[k] = r := ⟨_, rfl⟩
      have HK := Lib.hid hrk
      rw [hrk] at hI hc hlen
      clear hrk
      obtain ⟨x0, hx0⟩ : ∃ x, cs[k]? = some x := ⟨_, Array.getElem?_eq_getElem (by have := Hcl.out; omega)⟩
      have k0 := fun w' hn => (hcs.cells k w' hn).trans hx0
      have kf := hcs.frees
      clear hx0
      go_wp2_with (go_at_call 44; refine (toIntS_any _ _ _ _ _ rfl hI hlen).mono ?_; rintro e w1 ⟨g1, rfl, hg1, hi1, hn1⟩)
      go_roundw
      case rel =>
        have hne1 : g1 ≠ w.heap.size := by omega
        have hl1 := hi1.lt
        refine ⟨k + 1, by omega, by go_num, New.setCell (hw.trans hn1) (p := ⟨w.heap.size, k, none⟩) (Nat.le_refl _) _, by have := hn1.size; simp; omega, _, Gs ++ [g1], (hcs.keep hn1).set k _, by simpa using Hcl.out, by simp [Hgl.out], ?_, ?_, ?_⟩
        · rw [List.pairwise_append]
          refine ⟨hpw, List.pairwise_singleton _ _, fun a ha b hb => ?_⟩
          have := Hlt2.out a ha
          simp at hb
          omega
        · intro x hx
          rw [List.mem_append] at hx
          rcases hx with hx | hx
          · have := Hlt2.out x hx; have := hn1.size; simp; omega
          · simp at hx; subst hx; simpa using hl1
        · intro j r' gj hj hgj
          rcases Nat.lt_or_ge j k with hjk | hjk
          · rw [List.getElem?_append_left (by rw [Hgl.out]; exact hjk)] at hgj
            obtain ⟨a1, a2, c2, a4, a3⟩ := Hin.out j r' gj hj hgj
            exact ⟨a1, (a2.keep hn1).far (p := ⟨w.heap.size, k, none⟩) (by simp; omega) _, c2, a4, by rw [Array.getElem?_setIfInBounds, if_neg (by omega)]; exact a3⟩
          · rw [List.getElem?_append_right (by rw [Hgl.out]; exact hjk), Hgl.out] at hgj
            have hjk2 : j = k := by
              have := (List.getElem?_eq_some_iff.1 hgj).1
              simp at this
              omega
            subst hjk2
            simp at hgj
            subst hgj
            rw [List.getElem?_eq_getElem hlt, HK.out] at hj
            simp only [Option.some.injEq] at hj
            subst hj
            refine ⟨by omega, hi1.far (p := ⟨w.heap.size, j, none⟩) (by simp; omega) _, r.length, Nat.le_refl _, ?_⟩
            rw [Array.getElem?_setIfInBounds, if_pos rfl, if_pos (by have := Hcl.out; omega)]
      case measure => simp [intOf]; omega
    · obtain rfl : k = M.length := by omega
      go_wp2_with fail
      go_ret
      exact ⟨_, rfl, fun _ => ⟨_, cs, Gs, rfl, Nat.le_refl _, hcs, Hcl.out, Hgl.out, hpw, Hin.out⟩, hw⟩
set_option maxHeartbeats 1000000 in
theorem eqIntSS_same (A B : Option Addr) (ca cb n : Nat) (M : List (List Int)) (w : World) (hln : M.length = n) (hA : MatAt w A M) (hB : MatAt w B M) (hm : n ≤ 1099511627776) (hr : ∀ r ∈ M, r.length ≤ 1099511627776) :
    Calls Try.prog 31 #[.slice A n ca, .slice B n cb] w fun r w' => r = .returned (.bool true) ∧ New w w' := by
  subst hln
  have HR := Lib.hid hr
  clear hr
  go_enter Try.func31, Try.ntmps31
  go_wp2_with fail
  go_loopw [5] (fun i wr => ∃ k : Nat, k ≤ M.length ∧ i = .int .i64 k ∧ New w wr) (fun i _ => M.length - (intOf i).toNat)
  case atStart => exact ⟨0, Nat.zero_le _, rfl, New.refl _⟩
  case round =>
    obtain ⟨k, hk, rfl, hw⟩ := hrel
    by_cases hlt : k < M.length
    · obtain ⟨b, off, R, c, e1, hI, hc⟩ := (hA.keep hw).at_ hlt
      obtain ⟨b', off', R', c', e2, hI', hc'⟩ := (hB.keep hw).at_ hlt
      have hlen := HR.out M[k] (List.getElem_mem hlt)
      obtain ⟨r, hrk⟩ : ∃ r, M[k] = r := ⟨_, rfl⟩
      rw [hrk] at hI hc hI' hc' hlen
      subst e1 e2
      clear hA hB hrk
      have hk0 : (0 : Int) ≤ (k : Int) := by omega
      have hk1 : (k : Int) < (M.length : Int) := by omega
      go_wp2_with fail
      go_region_held3 (fun w' => New wr w') ((repeat (first | with_reducible exact New.refl _ | with_reducible assumption | with_reducible refine New.alloc ?_ _ | with_reducible refine New.drewN ?_ _ | with_reducible refine New.drew ?_ | with_reducible refine New.setCell ?_ (by first | omega | (simp; done) | (simp; omega)) _ | with_reducible refine New.tail (by assumption) ?_))) (first | (go_at_call 46; refine (eqIntS_same _ _ _ _ _ _ _ rfl (hI.keep (by repeat (first | with_reducible exact New.refl _ | with_reducible assumption | with_reducible refine New.alloc ?_ _ | with_reducible refine New.drewN ?_ _ | with_reducible refine New.drew ?_ | with_reducible refine New.setCell ?_ (by first | omega | (simp; done) | (simp; omega)) _ | with_reducible refine New.tail (by assumption) ?_))) (hI'.keep (by repeat (first | with_reducible exact New.refl _ | with_reducible assumption | with_reducible refine New.alloc ?_ _ | with_reducible refine New.drewN ?_ _ | with_reducible refine New.drew ?_ | with_reducible refine New.setCell ?_ (by first | omega | (simp; done) | (simp; omega)) _ | with_reducible refine New.tail (by assumption) ?_))) hlen).mono ?_; rintro e w1 ⟨rfl, hn⟩))
      go_wp2_with fail
      go_roundw
      case rel => exact ⟨k + 1, by omega, by go_num, hw.trans (by repeat (first | with_reducible exact New.refl _ | with_reducible assumption | with_reducible refine New.alloc ?_ _ | with_reducible refine New.drewN ?_ _ | with_reducible refine New.drew ?_ | with_reducible refine New.setCell ?_ (by first | omega | (simp; done) | (simp; omega)) _ | with_reducible refine New.tail (by assumption) ?_))⟩
      case measure => simp [intOf]; omega
    · go_wp2_with fail
      go_ret
      exact ⟨rfl, hw⟩
theorem szIntS_any (A : Option Addr) (n cap : Nat) (left : Int) (w : World) (h0 : 0 ≤ left) (h1 : left ≤ 1099511627776) (hn : n ≤ maxLen) :
    Calls Try.prog 57 #[.slice A n cap, .int .i64 left] w fun r w' => r = .returned (.int .i64 (if left < n then -1 else left - n)) ∧ w = w' := by
  have hn' : (n : Int) ≤ 9223372036854775807 := by unfold maxLen at hn; omega
  by_cases h : left < (n : Int)
  · have h' : left - (n : Int) < 0 := by omega
    go_enter Try.func57, Try.ntmps57
    go_wp2
    go_ret
    exact ⟨rfl, rfl⟩
  · have h' : ¬ left - (n : Int) < 0 := by omega
    go_enter Try.func57, Try.ntmps57
    go_wp2
    go_ret
    exact ⟨rfl, rfl⟩
/-- What szIntSS answers: less than nothing, or all lengths are small. -/
def SzMat (M : List (List Int)) (w : World) (e : Ending) (w' : World) : Prop :=
  New w w' ∧ ((e = .returned (.int .i64 (-1))) ∨ ∃ z : Int, 0 ≤ z ∧ e = .returned (.int .i64 z) ∧ z ≤ 1048576 ∧ M.length ≤ 1048576 ∧ ∀ r ∈ M, r.length ≤ 1048576)
set_option maxHeartbeats 1000000 in
theorem szIntSS_any (A : Option Addr) (cap : Nat) (M : List (List Int)) (w : World) (h : MatAt w A M) (hm : M.length ≤ maxLen) (hr : ∀ r ∈ M, r.length ≤ maxLen) :
    Calls Try.prog 27 #[.slice A M.length cap, .int .i64 1048576] w (SzMat M w) := by
  have HR := Lib.hid hr
  clear hr
  have hm' : (M.length : Int) ≤ 9223372036854775807 := by unfold maxLen at hm; omega
  by_cases hb : (1048576 : Int) < (M.length : Int)
  · have hneg : (1048576 : Int) - (M.length : Int) < 0 := by omega
    go_enter Try.func27, Try.ntmps27
    go_wp2_with fail
    go_ret
    exact ⟨New.refl _, .inl rfl⟩
  · have hneg : ¬ (1048576 : Int) - (M.length : Int) < 0 := by omega
    go_enter Try.func27, Try.ntmps27
    go_wp2_with fail
    go_loopw [5, 1] (fun i v wr => ∃ k : Nat, k ≤ M.length ∧ i = .int .i64 k ∧ New w wr ∧ ∃ z : Int, 0 ≤ z ∧ z ≤ 1048576 ∧ v = .int .i64 z ∧ ∀ j (hj : j < M.length), j < k → M[j].length ≤ 1048576) (fun i _ _ => M.length - (intOf i).toNat)
    case atStart => exact ⟨0, Nat.zero_le _, rfl, New.refl _, _, by omega, by omega, rfl, fun j hj h => absurd h (Nat.not_lt_zero _)⟩
    case round =>
      obtain ⟨k, hk, rfl, hw, z, hz0, hz1, rfl, hall⟩ := hrel
      have Hall := Lib.hid hall
      clear hall
      by_cases hlt : k < M.length
      · obtain ⟨b, off, R, c, hA, hI, hc⟩ := (h.keep hw).at_ hlt
        subst hA
        have hlen := HR.out M[k] (List.getElem_mem hlt)
        obtain ⟨r, hrk⟩ : ∃ r, M[k] = r := ⟨_, rfl⟩
        have HK := Lib.hid hrk
        rw [hrk] at hI hc hlen
        clear hrk
        by_cases hzr : z < (r.length : Int)
        · go_wp2_with fail
          refine (szIntS_any _ _ _ _ _ hz0 (by omega) hlen).mono ?_
          rw [if_pos hzr]
          rintro e w1 ⟨rfl, rfl⟩
          go_wp2_with fail
          go_ret
          exact ⟨hw, .inl rfl⟩
        · have hz2 : (r.length : Int) ≤ z := by omega
          go_wp2_with fail
          refine (szIntS_any _ _ _ _ _ hz0 (by omega) hlen).mono ?_
          rw [if_neg (by omega)]
          rintro e w1 ⟨rfl, rfl⟩
          have hz3 : ¬ z - (r.length : Int) < 0 := by omega
          go_wp2_with fail
          go_roundw
          case rel => exact ⟨k + 1, by omega, by go_num, hw, _, by omega, by omega, rfl, fun j hj h => by
            rcases Nat.lt_or_ge j k with hjk | hjk
            · exact Hall.out j hj hjk
            · obtain rfl : j = k := by omega
              rw [HK.out]; omega⟩
          case measure => simp [intOf]; omega
      · go_wp2_with fail
        go_ret
        refine ⟨hw, .inr ⟨z, hz0, rfl, hz1, by omega, fun r hr => ?_⟩⟩
        obtain ⟨j, hj, rfl⟩ := List.getElem_of_mem hr
        exact Hall.out j hj (by omega)
theorem add_zero' (a : Addr) : a.add 0 = a := by unfold Addr.add; simp
section
variable {H : Type} {enc : TypeId × Value → H} {P : Program} {w : World} {base : Nat} {spare : Nat → Bool} {held : Bool}
/-- A slice of ints reads as a list. -/
theorem open_intsAt {t e : TypeId} {fuel : Nat} {v : Value} {x : DataW H × List MemPlace} (ht : P.underlying t = some (.slice e)) (he : P.underlying e = some (.int .i64)) (hC : P.cellsOf e = 1) (h : DataW.trod enc P w base spare held fuel t [v] = some x) :
    ∃ (A : Option Addr) (cap : Nat) (l : List Int), v = .slice A l.length cap ∧ IntsAt w A l ∧ l.length ≤ maxLen := by
  rcases open_slice ht h with ⟨e1, -⟩ | ⟨a, len, cap, m, n, D, Pl, e1, hb, hl, hmx, hm, -, hi⟩
  · simp at e1
    exact ⟨none, 0, [], by simpa using e1, fun h => absurd rfl h, by simp⟩
  · have hml : len ≤ m := by rw [hm]; split <;> omega
    have hall : ∀ i, i < len → ∃ q : Int, w.cell? (a.add i) = some (.int .i64 q) := by
      intro i hil
      obtain ⟨cs', hc, ht'⟩ := hi i (by omega)
      rw [hC, Nat.mul_one] at hc
      obtain ⟨_, hcl, hat⟩ := World.cells?_some hc
      match cs', hcl with
      | [c0], _ =>
        obtain ⟨q, rfl⟩ := int_of_cell he ht'
        have := hat 0 (by omega)
        rw [add_zero'] at this
        exact ⟨q, by simpa using this⟩
    obtain ⟨L, hL, hP⟩ := list_of_all len hall
    subst hL
    refine ⟨some a, cap, L, by simpa using e1, fun hne => ?_, by omega⟩
    obtain ⟨q, hq⟩ : ∃ q, L[0]? = some q := ⟨_, List.getElem?_eq_getElem (by cases L; exact absurd rfl hne; simp)⟩
    have h00 := hP 0 q hq
    have ea : a.add 0 = a := by unfold Addr.add; simp
    rw [ea] at h00
    have hsp := spot_of_cell h00
    have hlt := World.block_lt_of_cell? w a h00
    refine ⟨a.block, a.off, by rw [← hsp], hlt, fun k g hk => ?_⟩
    have g5 := hP k g hk
    rw [hsp] at g5
    simp only [add_none] at g5
    exact g5
/-- A slice of slices of ints reads as a matrix. -/
theorem open_matAt {t e i : TypeId} {fuel : Nat} {v : Value} {x : DataW H × List MemPlace} (ht : P.underlying t = some (.slice e)) (he : P.underlying e = some (.slice i)) (hi' : P.underlying i = some (.int .i64)) (hC : P.cellsOf e = 1) (hCi : P.cellsOf i = 1)
    (h : DataW.trod enc P w base spare held fuel t [v] = some x) :
    ∃ (A : Option Addr) (cap : Nat) (M : List (List Int)), v = .slice A M.length cap ∧ MatAt w A M ∧ M.length ≤ maxLen ∧ ∀ r ∈ M, r.length ≤ maxLen := by
  rcases open_slice ht h with ⟨e1, -⟩ | ⟨a, len, cap, m, n, D, Pl, e1, hb, hl, hmx, hm, -, hi⟩
  · simp at e1
    exact ⟨none, 0, [], by simpa using e1, fun h => absurd rfl h, by simp, by simp⟩
  · have hml : len ≤ m := by rw [hm]; split <;> omega
    have hall : ∀ i, i < len → ∃ r : List Int, r.length ≤ maxLen ∧ ∃ R c, w.cell? (a.add i) = some (.slice R r.length c) ∧ IntsAt w R r := by
      intro i hil
      obtain ⟨cs', hc, ht'⟩ := hi i (by omega)
      rw [hC, Nat.mul_one] at hc
      obtain ⟨_, hcl, hat⟩ := World.cells?_some hc
      match cs', hcl with
      | [c0], _ =>
        obtain ⟨R, c, r, rfl, hR, hm⟩ := open_intsAt he hi' hCi ht'
        have := hat 0 (by omega)
        rw [add_zero'] at this
        exact ⟨r, hm, R, c, by simpa using this, hR⟩
    obtain ⟨L, hL, hP⟩ := list_of_all len hall
    subst hL
    refine ⟨some a, cap, L, by simpa using e1, fun hne => ?_, by omega, fun r hr => ?_⟩
    · obtain ⟨q, hq⟩ : ∃ q, L[0]? = some q := ⟨_, List.getElem?_eq_getElem (by cases L; exact absurd rfl hne; simp)⟩
      obtain ⟨_, R, c, h00, _⟩ := hP 0 q hq
      have ea : a.add 0 = a := by unfold Addr.add; simp
      rw [ea] at h00
      have hsp := spot_of_cell h00
      have hlt := World.block_lt_of_cell? w a h00
      refine ⟨a.block, a.off, by rw [← hsp], hlt, fun k g hk => ?_⟩
      obtain ⟨_, R, c, g1, g2⟩ := hP k g hk
      rw [hsp] at g1
      simp only [add_none] at g1
      exact ⟨R, c, g1, g2⟩
    · obtain ⟨j, hj, rfl⟩ := List.getElem_of_mem hr
      exact (hP j _ (List.getElem?_eq_getElem hj)).1
end
theorem open_matArg {H : Type} {enc : TypeId × Value → H} {w : World} {base : Nat} {spare : Nat → Bool} {held : Bool} {r : Reach} {b0 : Nat} {v : Value} {d : DataW H} {p : List MemPlace}
    (hv : Value.okWide Try.prog w r b0 41 v) (h : DataW.Trod enc Try.prog w base spare held 41 v d p) :
    ∃ (A : Option Addr) (cap : Nat) (M : List (List Int)), v = .slice A M.length cap ∧ MatAt w A M ∧ M.length ≤ maxLen ∧ ∀ r ∈ M, r.length ≤ maxLen := by
  obtain ⟨a0, len, cap, rfl⟩ := okWide_slice Try.underlying41 hv
  obtain ⟨fuel, hf⟩ := h
  exact open_matAt Try.underlying41 Try.underlying58 Try.underlying3 (by kernel_rfl) (by kernel_rfl) hf
end Go.Proofs.Ytmopbghngaeplaa
