/- Steps in memory; contracts of stepEnds, StepsOk (program and reference). -/
import Derived.Test.YtgcloaimolajjaaDoorParts
namespace Go.Proofs.YtgcloaimolajjaaDoor
open Go.RowKit
set_option linter.all false
/-- The slice at A reads as these steps. -/
def StepsAt (w : World) (A : Option Addr) (S : List St) : Prop :=
  S ≠ [] → ∃ b off, A = some ⟨b, off, none⟩ ∧ b < w.heap.size ∧ ∀ (k : Nat) (x : St), S[k]? = some x → w.cell? ⟨b, off + k * 2, none⟩ = some (.int .i64 x.i) ∧ w.cell? ⟨b, off + k * 2 + 1, none⟩ = some (.bool x.b)
theorem StepsAt.keep {w w' : World} {A : Option Addr} {S : List St} (h : StepsAt w A S) (hn : New w w') : StepsAt w' A S := fun hne => by
  obtain ⟨b, off, e, hb, hc⟩ := h hne
  refine ⟨b, off, e, Nat.lt_of_lt_of_le hb hn.size, fun k x hk => ?_⟩
  have hk := hc k x hk
  have kp : ∀ o, w'.cell? ⟨b, o, none⟩ = w.cell? ⟨b, o, none⟩ := fun o => New.cell hn (p := ⟨b, o, none⟩) hb
  rw [kp, kp]
  exact hk
theorem StepsAt.at_ {w : World} {A : Option Addr} {S : List St} (h : StepsAt w A S) {k : Nat} (hk : k < S.length) : ∃ b off i bb, A = some ⟨b, off, none⟩ ∧ S[k] = ⟨i, bb⟩ ∧ ∀ w', New w w' →
    w'.cell? ⟨b, off + k * 2, none⟩ = some (.int .i64 i) ∧ w'.cell? ⟨b, off + k * 2 + 1, none⟩ = some (.bool bb) := by
  obtain ⟨b, off, e, hb, hc⟩ := h (by intro h0; subst h0; simp at hk)
  refine ⟨b, off, _, _, e, rfl, fun w' hn => ?_⟩
  have hk := hc k _ (List.getElem?_eq_getElem hk)
  have kp : ∀ o, w'.cell? ⟨b, o, none⟩ = w.cell? ⟨b, o, none⟩ := fun o => New.cell hn (p := ⟨b, o, none⟩) hb
  rw [kp, kp]
  exact hk
def StepIn (cs : Array Value) (k : Nat) (x : St) : Prop := cs[k * 2]? = some (.int .i64 x.i) ∧ cs[k * 2 + 1]? = some (.bool x.b)
/-- The first cells of block g are these steps. -/
def StepBlk (w : World) (g : Nat) (S : List St) : Prop := ∃ cs : Array Value, Has w g cs 40 ∧ S.length * 2 ≤ cs.size ∧ ∀ (k : Nat) (x : St), S[k]? = some x → StepIn cs k x
theorem StepBlk.keep {w w' : World} {g : Nat} {S : List St} (h : StepBlk w g S) (hn : New w w') : StepBlk w' g S := by
  obtain ⟨cs, h1, h2⟩ := h
  exact ⟨cs, h1.keep hn, h2⟩
theorem StepBlk.lt {w : World} {g : Nat} {S : List St} (h : StepBlk w g S) : g < w.heap.size := by
  obtain ⟨cs, h1, h2⟩ := h
  exact h1.lt
theorem StepBlk.reads {w : World} {g : Nat} {S : List St} (h : StepBlk w g S) : StepsAt w (some ⟨g, 0, none⟩) S := fun _ => by
  obtain ⟨cs, h1, h2, h3⟩ := h
  refine ⟨g, 0, rfl, h1.lt, fun k x hk => ?_⟩
  have e : ∀ i, w.cell? ⟨g, i, none⟩ = cs[i]? := fun i => h1.cells i w (New.refl w)
  rw [Nat.zero_add, e, e]
  exact h3 k x hk
def soB (st : Int) (L : List Lg) (S : List St) : Bool := svB st L && chainB L S
theorem stepEnds_any (st : Int) (A : Option Addr) (cap : Nat) (L : List Lg) (j : Nat) (b : Bool) (w : World) (hL : LegsAt w A L) (hj : j < L.length) :
    Calls Tryd.prog 72 #[.agg #[.int .i64 st, .slice A L.length cap], .agg #[.int .i64 j, .bool b]] w fun r w' => r = .returned (.tuple #[.int .i64 (sBeg L ⟨j, b⟩), .int .i64 (sEnd L ⟨j, b⟩)]) ∧ New w w' := by
  have h1 : New w ((w.alloc (Obj.cells #[.int .i64 st, .slice A L.length cap] 25)).alloc (Obj.cells #[.int .i64 j, .bool b] 40)) := (by repeat (first | with_reducible exact New.refl _ | with_reducible assumption | with_reducible refine New.alloc ?_ _ | with_reducible refine New.drewN ?_ _ | with_reducible refine New.drew ?_ | with_reducible refine New.setCell ?_ (by first | omega | (simp; done) | (simp; omega)) _ | with_reducible refine New.tail (by assumption) ?_))
  have hl := legAt_get hj
  obtain ⟨bb, off, f, t, e, n, u, hA, hg, hc⟩ := (hL.keep h1).at_ hj
  have hc' := fun w' hn => hc w' hn
  rw [hg] at hl
  have Hb : Hid (sBeg L ⟨j, b⟩ = bk b t f) := by unfold sBeg; rw [hl]; rfl
  have He : Hid (sEnd L ⟨j, b⟩ = bk b f t) := by unfold sEnd; rw [hl]; rfl
  have hj0 : (0 : Int) ≤ (j : Int) := by omega
  have hj1 : (j : Int) < (L.length : Int) := by omega
  subst hA
  clear hl hg hc' hL
  cases b
  · go_enter Tryd.func72, Tryd.ntmps72
    go_upto_region 1 with fail
    go_wp2_with fail
    go_quiet (fail)
    go_wp2_with fail
    go_ret2
    exact ⟨by rw [Hb.out, He.out]; rfl, (by repeat (first | with_reducible exact New.refl _ | with_reducible assumption | with_reducible refine New.alloc ?_ _ | with_reducible refine New.drewN ?_ _ | with_reducible refine New.drew ?_ | with_reducible refine New.setCell ?_ (by first | omega | (simp; done) | (simp; omega)) _ | with_reducible refine New.tail (by assumption) ?_))⟩
  · go_enter Tryd.func72, Tryd.ntmps72
    go_upto_region 1 with fail
    go_wp2_with fail
    go_quiet (fail)
    go_wp2_with fail
    go_ret2
    exact ⟨by rw [Hb.out, He.out]; rfl, (by repeat (first | with_reducible exact New.refl _ | with_reducible assumption | with_reducible refine New.alloc ?_ _ | with_reducible refine New.drewN ?_ _ | with_reducible refine New.drew ?_ | with_reducible refine New.setCell ?_ (by first | omega | (simp; done) | (simp; omega)) _ | with_reducible refine New.tail (by assumption) ?_))⟩
theorem lt_one {P : Nat → Prop} (h : P 0) : ∀ j, j < 1 → P j := fun j hj => by
  obtain rfl : j = 0 := by omega
  exact h
theorem soB_sv {st : Int} {L : List Lg} {S : List St} (h : svB st L = false) : soB st L S = false := by simp [soB, h]
theorem soB_bad {st : Int} {L : List Lg} {S : List St} {k : Nat} (hk : k < S.length) (h : stepOkB L S k = false) : soB st L S = false := by simp [soB, chainB_bad hk h]
theorem soB_good {st : Int} {L : List Lg} {S : List St} (h1 : svB st L = true) (h : ∀ k, k < S.length → stepOkB L S k = true) : soB st L S = true := by simp [soB, h1, chainB_good h]
theorem bk_bd {b : Bool} {x y : Int} (hx : 0 ≤ x) (hy : 0 ≤ y) : 0 ≤ bk b x y := by cases b <;> assumption
set_option maxHeartbeats 2000000 in
theorem implStepsOk_any (st : Int) (A B : Option Addr) (cap cb : Nat) (L : List Lg) (S : List St) (w : World) (hL : LegsAt w A L) (hS : StepsAt w B S) (hm : L.length ≤ 1099511627776) (hms : S.length ≤ 1099511627776) :
    Calls Tryd.prog 24 #[.agg #[.int .i64 st, .slice A L.length cap], .slice B S.length cb] w fun r w' => r = .returned (.bool (soB st L S)) ∧ New w w' := by
  have h1 : New w (w.alloc (Obj.cells #[.int .i64 st, .slice A L.length cap] 25)) := (by repeat (first | with_reducible exact New.refl _ | with_reducible assumption | with_reducible refine New.alloc ?_ _ | with_reducible refine New.drewN ?_ _ | with_reducible refine New.drew ?_ | with_reducible refine New.setCell ?_ (by first | omega | (simp; done) | (simp; omega)) _ | with_reducible refine New.tail (by assumption) ?_))
  have h2 := Has.new w #[.int .i64 st, .slice A L.length cap] 25
  have hL' := hL.keep h1
  have hS' := hS.keep h1
  cases hv : svB st L
  · go_enter Tryd.func24, Tryd.ntmps24
    go_wp2_with (go_at_call 16; refine (implSurveyValid_any _ _ _ _ _ hL' hm).mono ?_; rw [hv]; rintro e w1 ⟨rfl, hn⟩)
    go_ret
    exact ⟨ret_bool (soB_sv hv).symm, h1.trans hn⟩
  · go_enter Tryd.func24, Tryd.ntmps24
    go_upto_region 1 with fail
    generalize (w.alloc (Obj.cells #[.int .i64 st, .slice A L.length cap] 25)) = W0 at *
    have c2 := h2.cells2
    clear h2
    go_wp2_with (go_at_call 16; refine (implSurveyValid_any _ _ _ _ _ hL' hm).mono ?_; rw [hv]; rintro e w1 ⟨rfl, hn⟩; have hk : New W0 w1 := New.tail hn (by repeat (first | with_reducible exact New.refl _ | with_reducible assumption | with_reducible refine New.alloc ?_ _ | with_reducible refine New.drewN ?_ _ | with_reducible refine New.drew ?_ | with_reducible refine New.setCell ?_ (by first | omega | (simp; done) | (simp; omega)) _ | with_reducible refine New.tail (by assumption) ?_)))
    have HV := Lib.hid hv
    clear hv
    go_loopw [15, 5, 6, 8, 9] (fun i v _ _ _ wr => ∃ k : Nat, k ≤ S.length ∧ i = .int .i64 k ∧ v = .int .i64 (atTo L S k) ∧ New W0 wr ∧ ∀ j, j < k → stepOkB L S j = true) (fun i _ _ _ _ _ => S.length - (intOf i).toNat)
    case atStart => exact ⟨0, Nat.zero_le _, rfl, rfl, hk, fun j h => absurd h (Nat.not_lt_zero _)⟩
    case round =>
      obtain ⟨k, hk', rfl, rfl, hw, hall⟩ := hrel
      have Hall := Lib.hid hall
      clear hall
      by_cases hlt : k < S.length
      · obtain ⟨bS, oS, xi, xb, hB, hx, cs⟩ := (hS'.keep hw).at_ hlt
        subst hB
        have Hst := Lib.hid (stepOkB_at (L := L) hlt hx)
        have Hat := Lib.hid (atTo_succ (L := L) hlt hx)
        clear hx
        cases hix : ixB xi L.length
        · have hbad : stepOkB L S k = false := by rw [Hst.out]; have := ixB_f.1 hix; simp only [this]; simp
          have Hbad := Lib.hid hbad
          clear hbad
          go_wp2_with (go_at_call 71; refine (isIndex_any _ _ _).mono ?_; rw [hix]; rintro e w1 ⟨rfl, rfl⟩)
          go_ret
          exact ⟨ret_bool (soB_bad hlt Hbad.out).symm, h1.trans (hw.trans (by repeat (first | with_reducible exact New.refl _ | with_reducible assumption | with_reducible refine New.alloc ?_ _ | with_reducible refine New.drewN ?_ _ | with_reducible refine New.drew ?_ | with_reducible refine New.setCell ?_ (by first | omega | (simp; done) | (simp; omega)) _ | with_reducible refine New.tail (by assumption) ?_)))⟩
        · obtain ⟨hi0, hi1⟩ := ixB_t.1 hix
          obtain ⟨j, rfl⟩ := Int.eq_ofNat_of_zero_le hi0
          have hj : j < L.length := by omega
          have HIX := Lib.hid hix
          clear hix
          have ENDS := fun w (hL : LegsAt w A L) => stepEnds_any st A cap L j xb w hL hj
          have HENDS := Lib.hid ENDS
          clear ENDS
          obtain ⟨sb, hsb⟩ : ∃ x, sBeg L ⟨j, xb⟩ = x := ⟨_, rfl⟩
          obtain ⟨se, hse⟩ : ∃ x, sEnd L ⟨j, xb⟩ = x := ⟨_, rfl⟩
          obtain ⟨ak, hak⟩ : ∃ x, atTo L S k = x := ⟨_, rfl⟩
          have Hsb := Lib.hid hsb
          have Hse := Lib.hid hse
          have Hak := Lib.hid hak
          rw [hak]
          clear hsb hse hak
          by_cases hk0 : k = 0
          · subst hk0
            simp only [Nat.zero_mul, Nat.add_zero] at cs
            have hgood : stepOkB L S 0 = true := by rw [Hst.out]; simp; omega
            have Hgood := Lib.hid hgood
            clear hgood
            go_wp2_with fail
            refine (isIndex_any _ _ _).mono ?_
            rw [HIX.out]
            rintro e w1 ⟨rfl, rfl⟩
            go_wp2_with fail
            refine (HENDS.out _ ((hL'.keep hw).keep (by repeat (first | with_reducible exact New.refl _ | with_reducible assumption | with_reducible refine New.alloc ?_ _ | with_reducible refine New.drewN ?_ _ | with_reducible refine New.drew ?_ | with_reducible refine New.setCell ?_ (by first | omega | (simp; done) | (simp; omega)) _ | with_reducible refine New.tail (by assumption) ?_)))).mono ?_
            rw [Hsb.out, Hse.out]
            rintro e w2 ⟨rfl, hn2⟩
            go_wp2_with fail
            go_roundw
            case rel => exact ⟨1, by omega, by go_num, by rw [Hat.out, Hse.out], hw.trans (by repeat (first | with_reducible exact New.refl _ | with_reducible assumption | with_reducible refine New.alloc ?_ _ | with_reducible refine New.drewN ?_ _ | with_reducible refine New.drew ?_ | with_reducible refine New.setCell ?_ (by first | omega | (simp; done) | (simp; omega)) _ | with_reducible refine New.tail (by assumption) ?_)), lt_one Hgood.out⟩
            case measure => simp [intOf]; omega
          · have hk1 : (0 : Int) < (k : Int) := by omega
            clear hk0
            by_cases hbe : sb = ak
            · subst hbe
              have hgood : stepOkB L S k = true := by rw [Hst.out, Hsb.out, Hak.out]; simp; omega
              have Hgood := Lib.hid hgood
              clear hgood
              go_wp2_with fail
              refine (isIndex_any _ _ _).mono ?_
              rw [HIX.out]
              rintro e w1 ⟨rfl, rfl⟩
              go_wp2_with fail
              refine (HENDS.out _ ((hL'.keep hw).keep (by repeat (first | with_reducible exact New.refl _ | with_reducible assumption | with_reducible refine New.alloc ?_ _ | with_reducible refine New.drewN ?_ _ | with_reducible refine New.drew ?_ | with_reducible refine New.setCell ?_ (by first | omega | (simp; done) | (simp; omega)) _ | with_reducible refine New.tail (by assumption) ?_)))).mono ?_
              rw [Hsb.out, Hse.out]
              rintro e w2 ⟨rfl, hn2⟩
              go_wp2_with fail
              go_roundw
              case rel => exact ⟨k + 1, by omega, by go_num, by rw [Hat.out, Hse.out], hw.trans (by repeat (first | with_reducible exact New.refl _ | with_reducible assumption | with_reducible refine New.alloc ?_ _ | with_reducible refine New.drewN ?_ _ | with_reducible refine New.drew ?_ | with_reducible refine New.setCell ?_ (by first | omega | (simp; done) | (simp; omega)) _ | with_reducible refine New.tail (by assumption) ?_)), fun j h => by
                rcases Nat.lt_or_ge j k with hjk | hjk
                · exact Hall.out j hjk
                · obtain rfl : j = k := by omega
                  exact Hgood.out⟩
              case measure => simp [intOf]; omega
            · have hbad : stepOkB L S k = false := by rw [Hst.out, Hsb.out, Hak.out]; simp [hbe]; omega
              have Hbad := Lib.hid hbad
              have hne : (sb != ak) = true := by simpa using hbe
              clear hbad hbe
              go_wp2_with fail
              refine (isIndex_any _ _ _).mono ?_
              rw [HIX.out]
              rintro e w1 ⟨rfl, rfl⟩
              go_wp2_with fail
              refine (HENDS.out _ ((hL'.keep hw).keep (by repeat (first | with_reducible exact New.refl _ | with_reducible assumption | with_reducible refine New.alloc ?_ _ | with_reducible refine New.drewN ?_ _ | with_reducible refine New.drew ?_ | with_reducible refine New.setCell ?_ (by first | omega | (simp; done) | (simp; omega)) _ | with_reducible refine New.tail (by assumption) ?_)))).mono ?_
              rw [Hsb.out, Hse.out]
              rintro e w2 ⟨rfl, hn2⟩
              go_wp2_with fail
              go_ret
              exact ⟨ret_bool (soB_bad hlt Hbad.out).symm, h1.trans (hw.trans (by repeat (first | with_reducible exact New.refl _ | with_reducible assumption | with_reducible refine New.alloc ?_ _ | with_reducible refine New.drewN ?_ _ | with_reducible refine New.drew ?_ | with_reducible refine New.setCell ?_ (by first | omega | (simp; done) | (simp; omega)) _ | with_reducible refine New.tail (by assumption) ?_)))⟩
      · obtain rfl : k = S.length := by omega
        go_wp2_with fail
        go_ret
        exact ⟨ret_bool (soB_good HV.out fun j hj => Hall.out j hj).symm, h1.trans hw⟩
theorem end_facts {n : Nat} {L : List Lg} {x : St} (hv : svB n L = true) (h0 : 0 ≤ x.i) (h1 : x.i < L.length) : 0 ≤ sEnd L x ∧ sEnd L x < n ∧ 0 ≤ sBeg L x ∧ sBeg L x < n := by
  obtain ⟨j, hj⟩ := Int.eq_ofNat_of_zero_le h0
  have hjl : j < L.length := by omega
  have hl : legAt L x.i = L[j] := by rw [hj]; exact legAt_get hjl
  have hf := ok_facts ((svB_true hv).2.2.2 L[j] (List.getElem_mem hjl))
  unfold sEnd sBeg
  rw [hl]
  cases x.b <;> simp only [bk] <;> simp <;> omega
theorem atTo_bd {n : Nat} {L : List Lg} {S : List St} {k : Nat} (hv : svB n L = true) (hk : 0 < k) (hkl : k ≤ S.length) (h : ∀ j, j < k → stepOkB L S j = true) : 0 ≤ atTo L S k := by
  have hj := h (k - 1) (by omega)
  have hlt : k - 1 < S.length := by omega
  rw [stepOkB_at hlt rfl] at hj
  simp only [Bool.and_eq_true, decide_eq_true_eq] at hj
  have e : k - 1 + 1 = k := by omega
  have := atTo_succ (L := L) hlt rfl
  rw [e] at this
  rw [this]
  exact (end_facts hv hj.1.1 hj.1.2).1
set_option maxHeartbeats 4000000 in
theorem specStepsOk_any (st : Int) (A B : Option Addr) (cap cb : Nat) (L : List Lg) (S : List St) (w : World) (hL : LegsAt w A L) (hS : StepsAt w B S) (hm : L.length ≤ 1099511627776) (hms : S.length ≤ 1099511627776) :
    Calls Tryd.prog 25 #[.agg #[.int .i64 st, .slice A L.length cap], .slice B S.length cb] w fun r w' => r = .returned (.bool (soB st L S)) ∧ New w w' := by
  have h1 : New w (w.alloc (Obj.cells #[.int .i64 st, .slice A L.length cap] 25)) := (by repeat (first | with_reducible exact New.refl _ | with_reducible assumption | with_reducible refine New.alloc ?_ _ | with_reducible refine New.drewN ?_ _ | with_reducible refine New.drew ?_ | with_reducible refine New.setCell ?_ (by first | omega | (simp; done) | (simp; omega)) _ | with_reducible refine New.tail (by assumption) ?_))
  have h2 := Has.new w #[.int .i64 st, .slice A L.length cap] 25
  have hL' := hL.keep h1
  have hS' := hS.keep h1
  cases hv : svB st L
  · go_enter Tryd.func25, Tryd.ntmps25
    go_wp2_with (go_at_call 17; refine (specSurveyValid_any _ _ _ _ _ hL' hm).mono ?_; rw [hv]; rintro e w1 ⟨rfl, hn⟩)
    go_ret
    exact ⟨ret_bool (soB_sv hv).symm, h1.trans hn⟩
  · obtain ⟨n, rfl⟩ := svB_nat hv
    go_enter Tryd.func25, Tryd.ntmps25
    go_upto_region 1 with fail
    generalize (w.alloc (Obj.cells #[.int .i64 n, .slice A L.length cap] 25)) = W0 at *
    have c2 := h2.cells2
    clear h2
    go_wp2_with (go_at_call 17; refine (specSurveyValid_any _ _ _ _ _ hL' hm).mono ?_; rw [hv]; rintro e w1 ⟨rfl, hn⟩; have hk : New W0 w1 := New.tail hn (by repeat (first | with_reducible exact New.refl _ | with_reducible assumption | with_reducible refine New.alloc ?_ _ | with_reducible refine New.drewN ?_ _ | with_reducible refine New.drew ?_ | with_reducible refine New.setCell ?_ (by first | omega | (simp; done) | (simp; omega)) _ | with_reducible refine New.tail (by assumption) ?_)))
    have HV := Lib.hid hv
    clear hv
    go_loopw [6, 5] (fun i v wr => ∃ k : Nat, k ≤ S.length ∧ i = .int .i64 k ∧ v = .int .i64 (atTo L S k) ∧ New W0 wr ∧ ∀ j, j < k → stepOkB L S j = true) (fun i _ _ => S.length - (intOf i).toNat)
    case atStart => exact ⟨0, Nat.zero_le _, rfl, rfl, hk, fun j h => absurd h (Nat.not_lt_zero _)⟩
    case round =>
      obtain ⟨k, hk', rfl, rfl, hw, hall⟩ := hrel
      have Hall := Lib.hid hall
      clear hall
      by_cases hlt : k < S.length
      · obtain ⟨bS, oS, xi, xb, hB, hx, cs⟩ := (hS'.keep hw).at_ hlt
        subst hB
        have Hst := Lib.hid (stepOkB_at (L := L) hlt hx)
        have Hat := Lib.hid (atTo_succ (L := L) hlt hx)
        have hk0 : (0 : Int) ≤ (k : Int) := by omega
        have hk1 : (k : Int) < (S.length : Int) := by omega
        have cW := fun w' (hn : New wr w') => c2 w' (hw.trans hn)
        clear hx c2
        have HWR : Hid (IntKind.i64.wrap ((L.length : Int) - 1) = (L.length : Int) - 1) := by show _ = _; simp only [IntKind.wrap_i64]; omega
        cases hix : inB xi 0 (L.length - 1)
        · have hbad : stepOkB L S k = false := by
            rw [Hst.out]
            have h2 := inB_f.1 hix
            have h3 : ¬ (0 ≤ xi ∧ xi < (L.length : Int)) := by omega
            simp only [h3]
            simp
          have Hbad := Lib.hid hbad
          have HIX := Lib.hid hix
          clear hbad hix
          go_wp2_with fail
          go_region_held3 (fun w' => New wr w') ((repeat (first | with_reducible exact New.refl _ | with_reducible assumption | with_reducible refine New.alloc ?_ _ | with_reducible refine New.drewN ?_ _ | with_reducible refine New.drew ?_ | with_reducible refine New.setCell ?_ (by first | omega | (simp; done) | (simp; omega)) _ | with_reducible refine New.tail (by assumption) ?_))) (first | (go_at_call 64; refine (l1In_any _ _ _ _).mono ?_; rw [HWR.out, HIX.out]; rintro e w1 ⟨rfl, rfl⟩))
          go_wp2_with fail
          go_ret
          exact ⟨ret_bool (soB_bad hlt Hbad.out).symm, h1.trans (hw.trans (by repeat (first | with_reducible exact New.refl _ | with_reducible assumption | with_reducible refine New.alloc ?_ _ | with_reducible refine New.drewN ?_ _ | with_reducible refine New.drew ?_ | with_reducible refine New.setCell ?_ (by first | omega | (simp; done) | (simp; omega)) _ | with_reducible refine New.tail (by assumption) ?_)))⟩
        · obtain ⟨hi0, hi1⟩ := inB_t.1 hix
          obtain ⟨j, rfl⟩ := Int.eq_ofNat_of_zero_le hi0
          have hj : j < L.length := by omega
          have hj1 : (j : Int) < (L.length : Int) := by omega
          have HIX := Lib.hid hix
          clear hix
          have hl := legAt_get hj
          obtain ⟨bL, oL, f, t, e, nn, u, hA, hg, hc⟩ := (hL'.keep hw).at_ hj
          rw [hg] at hl
          have hsb : sBeg L ⟨j, xb⟩ = bk xb t f := by unfold sBeg; rw [hl]
          have hse : sEnd L ⟨j, xb⟩ = bk xb f t := by unfold sEnd; rw [hl]
          rw [hsb] at Hst
          rw [hse] at Hat
          obtain ⟨ak, hak⟩ : ∃ x, atTo L S k = x := ⟨_, rfl⟩
          have Hak := Lib.hid hak
          have hab : k = 0 → ak = -1 := by intro h; subst h; exact hak.symm
          have hab2 : 0 < k → 0 ≤ ak := fun h => by rw [← hak]; exact atTo_bd HV.out h (by omega) Hall.out
          rw [hak] at Hst
          rw [hak]
          subst hA
          clear hsb hse hak hl hg hL hS
          go_wp2_with fail
          go_region_held3 (fun w' => New wr w') ((repeat (first | with_reducible exact New.refl _ | with_reducible assumption | with_reducible refine New.alloc ?_ _ | with_reducible refine New.drewN ?_ _ | with_reducible refine New.drew ?_ | with_reducible refine New.setCell ?_ (by first | omega | (simp; done) | (simp; omega)) _ | with_reducible refine New.tail (by assumption) ?_))) (first | (go_at_call 64; refine (l1In_any _ _ _ _).mono ?_; rw [HWR.out, HIX.out]; rintro e w1 ⟨rfl, rfl⟩))
          go_wp2_with fail
          go_region_held3 (fun w' => New wr w') ((repeat (first | with_reducible exact New.refl _ | with_reducible assumption | with_reducible refine New.alloc ?_ _ | with_reducible refine New.drewN ?_ _ | with_reducible refine New.drew ?_ | with_reducible refine New.setCell ?_ (by first | omega | (simp; done) | (simp; omega)) _ | with_reducible refine New.tail (by assumption) ?_))) (fail)
          go_upto_region 10 with fail
          have hX : New wr (wr.alloc (Obj.cells #[.int .i64 f, .int .i64 t, .int .i64 e, .int .i64 nn, .int .i64 u] 34)).drew.drew := (by repeat (first | with_reducible exact New.refl _ | with_reducible assumption | with_reducible refine New.alloc ?_ _ | with_reducible refine New.drewN ?_ _ | with_reducible refine New.drew ?_ | with_reducible refine New.setCell ?_ (by first | omega | (simp; done) | (simp; omega)) _ | with_reducible refine New.tail (by assumption) ?_))
          have hH := ((Has.new wr #[.int .i64 f, .int .i64 t, .int .i64 e, .int .i64 nn, .int .i64 u] 34).drew).drew
          generalize (wr.alloc (Obj.cells #[.int .i64 f, .int .i64 t, .int .i64 e, .int .i64 nn, .int .i64 u] 34)).drew.drew = W1 at *
          have cs1 := fun w' (hn : New W1 w') => cs w' (hX.trans hn)
          have c7 := hH.cells5
          have f7 := hH.frees
          clear cs cW hc
          cases xb
          · go_upto_region 12 with fail
            by_cases hk00 : k = 0
            · have hgood : stepOkB L S k = true := by rw [Hst.out]; simp [hk00]; omega
              have Hgood := Lib.hid hgood
              have hak := hab hk00
              have hak0 : ak < 0 := by omega
              clear hgood hk00 hak hab hab2
              go_wp2_with fail
              go_roundw
              case rel => exact ⟨k + 1, by omega, by go_num, by rw [Hat.out]; rfl, hw.trans (by repeat (first | with_reducible exact New.refl _ | with_reducible assumption | with_reducible refine New.alloc ?_ _ | with_reducible refine New.drewN ?_ _ | with_reducible refine New.drew ?_ | with_reducible refine New.setCell ?_ (by first | omega | (simp; done) | (simp; omega)) _ | with_reducible refine New.tail (by assumption) ?_)), fun j h => by
                rcases Nat.lt_or_ge j k with hjk | hjk
                · exact Hall.out j hjk
                · obtain rfl : j = k := by omega
                  exact Hgood.out⟩
              case measure => simp [intOf]; omega
            · have hak0 := hab2 (by omega)
              by_cases hbe : f = ak
              · subst hbe
                have hgood : stepOkB L S k = true := by rw [Hst.out]; simp [bk]; omega
                have Hgood := Lib.hid hgood
                clear hgood hk00 hab hab2
                go_wp2_with fail
                go_roundw
                case rel => exact ⟨k + 1, by omega, by go_num, by rw [Hat.out]; rfl, hw.trans (by repeat (first | with_reducible exact New.refl _ | with_reducible assumption | with_reducible refine New.alloc ?_ _ | with_reducible refine New.drewN ?_ _ | with_reducible refine New.drew ?_ | with_reducible refine New.setCell ?_ (by first | omega | (simp; done) | (simp; omega)) _ | with_reducible refine New.tail (by assumption) ?_)), fun j h => by
                  rcases Nat.lt_or_ge j k with hjk | hjk
                  · exact Hall.out j hjk
                  · obtain rfl : j = k := by omega
                    exact Hgood.out⟩
                case measure => simp [intOf]; omega
              · have hbad : stepOkB L S k = false := by rw [Hst.out]; simp [bk, hbe]; omega
                have Hbad := Lib.hid hbad
                have hne : (f != ak) = true := by simpa using hbe
                clear hbad hbe hk00 hab hab2
                go_wp2_with fail
                go_ret
                exact ⟨ret_bool (soB_bad hlt Hbad.out).symm, h1.trans (hw.trans (by repeat (first | with_reducible exact New.refl _ | with_reducible assumption | with_reducible refine New.alloc ?_ _ | with_reducible refine New.drewN ?_ _ | with_reducible refine New.drew ?_ | with_reducible refine New.setCell ?_ (by first | omega | (simp; done) | (simp; omega)) _ | with_reducible refine New.tail (by assumption) ?_)))⟩
          · go_upto_region 12 with (go_at_call 73; refine (specLegBack_any _ _ _ _ _ _).mono ?_; rintro e9 w9 ⟨rfl, hn9⟩)
            by_cases hk00 : k = 0
            · have hgood : stepOkB L S k = true := by rw [Hst.out]; simp [hk00]; omega
              have Hgood := Lib.hid hgood
              have hak := hab hk00
              have hak0 : ak < 0 := by omega
              clear hgood hk00 hak hab hab2
              go_wp2_with fail
              go_roundw
              case rel => exact ⟨k + 1, by omega, by go_num, by rw [Hat.out]; rfl, hw.trans (by repeat (first | with_reducible exact New.refl _ | with_reducible assumption | with_reducible refine New.alloc ?_ _ | with_reducible refine New.drewN ?_ _ | with_reducible refine New.drew ?_ | with_reducible refine New.setCell ?_ (by first | omega | (simp; done) | (simp; omega)) _ | with_reducible refine New.tail (by assumption) ?_)), fun j h => by
                rcases Nat.lt_or_ge j k with hjk | hjk
                · exact Hall.out j hjk
                · obtain rfl : j = k := by omega
                  exact Hgood.out⟩
              case measure => simp [intOf]; omega
            · have hak0 := hab2 (by omega)
              by_cases hbe : t = ak
              · subst hbe
                have hgood : stepOkB L S k = true := by rw [Hst.out]; simp [bk]; omega
                have Hgood := Lib.hid hgood
                clear hgood hk00 hab hab2
                go_wp2_with fail
                go_roundw
                case rel => exact ⟨k + 1, by omega, by go_num, by rw [Hat.out]; rfl, hw.trans (by repeat (first | with_reducible exact New.refl _ | with_reducible assumption | with_reducible refine New.alloc ?_ _ | with_reducible refine New.drewN ?_ _ | with_reducible refine New.drew ?_ | with_reducible refine New.setCell ?_ (by first | omega | (simp; done) | (simp; omega)) _ | with_reducible refine New.tail (by assumption) ?_)), fun j h => by
                  rcases Nat.lt_or_ge j k with hjk | hjk
                  · exact Hall.out j hjk
                  · obtain rfl : j = k := by omega
                    exact Hgood.out⟩
                case measure => simp [intOf]; omega
              · have hbad : stepOkB L S k = false := by rw [Hst.out]; simp [bk, hbe]; omega
                have Hbad := Lib.hid hbad
                have hne : (t != ak) = true := by simpa using hbe
                clear hbad hbe hk00 hab hab2
                go_wp2_with fail
                go_ret
                exact ⟨ret_bool (soB_bad hlt Hbad.out).symm, h1.trans (hw.trans (by repeat (first | with_reducible exact New.refl _ | with_reducible assumption | with_reducible refine New.alloc ?_ _ | with_reducible refine New.drewN ?_ _ | with_reducible refine New.drew ?_ | with_reducible refine New.setCell ?_ (by first | omega | (simp; done) | (simp; omega)) _ | with_reducible refine New.tail (by assumption) ?_)))⟩
      · obtain rfl : k = S.length := by omega
        go_wp2_with fail
        go_ret
        exact ⟨ret_bool (soB_good HV.out fun j hj => Hall.out j hj).symm, h1.trans hw⟩
end Go.Proofs.YtgcloaimolajjaaDoor
