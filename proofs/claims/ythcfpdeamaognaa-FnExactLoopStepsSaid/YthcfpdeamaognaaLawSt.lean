/- Contracts of the laws' helpers on steps: toStepS, eqStepS, szStepS; arguments that are steps. -/
import Derived.Test.YthcfpdeamaognaaSteps
import Derived.Test.YthcfpdeamaognaaOpen
namespace Go.Proofs.Ythcfpdeamaognaa
open Go.ChangeShapes Go.WideShapes Go.ChangeAt Go.RowKit Go.Deep Go.Joins
set_option linter.all false
theorem infoStep : (Try.prog.info? 70).map (fun i => (i.zero, i.size, i.bytes)) = some (some (.agg #[.int .i64 0, .bool false]), 2, 16) := by kernel_rfl
theorem makeSteps (n : Nat) (hn : n ≤ 1099511627776) : ∀ w : World, (Instr.makeSlice 41 (.int .i64 (n : Int)) (.int .i64 (n : Int))).run Try.prog w =
    .ok (.slice (some ⟨w.heap.size, 0, none⟩) n n) (w.alloc (.cells (madeCells #[.int .i64 0, .bool false] (n * 2)) 70)) := by
  intro w
  obtain ⟨i0, hi, hz, hs, hb⟩ := info_parts infoStep
  have h := run_make (P := Try.prog) w 41 70 i0 _ Try.underlying41 hi hz .i64 .i64 n n (by omega) (by omega) (by rw [hb]; omega) (by omega)
  rw [hs] at h
  simp only [Int.toNat_natCast] at h
  exact h

def put2 (cs : Array Value) (k : Nat) (a b : Value) : Array Value := (cs.setIfInBounds (k * 2) a).setIfInBounds (k * 2 + 1) b
theorem Has.put2 {W : World} {g : Nat} {cs : Array Value} {T : TypeId} (h : Has W g cs T) (k : Nat) (a b : Value) : Has ((W.setCell ⟨g, k * 2, none⟩ a).setCell ⟨g, k * 2 + 1, none⟩ b) g (put2 cs k a b) T := (h.set _ _).set _ _
theorem New.put2 {w W : World} {g : Nat} (h : New w W) (hg : w.heap.size ≤ g) (k : Nat) (a b : Value) : New w ((W.setCell ⟨g, k * 2, none⟩ a).setCell ⟨g, k * 2 + 1, none⟩ b) := (h.setCell hg _).setCell hg _
theorem put2_size (cs : Array Value) (k : Nat) (a b : Value) : (put2 cs k a b).size = cs.size := by simp [put2]
theorem put2_far (cs : Array Value) (k i : Nat) (a b : Value) (h : i < k * 2 ∨ k * 2 + 1 < i) : (put2 cs k a b)[i]? = cs[i]? := by
  unfold put2
  simp only [Array.getElem?_setIfInBounds, Array.size_setIfInBounds]
  rw [if_neg (by omega), if_neg (by omega)]
theorem put2_at (cs : Array Value) (k : Nat) (a b : Value) (h : k * 2 + 1 < cs.size) : (put2 cs k a b)[k * 2]? = some a ∧ (put2 cs k a b)[k * 2 + 1]? = some b := by
  unfold put2
  simp only [Array.getElem?_setIfInBounds, Array.size_setIfInBounds]
  refine ⟨?_, ?_⟩
  · rw [if_neg (by omega), if_pos trivial, if_pos (by omega)]
  · rw [if_pos trivial, if_pos (by omega)]
theorem stepIn_put2 {cs : Array Value} {S : List St} {k : Nat} (hk : k < S.length) (hs : S.length * 2 ≤ cs.size) {x : St} (hx : S[k] = x) (h : ∀ (j : Nat) (x : St), j < k → S[j]? = some x → StepIn cs j x) :
    ∀ (j : Nat) (p : St), j < k + 1 → S[j]? = some p → StepIn (put2 cs k (.int .i64 x.i) (.bool x.b)) j p := by
  intro j p hj hp
  rcases Nat.lt_or_ge j k with hjk | hjk
  · obtain ⟨h0, h1⟩ := h j p hjk hp
    refine ⟨?_, ?_⟩ <;> (rw [put2_far _ _ _ _ _ (by omega)]; assumption)
  · obtain rfl : j = k := by omega
    rw [List.getElem?_eq_getElem hk, hx] at hp
    simp only [Option.some.injEq] at hp
    subst hp
    exact put2_at _ _ _ _ (by omega)
theorem toStep_any (i : Int) (b : Bool) (w : World) : Calls Try.prog 65 #[.agg #[.int .i64 i, .bool b]] w fun r w' => r = .returned (.agg #[.int .i64 i, .bool b]) ∧ New w w' := by
  go_enter Try.func65, Try.ntmps65
  go_wp2
  exact bodyPost_ret (v := .agg #[.int .i64 i, .bool b]) (by simp [results, Try.results65, go_sem]) rfl ⟨rfl, (by repeat (first | with_reducible exact New.refl _ | with_reducible assumption | with_reducible refine New.alloc ?_ _ | with_reducible refine New.drewN ?_ _ | with_reducible refine New.drew ?_ | with_reducible refine New.setCell ?_ (by first | omega | (simp; done) | (simp; omega)) _ | with_reducible refine New.tail (by assumption) ?_))⟩
set_option maxHeartbeats 1000000 in
theorem toStepS_any (A : Option Addr) (cap : Nat) (S : List St) (w : World) (hS : StepsAt w A S) (hm : S.length ≤ 1099511627776) :
    Calls Try.prog 28 #[.slice A S.length cap] w fun r w' => ∃ g, r = .returned (.slice (some ⟨g, 0, none⟩) S.length S.length) ∧ w.heap.size ≤ g ∧ StepBlk w' g S ∧ New w w' := by
  have hmk := makeSteps S.length hm
  go_enter Try.func28, Try.ntmps28
  go_wp2_with fail
  go_loopw [4] (fun i wr => ∃ k : Nat, k ≤ S.length ∧ i = .int .i64 k ∧ New w wr ∧ ∃ cs : Array Value, Has wr w.heap.size cs 70 ∧ S.length * 2 ≤ cs.size ∧ ∀ (j : Nat) (x : St), j < k → S[j]? = some x → StepIn cs j x)
    (fun i _ => S.length - (intOf i).toNat)
  case atStart => exact ⟨0, Nat.zero_le _, rfl, (by repeat (first | with_reducible exact New.refl _ | with_reducible assumption | with_reducible refine New.alloc ?_ _ | with_reducible refine New.drewN ?_ _ | with_reducible refine New.drew ?_ | with_reducible refine New.setCell ?_ (by first | omega | (simp; done) | (simp; omega)) _ | with_reducible refine New.tail (by assumption) ?_)), _, Has.new _ _ _, by rw [size_madeCells]; exact Nat.le_refl _, fun j q h => absurd h (Nat.not_lt_zero _)⟩
  case round =>
    obtain ⟨k, hk, rfl, hw, cs, hcs, hsz, hin⟩ := hrel
    have Hin := Lib.hid hin
    clear hin
    by_cases hlt : k < S.length
    · obtain ⟨b, off, xi, xb, hA, hg, hc⟩ := (hS.keep hw).at_ hlt
      subst hA
      have HG := Lib.hid hg
      clear hg hmk
      obtain ⟨x0, hx0⟩ : ∃ x, cs[k * 2]? = some x := ⟨_, Array.getElem?_eq_getElem (by omega)⟩
      obtain ⟨x1, hx1⟩ : ∃ x, cs[k * 2 + 1]? = some x := ⟨_, Array.getElem?_eq_getElem (by omega)⟩
      have k0 := fun w' hn => (hcs.cells (k * 2) w' hn).trans hx0
      have k1 := fun w' hn => (hcs.cells (k * 2 + 1) w' hn).trans hx1
      have kf := fun i => hcs.frees i
      clear hx0 hx1
      go_wp2_with (go_at_call 65; refine (toStep_any _ _ _).mono ?_; rintro e w1 ⟨rfl, hn⟩)
      go_roundw
      case rel =>
        refine ⟨k + 1, by omega, by go_num, ?_, put2 cs k (.int .i64 xi) (.bool xb), ?_, ?_, ?_⟩
        · exact New.put2 (hn.tail hw) (Nat.le_refl _) k _ _
        · exact Has.put2 (hcs.keep hn) k _ _
        · rw [put2_size]; exact hsz
        · exact stepIn_put2 (x := ⟨xi, xb⟩) hlt hsz HG.out Hin.out
      case measure => simp [intOf]; omega
    · go_wp2_with fail
      go_ret
      exact ⟨_, rfl, Nat.le_refl _, ⟨cs, hcs, hsz, fun j q hq => Hin.out j q (by have := (List.getElem?_eq_some_iff.1 hq).1; omega) hq⟩, hw⟩
theorem szStepS_any (A : Option Addr) (n cap : Nat) (left : Int) (w : World) (h0 : 0 ≤ left) (h1 : left ≤ 1099511627776) (hn : n ≤ maxLen) :
    Calls Try.prog 26 #[.slice A n cap, .int .i64 left] w fun r w' => r = .returned (.int .i64 (if left < n then -1 else left - n)) ∧ w = w' := by
  have hn' : (n : Int) ≤ 9223372036854775807 := by unfold maxLen at hn; omega
  by_cases h : left < (n : Int)
  · have h' : left - (n : Int) < 0 := by omega
    go_enter Try.func26, Try.ntmps26
    go_wp2
    go_ret
    exact ⟨rfl, rfl⟩
  · have h' : ¬ left - (n : Int) < 0 := by omega
    go_enter Try.func26, Try.ntmps26
    go_wp2
    go_ret
    exact ⟨rfl, rfl⟩
theorem eqStep_refl (i : Int) (b : Bool) (w : World) : Calls Try.prog 68 #[.agg #[.int .i64 i, .bool b], .agg #[.int .i64 i, .bool b]] w fun r w' => r = .returned (.bool true) ∧ New w w' := by
  go_enter Try.func68, Try.ntmps68
  go_wp2
  go_ret
  exact ⟨rfl, (by repeat (first | with_reducible exact New.refl _ | with_reducible assumption | with_reducible refine New.alloc ?_ _ | with_reducible refine New.drewN ?_ _ | with_reducible refine New.drew ?_ | with_reducible refine New.setCell ?_ (by first | omega | (simp; done) | (simp; omega)) _ | with_reducible refine New.tail (by assumption) ?_))⟩
set_option maxHeartbeats 1000000 in
theorem eqStepS_same (A B : Option Addr) (ca cb n : Nat) (S : List St) (w : World) (hln : S.length = n) (hA : StepsAt w A S) (hB : StepsAt w B S) (hm : n ≤ 1099511627776) :
    Calls Try.prog 30 #[.slice A n ca, .slice B n cb] w fun r w' => r = .returned (.bool true) ∧ New w w' := by
  subst hln
  go_enter Try.func30, Try.ntmps30
  go_wp2_with fail
  go_loopw [5] (fun i wr => ∃ k : Nat, k ≤ S.length ∧ i = .int .i64 k ∧ New w wr) (fun i _ => S.length - (intOf i).toNat)
  case atStart => exact ⟨0, Nat.zero_le _, rfl, New.refl _⟩
  case round =>
    obtain ⟨k, hk, rfl, hw⟩ := hrel
    by_cases hlt : k < S.length
    · obtain ⟨b, off, xi, xb, e1, hg, hc⟩ := (hA.keep hw).at_ hlt
      obtain ⟨b', off', xi', xb', e2, hg', hc'⟩ := (hB.keep hw).at_ hlt
      rw [hg] at hg'
      obtain ⟨rfl, rfl⟩ := St.mk.inj hg'
      subst e1 e2
      clear hg hg' hA hB
      have hk0 : (0 : Int) ≤ (k : Int) := by omega
      have hk1 : (k : Int) < (S.length : Int) := by omega
      go_wp2_with fail
      go_region_held3 (fun w' => New wr w') ((repeat (first | with_reducible exact New.refl _ | with_reducible assumption | with_reducible refine New.alloc ?_ _ | with_reducible refine New.drewN ?_ _ | with_reducible refine New.drew ?_ | with_reducible refine New.setCell ?_ (by first | omega | (simp; done) | (simp; omega)) _ | with_reducible refine New.tail (by assumption) ?_))) (first | (go_at_call 68; refine (eqStep_refl _ _ _).mono ?_; rintro e w1 ⟨rfl, hn⟩))
      go_wp2_with fail
      go_roundw
      case rel => exact ⟨k + 1, by omega, by go_num, hw.trans (by repeat (first | with_reducible exact New.refl _ | with_reducible assumption | with_reducible refine New.alloc ?_ _ | with_reducible refine New.drewN ?_ _ | with_reducible refine New.drew ?_ | with_reducible refine New.setCell ?_ (by first | omega | (simp; done) | (simp; omega)) _ | with_reducible refine New.tail (by assumption) ?_))⟩
      case measure => simp [intOf]; omega
    · go_wp2_with fail
      go_ret
      exact ⟨rfl, hw⟩
theorem bool_of_cell {H : Type} {enc : TypeId × Value → H} {P : Program} {w : World} {base : Nat} {spare : Nat → Bool} {held : Bool} {t : TypeId} {n : Nat} {v : Value} {y : DataW H × List MemPlace} (hs : P.underlying t = some .bool) (h : DataW.trod enc P w base spare held n t [v] = some y) : ∃ a : Bool, v = .bool a := by
  obtain ⟨a, r, -⟩ := DataW.trod_bool hs h
  simp at r
  exact ⟨a, r⟩
/-- A slice of structs of an int and a bool reads as steps. -/
theorem open_steps {H : Type} {enc : TypeId × Value → H} {P : Program} {w : World} {base : Nat} {spare : Nat → Bool} {held : Bool} {t e : TypeId} {f0 f1 : Field} {fuel : Nat} {v : Value} {x : DataW H × List MemPlace} (ht : P.underlying t = some (.slice e)) (he : P.underlying e = some (.struct #[f0, f1]))
    (hone : oneCellFields P #[f0, f1] = true) (hC : P.cellsOf e = 2) (h0 : P.underlying f0.type = some (.int .i64)) (h1 : P.underlying f1.type = some .bool) (h : DataW.trod enc P w base spare held fuel t [v] = some x) :
    ∃ (A : Option Addr) (cap : Nat) (S : List St), v = .slice A S.length cap ∧ StepsAt w A S ∧ S.length ≤ maxLen := by
  rcases open_slice ht h with ⟨e1, -⟩ | ⟨a, len, cap, m, n, D, Pl, e1, hb, hl, hmx, hm, -, hi⟩
  · simp at e1
    exact ⟨none, 0, [], by simpa using e1, fun h => absurd rfl h, by simp⟩
  · have hml : len ≤ m := by rw [hm]; split <;> omega
    have hall : ∀ i, i < len → ∃ q : St, w.cell? ((a.add (i * 2)).add 0) = some (.int .i64 q.i) ∧ w.cell? ((a.add (i * 2)).add 1) = some (.bool q.b) := by
      intro i hil
      obtain ⟨cs', hc, ht'⟩ := hi i (by omega)
      rw [hC] at hc
      obtain ⟨_, hcl, hat⟩ := World.cells?_some hc
      obtain ⟨ys, n', _, _, _, hyl, hf⟩ := DataW.trod_struct he ht'
      have cell : ∀ (j : Nat) (f : Field), j < 2 → #[f0, f1][j]? = some f → ∃ v y, w.cell? ((a.add (i * 2)).add j) = some v ∧ DataW.trod enc P w base spare held n' f.type [v] = some y := by
        intro j f hj hfj
        obtain ⟨o, c⟩ := hone_of hone j f hfj
        have g := hf j f hfj
        rw [o, c] at g
        have hjl : j < cs'.length := by omega
        have e2 : (cs'.drop j).take 1 = [cs'[j]] := by rw [List.drop_eq_getElem_cons hjl]; rfl
        rw [e2] at g
        have hyj : j < ys.length := by simp at hyl; omega
        rw [List.getElem?_eq_getElem hyj] at g
        exact ⟨cs'[j], ys[j], by rw [hat j hj, List.getElem?_eq_getElem hjl], g⟩
      obtain ⟨v0, y0, c0, g0⟩ := cell 0 f0 (by omega) rfl
      obtain ⟨v1, y1, c1, g1⟩ := cell 1 f1 (by omega) rfl
      obtain ⟨q0, rfl⟩ := int_of_cell h0 g0
      obtain ⟨q1, rfl⟩ := bool_of_cell h1 g1
      exact ⟨⟨q0, q1⟩, c0, c1⟩
    obtain ⟨S, hS, hP⟩ := list_of_all len hall
    subst hS
    refine ⟨some a, cap, S, by simpa using e1, fun hne => ?_, by omega⟩
    obtain ⟨q, hq⟩ : ∃ q, S[0]? = some q := ⟨_, List.getElem?_eq_getElem (by cases S; exact absurd rfl hne; simp)⟩
    have h00 := (hP 0 q hq).1
    rw [Nat.zero_mul] at h00
    have ea : (a.add 0).add 0 = a := by unfold Addr.add; simp
    rw [ea] at h00
    have hsp := spot_of_cell h00
    have hlt := World.block_lt_of_cell? w a h00
    refine ⟨a.block, a.off, by rw [← hsp], hlt, fun k g hk => ?_⟩
    have g2 := hP k g hk
    rw [hsp] at g2
    simp only [add_none, Nat.add_zero] at g2
    exact g2
theorem open_stepsArg {H : Type} {enc : TypeId × Value → H} {w : World} {base : Nat} {spare : Nat → Bool} {held : Bool} {r : Reach} {b0 : Nat} {v : Value} {d : DataW H} {p : List MemPlace}
    (hv : Value.okWide Try.prog w r b0 38 v) (h : DataW.Trod enc Try.prog w base spare held 38 v d p) :
    ∃ (A : Option Addr) (cap : Nat) (S : List St), v = .slice A S.length cap ∧ StepsAt w A S ∧ S.length ≤ maxLen := by
  obtain ⟨a0, len, cap, rfl⟩ := okWide_slice Try.underlying38 hv
  obtain ⟨fuel, hf⟩ := h
  exact open_steps Try.underlying38 Try.underlying73 (by kernel_rfl) (by kernel_rfl) Try.underlying3 Try.underlying4 hf
end Go.Proofs.Ythcfpdeamaognaa
