/- Contracts of the laws' helpers on steps: toStepS, eqStepS, szStepS; arguments that are steps. -/
import Derived.Test.YtgcloaimolajjaaDoorSteps
import Derived.Test.YtgcloaimolajjaaDoorOpen
namespace Go.Proofs.YtgcloaimolajjaaDoor
open Go.ChangeShapes Go.WideShapes Go.ChangeAt Go.RowKit Go.Deep Go.Joins
set_option linter.all false
theorem infoStep : (Tryd.prog.info? 40).map (fun i => (i.zero, i.size, i.bytes)) = some (some (.agg #[.int .i64 0, .bool false]), 2, 16) := by kernel_rfl
theorem makeSteps (n : Nat) (hn : n ≤ 1099511627776) : ∀ w : World, (Instr.makeSlice 35 (.int .i64 (n : Int)) (.int .i64 (n : Int))).run Tryd.prog w =
    .ok (.slice (some ⟨w.heap.size, 0, none⟩) n n) (w.alloc (.cells (madeCells #[.int .i64 0, .bool false] (n * 2)) 40)) := by
  intro w
  obtain ⟨i0, hi, hz, hs, hb⟩ := info_parts infoStep
  have h := run_make (P := Tryd.prog) w 35 40 i0 _ Tryd.underlying35 hi hz .i64 .i64 n n (by omega) (by omega) (by rw [hb]; omega) (by omega)
  rw [hs] at h
  simp only [Int.toNat_natCast] at h
  exact h

def put2 (cs : Array Value) (k : Nat) (a b : Value) : Array Value := (cs.setIfInBounds (k * 2) a).setIfInBounds (k * 2 + 1) b
theorem Has.put2 {W : World} {g : Nat} {cs : Array Value} {T : TypeId} (h : Has W g cs T) (k : Nat) (a b : Value) : Has ((W.setCell ⟨g, k * 2, none⟩ a).setCell ⟨g, k * 2 + 1, none⟩ b) g (put2 cs k a b) T := (h.set _ _).set _ _
theorem New.put2 {w W : World} {g : Nat} (h : New w W) (hg : w.heap.size ≤ g) (k : Nat) (a b : Value) : New w ((W.setCell ⟨g, k * 2, none⟩ a).setCell ⟨g, k * 2 + 1, none⟩ b) := (h.setCell hg _).setCell hg _
theorem put2_size (cs : Array Value) (k : Nat) (a b : Value) : (put2 cs k a b).size = cs.size := by simp [put2]
theorem put2_far (cs : Array Value) (k i : Nat) (a b : Value) (h : i < k * 2 ∨ k * 2 + 1 < i) : (put2 cs k a b)[i]? = cs[i]? := by
  unfold put2
  simp only [Array.getElem?_setIfInBounds, Array.size_setIfInBounds]
  rw [if_neg (by omega), if_neg (by omega)]
theorem put2_at (cs : Array Value) (k : Nat) (a b : Value) (h : k * 2 + 1 < cs.size) : (put2 cs k a b)[k * 2]? = some a ∧ (put2 cs k a b)[k * 2 + 1]? = some b := by
  unfold put2
  simp only [Array.getElem?_setIfInBounds, Array.size_setIfInBounds]
  refine ⟨?_, ?_⟩
  · rw [if_neg (by omega), if_pos trivial, if_pos (by omega)]
  · rw [if_pos trivial, if_pos (by omega)]
theorem stepIn_put2 {cs : Array Value} {S : List St} {k : Nat} (hk : k < S.length) (hs : S.length * 2 ≤ cs.size) {x : St} (hx : S[k] = x) (h : ∀ (j : Nat) (x : St), j < k → S[j]? = some x → StepIn cs j x) :
    ∀ (j : Nat) (p : St), j < k + 1 → S[j]? = some p → StepIn (put2 cs k (.int .i64 x.i) (.bool x.b)) j p := by
  intro j p hj hp
  rcases Nat.lt_or_ge j k with hjk | hjk
  · obtain ⟨h0, h1⟩ := h j p hjk hp
    refine ⟨?_, ?_⟩ <;> (rw [put2_far _ _ _ _ _ (by omega)]; assumption)
  · obtain rfl : j = k := by omega
    rw [List.getElem?_eq_getElem hk, hx] at hp
    simp only [Option.some.injEq] at hp
    subst hp
    exact put2_at _ _ _ _ (by omega)
theorem bool_of_cell {H : Type} {enc : TypeId × Value → H} {P : Program} {w : World} {base : Nat} {spare : Nat → Bool} {held : Bool} {t : TypeId} {n : Nat} {v : Value} {y : DataW H × List MemPlace} (hs : P.underlying t = some .bool) (h : DataW.trod enc P w base spare held n t [v] = some y) : ∃ a : Bool, v = .bool a := by
  obtain ⟨a, r, -⟩ := DataW.trod_bool hs h
  simp at r
  exact ⟨a, r⟩
/-- A slice of structs of an int and a bool reads as steps. -/
theorem open_steps {H : Type} {enc : TypeId × Value → H} {P : Program} {w : World} {base : Nat} {spare : Nat → Bool} {held : Bool} {t e : TypeId} {f0 f1 : Field} {fuel : Nat} {v : Value} {x : DataW H × List MemPlace} (ht : P.underlying t = some (.slice e)) (he : P.underlying e = some (.struct #[f0, f1]))
    (hone : oneCellFields P #[f0, f1] = true) (hC : P.cellsOf e = 2) (h0 : P.underlying f0.type = some (.int .i64)) (h1 : P.underlying f1.type = some .bool) (h : DataW.trod enc P w base spare held fuel t [v] = some x) :
    ∃ (A : Option Addr) (cap : Nat) (S : List St), v = .slice A S.length cap ∧ StepsAt w A S ∧ S.length ≤ maxLen := by
  rcases open_slice ht h with ⟨e1, -⟩ | ⟨a, len, cap, m, n, D, Pl, e1, hb, hl, hmx, hm, -, hi⟩
  · simp at e1
    exact ⟨none, 0, [], by simpa using e1, fun h => absurd rfl h, by simp⟩
  · have hml : len ≤ m := by rw [hm]; split <;> omega
    have hall : ∀ i, i < len → ∃ q : St, w.cell? ((a.add (i * 2)).add 0) = some (.int .i64 q.i) ∧ w.cell? ((a.add (i * 2)).add 1) = some (.bool q.b) := by
      intro i hil
      obtain ⟨cs', hc, ht'⟩ := hi i (by omega)
      rw [hC] at hc
      obtain ⟨_, hcl, hat⟩ := World.cells?_some hc
      obtain ⟨ys, n', _, _, _, hyl, hf⟩ := DataW.trod_struct he ht'
      have cell : ∀ (j : Nat) (f : Field), j < 2 → #[f0, f1][j]? = some f → ∃ v y, w.cell? ((a.add (i * 2)).add j) = some v ∧ DataW.trod enc P w base spare held n' f.type [v] = some y := by
        intro j f hj hfj
        obtain ⟨o, c⟩ := hone_of hone j f hfj
        have g := hf j f hfj
        rw [o, c] at g
        have hjl : j < cs'.length := by omega
        have e2 : (cs'.drop j).take 1 = [cs'[j]] := by rw [List.drop_eq_getElem_cons hjl]; rfl
        rw [e2] at g
        have hyj : j < ys.length := by simp at hyl; omega
        rw [List.getElem?_eq_getElem hyj] at g
        exact ⟨cs'[j], ys[j], by rw [hat j hj, List.getElem?_eq_getElem hjl], g⟩
      obtain ⟨v0, y0, c0, g0⟩ := cell 0 f0 (by omega) rfl
      obtain ⟨v1, y1, c1, g1⟩ := cell 1 f1 (by omega) rfl
      obtain ⟨q0, rfl⟩ := int_of_cell h0 g0
      obtain ⟨q1, rfl⟩ := bool_of_cell h1 g1
      exact ⟨⟨q0, q1⟩, c0, c1⟩
    obtain ⟨S, hS, hP⟩ := list_of_all len hall
    subst hS
    refine ⟨some a, cap, S, by simpa using e1, fun hne => ?_, by omega⟩
    obtain ⟨q, hq⟩ : ∃ q, S[0]? = some q := ⟨_, List.getElem?_eq_getElem (by cases S; exact absurd rfl hne; simp)⟩
    have h00 := (hP 0 q hq).1
    rw [Nat.zero_mul] at h00
    have ea : (a.add 0).add 0 = a := by unfold Addr.add; simp
    rw [ea] at h00
    have hsp := spot_of_cell h00
    have hlt := World.block_lt_of_cell? w a h00
    refine ⟨a.block, a.off, by rw [← hsp], hlt, fun k g hk => ?_⟩
    have g2 := hP k g hk
    rw [hsp] at g2
    simp only [add_none, Nat.add_zero] at g2
    exact g2
end Go.Proofs.YtgcloaimolajjaaDoor
