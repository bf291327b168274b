/- Arguments that are surveys: opened to a list of legs. -/
import Derived.Test.YtmdeekojioeomaaDoorSurv
import Derived.Test.YtmdeekojioeomaaDoorFrame
namespace Go.Proofs.YtmdeekojioeomaaDoor
open Go.ChangeShapes Go.WideShapes Go.ChangeAt Go.RowKit Go.Deep Go.Joins
set_option linter.all false
theorem list_of_all {α : Type} {P : Nat → α → Prop} : ∀ n : Nat, (∀ i, i < n → ∃ q, P i q) → ∃ L : List α, L.length = n ∧ ∀ i q, L[i]? = some q → P i q
  | 0, _ => ⟨[], rfl, fun i q h => by simp at h⟩
  | n + 1, h => by
    obtain ⟨L, hl, hL⟩ := list_of_all n (fun i hi => h i (by omega))
    obtain ⟨q, hq⟩ := h n (by omega)
    refine ⟨L ++ [q], by simp [hl], fun i p hp => ?_⟩
    rcases Nat.lt_or_ge i n with hi | hi
    · rw [List.getElem?_append_left (by omega)] at hp
      exact hL i p hp
    · rw [List.getElem?_append_right (by omega), hl] at hp
      rcases Nat.eq_or_lt_of_le hi with he | he
      · subst he; simp at hp; subst hp; exact hq
      · rw [List.getElem?_eq_none (by simp; omega)] at hp; cases hp
theorem spot_of_cell {w : World} {a : Addr} {v : Value} (h : w.cell? a = some v) : a = ⟨a.block, a.off, none⟩ := by
  obtain ⟨b, o, s⟩ := a
  cases s with
  | none => rfl
  | some s =>
    exfalso
    unfold World.cell? at h
    split at h <;> simp at h
theorem add_none (b o i : Nat) : (⟨b, o, none⟩ : Addr).add i = ⟨b, o + i, none⟩ := by
  unfold Addr.add
  by_cases h : i = 0
  · subst h; simp
  · simp [h]
section
variable {H : Type} {enc : TypeId × Value → H} {P : Program} {w : World} {base : Nat} {spare : Nat → Bool} {held : Bool}
/-- A slice of structs of five ints reads as a list of legs. -/
theorem open_legs {t e : TypeId} {f0 f1 f2 f3 f4 : Field} {fuel : Nat} {v : Value} {x : DataW H × List MemPlace} (ht : P.underlying t = some (.slice e)) (he : P.underlying e = some (.struct #[f0, f1, f2, f3, f4]))
    (hone : oneCellFields P #[f0, f1, f2, f3, f4] = true) (hC : P.cellsOf e = 5) (h0 : P.underlying f0.type = some (.int .i64)) (h1 : P.underlying f1.type = some (.int .i64)) (h2 : P.underlying f2.type = some (.int .i64))
    (h3 : P.underlying f3.type = some (.int .i64)) (h4 : P.underlying f4.type = some (.int .i64)) (h : DataW.trod enc P w base spare held fuel t [v] = some x) :
    ∃ (A : Option Addr) (cap : Nat) (L : List Lg), v = .slice A L.length cap ∧ LegsAt w A L ∧ L.length ≤ maxLen := by
  rcases open_slice ht h with ⟨e1, -⟩ | ⟨a, len, cap, m, n, D, Pl, e1, hb, hl, hmx, hm, -, hi⟩
  · simp at e1
    exact ⟨none, 0, [], by simpa using e1, fun h => absurd rfl h, by simp⟩
  · have hml : len ≤ m := by rw [hm]; split <;> omega
    have hall : ∀ i, i < len → ∃ q : Lg, w.cell? ((a.add (i * 5)).add 0) = some (.int .i64 q.f) ∧ w.cell? ((a.add (i * 5)).add 1) = some (.int .i64 q.t) ∧ w.cell? ((a.add (i * 5)).add 2) = some (.int .i64 q.e) ∧
        w.cell? ((a.add (i * 5)).add 3) = some (.int .i64 q.n) ∧ w.cell? ((a.add (i * 5)).add 4) = some (.int .i64 q.u) := by
      intro i hil
      obtain ⟨cs', hc, ht'⟩ := hi i (by omega)
      rw [hC] at hc
      obtain ⟨_, hcl, hat⟩ := World.cells?_some hc
      obtain ⟨ys, n', _, _, _, _, hf⟩ := DataW.trod_struct he ht'
      have cell : ∀ (j : Nat) (f : Field), j < 5 → #[f0, f1, f2, f3, f4][j]? = some f → P.underlying f.type = some (.int .i64) → ∃ q : Int, w.cell? ((a.add (i * 5)).add j) = some (.int .i64 q) := by
        intro j f hj hfj hfi
        obtain ⟨o, c⟩ := hone_of hone j f hfj
        have g := hf j f hfj
        rw [o, c] at g
        have hjl : j < cs'.length := by omega
        have e2 : (cs'.drop j).take 1 = [cs'[j]] := by rw [List.drop_eq_getElem_cons hjl]; rfl
        rw [e2] at g
        rw [hat j hj, List.getElem?_eq_getElem hjl]
        rcases hy : ys[j]? with _ | y
        · rw [hy] at g
          exfalso
          have hh := List.getElem?_eq_none_iff.1 hy
          simp at *
          omega
        · rw [hy] at g
          obtain ⟨q, hq⟩ := int_of_cell hfi g
          exact ⟨q, by rw [hq]⟩
      obtain ⟨q0, c0⟩ := cell 0 f0 (by omega) rfl h0
      obtain ⟨q1, c1⟩ := cell 1 f1 (by omega) rfl h1
      obtain ⟨q2, c2⟩ := cell 2 f2 (by omega) rfl h2
      obtain ⟨q3, c3⟩ := cell 3 f3 (by omega) rfl h3
      obtain ⟨q4, c4⟩ := cell 4 f4 (by omega) rfl h4
      exact ⟨⟨q0, q1, q2, q3, q4⟩, c0, c1, c2, c3, c4⟩
    obtain ⟨L, hL, hP⟩ := list_of_all len hall
    subst hL
    refine ⟨some a, cap, L, by simpa using e1, fun hne => ?_, by omega⟩
    obtain ⟨q, hq⟩ : ∃ q, L[0]? = some q := ⟨_, List.getElem?_eq_getElem (by cases L; exact absurd rfl hne; simp)⟩
    have h00 := (hP 0 q hq).1
    rw [Nat.zero_mul] at h00
    have ea : (a.add 0).add 0 = a := by unfold Addr.add; simp
    rw [ea] at h00
    have hsp := spot_of_cell h00
    have hlt := World.block_lt_of_cell? w a h00
    refine ⟨a.block, a.off, by rw [← hsp], hlt, fun k g hk => ?_⟩
    have g5 := hP k g hk
    rw [hsp] at g5
    simp only [add_none, Nat.add_zero] at g5
    exact g5
end
end Go.Proofs.YtmdeekojioeomaaDoor
