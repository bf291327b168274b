/- A survey in memory; contracts of SurveyValid (program and reference). -/
import Derived.Test.YtmdeekojioeomaaDoorLeg
import Derived.Test.YtmdeekojioeomaaDoorPlain
namespace Go.Proofs.YtmdeekojioeomaaDoor
open Go.RowKit
set_option linter.all false
def Lg.ok (st : Int) (g : Lg) : Bool := legB st g.f g.t g.e g.n g.u
/-- The slice at A reads as these legs. -/
def LegsAt (w : World) (A : Option Addr) (L : List Lg) : Prop :=
  L ≠ [] → ∃ b off, A = some ⟨b, off, none⟩ ∧ b < w.heap.size ∧ ∀ k g, L[k]? = some g →
    w.cell? ⟨b, off + k * 5, none⟩ = some (.int .i64 g.f) ∧ w.cell? ⟨b, off + k * 5 + 1, none⟩ = some (.int .i64 g.t) ∧ w.cell? ⟨b, off + k * 5 + 2, none⟩ = some (.int .i64 g.e) ∧
    w.cell? ⟨b, off + k * 5 + 3, none⟩ = some (.int .i64 g.n) ∧ w.cell? ⟨b, off + k * 5 + 4, none⟩ = some (.int .i64 g.u)
theorem LegsAt.keep {w w' : World} {A : Option Addr} {L : List Lg} (h : LegsAt w A L) (hn : New w w') : LegsAt w' A L := fun hne => by
  obtain ⟨b, off, e, hb, hc⟩ := h hne
  refine ⟨b, off, e, Nat.lt_of_lt_of_le hb hn.size, fun k g hk => ?_⟩
  have hk := hc k g hk
  have kp : ∀ o, w'.cell? ⟨b, o, none⟩ = w.cell? ⟨b, o, none⟩ := fun o => New.cell hn (p := ⟨b, o, none⟩) hb
  rw [kp, kp, kp, kp, kp]
  exact hk
theorem LegsAt.at_ {w : World} {A : Option Addr} {L : List Lg} (h : LegsAt w A L) {k : Nat} (hk : k < L.length) : ∃ b off f t e n u, A = some ⟨b, off, none⟩ ∧ L[k] = ⟨f, t, e, n, u⟩ ∧ ∀ w', New w w' →
    w'.cell? ⟨b, off + k * 5, none⟩ = some (.int .i64 f) ∧ w'.cell? ⟨b, off + k * 5 + 1, none⟩ = some (.int .i64 t) ∧ w'.cell? ⟨b, off + k * 5 + 2, none⟩ = some (.int .i64 e) ∧
    w'.cell? ⟨b, off + k * 5 + 3, none⟩ = some (.int .i64 n) ∧ w'.cell? ⟨b, off + k * 5 + 4, none⟩ = some (.int .i64 u) := by
  obtain ⟨b, off, e, hb, hc⟩ := h (by intro h0; subst h0; simp at hk)
  refine ⟨b, off, _, _, _, _, _, e, rfl, fun w' hn => ?_⟩
  have hk := hc k _ (List.getElem?_eq_getElem hk)
  have kp : ∀ o, w'.cell? ⟨b, o, none⟩ = w.cell? ⟨b, o, none⟩ := fun o => New.cell hn (p := ⟨b, o, none⟩) hb
  rw [kp, kp, kp, kp, kp]
  exact hk
/-- Row k of these cells is the leg q. -/
def LegIn (cs : Array Value) (k : Nat) (q : Lg) : Prop :=
  cs[k * 5]? = some (.int .i64 q.f) ∧ cs[k * 5 + 1]? = some (.int .i64 q.t) ∧ cs[k * 5 + 2]? = some (.int .i64 q.e) ∧ cs[k * 5 + 3]? = some (.int .i64 q.n) ∧ cs[k * 5 + 4]? = some (.int .i64 q.u)
/-- Block g is all of these legs, and no more. -/
def LegBlk (w : World) (g : Nat) (L : List Lg) : Prop :=
  ∃ cs : Array Value, Has w g cs 24 ∧ cs.size = L.length * 5 ∧ ∀ (k : Nat) (q : Lg), L[k]? = some q → LegIn cs k q
def put5 (cs : Array Value) (k : Nat) (a b c d e : Value) : Array Value := ((((cs.setIfInBounds (k * 5) a).setIfInBounds (k * 5 + 1) b).setIfInBounds (k * 5 + 2) c).setIfInBounds (k * 5 + 3) d).setIfInBounds (k * 5 + 4) e
theorem Has.put5 {W : World} {g : Nat} {cs : Array Value} {T : TypeId} (h : Has W g cs T) (k : Nat) (a b c d e : Value) :
    Has (((((W.setCell ⟨g, k * 5, none⟩ a).setCell ⟨g, k * 5 + 1, none⟩ b).setCell ⟨g, k * 5 + 2, none⟩ c).setCell ⟨g, k * 5 + 3, none⟩ d).setCell ⟨g, k * 5 + 4, none⟩ e) g (put5 cs k a b c d e) T :=
  ((((h.set _ _).set _ _).set _ _).set _ _).set _ _
theorem New.put5 {w W : World} {g : Nat} (h : New w W) (hg : w.heap.size ≤ g) (k : Nat) (a b c d e : Value) :
    New w (((((W.setCell ⟨g, k * 5, none⟩ a).setCell ⟨g, k * 5 + 1, none⟩ b).setCell ⟨g, k * 5 + 2, none⟩ c).setCell ⟨g, k * 5 + 3, none⟩ d).setCell ⟨g, k * 5 + 4, none⟩ e) :=
  ((((h.setCell hg _).setCell hg _).setCell hg _).setCell hg _).setCell hg _
theorem put5_size (cs : Array Value) (k : Nat) (a b c d e : Value) : (put5 cs k a b c d e).size = cs.size := by simp [put5]
theorem put5_far (cs : Array Value) (k i : Nat) (a b c d e : Value) (h : i < k * 5 ∨ k * 5 + 4 < i) : (put5 cs k a b c d e)[i]? = cs[i]? := by
  unfold put5
  simp only [Array.getElem?_setIfInBounds, Array.size_setIfInBounds]
  rw [if_neg (by omega), if_neg (by omega), if_neg (by omega), if_neg (by omega), if_neg (by omega)]
theorem put5_at (cs : Array Value) (k : Nat) (a b c d e : Value) (h : k * 5 + 4 < cs.size) :
    (put5 cs k a b c d e)[k * 5]? = some a ∧ (put5 cs k a b c d e)[k * 5 + 1]? = some b ∧ (put5 cs k a b c d e)[k * 5 + 2]? = some c ∧ (put5 cs k a b c d e)[k * 5 + 3]? = some d ∧ (put5 cs k a b c d e)[k * 5 + 4]? = some e := by
  unfold put5
  simp only [Array.getElem?_setIfInBounds, Array.size_setIfInBounds]
  refine ⟨?_, ?_, ?_, ?_, ?_⟩
  · rw [if_neg (by omega), if_neg (by omega), if_neg (by omega), if_neg (by omega), if_pos trivial, if_pos (by omega)]
  · rw [if_neg (by omega), if_neg (by omega), if_neg (by omega), if_pos trivial, if_pos (by omega)]
  · rw [if_neg (by omega), if_neg (by omega), if_pos trivial, if_pos (by omega)]
  · rw [if_neg (by omega), if_pos trivial, if_pos (by omega)]
  · rw [if_pos trivial, if_pos (by omega)]
theorem legIn_put5 {cs : Array Value} {L : List Lg} {k : Nat} (hk : k < L.length) (hs : cs.size = L.length * 5) {q : Lg} (hq : L[k] = q) (h : ∀ (j : Nat) (q : Lg), j < k → L[j]? = some q → LegIn cs j q) :
    ∀ (j : Nat) (p : Lg), j < k + 1 → L[j]? = some p → LegIn (put5 cs k (.int .i64 q.f) (.int .i64 q.t) (.int .i64 q.e) (.int .i64 q.n) (.int .i64 q.u)) j p := by
  intro j p hj hp
  rcases Nat.lt_or_ge j k with hjk | hjk
  · obtain ⟨h0, h1, h2, h3, h4⟩ := h j p hjk hp
    refine ⟨?_, ?_, ?_, ?_, ?_⟩ <;> (rw [put5_far _ _ _ _ _ _ _ _ (by omega)]; assumption)
  · obtain rfl : j = k := by omega
    rw [List.getElem?_eq_getElem hk, hq] at hp
    simp only [Option.some.injEq] at hp
    subst hp
    exact put5_at _ _ _ _ _ _ _ (by omega)
theorem LegBlk.keep {w w' : World} {g : Nat} {L : List Lg} (h : LegBlk w g L) (hn : New w w') : LegBlk w' g L := by
  obtain ⟨cs, h1, h2⟩ := h
  exact ⟨cs, h1.keep hn, h2⟩
theorem LegBlk.lt {w : World} {g : Nat} {L : List Lg} (h : LegBlk w g L) : g < w.heap.size := by
  obtain ⟨cs, h1, h2⟩ := h
  exact h1.lt
theorem LegBlk.far {w : World} {g : Nat} {L : List Lg} (h : LegBlk w g L) {p : Addr} (hp : g ≠ p.block) (v : Value) : LegBlk (w.setCell p v) g L := by
  obtain ⟨cs, h1, h2⟩ := h
  exact ⟨cs, h1.far hp v, h2⟩
theorem LegBlk.reads {w : World} {g : Nat} {L : List Lg} (h : LegBlk w g L) : LegsAt w (some ⟨g, 0, none⟩) L := fun _ => by
  obtain ⟨cs, h1, h2, h3⟩ := h
  refine ⟨g, 0, rfl, h1.lt, fun k q hk => ?_⟩
  have e : ∀ i, w.cell? ⟨g, i, none⟩ = cs[i]? := fun i => h1.cells i w (New.refl w)
  rw [Nat.zero_add, e, e, e, e, e]
  exact h3 k q hk
def svB (st : Int) (L : List Lg) : Bool := inB st 1 6 && decide (L.length ≤ 9) && L.all (Lg.ok st)
theorem svB_len {st : Int} {L : List Lg} (h : ¬ L.length ≤ 9) : svB st L = false := by unfold svB; simp [h]
theorem svB_st {st : Int} {L : List Lg} (h : ¬ (1 ≤ st ∧ st ≤ 6)) : svB st L = false := by unfold svB; rw [inB_f.2 h]; simp
theorem svB_bad {st : Int} {L : List Lg} {k : Nat} (hk : k < L.length) (h : Lg.ok st L[k] = false) : svB st L = false := by
  unfold svB
  have : L.all (Lg.ok st) = false := by
    rw [List.all_eq_false]
    exact ⟨_, List.getElem_mem hk, by simp [h]⟩
  rw [this]; simp
theorem svB_good {st : Int} {L : List Lg} (h1 : 1 ≤ st) (h2 : st ≤ 6) (h3 : L.length ≤ 9) (h : ∀ j (hj : j < L.length), Lg.ok st L[j] = true) : svB st L = true := by
  unfold svB
  rw [inB_t.2 ⟨h1, h2⟩]
  simp only [Bool.true_and, Bool.and_eq_true, decide_eq_true_eq]
  refine ⟨h3, List.all_eq_true.2 fun x hx => ?_⟩
  obtain ⟨j, hj, rfl⟩ := List.getElem_of_mem hx
  exact h j hj
end Go.Proofs.YtmdeekojioeomaaDoor
