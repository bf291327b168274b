/- Lists of ways in memory. -/
import Derived.Test.YtbjahideaonimaaInts
namespace Go.Proofs.Ytbjahideaonimaa
open Go.RowKit
set_option linter.all false
structure Wy where
  e : Int
  n : Int
  u : Int
deriving DecidableEq
/-- The slice at A reads as these ways. -/
def WaysAt (w : World) (A : Option Addr) (L : List Wy) : Prop :=
  L ≠ [] → ∃ b off, A = some ⟨b, off, none⟩ ∧ b < w.heap.size ∧ ∀ k g, L[k]? = some g →
    w.cell? ⟨b, off + k * 3, none⟩ = some (.int .i64 g.e) ∧ w.cell? ⟨b, off + k * 3 + 1, none⟩ = some (.int .i64 g.n) ∧ w.cell? ⟨b, off + k * 3 + 2, none⟩ = some (.int .i64 g.u)
theorem WaysAt.keep {w w' : World} {A : Option Addr} {L : List Wy} (h : WaysAt w A L) (hn : New w w') : WaysAt w' A L := fun hne => by
  obtain ⟨b, off, e, hb, hc⟩ := h hne
  refine ⟨b, off, e, Nat.lt_of_lt_of_le hb hn.size, fun k g hk => ?_⟩
  have hk := hc k g hk
  have kp : ∀ o, w'.cell? ⟨b, o, none⟩ = w.cell? ⟨b, o, none⟩ := fun o => New.cell hn (p := ⟨b, o, none⟩) hb
  rw [kp, kp, kp]
  exact hk
theorem WaysAt.at_ {w : World} {A : Option Addr} {L : List Wy} (h : WaysAt w A L) {k : Nat} (hk : k < L.length) : ∃ b off e n u, A = some ⟨b, off, none⟩ ∧ L[k] = ⟨e, n, u⟩ ∧ ∀ w', New w w' →
    w'.cell? ⟨b, off + k * 3, none⟩ = some (.int .i64 e) ∧ w'.cell? ⟨b, off + k * 3 + 1, none⟩ = some (.int .i64 n) ∧ w'.cell? ⟨b, off + k * 3 + 2, none⟩ = some (.int .i64 u) := by
  obtain ⟨b, off, e, hb, hc⟩ := h (by intro h0; subst h0; simp at hk)
  refine ⟨b, off, _, _, _, e, rfl, fun w' hn => ?_⟩
  have hk := hc k _ (List.getElem?_eq_getElem hk)
  have kp : ∀ o, w'.cell? ⟨b, o, none⟩ = w.cell? ⟨b, o, none⟩ := fun o => New.cell hn (p := ⟨b, o, none⟩) hb
  rw [kp, kp, kp]
  exact hk
/-- Row k of these cells is the way q. -/
def WayIn (cs : Array Value) (k : Nat) (q : Wy) : Prop :=
  cs[k * 3]? = some (.int .i64 q.e) ∧ cs[k * 3 + 1]? = some (.int .i64 q.n) ∧ cs[k * 3 + 2]? = some (.int .i64 q.u)
def WayBlk (w : World) (g : Nat) (L : List Wy) : Prop :=
  ∃ cs : Array Value, Has w g cs 43 ∧ cs.size = L.length * 3 ∧ ∀ (k : Nat) (q : Wy), L[k]? = some q → WayIn cs k q
def put3 (cs : Array Value) (k : Nat) (a b c : Value) : Array Value := ((cs.setIfInBounds (k * 3) a).setIfInBounds (k * 3 + 1) b).setIfInBounds (k * 3 + 2) c
theorem Has.put3 {W : World} {g : Nat} {cs : Array Value} {T : TypeId} (h : Has W g cs T) (k : Nat) (a b c : Value) :
    Has (((W.setCell ⟨g, k * 3, none⟩ a).setCell ⟨g, k * 3 + 1, none⟩ b).setCell ⟨g, k * 3 + 2, none⟩ c) g (put3 cs k a b c) T :=
  ((h.set _ _).set _ _).set _ _
theorem New.put3 {w W : World} {g : Nat} (h : New w W) (hg : w.heap.size ≤ g) (k : Nat) (a b c : Value) :
    New w (((W.setCell ⟨g, k * 3, none⟩ a).setCell ⟨g, k * 3 + 1, none⟩ b).setCell ⟨g, k * 3 + 2, none⟩ c) :=
  ((h.setCell hg _).setCell hg _).setCell hg _
theorem put3_size (cs : Array Value) (k : Nat) (a b c : Value) : (put3 cs k a b c).size = cs.size := by simp [put3]
theorem put3_far (cs : Array Value) (k i : Nat) (a b c : Value) (h : i < k * 3 ∨ k * 3 + 2 < i) : (put3 cs k a b c)[i]? = cs[i]? := by
  unfold put3
  simp only [Array.getElem?_setIfInBounds, Array.size_setIfInBounds]
  rw [if_neg (by omega), if_neg (by omega), if_neg (by omega)]
theorem put3_at (cs : Array Value) (k : Nat) (a b c : Value) (h : k * 3 + 2 < cs.size) :
    (put3 cs k a b c)[k * 3]? = some a ∧ (put3 cs k a b c)[k * 3 + 1]? = some b ∧ (put3 cs k a b c)[k * 3 + 2]? = some c := by
  unfold put3
  simp only [Array.getElem?_setIfInBounds, Array.size_setIfInBounds]
  refine ⟨?_, ?_, ?_⟩
  · rw [if_neg (by omega), if_neg (by omega), if_pos trivial, if_pos (by omega)]
  · rw [if_neg (by omega), if_pos trivial, if_pos (by omega)]
  · rw [if_pos trivial, if_pos (by omega)]
theorem wayIn_put3 {cs : Array Value} {L : List Wy} {k : Nat} (hk : k < L.length) (hs : cs.size = L.length * 3) {q : Wy} (hq : L[k] = q) (h : ∀ (j : Nat) (q : Wy), j < k → L[j]? = some q → WayIn cs j q) :
    ∀ (j : Nat) (p : Wy), j < k + 1 → L[j]? = some p → WayIn (put3 cs k (.int .i64 q.e) (.int .i64 q.n) (.int .i64 q.u)) j p := by
  intro j p hj hp
  rcases Nat.lt_or_ge j k with hjk | hjk
  · obtain ⟨h0, h1, h2⟩ := h j p hjk hp
    refine ⟨?_, ?_, ?_⟩ <;> (rw [put3_far _ _ _ _ _ _ (by omega)]; assumption)
  · obtain rfl : j = k := by omega
    rw [List.getElem?_eq_getElem hk, hq] at hp
    simp only [Option.some.injEq] at hp
    subst hp
    exact put3_at _ _ _ _ _ (by omega)
theorem WayBlk.keep {w w' : World} {g : Nat} {L : List Wy} (h : WayBlk w g L) (hn : New w w') : WayBlk w' g L := by
  obtain ⟨cs, h1, h2⟩ := h
  exact ⟨cs, h1.keep hn, h2⟩
theorem WayBlk.lt {w : World} {g : Nat} {L : List Wy} (h : WayBlk w g L) : g < w.heap.size := by
  obtain ⟨cs, h1, h2⟩ := h
  exact h1.lt
theorem WayBlk.far {w : World} {g : Nat} {L : List Wy} (h : WayBlk w g L) {p : Addr} (hp : g ≠ p.block) (v : Value) : WayBlk (w.setCell p v) g L := by
  obtain ⟨cs, h1, h2⟩ := h
  exact ⟨cs, h1.far hp v, h2⟩
theorem WayBlk.reads {w : World} {g : Nat} {L : List Wy} (h : WayBlk w g L) : WaysAt w (some ⟨g, 0, none⟩) L := fun _ => by
  obtain ⟨cs, h1, h2, h3⟩ := h
  refine ⟨g, 0, rfl, h1.lt, fun k q hk => ?_⟩
  have e : ∀ i, w.cell? ⟨g, i, none⟩ = cs[i]? := fun i => h1.cells i w (New.refl w)
  rw [Nat.zero_add, e, e, e]
  exact h3 k q hk
end Go.Proofs.Ytbjahideaonimaa
