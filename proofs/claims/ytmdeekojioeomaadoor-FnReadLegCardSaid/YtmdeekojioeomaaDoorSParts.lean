/- Contracts of the reference's Parts, PartsMany, LoopsMany and what they call. -/
import Derived.Test.YtmdeekojioeomaaDoorParts
namespace Go.Proofs.YtmdeekojioeomaaDoor
open Go.RowKit
set_option linter.all false
theorem one_oneCell (x : Int) : ∀ u ∈ [Value.int .i64 x], u.oneCell' = true := by
  intro u hu; simp at hu; subst hu; rfl
/-- A result that is a new slice of ints. -/
def FInts (w w' : World) (A : Option Addr) (l : List Int) : Prop := l ≠ [] → ∃ g, A = some ⟨g, 0, none⟩ ∧ w.heap.size ≤ g ∧ Ints w' g l
theorem FInts.reads {w w' : World} {A : Option Addr} {l : List Int} (h : FInts w w' A l) : IntsAt w' A l := fun hne => by
  obtain ⟨g, rfl, _, hi⟩ := h hne
  exact hi.reads hne
theorem FInts.of_own {w0 w : World} {base : Nat} {v : Value} {n : Nat} {l : List Int} (h : w.ownsRow base 3 1 v n (l.map (Value.int .i64))) (hb : w0.heap.size ≤ base) :
    ∃ A cap, v = .slice A l.length cap ∧ FInts w0 w A l := by
  obtain ⟨_, h | ⟨g, cap, rfl, hg, hi⟩⟩ := Ints.of_own h
  · obtain ⟨rfl, rfl⟩ := h
    exact ⟨none, 0, rfl, fun h => absurd rfl h⟩
  · exact ⟨_, cap, rfl, fun _ => ⟨g, rfl, by omega, hi⟩⟩
theorem one_new (w : World) (x : Value) (t : TypeId) : ∀ j u, [x][j]? = some u → (w.alloc (.cells #[x] t)).cell? ((⟨w.heap.size, 0, none⟩ : Addr).add j) = some u := by
  intro j u hj
  match j, hj with
  | 0, hj =>
    simp at hj
    subst hj
    simp [Addr.add]
  | j + 1, hj => simp at hj
/-- What Parts returns. -/
def prL (st : Int) (L : List Lg) : List Int := if svB st L then partsL st.toNat L else []
theorem prL_no {st : Int} {L : List Lg} (h : svB st L = false) : prL st L = [] := by simp [prL, h]
theorem prL_ok {n : Nat} {L : List Lg} (h : svB n L = true) : prL n L = partsL n L := by simp [prL, h]
theorem prL_le (st : Int) (L : List Lg) : (prL st L).length ≤ 6 := by
  unfold prL
  split
  · rename_i h; have := svB_true h; rw [partsL_length]; omega
  · simp
theorem FInts.mk {w w' : World} {g : Nat} {l : List Int} (hg : w.heap.size ≤ g) (h : Ints w' g l) : FInts w w' (some ⟨g, 0, none⟩) l := fun _ => ⟨g, rfl, hg, h⟩
theorem FInts.nil {w w' : World} {A : Option Addr} : FInts w w' A [] := fun h => absurd rfl h
end Go.Proofs.YtmdeekojioeomaaDoor
