/- Contracts of the scalar helpers (l1In, isIndex, isWithin, stepFits) and small lemmas of the walks. -/
import Derived.Test.YtmdeekojioeomaaDoorRows
import Derived.WalkKit
import Derived.ProofKit
import Derived.WalkLawsBesides
import Derived.WalkSpells
import Derived.RegionTactic
import Derived.Deep.QuietTactic
import Derived.Deep.RegionHeld3
import Derived.Deep.LoopGhost
import Derived.Deep.DeepCutAuto
import Derived.BigQuiet
import Derived.Outline
import Derived.Lib.Hide
namespace Go.Proofs.YtmdeekojioeomaaDoor
open Go.RowKit
set_option linter.all false
def inB (n lo hi : Int) : Bool := decide (lo ≤ n ∧ n ≤ hi)
def ixB (n m : Int) : Bool := decide (0 ≤ n ∧ n < m)
def wiB (n m : Int) : Bool := decide (-m ≤ n ∧ n ≤ m)
theorem inB_t {n lo hi : Int} : inB n lo hi = true ↔ lo ≤ n ∧ n ≤ hi := by unfold inB; simp
theorem ixB_t {n m : Int} : ixB n m = true ↔ 0 ≤ n ∧ n < m := by unfold ixB; simp
theorem wiB_t {n m : Int} : wiB n m = true ↔ -m ≤ n ∧ n ≤ m := by unfold wiB; simp
theorem inB_f {n lo hi : Int} : inB n lo hi = false ↔ ¬ (lo ≤ n ∧ n ≤ hi) := by unfold inB; exact decide_eq_false_iff_not
theorem ixB_f {n m : Int} : ixB n m = false ↔ ¬ (0 ≤ n ∧ n < m) := by unfold ixB; exact decide_eq_false_iff_not
theorem wiB_f {n m : Int} : wiB n m = false ↔ ¬ (-m ≤ n ∧ n ≤ m) := by unfold wiB; exact decide_eq_false_iff_not
theorem ret_bool {a b : Bool} (h : a = b) : Ending.returned (.bool a) = .returned (.bool b) := by rw [h]
theorem ret_int {k : IntKind} {a b : Int} (h : a = b) : Ending.returned (.int k a) = .returned (.int k b) := by rw [h]

/-- The world w' is w with new blocks, and with writes to these alone. -/
def New (w w' : World) : Prop := Below w.heap.size w w'
theorem New.refl (w : World) : New w w := Below.refl _ _
theorem New.size {w w' : World} (h : New w w') : w.heap.size ≤ w'.heap.size := Below.size h
theorem New.trans {a b c : World} (h : New a b) (k : New b c) : New a c := Below.trans h (Below.mono k h.size)
theorem New.tail {a b c : World} (k : New b c) (h : New a b) : New a c := h.trans k
theorem New.alloc {a b : World} (h : New a b) (o : Obj) : New a (b.alloc o) := Below.alloc h h.size o
attribute [go_sem] New.refl New.alloc
theorem New.drew {a b : World} (h : New a b) : New a b.drew := Below.drew h
theorem New.drewN {a b : World} (h : New a b) (n : Nat) : New a (b.drewN n) := ⟨h.os, h.tape, h.output, h.size, h.block⟩
theorem New.setCell {a b : World} (h : New a b) {p : Addr} (hp : a.heap.size ≤ p.block) (u : Value) : New a (b.setCell p u) := Below.setCell h hp u
theorem New.grown {a w w' : World} {row : Option Nat} (h : New a w) (hg : w.grownBy w' row) (hr : ∀ k, row = some k → a.heap.size ≤ k) : New a w' := Below.grown h hg h.size hr
theorem New.cell {w w' : World} (h : New w w') {p : Addr} (hp : p.block < w.heap.size) : w'.cell? p = w.cell? p := Below.cell h hp

/-- A block that every later world has as it is. -/
def Has (W : World) (b : Nat) (cs : Array Value) (T : TypeId) : Prop := W.heap[b]? = some (.cells cs T (0, 0))
theorem Has.lt {W : World} {b : Nat} {cs : Array Value} {T : TypeId} (h : Has W b cs T) : b < W.heap.size := by
  rcases Nat.lt_or_ge b W.heap.size with h1 | h1
  · exact h1
  · unfold Has at h; rw [Array.getElem?_eq_none h1] at h; cases h
theorem Has.new (W : World) (cs : Array Value) (T : TypeId) : Has (W.alloc (.cells cs T)) W.heap.size cs T := by
  show (W.heap.push _)[W.heap.size]? = _
  simp
theorem Has.keep {W w' : World} {b : Nat} {cs : Array Value} {T : TypeId} (h : Has W b cs T) (hn : New W w') : Has w' b cs T := (hn.block b h.lt).trans h
theorem Has.alloc {W : World} {b : Nat} {cs : Array Value} {T : TypeId} (h : Has W b cs T) (o : Obj) : Has (W.alloc o) b cs T := h.keep ((New.refl W).alloc o)
theorem Has.drew {W : World} {b : Nat} {cs : Array Value} {T : TypeId} (h : Has W b cs T) : Has W.drew b cs T := h
theorem Has.drewN {W : World} {b : Nat} {cs : Array Value} {T : TypeId} (h : Has W b cs T) (n : Nat) : Has (W.drewN n) b cs T := h
theorem Has.cells {W : World} {b : Nat} {cs : Array Value} {T : TypeId} (h : Has W b cs T) (i : Nat) : ∀ w', New W w' → w'.cell? ⟨b, i, none⟩ = cs[i]? := by
  intro w' hn
  have hb := h.keep hn
  unfold Has at hb
  simp [World.cell?, hb]
theorem Has.far {W : World} {b : Nat} {cs : Array Value} {T : TypeId} (h : Has W b cs T) {p : Addr} (hp : b ≠ p.block) (v : Value) : Has (W.setCell p v) b cs T := (Below.heap_setCell W p v b hp).trans h
theorem Has.set {W : World} {b : Nat} {cs : Array Value} {T : TypeId} (h : Has W b cs T) (i : Nat) (v : Value) : Has (W.setCell ⟨b, i, none⟩ v) b (cs.setIfInBounds i v) T := by
  unfold Has at *
  simp [World.setCell, Array.getElem?_modify, h]
theorem Has.set3 {W : World} {b : Nat} {x0 x1 x2 y0 y1 y2 : Value} {T : TypeId} (h : Has W b #[x0, x1, x2] T) :
    Has (((W.setCell ⟨b, 0, none⟩ y0).setCell ⟨b, 1, none⟩ y1).setCell ⟨b, 2, none⟩ y2) b #[y0, y1, y2] T := by
  unfold Has at *
  simp [World.setCell, Array.getElem?_modify, h]
theorem Has.set5 {W : World} {b : Nat} {x0 x1 x2 x3 x4 y0 y1 y2 y3 y4 : Value} {T : TypeId} (h : Has W b #[x0, x1, x2, x3, x4] T) :
    Has (((((W.setCell ⟨b, 0, none⟩ y0).setCell ⟨b, 1, none⟩ y1).setCell ⟨b, 2, none⟩ y2).setCell ⟨b, 3, none⟩ y3).setCell ⟨b, 4, none⟩ y4) b #[y0, y1, y2, y3, y4] T := by
  unfold Has at *
  simp [World.setCell, Array.getElem?_modify, h]
theorem Has.set2 {W : World} {b : Nat} {x0 x1 y0 y1 : Value} {T : TypeId} (h : Has W b #[x0, x1] T) :
    Has ((W.setCell ⟨b, 0, none⟩ y0).setCell ⟨b, 1, none⟩ y1) b #[y0, y1] T := by
  unfold Has at *
  simp [World.setCell, Array.getElem?_modify, h]
theorem Has.set1 {W : World} {b : Nat} {x0 y0 : Value} {T : TypeId} (h : Has W b #[x0] T) : Has (W.setCell ⟨b, 0, none⟩ y0) b #[y0] T := by
  unfold Has at *
  simp [World.setCell, Array.getElem?_modify, h]
theorem Has.free {W : World} {b : Nat} {cs : Array Value} {T : TypeId} (h : Has W b cs T) (i : Nat) : W.frozen? ⟨b, i, none⟩ = false := by
  unfold Has at h
  simp [World.frozen?, h]
theorem Has.frees {W : World} {b : Nat} {cs : Array Value} {T : TypeId} (h : Has W b cs T) (i : Nat) : ∀ w', New W w' → w'.frozen? ⟨b, i, none⟩ = false := fun w' hn => (h.keep hn).free i
theorem Has.at1 {W : World} {b : Nat} {v0 : Value} {T : TypeId} (h : Has W b #[v0] T) : W.cell? ⟨b, 0, none⟩ = some v0 ∧ W.frozen? ⟨b, 0, none⟩ = false :=
  ⟨by unfold Has at h; simp [World.cell?, h], h.free 0⟩
theorem Has.at2 {W : World} {b : Nat} {v0 v1 : Value} {T : TypeId} (h : Has W b #[v0, v1] T) : W.cell? ⟨b, 0, none⟩ = some v0 ∧ W.cell? ⟨b, 1, none⟩ = some v1 ∧ W.frozen? ⟨b, 0, none⟩ = false ∧ W.frozen? ⟨b, 1, none⟩ = false := by
  refine ⟨?_, ?_, h.free 0, h.free 1⟩ <;> (unfold Has at h; simp [World.cell?, h])
theorem Has.at3 {W : World} {b : Nat} {v0 v1 v2 : Value} {T : TypeId} (h : Has W b #[v0, v1, v2] T) :
    W.cell? ⟨b, 0, none⟩ = some v0 ∧ W.cell? ⟨b, 1, none⟩ = some v1 ∧ W.cell? ⟨b, 2, none⟩ = some v2 ∧ W.frozen? ⟨b, 0, none⟩ = false ∧ W.frozen? ⟨b, 1, none⟩ = false ∧ W.frozen? ⟨b, 2, none⟩ = false := by
  refine ⟨?_, ?_, ?_, h.free 0, h.free 1, h.free 2⟩ <;> (unfold Has at h; simp [World.cell?, h])
theorem Has.at5 {W : World} {b : Nat} {v0 v1 v2 v3 v4 : Value} {T : TypeId} (h : Has W b #[v0, v1, v2, v3, v4] T) :
    W.cell? ⟨b, 0, none⟩ = some v0 ∧ W.cell? ⟨b, 1, none⟩ = some v1 ∧ W.cell? ⟨b, 2, none⟩ = some v2 ∧ W.cell? ⟨b, 3, none⟩ = some v3 ∧ W.cell? ⟨b, 4, none⟩ = some v4 ∧
    W.frozen? ⟨b, 0, none⟩ = false ∧ W.frozen? ⟨b, 1, none⟩ = false ∧ W.frozen? ⟨b, 2, none⟩ = false ∧ W.frozen? ⟨b, 3, none⟩ = false ∧ W.frozen? ⟨b, 4, none⟩ = false := by
  refine ⟨?_, ?_, ?_, ?_, ?_, h.free 0, h.free 1, h.free 2, h.free 3, h.free 4⟩ <;> (unfold Has at h; simp [World.cell?, h])
theorem New.two {W w1 : World} (hb : New W w1) : (∀ b o, b < W.heap.size → w1.cell? ⟨b, o, none⟩ = W.cell? ⟨b, o, none⟩) ∧ (∀ b o, b < W.heap.size → w1.frozen? ⟨b, o, none⟩ = W.frozen? ⟨b, o, none⟩) :=
  ⟨fun b o h => Below.cell (p := ⟨b, o, none⟩) hb h, fun b o h => Below.frozen (p := ⟨b, o, none⟩) hb h⟩
theorem Has.cells3 {W : World} {b : Nat} {v0 v1 v2 : Value} {T : TypeId} (h : Has W b #[v0, v1, v2] T) :
    ∀ w', New W w' → w'.cell? ⟨b, 0, none⟩ = some v0 ∧ w'.cell? ⟨b, 1, none⟩ = some v1 ∧ w'.cell? ⟨b, 2, none⟩ = some v2 :=
  fun w' hn => ⟨h.cells 0 w' hn, h.cells 1 w' hn, h.cells 2 w' hn⟩
theorem Has.cells5 {W : World} {b : Nat} {v0 v1 v2 v3 v4 : Value} {T : TypeId} (h : Has W b #[v0, v1, v2, v3, v4] T) :
    ∀ w', New W w' → w'.cell? ⟨b, 0, none⟩ = some v0 ∧ w'.cell? ⟨b, 1, none⟩ = some v1 ∧ w'.cell? ⟨b, 2, none⟩ = some v2 ∧ w'.cell? ⟨b, 3, none⟩ = some v3 ∧ w'.cell? ⟨b, 4, none⟩ = some v4 :=
  fun w' hn => ⟨h.cells 0 w' hn, h.cells 1 w' hn, h.cells 2 w' hn, h.cells 3 w' hn, h.cells 4 w' hn⟩
theorem Has.cells2 {W : World} {b : Nat} {v0 v1 : Value} {T : TypeId} (h : Has W b #[v0, v1] T) :
    ∀ w', New W w' → w'.cell? ⟨b, 0, none⟩ = some v0 ∧ w'.cell? ⟨b, 1, none⟩ = some v1 :=
  fun w' hn => ⟨h.cells 0 w' hn, h.cells 1 w' hn⟩

theorem l1In_any (n lo hi : Int) (w : World) : Calls Tryd.prog 38 #[.int .i64 n, .int .i64 lo, .int .i64 hi] w fun e w' => e = .returned (.bool (inB n lo hi)) ∧ w = w' := by
  by_cases h1 : lo ≤ n
  · by_cases h2 : n ≤ hi
    all_goals
      go_enter Tryd.func38, Tryd.ntmps38
      go_wp2
      go_ret
      exact ⟨ret_bool (by unfold inB; simp; omega), rfl⟩
  · go_enter Tryd.func38, Tryd.ntmps38
    go_wp2
    go_ret
    exact ⟨ret_bool (by unfold inB; simp; omega), rfl⟩
theorem isIndex_any (n m : Int) (w : World) : Calls Tryd.prog 28 #[.int .i64 n, .int .i64 m] w fun e w' => e = .returned (.bool (ixB n m)) ∧ w = w' := by
  by_cases h1 : 0 ≤ n
  · by_cases h2 : n < m
    all_goals
      go_enter Tryd.func28, Tryd.ntmps28
      go_wp2
      go_ret
      exact ⟨ret_bool (by unfold ixB; simp; omega), rfl⟩
  · go_enter Tryd.func28, Tryd.ntmps28
    go_wp2
    go_ret
    exact ⟨ret_bool (by unfold ixB; simp; omega), rfl⟩
theorem isWithin_any (n m : Int) (w : World) (h0 : 0 ≤ m) (h9 : m ≤ 1000000) : Calls Tryd.prog 41 #[.int .i64 n, .int .i64 m] w fun e w' => e = .returned (.bool (wiB n m)) ∧ w = w' := by
  by_cases h1 : -m ≤ n
  · by_cases h2 : n ≤ m
    all_goals
      go_enter Tryd.func41, Tryd.ntmps41
      go_wp2
      go_ret
      exact ⟨ret_bool (by unfold wiB; simp; omega), rfl⟩
  · go_enter Tryd.func41, Tryd.ntmps41
    go_wp2
    go_ret
    exact ⟨ret_bool (by unfold wiB; simp; omega), rfl⟩
theorem stepFits_any (n : Int) (w : World) : Calls Tryd.prog 29 #[.int .i64 n] w fun e w' => e = .returned (.bool (wiB n 99)) ∧ w = w' := by
  go_enter Tryd.func29, Tryd.ntmps29
  go_wp2_with (go_at_call 41; refine (isWithin_any _ _ _ (by omega) (by omega)).mono ?_; rintro e w' ⟨rfl, rfl⟩)
  go_ret
  exact ⟨rfl, rfl⟩
end Go.Proofs.YtmdeekojioeomaaDoor
