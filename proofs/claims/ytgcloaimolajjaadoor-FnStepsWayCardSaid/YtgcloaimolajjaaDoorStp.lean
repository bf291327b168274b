/- The state of l20Steps: the reader, the survey, the row of steps. -/
import Derived.Test.YtgcloaimolajjaaDoorDrawR
namespace Go.Proofs.YtgcloaimolajjaaDoor
open Go.RowKit
set_option linter.all false
theorem own_only2 {w w' : World} {base g : Nat} {e : TypeId} {size n : Nat} {v : Value} {xs : List Value} (h : w.ownsRow base e size v n xs) (ho : Only g w w') (hg : ∀ k, v.ownBlock = some k → k ≠ g) : w'.ownsRow base e size v n xs := by
  refine ⟨h.1, ?_⟩
  rcases h.2 with h0 | ⟨g', cap, cur, h1, h2, h3, h4⟩
  · exact .inl h0
  · have := hg g' (by rw [h1]; rfl)
    exact .inr ⟨g', cap, cur, h1, h2, Has.only (cs := cur) (T := e) h3 ho this, h4⟩
/-- The reader, the result's cell, the survey's cell and legs, the row of steps. -/
def StSt (w0 w : World) (rb b g : Nat) (st : Int) (B : Option Addr) (L : List Lg) (cp : Nat) (v : Value) (S : List St) : Prop :=
  Only rb w0 w ∧ Rd w rb b ∧ Has w w0.heap.size #[.int .i64 0, .slice none 0 0] 25 ∧ Has w g #[.int .i64 st, .slice B L.length cp] 25 ∧ LegsAt w B L ∧ w.ownsRow (g + 1) 40 2 v S.length (stC S)
theorem StSt.new {w0 w w' : World} {rb b g cp : Nat} {st : Int} {B : Option Addr} {L : List Lg} {v : Value} {S : List St} (h : StSt w0 w rb b g st B L cp v S) (hn : New w w') : StSt w0 w' rb b g st B L cp v S :=
  ⟨h.1.trans (Only.of_new hn), h.2.1.keep hn, h.2.2.1.keep hn, h.2.2.2.1.keep hn, h.2.2.2.2.1.keep hn, own_new h.2.2.2.2.2 hn⟩
theorem StSt.le {w0 w : World} {rb b b' g cp : Nat} {st : Int} {B : Option Addr} {L : List Lg} {v : Value} {S : List St} (h : StSt w0 w rb b g st B L cp v S) (hb : b ≤ b') : StSt w0 w rb b' g st B L cp v S := ⟨h.1, h.2.1.le hb, h.2.2⟩
/-- The reader has read. -/
theorem StSt.only {w0 w w' : World} {rb b b' g cp : Nat} {st : Int} {B : Option Addr} {L : List Lg} {v : Value} {S : List St} (h : StSt w0 w rb b g st B L cp v S) (ho : Only rb w w') (hr : Rd w' rb b') (h1 : rb < w0.heap.size) (h2 : w0.heap.size < g) : StSt w0 w' rb b' g st B L cp v S :=
  ⟨h.1.trans ho, hr, h.2.2.1.only ho (by omega), h.2.2.2.1.only ho (by omega), h.2.2.2.2.1.rd h.2.1 ho, own_only h.2.2.2.2.2 ho (by omega)⟩
/-- The legs lie below the survey's cell. -/
def LegsLow (B : Option Addr) (L : List Lg) (g : Nat) : Prop := L ≠ [] → ∀ q, B = some q → q.block < g
theorem LegsAt.low {w : World} {B : Option Addr} {L : List Lg} (h : LegsAt w B L) : LegsLow B L w.heap.size := fun hne q hq => by
  obtain ⟨b, off, e, hb, -⟩ := h hne
  rw [e] at hq
  cases hq
  exact hb
/-- A store into a block of two cells that is none of these. -/
theorem StSt.far {w0 w : World} {rb b g cp : Nat} {st : Int} {B : Option Addr} {L : List Lg} {v : Value} {S : List St} (h : StSt w0 w rb b g st B L cp v S) (h1 : rb < w0.heap.size) (h2 : w0.heap.size < g) {p : Addr} (hp : g < p.block) (hv : ∀ k, v.ownBlock = some k → k ≠ p.block) (hB : LegsLow B L g) (u : Value) : StSt w0 (w.setCell p u) rb b g st B L cp v S := by
  obtain ⟨o, r, a, c, l, ow⟩ := h
  exact ⟨o.setNew (by omega) _, r.far (by omega) _, a.far (by omega) _, c.far (by omega) _, (fun hne => LegsAt.far l (fun q hq => by have := hB hne q hq; omega) u hne), own_only2 ow ((Only.refl p.block w).setCell rfl u) hv⟩
/-- An append to the row of steps. -/
theorem StSt.push {w0 w w' : World} {rb b g cp : Nat} {st : Int} {B : Option Addr} {L : List Lg} {v v' : Value} {S : List St} {x : St} (h : StSt w0 w rb b g st B L cp v S) (h1 : rb < w0.heap.size) (h2 : w0.heap.size < g) (hB : LegsLow B L g)
    (hown : w'.ownsRow (g + 1) 40 2 v' (S.length + 1) (stC S ++ [.int .i64 x.i, .bool x.b])) (hg : w.grownBy w' v.ownBlock) : StSt w0 w' rb b g st B L cp v' (S ++ [x]) := by
  obtain ⟨o, r, a, c, l, ow⟩ := h
  have hb : ∀ k, v.ownBlock = some k → g + 1 ≤ k := fun k hk => (ow.lt k hk).1
  refine ⟨o.grown hg (fun k hk => by have := hb k hk; omega), ?_, a.grown hg (fun e => by have := hb _ e; omega), c.grown hg (fun e => by have := hb _ e; omega), ?_, by rw [stC_snoc, List.length_append, List.length_singleton]; exact hown⟩
  · rcases hv : v.ownBlock with _ | k
    · exact r.keep (New.grown (New.refl w) hg (fun k hk => by rw [hv] at hk; cases hk))
    · rw [hv] at hg
      exact r.only (show Only k w w' from hg) (by have := hb k hv; omega)
  · intro hne
    obtain ⟨b', off, e, hbl, hc⟩ := l hne
    refine ⟨b', off, e, Nat.lt_of_lt_of_le hbl hg.size, fun k q hk => ?_⟩
    have hk := hc k q hk
    have kp : ∀ i, w'.cell? ⟨b', i, none⟩ = w.cell? ⟨b', i, none⟩ := fun i => by
      unfold World.cell?
      rw [hg.block b' hbl (fun h => by have h1 := hB hne _ e; have h2 := hb _ h.symm; simp only at h1; omega)]
    rw [kp, kp, kp, kp, kp]
    exact hk
theorem steps_own {w : World} {base n : Nat} {v : Value} {S : List St} (h : w.ownsRow base 40 2 v n (stC S)) : ∃ A cap, v = .slice A S.length cap ∧ S.length ≤ cap ∧ StepsAt w A S ∧ ∀ p, A = some p → base ≤ p.block := by
  have hl := h.1
  rw [stC_len] at hl
  obtain rfl : n = S.length := by omega
  rcases h.2 with ⟨rfl, h0⟩ | ⟨g, cap, cur, rfl, hg, hh, hc, hm, hs, ht⟩
  · exact ⟨none, 0, by rw [h0], by omega, fun hne => absurd (List.eq_nil_of_length_eq_zero h0) hne, fun p hp => by cases hp⟩
  · refine ⟨_, cap, rfl, hc, fun hne => ⟨g, 0, rfl, Has.lt (cs := cur) (T := 40) hh, fun k q hk => ?_⟩, fun p hp => by cases hp; exact hg⟩
    have hkl := (List.getElem?_eq_some_iff.1 hk).1
    obtain ⟨a0, a1⟩ := stC_get S k q hk
    have hx : ∀ j, j < S.length * 2 → w.cell? ⟨g, j, none⟩ = (stC S)[j]? := fun j hj => by
      rw [Has.cells (cs := cur) (T := 40) hh j w (New.refl w), ← ht, List.getElem?_take, if_pos hj]; simp
    rw [Nat.zero_add, hx _ (by omega), hx _ (by omega)]
    exact ⟨a0, a1⟩
theorem StepsAt.far {w : World} {A : Option Addr} {S : List St} (h : StepsAt w A S) {x : Addr} (hA : ∀ p, A = some p → p.block ≠ x.block) (v : Value) : StepsAt (w.setCell x v) A S := fun hne => by
  obtain ⟨b, off, rfl, hb, hc⟩ := h hne
  refine ⟨b, off, rfl, by simpa using hb, fun k g hk => ?_⟩
  have hk := hc k g hk
  have hne := hA _ rfl
  have kp : ∀ o, (w.setCell x v).cell? ⟨b, o, none⟩ = w.cell? ⟨b, o, none⟩ := fun o => by
    unfold World.cell?
    rw [Below.heap_setCell w x v b hne]
  rw [kp, kp]
  exact hk
end Go.Proofs.YtgcloaimolajjaaDoor
