/- Rows of rows of ints of our own, beside the reader. -/
import Derived.Test.YtmdeekojioeomaaDoorDraw
import Derived.Test.YtmdeekojioeomaaDoorTurn
import Derived.Test.YtmdeekojioeomaaDoorMinor
import Derived.Test.YtmdeekojioeomaaDoorLawM
import Derived.Deep.AppendLies
import Derived.Deep.RegionLaw
namespace Go.Proofs.YtmdeekojioeomaaDoor
open Go.RowKit
set_option linter.all false
/-- An append to a row of our own, in a region that draws. -/
theorem step_own {P : Program} {w : World} {ops : Array Oper} {o : Oper} {a : Act} {K : Act → World → Prop} {Q : Exit → Act → World → Prop} {E : Prop} (hgd : o.guard = none) (s x : Operand) (t : TypeId)
    (ho : o.op = .call { callee := .builtin .append, args := #[s, x], argTypes := #[t, t] })
    (base : Nat) (e : TypeId) (i : TypeInfo) (z : Value) (size bytes : Nat) (ht : P.underlying t = some (.slice e)) (hi : P.info? e = some i) (hz : i.zero = some z)
    (hsize : i.size = size) (hby : i.bytes = bytes) (hzs : z.cells.size = size) (hsz : 0 < size)
    (v : Value) (n : Nat) (xs : List Value) (hs : a.eval s = v) (hown : w.ownsRow base e size v n xs)
    (ad : Addr) (m c : Nat) (news : List Value) (hx : a.eval x = .slice (some ad) m c) (hl : news.length = m * size) (hnews : ∀ j u, news[j]? = some u → w.cell? (ad.add j) = some u) (h1 : ∀ u ∈ news, u.oneCell' = true)
    (h63 : n + m ≤ maxLen) (hbytes : (n + m) * bytes ≤ 140737488355328) (hbase : base ≤ w.heap.size)
    (h : ∀ v' w', w'.ownsRow base e size v' (n + m) (xs ++ news) → w.grownBy w' v.ownBlock → (v' = .slice none 0 0 ↔ v = .slice none 0 0 ∧ m = 0) → K (a.put o.dst v') w') :
    if Region.wanted o (yielded ops a.tmps) = true then Oper.wp P o a w K Q else E := by
  have hw : Region.wanted o (yielded ops a.tmps) = true := by simp [Region.wanted, hgd]
  rw [if_pos hw]
  exact wp_append_own w s x t ho base e i z size bytes ht hi hz hsize hby hzs hsz v n xs hs hown ad m c news hx hl hnews h1 h63 hbytes hbase h
theorem Only.grown {rb : Nat} {a b c : World} {row : Option Nat} (h : Only rb a b) (hg : b.grownBy c row) (hr : ∀ k, row = some k → a.heap.size ≤ k) : Only rb a c :=
  ⟨hg.os.trans h.os, hg.tape.trans h.tape, hg.output.trans h.output, Nat.le_trans h.size hg.size, fun i hi hne => (hg.block i (Nat.lt_of_lt_of_le hi h.size) (fun e => by have := hr i e.symm; omega)).trans (h.block i hi hne)⟩
theorem own_only {w w' : World} {base g : Nat} {e : TypeId} {size n : Nat} {v : Value} {xs : List Value} (h : w.ownsRow base e size v n xs) (ho : Only g w w') (hg : g < base) : w'.ownsRow base e size v n xs := by
  refine ⟨h.1, ?_⟩
  rcases h.2 with h0 | ⟨g', cap, cur, h1, h2, h3, h4⟩
  · exact .inl h0
  · exact .inr ⟨g', cap, cur, h1, h2, Has.only (cs := cur) (T := e) h3 ho (by omega), h4⟩
theorem Has.grown {w w' : World} {b : Nat} {cs : Array Value} {T : TypeId} {row : Option Nat} (h : Has w b cs T) (hg : w.grownBy w' row) (hne : row ≠ some b) : Has w' b cs T := (hg.block b h.lt (by exact fun e => hne e.symm)).trans h
theorem own_far {w w' : World} {base : Nat} {e : TypeId} {size n : Nat} {v : Value} {xs : List Value} (h : w.ownsRow base e size v n xs) {row : Option Nat} (hg : w.grownBy w' row) (hne : ∀ k, v.ownBlock = some k → row ≠ some k) : w'.ownsRow base e size v n xs := by
  refine ⟨h.1, ?_⟩
  rcases h.2 with h0 | ⟨g', cap, cur, h1, h2, h3, h4⟩
  · exact .inl h0
  · have := hne g' (by rw [h1]; rfl)
    exact .inr ⟨g', cap, cur, h1, h2, Has.grown (cs := cur) (T := e) h3 hg this, h4⟩
/-- The slice at C is these ints, in a block of their own. -/
def FI (w : World) (C : Option Addr) (I : List Int) : Prop := I = [] ∨ ∃ g, C = some ⟨g, 0, none⟩ ∧ Ints w g I
theorem FI.keep {w w' : World} {C : Option Addr} {I : List Int} (h : FI w C I) (hn : New w w') : FI w' C I := by
  rcases h with h | ⟨g, h1, h2⟩
  · exact .inl h
  · exact .inr ⟨g, h1, h2.keep hn⟩
theorem FI.grown {w w' : World} {C : Option Addr} {I : List Int} (h : FI w C I) {base : Nat} {e : TypeId} {size n : Nat} {v : Value} {xs : List Value} (ho : w.ownsRow base e size v n xs) (hne : e ≠ 3) (hg : w.grownBy w' v.ownBlock) : FI w' C I := by
  rcases h with h | ⟨g, h1, h2⟩
  · exact .inl h
  · exact .inr ⟨g, h1, h2.grown hg (own_ne ho h2 hne)⟩
theorem FI.reads {w : World} {C : Option Addr} {I : List Int} (h : FI w C I) : IntsAt w C I := by
  rcases h with rfl | ⟨g, rfl, h2⟩
  · exact fun hne => absurd rfl hne
  · exact h2.reads
theorem FI.far {w : World} {C : Option Addr} {I : List Int} (h : FI w C I) {p : Addr} (hp : ∀ q, C = some q → q.block ≠ p.block) (v : Value) : FI (w.setCell p v) C I := by
  rcases h with h | ⟨g, rfl, h2⟩
  · exact .inl h
  · exact .inr ⟨g, rfl, h2.far (hp _ rfl) v⟩
theorem ints_own {w : World} {base n : Nat} {v : Value} {l : List Int} (h : w.ownsRow base 3 1 v n (l.map (Value.int .i64))) : ∃ A cap, v = .slice A l.length cap ∧ l.length ≤ cap ∧ FI w A l ∧ ∀ p, A = some p → base ≤ p.block := by
  obtain ⟨hn, h1 | ⟨g, cap, rfl, hg, hI⟩⟩ := Ints.of_own h
  · obtain ⟨rfl, rfl⟩ := h1
    exact ⟨none, 0, rfl, Nat.le_refl _, .inl rfl, fun p hp => by cases hp⟩
  · refine ⟨_, cap, rfl, ?_, .inr ⟨g, rfl, hI⟩, fun p hp => by cases hp; exact hg⟩
    rcases h.2 with ⟨e, _⟩ | ⟨g', cap', cur, e, _, _, hc, _⟩
    · cases e
    · cases e; omega

theorem FI.rd {w w' : World} {C : Option Addr} {I : List Int} {rb b : Nat} (h : FI w C I) (hr : Rd w rb b) (ho : Only rb w w') : FI w' C I := by
  rcases h with h | ⟨g, h1, cs, h2, h3⟩
  · exact .inl h
  · refine .inr ⟨g, h1, Ints.only ⟨cs, h2, h3⟩ ho (fun e => ?_)⟩
    obtain ⟨p, A, n, cap, _, _, hh, _⟩ := hr
    rw [e] at h2
    unfold Has at h2 hh
    rw [h2] at hh
    have := Option.some.inj hh
    injection this with _ h5
    exact absurd h5 (by decide)
/-- Each of these values is a slice of n ints. -/
def RowsAny (w : World) (base n : Nat) (rs : List Value) : Prop := ∀ (j : Nat) (v : Value), rs[j]? = some v → ∃ C l c, v = Value.slice C l.length c ∧ l.length = n ∧ (∀ p, C = some p → base ≤ p.block) ∧ FI w C l
/-- The reader and the row of rows. -/
def MxSt (w0 w : World) (rb b n : Nat) (v : Value) (rs : List Value) : Prop := Only rb w0 w ∧ Rd w rb b ∧ w.ownsRow w0.heap.size 64 1 v rs.length rs ∧ RowsAny w w0.heap.size n rs
theorem MxSt.only {w0 w w' : World} {rb b b' n : Nat} {v : Value} {rs : List Value} (h : MxSt w0 w rb b n v rs) (h0 : rb < w0.heap.size) (ho : Only rb w w') (hr : Rd w' rb b') : MxSt w0 w' rb b' n v rs :=
  ⟨h.1.trans ho, hr, own_only h.2.2.1 ho h0, fun j u hj => by
    obtain ⟨C, l, c, e, hl, hb, hf⟩ := h.2.2.2 j u hj
    exact ⟨C, l, c, e, hl, hb, hf.rd h.2.1 ho⟩⟩
theorem MxSt.new {w0 w w' : World} {rb b n : Nat} {v : Value} {rs : List Value} (h : MxSt w0 w rb b n v rs) (hn : New w w') : MxSt w0 w' rb b n v rs :=
  ⟨h.1.trans (Only.of_new hn), h.2.1.keep hn, own_new h.2.2.1 hn, fun j u hj => by
    obtain ⟨C, l, c, e, hl, hb, hf⟩ := h.2.2.2 j u hj
    exact ⟨C, l, c, e, hl, hb, hf.keep hn⟩⟩
theorem MxSt.le {w0 w : World} {rb b b' n : Nat} {v : Value} {rs : List Value} (h : MxSt w0 w rb b n v rs) (hb : b ≤ b') : MxSt w0 w rb b' n v rs := ⟨h.1, h.2.1.le hb, h.2.2⟩
theorem MxSt.push {w0 w w' : World} {rb b n : Nat} {v v' : Value} {rs : List Value} {C : Option Addr} {l : List Int} {c : Nat} (h : MxSt w0 w rb b n v rs) (h0 : rb < w0.heap.size) (hl : l.length = n) (hcb : ∀ p, C = some p → w0.heap.size ≤ p.block) (hf : FI w C l)
    (hown : w'.ownsRow w0.heap.size 64 1 v' (rs.length + 1) (rs ++ [Value.slice C l.length c])) (hg : w.grownBy w' v.ownBlock) : MxSt w0 w' rb b n v' (rs ++ [Value.slice C l.length c]) := by
  obtain ⟨a, r, o, q⟩ := h
  have hb : ∀ k, v.ownBlock = some k → w0.heap.size ≤ k := fun k hk => (o.lt k hk).1
  refine ⟨a.grown hg hb, ?_, by rw [List.length_append, List.length_singleton]; exact hown, fun j u hj => ?_⟩
  · rcases hv : v.ownBlock with _ | k
    · exact r.keep (New.grown (New.refl w) hg (fun k hk => by rw [hv] at hk; cases hk))
    · rw [hv] at hg
      exact r.only (show Only k w w' from hg) (by have := hb k hv; omega)
  · rcases Nat.lt_or_ge j rs.length with h1 | h1
    · rw [List.getElem?_append_left h1] at hj
      obtain ⟨C', l', c', e, hl', hb', hf'⟩ := q j u hj
      exact ⟨C', l', c', e, hl', hb', hf'.grown o (by decide) hg⟩
    · rw [List.getElem?_append_right h1] at hj
      rcases Nat.eq_or_lt_of_le h1 with h2 | h2
      · subst h2
        simp at hj
        exact ⟨C, l, c, hj.symm, hl, hcb, hf.grown o (by decide) hg⟩
      · rw [List.getElem?_eq_none (by simp; omega)] at hj; cases hj
/-- A store of a row. -/
theorem MxSt.set {w0 w : World} {rb b n g cap k : Nat} {rs : List Value} {C : Option Addr} {l : List Int} {c : Nat} (h : MxSt w0 w rb b n (.slice (some ⟨g, 0, none⟩) rs.length cap) rs) (h0 : rb < w0.heap.size) (hk : k < rs.length) (hl : l.length = n) (hcb : ∀ p, C = some p → w0.heap.size ≤ p.block) (hf : FI w C l) :
    MxSt w0 (w.setCell ⟨g, k, none⟩ (Value.slice C l.length c)) rb b n (.slice (some ⟨g, 0, none⟩) rs.length cap) (rs.set k (Value.slice C l.length c)) := by
  obtain ⟨a, r, o, q⟩ := h
  have hgb : w0.heap.size ≤ g := (o.lt g rfl).1
  have hff : ∀ C' l', FI w C' l' → FI (w.setCell ⟨g, k, none⟩ (Value.slice C l.length c)) C' l' := fun C' l' hf' => by
    rcases hf' with h1 | ⟨g', e, hI⟩
    · exact .inl h1
    · exact .inr ⟨g', e, hI.far (fun e2 => own_ne o hI (by decide) (by simp only at e2; rw [e2]; rfl)) _⟩
  refine ⟨a.setNew hgb _, r.far (by show rb < g; omega) _, ?_, fun j u hj => ?_⟩
  · rcases o.2 with ⟨e, _⟩ | ⟨g', cap', cur, e, hg, hh, hc, hm, hs, ht⟩
    · cases e
    · cases e
      have hh2 : Has w g cur 64 := hh
      refine ⟨by rw [List.length_set]; exact o.1, .inr ⟨g, cap, cur.setIfInBounds k (Value.slice C l.length c), by rw [List.length_set], hg, hh2.set k _, by rw [List.length_set]; exact hc, hm, by simpa using hs, ?_⟩⟩
      rw [List.length_set, Array.toList_setIfInBounds, List.take_set, ht]
  · rw [List.getElem?_set] at hj
    split at hj
    · simp at hj
      exact ⟨C, l, c, (by first | exact hj.symm | exact hj.2.symm), hl, hcb, hff C l hf⟩
    · obtain ⟨C', l', c', e, hl', hb', hf'⟩ := q j u hj
      exact ⟨C', l', c', e, hl', hb', hff C' l' hf'⟩
/-- A store of an int into a row. -/
theorem MxSt.put {w0 w : World} {rb b n gC k : Nat} {x : Int} {v : Value} {rs : List Value} {l0 : List Int} (h : MxSt w0 w rb b n v rs) (h0 : rb < w0.heap.size) (hg : w0.heap.size ≤ gC) (hI0 : Ints w gC l0) : MxSt w0 (w.setCell ⟨gC, k, none⟩ (.int .i64 x)) rb b n v rs := by
  obtain ⟨a, r, o, q⟩ := h
  refine ⟨a.setNew hg _, r.far (by show rb < gC; omega) _, own_far o ((Only.refl gC w).setCell rfl _) (fun k hk e => own_ne o hI0 (by decide) (by rw [hk]; exact e.symm)), fun j u hj => ?_⟩
  obtain ⟨C', l', c', e, hl', hb', hf'⟩ := q j u hj
  rcases hf' with h1 | ⟨g', e', hI⟩
  · exact ⟨C', l', c', e, hl', hb', .inl h1⟩
  · by_cases hgg : g' = gC
    · subst hgg
      exact ⟨C', l'.set k x, c', by rw [List.length_set]; exact e, by rw [List.length_set]; exact hl', hb', .inr ⟨g', e', hI.set k x⟩⟩
    · exact ⟨C', l', c', e, hl', hb', .inr ⟨g', e', hI.far hgg _⟩⟩
end Go.Proofs.YtmdeekojioeomaaDoor
