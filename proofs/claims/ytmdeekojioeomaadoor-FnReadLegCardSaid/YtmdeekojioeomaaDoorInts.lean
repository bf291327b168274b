/- Slices of ints in memory; contracts of ownParts, joinParts, countParts and of the laws' helpers on them. -/
import Derived.Test.YtmdeekojioeomaaDoorSurv
namespace Go.Proofs.YtmdeekojioeomaaDoor
open Go.RowKit
set_option linter.all false
/-- Only block g, and what is new, has turned. -/
def Only (g : Nat) (w w' : World) : Prop := w.grownBy w' (some g)
theorem Only.refl (g : Nat) (w : World) : Only g w w := ⟨rfl, rfl, rfl, Nat.le_refl _, fun _ _ _ => rfl⟩
theorem Only.trans {g : Nat} {a b c : World} (h : Only g a b) (k : Only g b c) : Only g a c :=
  ⟨k.os.trans h.os, k.tape.trans h.tape, k.output.trans h.output, Nat.le_trans h.size k.size, fun i hi hne => (k.block i (Nat.lt_of_lt_of_le hi h.size) hne).trans (h.block i hi hne)⟩
theorem Only.of_new {g : Nat} {a b : World} (h : New a b) : Only g a b := ⟨h.os, h.tape, h.output, h.size, fun i hi _ => h.block i hi⟩
theorem Only.drew {g : Nat} {a b : World} (h : Only g a b) : Only g a b.drew := ⟨h.os, h.tape, h.output, h.size, h.block⟩
theorem Only.alloc {g : Nat} {a b : World} (h : Only g a b) (o : Obj) : Only g a (b.alloc o) := h.trans (Only.of_new ((New.refl b).alloc o))
theorem Only.setCell {g : Nat} {a b : World} (h : Only g a b) {p : Addr} (hp : p.block = g) (u : Value) : Only g a (b.setCell p u) :=
  h.trans ⟨rfl, rfl, rfl, by simp [World.setCell], fun i _ hne => Below.heap_setCell b p u i (fun e => hne (by rw [e, hp]))⟩
theorem New.only {a w w' : World} {g : Nat} (h : New a w) (ho : Only g w w') (hg : a.heap.size ≤ g) : New a w' := New.grown h ho (fun k hk => by cases hk; exact hg)
theorem Has.only {W w' : World} {b g : Nat} {cs : Array Value} {T : TypeId} (h : Has W b cs T) (ho : Only g W w') (hne : b ≠ g) : Has w' b cs T := (ho.block b h.lt (by simpa using hne)).trans h
theorem LegBlk.only {W w' : World} {b g : Nat} {L : List Lg} (h : LegBlk W b L) (ho : Only g W w') (hne : b ≠ g) : LegBlk w' b L := by
  obtain ⟨cs, h1, h2⟩ := h
  exact ⟨cs, h1.only ho hne, h2⟩
/-- Only writes to blocks from B on: what came before B is as it was. -/
theorem Only.below {g : Nat} {w w' : World} (ho : Only g w w') {B : Nat} (hg : B ≤ g) (hB : B ≤ w.heap.size) : Below B w w' := ⟨ho.os, ho.tape, ho.output, ho.size, fun k hk => ho.block k (by omega) (by intro e; cases e; omega)⟩

/-- The first cells of block g are these ints. -/
def Ints (w : World) (g : Nat) (l : List Int) : Prop := ∃ cs : Array Value, Has w g cs 3 ∧ l.length ≤ cs.size ∧ ∀ (k : Nat) (x : Int), l[k]? = some x → cs[k]? = some (.int .i64 x)
theorem Ints.keep {w w' : World} {g : Nat} {l : List Int} (h : Ints w g l) (hn : New w w') : Ints w' g l := by
  obtain ⟨cs, h1, h2⟩ := h
  exact ⟨cs, h1.keep hn, h2⟩
theorem Ints.lt {w : World} {g : Nat} {l : List Int} (h : Ints w g l) : g < w.heap.size := by
  obtain ⟨cs, h1, h2⟩ := h
  exact h1.lt
theorem Ints.far {w : World} {g : Nat} {l : List Int} (h : Ints w g l) {p : Addr} (hp : g ≠ p.block) (v : Value) : Ints (w.setCell p v) g l := by
  obtain ⟨cs, h1, h2⟩ := h
  exact ⟨cs, h1.far hp v, h2⟩
theorem Ints.only {W w' : World} {b g : Nat} {l : List Int} (h : Ints W b l) (ho : Only g W w') (hne : b ≠ g) : Ints w' b l := by
  obtain ⟨cs, h1, h2⟩ := h
  exact ⟨cs, h1.only ho hne, h2⟩
theorem Ints.grown {W w' : World} {b : Nat} {l : List Int} {row : Option Nat} (h : Ints W b l) (ho : W.grownBy w' row) (hne : row ≠ some b) : Ints w' b l := by
  obtain ⟨cs, h1, h2⟩ := h
  exact ⟨cs, (ho.block b h1.lt (fun e => hne e.symm)).trans h1, h2⟩
theorem Ints.cell {w : World} {g : Nat} {l : List Int} (h : Ints w g l) {k : Nat} {x : Int} (hk : l[k]? = some x) : ∀ w', New w w' → w'.cell? ⟨g, k, none⟩ = some (.int .i64 x) := by
  obtain ⟨cs, h1, h2, h3⟩ := h
  intro w' hn
  rw [h1.cells k w' hn, h3 k x hk]
theorem Ints.free {w : World} {g : Nat} {l : List Int} (h : Ints w g l) : ∀ (k : Nat) (w' : World), New w w' → w'.frozen? ⟨g, k, none⟩ = false := by
  obtain ⟨cs, h1, h2, h3⟩ := h
  exact fun k => h1.frees k
theorem Ints.set {w : World} {g : Nat} {l : List Int} (h : Ints w g l) (k : Nat) (x : Int) : Ints (w.setCell ⟨g, k, none⟩ (.int .i64 x)) g (l.set k x) := by
  obtain ⟨cs, h1, h2, h3⟩ := h
  refine ⟨_, h1.set k _, by simpa using h2, fun j y hj => ?_⟩
  rw [List.getElem?_set] at hj
  rw [Array.getElem?_setIfInBounds]
  by_cases hkj : k = j
  · subst hkj
    rw [if_pos rfl] at hj
    rw [if_pos rfl]
    split at hj
    · simp at hj; subst hj; rw [if_pos (by omega)]
    · cases hj
  · rw [if_neg hkj] at hj
    rw [if_neg hkj]
    exact h3 j y hj
theorem Ints.of_own {w : World} {base : Nat} {v : Value} {n : Nat} {l : List Int} (h : w.ownsRow base 3 1 v n (l.map (Value.int .i64))) :
    n = l.length ∧ ((v = .slice none 0 0 ∧ l = []) ∨ ∃ g cap, v = .slice (some ⟨g, 0, none⟩) l.length cap ∧ base ≤ g ∧ Ints w g l) := by
  obtain ⟨h1, h2⟩ := h
  have hn : n = l.length := by simpa using h1.symm
  subst hn
  refine ⟨rfl, ?_⟩
  rcases h2 with ⟨e, h0⟩ | ⟨g, cap, cur, e, hg, hh, hc, hm, hs, ht⟩
  · exact .inl ⟨e, List.eq_nil_of_length_eq_zero h0⟩
  · refine .inr ⟨g, cap, e, hg, cur, hh, by rw [hs]; omega, fun k x hk => ?_⟩
    have hkl := (List.getElem?_eq_some_iff.1 hk).1
    have e1 : (cur.toList.take (l.length * 1))[k]? = some (.int .i64 x) := by rw [ht, List.getElem?_map, hk]; rfl
    rw [List.getElem?_take, if_pos (by omega)] at e1
    simpa using e1
theorem own_new {w w' : World} {base : Nat} {e : TypeId} {size n : Nat} {v : Value} {xs : List Value} (h : w.ownsRow base e size v n xs) (hn : New w w') : w'.ownsRow base e size v n xs :=
  h.kept (row := none) ⟨hn.os, hn.tape, hn.output, hn.size, fun k hk _ => hn.block k hk⟩ (by
    rcases h.2 with ⟨e, _⟩ | ⟨g, cap, cur, e, _⟩
    · exact .inl (by rw [e]; rfl)
    · exact .inr (by rw [e]; simp [Value.ownBlock]))
/-- The slice at A reads as these ints. -/
def IntsAt (w : World) (A : Option Addr) (l : List Int) : Prop :=
  l ≠ [] → ∃ b off, A = some ⟨b, off, none⟩ ∧ b < w.heap.size ∧ ∀ (k : Nat) (x : Int), l[k]? = some x → w.cell? ⟨b, off + k, none⟩ = some (.int .i64 x)
theorem Ints.reads {w : World} {g : Nat} {l : List Int} (h : Ints w g l) : IntsAt w (some ⟨g, 0, none⟩) l :=
  fun _ => ⟨g, 0, rfl, h.lt, fun k x hk => by rw [Nat.zero_add]; exact h.cell hk w (New.refl w)⟩
theorem IntsAt.keep {w w' : World} {A : Option Addr} {l : List Int} (h : IntsAt w A l) (hn : New w w') : IntsAt w' A l := fun hne => by
  obtain ⟨b, off, e, hb, hc⟩ := h hne
  exact ⟨b, off, e, Nat.lt_of_lt_of_le hb hn.size, fun k x hk => (New.cell hn (p := ⟨b, off + k, none⟩) hb).trans (hc k x hk)⟩
theorem IntsAt.at_ {w : World} {A : Option Addr} {l : List Int} (h : IntsAt w A l) {k : Nat} (hk : k < l.length) : ∃ b off x, A = some ⟨b, off, none⟩ ∧ l[k] = x ∧ ∀ w', New w w' → w'.cell? ⟨b, off + k, none⟩ = some (.int .i64 x) := by
  obtain ⟨b, off, e, hb, hc⟩ := h (by intro h0; subst h0; simp at hk)
  exact ⟨b, off, _, e, rfl, fun w' hn => (New.cell hn (p := ⟨b, off + k, none⟩) hb).trans (hc k _ (List.getElem?_eq_getElem hk))⟩
theorem infoInt : (Tryd.prog.info? 3).map (fun i => (i.zero, i.size, i.bytes)) = some (some (.int .i64 0), 1, 8) := by kernel_rfl
theorem makeInts (n : Nat) (hn : n ≤ 1099511627776) : ∀ w : World, (Instr.makeSlice 64 (.int .i64 (n : Int)) (.int .i64 (n : Int))).run Tryd.prog w =
    .ok (.slice (some ⟨w.heap.size, 0, none⟩) n n) (w.alloc (.cells (madeCells #[.int .i64 0] n) 3)) := by
  intro w
  obtain ⟨i0, hi, hz, hs, hb⟩ := info_parts infoInt
  have h := run_make (P := Tryd.prog) w 64 3 i0 _ Tryd.underlying64 hi hz .i64 .i64 n n (by omega) (by omega) (by rw [hb]; omega) (by omega)
  rw [hs, Nat.mul_one] at h
  simp only [Int.toNat_natCast] at h
  exact h
theorem Ints.made (w : World) (n : Nat) : Ints (w.alloc (.cells (madeCells #[.int .i64 0] n) 3)) w.heap.size (List.replicate n 0) :=
  ⟨_, Has.new _ _ _, by rw [size_madeCells]; simp, fun k x hk => by
    rw [List.getElem?_replicate] at hk
    split at hk
    · rename_i hkn
      simp at hk; subst hk
      rw [← Array.getElem?_toList, toList_madeCells_one, List.getElem?_replicate, if_pos hkn]
    · cases hk⟩
end Go.Proofs.YtmdeekojioeomaaDoor
