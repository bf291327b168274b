/- What the readers of texts ask of the library's variables; the contracts of strings.Cut, strings.Split and strconv.Atoi under it. -/
import Derived.Test.YtmdeekojioeomaaDoorRdD
namespace Go.Proofs.YtmdeekojioeomaaDoor
open Go.RowKit
set_option linter.all false
theorem txt_ne {a b : ByteArray} (h : a ≠ b) : (a.toList == b.toList) = false := by
  rw [ByteArray.toList_eq, ByteArray.toList_eq]
  cases hb : (a.data.toList == b.data.toList)
  · rfl
  · exact absurd (bs_inj (by simpa using hb)) h
theorem txt_some {a : ByteArray} (h : a ≠ ⟨#[]⟩) : a.toList.isEmpty = false := by
  rw [ByteArray.toList_eq]
  cases hb : a.data.toList with
  | nil => exact absurd (bs_inj (a := a) (b := ⟨#[]⟩) hb) h
  | cons _ _ => rfl
theorem var_keep {P : Program} {w w' : World} {n : String} {cs : Array Value} (h : w.var? P n = some cs) (hb : New w w') : w'.var? P n = some cs := by
  unfold World.var? at h ⊢
  cases hg : P.globalNamed n with
  | none => simp [hg] at h
  | some g =>
    rw [hg] at h
    simp only [Option.bind_some] at h ⊢
    have hlt : g < w.heap.size := by
      rcases Nat.lt_or_ge g w.heap.size with h' | h'
      · exact h'
      · rw [Array.getElem?_eq_none h'] at h; cases h
    rw [Below.block hb g hlt]
    exact h
/-- The variables of the library as the readers want them: the table of powers, some number in bytealg.MaxLen, errors in the two sentinels. -/
structure Env (w : World) : Prop where
  tab : Tab w
  len : ∃ m, w.cell? ⟨0, 0, none⟩ = some (.int .i64 m)
  syn : ∃ tp p, w.var? Tryd.prog "strconv.ErrSyntax" = some #[.iface tp p]
  rng : ∃ tp p, w.var? Tryd.prog "strconv.ErrRange" = some #[.iface tp p]
theorem Env.keep {w w' : World} (h : Env w) (hn : New w w') : Env w' :=
  ⟨h.tab.keep hn, by
    obtain ⟨m, hm⟩ := h.len
    exact ⟨m, (New.cell hn (p := ⟨0, 0, none⟩) (World.block_lt_of_cell? w ⟨0, 0, none⟩ hm)).trans hm⟩, by
    obtain ⟨tp, p, hp⟩ := h.syn
    exact ⟨tp, p, var_keep hp hn⟩, by
    obtain ⟨tp, p, hp⟩ := h.rng
    exact ⟨tp, p, var_keep hp hn⟩⟩
theorem bytesWorld_new (w : World) (e : TypeId) (s : ByteArray) : New w (Lib.bytesWorld w e s) := by
  have h : New w (w.drew.alloc (.cells (Lib.bytesCells w e s) e)) := (New.refl w).drew.alloc _
  unfold Lib.bytesWorld
  refine ⟨h.os, h.tape, h.output, ?_, fun i hi => ?_⟩
  · have := h.size
    simpa [World.freeze] using this
  · rw [← h.block i hi]
    simp [World.freeze, Array.getElem?_modify]
    omega
theorem cut_any (s sep : ByteArray) (w : World) (hE : Env w) (hs : s.size < 4294967281) :
    Calls Tryd.prog 30 #[.string s, .string sep] w fun e w' => e = .returned (.tuple #[.string ⟨(Lib.cut (bs s) (bs sep)).1.toArray⟩, .string ⟨(Lib.cut (bs s) (bs sep)).2.1.toArray⟩, .bool (Lib.cut (bs s) (bs sep)).2.2]) ∧ New w w' := by
  obtain ⟨m, hm⟩ := hE.len
  refine (Tryd.strings_Cut s sep m w hs hm).mono ?_
  rintro e w' ⟨rfl, n, rfl⟩
  exact ⟨rfl, (New.refl w).drewN n⟩
theorem split_any (s : ByteArray) (c : UInt8) (w : World) (hE : Env w) (hs : s.size < 4294967281) :
    Calls Tryd.prog 31 #[.string s, .string ⟨#[c]⟩] w fun e w' => ∃ g, e = .returned (.slice (some ⟨g, 0, none⟩) (Lib.countB s ⟨#[c]⟩ + 1) (Lib.countB s ⟨#[c]⟩ + 1)) ∧ Has w' g ((Lib.splitB ⟨#[c]⟩ 0 (Lib.countB s ⟨#[c]⟩) s).map Value.string).toArray 9 ∧ New w w' := by
  obtain ⟨m, hm⟩ := hE.len
  refine (Tryd.strings_Split s ⟨#[c]⟩ m w hs hm (Nat.le_refl 1)).mono ?_
  rintro e w' ⟨rfl, rfl⟩
  exact ⟨_, rfl, Has.new _ _ _, (by repeat (first | with_reducible exact New.refl _ | with_reducible assumption | with_reducible refine New.alloc ?_ _ | with_reducible refine New.drewN ?_ _ | with_reducible refine New.drew ?_ | with_reducible refine New.setCell ?_ (by first | omega | (simp; done) | (simp; omega)) _ | with_reducible refine New.tail (by assumption) ?_))⟩
theorem atoi_any (s : ByteArray) (w : World) (hE : Env w) (hs : s.size ≤ 281474976710656) :
    Calls Tryd.prog 32 #[.string s] w fun e w' => New w w' ∧
      ((∃ v, Lib.atoiAll (bs s) = .ok v ∧ e = .returned (.tuple #[.int .i64 v, .nilIface])) ∨
       ((∀ v, Lib.atoiAll (bs s) ≠ .ok v) ∧ ∃ (x : Int) (tp : TypeId) (N : Nat), e = .returned (.tuple #[.int .i64 x, .iface tp (.pointer (some ⟨N, 0, none⟩))]))) := by
  cases h : Lib.atoiAll (bs s)
  case ok v =>
    refine (Tryd.strconv_Atoi_ok s (by omega) v h w).mono ?_
    rintro e w' ⟨rfl, rfl | ⟨t, rfl⟩⟩
    · exact ⟨New.refl _, Or.inl ⟨v, rfl, rfl⟩⟩
    · exact ⟨bytesWorld_new _ _ _, Or.inl ⟨v, rfl, rfl⟩⟩
  case range =>
    obtain ⟨tp, p, hp⟩ := hE.rng
    refine (Tryd.strconv_Atoi_range_var s hs h tp p w hp).mono ?_
    rintro e w' ⟨N, rfl, -, -, hb⟩
    exact ⟨hb, Or.inr ⟨(fun v hv => by cases hv), _, _, N, rfl⟩⟩
  · obtain ⟨tp, p, hp⟩ := hE.syn
    refine Calls.mono (Go.Proofs.Any.strconv_Atoi_syntax_var Tryd.laysC172 s hs h tp p w hp) ?_
    rintro e w' ⟨N, rfl, -, -, hb⟩
    exact ⟨hb, Or.inr ⟨(fun v hv => by cases hv), _, _, N, rfl⟩⟩
end Go.Proofs.YtmdeekojioeomaaDoor
