/- Drawn surveys: what each law draws. -/
import Derived.Test.YtgcloaimolajjaaDoorDrawS
namespace Go.Proofs.YtgcloaimolajjaaDoor
open Go.RowKit
set_option linter.all false
/-- A store into a block of two cells: legs lie elsewhere. -/
theorem LegsAt.far2 {w : World} {A : Option Addr} {L : List Lg} {b : Nat} {x0 x1 : Value} {T : TypeId} (h : LegsAt w A L) (hh : Has w b #[x0, x1] T) (i : Nat) (v : Value) : LegsAt (w.setCell ⟨b, i, none⟩ v) A L := fun hne => by
  have h2 := h hne
  refine LegsAt.far h (fun p hp => ?_) v hne
  obtain ⟨b', off, e, hb, hc⟩ := h2
  rw [e] at hp
  cases hp
  intro hbb
  simp only at hbb
  subst hbb
  cases L with
  | nil => exact hne rfl
  | cons q L =>
    have := (hc 0 q rfl).2.2.2.2
    rw [hh.cells _ w (New.refl w)] at this
    rw [Array.getElem?_eq_none (by simp)] at this
    cases this
set_option maxHeartbeats 1000000 in
theorem drawSurveyValid_any (A : Option Addr) (n cap : Nat) (w : World) (hB : Bytes w A n) (hc : n ≤ cap) (hn : n ≤ maxLen) :
    Calls Tryd.prog 15 #[.slice A n cap] w fun r w' => ∃ (st : Int) (B : Option Addr) (L : List Lg) (cp : Nat), r = .returned (.agg #[.int .i64 st, .slice B L.length cp]) ∧ (L.length ≤ cp ∧ 0 ≤ st ∧ st ≤ 7 ∧ L.length ≤ 10 ∧ ∀ q ∈ L, smL q) ∧ LegsAt w' B L ∧ New w w' := by
  have h1 := Has.new w #[.int .i64 0, .slice none 0 0] 25
  have hk : New w (w.alloc (Obj.cells #[.int .i64 0, .slice none 0 0] 25)) := (by repeat (first | with_reducible exact New.refl _ | with_reducible assumption | with_reducible refine New.alloc ?_ _ | with_reducible refine New.drewN ?_ _ | with_reducible refine New.drew ?_ | with_reducible refine New.setCell ?_ (by first | omega | (simp; done) | (simp; omega)) _ | with_reducible refine New.tail (by assumption) ?_))
  go_enter Tryd.func15, Tryd.ntmps15
  go_wp2_with fail
  generalize (w.alloc (Obj.cells #[.int .i64 0, .slice none 0 0] 25)) = W0 at *
  refine (l20Open_any A n cap _ (hB.keep hk) hc hn).mono ?_
  rintro e w1 ⟨rfl, hn1, hr1⟩
  have h3 := h1.keep hn1
  have hlt := h1.lt
  go_wp2_with fail
  refine (l20Survey_any _ _ _ _ hr1 (by omega) (by omega)).mono ?_
  rintro e w2 ⟨st, B, L, cp, rfl, hbd, hL, ho, -⟩
  have hk1 := hk.trans (hn1.onlyTo ho (Nat.le_refl _))
  have h4 := h3.only ho (by omega)
  have c4 := h4.at2
  clear hn1 h3 ho hr1
  go_wp2_with fail
  exact bodyPost_ret (v := .agg #[.int .i64 st, .slice B L.length cp]) (by simp [results, Tryd.results15, go_sem, (h4.set2 (y0 := .int .i64 st) (y1 := .slice B L.length cp)).at2]) rfl ⟨st, B, L, cp, rfl, hbd, (hL.far2 h4 0 _).far2 (by simpa using h4.set 0 (.int .i64 st)) 1 _, (by repeat (first | with_reducible exact New.refl _ | with_reducible assumption | with_reducible refine New.alloc ?_ _ | with_reducible refine New.drewN ?_ _ | with_reducible refine New.drew ?_ | with_reducible refine New.setCell ?_ (by first | omega | (simp; done) | (simp; omega)) _ | with_reducible refine New.tail (by assumption) ?_))⟩
set_option maxHeartbeats 1000000 in
theorem drawParts_any (A : Option Addr) (n cap : Nat) (w : World) (hB : Bytes w A n) (hc : n ≤ cap) (hn : n ≤ maxLen) :
    Calls Tryd.prog 19 #[.slice A n cap] w fun r w' => ∃ (st : Int) (B : Option Addr) (L : List Lg) (cp : Nat), r = .returned (.agg #[.int .i64 st, .slice B L.length cp]) ∧ (L.length ≤ cp ∧ 0 ≤ st ∧ st ≤ 7 ∧ L.length ≤ 10 ∧ ∀ q ∈ L, smL q) ∧ LegsAt w' B L ∧ New w w' := by
  have h1 := Has.new w #[.int .i64 0, .slice none 0 0] 25
  have hk : New w (w.alloc (Obj.cells #[.int .i64 0, .slice none 0 0] 25)) := (by repeat (first | with_reducible exact New.refl _ | with_reducible assumption | with_reducible refine New.alloc ?_ _ | with_reducible refine New.drewN ?_ _ | with_reducible refine New.drew ?_ | with_reducible refine New.setCell ?_ (by first | omega | (simp; done) | (simp; omega)) _ | with_reducible refine New.tail (by assumption) ?_))
  go_enter Tryd.func19, Tryd.ntmps19
  go_wp2_with fail
  generalize (w.alloc (Obj.cells #[.int .i64 0, .slice none 0 0] 25)) = W0 at *
  refine (l20Open_any A n cap _ (hB.keep hk) hc hn).mono ?_
  rintro e w1 ⟨rfl, hn1, hr1⟩
  have h3 := h1.keep hn1
  have hlt := h1.lt
  go_wp2_with fail
  refine (l20Survey_any _ _ _ _ hr1 (by omega) (by omega)).mono ?_
  rintro e w2 ⟨st, B, L, cp, rfl, hbd, hL, ho, -⟩
  have hk1 := hk.trans (hn1.onlyTo ho (Nat.le_refl _))
  have h4 := h3.only ho (by omega)
  have c4 := h4.at2
  clear hn1 h3 ho hr1
  go_wp2_with fail
  exact bodyPost_ret (v := .agg #[.int .i64 st, .slice B L.length cp]) (by simp [results, Tryd.results19, go_sem, (h4.set2 (y0 := .int .i64 st) (y1 := .slice B L.length cp)).at2]) rfl ⟨st, B, L, cp, rfl, hbd, (hL.far2 h4 0 _).far2 (by simpa using h4.set 0 (.int .i64 st)) 1 _, (by repeat (first | with_reducible exact New.refl _ | with_reducible assumption | with_reducible refine New.alloc ?_ _ | with_reducible refine New.drewN ?_ _ | with_reducible refine New.drew ?_ | with_reducible refine New.setCell ?_ (by first | omega | (simp; done) | (simp; omega)) _ | with_reducible refine New.tail (by assumption) ?_))⟩
set_option maxHeartbeats 1000000 in
theorem drawPartsMany_any (A : Option Addr) (n cap : Nat) (w : World) (hB : Bytes w A n) (hc : n ≤ cap) (hn : n ≤ maxLen) :
    Calls Tryd.prog 26 #[.slice A n cap] w fun r w' => ∃ (st : Int) (B : Option Addr) (L : List Lg) (cp : Nat), r = .returned (.agg #[.int .i64 st, .slice B L.length cp]) ∧ (L.length ≤ cp ∧ 0 ≤ st ∧ st ≤ 7 ∧ L.length ≤ 10 ∧ ∀ q ∈ L, smL q) ∧ LegsAt w' B L ∧ New w w' := by
  have h1 := Has.new w #[.int .i64 0, .slice none 0 0] 25
  have hk : New w (w.alloc (Obj.cells #[.int .i64 0, .slice none 0 0] 25)) := (by repeat (first | with_reducible exact New.refl _ | with_reducible assumption | with_reducible refine New.alloc ?_ _ | with_reducible refine New.drewN ?_ _ | with_reducible refine New.drew ?_ | with_reducible refine New.setCell ?_ (by first | omega | (simp; done) | (simp; omega)) _ | with_reducible refine New.tail (by assumption) ?_))
  go_enter Tryd.func26, Tryd.ntmps26
  go_wp2_with fail
  generalize (w.alloc (Obj.cells #[.int .i64 0, .slice none 0 0] 25)) = W0 at *
  refine (l20Open_any A n cap _ (hB.keep hk) hc hn).mono ?_
  rintro e w1 ⟨rfl, hn1, hr1⟩
  have h3 := h1.keep hn1
  have hlt := h1.lt
  go_wp2_with fail
  refine (l20Survey_any _ _ _ _ hr1 (by omega) (by omega)).mono ?_
  rintro e w2 ⟨st, B, L, cp, rfl, hbd, hL, ho, -⟩
  have hk1 := hk.trans (hn1.onlyTo ho (Nat.le_refl _))
  have h4 := h3.only ho (by omega)
  have c4 := h4.at2
  clear hn1 h3 ho hr1
  go_wp2_with fail
  exact bodyPost_ret (v := .agg #[.int .i64 st, .slice B L.length cp]) (by simp [results, Tryd.results26, go_sem, (h4.set2 (y0 := .int .i64 st) (y1 := .slice B L.length cp)).at2]) rfl ⟨st, B, L, cp, rfl, hbd, (hL.far2 h4 0 _).far2 (by simpa using h4.set 0 (.int .i64 st)) 1 _, (by repeat (first | with_reducible exact New.refl _ | with_reducible assumption | with_reducible refine New.alloc ?_ _ | with_reducible refine New.drewN ?_ _ | with_reducible refine New.drew ?_ | with_reducible refine New.setCell ?_ (by first | omega | (simp; done) | (simp; omega)) _ | with_reducible refine New.tail (by assumption) ?_))⟩
set_option maxHeartbeats 1000000 in
theorem drawLoopsMany_any (A : Option Addr) (n cap : Nat) (w : World) (hB : Bytes w A n) (hc : n ≤ cap) (hn : n ≤ maxLen) :
    Calls Tryd.prog 29 #[.slice A n cap] w fun r w' => ∃ (st : Int) (B : Option Addr) (L : List Lg) (cp : Nat), r = .returned (.agg #[.int .i64 st, .slice B L.length cp]) ∧ (L.length ≤ cp ∧ 0 ≤ st ∧ st ≤ 7 ∧ L.length ≤ 10 ∧ ∀ q ∈ L, smL q) ∧ LegsAt w' B L ∧ New w w' := by
  have h1 := Has.new w #[.int .i64 0, .slice none 0 0] 25
  have hk : New w (w.alloc (Obj.cells #[.int .i64 0, .slice none 0 0] 25)) := (by repeat (first | with_reducible exact New.refl _ | with_reducible assumption | with_reducible refine New.alloc ?_ _ | with_reducible refine New.drewN ?_ _ | with_reducible refine New.drew ?_ | with_reducible refine New.setCell ?_ (by first | omega | (simp; done) | (simp; omega)) _ | with_reducible refine New.tail (by assumption) ?_))
  go_enter Tryd.func29, Tryd.ntmps29
  go_wp2_with fail
  generalize (w.alloc (Obj.cells #[.int .i64 0, .slice none 0 0] 25)) = W0 at *
  refine (l20Open_any A n cap _ (hB.keep hk) hc hn).mono ?_
  rintro e w1 ⟨rfl, hn1, hr1⟩
  have h3 := h1.keep hn1
  have hlt := h1.lt
  go_wp2_with fail
  refine (l20Survey_any _ _ _ _ hr1 (by omega) (by omega)).mono ?_
  rintro e w2 ⟨st, B, L, cp, rfl, hbd, hL, ho, -⟩
  have hk1 := hk.trans (hn1.onlyTo ho (Nat.le_refl _))
  have h4 := h3.only ho (by omega)
  have c4 := h4.at2
  clear hn1 h3 ho hr1
  go_wp2_with fail
  exact bodyPost_ret (v := .agg #[.int .i64 st, .slice B L.length cp]) (by simp [results, Tryd.results29, go_sem, (h4.set2 (y0 := .int .i64 st) (y1 := .slice B L.length cp)).at2]) rfl ⟨st, B, L, cp, rfl, hbd, (hL.far2 h4 0 _).far2 (by simpa using h4.set 0 (.int .i64 st)) 1 _, (by repeat (first | with_reducible exact New.refl _ | with_reducible assumption | with_reducible refine New.alloc ?_ _ | with_reducible refine New.drewN ?_ _ | with_reducible refine New.drew ?_ | with_reducible refine New.setCell ?_ (by first | omega | (simp; done) | (simp; omega)) _ | with_reducible refine New.tail (by assumption) ?_))⟩
set_option maxHeartbeats 1000000 in
theorem drawTreeLegs_any (A : Option Addr) (n cap : Nat) (w : World) (hB : Bytes w A n) (hc : n ≤ cap) (hn : n ≤ maxLen) :
    Calls Tryd.prog 33 #[.slice A n cap] w fun r w' => ∃ (st : Int) (B : Option Addr) (L : List Lg) (cp : Nat), r = .returned (.agg #[.int .i64 st, .slice B L.length cp]) ∧ (L.length ≤ cp ∧ 0 ≤ st ∧ st ≤ 7 ∧ L.length ≤ 10 ∧ ∀ q ∈ L, smL q) ∧ LegsAt w' B L ∧ New w w' := by
  have h1 := Has.new w #[.int .i64 0, .slice none 0 0] 25
  have hk : New w (w.alloc (Obj.cells #[.int .i64 0, .slice none 0 0] 25)) := (by repeat (first | with_reducible exact New.refl _ | with_reducible assumption | with_reducible refine New.alloc ?_ _ | with_reducible refine New.drewN ?_ _ | with_reducible refine New.drew ?_ | with_reducible refine New.setCell ?_ (by first | omega | (simp; done) | (simp; omega)) _ | with_reducible refine New.tail (by assumption) ?_))
  go_enter Tryd.func33, Tryd.ntmps33
  go_wp2_with fail
  generalize (w.alloc (Obj.cells #[.int .i64 0, .slice none 0 0] 25)) = W0 at *
  refine (l20Open_any A n cap _ (hB.keep hk) hc hn).mono ?_
  rintro e w1 ⟨rfl, hn1, hr1⟩
  have h3 := h1.keep hn1
  have hlt := h1.lt
  go_wp2_with fail
  refine (l20Survey_any _ _ _ _ hr1 (by omega) (by omega)).mono ?_
  rintro e w2 ⟨st, B, L, cp, rfl, hbd, hL, ho, -⟩
  have hk1 := hk.trans (hn1.onlyTo ho (Nat.le_refl _))
  have h4 := h3.only ho (by omega)
  have c4 := h4.at2
  clear hn1 h3 ho hr1
  go_wp2_with fail
  exact bodyPost_ret (v := .agg #[.int .i64 st, .slice B L.length cp]) (by simp [results, Tryd.results33, go_sem, (h4.set2 (y0 := .int .i64 st) (y1 := .slice B L.length cp)).at2]) rfl ⟨st, B, L, cp, rfl, hbd, (hL.far2 h4 0 _).far2 (by simpa using h4.set 0 (.int .i64 st)) 1 _, (by repeat (first | with_reducible exact New.refl _ | with_reducible assumption | with_reducible refine New.alloc ?_ _ | with_reducible refine New.drewN ?_ _ | with_reducible refine New.drew ?_ | with_reducible refine New.setCell ?_ (by first | omega | (simp; done) | (simp; omega)) _ | with_reducible refine New.tail (by assumption) ?_))⟩
set_option maxHeartbeats 1000000 in
theorem drawCloses_any (A : Option Addr) (n cap : Nat) (w : World) (hB : Bytes w A n) (hc : n ≤ cap) (hn : n ≤ maxLen) :
    Calls Tryd.prog 50 #[.slice A n cap] w fun r w' => ∃ (st : Int) (B : Option Addr) (L : List Lg) (cp : Nat), r = .returned (.agg #[.int .i64 st, .slice B L.length cp]) ∧ (L.length ≤ cp ∧ 0 ≤ st ∧ st ≤ 7 ∧ L.length ≤ 10 ∧ ∀ q ∈ L, smL q) ∧ LegsAt w' B L ∧ New w w' := by
  have h1 := Has.new w #[.int .i64 0, .slice none 0 0] 25
  have hk : New w (w.alloc (Obj.cells #[.int .i64 0, .slice none 0 0] 25)) := (by repeat (first | with_reducible exact New.refl _ | with_reducible assumption | with_reducible refine New.alloc ?_ _ | with_reducible refine New.drewN ?_ _ | with_reducible refine New.drew ?_ | with_reducible refine New.setCell ?_ (by first | omega | (simp; done) | (simp; omega)) _ | with_reducible refine New.tail (by assumption) ?_))
  go_enter Tryd.func50, Tryd.ntmps50
  go_wp2_with fail
  generalize (w.alloc (Obj.cells #[.int .i64 0, .slice none 0 0] 25)) = W0 at *
  refine (l20Open_any A n cap _ (hB.keep hk) hc hn).mono ?_
  rintro e w1 ⟨rfl, hn1, hr1⟩
  have h3 := h1.keep hn1
  have hlt := h1.lt
  go_wp2_with fail
  refine (l20Survey_any _ _ _ _ hr1 (by omega) (by omega)).mono ?_
  rintro e w2 ⟨st, B, L, cp, rfl, hbd, hL, ho, -⟩
  have hk1 := hk.trans (hn1.onlyTo ho (Nat.le_refl _))
  have h4 := h3.only ho (by omega)
  have c4 := h4.at2
  clear hn1 h3 ho hr1
  go_wp2_with fail
  exact bodyPost_ret (v := .agg #[.int .i64 st, .slice B L.length cp]) (by simp [results, Tryd.results50, go_sem, (h4.set2 (y0 := .int .i64 st) (y1 := .slice B L.length cp)).at2]) rfl ⟨st, B, L, cp, rfl, hbd, (hL.far2 h4 0 _).far2 (by simpa using h4.set 0 (.int .i64 st)) 1 _, (by repeat (first | with_reducible exact New.refl _ | with_reducible assumption | with_reducible refine New.alloc ?_ _ | with_reducible refine New.drewN ?_ _ | with_reducible refine New.drew ?_ | with_reducible refine New.setCell ?_ (by first | omega | (simp; done) | (simp; omega)) _ | with_reducible refine New.tail (by assumption) ?_))⟩
end Go.Proofs.YtgcloaimolajjaaDoor
