/- Drawn steps. -/
import Derived.Test.YtgcloaimolajjaaDoorDrawR
import Derived.Test.YtgcloaimolajjaaDoorFnS
import Derived.Test.YtgcloaimolajjaaDoorStpW
namespace Go.Proofs.YtgcloaimolajjaaDoor
open Go.RowKit
set_option linter.all false
theorem l20Steps_any (rb b : Nat) (w : World) (hr : Rd w rb b) (hb : b ≤ 1000) :
    Calls Tryd.prog 70 #[.pointer (some ⟨rb, 0, none⟩)] w fun r w' => ∃ (st : Int) (B : Option Addr) (L : List Lg) (cp : Nat) (C : Option Addr) (S : List St) (c : Nat), r = .returned (.tuple #[.agg #[.int .i64 st, .slice B L.length cp], .slice C S.length c]) ∧ (L.length ≤ cp ∧ 0 ≤ st ∧ st ≤ 7 ∧ L.length ≤ 10 ∧ ∀ q ∈ L, smL q) ∧ (S.length ≤ 9 ∧ S.length ≤ c) ∧ LegsAt w' B L ∧ StepsAt w' C S ∧ (∀ p, C = some p → w.heap.size ≤ p.block) ∧ Only rb w w' := l20StepsW_any rb b w hr hb
set_option maxHeartbeats 2000000 in
theorem drawStepsOk_any (A : Option Addr) (n cap : Nat) (w : World) (hB : Bytes w A n) (hc : n ≤ cap) (hn : n ≤ maxLen) :
    Calls Tryd.prog 23 #[.slice A n cap] w fun r w' => ∃ (st : Int) (B : Option Addr) (L : List Lg) (cp : Nat) (C : Option Addr) (S : List St) (c : Nat), r = .returned (.tuple #[.agg #[.int .i64 st, .slice B L.length cp], .slice C S.length c]) ∧ (L.length ≤ cp ∧ 0 ≤ st ∧ st ≤ 7 ∧ L.length ≤ 10 ∧ ∀ q ∈ L, smL q) ∧ (S.length ≤ 9 ∧ S.length ≤ c) ∧ LegsAt w' B L ∧ StepsAt w' C S ∧ New w w' := by
  have h1 := Has.new w #[.int .i64 0, .slice none 0 0] 25
  have hk : New w (w.alloc (Obj.cells #[.int .i64 0, .slice none 0 0] 25)) := (by repeat (first | with_reducible exact New.refl _ | with_reducible assumption | with_reducible refine New.alloc ?_ _ | with_reducible refine New.drewN ?_ _ | with_reducible refine New.drew ?_ | with_reducible refine New.setCell ?_ (by first | omega | (simp; done) | (simp; omega)) _ | with_reducible refine New.tail (by assumption) ?_))
  have hlt : w.heap.size < (w.alloc (Obj.cells #[.int .i64 0, .slice none 0 0] 25)).heap.size := by simp
  go_enter Tryd.func23, Tryd.ntmps23
  go_wp2_with fail
  generalize (w.alloc (Obj.cells #[.int .i64 0, .slice none 0 0] 25)) = W0 at *
  refine (l20Open_any A n cap _ (hB.keep hk) hc hn).mono ?_
  rintro e w1 ⟨rfl, hn1, hr1⟩
  have h3 := h1.keep hn1
  have hs1 := hn1.size
  go_wp2_with fail
  refine (l20Steps_any _ _ _ hr1 (by omega)).mono ?_
  rintro e w2 ⟨st, B, L, cp, C, S, c, rfl, hbd, hS9, hL, hS, hC, ho⟩
  have hk1 := hk.trans (hn1.onlyTo ho (Nat.le_refl _))
  have h4 := h3.only ho (by omega)
  have c4 := h4.at2
  clear hn1 h3 ho hr1 h1
  go_wp2_with fail
  exact bodyPost_ret (v := .tuple #[.agg #[.int .i64 st, .slice B L.length cp], .slice C S.length c]) (by simp [results, Tryd.results23, go_sem, (h4.set2 (y0 := .int .i64 st) (y1 := .slice B L.length cp)).at2]) rfl ⟨st, B, L, cp, C, S, c, rfl, hbd, hS9, (hL.far2 h4 0 _).far2 (by simpa using h4.set 0 (.int .i64 st)) 1 _, (hS.far (x := ⟨w.heap.size, 0, none⟩) (fun p hp => by have := hC p hp; simp; omega) _).far (x := ⟨w.heap.size, 1, none⟩) (fun p hp => by have := hC p hp; simp; omega) _, (by repeat (first | with_reducible exact New.refl _ | with_reducible assumption | with_reducible refine New.alloc ?_ _ | with_reducible refine New.drewN ?_ _ | with_reducible refine New.drew ?_ | with_reducible refine New.setCell ?_ (by first | omega | (simp; done) | (simp; omega)) _ | with_reducible refine New.tail (by assumption) ?_))⟩
set_option maxHeartbeats 2000000 in
theorem drawStepsWay_any (A : Option Addr) (n cap : Nat) (w : World) (hB : Bytes w A n) (hc : n ≤ cap) (hn : n ≤ maxLen) :
    Calls Tryd.prog 53 #[.slice A n cap] w fun r w' => ∃ (st : Int) (B : Option Addr) (L : List Lg) (cp : Nat) (C : Option Addr) (S : List St) (c : Nat), r = .returned (.tuple #[.agg #[.int .i64 st, .slice B L.length cp], .slice C S.length c]) ∧ (L.length ≤ cp ∧ 0 ≤ st ∧ st ≤ 7 ∧ L.length ≤ 10 ∧ ∀ q ∈ L, smL q) ∧ (S.length ≤ 9 ∧ S.length ≤ c) ∧ LegsAt w' B L ∧ StepsAt w' C S ∧ New w w' := by
  have h1 := Has.new w #[.int .i64 0, .slice none 0 0] 25
  have hk : New w (w.alloc (Obj.cells #[.int .i64 0, .slice none 0 0] 25)) := (by repeat (first | with_reducible exact New.refl _ | with_reducible assumption | with_reducible refine New.alloc ?_ _ | with_reducible refine New.drewN ?_ _ | with_reducible refine New.drew ?_ | with_reducible refine New.setCell ?_ (by first | omega | (simp; done) | (simp; omega)) _ | with_reducible refine New.tail (by assumption) ?_))
  have hlt : w.heap.size < (w.alloc (Obj.cells #[.int .i64 0, .slice none 0 0] 25)).heap.size := by simp
  go_enter Tryd.func53, Tryd.ntmps53
  go_wp2_with fail
  generalize (w.alloc (Obj.cells #[.int .i64 0, .slice none 0 0] 25)) = W0 at *
  refine (l20Open_any A n cap _ (hB.keep hk) hc hn).mono ?_
  rintro e w1 ⟨rfl, hn1, hr1⟩
  have h3 := h1.keep hn1
  have hs1 := hn1.size
  go_wp2_with fail
  refine (l20Steps_any _ _ _ hr1 (by omega)).mono ?_
  rintro e w2 ⟨st, B, L, cp, C, S, c, rfl, hbd, hS9, hL, hS, hC, ho⟩
  have hk1 := hk.trans (hn1.onlyTo ho (Nat.le_refl _))
  have h4 := h3.only ho (by omega)
  have c4 := h4.at2
  clear hn1 h3 ho hr1 h1
  go_wp2_with fail
  exact bodyPost_ret (v := .tuple #[.agg #[.int .i64 st, .slice B L.length cp], .slice C S.length c]) (by simp [results, Tryd.results53, go_sem, (h4.set2 (y0 := .int .i64 st) (y1 := .slice B L.length cp)).at2]) rfl ⟨st, B, L, cp, C, S, c, rfl, hbd, hS9, (hL.far2 h4 0 _).far2 (by simpa using h4.set 0 (.int .i64 st)) 1 _, (hS.far (x := ⟨w.heap.size, 0, none⟩) (fun p hp => by have := hC p hp; simp; omega) _).far (x := ⟨w.heap.size, 1, none⟩) (fun p hp => by have := hC p hp; simp; omega) _, (by repeat (first | with_reducible exact New.refl _ | with_reducible assumption | with_reducible refine New.alloc ?_ _ | with_reducible refine New.drewN ?_ _ | with_reducible refine New.drew ?_ | with_reducible refine New.setCell ?_ (by first | omega | (simp; done) | (simp; omega)) _ | with_reducible refine New.tail (by assumption) ?_))⟩
end Go.Proofs.YtgcloaimolajjaaDoor
