/- Drawn stations and indexes. -/
import Derived.Test.YtgcloaimolajjaaDoorDrawQ
namespace Go.Proofs.YtgcloaimolajjaaDoor
open Go.RowKit
set_option linter.all false
theorem LegsAt.ne2 {w : World} {A : Option Addr} {L : List Lg} {b : Nat} {x0 x1 : Value} {T : TypeId} (h : LegsAt w A L) (hh : Has w b #[x0, x1] T) (hne : L ≠ []) : ∀ p, A = some p → p.block ≠ b := by
  obtain ⟨b', off, e, hb, hc⟩ := h hne
  intro p hp
  rw [e] at hp
  cases hp
  intro hbb
  simp only at hbb
  subst hbb
  cases L with
  | nil => exact hne rfl
  | cons q L =>
    have := (hc 0 q rfl).2.2.2.2
    rw [hh.cells _ w (New.refl w)] at this
    rw [Array.getElem?_eq_none (by simp)] at this
    cases this
theorem LegsAt.only2 {w w' : World} {A : Option Addr} {L : List Lg} {b : Nat} {x0 x1 : Value} {T : TypeId} (h : LegsAt w A L) (hh : Has w b #[x0, x1] T) (ho : Only b w w') : LegsAt w' A L := fun hne => by
  have hb := h.ne2 hh hne
  obtain ⟨b', off, e, hbl, hc⟩ := h hne
  have hbb := hb _ e
  refine ⟨b', off, e, Nat.lt_of_lt_of_le hbl ho.size, fun k g hk => ?_⟩
  have hk := hc k g hk
  have kp : ∀ o, w'.cell? ⟨b', o, none⟩ = w.cell? ⟨b', o, none⟩ := fun o => by
    unfold World.cell?
    rw [ho.block b' hbl (by simpa using hbb)]
  rw [kp, kp, kp, kp, kp]
  exact hk
theorem LegsAt.rd {w w' : World} {A : Option Addr} {L : List Lg} {rb b : Nat} (h : LegsAt w A L) (hr : Rd w rb b) (ho : Only rb w w') : LegsAt w' A L := by
  obtain ⟨p, A', n, cap, hp, hn, hh, hb⟩ := hr
  exact h.only2 hh ho
set_option maxHeartbeats 1000000 in
theorem l20Station_any (rb b : Nat) (st : Int) (B : Option Addr) (m cp : Nat) (w : World) (hr : Rd w rb b) (hb : b ≤ 1000000) (hst : st ≤ 1000) :
    Calls Tryd.prog 75 #[.pointer (some ⟨rb, 0, none⟩), .agg #[.int .i64 st, .slice B m cp]] w fun r w' => ∃ v : Int, r = .returned (.int .i64 v) ∧ Only rb w w' ∧ Rd w' rb (b + 3) := by
  have h2 := Has.new w #[.int .i64 st, .slice B m cp] 25
  have ho := Only.alloc (Only.refl rb w) (.cells #[.int .i64 st, .slice B m cp] 25)
  have hr1 := hr.keep ((New.refl w).alloc (.cells #[.int .i64 st, .slice B m cp] 25))
  clear hr
  go_enter Tryd.func75, Tryd.ntmps75
  go_upto_region 1 with fail
  generalize (w.alloc (.cells #[.int .i64 st, .slice B m cp] 25)) = W0 at *
  have c2 := h2.at2
  by_cases h1 : 1 ≤ st
  all_goals
    go_wp2_with fail
    refine (pick_any rb _ _ _ hr1 (by omega) (by omega)).mono ?_
    rintro _ w1 ⟨x, rfl, -, -, o1, r1⟩
    go_wp2_with fail
    refine (pick_any rb _ _ _ r1 (by omega) (by omega)).mono ?_
    rintro _ w2 ⟨y, rfl, -, -, o2, r2⟩
    go_wp2_with fail
    refine (pick_any rb _ _ _ r2 (by omega) (by omega)).mono ?_
    rintro _ w3 ⟨z, rfl, -, -, o3, r3⟩
    go_wp2_with fail
    go_ret
    exact ⟨_, rfl, ((ho.trans o1).trans o2).trans o3, r3⟩
set_option maxHeartbeats 1000000 in
theorem l20Index_any (rb b : Nat) (st : Int) (B : Option Addr) (m cp : Nat) (w : World) (hr : Rd w rb b) (hb : b ≤ 1000000) (hm : m ≤ 1000) :
    Calls Tryd.prog 84 #[.pointer (some ⟨rb, 0, none⟩), .agg #[.int .i64 st, .slice B m cp]] w fun r w' => ∃ v : Int, r = .returned (.int .i64 v) ∧ Only rb w w' ∧ Rd w' rb (b + 3) := by
  have h2 := Has.new w #[.int .i64 st, .slice B m cp] 25
  have ho := Only.alloc (Only.refl rb w) (.cells #[.int .i64 st, .slice B m cp] 25)
  have hr1 := hr.keep ((New.refl w).alloc (.cells #[.int .i64 st, .slice B m cp] 25))
  clear hr
  go_enter Tryd.func84, Tryd.ntmps84
  go_upto_region 1 with fail
  generalize (w.alloc (.cells #[.int .i64 st, .slice B m cp] 25)) = W0 at *
  have c2 := h2.at2
  by_cases h1 : 1 ≤ (m : Int)
  all_goals
    go_wp2_with fail
    refine (pick_any rb _ _ _ hr1 (by omega) (by omega)).mono ?_
    rintro _ w1 ⟨x, rfl, -, -, o1, r1⟩
    go_wp2_with fail
    refine (pick_any rb _ _ _ r1 (by omega) (by omega)).mono ?_
    rintro _ w2 ⟨y, rfl, -, -, o2, r2⟩
    go_wp2_with fail
    refine (pick_any rb _ _ _ r2 (by omega) (by omega)).mono ?_
    rintro _ w3 ⟨z, rfl, -, -, o3, r3⟩
    go_wp2_with fail
    go_ret
    exact ⟨_, rfl, ((ho.trans o1).trans o2).trans o3, r3⟩
set_option maxHeartbeats 2000000 in
theorem drawTreePlace_any (A : Option Addr) (n cap : Nat) (w : World) (hB : Bytes w A n) (hc : n ≤ cap) (hn : n ≤ maxLen) :
    Calls Tryd.prog 43 #[.slice A n cap] w fun r w' => ∃ (st : Int) (B : Option Addr) (L : List Lg) (cp : Nat) (v : Int), r = .returned (.tuple #[.agg #[.int .i64 st, .slice B L.length cp], .int .i64 v]) ∧ (L.length ≤ cp ∧ 0 ≤ st ∧ st ≤ 7 ∧ L.length ≤ 10 ∧ ∀ q ∈ L, smL q) ∧ LegsAt w' B L ∧ New w w' := by
  have h1 := Has.new w #[.int .i64 0, .slice none 0 0] 25
  have hk : New w (w.alloc (Obj.cells #[.int .i64 0, .slice none 0 0] 25)) := (by repeat (first | with_reducible exact New.refl _ | with_reducible assumption | with_reducible refine New.alloc ?_ _ | with_reducible refine New.drewN ?_ _ | with_reducible refine New.drew ?_ | with_reducible refine New.setCell ?_ (by first | omega | (simp; done) | (simp; omega)) _ | with_reducible refine New.tail (by assumption) ?_))
  go_enter Tryd.func43, Tryd.ntmps43
  go_wp2_with fail
  generalize (w.alloc (Obj.cells #[.int .i64 0, .slice none 0 0] 25)) = W0 at *
  refine (l20Open_any A n cap _ (hB.keep hk) hc hn).mono ?_
  rintro e w1 ⟨rfl, hn1, hr1⟩
  have h3 := h1.keep hn1
  have hlt := h1.lt
  go_wp2_with fail
  refine (l20Survey_any _ _ _ _ hr1 (by omega) (by omega)).mono ?_
  rintro e w2 ⟨st, B, L, cp, rfl, hbd, hL, ho, hr2⟩
  have hk1 := hk.trans (hn1.onlyTo ho (Nat.le_refl _))
  have h4 := h3.only ho (by omega)
  have hlt2 := hr2.lt
  clear hn1 h3 ho hr1 h1
  generalize W0.heap.size = rb at *
  go_upto_region 3 with fail
  have h5 := Has.new w2 #[.int .i64 st, .slice B L.length cp] 25
  have h6 := h4.alloc (Obj.cells #[.int .i64 st, .slice B L.length cp] 25)
  have hL6 := hL.keep ((New.refl w2).alloc (Obj.cells #[.int .i64 st, .slice B L.length cp] 25))
  have hr6 := hr2.keep ((New.refl w2).alloc (Obj.cells #[.int .i64 st, .slice B L.length cp] 25))
  have hk6 : New w (w2.alloc (Obj.cells #[.int .i64 st, .slice B L.length cp] 25)) := hk1.alloc _
  generalize w2.heap.size = g at *
  generalize (w2.alloc (Obj.cells #[.int .i64 st, .slice B L.length cp] 25)) = W6 at *
  clear hL hr2 h4 hk1
  have c5 := h5.at2
  go_region_with (first | (go_at_call 75; refine (l20Station_any rb _ _ _ _ _ _ (hr6.keep (New.refl W6).drew) (by omega) (by omega)).mono ?_; rintro _ w7 ⟨v, rfl, o7, r7⟩; have o7' : Only rb W6 w7 := (Only.of_new (New.refl W6).drew).trans o7; have h7 := h6.only o7' (by omega); have c7 := h7.at2; have d7 := (h5.only o7' (by omega)).at2))
  all_goals
    go_wp2_with fail
    exact bodyPost_ret (v := .tuple #[.agg #[.int .i64 st, .slice B L.length cp], .int .i64 v]) (by simp [results, Tryd.results43, go_sem, (h7.set2 (y0 := .int .i64 st) (y1 := .slice B L.length cp)).at2]) rfl ⟨st, B, L, cp, v, rfl, hbd, ((hL6.rd hr6 o7').far2 h7 0 _).far2 (by simpa using h7.set 0 (.int .i64 st)) 1 _, by have hk7 := hk6.onlyTo o7' (by omega); exact (by repeat (first | with_reducible exact New.refl _ | with_reducible assumption | with_reducible refine New.alloc ?_ _ | with_reducible refine New.drewN ?_ _ | with_reducible refine New.drew ?_ | with_reducible refine New.setCell ?_ (by first | omega | (simp; done) | (simp; omega)) _ | with_reducible refine New.tail (by assumption) ?_))⟩
set_option maxHeartbeats 2000000 in
theorem drawTreeWay_any (A : Option Addr) (n cap : Nat) (w : World) (hB : Bytes w A n) (hc : n ≤ cap) (hn : n ≤ maxLen) :
    Calls Tryd.prog 36 #[.slice A n cap] w fun r w' => ∃ (st : Int) (B : Option Addr) (L : List Lg) (cp : Nat) (v v2 : Int), r = .returned (.tuple #[.agg #[.int .i64 st, .slice B L.length cp], .int .i64 v, .int .i64 v2]) ∧ (L.length ≤ cp ∧ 0 ≤ st ∧ st ≤ 7 ∧ L.length ≤ 10 ∧ ∀ q ∈ L, smL q) ∧ LegsAt w' B L ∧ New w w' := by
  have h1 := Has.new w #[.int .i64 0, .slice none 0 0] 25
  have hk : New w (w.alloc (Obj.cells #[.int .i64 0, .slice none 0 0] 25)) := (by repeat (first | with_reducible exact New.refl _ | with_reducible assumption | with_reducible refine New.alloc ?_ _ | with_reducible refine New.drewN ?_ _ | with_reducible refine New.drew ?_ | with_reducible refine New.setCell ?_ (by first | omega | (simp; done) | (simp; omega)) _ | with_reducible refine New.tail (by assumption) ?_))
  go_enter Tryd.func36, Tryd.ntmps36
  go_wp2_with fail
  generalize (w.alloc (Obj.cells #[.int .i64 0, .slice none 0 0] 25)) = W0 at *
  refine (l20Open_any A n cap _ (hB.keep hk) hc hn).mono ?_
  rintro e w1 ⟨rfl, hn1, hr1⟩
  have h3 := h1.keep hn1
  have hlt := h1.lt
  go_wp2_with fail
  refine (l20Survey_any _ _ _ _ hr1 (by omega) (by omega)).mono ?_
  rintro e w2 ⟨st, B, L, cp, rfl, hbd, hL, ho, hr2⟩
  have hk1 := hk.trans (hn1.onlyTo ho (Nat.le_refl _))
  have h4 := h3.only ho (by omega)
  have hlt2 := hr2.lt
  clear hn1 h3 ho hr1 h1
  generalize W0.heap.size = rb at *
  go_upto_region 3 with fail
  have h5 := Has.new w2 #[.int .i64 st, .slice B L.length cp] 25
  have h6 := h4.alloc (Obj.cells #[.int .i64 st, .slice B L.length cp] 25)
  have hL6 := hL.keep ((New.refl w2).alloc (Obj.cells #[.int .i64 st, .slice B L.length cp] 25))
  have hr6 := hr2.keep ((New.refl w2).alloc (Obj.cells #[.int .i64 st, .slice B L.length cp] 25))
  have hk6 : New w (w2.alloc (Obj.cells #[.int .i64 st, .slice B L.length cp] 25)) := hk1.alloc _
  generalize w2.heap.size = g at *
  generalize (w2.alloc (Obj.cells #[.int .i64 st, .slice B L.length cp] 25)) = W6 at *
  clear hL hr2 h4 hk1
  have c5 := h5.at2
  go_region_with (first | (go_at_call 75; with_reducible refine (l20Station_any rb _ _ _ _ _ _ (hr6.keep (New.refl W6).drew) (by omega) (by omega)).mono ?_; rintro _ w7 ⟨v, rfl, o7, r7⟩; have o7' : Only rb W6 w7 := (Only.of_new (New.refl W6).drew).trans o7; have h7 := h6.only o7' (by omega); have c7 := h7.at2; have d7 := (h5.only o7' (by omega)).at2) | (go_at_call 75; with_reducible refine (l20Station_any rb _ _ _ _ _ _ r7 (by omega) (by omega)).mono ?_; rintro _ w8 ⟨v2, rfl, o8, r8⟩; have o8' : Only rb W6 w8 := o7'.trans o8; have h8 := h6.only o8' (by omega); have c8 := h8.at2; have d8 := (h5.only o8' (by omega)).at2))
  all_goals
    go_wp2_with fail
    exact bodyPost_ret (v := .tuple #[.agg #[.int .i64 st, .slice B L.length cp], .int .i64 v, .int .i64 v2]) (by simp [results, Tryd.results36, go_sem, (h8.set2 (y0 := .int .i64 st) (y1 := .slice B L.length cp)).at2]) rfl ⟨st, B, L, cp, v, v2, rfl, hbd, ((hL6.rd hr6 o8').far2 h8 0 _).far2 (by simpa using h8.set 0 (.int .i64 st)) 1 _, by have hk8 := hk6.onlyTo o8' (by omega); exact (by repeat (first | with_reducible exact New.refl _ | with_reducible assumption | with_reducible refine New.alloc ?_ _ | with_reducible refine New.drewN ?_ _ | with_reducible refine New.drew ?_ | with_reducible refine New.setCell ?_ (by first | omega | (simp; done) | (simp; omega)) _ | with_reducible refine New.tail (by assumption) ?_))⟩
set_option maxHeartbeats 2000000 in
theorem drawLoopSteps_any (A : Option Addr) (n cap : Nat) (w : World) (hB : Bytes w A n) (hc : n ≤ cap) (hn : n ≤ maxLen) :
    Calls Tryd.prog 57 #[.slice A n cap] w fun r w' => ∃ (st : Int) (B : Option Addr) (L : List Lg) (cp : Nat) (v : Int), r = .returned (.tuple #[.agg #[.int .i64 st, .slice B L.length cp], .int .i64 v]) ∧ (L.length ≤ cp ∧ 0 ≤ st ∧ st ≤ 7 ∧ L.length ≤ 10 ∧ ∀ q ∈ L, smL q) ∧ LegsAt w' B L ∧ New w w' := by
  have h1 := Has.new w #[.int .i64 0, .slice none 0 0] 25
  have hk : New w (w.alloc (Obj.cells #[.int .i64 0, .slice none 0 0] 25)) := (by repeat (first | with_reducible exact New.refl _ | with_reducible assumption | with_reducible refine New.alloc ?_ _ | with_reducible refine New.drewN ?_ _ | with_reducible refine New.drew ?_ | with_reducible refine New.setCell ?_ (by first | omega | (simp; done) | (simp; omega)) _ | with_reducible refine New.tail (by assumption) ?_))
  go_enter Tryd.func57, Tryd.ntmps57
  go_wp2_with fail
  generalize (w.alloc (Obj.cells #[.int .i64 0, .slice none 0 0] 25)) = W0 at *
  refine (l20Open_any A n cap _ (hB.keep hk) hc hn).mono ?_
  rintro e w1 ⟨rfl, hn1, hr1⟩
  have h3 := h1.keep hn1
  have hlt := h1.lt
  go_wp2_with fail
  refine (l20Survey_any _ _ _ _ hr1 (by omega) (by omega)).mono ?_
  rintro e w2 ⟨st, B, L, cp, rfl, hbd, hL, ho, hr2⟩
  have hk1 := hk.trans (hn1.onlyTo ho (Nat.le_refl _))
  have h4 := h3.only ho (by omega)
  have hlt2 := hr2.lt
  clear hn1 h3 ho hr1 h1
  generalize W0.heap.size = rb at *
  go_upto_region 3 with fail
  have h5 := Has.new w2 #[.int .i64 st, .slice B L.length cp] 25
  have h6 := h4.alloc (Obj.cells #[.int .i64 st, .slice B L.length cp] 25)
  have hL6 := hL.keep ((New.refl w2).alloc (Obj.cells #[.int .i64 st, .slice B L.length cp] 25))
  have hr6 := hr2.keep ((New.refl w2).alloc (Obj.cells #[.int .i64 st, .slice B L.length cp] 25))
  have hk6 : New w (w2.alloc (Obj.cells #[.int .i64 st, .slice B L.length cp] 25)) := hk1.alloc _
  generalize w2.heap.size = g at *
  generalize (w2.alloc (Obj.cells #[.int .i64 st, .slice B L.length cp] 25)) = W6 at *
  clear hL hr2 h4 hk1
  have c5 := h5.at2
  have hl10 : L.length ≤ 10 := hbd.2.2.2.1
  go_cut [18] (fun s18 wx => ∃ c : Bool, s18 = .bool c ∧ Only rb W6 wx ∧ Rd wx rb (0 + 1000 + 1))
  case first =>
    by_cases h0 : 0 < L.length
    · go_wp2_with fail
      refine (pick_any rb _ _ _ hr6 (by omega) (by omega)).mono ?_
      rintro _ w7 ⟨x, rfl, -, -, o7, r7⟩
      go_wp2_with fail
      go_meet
      exact ⟨_, rfl, o7, r7⟩
    · go_wp2_with fail
      go_meet
      exact ⟨_, rfl, Only.refl _ _, hr6.le (by omega)⟩
  case rest =>
    obtain ⟨c, rfl, o8, r8⟩ := hcut
    have h8 := h5.only o8 (by omega)
    have h9 := h6.only o8 (by omega)
    have hL9 := hL6.rd hr6 o8
    have hk9 := hk6.onlyTo o8 (by omega)
    have c8 := h8.at2
    have c9 := h9.at2
    clear c5 h5 h6 hL6 hr6 hk6 o8
    cases c
    · go_wp2_with fail
      go_region_with (first | (go_at_call 84; refine (l20Index_any rb _ _ _ _ _ _ (r8.keep (New.refl wc).drew) (by omega) (by omega)).mono ?_; rintro _ w7 ⟨v, rfl, o7, r7⟩; have o7' : Only rb wc w7 := (Only.of_new (New.refl wc).drew).trans o7; have h7 := h9.only o7' (by omega); have c7 := h7.at2; have d7 := (h8.only o7' (by omega)).at2))
      all_goals
        go_wp2_with fail
        exact bodyPost_ret (v := .tuple #[.agg #[.int .i64 st, .slice B L.length cp], .int .i64 v]) (by simp [results, Tryd.results57, go_sem, (h7.set2 (y0 := .int .i64 st) (y1 := .slice B L.length cp)).at2]) rfl ⟨st, B, L, cp, v, rfl, hbd, ((hL9.rd r8 o7').far2 h7 0 _).far2 (by simpa using h7.set 0 (.int .i64 st)) 1 _, by have hk7 := hk9.onlyTo o7' (by omega); exact (by repeat (first | with_reducible exact New.refl _ | with_reducible assumption | with_reducible refine New.alloc ?_ _ | with_reducible refine New.drewN ?_ _ | with_reducible refine New.drew ?_ | with_reducible refine New.setCell ?_ (by first | omega | (simp; done) | (simp; omega)) _ | with_reducible refine New.tail (by assumption) ?_))⟩
    · go_wp2_with fail
      go_region_with (fail)
      all_goals
        go_wp2_with fail
        exact bodyPost_ret (v := .tuple #[.agg #[.int .i64 st, .slice B L.length cp], .int .i64 (IntKind.i64.wrap ((L.length : Int) - 1))]) (by simp [results, Tryd.results57, go_sem, (h9.set2 (y0 := .int .i64 st) (y1 := .slice B L.length cp)).at2]) rfl ⟨st, B, L, cp, _, rfl, hbd, ((hL9.keep (New.refl wc).drew).far2 (h9.keep (New.refl wc).drew) 0 _).far2 (by simpa using (h9.keep (New.refl wc).drew).set 0 (.int .i64 st)) 1 _, (by repeat (first | with_reducible exact New.refl _ | with_reducible assumption | with_reducible refine New.alloc ?_ _ | with_reducible refine New.drewN ?_ _ | with_reducible refine New.drew ?_ | with_reducible refine New.setCell ?_ (by first | omega | (simp; done) | (simp; omega)) _ | with_reducible refine New.tail (by assumption) ?_))⟩
set_option maxHeartbeats 2000000 in
theorem drawMisclosure_any (A : Option Addr) (n cap : Nat) (w : World) (hB : Bytes w A n) (hc : n ≤ cap) (hn : n ≤ maxLen) :
    Calls Tryd.prog 47 #[.slice A n cap] w fun r w' => ∃ (st : Int) (B : Option Addr) (L : List Lg) (cp : Nat) (v : Int), r = .returned (.tuple #[.agg #[.int .i64 st, .slice B L.length cp], .int .i64 v]) ∧ (L.length ≤ cp ∧ 0 ≤ st ∧ st ≤ 7 ∧ L.length ≤ 10 ∧ ∀ q ∈ L, smL q) ∧ LegsAt w' B L ∧ New w w' := by
  have h1 := Has.new w #[.int .i64 0, .slice none 0 0] 25
  have hk : New w (w.alloc (Obj.cells #[.int .i64 0, .slice none 0 0] 25)) := (by repeat (first | with_reducible exact New.refl _ | with_reducible assumption | with_reducible refine New.alloc ?_ _ | with_reducible refine New.drewN ?_ _ | with_reducible refine New.drew ?_ | with_reducible refine New.setCell ?_ (by first | omega | (simp; done) | (simp; omega)) _ | with_reducible refine New.tail (by assumption) ?_))
  go_enter Tryd.func47, Tryd.ntmps47
  go_wp2_with fail
  generalize (w.alloc (Obj.cells #[.int .i64 0, .slice none 0 0] 25)) = W0 at *
  refine (drawLoopSteps_any A n cap _ (hB.keep hk) hc hn).mono ?_
  rintro e w1 ⟨st, B, L, cp, v, rfl, hbd, hL, hn1⟩
  have h3 := h1.keep hn1
  have c3 := h3.at2
  have hk1 := hk.trans hn1
  clear h1 hn1
  go_wp2_with fail
  exact bodyPost_ret (v := .tuple #[.agg #[.int .i64 st, .slice B L.length cp], .int .i64 v]) (by simp [results, Tryd.results47, go_sem, (h3.set2 (y0 := .int .i64 st) (y1 := .slice B L.length cp)).at2]) rfl ⟨st, B, L, cp, v, rfl, hbd, (hL.far2 h3 0 _).far2 (by simpa using h3.set 0 (.int .i64 st)) 1 _, (by repeat (first | with_reducible exact New.refl _ | with_reducible assumption | with_reducible refine New.alloc ?_ _ | with_reducible refine New.drewN ?_ _ | with_reducible refine New.drew ?_ | with_reducible refine New.setCell ?_ (by first | omega | (simp; done) | (simp; omega)) _ | with_reducible refine New.tail (by assumption) ?_))⟩
end Go.Proofs.YtgcloaimolajjaaDoor
