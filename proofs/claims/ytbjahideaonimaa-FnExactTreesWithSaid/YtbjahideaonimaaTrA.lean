/- The contract of l2Chosen: the legs and the indices whose bits a number has. -/
import Derived.Test.YtbjahideaonimaaLgC
import Derived.Test.YtbjahideaonimaaMtB
namespace Go.Proofs.Ytbjahideaonimaa
open Go.RowKit
set_option linter.all false
def chI (s k : Nat) : List Int := ((List.range k).filter fun i => s.testBit i).map Int.ofNat
def chU (L : List Lg) (s k : Nat) : List Lg := ((List.range k).filter fun i => s.testBit i).filterMap fun i => L[i]?
theorem chI_zero (s : Nat) : chI s 0 = [] := rfl
theorem chU_zero (L : List Lg) (s : Nat) : chU L s 0 = [] := rfl
theorem chI_no {s k : Nat} (h : s.testBit k = false) : chI s (k + 1) = chI s k := by unfold chI; rw [List.range_succ, List.filter_append]; simp [h]
theorem chI_yes {s k : Nat} (h : s.testBit k = true) : chI s (k + 1) = chI s k ++ [(k : Int)] := by unfold chI; rw [List.range_succ, List.filter_append]; simp [h]
theorem chU_no {L : List Lg} {s k : Nat} (h : s.testBit k = false) : chU L s (k + 1) = chU L s k := by unfold chU; rw [List.range_succ, List.filter_append]; simp [h]
theorem chU_yes {L : List Lg} {s k : Nat} (hk : k < L.length) (h : s.testBit k = true) : chU L s (k + 1) = chU L s k ++ [L[k]] := by unfold chU; rw [List.range_succ, List.filter_append]; simp [h, hk]
theorem chI_len (s k : Nat) : (chI s k).length ≤ k := by unfold chI; rw [List.length_map]; exact Nat.le_trans (List.length_filter_le ..) (by simp)
theorem chU_I {L : List Lg} {s : Nat} : ∀ k, k ≤ L.length → (chU L s k).length = (chI s k).length
  | 0, _ => rfl
  | k + 1, h => by
    cases hb : s.testBit k
    · rw [chU_no hb, chI_no hb, chU_I k (by omega)]
    · rw [chU_yes (by omega) hb, chI_yes hb, List.length_append, List.length_append, chU_I k (by omega)]; rfl
theorem chU_cons (e : Lg) (R : List Lg) (s : Nat) : ∀ k, chU (e :: R) s (k + 1) = (if s % 2 = 1 then [e] else []) ++ chU R (s / 2) k
  | 0 => by
    unfold chU
    have : s.testBit 0 = decide (s % 2 = 1) := Nat.testBit_zero s
    by_cases h : s % 2 = 1 <;> simp [List.range_succ, this, h]
  | k + 1 => by
    have ih := chU_cons e R s k
    have hb : s.testBit (k + 1) = (s / 2).testBit k := Nat.testBit_succ ..
    unfold chU at ih ⊢
    rw [List.range_succ, List.filter_append, List.filterMap_append, ih, List.range_succ (n := k), List.filter_append, List.filterMap_append, ← List.append_assoc]
    congr 1
    cases h : s.testBit (k + 1)
    · simp [h, hb ▸ h]
    · simp [h, hb ▸ h]
      rfl
theorem chS_U : ∀ (L : List Lg) (s : Nat), chS L s = chU L s L.length
  | [], s => rfl
  | e :: R, s => by
    rw [List.length_cons, chU_cons, chS, chS_U R (s / 2)]
    split <;> rfl
theorem tmod_bit (s k : Nat) : Int.tmod ((s : Int) / 2 ^ k) 2 = if s.testBit k then 1 else 0 := by
  have h : ((s : Int) / 2 ^ k) = ((s / 2 ^ k : Nat) : Int) := by rw [Int.natCast_ediv]; simp
  rw [h]
  have h2 : Int.tmod ((s / 2 ^ k : Nat) : Int) 2 = ((s / 2 ^ k % 2 : Nat) : Int) := rfl
  rw [h2, ← Nat.toNat_testBit]
  cases s.testBit k <;> rfl
theorem own_far {w w' : World} {base : Nat} {e : TypeId} {size n : Nat} {v : Value} {xs : List Value} (h : w.ownsRow base e size v n xs) {row : Option Nat} (hg : w.grownBy w' row) (hne : ∀ k, v.ownBlock = some k → row ≠ some k) : w'.ownsRow base e size v n xs := by
  refine ⟨h.1, ?_⟩
  rcases h.2 with h0 | ⟨g', cap, cur, h1, h2, h3, h4⟩
  · exact .inl h0
  · have := hne g' (by rw [h1]; rfl)
    exact .inr ⟨g', cap, cur, h1, h2, Has.grown (cs := cur) (T := e) h3 hg this, h4⟩
/-- Two rows of our own of different types lie in different blocks. -/
theorem own_two {w : World} {b1 b2 : Nat} {e1 e2 : TypeId} {s1 s2 n1 n2 : Nat} {v1 v2 : Value} {x1 x2 : List Value} (h1 : w.ownsRow b1 e1 s1 v1 n1 x1) (h2 : w.ownsRow b2 e2 s2 v2 n2 x2) (hne : e1 ≠ e2) : ∀ k, v1.ownBlock = some k → v2.ownBlock ≠ some k := by
  intro k hk hk2
  rcases h1.2 with ⟨rfl, _⟩ | ⟨g, cap, cur, rfl, _, hh, _⟩
  · cases hk
  · rcases h2.2 with ⟨rfl, _⟩ | ⟨g', cap', cur', rfl, _, hh', _⟩
    · cases hk2
    · cases hk
      cases hk2
      have a : Has w g cur e1 := hh
      have b : Has w g cur' e2 := hh'
      unfold Has at a b
      rw [a] at b
      cases b
      exact hne rfl
theorem LegsAt.far {w : World} {A : Option Addr} {L : List Lg} (h : LegsAt w A L) {x : Addr} (hA : ∀ p, A = some p → p.block ≠ x.block) (v : Value) : LegsAt (w.setCell x v) A L := fun hne => by
  obtain ⟨b, off, rfl, hb, hc⟩ := h hne
  refine ⟨b, off, rfl, by simpa using hb, fun k g hk => ?_⟩
  have hk := hc k g hk
  have hne := hA _ rfl
  have kp : ∀ o, (w.setCell x v).cell? ⟨b, o, none⟩ = w.cell? ⟨b, o, none⟩ := fun o => by
    unfold World.cell?
    rw [Below.heap_setCell w x v b hne]
  rw [kp, kp, kp, kp, kp]
  exact hk
/-- The slice at C is these ints, in a block of their own. -/
def FI (w : World) (C : Option Addr) (I : List Int) : Prop := I = [] ∨ ∃ g, C = some ⟨g, 0, none⟩ ∧ Ints w g I
theorem FI.keep {w w' : World} {C : Option Addr} {I : List Int} (h : FI w C I) (hn : New w w') : FI w' C I := by
  rcases h with h | ⟨g, h1, h2⟩
  · exact .inl h
  · exact .inr ⟨g, h1, h2.keep hn⟩
theorem FI.grown {w w' : World} {C : Option Addr} {I : List Int} (h : FI w C I) {base : Nat} {e : TypeId} {size n : Nat} {v : Value} {xs : List Value} (ho : w.ownsRow base e size v n xs) (hne : e ≠ 3) (hg : w.grownBy w' v.ownBlock) : FI w' C I := by
  rcases h with h | ⟨g, h1, h2⟩
  · exact .inl h
  · exact .inr ⟨g, h1, h2.grown hg (own_ne ho h2 hne)⟩
theorem FI.reads {w : World} {C : Option Addr} {I : List Int} (h : FI w C I) : IntsAt w C I := by
  rcases h with rfl | ⟨g, rfl, h2⟩
  · exact fun hne => absurd rfl hne
  · exact h2.reads
theorem FI.far {w : World} {C : Option Addr} {I : List Int} (h : FI w C I) {p : Addr} (hp : ∀ q, C = some q → q.block ≠ p.block) (v : Value) : FI (w.setCell p v) C I := by
  rcases h with h | ⟨g, rfl, h2⟩
  · exact .inl h
  · exact .inr ⟨g, rfl, h2.far (hp _ rfl) v⟩
theorem ints_own {w : World} {base n : Nat} {v : Value} {l : List Int} (h : w.ownsRow base 3 1 v n (l.map (Value.int .i64))) : ∃ A cap, v = .slice A l.length cap ∧ l.length ≤ cap ∧ FI w A l ∧ ∀ p, A = some p → base ≤ p.block := by
  obtain ⟨hn, h1 | ⟨g, cap, rfl, hg, hI⟩⟩ := Ints.of_own h
  · obtain ⟨rfl, rfl⟩ := h1
    exact ⟨none, 0, rfl, Nat.le_refl _, .inl rfl, fun p hp => by cases hp⟩
  · refine ⟨_, cap, rfl, ?_, .inr ⟨g, rfl, hI⟩, fun p hp => by cases hp; exact hg⟩
    rcases h.2 with ⟨e, _⟩ | ⟨g', cap', cur, e, _, _, hc, _⟩
    · cases e
    · cases e; omega
/-- The survey s, the result's cell, the survey that is made with its row of legs, the row of indices. -/
def ChSt (w0 w : World) (g0 g1 g2 : Nat) (st : Int) (A : Option Addr) (cap : Nat) (L : List Lg) (lv : Value) (U : List Lg) (v : Value) (I : List Int) : Prop :=
  New w0 w ∧ Has w g0 #[.int .i64 st, .slice A L.length cap] 33 ∧ Has w g1 #[.int .i64 0, .slice none 0 0] 33 ∧ Has w g2 #[.int .i64 st, lv] 33 ∧ w.ownsRow (g2 + 1) 61 5 lv U.length (lgC U) ∧ w.ownsRow (g2 + 1) 3 1 v I.length (I.map (Value.int .i64))
theorem ChSt.pushU {w0 w w' : World} {g0 g1 g2 : Nat} {st : Int} {A : Option Addr} {cap : Nat} {L : List Lg} {lv lv' : Value} {U : List Lg} {v : Value} {I : List Int} {q : Lg} (h : ChSt w0 w g0 g1 g2 st A cap L lv U v I) (hw : w0.heap.size ≤ g0) (h01 : g0 < g1) (h12 : g1 < g2)
    (hown : w'.ownsRow (g2 + 1) 61 5 lv' (U.length + 1) (lgC U ++ [.int .i64 q.f, .int .i64 q.t, .int .i64 q.e, .int .i64 q.n, .int .i64 q.u])) (hg : w.grownBy w' lv.ownBlock) :
    ChSt w0 (w'.setCell ⟨g2, 1, none⟩ lv') g0 g1 g2 st A cap L lv' (U ++ [q]) v I := by
  obtain ⟨a, b, c, d, e, f⟩ := h
  have hb : ∀ k, lv.ownBlock = some k → g2 + 1 ≤ k := fun k hk => (e.lt k hk).1
  have hd := d.grown hg (fun x => by have := hb _ x; omega)
  have ho : Only g2 w' (w'.setCell ⟨g2, 1, none⟩ lv') := (Only.refl _ _).setCell rfl _
  refine ⟨New.setCell (New.grown a hg (fun k hk => by have := hb k hk; omega)) (show w0.heap.size ≤ g2 by omega) _, (b.grown hg (fun x => by have := hb _ x; omega)).only ho (by omega), (c.grown hg (fun x => by have := hb _ x; omega)).only ho (by omega), by simpa using hd.set 1 lv', ?_, own_only (own_far f hg (fun k hk hk2 => own_two e f (by decide) k hk2 hk)) ho (by omega)⟩
  rw [lgC_snoc, List.length_append, List.length_singleton]
  exact own_only hown ho (by omega)
theorem ChSt.pushI {w0 w w' : World} {g0 g1 g2 : Nat} {st : Int} {A : Option Addr} {cap : Nat} {L : List Lg} {lv : Value} {U : List Lg} {v v' : Value} {I : List Int} {x : Int} (h : ChSt w0 w g0 g1 g2 st A cap L lv U v I) (hw : w0.heap.size ≤ g0) (h01 : g0 < g1) (h12 : g1 < g2)
    (hown : w'.ownsRow (g2 + 1) 3 1 v' (I.length + 1) (I.map (Value.int .i64) ++ [.int .i64 x])) (hg : w.grownBy w' v.ownBlock) :
    ChSt w0 w' g0 g1 g2 st A cap L lv U v' (I ++ [x]) := by
  obtain ⟨a, b, c, d, e, f⟩ := h
  have hb : ∀ k, v.ownBlock = some k → g2 + 1 ≤ k := fun k hk => (f.lt k hk).1
  exact ⟨New.grown a hg (fun k hk => by have := hb k hk; omega), b.grown hg (fun x => by have := hb _ x; omega), c.grown hg (fun x => by have := hb _ x; omega), d.grown hg (fun x => by have := hb _ x; omega), own_far e hg (fun k hk hk2 => own_two e f (by decide) k hk hk2), by rw [List.map_append, List.length_append, List.length_singleton]; exact hown⟩
theorem ChSt.new {w0 w w' : World} {g0 g1 g2 : Nat} {st : Int} {A : Option Addr} {cap : Nat} {L : List Lg} {lv : Value} {U : List Lg} {v : Value} {I : List Int} (h : ChSt w0 w g0 g1 g2 st A cap L lv U v I) (hn : New w w') : ChSt w0 w' g0 g1 g2 st A cap L lv U v I :=
  ⟨h.1.trans hn, h.2.1.keep hn, h.2.2.1.keep hn, h.2.2.2.1.keep hn, own_new h.2.2.2.2.1 hn, own_new h.2.2.2.2.2 hn⟩
set_option maxHeartbeats 4000000 in
theorem l2Chosen_any (st : Int) (A : Option Addr) (cap : Nat) (L : List Lg) (s : Nat) (w : World) (hL : LegsAt w A L) (hl : L.length ≤ 9) (hs : s ≤ 100000) :
    Calls Try.prog 49 #[.agg #[.int .i64 st, .slice A L.length cap], .int .i64 s] w fun r w' => ∃ B cb C cc, r = .returned (.tuple #[.agg #[.int .i64 st, .slice B (chU L s L.length).length cb], .slice C (chI s L.length).length cc]) ∧ (chI s L.length).length ≤ cc ∧ LegsAt w' B (chU L s L.length) ∧ FI w' C (chI s L.length) ∧ New w w' := by
  obtain ⟨i0, hi, hz, hsz, hby⟩ := info_parts infoLeg
  obtain ⟨i1, ki, kz, ks, kb⟩ := info_parts infoInt
  have h1 : New w ((w.alloc (Obj.cells #[.int .i64 st, .slice A L.length cap] 33)).alloc (Obj.cells #[.int .i64 0, .slice none 0 0] 33)) := (by repeat (first | with_reducible exact New.refl _ | with_reducible assumption | with_reducible refine New.alloc ?_ _ | with_reducible refine New.drewN ?_ _ | with_reducible refine New.drew ?_ | with_reducible refine New.setCell ?_ (by first | omega | (simp; done) | (simp; omega)) _ | with_reducible refine New.tail (by assumption) ?_))
  have h2 := (Has.new w #[.int .i64 st, .slice A L.length cap] 33).alloc (Obj.cells #[.int .i64 0, .slice none 0 0] 33)
  have h3 := Has.new (w.alloc (Obj.cells #[.int .i64 st, .slice A L.length cap] 33)) #[.int .i64 0, .slice none 0 0] 33
  simp only [World.size_alloc] at h3
  go_enter Try.func49, Try.ntmps49
  go_upto_region 1 with fail
  have c2 := h2.at2
  go_upto_region 3 with fail
  have hS : ChSt w ((((w.alloc (Obj.cells #[.int .i64 st, .slice A L.length cap] 33)).alloc (Obj.cells #[.int .i64 0, .slice none 0 0] 33)).alloc (.cells #[.int .i64 st, .slice none 0 0] 33)).alloc (.cells #[] 3)) w.heap.size (w.heap.size + 1) (w.heap.size + 1 + 1) st A cap L (.slice none 0 0) [] (.slice (some ⟨w.heap.size + 1 + 1 + 1, 0, none⟩) 0 0) [] := by
    have h4 := Has.new ((w.alloc (Obj.cells #[.int .i64 st, .slice A L.length cap] 33)).alloc (Obj.cells #[.int .i64 0, .slice none 0 0] 33)) #[.int .i64 st, .slice none 0 0] 33
    simp only [World.size_alloc] at h4
    refine ⟨(by repeat (first | with_reducible exact New.refl _ | with_reducible assumption | with_reducible refine New.alloc ?_ _ | with_reducible refine New.drewN ?_ _ | with_reducible refine New.drew ?_ | with_reducible refine New.setCell ?_ (by first | omega | (simp; done) | (simp; omega)) _ | with_reducible refine New.tail (by assumption) ?_)), (h2.alloc _).alloc _, (h3.alloc _).alloc _, h4.alloc _, World.ownsRow_nil _ _ _ _, ?_⟩
    have := World.ownsRow_made (w := (((w.alloc (Obj.cells #[.int .i64 st, .slice A L.length cap] 33)).alloc (Obj.cells #[.int .i64 0, .slice none 0 0] 33)).alloc (.cells #[.int .i64 st, .slice none 0 0] 33))) (base := w.heap.size + 1 + 1 + 1) (e := 3) (size := 1) #[] 0 (by simp) (by simp) rfl
    simpa using this
  generalize ((((w.alloc (Obj.cells #[.int .i64 st, .slice A L.length cap] 33)).alloc (Obj.cells #[.int .i64 0, .slice none 0 0] 33)).alloc (.cells #[.int .i64 st, .slice none 0 0] 33)).alloc (.cells #[] 3)) = W3 at *
  obtain ⟨g0, hg0⟩ : ∃ g, w.heap.size = g := ⟨_, rfl⟩
  obtain ⟨g1, hg1⟩ : ∃ g, g0 + 1 = g := ⟨_, rfl⟩
  obtain ⟨g2, hg2⟩ : ∃ g, g1 + 1 = g := ⟨_, rfl⟩
  have b0 : w.heap.size ≤ g0 := by omega
  rw [hg0, hg1, hg2] at hS ⊢
  have b1 : g0 < g1 := by omega
  have b2 : g1 < g2 := by omega
  clear h1 h2 h3 c2 hg0 hg1 hg2
  go_wp2_with fail
  go_loopw [8, 7] (fun i v wr => ∃ (k : Nat) (lv vv : Value), vv = v ∧ k ≤ L.length ∧ i = .int .i64 k ∧ ChSt w wr g0 g1 g2 st A cap L lv (chU L s k) vv (chI s k)) (fun i _ _ => L.length - (intOf i).toNat)
  case atStart => exact ⟨0, _, _, rfl, Nat.zero_le _, rfl, hS⟩
  case round =>
    obtain ⟨k, lv, vv, rfl, hk, rfl, hS⟩ := hrel
    have cs := hS.2.1.at2
    by_cases hlt : k < L.length
    · have hlt' : (k : Int) < (L.length : Int) := by omega
      have hk0 : (0 : Int) ≤ (k : Int) := by omega
      have htm := tmod_bit s k
      cases hb : s.testBit k
      · have e1 := chI_no hb
        have e2 := chU_no (L := L) hb
        rw [← e1, ← e2] at hS
        have HS := Lib.hid hS
        rw [hb] at htm
        simp only [Bool.false_eq_true, if_false] at htm
        clear e1 e2 hS hb
        go_wp2_with fail
        go_roundw
        case rel => exact ⟨k + 1, lv, _, rfl, by omega, by go_num, HS.out⟩
        case measure => simp [intOf]; omega
      · have e1 := chI_yes hb
        have e2 := chU_yes hlt hb
        rw [hb] at htm
        simp only [if_true] at htm
        obtain ⟨bL, oL, f, t, e, nn, u, hA, hg, hc⟩ := (hL.keep hS.1).at_ hlt
        rw [hg] at e2
        subst hA
        have HE := Lib.hid (And.intro e1 e2)
        have hU := chU_I (L := L) (s := s) k (by omega)
        have hI := chI_len s k
        clear e1 e2 hb hg
        have c0 := hS.2.1.cells2
        have c2 := hS.2.2.2.1.cells2
        have cf := hS.2.2.2.1.frees
        have hzz := hS.2.2.2.1.lt
        clear cs
        go_upto_region 7 with fail
        clear htm
        go_cut [] (fun wx => ∃ lv', ChSt w wx g0 g1 g2 st (some ⟨bL, oL, none⟩) cap L lv' (chU L s (k + 1)) vv (chI s k))
        case first =>
          go_region_law (first | (refine step_own (by rfl) _ _ 31 (by rfl) (g2 + 1) 61 i0 (.agg #[.int .i64 0, .int .i64 0, .int .i64 0, .int .i64 0, .int .i64 0]) 5 40 Try.underlying31 hi hz hsz hby rfl (by decide) _ _ _ (by rfl) (own_new hS.2.2.2.2.1 (show New wr _ from (by repeat (first | with_reducible exact New.refl _ | with_reducible assumption | with_reducible refine New.alloc ?_ _ | with_reducible refine New.drewN ?_ _ | with_reducible refine New.drew ?_ | with_reducible refine New.setCell ?_ (by first | omega | (simp; done) | (simp; omega)) _ | with_reducible refine New.tail (by assumption) ?_)))) ⟨wr.heap.size, 0, none⟩ 1 1 [.int .i64 f, .int .i64 t, .int .i64 e, .int .i64 nn, .int .i64 u] (by rfl) (by rfl) (five_news _ _ _ _ _ _ _) (by intro u hu; simp at hu; rcases hu with rfl | rfl | rfl | rfl | rfl <;> rfl) (by unfold maxLen; omega) (by omega) (by simp; omega) ?_; intro v' wE hown' hgrow _; obtain ⟨Bv, cv, hv', -, -, -⟩ := legs_own (L := chU L s k ++ [⟨f, t, e, nn, u⟩]) (by rw [lgC_snoc]; exact hown'); subst hv'; have hP := ChSt.pushU (q := ⟨f, t, e, nn, u⟩) (hS.new (show New wr _ from (by repeat (first | with_reducible exact New.refl _ | with_reducible assumption | with_reducible refine New.alloc ?_ _ | with_reducible refine New.drewN ?_ _ | with_reducible refine New.drew ?_ | with_reducible refine New.setCell ?_ (by first | omega | (simp; done) | (simp; omega)) _ | with_reducible refine New.tail (by assumption) ?_)))) b0 b1 b2 hown' hgrow; have hcE := (((hS.new (show New wr _ from (by repeat (first | with_reducible exact New.refl _ | with_reducible assumption | with_reducible refine New.alloc ?_ _ | with_reducible refine New.drewN ?_ _ | with_reducible refine New.drew ?_ | with_reducible refine New.setCell ?_ (by first | omega | (simp; done) | (simp; omega)) _ | with_reducible refine New.tail (by assumption) ?_)))).2.2.2.1).grown hgrow (fun x => by have := (hS.2.2.2.2.1.lt _ x).1; omega)).at2))
          all_goals
            go_wp2_with fail
            go_meet
            rw [List.length_append, List.length_singleton, hU] at hP
            exact ⟨_, by rw [HE.out.2]; exact hP⟩
        case rest =>
          obtain ⟨lv', hS'⟩ := hcut
          clear hS c0 c2 cf hc
          have hnA := (New.refl wc).alloc (.cells #[.int .i64 k] 3)
          have hown := hS'.2.2.2.2.2
          have hzz := hS'.2.2.2.1.lt
          go_wp2_with (at_builtin; refine wpList_append_own _ rfl _ _ 68 rfl (g2 + 1) 3 i1 (.int .i64 0) 1 8 Try.underlying68 ki kz ks kb rfl (by decide) _ _ _ rfl (own_new hown hnA) ⟨wc.heap.size, 0, none⟩ 1 1 [.int .i64 k] rfl rfl (one_new _ _ _) (one_oneCell _) (by unfold maxLen; omega) (by omega) (by simp; omega) ?_; intro v' wE hown' hgrow _; have hP := ChSt.pushI (hS'.new hnA) b0 b1 b2 hown' hgrow)
          go_roundw
          case rel => exact ⟨k + 1, _, _, rfl, by omega, by go_num, by rw [HE.out.1]; exact hP⟩
          case measure => simp [intOf]; omega
    · obtain rfl : k = L.length := by omega
      obtain ⟨B, cb, hB, hcb, hLA, hBp⟩ := legs_own hS.2.2.2.2.1
      obtain ⟨C, cc, hC, hcc, hIA, hCp⟩ := ints_own hS.2.2.2.2.2
      subst hB hC
      have h1 := hS.2.2.1
      have c2 := hS.2.2.2.1.at2
      have c1 := h1.at2
      have hw := hS.1
      have hb1 : w.heap.size ≤ g1 := by omega
      clear hS
      go_wp2_with fail
      exact bodyPost_ret (v := .tuple #[.agg #[.int .i64 st, .slice B (chU L s L.length).length cb], .slice C (chI s L.length).length cc]) (by simp [results, Try.results49, go_sem, (h1.set2 (y0 := .int .i64 st) (y1 := .slice B (chU L s L.length).length cb)).at2]) rfl ⟨B, cb, C, cc, rfl, hcc, (hLA.far (x := ⟨g1, 0, none⟩) (fun p hp => by have := hBp p hp; simp; omega) _).far (x := ⟨g1, 1, none⟩) (fun p hp => by have := hBp p hp; simp; omega) _, (hIA.far (p := ⟨g1, 0, none⟩) (fun p hp => by have := hCp p hp; simp; omega) _).far (p := ⟨g1, 1, none⟩) (fun p hp => by have := hCp p hp; simp; omega) _, (hw.setCell (p := ⟨g1, 0, none⟩) hb1 _).setCell (p := ⟨g1, 1, none⟩) hb1 _⟩
end Go.Proofs.Ytbjahideaonimaa
