/- The contract of the reference's ReadLeg. -/
import Derived.Test.YtmdeekojioeomaaDoorRdC
import Derived.Test.YtmdeekojioeomaaDoorRdI
namespace Go.Proofs.YtmdeekojioeomaaDoor
open Go.RowKit
set_option linter.all false
theorem s_no1 {s : ByteArray} (h : (cutA s 58).length ≠ 2) : Reads s 0 0 0 0 0 false := reads_none fun f t e n u hv hs => by
  subst hs
  obtain ⟨a, b, h1, -, -⟩ := ltx_pieces hv
  rw [h1] at h
  exact h rfl
theorem s_two {s a b : ByteArray} (h : cutA s 58 = [a, b]) {f t e n u : Int} (hv : legB 6 f t e n u = true) (hs : ltx f t e n u = s) : cutA a 62 = [tx f, tx t] ∧ cutA b 44 = [tx e, tx n, tx u] := by
  subst hs
  obtain ⟨a', b', h1, h2, h3⟩ := ltx_pieces hv
  rw [h1] at h
  simp only [List.cons.injEq, and_true] at h
  obtain ⟨rfl, rfl⟩ := h
  exact ⟨h2, h3⟩
theorem s_no2 {s a b : ByteArray} (h : cutA s 58 = [a, b]) (h2 : (cutA a 62).length ≠ 2 ∨ (cutA b 44).length ≠ 3) : Reads s 0 0 0 0 0 false := reads_none fun f t e n u hv hs => by
  obtain ⟨h3, h4⟩ := s_two h hv hs
  rw [h3, h4] at h2
  rcases h2 with h2 | h2 <;> exact h2 rfl
theorem s_nonempty {s a b : ByteArray} (h : cutA s 58 = [a, b]) : s ≠ ⟨#[]⟩ := fun e => by
  subst e
  have : (cutA ⟨#[]⟩ 58).length = 1 := by decide
  rw [h] at this
  cases this
theorem s_end {s a b x0 x1 x2 x3 x4 : ByteArray} (h : cutA s 58 = [a, b]) (ha : cutA a 62 = [x0, x1]) (hb : cutA b 44 = [x2, x3, x4]) :
    (ltx (rdL (bs x0)) (rdL (bs x1)) (rdL (bs x2)) (rdL (bs x3)) (rdL (bs x4)) = s → Reads s (rdL (bs x0)) (rdL (bs x1)) (rdL (bs x2)) (rdL (bs x3)) (rdL (bs x4)) true) ∧
    (ltx (rdL (bs x0)) (rdL (bs x1)) (rdL (bs x2)) (rdL (bs x3)) (rdL (bs x4)) ≠ s → Reads s 0 0 0 0 0 false) := by
  refine ⟨fun hs => Or.inl ⟨rfl, ltx_nil _ _ _ _ _ (by rw [hs]; exact s_nonempty h), hs⟩, fun hs => reads_none fun f t e n u hv hs' => hs ?_⟩
  obtain ⟨h3, h4⟩ := s_two h hv hs'
  obtain ⟨bf, bt, be, bn, bu⟩ := leg_bounds hv
  rw [ha] at h3
  rw [hb] at h4
  simp only [List.cons.injEq, and_true] at h3 h4
  obtain ⟨rfl, rfl⟩ := h3
  obtain ⟨rfl, rfl, rfl⟩ := h4
  rw [tx_rd f bf.1 bf.2, tx_rd t bt.1 bt.2, tx_rd e be.1 be.2, tx_rd n bn.1 bn.2, tx_rd u bu.1 bu.2]
  exact hs'
/-- A call of l1Cut that gives these pieces. -/
def CutTo (s : ByteArray) (c : Nat) (T : List ByteArray) : Prop := ∀ w, Calls Tryd.prog 33 #[.string s, .int .u8 (c : Int)] w fun r w' => ∃ g cap, r = .returned (.slice (some ⟨g, 0, none⟩) T.length cap) ∧ Strs w' g T ∧ New w w'
set_option maxHeartbeats 2000000 in
set_option maxRecDepth 100000 in
theorem specRd_a (s : ByteArray) (T : List ByteArray) (w : World) (hR : Reads s 0 0 0 0 0 false) (hT : T.length ≠ 2) (hT2 : T.length ≤ 100000000) (HC1 : CutTo s 58 T) : Calls Tryd.prog 14 #[.string s] w (RdPost s w) := by
  unfold CutTo at HC1
  obtain ⟨n, hn⟩ : ∃ n, T.length = n := ⟨_, rfl⟩
  rw [hn] at HC1 hT hT2
  have hne : ((n : Int) == 2) = false := by simp; omega
  clear hn hT
  have h1 : New w (w.alloc (Obj.cells #[.int .i64 0, .int .i64 0, .int .i64 0, .int .i64 0, .int .i64 0] 24)) := (by repeat (first | with_reducible exact New.refl _ | with_reducible assumption | with_reducible refine New.alloc ?_ _ | with_reducible refine New.drewN ?_ _ | with_reducible refine New.drew ?_ | with_reducible refine New.setCell ?_ (by first | omega | (simp; done) | (simp; omega)) _ | with_reducible refine New.tail (by assumption) ?_))
  have h2 := Has.new w #[.int .i64 0, .int .i64 0, .int .i64 0, .int .i64 0, .int .i64 0] 24
  go_enter Tryd.func14, Tryd.ntmps14
  go_upto_region 1 with fail
  generalize (w.alloc (Obj.cells #[.int .i64 0, .int .i64 0, .int .i64 0, .int .i64 0, .int .i64 0] 24)) = W0 at *
  go_wp2_with fail
  refine (HC1 _).mono ?_
  rintro _ w1 ⟨g1, cap1, rfl, hs1, hn1⟩
  have h3 := h2.keep hn1
  have c1 := h3.at5
  have c2 := (h3.set5 (y0 := .int .i64 0) (y1 := .int .i64 0) (y2 := .int .i64 0) (y3 := .int .i64 0) (y4 := .int .i64 0)).at5
  go_wp2_with fail
  exact bodyPost_ret (v := .tuple #[.agg #[.int .i64 0, .int .i64 0, .int .i64 0, .int .i64 0, .int .i64 0], .bool false]) (by simp [results, Tryd.results14, go_sem, c2]) rfl ⟨_, _, _, _, _, _, rfl, hR, new_set5 (h1.trans hn1) (Nat.le_refl _) _ _ _ _ _⟩
set_option maxHeartbeats 2000000 in
set_option maxRecDepth 100000 in
theorem specRd_b (s a b : ByteArray) (E : List ByteArray) (H : List ByteArray) (w : World) (hR : Reads s 0 0 0 0 0 false) (hE : E.length ≠ 2) (hE2 : E.length ≤ 100000000) (hH2 : H.length ≤ 100000000) (HC1 : CutTo s 58 [a, b]) (HCa : CutTo a 62 E) (HCb : CutTo b 44 H) : Calls Tryd.prog 14 #[.string s] w (RdPost s w) := by
  unfold CutTo at HC1 HCa HCb
  obtain ⟨n, hn⟩ : ∃ n, E.length = n := ⟨_, rfl⟩
  rw [hn] at HCa hE hE2
  have hne : ((n : Int) == 2) = false := by simp; omega
  clear hn hE
  have h1 : New w (w.alloc (Obj.cells #[.int .i64 0, .int .i64 0, .int .i64 0, .int .i64 0, .int .i64 0] 24)) := (by repeat (first | with_reducible exact New.refl _ | with_reducible assumption | with_reducible refine New.alloc ?_ _ | with_reducible refine New.drewN ?_ _ | with_reducible refine New.drew ?_ | with_reducible refine New.setCell ?_ (by first | omega | (simp; done) | (simp; omega)) _ | with_reducible refine New.tail (by assumption) ?_))
  have h2 := Has.new w #[.int .i64 0, .int .i64 0, .int .i64 0, .int .i64 0, .int .i64 0] 24
  go_enter Tryd.func14, Tryd.ntmps14
  go_upto_region 1 with fail
  generalize (w.alloc (Obj.cells #[.int .i64 0, .int .i64 0, .int .i64 0, .int .i64 0, .int .i64 0] 24)) = W0 at *
  go_wp2_with fail
  refine (HC1 _).mono ?_
  rintro _ w1 ⟨g1, cap1, rfl, hs1, hn1⟩
  have k1 := hs1.cell (k := 0) (x := a) rfl
  have k2 := hs1.cell (k := 1) (x := b) rfl
  have hb1 := hs1.lt
  clear hs1
  go_wp2_with fail
  refine (HCa _).mono ?_
  rintro _ w2 ⟨g2, cap2, rfl, hs2, hn2⟩
  have k3 := fun w' (hn : New w2 w') => k2 w' (hn2.trans hn)
  clear k1 k2
  go_wp2_with fail
  refine (HCb _).mono ?_
  rintro _ w3 ⟨g3, cap3, rfl, hs3, hn3⟩
  have hk := (hn1.trans hn2).trans hn3
  clear k3
  have h3 := h2.keep hk
  have c1 := h3.at5
  have c2 := (h3.set5 (y0 := .int .i64 0) (y1 := .int .i64 0) (y2 := .int .i64 0) (y3 := .int .i64 0) (y4 := .int .i64 0)).at5
  go_wp2_with fail
  exact bodyPost_ret (v := .tuple #[.agg #[.int .i64 0, .int .i64 0, .int .i64 0, .int .i64 0, .int .i64 0], .bool false]) (by simp [results, Tryd.results14, go_sem, c2]) rfl ⟨_, _, _, _, _, _, rfl, hR, new_set5 (h1.trans hk) (Nat.le_refl _) _ _ _ _ _⟩
set_option maxHeartbeats 2000000 in
set_option maxRecDepth 100000 in
theorem specRd_c (s a b x0 x1 : ByteArray) (H : List ByteArray) (w : World) (hR : Reads s 0 0 0 0 0 false) (hE : H.length ≠ 3) (hE2 : H.length ≤ 100000000) (HC1 : CutTo s 58 [a, b]) (HCa : CutTo a 62 [x0, x1]) (HCb : CutTo b 44 H) : Calls Tryd.prog 14 #[.string s] w (RdPost s w) := by
  unfold CutTo at HC1 HCa HCb
  obtain ⟨n, hn⟩ : ∃ n, H.length = n := ⟨_, rfl⟩
  rw [hn] at HCb hE hE2
  have hne : ((n : Int) == 3) = false := by simp; omega
  clear hn hE
  have h1 : New w (w.alloc (Obj.cells #[.int .i64 0, .int .i64 0, .int .i64 0, .int .i64 0, .int .i64 0] 24)) := (by repeat (first | with_reducible exact New.refl _ | with_reducible assumption | with_reducible refine New.alloc ?_ _ | with_reducible refine New.drewN ?_ _ | with_reducible refine New.drew ?_ | with_reducible refine New.setCell ?_ (by first | omega | (simp; done) | (simp; omega)) _ | with_reducible refine New.tail (by assumption) ?_))
  have h2 := Has.new w #[.int .i64 0, .int .i64 0, .int .i64 0, .int .i64 0, .int .i64 0] 24
  go_enter Tryd.func14, Tryd.ntmps14
  go_upto_region 1 with fail
  generalize (w.alloc (Obj.cells #[.int .i64 0, .int .i64 0, .int .i64 0, .int .i64 0, .int .i64 0] 24)) = W0 at *
  go_wp2_with fail
  refine (HC1 _).mono ?_
  rintro _ w1 ⟨g1, cap1, rfl, hs1, hn1⟩
  have k1 := hs1.cell (k := 0) (x := a) rfl
  have k2 := hs1.cell (k := 1) (x := b) rfl
  have hb1 := hs1.lt
  clear hs1
  go_wp2_with fail
  refine (HCa _).mono ?_
  rintro _ w2 ⟨g2, cap2, rfl, hs2, hn2⟩
  have k3 := fun w' (hn : New w2 w') => k2 w' (hn2.trans hn)
  clear k1 k2
  go_wp2_with fail
  refine (HCb _).mono ?_
  rintro _ w3 ⟨g3, cap3, rfl, hs3, hn3⟩
  have hk := (hn1.trans hn2).trans hn3
  clear k3
  have h3 := h2.keep hk
  have c1 := h3.at5
  have c2 := (h3.set5 (y0 := .int .i64 0) (y1 := .int .i64 0) (y2 := .int .i64 0) (y3 := .int .i64 0) (y4 := .int .i64 0)).at5
  go_wp2_with fail
  exact bodyPost_ret (v := .tuple #[.agg #[.int .i64 0, .int .i64 0, .int .i64 0, .int .i64 0, .int .i64 0], .bool false]) (by simp [results, Tryd.results14, go_sem, c2]) rfl ⟨_, _, _, _, _, _, rfl, hR, new_set5 (h1.trans hk) (Nat.le_refl _) _ _ _ _ _⟩
set_option maxHeartbeats 2000000 in
set_option maxRecDepth 100000 in
theorem specRd_d (s a b x0 x1 x2 x3 x4 : ByteArray) (f t e n u : Int) (w : World) (hE1 : ltx f t e n u = s → Reads s f t e n u true) (hE2 : ltx f t e n u ≠ s → Reads s 0 0 0 0 0 false) (h0 : s ≠ ⟨#[]⟩)
    (R0 : ∀ w, Calls Tryd.prog 34 #[.string x0] w fun r w' => r = .returned (.int .i64 f) ∧ New w w') (R1 : ∀ w, Calls Tryd.prog 34 #[.string x1] w fun r w' => r = .returned (.int .i64 t) ∧ New w w')
    (R2 : ∀ w, Calls Tryd.prog 34 #[.string x2] w fun r w' => r = .returned (.int .i64 e) ∧ New w w') (R3 : ∀ w, Calls Tryd.prog 34 #[.string x3] w fun r w' => r = .returned (.int .i64 n) ∧ New w w')
    (R4 : ∀ w, Calls Tryd.prog 34 #[.string x4] w fun r w' => r = .returned (.int .i64 u) ∧ New w w')
    (HC1 : CutTo s 58 [a, b]) (HCa : CutTo a 62 [x0, x1]) (HCb : CutTo b 44 [x2, x3, x4]) : Calls Tryd.prog 14 #[.string s] w (RdPost s w) := by
  unfold CutTo at HC1 HCa HCb
  have HE1 := Lib.hid hE1
  have HE2 := Lib.hid hE2
  have hs0 := txt_some h0
  clear hE1 hE2 h0
  have h1 : New w (w.alloc (Obj.cells #[.int .i64 0, .int .i64 0, .int .i64 0, .int .i64 0, .int .i64 0] 24)) := (by repeat (first | with_reducible exact New.refl _ | with_reducible assumption | with_reducible refine New.alloc ?_ _ | with_reducible refine New.drewN ?_ _ | with_reducible refine New.drew ?_ | with_reducible refine New.setCell ?_ (by first | omega | (simp; done) | (simp; omega)) _ | with_reducible refine New.tail (by assumption) ?_))
  have h2 := Has.new w #[.int .i64 0, .int .i64 0, .int .i64 0, .int .i64 0, .int .i64 0] 24
  go_enter Tryd.func14, Tryd.ntmps14
  go_upto_region 1 with fail
  generalize (w.alloc (Obj.cells #[.int .i64 0, .int .i64 0, .int .i64 0, .int .i64 0, .int .i64 0] 24)) = W0 at *
  go_wp2_with fail
  refine (HC1 _).mono ?_
  rintro _ w1 ⟨g1, cap1, rfl, hs1, hn1⟩
  have k1 := hs1.cell (k := 0) (x := a) rfl
  have k2 := hs1.cell (k := 1) (x := b) rfl
  have hb1 := hs1.lt
  clear hs1
  go_wp2_with fail
  refine (HCa _).mono ?_
  rintro _ w2 ⟨g2, cap2, rfl, hs2, hn2⟩
  have k3 := fun w' (hn : New w2 w') => k2 w' (hn2.trans hn)
  clear k1 k2
  go_wp2_with fail
  refine (HCb _).mono ?_
  rintro _ w3 ⟨g3, cap3, rfl, hs3, hn3⟩
  have hk := (hn1.trans hn2).trans hn3
  clear k3
  have l0 := fun w' (hn : New w3 w') => hs2.cell (k := 0) (x := x0) rfl w' (hn3.trans hn)
  have l1 := fun w' (hn : New w3 w') => hs2.cell (k := 1) (x := x1) rfl w' (hn3.trans hn)
  have l2 := hs3.cell (k := 0) (x := x2) rfl
  have l3 := hs3.cell (k := 1) (x := x3) rfl
  have l4 := hs3.cell (k := 2) (x := x4) rfl
  have hb2 := hs2.lt
  have hb3 := hs3.lt
  have hb4 := hn3.size
  clear hs2 hs3 hn1 hn2 hn3 HC1 HCa HCb
  go_upto_region 8 with fail
  go_cut [7] (fun s7 wx => ∃ g7, s7 = .pointer (some ⟨g7, 0, none⟩) ∧ Has wx g7 #[.int .i64 f, .int .i64 t, .int .i64 e, .int .i64 n, .int .i64 u] 24 ∧ New w3 wx)
  case first =>
    go_region_held3 (fun w' => New w3 w') ((repeat (first | with_reducible exact New.refl _ | with_reducible assumption | with_reducible refine New.alloc ?_ _ | with_reducible refine New.drewN ?_ _ | with_reducible refine New.drew ?_ | with_reducible refine New.setCell ?_ (by first | omega | (simp; done) | (simp; omega)) _ | with_reducible refine New.tail (by assumption) ?_))) (first | (go_at_call 34; (first | with_reducible refine (R0 _).mono ?_ | with_reducible refine (R1 _).mono ?_ | with_reducible refine (R2 _).mono ?_ | with_reducible refine (R3 _).mono ?_ | with_reducible refine (R4 _).mono ?_); rintro e w1 ⟨rfl, hn⟩; (first | (have hh := Has.keep (Has.new _ _ _) hn; (first | have hq := Has.at5 hh | have hq := Has.at3 hh | have hq := Has.at2 hh | have hq := Has.at1 hh)) | (have hh := Has.keep (Has.new _ _ _).drew hn; (first | have hq := Has.at5 hh | have hq := Has.at3 hh | have hq := Has.at2 hh | have hq := Has.at1 hh)) | (have hh := Has.keep (by assumption) hn; (first | have hq := Has.at5 hh | have hq := Has.at3 hh | have hq := Has.at2 hh | have hq := Has.at1 hh)) | skip); have hz := hn.size; (try simp only [World.size_alloc, World.size_drew, World.size_setCell] at hz)))
    all_goals
      go_wp2_with fail
      go_meet
      exact ⟨_, rfl, (by repeat (first | with_reducible exact Has.new _ _ _ | with_reducible assumption | with_reducible refine Has.drew ?_ | with_reducible refine Has.drewN ?_ _ | with_reducible apply Has.set1 | with_reducible apply Has.set2 | with_reducible apply Has.set3 | with_reducible apply Has.set5 | with_reducible refine Has.keep ?_ (by assumption))), (by repeat (first | with_reducible exact New.refl _ | with_reducible assumption | with_reducible refine New.alloc ?_ _ | with_reducible refine New.drewN ?_ _ | with_reducible refine New.drew ?_ | with_reducible refine New.setCell ?_ (by first | omega | (simp; done) | (simp; omega)) _ | with_reducible refine New.tail (by assumption) ?_))⟩
  case rest =>
    obtain ⟨g7, rfl, h7, hn7⟩ := hcut
    have c7 := h7.cells5
    have hkw := hk.trans hn7
    have HT := fun w' => specLegText_any f t e n u w'
    clear l0 l1 l2 l3 l4 R0 R1 R2 R3 R4
    by_cases hs : ltx f t e n u = s
    · have HR := Lib.hid (HE1.out hs)
      rw [hs] at HT
      clear HE1 HE2 hs
      go_wp2_with fail
      refine (HT _).mono ?_
      rintro _ w8 ⟨rfl, hn8⟩
      have c8 := (h7.keep hn8).at5
      have h6 := h2.keep (hkw.trans hn8)
      have c1 := h6.at5
      have c2 := (h6.set5 (y0 := .int .i64 f) (y1 := .int .i64 t) (y2 := .int .i64 e) (y3 := .int .i64 n) (y4 := .int .i64 u)).at5
      go_wp2_with fail
      exact bodyPost_ret (v := .tuple #[.agg #[.int .i64 f, .int .i64 t, .int .i64 e, .int .i64 n, .int .i64 u], .bool true]) (by simp [results, Tryd.results14, go_sem, c2]) rfl ⟨_, _, _, _, _, _, rfl, HR.out, new_set5 (h1.trans (hkw.trans hn8)) (Nat.le_refl _) _ _ _ _ _⟩
    · have HR := Lib.hid (HE2.out hs)
      obtain ⟨X, hX⟩ : ∃ X, ltx f t e n u = X := ⟨_, rfl⟩
      rw [hX] at HT hs
      have hne := txt_ne hs
      clear HE1 HE2 hX
      go_wp2_with fail
      refine (HT _).mono ?_
      rintro _ w8 ⟨rfl, hn8⟩
      have h6 := h2.keep (hkw.trans hn8)
      have c1 := h6.at5
      have c2 := (h6.set5 (y0 := .int .i64 0) (y1 := .int .i64 0) (y2 := .int .i64 0) (y3 := .int .i64 0) (y4 := .int .i64 0)).at5
      go_wp2_with fail
      exact bodyPost_ret (v := .tuple #[.agg #[.int .i64 0, .int .i64 0, .int .i64 0, .int .i64 0, .int .i64 0], .bool false]) (by simp [results, Tryd.results14, go_sem, c2]) rfl ⟨_, _, _, _, _, _, rfl, HR.out, new_set5 (h1.trans (hkw.trans hn8)) (Nat.le_refl _) _ _ _ _ _⟩
theorem cut_to (s : ByteArray) (c : UInt8) (hs : s.size ≤ 1048577) : CutTo s c.toNat (cutA s c) := fun w => (l1Cut_any s c w hs).mono fun r w' h => h
theorem specReadLeg_any (s : ByteArray) (w : World) (hs : s.size ≤ 1048576) : Calls Tryd.prog 14 #[.string s] w (RdPost s w) := by
  have HC1 : CutTo s 58 (cutA s 58) := cut_to s 58 (by omega)
  have len : ∀ (x : ByteArray) (c : UInt8), x.size ≤ s.size → (cutA x c).length ≤ 100000000 := fun x c hx => by have := cutA_len x c; omega
  by_cases h2 : (cutA s 58).length = 2
  · match hT : cutA s 58, h2 with
    | [a, b], _ =>
      have za : a.size ≤ s.size := cutA_le (c := 58) (by rw [hT]; simp)
      have zb : b.size ≤ s.size := cutA_le (c := 58) (by rw [hT]; simp)
      rw [hT] at HC1
      have HCa : CutTo a 62 (cutA a 62) := cut_to a 62 (by omega)
      have HCb : CutTo b 44 (cutA b 44) := cut_to b 44 (by omega)
      by_cases hE : (cutA a 62).length = 2
      · by_cases hH : (cutA b 44).length = 3
        · match hTa : cutA a 62, hE with
          | [x0, x1], _ =>
            match hTb : cutA b 44, hH with
            | [x2, x3, x4], _ =>
              rw [hTa] at HCa
              rw [hTb] at HCb
              exact specRd_d s a b x0 x1 x2 x3 x4 _ _ _ _ _ w (s_end hT hTa hTb).1 (s_end hT hTa hTb).2 (s_nonempty hT) (l1Read_any x0) (l1Read_any x1) (l1Read_any x2) (l1Read_any x3) (l1Read_any x4) HC1 HCa HCb
        · match hTa : cutA a 62, hE with
          | [x0, x1], _ =>
            rw [hTa] at HCa
            exact specRd_c s a b x0 x1 _ w (s_no2 hT (Or.inr hH)) hH (len b 44 zb) HC1 HCa HCb
      · exact specRd_b s a b _ _ w (s_no2 hT (Or.inl hE)) hE (len a 62 za) (len b 44 zb) HC1 HCa HCb
  · exact specRd_a s _ w (s_no1 h2) h2 (len s 58 (Nat.le_refl _)) HC1
end Go.Proofs.YtmdeekojioeomaaDoor
