/- Drawn legs and ways. -/
import Derived.Test.YtpnjmifjaedfcaaDoorDraw
import Derived.Test.YtpnjmifjaedfcaaDoorLeg
namespace Go.Proofs.YtpnjmifjaedfcaaDoor
open Go.RowKit
set_option linter.all false
set_option maxHeartbeats 1000000 in
theorem l20Way_any (rb b : Nat) (w : World) (hr : Rd w rb b) (hb : b ≤ 1000000000) :
    Calls Tryd.prog 50 #[.pointer (some ⟨rb, 0, none⟩)] w fun r w' => ∃ x y z : Int, r = .returned (.agg #[.int .i64 x, .int .i64 y, .int .i64 z]) ∧ (-1000 ≤ x ∧ x ≤ 1000 ∧ -1000 ≤ y ∧ y ≤ 1000 ∧ -1000 ≤ z ∧ z ≤ 1000) ∧ Only rb w w' ∧ Rd w' rb (b + 3) := by
  have hlt := hr.lt
  have h1 := Has.new w #[.int .i64 0, .int .i64 0, .int .i64 0] 39
  have ho := Only.alloc (Only.refl rb w) (Obj.cells #[.int .i64 0, .int .i64 0, .int .i64 0] 39)
  have hr1 := hr.keep ((New.refl w).alloc (Obj.cells #[.int .i64 0, .int .i64 0, .int .i64 0] 39))
  clear hr
  go_enter Tryd.func50, Tryd.ntmps50
  go_upto_region 1 with fail
  generalize (w.alloc (Obj.cells #[.int .i64 0, .int .i64 0, .int .i64 0] 39)) = W0 at *
  go_wp2_with fail
  refine (pick_any rb _ _ _ hr1 (by omega) (by omega)).mono ?_
  rintro e w1 ⟨x, rfl, x0, x1, o1, r1⟩
  have x2 := x1 (by omega)
  have h2 := h1.only o1 (by omega)
  have ho1 := ho.trans o1
  clear x1 h1 ho o1 hr1
  go_wp2_with fail
  refine (pick_any rb _ _ _ r1 (by omega) (by omega)).mono ?_
  rintro e w2 ⟨y, rfl, y0, y1, o2, r2⟩
  have y2 := y1 (by omega)
  have h3 := h2.only o2 (by omega)
  have ho2 := ho1.trans o2
  clear y1 h2 ho1 o2 r1
  go_wp2_with fail
  refine (pick_any rb _ _ _ r2 (by omega) (by omega)).mono ?_
  rintro e w3 ⟨z, rfl, z0, z1, o3, r3⟩
  have z2 := z1 (by omega)
  have h4 := h3.only o3 (by omega)
  have ho3 := ho2.trans o3
  have h5 := h4.at3
  have c0 := (h4.set3 (y0 := .int .i64 (x - 30)) (y1 := .int .i64 (y - 30)) (y2 := .int .i64 (z - 30))).at3
  have r4 := ((r3.far (p := ⟨w.heap.size, 0, none⟩) hlt (.int .i64 (x - 30))).far (p := ⟨w.heap.size, 1, none⟩) hlt (.int .i64 (y - 30))).far (p := ⟨w.heap.size, 2, none⟩) hlt (.int .i64 (z - 30))
  have ho4 := ((ho3.setNew (p := ⟨w.heap.size, 0, none⟩) (Nat.le_refl _) (.int .i64 (x - 30))).setNew (p := ⟨w.heap.size, 1, none⟩) (Nat.le_refl _) (.int .i64 (y - 30))).setNew (p := ⟨w.heap.size, 2, none⟩) (Nat.le_refl _) (.int .i64 (z - 30))
  clear z1 h3 ho2 o3 r2
  go_wp2_with fail
  exact bodyPost_ret (v := .agg #[.int .i64 (x - 30), .int .i64 (y - 30), .int .i64 (z - 30)]) (by simp [results, Tryd.results50, go_sem, c0]) rfl ⟨_, _, _, rfl, by omega, ho4, r4⟩
theorem New.of_only {a b c : World} {g : Nat} (h : New a b) (ho : Only g b c) (hg : a.heap.size ≤ g) : New a c := New.only h ho hg
set_option maxHeartbeats 1000000 in
theorem drawWayAdd_any (A : Option Addr) (n cap : Nat) (w : World) (hB : Bytes w A n) (hc : n ≤ cap) (hn : n ≤ maxLen) :
    Calls Tryd.prog 22 #[.slice A n cap] w fun r w' => ∃ a b c d e f : Int, r = .returned (.tuple #[.agg #[.int .i64 a, .int .i64 b, .int .i64 c], .agg #[.int .i64 d, .int .i64 e, .int .i64 f]]) ∧ (-1000 ≤ a ∧ a ≤ 1000 ∧ -1000 ≤ b ∧ b ≤ 1000 ∧ -1000 ≤ c ∧ c ≤ 1000) ∧ (-1000 ≤ d ∧ d ≤ 1000 ∧ -1000 ≤ e ∧ e ≤ 1000 ∧ -1000 ≤ f ∧ f ≤ 1000) ∧ New w w' := by
  go_enter Tryd.func22, Tryd.ntmps22
  go_upto_region 1 with fail
  have h1 := (Has.new w #[.int .i64 0, .int .i64 0, .int .i64 0] 39).alloc (.cells #[.int .i64 0, .int .i64 0, .int .i64 0] 39)
  have h2 := Has.new (w.alloc (.cells #[.int .i64 0, .int .i64 0, .int .i64 0] 39)) #[.int .i64 0, .int .i64 0, .int .i64 0] 39
  have hk : New w ((w.alloc (.cells #[.int .i64 0, .int .i64 0, .int .i64 0] 39)).alloc (.cells #[.int .i64 0, .int .i64 0, .int .i64 0] 39)) := (by repeat (first | with_reducible exact New.refl _ | with_reducible assumption | with_reducible refine New.alloc ?_ _ | with_reducible refine New.drewN ?_ _ | with_reducible refine New.drew ?_ | with_reducible refine New.setCell ?_ (by first | omega | (simp; done) | (simp; omega)) _ | with_reducible refine New.tail (by assumption) ?_))
  have hz : w.heap.size + 2 ≤ ((w.alloc (.cells #[.int .i64 0, .int .i64 0, .int .i64 0] 39)).alloc (.cells #[.int .i64 0, .int .i64 0, .int .i64 0] 39)).heap.size := by simp
  rw [World.size_alloc] at h2
  generalize ((w.alloc (.cells #[.int .i64 0, .int .i64 0, .int .i64 0] 39)).alloc (.cells #[.int .i64 0, .int .i64 0, .int .i64 0] 39)) = W0 at *
  go_wp2_with fail
  refine (l20Open_any A n cap _ (hB.keep hk) hc hn).mono ?_
  rintro e w1 ⟨rfl, hn1, hr1⟩
  have h3 := h1.keep hn1
  have h4 := h2.keep hn1
  have hk1 := hk.trans hn1
  clear h1 h2 hn1
  go_wp2_with fail
  refine (l20Way_any _ _ _ hr1 (by omega)).mono ?_
  rintro e w2 ⟨a, b, c, rfl, hab, ho2, hr2⟩
  have h5 := h3.only ho2 (by omega)
  have h6 := h4.only ho2 (by omega)
  have hk2 := hk1.of_only ho2 (by omega)
  clear h3 h4 hk1 ho2 hr1
  go_wp2_with fail
  refine (l20Way_any _ _ _ hr2 (by omega)).mono ?_
  rintro e w3 ⟨d, e, f, rfl, hde, ho3, -⟩
  have h7 := h5.only ho3 (by omega)
  have h8 := h6.only ho3 (by omega)
  have hk3 := hk2.of_only ho3 (by omega)
  have c7 := h7.at3
  have c8 := h8.at3
  clear h5 h6 hk2 ho3 hr2
  go_wp2_with fail
  have g7 := ((((h7.set3 (y0 := .int .i64 a) (y1 := .int .i64 b) (y2 := .int .i64 c)).far (p := ⟨w.heap.size + 1, 0, none⟩) (by simp) (.int .i64 d)).far (p := ⟨w.heap.size + 1, 1, none⟩) (by simp) (.int .i64 e)).far (p := ⟨w.heap.size + 1, 2, none⟩) (by simp) (.int .i64 f)).at3
  have g8 := ((((h8.far (p := ⟨w.heap.size, 0, none⟩) (by simp) (.int .i64 a)).far (p := ⟨w.heap.size, 1, none⟩) (by simp) (.int .i64 b)).far (p := ⟨w.heap.size, 2, none⟩) (by simp) (.int .i64 c)).set3 (y0 := .int .i64 d) (y1 := .int .i64 e) (y2 := .int .i64 f)).at3
  exact bodyPost_ret (v := .tuple #[.agg #[.int .i64 a, .int .i64 b, .int .i64 c], .agg #[.int .i64 d, .int .i64 e, .int .i64 f]]) (by simp [results, Tryd.results22, go_sem, g7, g8]) rfl ⟨a, b, c, d, e, f, rfl, hab, hde, (by repeat (first | with_reducible exact New.refl _ | with_reducible assumption | with_reducible refine New.alloc ?_ _ | with_reducible refine New.drewN ?_ _ | with_reducible refine New.drew ?_ | with_reducible refine New.setCell ?_ (by first | omega | (simp; done) | (simp; omega)) _ | with_reducible refine New.tail (by assumption) ?_))⟩
set_option maxHeartbeats 1000000 in
theorem drawWayTimes_any (A : Option Addr) (n cap : Nat) (w : World) (hB : Bytes w A n) (hc : n ≤ cap) (hn : n ≤ maxLen) :
    Calls Tryd.prog 26 #[.slice A n cap] w fun r w' => ∃ a b c k : Int, r = .returned (.tuple #[.agg #[.int .i64 a, .int .i64 b, .int .i64 c], .int .i64 k]) ∧ (-1000 ≤ a ∧ a ≤ 1000 ∧ -1000 ≤ b ∧ b ≤ 1000 ∧ -1000 ≤ c ∧ c ≤ 1000) ∧ (-1000 ≤ k ∧ k ≤ 1000) ∧ New w w' := by
  go_enter Tryd.func26, Tryd.ntmps26
  go_upto_region 1 with fail
  have h1 := (Has.new w #[.int .i64 0, .int .i64 0, .int .i64 0] 39)
  have hk : New w (w.alloc (.cells #[.int .i64 0, .int .i64 0, .int .i64 0] 39)) := (by repeat (first | with_reducible exact New.refl _ | with_reducible assumption | with_reducible refine New.alloc ?_ _ | with_reducible refine New.drewN ?_ _ | with_reducible refine New.drew ?_ | with_reducible refine New.setCell ?_ (by first | omega | (simp; done) | (simp; omega)) _ | with_reducible refine New.tail (by assumption) ?_))
  have hz : w.heap.size + 1 ≤ (w.alloc (.cells #[.int .i64 0, .int .i64 0, .int .i64 0] 39)).heap.size := by simp
  generalize (w.alloc (.cells #[.int .i64 0, .int .i64 0, .int .i64 0] 39)) = W0 at *
  go_wp2_with fail
  refine (l20Open_any A n cap _ (hB.keep hk) hc hn).mono ?_
  rintro e w1 ⟨rfl, hn1, hr1⟩
  have h3 := h1.keep hn1
  have hk1 := hk.trans hn1
  clear h1 hn1
  go_wp2_with fail
  refine (l20Way_any _ _ _ hr1 (by omega)).mono ?_
  rintro e w2 ⟨a, b, c, rfl, hab, ho2, hr2⟩
  have h5 := h3.only ho2 (by omega)
  have hk2 := hk1.of_only ho2 (by omega)
  clear h3 hk1 ho2 hr1
  go_wp2_with fail
  refine (pick_any _ _ _ _ hr2 (by omega) (by omega)).mono ?_
  rintro e w3 ⟨k, rfl, k0, k1, ho3, -⟩
  have k2 := k1 (by omega)
  have h7 := h5.only ho3 (by omega)
  have hk3 := hk2.of_only ho3 (by omega)
  have c7 := h7.at3
  clear h5 hk2 ho3 hr2 k1
  go_wp2_with fail
  have g7 := (h7.set3 (y0 := .int .i64 a) (y1 := .int .i64 b) (y2 := .int .i64 c)).at3
  exact bodyPost_ret (v := .tuple #[.agg #[.int .i64 a, .int .i64 b, .int .i64 c], .int .i64 (k - 9)]) (by simp [results, Tryd.results26, go_sem, g7]) rfl ⟨a, b, c, k - 9, rfl, hab, by omega, (by repeat (first | with_reducible exact New.refl _ | with_reducible assumption | with_reducible refine New.alloc ?_ _ | with_reducible refine New.drewN ?_ _ | with_reducible refine New.drew ?_ | with_reducible refine New.setCell ?_ (by first | omega | (simp; done) | (simp; omega)) _ | with_reducible refine New.tail (by assumption) ?_))⟩
end Go.Proofs.YtpnjmifjaedfcaaDoor
