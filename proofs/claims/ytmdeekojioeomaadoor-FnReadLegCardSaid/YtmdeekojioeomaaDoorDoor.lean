/- What the door rows share: the listed variables, the witness, the table, the argument of bytes. -/
import Derived.Test.YtmdeekojioeomaaDoorText
import Derived.Test.YtmdeekojioeomaaDoorDraw
import Derived.Test.YtmdeekojioeomaaDoorFrame
import Derived.Test.YtmdeekojioeomaaDoorCards
import Derived.Test.YtmdeekojioeomaaDoorTie
import Derived.ProofKit
import Derived.LaidMore
import Derived.OpenShut
import Derived.Stop.Joined
import Derived.SevenTiedAt
import Derived.Lib.LaidTab
import Derived.Test.YtmdeekojioeomaaDoorOpen
namespace Go.Proofs.YtmdeekojioeomaaDoor
open Go.ChangeShapes Go.WideShapes Go.ChangeAt Go.RowKit Go.Deep Go.Joins
set_option linter.all false
abbrev laidL : List (String × DataW Unit) := [("math/bits.deBruijn32tab", Rows.laid_math_bits_deBruijn32tab), ("math/bits.deBruijn64tab", Rows.laid_math_bits_deBruijn64tab), ("internal/strconv.uint64pow10", Rows.laid_internal_strconv_uint64pow10)]
set_option maxRecDepth 100000 in
theorem laidL_met (os : Os) (args : Array Value) : laidMetH Tryd.prog laidL ((World.doorLaid Tryd.prog 400 os).forCall (fun _ _ => 0) ⟨#[], args, []⟩).memory :=
  laidMetH_of_parts3 (fuel := 8) (laidMet_of_run' 8 (by kernel_rfl) (by kernel_rfl)) (by kernel_rfl) (by kernel_rfl)
theorem tabType : ((Tryd.prog.globalNamed "internal/strconv.uint64pow10").bind fun g => (Tryd.prog.globals[g]?).map (·.type)) = some 97 := by kernel_rfl
theorem tabGlobal : ∃ g t n e, Tryd.prog.globalNamed "internal/strconv.uint64pow10" = some g ∧ (Tryd.prog.globals[g]?).map (·.type) = some t ∧ Tryd.prog.underlying t = some (.array n e) ∧ Tryd.prog.underlying e = some (.int .u64) ∧ Tryd.prog.cellsOf e = 1 ∧ Tryd.prog.cellsOf t = n := by
  obtain ⟨g, hg⟩ := Option.isSome_iff_exists.1 tabG
  have h := tabType
  rw [hg, Option.bind_some] at h
  exact ⟨g, _, _, _, hg, h, Tryd.underlying97, Tryd.underlying81, by kernel_rfl, by kernel_rfl⟩
set_option maxRecDepth 100000 in
theorem tabLaid : (Rows.laid_internal_strconv_uint64pow10 : DataW Unit) = Lib.tabData .u64 Lib.pow10Tab := by kernel_rfl
set_option maxRecDepth 100000 in
theorem tab_of_laid {W : World} (h : laidMetH Tryd.prog laidL W) : Tab W := by
  rw [MakeChecks.laidMetH_plain _ _ _ (by kernel_rfl)] at h
  obtain ⟨ps, ⟨g0, t0, cs0, f0, p0, q0, hg0, ht0, hv0, hd0, ⟨g1, t1, cs1, f1, p1, q1, hg1, ht1, hv1, hd1, ⟨g2, t2, cs2, f2, p2, q2, hg2, ht2, hv2, hd2, _, _⟩, _⟩, _⟩, _, _⟩ := h
  obtain ⟨g, t, n, e, hg, hty, ht, he, hce, hct⟩ := tabGlobal
  obtain rfl := Option.some.inj (hg.symm.trans hg2)
  obtain rfl := Option.some.inj (hty.symm.trans ht2)
  unfold Tab Lib.TabIs
  rw [tabLaid] at hd2
  rw [hv2, ← Lib.cells_of_tab ht he hce hct hd2]
theorem add_zero' (a : Addr) : a.add 0 = a := by unfold Addr.add; simp

set_option maxRecDepth 100000 in
theorem open_bytes {H : Type} {enc : TypeId × Value → H} {w : World} {base : Nat} {spare : Nat → Bool} {held : Bool} {r : Reach} {b0 : Nat} {v : Value} {d : DataW H} {p : List MemPlace}
    (hv : Value.okWide Tryd.prog w r b0 22 v) (h : DataW.Trod enc Tryd.prog w base spare held 22 v d p) :
    ∃ (A : Option Addr) (n cap : Nat), v = .slice A n cap ∧ Bytes w A n ∧ n ≤ cap ∧ n ≤ maxLen := by
  obtain ⟨a0, len, cap, rfl⟩ := okWide_slice Tryd.underlying22 hv
  obtain ⟨fuel, hf⟩ := h
  have e0 : (Value.slice a0 len cap).cells.toList = [Value.slice a0 len cap] := rfl
  rcases open_slice Tryd.underlying22 hf with ⟨e1, -⟩ | ⟨a, len', cap', m, n, D, Pl, e1, hb, hl, hmx, hm, -, hi⟩
  · have e2 : a0 = none ∧ len = 0 ∧ cap = 0 := by rw [e0] at e1; simpa using e1
    obtain ⟨rfl, rfl, rfl⟩ := e2
    exact ⟨none, 0, 0, rfl, fun h => absurd h (by omega), Nat.le_refl _, Nat.zero_le _⟩
  · have e2 : a0 = some a ∧ len = len' ∧ cap = cap' := by rw [e0] at e1; simpa using e1
    obtain ⟨rfl, rfl, rfl⟩ := e2
    have hC : Tryd.prog.cellsOf 5 = 1 := by kernel_rfl
    have hml : len ≤ m := by rw [hm]; split <;> omega
    have hall : ∀ i, i < len → ∃ x : Nat, x ≤ 255 ∧ w.cell? (a.add i) = some (.int .u8 x) := by
      intro i hil
      obtain ⟨cs', hc, ht'⟩ := hi i (by omega)
      rw [hC, Nat.mul_one] at hc
      obtain ⟨_, hcl, hat⟩ := World.cells?_some hc
      match cs', hcl with
      | [c0], _ =>
        obtain ⟨q, hq, -, hwf⟩ := DataW.trod_int Tryd.underlying5 ht'
        have hq' : c0 = .int .u8 q := by simpa using hq
        have hbd := bounds_u8 hwf
        have := hat 0 (by omega)
        rw [add_zero'] at this
        refine ⟨q.toNat, by omega, ?_⟩
        rw [show ((q.toNat : Nat) : Int) = q by omega, ← hq']
        simpa using this
    refine ⟨some a, len, cap, rfl, fun h0 => ?_, hl, by omega⟩
    obtain ⟨x0, _, h00⟩ := hall 0 h0
    rw [add_zero'] at h00
    have hsp := spot_of_cell h00
    have hlt := World.block_lt_of_cell? w a h00
    refine ⟨a.block, a.off, by rw [← hsp], hlt, fun k hk => ?_⟩
    obtain ⟨x, hx, h5⟩ := hall k hk
    rw [hsp] at h5
    simp only [add_none] at h5
    exact ⟨x, hx, h5⟩
end Go.Proofs.YtmdeekojioeomaaDoor
