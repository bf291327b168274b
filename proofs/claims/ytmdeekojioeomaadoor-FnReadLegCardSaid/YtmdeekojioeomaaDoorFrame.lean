/- The frame of a law's row: the arguments read as before, the result is true. -/
import Derived.Test.YtmdeekojioeomaaDoorScal
import Derived.OpenShut
import Derived.Lib.SmallJoins
import Derived.Deep.Slices
import Derived.Deep.Fields
import Derived.Deep.Matrix
import Derived.ChangeSame
namespace Go.Proofs.YtmdeekojioeomaaDoor
open Go.ChangeShapes Go.WideShapes Go.ChangeAt Go.RowKit Go.Deep Go.Joins
set_option linter.all false
theorem own : ownKnob Tryd.prog.godebug = none := by kernel_rfl
theorem laidOut : laidOutB Tryd.prog = true := by kernel_rfl
section
variable {H : Type} {enc : TypeId × Value → H} {P : Program}
theorem trodAll_new (hl : laidOutB P = true) {W W' : World} (hn : New W W') {sp : Nat → Bool} : ∀ {ts : List TypeId} {vs : List Value} {ds : List (DataW H)} {ps : List MemPlace},
    (∀ t ∈ ts, P.readableRec t = true ∧ t < P.types.size) → DataW.TrodAll enc P W 0 (fun _ => true) true ts vs ds ps → (∀ x ∈ ps, x.block < W.heap.size) → (∀ x ∈ ps, sp x.block = true) →
    DataW.TrodAll enc P W' 0 sp true ts vs ds ps
  | [], vs, ds, ps, _, h, _, _ => by
    cases vs <;> cases ds <;> simp [DataW.TrodAll] at h ⊢
    exact h
  | t :: ts, vs, ds, ps, hts, h, hlt, hsp => by
    obtain ⟨v, vs', d, ds', p, q, rfl, rfl, rfl, hv, hr⟩ := trodAll_cons h
    obtain ⟨h1, h2⟩ := hts t (by simp)
    exact trodAll_cons_mk (WideElems.Trod_stays hl h1 h2 hv (fun x hx => Below.same hn (hlt x (by simp [hx]))) (fun x hx => hsp x (by simp [hx])))
      (trodAll_new hl hn (fun t ht => hts t (by simp [ht])) hr (fun x hx => hlt x (by simp [hx])) (fun x hx => hsp x (by simp [hx])))

/-- A law's end: true came back, and nothing that was there has turned. -/
theorem law_post {f : Func} {s : ChangeSpec} {W W' : World} {args : Array Value} {ds gs : List (DataW H)} {before : List MemPlace} {tb : TypeId} (hl : laidOutB P = true)
    (hW : DataW.Whole enc P f.params.toList s.vars false W args.toList ds gs before) (hv : s.vars = []) (hf : (s.fn H ds).results = [.lit (.bool true)] ∧ (s.fn H ds).args = ds ∧ (s.fn H ds).vars = [])
    (hts0 : f.params.toList.all (fun t => P.readableRec t && decide (t < P.types.size)) = true) (hr : f.resultTypes = #[tb]) (hb : P.underlying tb = some .bool) (hn : New W W') :
    s.post enc P f false true false false W args (.bool true) W' := by
  have hts : ∀ t ∈ f.params.toList, P.readableRec t = true ∧ t < P.types.size := fun t ht => by
    have := List.all_eq_true.1 hts0 t ht
    simpa using this
  have hlt : ∀ x ∈ before, x.block < W.heap.size := fun x hx => hW.lt x hx
  have hW' := hW
  obtain ⟨p, q, hA, hV, rfl, hz, hd⟩ := hW
  rw [hv] at hV
  obtain ⟨rfl, rfl⟩ := trodVars_none hV
  simp only [List.append_nil] at hW' hlt
  have e1 : (s.fn H (ds ++ [])).results = [.lit (.bool true)] := by rw [List.append_nil]; exact hf.1
  have e2 : (s.fn H (ds ++ [])).args = ds := by rw [List.append_nil]; exact hf.2.1
  have e3 : (s.fn H (ds ++ [])).vars = [] := by rw [List.append_nil]; exact hf.2.2
  have hargs : ∀ sp : Nat → Bool, (∀ x ∈ p, sp x.block = true) → DataW.TrodAll enc P W' 0 sp true f.params.toList args.toList (s.fn H (ds ++ [])).args p := fun sp hsp => by
    rw [e2]; exact trodAll_new hl hn hts hA hlt hsp
  have hres : ∀ (b : Nat) (sp : Nat → Bool) (hd : Bool), DataW.TrodAll enc P W' b sp hd f.resultTypes.toList ((Value.bool true).resultList f.resultTypes.size) (s.fn H (ds ++ [])).results [] := fun b sp hd => by
    rw [e1, hr]; exact trodAll_cons_mk (shut_bool hb _) trodAll_mk0
  refine ⟨ds, [], p, [], p, [], hW', hres _ _ _, hargs _ (fun x hx => by simpa using hlt x hx), ?_, World.keptBut_mono (fun x hx => ⟨hx, Or.inr (by simpa using hx)⟩) (Below.frame hn (· ∈ p)), fun h => by cases h⟩
  rw [hv, e3]
  exact rfl
end
section
variable {H : Type} {enc : TypeId × Value → H} {P : Program} {w : World} {base : Nat} {spare : Nat → Bool} {held : Bool}
theorem int_of_cell {k : IntKind} {t : TypeId} {n : Nat} {v : Value} {y : DataW H × List MemPlace} (hs : P.underlying t = some (.int k)) (h : DataW.trod enc P w base spare held n t [v] = some y) : ∃ a : Int, v = .int k a := by
  obtain ⟨a, r, -, -⟩ := DataW.trod_int hs h
  simp at r
  exact ⟨a, r⟩
/-- The fields of a struct all of whose fields are ints: each cell holds one. -/
theorem ints_of_struct {k : IntKind} {r : Reach} {b0 : Nat} {t : TypeId} {fs : Array Field} {v : Value} {d : DataW H} {p : List MemPlace} (hs : P.underlying t = some (.struct fs)) (hone : oneCellFields P fs = true) (hC : P.cellsOf t = fs.size)
    (hi : ∀ (j : Nat) (f : Field), fs[j]? = some f → P.underlying f.type = some (.int k))
    (hv : Value.okWide P w r b0 t v) (h : DataW.Trod enc P w base spare held t v d p) : ∃ cs : List Value, v = .agg cs.toArray ∧ cs.length = fs.size ∧ ∀ j, j < fs.size → ∃ a : Int, cs[j]? = some (.int k a) := by
  obtain ⟨cs, rfl, hsz⟩ := okWide_struct hs hv
  refine ⟨cs.toList, by simp, by simp [hsz, hC], fun j hj => ?_⟩
  obtain ⟨fuel, hf⟩ := h
  obtain ⟨xs, n, _, _, _, _, hg⟩ := DataW.trod_struct hs hf
  have hfj : fs[j]? = some fs[j] := by simp [hj]
  obtain ⟨o, c⟩ := hone_of hone j _ hfj
  have h1 := hg j _ hfj
  rw [o, c] at h1
  have hjc : j < cs.toList.length := by simp [hsz, hC, hj]
  have e1 : (((Value.agg cs).cells.toList).drop j).take 1 = [cs.toList[j]] := by
    have e0 : (Value.agg cs).cells.toList = cs.toList := rfl
    rw [e0, List.drop_eq_getElem_cons hjc]
    rfl
  rw [e1] at h1
  rcases hx : xs[j]? with _ | y
  · rw [hx] at h1; obtain ⟨a, ha⟩ : ∃ a : Int, cs.toList[j] = .int k a := by
      exfalso
      have : xs.length ≤ j := List.getElem?_eq_none_iff.1 hx
      omega
    exact ⟨a, by rw [List.getElem?_eq_getElem hjc, ha]⟩
  · rw [hx] at h1
    obtain ⟨a, ha⟩ := int_of_cell (hi j _ hfj) h1
    exact ⟨a, by rw [List.getElem?_eq_getElem hjc, ha]⟩
theorem open_ints3 {k : IntKind} {r : Reach} {b0 : Nat} {t : TypeId} {f0 f1 f2 : Field} {v : Value} {d : DataW H} {p : List MemPlace} (hs : P.underlying t = some (.struct #[f0, f1, f2])) (hone : oneCellFields P #[f0, f1, f2] = true) (hC : P.cellsOf t = 3)
    (h0 : P.underlying f0.type = some (.int k)) (h1 : P.underlying f1.type = some (.int k)) (h2 : P.underlying f2.type = some (.int k))
    (hv : Value.okWide P w r b0 t v) (h : DataW.Trod enc P w base spare held t v d p) : ∃ a b c : Int, v = .agg #[.int k a, .int k b, .int k c] := by
  obtain ⟨cs, rfl, hl, hc⟩ := ints_of_struct hs hone hC (by
    intro j f hf
    match j, hf with
    | 0, hf => simp at hf; subst hf; exact h0
    | 1, hf => simp at hf; subst hf; exact h1
    | 2, hf => simp at hf; subst hf; exact h2
    | j + 3, hf => simp at hf) hv h
  match cs, hl, hc with
  | [c0, c1, c2], _, hc =>
    obtain ⟨a, q0⟩ := hc 0 (by simp)
    obtain ⟨b, q1⟩ := hc 1 (by simp)
    obtain ⟨c, q2⟩ := hc 2 (by simp)
    simp at q0 q1 q2
    subst q0 q1 q2
    exact ⟨a, b, c, rfl⟩
theorem open_ints5 {k : IntKind} {r : Reach} {b0 : Nat} {t : TypeId} {f0 f1 f2 f3 f4 : Field} {v : Value} {d : DataW H} {p : List MemPlace} (hs : P.underlying t = some (.struct #[f0, f1, f2, f3, f4])) (hone : oneCellFields P #[f0, f1, f2, f3, f4] = true) (hC : P.cellsOf t = 5)
    (h0 : P.underlying f0.type = some (.int k)) (h1 : P.underlying f1.type = some (.int k)) (h2 : P.underlying f2.type = some (.int k)) (h3 : P.underlying f3.type = some (.int k)) (h4 : P.underlying f4.type = some (.int k))
    (hv : Value.okWide P w r b0 t v) (h : DataW.Trod enc P w base spare held t v d p) : ∃ a b c d e : Int, v = .agg #[.int k a, .int k b, .int k c, .int k d, .int k e] := by
  obtain ⟨cs, rfl, hl, hc⟩ := ints_of_struct hs hone hC (by
    intro j f hf
    match j, hf with
    | 0, hf => simp at hf; subst hf; exact h0
    | 1, hf => simp at hf; subst hf; exact h1
    | 2, hf => simp at hf; subst hf; exact h2
    | 3, hf => simp at hf; subst hf; exact h3
    | 4, hf => simp at hf; subst hf; exact h4
    | j + 5, hf => simp at hf) hv h
  match cs, hl, hc with
  | [c0, c1, c2, c3, c4], _, hc =>
    obtain ⟨a, q0⟩ := hc 0 (by simp)
    obtain ⟨b, q1⟩ := hc 1 (by simp)
    obtain ⟨c, q2⟩ := hc 2 (by simp)
    obtain ⟨d, q3⟩ := hc 3 (by simp)
    obtain ⟨e, q4⟩ := hc 4 (by simp)
    simp at q0 q1 q2 q3 q4
    subst q0 q1 q2 q3 q4
    exact ⟨a, b, c, d, e, rfl⟩
end
end Go.Proofs.YtmdeekojioeomaaDoor
