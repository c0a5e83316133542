/-
  Part 9 of the proof: contracts of the functions that the law reaches, and the rules they stand on. Own work (an AI agent). No conditions.
-/
import Derived.Test.YtnnheophehnioaaGreatTN8
import Derived.Test.YtnnheophehnioaaGreatRows
import Derived.WalkKit
import Derived.ProofKit
import Derived.OpenShut
import Derived.ReadAgain
import Derived.Lib.SmallJoins
set_option linter.unusedSimpArgs false
set_option linter.unusedVariables false
namespace Go.Sx
open Go.ChangeShapes Go.WideShapes Go.ChangeAt Go.RowKit Go.Joins Go.Deep

theorem calls_of {P : Program} {f : FuncId} {args : List Value} {R : Value → HPred} {w : World} (h : callF P f args R w.heap)
    (he : ∀ w, (callFunc f args.toArray).run P w = .ok (.enter f args.toArray) w) : Calls P f args.toArray w fun e w' => ∃ v, e = .returned v ∧ R v w'.heap ∧ Same w w' := by
  rcases h with ⟨_, h⟩ | h
  · exact h w rfl
  · obtain ⟨a, w', hr, hk, _⟩ := semM_sound _ h
    rw [he] at hr
    cases hr
    exact hk.elim

theorem kept_ext {W W' : World} (hs : Same W W') (hx : Ext0 W.heap W'.heap) (may : MemPlace → Prop) : W.keptBut W' may := by
  refine ⟨hs.os, hs.output, fun i hi => ?_⟩
  rw [hx.keep i hi id]
  cases W.heap[i]? with
  | none => rfl
  | some o => cases o <;> simp

theorem same_ext {W W' : World} (hx : Ext0 W.heap W'.heap) {p : MemPlace} (hp : p.block < W.heap.size) : W.sameAt W' p := by
  cases p with
  | cell b off =>
    show cellH W'.heap ⟨b, off, none⟩ = cellH W.heap ⟨b, off, none⟩
    simp only [cellH]
    rw [hx.keep b hp id]
  | map b => exact hx.keep b hp id

section
variable {X : Type} {enc : TypeId × Value → X} {P : Program} {T : TypeId → Prop}
theorem trodAll_ext (K : Kids P T) (hz : ∀ t e, T t → P.underlying t = some (.slice e) → 0 < P.cellsOf e) {W W' : World} (hx : Ext0 W.heap W'.heap) {sp : Nat → Bool} :
    ∀ {ts : List TypeId} {vs : List Value} {ds : List (DataW X)} {ps : List MemPlace}, (∀ t ∈ ts, T t) → DataW.TrodAll enc P W 0 (fun _ => true) true ts vs ds ps → (∀ p ∈ ps, sp p.block = true) →
      DataW.TrodAll enc P W' 0 sp true ts vs ds ps := by
  intro ts vs ds ps hT h hs
  have h1 := h.respare K hz hT hs
  clear h hs
  induction ts generalizing vs ds ps with
  | nil => cases vs <;> cases ds <;> exact h1
  | cons t ts ih =>
    match vs, ds, h1 with
    | v :: vs, d :: ds, h1 =>
      obtain ⟨p, q, ⟨n, hn⟩, h2, e⟩ := h1
      have hlt := DataW.TrodAll.lt (ts := t :: ts) (vs := v :: vs) (ds := d :: ds) (ps := ps) (enc := enc) (P := P) (w := W) ⟨p, q, ⟨n, hn⟩, h2, e⟩
      exact ⟨p, q, ⟨n, DataW.trod_carry n t _ _ hn fun x hxp => same_ext hx (hlt x (by rw [e]; exact List.mem_append_left _ hxp))⟩, ih (fun t ht => hT t (List.mem_cons_of_mem _ ht)) h2, e⟩

/-- What every law's row asks for: true; the arguments read as before. -/
theorem post_true (K : Kids P T) (hz : ∀ t e, T t → P.underlying t = some (.slice e) → 0 < P.cellsOf e) {f : Func} {s : ChangeSpec} {apart fresh handsOn : Bool} {W W' : World} {args : Array Value} {ds gs : List (DataW X)} {before : List MemPlace} {tb : TypeId}
    (hW : DataW.Whole enc P f.params.toList s.vars apart W args.toList ds gs before) (hv : s.vars = []) (hfn : ∀ ds' : List (DataW X), ds' = ds → s.fn X ds' = { results := [.lit (.bool true)], args := ds' })
    (ht : f.resultTypes = #[tb]) (hb : P.underlying tb = some .bool) (hT : ∀ t ∈ f.params.toList, T t) (hs : Same W W') (hx : Ext0 W.heap W'.heap) :
    s.post enc P f apart fresh handsOn false W args (.bool true) W' := by
  have hlt := hW.lt
  have hW' := hW
  obtain ⟨p, q, hA, hV, rfl, _, _⟩ := hW'
  rw [hv] at hV
  cases gs with
  | cons g gs => exact hV.elim
  | nil =>
    cases (show q = [] from hV)
    have hold : ∀ x ∈ p, decide (x.block < W.heap.size) = true := fun x hxp => by simpa using hlt x (by simpa using hxp)
    have e1 : s.fn X (ds ++ []) = { results := [.lit (.bool true)], args := ds } := by
      rw [List.append_nil]; exact hfn ds rfl
    refine ⟨ds, [], p ++ [], [], p, [], hW, ?_, ?_, ?_, kept_ext hs hx _, fun h => by cases h⟩
    · rw [e1, ht]
      exact trodAll_cons_mk (shut_bool hb _) trodAll_mk0
    · rw [e1]
      exact trodAll_ext K hz hx hT hA hold
    · rw [hv, e1]
      rfl

theorem open_agg6 {w : World} {base : Nat} {spare : Nat → Bool} {held : Bool} {r : Reach} {b0 : Nat} {t : TypeId} {f0 f1 f2 f3 f4 f5 : Field} {v : Value} {d : DataW X} {p : List MemPlace} (hs : P.underlying t = some (.struct #[f0, f1, f2, f3, f4, f5])) (hone : oneCellFields P #[f0, f1, f2, f3, f4, f5] = true) (hC : P.cellsOf t = 6)
    (hv : Value.okWide P w r b0 t v) (h : DataW.Trod enc P w base spare held t v d p) :
    ∃ (v0 v1 v2 v3 v4 v5 : Value) (y0 y1 y2 y3 y4 y5 : DataW X × List MemPlace) (n : Nat), v = .agg #[v0, v1, v2, v3, v4, v5] ∧
      DataW.trod enc P w base spare held n f0.type [v0] = some y0 ∧ DataW.trod enc P w base spare held n f1.type [v1] = some y1 ∧ DataW.trod enc P w base spare held n f2.type [v2] = some y2 ∧ DataW.trod enc P w base spare held n f3.type [v3] = some y3 ∧ DataW.trod enc P w base spare held n f4.type [v4] = some y4 ∧ DataW.trod enc P w base spare held n f5.type [v5] = some y5 := by
  obtain ⟨cs, rfl, hsz⟩ := okWide_struct hs hv
  obtain ⟨l⟩ := cs
  match l, hsz.trans hC with
  | [c0, c1, c2, c3, c4, c5], _ =>
    obtain ⟨fuel, hf⟩ := h
    obtain ⟨xs, n, _, hx, _, hlen, hg⟩ := DataW.trod_struct hs hf
    obtain ⟨o0, k0⟩ := hone_of hone 0 f0 rfl
    obtain ⟨o1, k1⟩ := hone_of hone 1 f1 rfl
    obtain ⟨o2, k2⟩ := hone_of hone 2 f2 rfl
    obtain ⟨o3, k3⟩ := hone_of hone 3 f3 rfl
    obtain ⟨o4, k4⟩ := hone_of hone 4 f4 rfl
    obtain ⟨o5, k5⟩ := hone_of hone 5 f5 rfl
    match xs, hlen with
    | [y0, y1, y2, y3, y4, y5], _ =>
      exact ⟨c0, c1, c2, c3, c4, c5, y0, y1, y2, y3, y4, y5, n, rfl, by simpa [Value.cells, o0, k0] using hg 0 f0 rfl, by simpa [Value.cells, o1, k1] using hg 1 f1 rfl, by simpa [Value.cells, o2, k2] using hg 2 f2 rfl, by simpa [Value.cells, o3, k3] using hg 3 f3 rfl, by simpa [Value.cells, o4, k4] using hg 4 f4 rfl, by simpa [Value.cells, o5, k5] using hg 5 f5 rfl⟩
end
end Go.Sx

namespace Go.Proofs.YtnnheophehnioaaGreat
open Go.Sx Go.Proofs
theorem kids : Kids Tryz.prog (· < Tryz.prog.types.size) := kids_rows (by kernel_rfl) (by kernel_rfl)
theorem full : ∀ t e, t < Tryz.prog.types.size → Tryz.prog.underlying t = some (.slice e) → 0 < Tryz.prog.cellsOf e := slices_full_of Tryz.prog (by kernel_rfl)
end Go.Proofs.YtnnheophehnioaaGreat
namespace Go.Proofs.YtnnheophehnioaaGreat.tableOfNothing
open Go.ChangeShapes Go.WideShapes Go.ChangeAt Go.RowKit Go.Sx
set_option linter.unusedVariables false
set_option maxRecDepth 100000

theorem own : ownKnob Tryz.prog.godebug = none := by kernel_rfl
theorem cellsE : Tryz.prog.cellsOf 53 = 6 := by kernel_rfl
theorem params_lt : ∀ t ∈ Tryz.f5.params.toList, t < Tryz.prog.types.size :=
  fun t ht => of_decide_eq_true (List.all_eq_true.1 (by kernel_rfl : (Tryz.f5.params.toList.all fun t => decide (t < Tryz.prog.types.size)) = true) t ht)
theorem lifted (os : Os) (started : os.Started) (H : Type) (enc : TypeId × Value → H) :
    ReturnsInHanded {} Tryz.checked os 5 .any (Rows.tableOfNothingSpec.pre6 enc Tryz.prog Tryz.f5 Rows.tableOfNothingRow.domain false) (Rows.tableOfNothingSpec.post enc Tryz.prog Tryz.f5 false true false false) := by
  refine returnsInHanded_of_change (C := Tryz.checked) own started (by kernel_rfl) Tryz.func5
    (ChangeSpec.witness6 (enc := enc) (C := Tryz.checked) false ⟨#[], #[.int .i64 0, .agg #[.int .i64 0, .int .i64 0, .int .i64 0, .int .i64 0, .int .u16 0, .int .i64 0], .int .i64 0], []⟩ 8 (by kernel_rfl) (by kernel_rfl) (by kernel_rfl) (by kernel_rfl)) ?_
  intro W base args ds gs before hval0 hW hcnd _
  have hval : ∀ (j : Nat) t v, Tryz.f5.params[j]? = some t → args[j]? = some v → Value.okWide Tryz.prog W .any base t v := hval0
  have hW' := hW
  obtain ⟨p, q, hA0, hV, rfl, hfz, hnd⟩ := hW
  have hA : DataW.TrodAll enc Tryz.prog W 0 (fun _ => true) true Tryz.f5.params.toList args.toList ds p := hA0
  rw [Tryz.params5] at hA hval
  obtain ⟨v0, vs0, d0, ds0, p0, q0, hargs, hds0, rfl, h0, r0⟩ := trodAll_cons hA
  obtain ⟨v1, vs1, d1, ds1, p1, q1, rfl, rfl, rfl, h1, r1⟩ := trodAll_cons r0
  obtain ⟨v2, vs2, d2, ds2, p2, q2, rfl, rfl, rfl, h2, r2⟩ := trodAll_cons r1
  obtain ⟨rfl, rfl, rfl⟩ := trodAll_nil r2
  obtain rfl : args = #[v0, v1, v2] := by cases args; simp_all
  obtain ⟨a0, rfl, _, _, w0⟩ := open_int Tryz.underlying3 (hval 0 _ v0 rfl rfl) h0
  obtain ⟨a2, rfl, _, _, w2⟩ := open_int Tryz.underlying3 (hval 2 _ v2 rfl rfl) h2
  obtain ⟨c0, c1, c2, c3, c4, c5, y0, y1, y2, y3, y4, y5, n, rfl, g0, g1, g2, g3, g4, g5⟩ := open_agg6 Tryz.underlying53 (by kernel_rfl) cellsE (hval 1 _ v1 rfl rfl) h1
  obtain ⟨x0, e0, _, _⟩ := DataW.trod_int Tryz.underlying3 g0
  obtain ⟨x1, e1, _, _⟩ := DataW.trod_int Tryz.underlying3 g1
  obtain ⟨x2, e2, _, _⟩ := DataW.trod_int Tryz.underlying3 g2
  obtain ⟨x3, e3, _, _⟩ := DataW.trod_int Tryz.underlying3 g3
  obtain ⟨x4, e4, _, _⟩ := DataW.trod_int Tryz.underlying51 g4
  obtain ⟨x5, e5, _, _⟩ := DataW.trod_int Tryz.underlying3 g5
  simp only [List.cons.injEq, and_true] at e0 e1 e2 e3 e4 e5
  subst e0 e1 e2 e3 e4 e5
  have call := tableOfNothing_ok (H := W.heap) a0 a2 { kind := x0, player := x1, other := x2, frame := x3, inn := x4, n := x5 } (K := fun v H' => v = .bool true ∧ Ext0 W.heap H') fun H' hx => ⟨rfl, hx⟩
  refine (calls_of call (fun w => by rfl)).mono fun e W' ⟨v, he, ⟨hv, hx⟩, hs⟩ => ?_
  subst he hv
  exact ⟨_, rfl, post_true kids full hW' rfl (fun ds' hd => by rw [hd, hds0]; rfl) rfl Tryz.underlying4 params_lt hs hx⟩

theorem over : Rows.tableOfNothingRow.holds Tryz.pinned (OpenSpec.ofChange Rows.tableOfNothingSpec) :=
  OpenClaim.holds_of_wide 5 Tryz.f5 rfl rfl rfl rfl rfl rfl rfl ⟨rfl, rfl, rfl, rfl, rfl⟩ rfl rfl rfl rfl rfl (by kernel_rfl) Tryz.func5 (by kernel_rfl)
    (of_decide_eq_true (by kernel_rfl)) (by unfold Func.isWrapper; first | (rw [if_pos (by decide +kernel)]; kernel_rfl) | (rw [if_neg (by decide +kernel)]; exact ⟨rfl, rfl⟩))
    (fun os started H enc _ => lifted os started H enc)

theorem proved : Rows.TableOfNothingSaid := over
end Go.Proofs.YtnnheophehnioaaGreat.tableOfNothing
