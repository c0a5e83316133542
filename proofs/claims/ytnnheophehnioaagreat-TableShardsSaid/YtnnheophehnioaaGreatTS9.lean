/-
  Part 9 of the proof: contracts of the functions that the law reaches, and the rules they stand on. Own work (an AI agent). No conditions.
-/
import Derived.Test.YtnnheophehnioaaGreatTS8
import Derived.Test.YtnnheophehnioaaGreatRows
import Derived.WalkKit
import Derived.ProofKit
import Derived.OpenShut
import Derived.ReadAgain
import Derived.Lib.SmallJoins
set_option linter.unusedSimpArgs false
set_option linter.unusedVariables false
namespace Go.Sx
open Go.ChangeShapes Go.WideShapes Go.ChangeAt Go.RowKit Go.Joins Go.Deep

theorem calls_of {P : Program} {f : FuncId} {args : List Value} {R : Value → HPred} {w : World} (h : callF P f args R w.heap)
    (he : ∀ w, (callFunc f args.toArray).run P w = .ok (.enter f args.toArray) w) : Calls P f args.toArray w fun e w' => ∃ v, e = .returned v ∧ R v w'.heap ∧ Same w w' := by
  rcases h with ⟨_, h⟩ | h
  · exact h w rfl
  · obtain ⟨a, w', hr, hk, _⟩ := semM_sound _ h
    rw [he] at hr
    cases hr
    exact hk.elim

theorem kept_ext {W W' : World} (hs : Same W W') (hx : Ext0 W.heap W'.heap) (may : MemPlace → Prop) : W.keptBut W' may := by
  refine ⟨hs.os, hs.output, fun i hi => ?_⟩
  rw [hx.keep i hi id]
  cases W.heap[i]? with
  | none => rfl
  | some o => cases o <;> simp

theorem same_ext {W W' : World} (hx : Ext0 W.heap W'.heap) {p : MemPlace} (hp : p.block < W.heap.size) : W.sameAt W' p := by
  cases p with
  | cell b off =>
    show cellH W'.heap ⟨b, off, none⟩ = cellH W.heap ⟨b, off, none⟩
    simp only [cellH]
    rw [hx.keep b hp id]
  | map b => exact hx.keep b hp id

section
variable {X : Type} {enc : TypeId × Value → X} {P : Program} {T : TypeId → Prop}
theorem trodAll_ext (K : Kids P T) (hz : ∀ t e, T t → P.underlying t = some (.slice e) → 0 < P.cellsOf e) {W W' : World} (hx : Ext0 W.heap W'.heap) {sp : Nat → Bool} :
    ∀ {ts : List TypeId} {vs : List Value} {ds : List (DataW X)} {ps : List MemPlace}, (∀ t ∈ ts, T t) → DataW.TrodAll enc P W 0 (fun _ => true) true ts vs ds ps → (∀ p ∈ ps, sp p.block = true) →
      DataW.TrodAll enc P W' 0 sp true ts vs ds ps := by
  intro ts vs ds ps hT h hs
  have h1 := h.respare K hz hT hs
  clear h hs
  induction ts generalizing vs ds ps with
  | nil => cases vs <;> cases ds <;> exact h1
  | cons t ts ih =>
    match vs, ds, h1 with
    | v :: vs, d :: ds, h1 =>
      obtain ⟨p, q, ⟨n, hn⟩, h2, e⟩ := h1
      have hlt := DataW.TrodAll.lt (ts := t :: ts) (vs := v :: vs) (ds := d :: ds) (ps := ps) (enc := enc) (P := P) (w := W) ⟨p, q, ⟨n, hn⟩, h2, e⟩
      exact ⟨p, q, ⟨n, DataW.trod_carry n t _ _ hn fun x hxp => same_ext hx (hlt x (by rw [e]; exact List.mem_append_left _ hxp))⟩, ih (fun t ht => hT t (List.mem_cons_of_mem _ ht)) h2, e⟩

/-- What every law's row asks for: true; the arguments read as before. -/
theorem post_true (K : Kids P T) (hz : ∀ t e, T t → P.underlying t = some (.slice e) → 0 < P.cellsOf e) {f : Func} {s : ChangeSpec} {apart fresh handsOn : Bool} {W W' : World} {args : Array Value} {ds gs : List (DataW X)} {before : List MemPlace} {tb : TypeId}
    (hW : DataW.Whole enc P f.params.toList s.vars apart W args.toList ds gs before) (hv : s.vars = []) (hfn : ∀ ds' : List (DataW X), ds' = ds → s.fn X ds' = { results := [.lit (.bool true)], args := ds' })
    (ht : f.resultTypes = #[tb]) (hb : P.underlying tb = some .bool) (hT : ∀ t ∈ f.params.toList, T t) (hs : Same W W') (hx : Ext0 W.heap W'.heap) :
    s.post enc P f apart fresh handsOn false W args (.bool true) W' := by
  have hlt := hW.lt
  have hW' := hW
  obtain ⟨p, q, hA, hV, rfl, _, _⟩ := hW'
  rw [hv] at hV
  cases gs with
  | cons g gs => exact hV.elim
  | nil =>
    cases (show q = [] from hV)
    have hold : ∀ x ∈ p, decide (x.block < W.heap.size) = true := fun x hxp => by simpa using hlt x (by simpa using hxp)
    have e1 : s.fn X (ds ++ []) = { results := [.lit (.bool true)], args := ds } := by
      rw [List.append_nil]; exact hfn ds rfl
    refine ⟨ds, [], p ++ [], [], p, [], hW, ?_, ?_, ?_, kept_ext hs hx _, fun h => by cases h⟩
    · rw [e1, ht]
      exact trodAll_cons_mk (shut_bool hb _) trodAll_mk0
    · rw [e1]
      exact trodAll_ext K hz hx hT hA hold
    · rw [hv, e1]
      rfl

theorem open_agg6 {w : World} {base : Nat} {spare : Nat → Bool} {held : Bool} {r : Reach} {b0 : Nat} {t : TypeId} {f0 f1 f2 f3 f4 f5 : Field} {v : Value} {d : DataW X} {p : List MemPlace} (hs : P.underlying t = some (.struct #[f0, f1, f2, f3, f4, f5])) (hone : oneCellFields P #[f0, f1, f2, f3, f4, f5] = true) (hC : P.cellsOf t = 6)
    (hv : Value.okWide P w r b0 t v) (h : DataW.Trod enc P w base spare held t v d p) :
    ∃ (v0 v1 v2 v3 v4 v5 : Value) (y0 y1 y2 y3 y4 y5 : DataW X × List MemPlace) (n : Nat), v = .agg #[v0, v1, v2, v3, v4, v5] ∧
      DataW.trod enc P w base spare held n f0.type [v0] = some y0 ∧ DataW.trod enc P w base spare held n f1.type [v1] = some y1 ∧ DataW.trod enc P w base spare held n f2.type [v2] = some y2 ∧ DataW.trod enc P w base spare held n f3.type [v3] = some y3 ∧ DataW.trod enc P w base spare held n f4.type [v4] = some y4 ∧ DataW.trod enc P w base spare held n f5.type [v5] = some y5 := by
  obtain ⟨cs, rfl, hsz⟩ := okWide_struct hs hv
  obtain ⟨l⟩ := cs
  match l, hsz.trans hC with
  | [c0, c1, c2, c3, c4, c5], _ =>
    obtain ⟨fuel, hf⟩ := h
    obtain ⟨xs, n, _, hx, _, hlen, hg⟩ := DataW.trod_struct hs hf
    obtain ⟨o0, k0⟩ := hone_of hone 0 f0 rfl
    obtain ⟨o1, k1⟩ := hone_of hone 1 f1 rfl
    obtain ⟨o2, k2⟩ := hone_of hone 2 f2 rfl
    obtain ⟨o3, k3⟩ := hone_of hone 3 f3 rfl
    obtain ⟨o4, k4⟩ := hone_of hone 4 f4 rfl
    obtain ⟨o5, k5⟩ := hone_of hone 5 f5 rfl
    match xs, hlen with
    | [y0, y1, y2, y3, y4, y5], _ =>
      exact ⟨c0, c1, c2, c3, c4, c5, y0, y1, y2, y3, y4, y5, n, rfl, by simpa [Value.cells, o0, k0] using hg 0 f0 rfl, by simpa [Value.cells, o1, k1] using hg 1 f1 rfl, by simpa [Value.cells, o2, k2] using hg 2 f2 rfl, by simpa [Value.cells, o3, k3] using hg 3 f3 rfl, by simpa [Value.cells, o4, k4] using hg 4 f4 rfl, by simpa [Value.cells, o5, k5] using hg 5 f5 rfl⟩
end
end Go.Sx

namespace Go.Proofs.YtnnheophehnioaaGreat
open Go.Sx Go.Proofs
theorem kids : Kids Tryz.prog (· < Tryz.prog.types.size) := kids_rows (by kernel_rfl) (by kernel_rfl)
theorem full : ∀ t e, t < Tryz.prog.types.size → Tryz.prog.underlying t = some (.slice e) → 0 < Tryz.prog.cellsOf e := slices_full_of Tryz.prog (by kernel_rfl)
end Go.Proofs.YtnnheophehnioaaGreat
namespace Go.Sx
open Go.ChangeShapes Go.WideShapes Go.ChangeAt Go.RowKit Go.Joins Go.Deep Go.ChangeMaps Go.WideElems

section
variable {X : Type} {enc : TypeId × Value → X} {P : Program}
theorem open_slice_ints {W : World} {base : Nat} {spare : Nat → Bool} {held : Bool} {r : Reach} {b0 : Nat} {t e : TypeId} {k : IntKind} {v : Value} {d : DataW X} {p : List MemPlace} (ht : P.underlying t = some (.slice e)) (he : P.underlying e = some (.int k)) (hc : P.cellsOf e = 1)
    (hv : Value.okWide P W r b0 t v) (h : DataW.Trod enc P W base spare held t v d p) :
    ∃ zs : List Int, (∃ a cap, v = .slice a zs.length cap) ∧ (∀ z ∈ zs, (Lit.int k z).wf = true) ∧ (0 < zs.length → Lies W.heap v e 1 zs.length (zs.flatMap fun x => [.int k x])) := by
  obtain ⟨a0, len, cap, rfl⟩ := okWide_slice ht hv
  obtain ⟨fuel, hf⟩ := h
  rcases open_ints ht he hc hf with ⟨hcs, _⟩ | ⟨a, len', cap', zs, hcs, _, hl, hm, hz, _, hcell, hwz⟩
  · simp only [Value.cells, List.cons.injEq, and_true] at hcs
    rw [hcs]
    exact ⟨[], ⟨none, 0, rfl⟩, by simp, by simp⟩
  · have hcs' : (Value.slice a0 len cap) = .slice (some a) len' cap' := by simpa [Value.cells] using hcs
    rw [hcs']
    have hzl : len' ≤ zs.length := by rw [hz]; split <;> omega
    have htl : (zs.take len').length = len' := by rw [List.length_take]; omega
    refine ⟨zs.take len', ⟨some a, cap', by rw [htl]⟩, fun z hz => hwz z (List.mem_of_mem_take hz), fun hpos => ?_⟩
    rw [htl] at hpos ⊢
    have h0 := hcell 0 (by omega)
    have ea : a.add 0 = a := by simp [Addr.add]
    rw [ea] at h0
    obtain ⟨ab, ao, asp⟩ := a
    have hb : ∃ c T fz, W.heap[ab]? = some (.cells c T fz) ∧ asp = none := by
      rw [cell_eq] at h0
      unfold cellH at h0
      split at h0
      · rename_i c T fz hb
        refine ⟨c, T, fz, hb, ?_⟩
        cases asp with
        | none => rfl
        | some s => simp at h0
      · cases h0
    obtain ⟨c, T, fz, hb, rfl⟩ := hb
    have hget : ∀ i, i < len' → c[ao + i]? = some (.int k (zs.getD i 0)) := by
      intro i hi
      have h1 := hcell i (by omega)
      rw [cell_eq, add_mk, cell_blk hb] at h1
      exact h1
    refine ⟨?_, .inr ⟨ab, ao, c, cap', T, fz, rfl, hb, ?_, fun i hi => ?_⟩⟩
    · have := flat_len (enc := fun x => [Value.int k x]) (sz := 1) (fun _ => rfl) (zs.take len')
      rw [this, htl]
    · have := hget (len' - 1) (by omega)
      have := (Array.getElem?_eq_some_iff.1 this).1
      omega
    · have hi' : i < len' := by omega
      have hz1 : (zs.take len')[i]? = some (zs.getD i 0) := by
        rw [List.getElem?_take, if_pos hi', List.getElem?_eq_getElem (by omega), List.getD_eq_getElem?_getD, List.getElem?_eq_getElem (by omega)]; rfl
      have := flat_get (enc := fun x => [Value.int k x]) (sz := 1) (fun _ => rfl) hz1 (j := 0) Nat.zero_lt_one
      rw [hget i hi']
      simpa using this.symm
end
end Go.Sx
