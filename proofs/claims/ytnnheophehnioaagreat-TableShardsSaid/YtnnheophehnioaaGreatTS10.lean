/-
  Part 10 of the proof: contracts of the functions that the law reaches, and the rules they stand on. Own work (an AI agent). No conditions.
-/
import Derived.Test.YtnnheophehnioaaGreatTS9
import Derived.Shelf.SlIterI.Nil
import Derived.Shelf.SortM.Plain
import Derived.Shelf.SortM.SortNone
import Derived.Test.YtnnheophehnioaaGreatProg
import Derived.Lib.SmallJoins
set_option linter.unusedSimpArgs false
set_option linter.unusedVariables false
namespace Go.Proofs
open Go.RowKit Go.Maps Go.Sort Go.Shelf
def Tryz.keysA_ren : Go.Shelf.Ren := ⟨fun | 7 => 34 | 10 => 72 | n => n, fun | 23 => 80 | 26 => 3 | 3 => 30 | 28 => 107 | 0 => 0 | 27 => 106 | 33 => 103 | 4 => 4 | n => n, fun n => n⟩
theorem Tryz.keysA : SlLaysZI.n7 Tryz.prog Tryz.keysA_ren := {
  mixed := by kernel_rfl,
  f7 := ⟨Tryz.f34.name, by decide, Tryz.func34.trans (congrArg some (by kernel_rfl))⟩,
  f10 := ⟨Tryz.f72.name, by decide, Tryz.func72.trans (congrArg some (by kernel_rfl))⟩,
  t0 := Tryz.underlying0,
  a0 := Tryz.isAgg0,
  z0 := Tryz.sizeOf0,
  v0 := Tryz.zeroValue0,
  t4 := Tryz.underlying4,
  a4 := Tryz.isAgg4,
  z4 := Tryz.sizeOf4,
  v4 := Tryz.zeroValue4,
  t23 := Tryz.underlying80,
  a23 := Tryz.isAgg80,
  z23 := Tryz.sizeOf80,
  v23 := Tryz.zeroValue80,
  t26 := Tryz.underlying3,
  a26 := Tryz.isAgg3,
  z26 := Tryz.sizeOf3,
  v26 := Tryz.zeroValue3,
  t27 := Tryz.underlying106,
  a27 := Tryz.isAgg106,
  z27 := Tryz.sizeOf106,
  v27 := Tryz.zeroValue106,
  t28 := Tryz.underlying107,
  a28 := Tryz.isAgg107,
  z28 := Tryz.sizeOf107,
  v28 := Tryz.zeroValue107,
  t33 := Tryz.underlying103,
  a33 := Tryz.isAgg103,
  z33 := Tryz.sizeOf103,
  v33 := Tryz.zeroValue103 }
def Tryz.seqA_ren : Go.Shelf.Ren := ⟨fun | 11 => 33 | n => n, fun | 24 => 22 | 26 => 3 | 28 => 107 | 0 => 0 | 33 => 103 | 4 => 4 | n => n, fun n => n⟩
theorem Tryz.seqA : SlLaysZI.n11 Tryz.prog Tryz.seqA_ren := {
  mixed := by kernel_rfl,
  f11 := ⟨Tryz.f33.name, by decide, Tryz.func33.trans (congrArg some (by kernel_rfl))⟩,
  t0 := Tryz.underlying0,
  a0 := Tryz.isAgg0,
  z0 := Tryz.sizeOf0,
  v0 := Tryz.zeroValue0,
  t24 := Tryz.underlying22,
  a24 := Tryz.isAgg22,
  z24 := Tryz.sizeOf22,
  v24 := Tryz.zeroValue22,
  t26 := Tryz.underlying3,
  a26 := Tryz.isAgg3,
  z26 := Tryz.sizeOf3,
  v26 := Tryz.zeroValue3,
  t28 := Tryz.underlying107,
  a28 := Tryz.isAgg107,
  z28 := Tryz.sizeOf107,
  v28 := Tryz.zeroValue107,
  i26 := by kernel_rfl }
def Tryz.sortA_ren : Go.Shelf.Ren := ⟨fun | 5 => 35 | 8 => 74 | 7 => 73 | 19 => 113 | 20 => 114 | 10 => 104 | 11 => 105 | 12 => 106 | 13 => 107 | 14 => 108 | 15 => 109 | 16 => 110 | 17 => 111 | 18 => 112 | 30 => 159 | 31 => 160 | 32 => 161 | 33 => 162 | 34 => 163 | 35 => 79 | 40 => 175 | n => n, fun | 23 => 22 | 25 => 3 | 3 => 3 | 32 => 162 | 22 => 22 | 0 => 0 | 44 => 60 | 46 => 209 | 4 => 4 | 36 => 202 | 35 => 201 | 41 => 116 | 5 => 5 | 9 => 9 | 53 => 239 | 57 => 243 | 63 => 256 | 64 => 231 | n => n, fun n => n⟩
theorem Tryz.sortA : SlLaysM.n5 Tryz.prog Tryz.sortA_ren := {
  mixed := by kernel_rfl,
  f5 := ⟨Tryz.f35.name, by decide, Tryz.func35.trans (congrArg some (by kernel_rfl))⟩,
  f7 := ⟨Tryz.f73.name, by decide, Tryz.func73.trans (congrArg some (by kernel_rfl))⟩,
  f8 := Tryz.func74.trans (congrArg some (by kernel_rfl)),
  f10 := ⟨Tryz.f104.name, by decide, Tryz.func104.trans (congrArg some (by kernel_rfl))⟩,
  f11 := ⟨Tryz.f105.name, by decide, Tryz.func105.trans (congrArg some (by kernel_rfl))⟩,
  f12 := ⟨Tryz.f106.name, by decide, Tryz.func106.trans (congrArg some (by kernel_rfl))⟩,
  f13 := ⟨Tryz.f107.name, by decide, Tryz.func107.trans (congrArg some (by kernel_rfl))⟩,
  f14 := ⟨Tryz.f108.name, by decide, Tryz.func108.trans (congrArg some (by kernel_rfl))⟩,
  f15 := ⟨Tryz.f109.name, by decide, Tryz.func109.trans (congrArg some (by kernel_rfl))⟩,
  f16 := ⟨Tryz.f110.name, by decide, Tryz.func110.trans (congrArg some (by kernel_rfl))⟩,
  f17 := ⟨Tryz.f111.name, by decide, Tryz.func111.trans (congrArg some (by kernel_rfl))⟩,
  f18 := ⟨Tryz.f112.name, by decide, Tryz.func112.trans (congrArg some (by kernel_rfl))⟩,
  f19 := Tryz.func113.trans (congrArg some (by kernel_rfl)),
  f20 := Tryz.func114.trans (congrArg some (by kernel_rfl)),
  f30 := ⟨Tryz.f159.name, by decide, Tryz.func159.trans (congrArg some (by kernel_rfl))⟩,
  f31 := Tryz.func160.trans (congrArg some (by kernel_rfl)),
  f32 := Tryz.func161.trans (congrArg some (by kernel_rfl)),
  f33 := ⟨Tryz.f162.name, by decide, Tryz.func162.trans (congrArg some (by kernel_rfl))⟩,
  f34 := ⟨Tryz.f163.name, by decide, Tryz.func163.trans (congrArg some (by kernel_rfl))⟩,
  f35 := ⟨Tryz.f79.name, by decide, Tryz.func79.trans (congrArg some (by kernel_rfl))⟩,
  f40 := ⟨Tryz.f175.name, by decide, Tryz.func175.trans (congrArg some (by kernel_rfl))⟩,
  t0 := Tryz.underlying0,
  a0 := Tryz.isAgg0,
  z0 := Tryz.sizeOf0,
  v0 := Tryz.zeroValue0,
  t3 := Tryz.underlying3,
  a3 := Tryz.isAgg3,
  z3 := Tryz.sizeOf3,
  v3 := Tryz.zeroValue3,
  t4 := Tryz.underlying4,
  a4 := Tryz.isAgg4,
  z4 := Tryz.sizeOf4,
  v4 := Tryz.zeroValue4,
  t5 := Tryz.underlying5,
  a5 := Tryz.isAgg5,
  z5 := Tryz.sizeOf5,
  v5 := Tryz.zeroValue5,
  t9 := Tryz.underlying9,
  a9 := Tryz.isAgg9,
  z9 := Tryz.sizeOf9,
  v9 := Tryz.zeroValue9,
  t22 := Tryz.underlying22,
  a22 := Tryz.isAgg22,
  z22 := Tryz.sizeOf22,
  v22 := Tryz.zeroValue22,
  t23 := Tryz.underlying22,
  a23 := Tryz.isAgg22,
  z23 := Tryz.sizeOf22,
  v23 := Tryz.zeroValue22,
  t25 := Tryz.underlying3,
  a25 := Tryz.isAgg3,
  z25 := Tryz.sizeOf3,
  v25 := Tryz.zeroValue3,
  t32 := Tryz.underlying162,
  a32 := Tryz.isAgg162,
  z32 := Tryz.sizeOf162,
  v32 := Tryz.zeroValue162,
  t35 := Tryz.underlying201,
  a35 := Tryz.isAgg201,
  z35 := Tryz.sizeOf201,
  v35 := Tryz.zeroValue201,
  t36 := Tryz.underlying202,
  a36 := Tryz.isAgg202,
  z36 := Tryz.sizeOf202,
  v36 := Tryz.zeroValue202,
  t41 := Tryz.underlying116,
  a41 := Tryz.isAgg116,
  z41 := Tryz.sizeOf116,
  v41 := Tryz.zeroValue116,
  t44 := Tryz.underlying60,
  a44 := Tryz.isAgg60,
  z44 := Tryz.sizeOf60,
  v44 := Tryz.zeroValue60,
  t46 := Tryz.underlying209,
  a46 := Tryz.isAgg209,
  z46 := Tryz.sizeOf209,
  v46 := Tryz.zeroValue209,
  t53 := Tryz.underlying239,
  a53 := Tryz.isAgg239,
  z53 := Tryz.sizeOf239,
  v53 := Tryz.zeroValue239,
  t57 := Tryz.underlying243,
  a57 := Tryz.isAgg243,
  z57 := Tryz.sizeOf243,
  v57 := Tryz.zeroValue243,
  t63 := Tryz.underlying256,
  a63 := Tryz.isAgg256,
  z63 := Tryz.sizeOf256,
  v63 := Tryz.zeroValue256,
  t64 := Tryz.underlying231,
  a64 := Tryz.isAgg231,
  z64 := Tryz.sizeOf231,
  v64 := Tryz.zeroValue231 }
end Go.Proofs
namespace Go.Proofs.YtnnheophehnioaaGreat
open Go.RowKit Go.Maps Go.Sort Go.Shelf Go.Proofs
variable {P : Program} {ρ : Ren}

theorem _root_.Go.RowKit.Below.weak {B B' : Nat} {w w' : World} (h : Below B w w') (hb : B' ≤ B) : Below B' w w' := ⟨h.os, h.tape, h.output, h.size, fun k hk => h.block k (by omega)⟩
def apxRec (ρ : Ren) (s0 : Value) (fn : FuncId) (sv : Value) (Bs D : Nat) (st : LoopState) (pend : Option Code) : Loop :=
  { state := st, pending := pend, fn, tmps := #[s0, sv, .pointer (some ⟨Bs, 0, none⟩), undef, .slice none 0 0, undef, sv, undef, undef, undef, undef, undef, undef], params := #[7], assign := AnyZI.apAssign ρ, body := AnyZI.apBody ρ, defers := D }

structure ApxAt (ρ : Ren) (s0 : Value) (B0 : Nat) (w0 : World) (fn : FuncId) (sv : Value) (Bs l D : Nat) (ss : List Int) (W : World) : Prop where
  box : ∃ v, W.heap[Bs]? = some (.cells #[v] (ρ.t 24) (0, 0)) ∧ W.ownsRow B0 (ρ.t 26) 1 v ss.length (ss.map encZ)
  L : W.heap[l]? = some (.loop (apxRec ρ s0 fn sv Bs D .ready none))
  K : W.heap[D]? = some (.deferred (some []))
  below : Below B0 w0 W

theorem apx_abides (ρ : Ren) (s0 : Value) (B0 : Nat) (w0 : World) (fn : FuncId) (sv : Value) (Bs l D B : Nat) (h0 : B0 ≤ w0.heap.size) (hB : w0.heap.size ≤ B) : AbidesFrom B (ApxAt ρ s0 B0 w0 fn sv Bs l D) := fun s W W' row h hg hrow => by
  have hrow' : ∀ r, row = some r → ∃ o : Obj, W.heap[r]? = some o ∧ o.isWalk = true := fun r e => (hrow r e).2
  obtain ⟨v, hv, hr⟩ := h.box
  exact ⟨⟨v, (grownBy_keeps hg hrow' hv rfl).trans hv, ownsRow_abides_a hr hg hrow'⟩, (grownBy_keeps hg hrow' h.L rfl).trans h.L, (grownBy_keeps hg hrow' h.K rfl).trans h.K,
    h.below.grown hg (Nat.le_trans h0 h.below.size) (fun k e => Nat.le_trans h0 (Nat.le_trans hB (hrow k e).1))⟩

set_option maxRecDepth 100000 in
set_option maxHeartbeats 2000000 in
theorem apxYield (L : SlLaysZI.n11 P ρ) (F : Fence) (m : Nat) (s0 : Value) (B0 : Nat) (w0 : World) (hB0 : B0 ≤ w0.heap.size) (fn : FuncId) (hfn : F.fn fn) (sv : Value) (Bs l D : Nat) (hBl : Bs ≠ l) (hDl : D ≠ l) (hDB : D ≠ Bs) (h0B : w0.heap.size ≤ Bs) (h0l : w0.heap.size ≤ l)
    (N : Nat) (hN : N ≤ maxLen) (hNb : N * 8 ≤ 140737488355328) (ss : List Int) (x : Int) (W : World) (h : ApxAt ρ s0 B0 w0 fn sv Bs l D ss W) (hlen : ss.length < N) :
    YieldAt F m P l #[encZ x] W fun e W' => e = .returned (.bool true) ∧ ApxAt ρ s0 B0 w0 fn sv Bs l D (ss ++ [x]) W' ∧ KeepsWalks W W' := by
  have mixed := L.mixed; have t0 := L.t0; have a0 := L.a0; have z0 := L.z0; have v0 := L.v0; have t24 := L.t24; have a24 := L.a24; have z24 := L.z24; have v24 := L.v24; have t26 := L.t26; have a26 := L.a26; have z26 := L.z26; have v26 := L.v26; have t28 := L.t28; have a28 := L.a28; have z28 := L.z28; have v28 := L.v28
  have hne : ρ.t 24 ≠ ρ.t 26 := fun e => by have h := L.t24; rw [e, L.t26] at h; cases h
  have u0 := run_underlying L.t0; have u24 := run_underlying L.t24; have u26 := run_underlying L.t26; have u28 := run_underlying L.t28
  obtain ⟨i0, hi, hz0, hz1, hz2⟩ := info_parts L.i26
  obtain ⟨v, hv, hrow⟩ := h.box
  refine ⟨fn, #[s0, sv, .pointer (some ⟨Bs, 0, none⟩), undef, .slice none 0 0, undef, sv, encZ x, undef, undef, undef, undef, undef], AnyZI.apAssign ρ, AnyZI.apBody ρ, by simpa [apxRec] using run_yield (P := P) (args := #[encZ x]) h.L rfl, roundIn_of_wpIn hfn ?_⟩
  have hl : l < W.heap.size := (Array.getElem?_eq_some_iff.1 h.L).1
  have hbr := run_beginRound (P := P) h.L rfl
  obtain ⟨W2, hW2⟩ : ∃ W2, W.putObj l (.loop { apxRec ρ s0 fn sv Bs D .ready none with state := .busy }) = W2 := ⟨_, rfl⟩
  rw [hW2] at hbr
  have hg2 : W.grownBy W2 (some l) := by rw [← hW2]; exact grownBy_putObj_a _ _ _
  have hk2 : KeepsWalks W W2 := by rw [← hW2]; exact KeepsWalks.putObj _ h.L rfl
  have hv2 : W2.heap[Bs]? = some (.cells #[v] (ρ.t 24) (0, 0)) := by rw [← hW2]; exact (World.putObj_heap_other hBl).trans hv
  have hK2 : W2.heap[D]? = some (.deferred (some [])) := by rw [← hW2]; exact (World.putObj_heap_other hDl).trans h.K
  have hL2 : W2.heap[l]? = some (.loop { apxRec ρ s0 fn sv Bs D .ready none with state := .busy }) := by rw [← hW2]; exact World.putObj_heap_same hl
  have hrow2 : W2.ownsRow B0 (ρ.t 26) 1 v ss.length (ss.map encZ) := hrow.kept hg2 (ownsRow_ne_a hrow h.L (fun cur e => by first | cases e | exact hne (Obj.cells.inj e).2.1))
  have hb2 : Below B0 w0 W2 := h.below.grown hg2 (Nat.le_trans hB0 h.below.size) (fun k e => by cases e; omega)
  obtain ⟨hc2, hf2⟩ := cell_of_box_a hv2
  have hBlt : Bs < W2.heap.size := (Array.getElem?_eq_some_iff.1 hv2).1
  have hl2 : l < W2.heap.size := (Array.getElem?_eq_some_iff.1 hL2).1
  have hDlt : D < W2.heap.size := (Array.getElem?_eq_some_iff.1 hK2).1
  have ne_of : ∀ {j : Nat} {o : Obj}, W2.heap[j]? = some o → (∀ cur, o ≠ .cells cur (ρ.t 26) (0, 0)) → some j ≠ v.ownBlock := fun hj hno => by
    rcases ownsRow_ne_a hrow2 hj hno with e | e
    · rw [e]; simp
    · exact fun e' => e e'.symm
  clear hW2
  unfold AnyZI.apAssign
  gi_wp2_with gi_round_op_a
  unfold AnyZI.apBody
  gi_wp2_with (first
    | (gi_at_builtin; refine wpListIn_append_own _ rfl _ _ (ρ.t 24) rfl B0 (ρ.t 26) i0 (.int .i64 0) 1 8 L.t24 hi hz0 hz1 hz2 rfl (by decide) _ _ _ rfl (hrow2.alloc _) ⟨W2.heap.size, 0, none⟩ 1 1 [encZ x] rfl rfl (cell_one_new _ _ _) (by simp [Value.oneCell', encZ]) (by omega) (by omega) (by have := hb2.size; simp; omega) ?_; intro v' w3 hown' hg3 hnil3
       have hv3 : w3.heap[Bs]? = some (.cells #[v] (ρ.t 24) (0, 0)) := (hg3.block Bs (by simp; omega) (ne_of hv2 (fun cur e => by first | cases e | exact hne (Obj.cells.inj e).2.1))).trans ((Below.heap_alloc _ _ Bs hBlt).trans hv2)
       obtain ⟨hc3, hf3⟩ := cell_of_box_a hv3
       obtain ⟨g', cap', cur', rfl, hbase', hgb', hr1, hr2, hr3, hr4⟩ : ∃ g' cap' cur', v' = .slice (some ⟨g', 0, none⟩) (ss.length + 1) cap' ∧ B0 ≤ g' ∧ w3.heap[g']? = some (.cells cur' (ρ.t 26) (0, 0)) ∧ ss.length + 1 ≤ cap' ∧ cap' ≤ maxLen ∧ cur'.size = cap' * 1 ∧ cur'.toList.take ((ss.length + 1) * 1) = ss.map encZ ++ [encZ x] := by
         rcases hown'.2 with ⟨_, h0⟩ | h'
         · exact absurd h0 (by omega)
         · exact h'
       go_frame)
    | gi_round_op_a)
  have hg3' : (W2.alloc (.cells #[encZ x] (ρ.t 26))).grownBy w3 v.ownBlock := hg3
  have hL3 : w3.heap[l]? = some (.loop { apxRec ρ s0 fn sv Bs D .ready none with state := .busy }) := (hg3'.block l (by simp; omega) (ne_of hL2 (fun cur e => by first | cases e | exact hne (Obj.cells.inj e).2.1))).trans ((Below.heap_alloc _ _ l hl2).trans hL2)
  have hK3 : w3.heap[D]? = some (.deferred (some [])) := (hg3'.block D (by simp; omega) (ne_of hK2 (fun cur e => by first | cases e | exact hne (Obj.cells.inj e).2.1))).trans ((Below.heap_alloc _ _ D hDlt).trans hK2)
  obtain ⟨w4, hw4⟩ : ∃ w4, w3.setCell ⟨Bs, 0, none⟩ (.slice (some ⟨g', 0, none⟩) (ss.length + 1) cap') = w4 := ⟨_, rfl⟩
  rw [hw4]
  have hg4 : w3.grownBy w4 (some Bs) := by rw [← hw4]; exact grownBy_setCell0_a _ _ _
  have hv4 : w4.heap[Bs]? = some (.cells #[.slice (some ⟨g', 0, none⟩) (ss.length + 1) cap'] (ρ.t 24) (0, 0)) := by rw [← hw4]; exact heap_setCell_box_a _ hv3
  have hL4 : w4.heap[l]? = some (.loop { apxRec ρ s0 fn sv Bs D .ready none with state := .busy }) := (hg4.block l (Array.getElem?_eq_some_iff.1 hL3).1 (fun e => hBl (by cases e; rfl))).trans hL3
  have hK4 : w4.heap[D]? = some (.deferred (some [])) := (hg4.block D (Array.getElem?_eq_some_iff.1 hK3).1 (fun e => hDB (by cases e; rfl))).trans hK3
  have hrow4 := hown'.kept hg4 (ownsRow_ne_a hown' hv3 (fun cur e => by first | cases e | exact hne (Obj.cells.inj e).2.1))
  have hl4 : l < w4.heap.size := (Array.getElem?_eq_some_iff.1 hL4).1
  have hb3 : Below B0 w0 w3 := (hb2.alloc (by have := hb2.size; omega) _).grown hg3' (by have := hb2.size; simp; omega) (fun k e => (hrow2.lt k e).1)
  have hb4 : Below B0 w0 w4 := hb3.grown hg4 (by have := hb3.size; omega) (fun k e => by cases e; omega)
  have hk4 : KeepsWalks W w4 := ((hk2.trans (KeepsWalks.alloc _ _)).trans (KeepsWalks.of_grownBy hg3' (ownsRow_not_walk_a (hrow2.alloc _)))).trans (by rw [← hw4]; exact KeepsWalks.setCell _ _ _)
  clear hw4
  refine ⟨_, _, run_endRound none hL4, rfl, ⟨⟨_, (World.putObj_heap_other hBl).trans hv4, ?_⟩, World.putObj_heap_same hl4, (World.putObj_heap_other hDl).trans hK4, hb4.grown (grownBy_putObj_a _ _ _) (by have := hb4.size; omega) (fun k e => by cases e; omega)⟩, hk4.trans (KeepsWalks.putObj _ hL4 rfl)⟩
  have := hrow4.kept (grownBy_putObj_a w4 l (.loop { { apxRec ρ s0 fn sv Bs D .ready none with state := .busy } with state := if (none : Option Code).isNone then .ready else .done, pending := none })) (ownsRow_ne_a hrow4 hL4 (fun cur e => by first | cases e | exact hne (Obj.cells.inj e).2.1))
  simpa using this


set_option maxRecDepth 100000 in
set_option maxHeartbeats 2000000 in
theorem appendSeqx_in (L : SlLaysZI.n11 P ρ) (F : Fence) (n : Nat) (h11 : F.fn (ρ.f 11)) (hro : F.round = none) (hn : 2 ≤ n) (g : Nat) (lb : Array Value) (hFg : F.fn g) (eg : ∀ args w, (callFunc g args).run P w = .ok (.enter g args) w)
    (S : List Int → Prop) (N : Nat)  (w : World) (hseq : SeqGives F (n - 1) P g lb encZ S N w) {sa : Option Addr} {sn sc : Nat} {B0 : Nat} (hB0 : B0 ≤ w.heap.size) (ys : List Int) (hr0 : w.ownsRow B0 (ρ.t 26) 1 (Value.slice sa sn sc) ys.length (ys.map encZ)) {M : Nat} (hMN : ys.length + N ≤ M) (hN : M ≤ maxLen) (hNb : M * 8 ≤ 140737488355328) :
    CallsIn F n P (ρ.f 11) #[(Value.slice sa sn sc), .func (.func g) #[] lb] w fun e w' => ∃ (v : Value) (ss : List Int), e = .returned v ∧ S ss ∧ w'.ownsRow B0 (ρ.t 26) 1 v (ys ++ ss).length ((ys ++ ss).map encZ) ∧ Below B0 w w' := by
  have h1 : 1 ≤ n := by omega
  have mixed := L.mixed; have t0 := L.t0; have a0 := L.a0; have z0 := L.z0; have v0 := L.v0; have t24 := L.t24; have a24 := L.a24; have z24 := L.z24; have v24 := L.v24; have t26 := L.t26; have a26 := L.a26; have z26 := L.z26; have v26 := L.v26; have t28 := L.t28; have a28 := L.a28; have z28 := L.z28; have v28 := L.v28
  have hne : ρ.t 24 ≠ ρ.t 26 := fun e => by have h := L.t24; rw [e, L.t26] at h; cases h
  have u0 := run_underlying L.t0; have u24 := run_underlying L.t24; have u26 := run_underlying L.t26; have u28 := run_underlying L.t28
  obtain ⟨_, _, FG⟩ := L.f11
  refine callsIn_of_wp_marks FG rfl h11 ?_ hro
  simp only [SlBodyZ.n11_ntmps ρ, List.size_toArray, List.length_cons, List.length_nil, Nat.reduceAdd, Nat.reduceSub, Array.replicate_succ, Array.replicate_zero, List.push_toArray, List.append_toArray, List.nil_append, List.cons_append]
  gi_wp2
  refine wpIn_rangeFunc ?_
  intro fn hfn
  rw [hro]
  obtain ⟨W0, hW0⟩ : ∃ W0, w.alloc (.cells #[(Value.slice sa sn sc)] (ρ.t 24)) = W0 := ⟨_, rfl⟩
  have hs0 : W0.heap.size = w.heap.size + 1 := by rw [← hW0]; simp
  have hv0 : W0.heap[w.heap.size]? = some (.cells #[(Value.slice sa sn sc)] (ρ.t 24) (0, 0)) := by rw [← hW0]; exact World.alloc_heap_new w _
  have hb0 : Below w.heap.size w W0 := by rw [← hW0]; exact (Below.refl _ w).alloc (Nat.le_refl _) _
  rw [hW0]
  obtain ⟨W1, hW1⟩ : ∃ W1, (W0.alloc (.deferred (some []))).alloc (.loop (apxRec ρ (Value.slice sa sn sc) fn (.func (.func g) #[] lb) w.heap.size W0.heap.size .ready none)) = W1 := ⟨_, rfl⟩
  have hold : ∀ k, k < W0.heap.size → W1.heap[k]? = W0.heap[k]? := fun k hk => by
    rw [← hW1]; exact (Below.heap_alloc _ _ k (by simp; omega)).trans (Below.heap_alloc _ _ k hk)
  have hb1 : Below w.heap.size w W1 := by rw [← hW1]; exact (hb0.alloc hb0.size _).alloc (by have := hb0.size; simp; omega) _
  have hs1 : W1.heap.size = W0.heap.size + 2 := by rw [← hW1]; simp
  have hrow1 : W1.ownsRow B0 (ρ.t 26) 1 (Value.slice sa sn sc) ys.length (ys.map encZ) := by rw [← hW1, ← hW0]; exact ((hr0.alloc _).alloc _).alloc _
  have hM : ApxAt ρ (Value.slice sa sn sc) B0 w fn (.func (.func g) #[] lb) w.heap.size (W0.heap.size + 1) W0.heap.size ys W1 :=
    ⟨⟨_, (hold w.heap.size (by omega)).trans hv0, hrow1⟩,
     by rw [← hW1]; have := World.alloc_heap_new (W0.alloc (.deferred (some []))) (.loop (apxRec ρ (Value.slice sa sn sc) fn (.func (.func g) #[] lb) w.heap.size W0.heap.size .ready none)); rwa [World.size_alloc] at this,
     by rw [← hW1]; exact (Below.heap_alloc _ _ _ (by simp)).trans (World.alloc_heap_new W0 _), hb1.weak hB0⟩
  refine ⟨W0.heap.size + 1, [{ target := .collected W0.heap.size, args := #[] }], W1, { target := .fn (.func g) lb, args := #[.func (.yield (W0.heap.size + 1)) #[] #[]] }, W1, g,
    #[.func (.yield (W0.heap.size + 1)) #[] #[]] ++ lb, W1, ?_, ?_, ?_, ?_, fun _ => h1, ?_⟩
  · rw [← hW1]; exact run_enterLoop_outer _ _ _ _ _
  · simp [resolve, go_sem]
  · intro f' hf'; simp [Target.leads] at hf'; subst hf'; exact hFg
  · simp [invoke, go_sem, eg]
  · refine (hseq (W0.heap.size + 1) (fun ss W => ApxAt ρ (Value.slice sa sn sc) B0 w fn (.func (.func g) #[] lb) w.heap.size (W0.heap.size + 1) W0.heap.size (ys ++ ss) W) W1 hb1 (fun s W W' row h hg hrow => apx_abides ρ (Value.slice sa sn sc) B0 w _ _ _ _ _ W1.heap.size hB0 hb1.size (ys ++ s) W W' row h hg hrow)
      (fun pre x W hJ hl => by rw [← List.append_assoc]; exact apxYield { L with } F (n - 1 - 1) (Value.slice sa sn sc) B0 w hB0 fn hfn _ w.heap.size (W0.heap.size + 1) W0.heap.size (by omega) (by omega) (by omega) (Nat.le_refl _) (by omega) M hN hNb (ys ++ pre) x W hJ (by simp only [List.length_append]; omega)) (by rw [List.append_nil]; exact hM)).mono ?_
    rintro e W2 ⟨⟨v0, rfl⟩, ss, hS, h2⟩
    obtain ⟨v, hv, hrow⟩ := h2.box
    have hend := run_endLoop (P := P) h2.L (by simp [apxRec])
    obtain ⟨W3, hW3⟩ : ∃ W3, W2.putObj (W0.heap.size + 1) (.loop { apxRec ρ (Value.slice sa sn sc) fn (.func (.func g) #[] lb) w.heap.size W0.heap.size .ready none with state := .exhausted }) = W3 := ⟨_, rfl⟩
    rw [hW3] at hend
    have hg3 : W2.grownBy W3 (some (W0.heap.size + 1)) := by rw [← hW3]; exact grownBy_putObj_a _ _ _
    have hv3 : W3.heap[w.heap.size]? = some (.cells #[v] (ρ.t 24) (0, 0)) := by rw [← hW3]; exact (World.putObj_heap_other (by omega)).trans hv
    have hK3 : W3.heap[W0.heap.size]? = some (.deferred (some [])) := by rw [← hW3]; exact (World.putObj_heap_other (by omega)).trans h2.K
    have hrow3 := hrow.kept hg3 (ownsRow_ne_a hrow h2.L (fun cur e => by first | cases e | exact hne (Obj.cells.inj e).2.1))
    have hb3 : Below B0 w W3 := h2.below.grown hg3 (by have := h2.below.size; omega) (fun k e => by cases e; omega)
    obtain ⟨hc3, hf3⟩ := cell_of_box_a hv3
    clear hW3
    refine ⟨none, W3, hend, ?_⟩
    gi_wp2
    rw [← hs0]
    refine ⟨by simp, .inl ⟨_, _, rfl, run_takeDeferred hK3, ?_⟩⟩
    exact ⟨_, results_tmp rfl _ _ _, v, ss, rfl, hS, hrow3.kept (grownBy_putObj_a _ _ _) (ownsRow_ne_a hrow3 hK3 (fun cur e => by first | cases e | exact hne (Obj.cells.inj e).2.1)), hb3.grown (grownBy_putObj_a _ _ _) (by have := hb3.size; omega) (fun k e => by cases e; omega)⟩

end Go.Proofs.YtnnheophehnioaaGreat
namespace Go.Proofs.YtnnheophehnioaaGreat
open Go.Sx Go.Proofs Go.Gm
set_option maxRecDepth 100000

/-- A slice of numbers in a block of its own, not below B0. -/
def OwnR (B0 : Nat) (G : Hp) (v : Value) (ys : List Int) : Prop :=
  (v = .slice none 0 0 ∧ ys.length = 0) ∨ ∃ g cap cur, v = .slice (some ⟨g, 0, none⟩) ys.length cap ∧ B0 ≤ g ∧ G[g]? = some (.cells cur 3 (0, 0)) ∧ ys.length ≤ cap ∧ cap ≤ maxLen ∧ cur.size = cap * 1 ∧ cur.toList.take (ys.length * 1) = ys.map encZ
theorem OwnR.row {B0 : Nat} {w : World} {v : Value} {ys : List Int} (h : OwnR B0 w.heap v ys) : w.ownsRow B0 3 1 v ys.length (ys.map encZ) := ⟨by simp, h⟩
theorem OwnR.of {B0 : Nat} {w : World} {v : Value} {ys : List Int} (h : w.ownsRow B0 3 1 v ys.length (ys.map encZ)) : OwnR B0 w.heap v ys := h.2
theorem OwnR.shape {B0 : Nat} {G : Hp} {v : Value} {ys : List Int} (h : OwnR B0 G v ys) : ∃ a cap, v = .slice a ys.length cap := by
  rcases h with ⟨rfl, h0⟩ | ⟨g, cap, _, rfl, _⟩
  · exact ⟨none, 0, by rw [h0]⟩
  · exact ⟨_, cap, rfl⟩
theorem OwnR.ext {B0 : Nat} {G G' : Hp} {v : Value} {ys : List Int} {S : Nat → Prop} (h : OwnR B0 G v ys) (hx : Ext S G G') (hS : ∀ b, B0 ≤ b → ¬ S b) : OwnR B0 G' v ys := by
  rcases h with h | ⟨g, cap, cur, e, hg, hb, rest⟩
  · exact .inl h
  · exact .inr ⟨g, cap, cur, e, hg, hx.blk hb (hS g hg), rest⟩
theorem below_ext {B : Nat} {w w' : World} (h : RowKit.Below B w w') : Ext (fun b => B ≤ b) w.heap w'.heap := ⟨h.size, fun b _ hn => h.block b (by omega)⟩
theorem below_same {B : Nat} {w w' : World} (h : RowKit.Below B w w') : Same w w' := ⟨h.os, h.tape, h.output⟩

/-- What is said of a map's values: nothing. -/
def anyR (v : Value) : Option (DataW Unit × List MemPlace) := some (.nil, [])
theorem owns_map {w : World} {b : Nat} {es : Array MapEntry} {clk : Nat} {m : List (Int × Value)} (hb : w.heap[b]? = some (.map es clk)) (hm : Holds keyInt es m) (hbn : Born es clk) (hwf : ∀ x ∈ m, (Lit.int .i64 x.1).wf = true) (hlen : m.length ≤ 2 ^ 20) :
    ∃ D0 : DataW Unit, w.ownsMap Tryz.prog 3 anyR b es.size D0 ∧ Maps.size D0 = m.length ∧ (intKeys D0).length = m.length := by
  have hes : es.size = m.length := by
    have := congrArg List.length hm.1
    simpa [ents] using this
  have hl : ((es.toList.map (WideElems.rg Tryz.prog 3 anyR)).foldr DataW.insert []).length = m.length := by
    rw [DataW.length_sorted]; simp [hes]
  refine ⟨.map ((es.toList.map (WideElems.rg Tryz.prog 3 anyR)).foldr DataW.insert []), ⟨es, clk, hb, ⟨?_, ⟨hbn.1, hbn.2, ?_⟩, ?_⟩, Nat.le_refl _, rfl⟩, hl, ?_⟩
  · rw [hes]; unfold maxLen; omega
  · have e1 : es.toList.map (·.key) = (m.map (·.1)).map (keyInt.kv) := by
      have := congrArg (List.map Prod.fst) hm.1
      simpa [ents, Function.comp_def] using this
    rw [e1]
    exact hm.2.map _ fun a b hab hk => hab (by simpa [keyInt] using hk)
  · intro x hx
    have : (x.key, x.val) ∈ ents es := List.mem_map.2 ⟨x, hx, rfl⟩
    rw [hm.1] at this
    obtain ⟨y, hy, e⟩ := List.mem_map.1 this
    simp only [Prod.mk.injEq] at e
    have hw := hwf y hy
    refine ⟨(.int .i64 y.1, .nil), ?_⟩
    unfold WideElems.rd
    rw [← e.1]
    simp only [keyInt, keyOf, Tryz.underlying3, mapKey, anyR]
    simp [hw]
  · show (List.map _ _).length = _
    rw [List.length_map]; exact hl

theorem appendKeys_ok {G : Hp} {v : Value} {ys : List Int} {B0 Bm b : Nat} {es : Array MapEntry} {clk : Nat} {m : List (Int × Value)} (hB0 : B0 ≤ G.size) (hown : OwnR B0 G v ys) (hbm : G[Bm]? = some (.cells #[.map (some b)] 80 (0, 0)))
    (hb : G[b]? = some (.map es clk)) (hm : Holds keyInt es m) (hbn : Born es clk) (hwf : ∀ x ∈ m, (Lit.int .i64 x.1).wf = true) (hlen : ys.length + m.length ≤ 2 ^ 20) {K : Value → HPred}
    (hk : ∀ v' ss G', ss.length = m.length → OwnR B0 G' v' (ys ++ ss) → Ext (fun b => B0 ≤ b) G G' → K v' G') :
    callF Tryz.prog 33 [v, .func (.func 72) #[] #[.pointer (some ⟨Bm, 0, none⟩)]] K G := by
  refine .inl ⟨fun w => by rfl, fun w hw => ?_⟩
  subst hw
  obtain ⟨D0, how, hsz, hik⟩ := owns_map hb hm hbn hwf (by omega)
  obtain ⟨a, cap, rfl⟩ := hown.shape
  have hseq : SeqGives Fence.wide 1 Tryz.prog 72 #[.pointer (some ⟨Bm, 0, none⟩)] encZ (fun ss => ss.Perm (intKeys D0)) (Maps.size D0) w :=
    AnyZI.keys_gives (ρ := Tryz.keysA_ren) { Tryz.keysA with } Fence.wide 1 trivial rfl (by omega) Bm b es.size D0 w (blk_lt hbm) (by rw [cell_eq]; exact cell_blk hbm) how
  have c := appendSeqx_in (ρ := Tryz.seqA_ren) Tryz.seqA Fence.wide 2 trivial rfl (by omega) 72 #[.pointer (some ⟨Bm, 0, none⟩)] trivial (fun args w => by rfl) _ _ w hseq hB0 ys hown.row (M := 2 ^ 20) (by omega) (by unfold maxLen; omega) (by omega)
  refine Calls.mono (callsIn_wide.1 c) ?_
  rintro e w' ⟨v', ss, rfl, hp, hr, hbl⟩
  exact ⟨v', rfl, hk v' ss _ (by rw [hp.length_eq, hik]) (OwnR.of hr) (below_ext hbl), below_same hbl⟩
end Go.Proofs.YtnnheophehnioaaGreat
namespace Go.Proofs.YtnnheophehnioaaGreat
open Go.Sx Go.Proofs Go.Gm
set_option maxRecDepth 100000

theorem sortInts_ok {G : Hp} {v : Value} {ys : List Int} {B0 : Nat} (hown : OwnR B0 G v ys) (hlen : ys.length ≤ 2 ^ 20) {K : Value → HPred} (hk : ∀ G', Ext (fun b => B0 ≤ b) G G' → K (.tuple #[]) G') :
    callF Tryz.prog 35 [v] K G := by
  refine .inl ⟨fun w => by rfl, fun w hw => ?_⟩
  subst hw
  rcases hown with ⟨rfl, h0⟩ | ⟨g, cap, cur, rfl, hg, hb, hcap, hmax, hsz, htk⟩
  · refine Calls.mono (AnyM.slices_Sort_int_none (ρ := Tryz.sortA_ren) Tryz.sortA none 0 w) ?_
    rintro e w' ⟨rfl, rfl⟩
    exact ⟨_, rfl, hk _ (Ext.refl _ _), .refl _⟩
  · have hlt := blk_lt hb
    have hH : Sort.Holds (Value.int .i64) w g 0 ys.toArray := by
      intro j hj
      have hj' : j < ys.length := by simpa using hj
      refine ⟨?_, ?_⟩
      · rw [cell_eq, cell_blk hb]
        have e := congrArg (fun l => l[j]?) htk
        simp only [List.getElem?_take, List.getElem?_map, Nat.mul_one, hj', if_true] at e
        rw [Nat.zero_add, ← Array.getElem?_toList, e, List.getElem?_eq_getElem hj']
        simp [encZ, hj']
      · rw [frozen_eq]
        unfold frozenH
        simp only [hb]
        simp
    refine Calls.mono (AnyM.slices_Sort_int (ρ := Tryz.sortA_ren) Tryz.sortA g 0 cap ys w hH hlt (by omega)) ?_
    rintro e w' ⟨rfl, n, os, rfl⟩
    refine ⟨_, rfl, hk _ ⟨?_, fun b hbl hn => ?_⟩, ⟨rfl, rfl, rfl⟩⟩
    · simp [Sort.grow, Sort.ahead, Sort.putRow, Sort.mapBlock]
    · have hne : g ≠ b := fun e => hn (by omega)
      rw [Sort.heap_grow_old _ _ (by simpa [Sort.ahead, Sort.putRow, Sort.mapBlock] using hbl)]
      simp [Sort.ahead, Sort.putRow, Sort.mapBlock, Array.getElem?_modify, hne]

section
variable {p : Nat} {t : Tb} {M : Nat → List (Int × Value)} {T : Nat → TL} {R : SP} {F : Nat → Prop}
def cntTo (M : Nat → List (Int × Value)) : Nat → Nat
  | 0 => 0
  | i + 1 => cntTo M i + (M i).length
theorem keys_loop {B0 : Nat} (hFB : ∀ b, F b → b < B0) (hl : ∀ i, i < 4 → t.lk i = 0) (hwf : ∀ i, i < 4 → ∀ x ∈ M i, (Lit.int .i64 x.1).wf = true) (hcnt : ∀ i, i ≤ 4 → cntTo M i ≤ 2 ^ 19) {K : Value → HPred} : ∀ (d i : Nat) (v : Value) (ys : List Int) (G : Hp), i + d = 4 → B0 ≤ G.size → (tabS p t M T * R).holds F G → OwnR B0 G v ys → ys.length = cntTo M i →
    (∀ a cap G', (tabS p t M T * R).holds F G' → Ext (fun b => F b ∨ B0 ≤ b) G G' → K (.slice a (cntTo M 4) cap) G') → f12.at5 K (ptrQ p) v (.int .i64 i) G := by
  intro d
  induction d with
  | zero =>
    intro i v ys G hi hB h hown hys hk
    have h4 : i = 4 := by omega
    subst h4
    refine f12.b5_ok ?_
    have hlt : ¬ ((4 : Nat) : Int) < 4 := by omega
    simp only [f12.b5, nilV_ptr', offV_ptr, opt_some', extV_tuple', List.getElem?_cons_zero, List.getElem?_cons_succ, List.getElem?_toArray, cnd_true', cnd_false', grd_tt', grd_tf', grd_ft', grd_ff', grd_u', pick_true', pick_false', un_not', Bool.not_true, Bool.not_false, Nat.add_zero, Nat.zero_add, Nat.reduceAdd, int_eql, int_neq, int_lss, int_leq, int_gtr, int_geq, rd_go, rdo_cells', rds_go, st_go, sto_cells, stc_ok', stA_go, stAo_all, stAo_allL, rdso_all, upd_push_top, one_int, one_bool, one_ptr, one_slice, one_map, one_func, one_iface, boxM_eq', newC_eq', Value.cells, push_get_new, push_size, upd_size, List.size_toArray, List.toList_toArray, List.length_cons, List.length_nil, List.all_cons, List.all_nil, Bool.and_self, Bool.and_true, decide_true, decide_false, decide_eq_false hlt]
    obtain ⟨a, cap, rfl⟩ := hown.shape
    have := hcnt 4 (by omega)
    refine sortInts_ok hown (by omega) fun G' hx => ?_
    rw [hys]
    exact hk a cap G' (SP.frame _ h hx fun b hb hn => by have := hFB b hb; omega) (hx.mono fun _ _ e => .inr e)
  | succ d ih =>
    intro i v ys G hi hB h hown hys hk
    have hi4 : i < 4 := by omega
    have hlt : (i : Int) < 4 := by omega
    refine f12.b5_ok ?_
    simp only [f12.b5, ptrQ, nilV_ptr', offV_ptr, opt_some', extV_tuple', List.getElem?_cons_zero, List.getElem?_cons_succ, List.getElem?_toArray, cnd_true', cnd_false', grd_tt', grd_tf', grd_ft', grd_ff', grd_u', pick_true', pick_false', un_not', Bool.not_true, Bool.not_false, Nat.add_zero, Nat.zero_add, Nat.reduceAdd, int_eql, int_neq, int_lss, int_leq, int_gtr, int_geq, rd_go, rdo_cells', rds_go, st_go, sto_cells, stc_ok', stA_go, stAo_all, stAo_allL, rdso_all, upd_push_top, one_int, one_bool, one_ptr, one_slice, one_map, one_func, one_iface, boxM_eq', newC_eq', Value.cells, push_get_new, push_size, upd_size, List.size_toArray, List.toList_toArray, List.length_cons, List.length_nil, List.all_cons, List.all_nil, Bool.and_self, Bool.and_true, decide_true, decide_false, decide_eq_true hlt, idxA_eq (Int.natCast_nonneg i) hlt]
    simp only [Int.toNat_natCast, Nat.zero_add]
    refine slock_ok hi4 h (hl _ hi4) fun H1 h1 g1 => ?_
    have hb1 := tab_blk h1
    obtain ⟨es, clk, ⟨hm, hbn⟩, hbm⟩ := tab_mapblk hi4 h1
    simp only [nilV_ptr', offV_ptr, opt_some', extV_tuple', List.getElem?_cons_zero, List.getElem?_cons_succ, List.getElem?_toArray, cnd_true', cnd_false', grd_tt', grd_tf', grd_ft', grd_ff', grd_u', pick_true', pick_false', un_not', Bool.not_true, Bool.not_false, Nat.add_zero, Nat.zero_add, Nat.reduceAdd, int_eql, int_neq, int_lss, int_leq, int_gtr, int_geq, rd_go, rdo_cells', rds_go, st_go, sto_cells, stc_ok', stA_go, stAo_all, stAo_allL, rdso_all, upd_push_top, one_int, one_bool, one_ptr, one_slice, one_map, one_func, one_iface, boxM_eq', newC_eq', Value.cells, push_get_new, push_size, upd_size, List.size_toArray, List.toList_toArray, List.length_cons, List.length_nil, List.all_cons, List.all_nil, Bool.and_self, Bool.and_true, decide_true, decide_false, hb1, tab_map _ hi4]
    refine f34.call ?_
    simp only [f34.b, nilV_ptr', offV_ptr, opt_some', extV_tuple', List.getElem?_cons_zero, List.getElem?_cons_succ, List.getElem?_toArray, cnd_true', cnd_false', grd_tt', grd_tf', grd_ft', grd_ff', grd_u', pick_true', pick_false', un_not', Bool.not_true, Bool.not_false, Nat.add_zero, Nat.zero_add, Nat.reduceAdd, int_eql, int_neq, int_lss, int_leq, int_gtr, int_geq, rd_go, rdo_cells', rds_go, st_go, sto_cells, stc_ok', stA_go, stAo_all, stAo_allL, rdso_all, upd_push_top, one_int, one_bool, one_ptr, one_slice, one_map, one_func, one_iface, boxM_eq', newC_eq', Value.cells, push_get_new, push_size, upd_size, List.size_toArray, List.toList_toArray, List.length_cons, List.length_nil, List.all_cons, List.all_nil, Bool.and_self, Bool.and_true, decide_true, decide_false]
    have hx2 := ext_push none' H1 (.cells #[.map (some (t.b i))] 80)
    have hn2 := push_new H1 (.cells #[.map (some (t.b i))] 80)
    have hbm2 : (H1.push (.cells #[.map (some (t.b i))] 80))[t.b i]? = some (.map es clk) := Ext0.blk hx2 hbm
    have hs1 := g1.size
    have hnF : ∀ b, B0 ≤ b → ¬ F b := fun b hb hF => by have := hFB b hF; omega
    have hown2 : OwnR B0 (H1.push (.cells #[.map (some (t.b i))] 80)) v ys := (hown.ext g1.ext hnF).ext hx2 fun _ _ e => e
    have hc1 := hcnt (i + 1) (by omega)
    simp only [cntTo] at hc1
    refine appendKeys_ok (by have := hx2.size; omega) hown2 hn2 hbm2 hm hbn (hwf i hi4) (by omega) fun v' ss G3 hss hown3 hx3 => ?_
    have h3 : (tabS p { t with lk := fupd t.lk i 1 } M T * R).holds F G3 := SP.frame _ (SP.frame _ h1 hx2 fun _ _ e => e) hx3 fun b hb hn => by have := hFB b hb; omega
    refine sunlock_ok hi4 h3 (hl _ hi4) fun G4 h4 g4 => ?_
    have e1 : IntKind.i64.wrap ((i : Int) + 1) = ((i + 1 : Nat) : Int) := by rw [wrap64_id (by omega) (by omega)]; omega
    simp only [nilV_ptr', offV_ptr, opt_some', extV_tuple', List.getElem?_cons_zero, List.getElem?_cons_succ, List.getElem?_toArray, cnd_true', cnd_false', grd_tt', grd_tf', grd_ft', grd_ff', grd_u', pick_true', pick_false', un_not', Bool.not_true, Bool.not_false, Nat.add_zero, Nat.zero_add, Nat.reduceAdd, int_eql, int_neq, int_lss, int_leq, int_gtr, int_geq, rd_go, rdo_cells', rds_go, st_go, sto_cells, stc_ok', stA_go, stAo_all, stAo_allL, rdso_all, upd_push_top, one_int, one_bool, one_ptr, one_slice, one_map, one_func, one_iface, boxM_eq', newC_eq', Value.cells, push_get_new, push_size, upd_size, List.size_toArray, List.toList_toArray, List.length_cons, List.length_nil, List.all_cons, List.all_nil, Bool.and_self, Bool.and_true, decide_true, decide_false, int_add, e1]
    have hx04 : Ext (fun b => F b ∨ B0 ≤ b) G G4 := ((g1.ext.mono fun _ _ e => .inl e).trans' ((Ext0.to hx2).trans' (hx3.mono fun _ _ e => .inr e))).trans' (g4.ext.mono fun _ _ e => .inl e)
    have hs4 := hx04.size
    refine ih (i + 1) v' (ys ++ ss) G4 (by omega) (by omega) h4 (hown3.ext g4.ext hnF) (by rw [List.length_append, hss, hys]; rfl) fun a cap G' hG hx => ?_
    exact hk a cap G' hG (hx04.trans' hx)
/-- Keys: as many as lie there. -/
theorem keys_ok {H : Hp} (h : (tabS p t M T * R).holds F H) (hl : ∀ i, i < 4 → t.lk i = 0) (hwf : ∀ i, i < 4 → ∀ x ∈ M i, (Lit.int .i64 x.1).wf = true) (hcnt : ∀ i, i ≤ 4 → cntTo M i ≤ 2 ^ 19) {K : Value → HPred}
    (hk : ∀ a cap H', (tabS p t M T * R).holds F H' → Gr F H F H' → K (.slice a (cntTo M 4) cap) H') : callF Tryz.prog 12 [ptrQ p] K H := by
  refine f12.call ?_
  simp only [f12.b, ptrQ, ptr_eq_nil Tryz.underlying24, Option.isNone_some, nilV_ptr', offV_ptr, opt_some', extV_tuple', List.getElem?_cons_zero, List.getElem?_cons_succ, List.getElem?_toArray, cnd_true', cnd_false', grd_tt', grd_tf', grd_ft', grd_ff', grd_u', pick_true', pick_false', un_not', Bool.not_true, Bool.not_false, Nat.add_zero, Nat.zero_add, Nat.reduceAdd, int_eql, int_neq, int_lss, int_leq, int_gtr, int_geq, rd_go, rdo_cells', rds_go, st_go, sto_cells, stc_ok', stA_go, stAo_all, stAo_allL, rdso_all, upd_push_top, one_int, one_bool, one_ptr, one_slice, one_map, one_func, one_iface, boxM_eq', newC_eq', Value.cells, push_get_new, push_size, upd_size, List.size_toArray, List.toList_toArray, List.length_cons, List.length_nil, List.all_cons, List.all_nil, Bool.and_self, Bool.and_true, decide_true, decide_false]
  refine keys_loop (B0 := H.size) (fun b hb => SP.lt _ h b hb) hl hwf hcnt 4 0 (.slice none 0 0) [] H (by omega) (Nat.le_refl _) h (.inl ⟨rfl, rfl⟩) rfl fun a cap G' hG hx => ?_
  exact hk a cap G' hG ⟨⟨hx.size, fun b hb hn => hx.keep b hb fun e => e.elim hn fun e => by omega⟩, fun b hb => .inl hb⟩
/-- Shard: as many as lie in it. -/
theorem shard_ok {H : Hp} (h : (tabS p t M T * R).holds F H) (hl : ∀ i, i < 4 → t.lk i = 0) {i : Nat} (hi : i < 4) {K : Value → HPred}
    (hk : ∀ H', (tabS p t M T * R).holds F H' → Gr F H F H' → K (.int .i64 (M i).length) H') : callF Tryz.prog 11 [ptrQ p, .int .i64 i] K H := by
  refine f11.call ?_
  have c1 : ¬ (i : Int) < 0 := by omega
  have c2 : ¬ (i : Int) ≥ 4 := by omega
  have hlt : (i : Int) < 4 := by omega
  simp only [f11.b, ptrQ, ptr_eq_nil Tryz.underlying24, Option.isNone_some, nilV_ptr', offV_ptr, opt_some', extV_tuple', List.getElem?_cons_zero, List.getElem?_cons_succ, List.getElem?_toArray, cnd_true', cnd_false', grd_tt', grd_tf', grd_ft', grd_ff', grd_u', pick_true', pick_false', un_not', Bool.not_true, Bool.not_false, Nat.add_zero, Nat.zero_add, Nat.reduceAdd, int_eql, int_neq, int_lss, int_leq, int_gtr, int_geq, rd_go, rdo_cells', rds_go, st_go, sto_cells, stc_ok', stA_go, stAo_all, stAo_allL, rdso_all, upd_push_top, one_int, one_bool, one_ptr, one_slice, one_map, one_func, one_iface, boxM_eq', newC_eq', Value.cells, push_get_new, push_size, upd_size, List.size_toArray, List.toList_toArray, List.length_cons, List.length_nil, List.all_cons, List.all_nil, Bool.and_self, Bool.and_true, decide_true, decide_false, decide_eq_false c1, decide_eq_false c2, idxA_eq (Int.natCast_nonneg i) hlt]
  simp only [Int.toNat_natCast, Nat.zero_add]
  refine slock_ok hi h (hl _ hi) fun H1 h1 g1 => ?_
  have hb1 := tab_blk h1
  obtain ⟨es, clk, ⟨hm, hbn⟩, hbm⟩ := tab_mapblk hi h1
  simp only [nilV_ptr', offV_ptr, opt_some', extV_tuple', List.getElem?_cons_zero, List.getElem?_cons_succ, List.getElem?_toArray, cnd_true', cnd_false', grd_tt', grd_tf', grd_ft', grd_ff', grd_u', pick_true', pick_false', un_not', Bool.not_true, Bool.not_false, Nat.add_zero, Nat.zero_add, Nat.reduceAdd, int_eql, int_neq, int_lss, int_leq, int_gtr, int_geq, rd_go, rdo_cells', rds_go, st_go, sto_cells, stc_ok', stA_go, stAo_all, stAo_allL, rdso_all, upd_push_top, one_int, one_bool, one_ptr, one_slice, one_map, one_func, one_iface, boxM_eq', newC_eq', Value.cells, push_get_new, push_size, upd_size, List.size_toArray, List.toList_toArray, List.length_cons, List.length_nil, List.all_cons, List.all_nil, Bool.and_self, Bool.and_true, decide_true, decide_false, hb1, tab_map _ hi]
  have hbm' : H1[t.b i]? = some (.map es clk) := hbm
  simp only [rd, len_map keyInt Tryz.underlying80 hbm' hm]
  refine sleave_ok hi h1 (hl _ hi) fun H2 h2 g2 => ?_
  exact hk H2 h2 (g1.trans g2)
end
end Go.Proofs.YtnnheophehnioaaGreat
namespace Go.Proofs.YtnnheophehnioaaGreat
open Go.Sx Go.Proofs Go.Gm
set_option maxRecDepth 100000

theorem mask_in (z : Int) : 0 ≤ andI .i64 z 65535 ∧ andI .i64 z 65535 ≤ 65535 := by
  unfold andI
  have h : (BitVec.ofInt IntKind.i64.bits z &&& BitVec.ofInt IntKind.i64.bits 65535).toNat ≤ 65535 := by
    rw [BitVec.toNat_and]
    exact Nat.le_trans Nat.and_le_right (by decide)
  have e := wrap64_id (a := ((BitVec.ofInt IntKind.i64.bits z &&& BitVec.ofInt IntKind.i64.bits 65535).toNat : Int)) (by omega) (by omega)
  rw [e]
  omega
theorem mput_ne {m : List (Int × Value)} {k k' : Int} {v : Value} (h : k' ≠ k) : mget (mput m k v) k' = mget m k' := by
  unfold mput mget
  split
  · congr 1
    induction m with
    | nil => rfl
    | cons x m ih =>
      rename_i hin
      by_cases hm : k ∈ m.map (·.1)
      · have ih' := ih hm
        simp only [List.map_cons, List.find?_cons]
        by_cases hx : x.1 = k
        · have : ¬ x.1 = k' := fun e => h (e.symm.trans hx)
          simp only [hx, if_true]
          have h2 : ¬ k = k' := fun e => h e.symm
          simp only [h2, decide_false]
          exact ih'
        · simp only [hx, if_false]
          by_cases hx' : x.1 = k'
          · simp [hx']
          · simp only [hx', decide_false]
            exact ih'
      · have e : (m.map fun x => if x.1 = k then (x.1, v) else x) = m := by
          conv => rhs; rw [← List.map_id m]
          apply List.map_congr_left
          intro y hy
          rw [if_neg (fun (e : y.1 = k) => hm (List.mem_map.2 ⟨y, hy, e⟩))]; rfl
        simp only [List.map_cons, List.find?_cons, e]
        by_cases hx : x.1 = k
        · have : ¬ x.1 = k' := fun e => h (e.symm.trans hx)
          simp only [hx, if_true]
          have h2 : ¬ k = k' := fun e => h e.symm
          simp [h2]
        · simp [hx]
  · rw [List.find?_append]
    have : ([(k, v)] : List (Int × Value)).find? (fun x => decide (x.1 = k')) = none := by simp; exact fun e => h e.symm
    rw [this, Option.or_none]
theorem mput_new {m : List (Int × Value)} {k : Int} {v : Value} (h : mget m k = none) : mput m k v = m ++ [(k, v)] := by
  unfold mput
  rw [if_neg (mget_none.1 h)]

def one1 : Value := .int .i64 1
structure SInv (M : Nat → List (Int × Value)) (sm : List (Int × Value)) : Prop where
  rng : ∀ j, j < 4 → ∀ x ∈ M j, 0 ≤ x.1 ∧ x.1 ≤ 65535
  ptr : ∀ i, i < 4 → ∀ k v, mget (M i) k = some v → ∃ b, v = ptrQ b
  one : ∀ k, mget sm k = none ∨ mget sm k = some one1
  iff : ∀ k, 0 ≤ k → (mget sm k = none ↔ mget (M (shd k)) k = none)
theorem SInv.zero : SInv (fun _ => []) [] := ⟨by simp, by simp [mget], fun _ => .inl rfl, by simp [mget]⟩
theorem SInv.again {M : Nat → List (Int × Value)} {sm : List (Int × Value)} (h : SInv M sm) {k : Int} (hk : mget sm k = some one1) : SInv M (mput sm k one1) := by
  refine ⟨h.rng, h.ptr, fun k' => ?_, fun k' h0 => ?_⟩
  · by_cases e : k' = k
    · subst e; exact .inr (mput_get _ _ _)
    · rw [mput_ne e]; exact h.one k'
  · by_cases e : k' = k
    · subst e
      rw [mput_get, ← h.iff k' h0, hk]
    · rw [mput_ne e]; exact h.iff k' h0
theorem SInv.more {M : Nat → List (Int × Value)} {sm : List (Int × Value)} (h : SInv M sm) {k : Int} {b : Nat} (hk : mget sm k = none) (h0 : 0 ≤ k) (h1 : k ≤ 65535) : SInv (fupd M (shd k) (mput (M (shd k)) k (ptrQ b))) (mput sm k one1) := by
  have hs := shd_lt h0
  have hM := (h.iff k h0).1 hk
  refine ⟨fun j hj x hx => ?_, fun j hj k' v hv => ?_, fun k' => ?_, fun k' h0' => ?_⟩
  · by_cases e : j = shd k
    · subst e
      rw [fupd_same, mput_new hM, List.mem_append, List.mem_singleton] at hx
      rcases hx with hx | rfl
      · exact h.rng _ hs x hx
      · exact ⟨h0, h1⟩
    · rw [fupd_ne _ _ e] at hx; exact h.rng j hj x hx
  · by_cases e : j = shd k
    · subst e
      rw [fupd_same] at hv
      by_cases e' : k' = k
      · subst e'; rw [mput_get] at hv; exact ⟨b, (Option.some.inj hv).symm⟩
      · rw [mput_ne e'] at hv; exact h.ptr _ hs k' v hv
    · rw [fupd_ne _ _ e] at hv; exact h.ptr j hj k' v hv
  · by_cases e : k' = k
    · subst e; exact .inr (mput_get _ _ _)
    · rw [mput_ne e]; exact h.one k'
  · by_cases e : k' = k
    · subst e; rw [mput_get, fupd_same, mput_get]; simp
    · rw [mput_ne e]
      by_cases e2 : shd k' = shd k
      · rw [e2, fupd_same, mput_ne e, ← e2]; exact h.iff k' h0'
      · rw [fupd_ne _ _ e2]; exact h.iff k' h0'
theorem cnt_more {M : Nat → List (Int × Value)} {s : Nat} (hs : s < 4) (m : List (Int × Value)) (hm : m.length = (M s).length + 1) : cntTo (fupd M s m) 4 = cntTo M 4 + 1 := by
  obtain rfl | rfl | rfl | rfl := four hs <;> simp [cntTo, fupd, hm] <;> omega
def wantL (M : Nat → List (Int × Value)) : List Value := [.int .i64 (M 0).length, .int .i64 (M 1).length, .int .i64 (M 2).length, .int .i64 (M 3).length]
def wantO (M : Nat → List (Int × Value)) : Obj := .cells (wantL M).toArray 28 (0, 0)
theorem want_get (M : Nat → List (Int × Value)) {s : Nat} (hs : s < 4) : (wantL M)[s]? = some (.int .i64 (M s).length) := by
  obtain rfl | rfl | rfl | rfl := four hs <;> rfl
theorem want_set (M : Nat → List (Int × Value)) {s : Nat} (hs : s < 4) (m : List (Int × Value)) (hm : m.length = (M s).length + 1) : (wantL M).toArray.setIfInBounds s (.int .i64 (((M s).length + 1 : Nat) : Int)) = (wantL (fupd M s m)).toArray := by
  obtain rfl | rfl | rfl | rfl := four hs <;> (apply Array.ext'; simp [wantL, fupd, hm])
def T0 : Nat → TL := fun _ => []
theorem times0 (s : Nat) (k at' : Int) : fupd T0 s (timesP (Ct.new gameC 6 9) (T0 s) k at') = T0 := by
  have e : timesP (Ct.new gameC 6 9) (T0 s) k at' = T0 s := by
    unfold timesP
    rw [if_neg (by simp [playedP, Ct.new])]
    rfl
  rw [e, fupd_id]
theorem at_one {H : Hp} {b o : Nat} {c : Array Value} {T : TypeId} {fz : Nat × Nat} {x : Value} (hb : H[b]? = some (.cells c T fz)) (hg : c[o]? = some x) (K : Value → HPred) : rd (cellP (.pointer (some ⟨b, o, none⟩))) K H = K x H := by
  rw [rd_go, hb, rdo_cells, hg]; rfl
def encZ1 (x : Int) : List Value := [.int .i64 x]
def tbn (n : Int) (b q : Nat → Nat) : Tb := ⟨5, 0, n, fun _ => 0, b, q⟩
theorem bool_neq (ox oy : Operand) (a b : Bool) : binV Tryz.prog .neq 4 ox oy (.bool a) (.bool b) = some (.bool (a != b)) := by cases a <;> cases b <;> kernel_rfl
end Go.Proofs.YtnnheophehnioaaGreat
namespace Go.Proofs.YtnnheophehnioaaGreat
open Go.Sx Go.Proofs Go.Gm
set_option maxRecDepth 100000

section
variable {p pw sb : Nat} {b q : Nat → Nat} {R : SP}
theorem seen_lk {A : SP} {sm : List (Int × Value)} {F : Nat → Prop} {G : Hp} (h : (mapS sb sm * A).holds F G) (k : Int) (K : Value → HPred) : rd (readRun Tryz.prog (Instr.lookup 29 (.map (some sb)) (.int .i64 k) false)) K G = K ((mget sm k).getD (.int .i64 0)) G := by
  obtain ⟨es, clk, ⟨hm, _⟩, h⟩ := mapS_open h
  exact rd_some (lookup_map keyInt (k := k) (z := .int .i64 0) Tryz.underlying29 Tryz.underlying3 (by kernel_rfl) (blk_get h) hm)
theorem at20_ok {A : SP} {sm : List (Int × Value)} {F : Nat → Prop} {G : Hp} (h : (mapS sb sm * A).holds F G) {x0 x3 x5 x7 : Value} {k : Int} {i : Nat} (hi : i ≤ 60) {K : Value → HPred}
    (hk : ∀ G', (mapS sb (mput sm k one1) * A).holds F G' → Gr F G F G' → f3.at10 K x0 x3 x5 (.map (some sb)) x7 (.int .i64 ((i + 1 : Nat) : Int)) G') :
    f3.at20 K x0 x3 x5 (.map (some sb)) x7 (.int .i64 i) (.int .i64 k) G := by
  obtain ⟨es, clk, ⟨hm, hbn⟩, h⟩ := mapS_open h
  refine f3.b20_ok ?_
  simp only [f3.b20]
  have e1 : IntKind.i64.wrap ((i : Int) + 1) = ((i + 1 : Nat) : Int) := by rw [wrap64_id (by omega) (by omega)]; omega
  refine update_mapB (k := k) Tryz.underlying29 Tryz.underlying3 (blk_get h) hm hbn ?_
  intro es' clk' hh hhb
  obtain ⟨h1, g1⟩ := blk_set h (.map es' clk')
  rw [setIf_upd]
  simp only [nilV_ptr', offV_ptr, opt_some', extV_tuple', List.getElem?_cons_zero, List.getElem?_cons_succ, List.getElem?_toArray, cnd_true', cnd_false', grd_tt', grd_tf', grd_ft', grd_ff', grd_u', pick_true', pick_false', un_not', Bool.not_true, Bool.not_false, Nat.add_zero, Nat.zero_add, Nat.reduceAdd, int_eql, int_neq, int_lss, int_leq, int_gtr, int_geq, rd_go, rdo_cells', rds_go, st_go, sto_cells, stc_ok', stA_go, stAo_all, stAo_allL, rdso_all, upd_push_top, one_int, one_bool, one_ptr, one_slice, one_map, one_func, one_iface, boxM_eq', newC_eq', Value.cells, push_get_new, push_size, upd_size, List.size_toArray, List.toList_toArray, List.length_cons, List.length_nil, List.all_cons, List.all_nil, Bool.and_self, Bool.and_true, decide_true, decide_false, int_add, e1]
  exact hk _ (mapS_mk ⟨hh, hhb⟩ h1) g1
theorem shards_loop {x0 : Value} {zs : List Int} {H0 : Hp} (hsh : ∃ a cap, x0 = .slice a zs.length cap) (hL : 0 < zs.length → Lies H0 x0 3 1 zs.length (zs.flatMap encZ1)) (hz : zs.length ≤ 60) {K : Value → HPred} :
    ∀ (d i : Nat) (M : Nat → List (Int × Value)) (sm : List (Int × Value)) (F : Nat → Prop) (G : Hp), zs.length = i + d → SInv M sm → cntTo M 4 ≤ i → Gr none' H0 F G →
      (tabS p (tbn (cntTo M 4) b q) M T0 * (blkS pw (wantO M) * (mapS sb sm * R))).holds F G →
      (∀ (M : Nat → List (Int × Value)) (sm : List (Int × Value)) (F : Nat → Prop) (G : Hp), SInv M sm → cntTo M 4 ≤ 60 → Gr none' H0 F G →
        (tabS p (tbn (cntTo M 4) b q) M T0 * (blkS pw (wantO M) * (mapS sb sm * R))).holds F G → f3.at23 K (ptrQ p) (ptrQ pw) (.int .i64 (cntTo M 4)) (.int .i64 0) (.int .i64 0) G) →
      f3.at10 K x0 (ptrQ p) (ptrQ pw) (.map (some sb)) (.int .i64 (cntTo M 4)) (.int .i64 i) G := by
  intro d
  induction d with
  | zero =>
    intro i M sm F G hi inv hc hG h hk
    obtain ⟨a, cap, rfl⟩ := hsh
    have l1 := len_slice (P := Tryz.prog) (ty := 3) (cs := #[false]) (a := a) (n := zs.length) (c := cap) Tryz.underlying22
    have hlt : ¬ (i : Int) < (zs.length : Int) := by omega
    refine f3.b10_ok ?_
    simp only [f3.b10, nilV_ptr', offV_ptr, opt_some', extV_tuple', List.getElem?_cons_zero, List.getElem?_cons_succ, List.getElem?_toArray, cnd_true', cnd_false', grd_tt', grd_tf', grd_ft', grd_ff', grd_u', pick_true', pick_false', un_not', Bool.not_true, Bool.not_false, Nat.add_zero, Nat.zero_add, Nat.reduceAdd, int_eql, int_neq, int_lss, int_leq, int_gtr, int_geq, rd_go, rdo_cells', rds_go, st_go, sto_cells, stc_ok', stA_go, stAo_all, stAo_allL, rdso_all, upd_push_top, one_int, one_bool, one_ptr, one_slice, one_map, one_func, one_iface, boxM_eq', newC_eq', Value.cells, push_get_new, push_size, upd_size, List.size_toArray, List.toList_toArray, List.length_cons, List.length_nil, List.all_cons, List.all_nil, Bool.and_self, Bool.and_true, decide_true, decide_false, l1, decide_eq_false hlt]
    exact hk M sm F G inv (by omega) hG h
  | succ d ih =>
    intro i M sm F G hi inv hc hG h hk
    have hlt : (i : Int) < (zs.length : Int) := by omega
    have hx : zs[i]? = some zs[i] := List.getElem?_eq_getElem (by omega)
    obtain ⟨bb, o, cc, ccap, TT, fz, hve, hbb, hil, hsz, hg⟩ := ((hL (by omega)).ext hG.ext fun _ _ e => e).at (enc := encZ1) (fun _ => rfl) hx
    have ih' := ih (i + 1)
    subst hve
    have l1 := len_slice (P := Tryz.prog) (ty := 3) (cs := #[false]) (a := some ⟨bb, o, none⟩) (n := zs.length) (c := ccap) Tryz.underlying22
    have hix : idxS (.slice (some ⟨bb, o, none⟩) zs.length ccap) (.int .i64 (i : Int)) 1 = some (.pointer (some ⟨bb, o + i, none⟩)) := by rw [idxS_eq (Int.natCast_nonneg i) hlt]; simp
    have r1 := at_one hbb (o := o + i) (x := .int .i64 zs[i]) (by have := hg 0 Nat.zero_lt_one; simpa [encZ1] using this)
    refine f3.b10_ok ?_
    simp only [f3.b10, nilV_ptr', offV_ptr, opt_some', extV_tuple', List.getElem?_cons_zero, List.getElem?_cons_succ, List.getElem?_toArray, cnd_true', cnd_false', grd_tt', grd_tf', grd_ft', grd_ff', grd_u', pick_true', pick_false', un_not', Bool.not_true, Bool.not_false, Nat.add_zero, Nat.zero_add, Nat.reduceAdd, int_eql, int_neq, int_lss, int_leq, int_gtr, int_geq, rd_go, rdo_cells', rds_go, st_go, sto_cells, stc_ok', stA_go, stAo_all, stAo_allL, rdso_all, upd_push_top, one_int, one_bool, one_ptr, one_slice, one_map, one_func, one_iface, boxM_eq', newC_eq', Value.cells, push_get_new, push_size, upd_size, List.size_toArray, List.toList_toArray, List.length_cons, List.length_nil, List.all_cons, List.all_nil, Bool.and_self, Bool.and_true, decide_true, decide_false, l1, decide_eq_true hlt, hix, r1, int_and]
    obtain ⟨k0, k1⟩ := mask_in zs[i]
    generalize andI .i64 zs[i] 65535 = k at k0 k1
    have hs := shd_lt k0
    refine game_ok h fun v1 G1 F1 h1 g1 => ?_
    refine cnew_ok (code := gameC) h1 (sli_lies h1) (by simp [gameC]) (fun _ G2 F2 qc _ h2 g2 => ?_) (fun hne => absurd gameC_ok hne)
    simp only [nilV_ptr', offV_ptr, opt_some', extV_tuple', List.getElem?_cons_zero, List.getElem?_cons_succ, List.getElem?_toArray, cnd_true', cnd_false', grd_tt', grd_tf', grd_ft', grd_ff', grd_u', pick_true', pick_false', un_not', Bool.not_true, Bool.not_false, Nat.add_zero, Nat.zero_add, Nat.reduceAdd, int_eql, int_neq, int_lss, int_leq, int_gtr, int_geq, rd_go, rdo_cells', rds_go, st_go, sto_cells, stc_ok', stA_go, stAo_all, stAo_allL, rdso_all, upd_push_top, one_int, one_bool, one_ptr, one_slice, one_map, one_func, one_iface, boxM_eq', newC_eq', Value.cells, push_get_new, push_size, upd_size, List.size_toArray, List.toList_toArray, List.length_cons, List.length_nil, List.all_cons, List.all_nil, Bool.and_self, Bool.and_true, decide_true, decide_false]
    rw [show ∀ c s t w m : SP, c * (s * (t * (w * (m * R)))) = t * (c * (s * (w * (m * R)))) by intro c s t w m; ac_rfl] at h2
    by_cases hn : mget (M (shd k)) k = none
    · have hsm : mget sm k = none := (inv.iff k k0).2 hn
      refine lay_ok h2 k0 (fun _ _ => rfl) rfl (by show (0 : Int) ≤ (cntTo M 4 : Int) ∧ (cntTo M 4 : Int) ≤ 4096; omega) (by simp [T0]) (by show -2 ^ 62 ≤ (0 : Int) + 5 ∧ (0 : Int) + 5 ≤ 2 ^ 62; omega) inv.ptr
        (fun hh => absurd hn hh) (fun _ hf => absurd hf (by show ¬ (cntTo M 4 : Int) + 1 > 4096; omega)) (fun _ _ G3 F3 h3 g3 => ?_)
      rw [times0] at h3
      have hlen : (mput (M (shd k)) k (ptrQ qc)).length = (M (shd k)).length + 1 := by rw [mput_new hn]; simp
      have hcm := cnt_more hs (mput (M (shd k)) k (ptrQ qc)) hlen
      have etb : ({ tbn (cntTo M 4) b q with cnt := (tbn (cntTo M 4) b q).cnt + 1 } : Tb) = tbn (cntTo (fupd M (shd k) (mput (M (shd k)) k (ptrQ qc))) 4) b q := by
        rw [hcm]; simp [tbn]
      rw [etb] at h3
      rw [show ∀ c s t w m : SP, t * (c * (s * (w * (m * R)))) = c * (s * (w * (t * (m * R)))) by intro c s t w m; ac_rfl] at h3
      obtain ⟨F4, h4, g4, -⟩ := SP.right h3
      obtain ⟨F5, h5, g5, -⟩ := SP.right h4
      have hw := blk_get h5
      unfold wantO at hw
      have hse := h5
      rw [show ∀ t w m : SP, w * (t * (m * R)) = m * (w * (t * R)) by intro t w m; ac_rfl] at hse
      have lk := seen_lk hse k
      have hxi : idxA (ptrQ pw) (.int .i64 (k.tmod 4)) 4 1 = some (.pointer (some ⟨pw, shd k, none⟩)) := by rw [shd_int k0, ptrQ, idxA_eq (by omega) (by omega)]; simp
      have hMl : (M (shd k)).length ≤ 60 := by
        have : (M (shd k)).length ≤ cntTo M 4 := by
          obtain e | e | e | e := four hs <;> rw [e] <;> simp only [cntTo] <;> omega
        omega
      have ew : IntKind.i64.wrap (((M (shd k)).length : Int) + 1) = (((M (shd k)).length + 1 : Nat) : Int) := by rw [wrap64_id (by omega) (by omega)]; omega
      have ec : IntKind.i64.wrap ((cntTo M 4 : Int) + 1) = ((cntTo (fupd M (shd k) (mput (M (shd k)) k (ptrQ qc))) 4 : Nat) : Int) := by rw [wrap64_id (by omega) (by omega), hcm]; omega
      have h40 : (4 : Int) ≠ 0 := by decide
      have d1 : decide ((8 : Int) = 0) = false := by decide
      have d2 : decide ((0 : Int) = 0) = true := by decide
      simp only [nilV_ptr', offV_ptr, opt_some', extV_tuple', List.getElem?_cons_zero, List.getElem?_cons_succ, List.getElem?_toArray, cnd_true', cnd_false', grd_tt', grd_tf', grd_ft', grd_ff', grd_u', pick_true', pick_false', un_not', Bool.not_true, Bool.not_false, Nat.add_zero, Nat.zero_add, Nat.reduceAdd, int_eql, int_neq, int_lss, int_leq, int_gtr, int_geq, rd_go, rdo_cells', rds_go, st_go, sto_cells, stc_ok', stA_go, stAo_all, stAo_allL, rdso_all, upd_push_top, one_int, one_bool, one_ptr, one_slice, one_map, one_func, one_iface, boxM_eq', newC_eq', Value.cells, push_get_new, push_size, upd_size, List.size_toArray, List.toList_toArray, List.length_cons, List.length_nil, List.all_cons, List.all_nil, Bool.and_self, Bool.and_true, decide_true, decide_false, lk, hsm, Option.getD_none, bool_neq, d2, bne_self_eq_false, int_rem _ _ _ _ _ _ h40, hxi, hw, List.getElem?_toArray, want_get M hs, int_add, ew, ec, want_set M hs _ hlen]
      obtain ⟨h6, g6⟩ := blk_set h5 (wantO (fupd M (shd k) (mput (M (shd k)) k (ptrQ qc))))
      unfold wantO at h6 g6
      rw [show ∀ t w m : SP, w * (t * (m * R)) = m * (w * (t * R)) by intro t w m; ac_rfl] at h6
      refine at20_ok h6 (by omega) fun G7 h7 g7 => ?_
      rw [show ∀ t w m : SP, m * (w * (t * R)) = t * (w * (m * R)) by intro t w m; ac_rfl] at h7
      exact ih' _ _ F5 G7 (by omega) (inv.more hsm k0 k1) (by rw [hcm]; omega) (hG.trans (g1.trans (g2.trans (g3.trans (g4.trans (g5.trans (g6.trans g7))))))) h7 hk
    · have hsm : mget sm k = some one1 := (inv.one k).resolve_left fun e => hn ((inv.iff k k0).1 e)
      refine lay_ok h2 k0 (fun _ _ => rfl) rfl (by show (0 : Int) ≤ (cntTo M 4 : Int) ∧ (cntTo M 4 : Int) ≤ 4096; omega) (by simp [T0]) (by show -2 ^ 62 ≤ (0 : Int) + 5 ∧ (0 : Int) + 5 ≤ 2 ^ 62; omega) inv.ptr
        (fun _ G3 h3 g3 => ?_) (fun hh => absurd hh hn) (fun hh => absurd hh hn)
      rw [show ∀ c s t w m : SP, t * (c * (s * (w * (m * R)))) = c * (s * (m * (t * (w * R)))) by intro c s t w m; ac_rfl] at h3
      obtain ⟨F4, h4, g4, -⟩ := SP.right h3
      obtain ⟨F5, h5, g5, -⟩ := SP.right h4
      have lk := seen_lk h5 k
      have d0 : decide ((0 : Int) = 0) = true := by decide
      have d1 : decide ((8 : Int) = 0) = false := by decide
      have d2 : decide ((1 : Int) = 0) = false := by decide
      have d3 : decide ((8 : Int) ≠ 8) = false := by decide
      have d4 : decide ((8 : Int) ≠ 0) = true := by decide
      simp only [nilV_ptr', offV_ptr, opt_some', extV_tuple', List.getElem?_cons_zero, List.getElem?_cons_succ, List.getElem?_toArray, cnd_true', cnd_false', grd_tt', grd_tf', grd_ft', grd_ff', grd_u', pick_true', pick_false', un_not', Bool.not_true, Bool.not_false, Nat.add_zero, Nat.zero_add, Nat.reduceAdd, int_eql, int_neq, int_lss, int_leq, int_gtr, int_geq, rd_go, rdo_cells', rds_go, st_go, sto_cells, stc_ok', stA_go, stAo_all, stAo_allL, rdso_all, upd_push_top, one_int, one_bool, one_ptr, one_slice, one_map, one_func, one_iface, boxM_eq', newC_eq', Value.cells, push_get_new, push_size, upd_size, List.size_toArray, List.toList_toArray, List.length_cons, List.length_nil, List.all_cons, List.all_nil, Bool.and_self, Bool.and_true, decide_true, decide_false, lk, hsm, one1, Option.getD_some, bool_neq, d1, d2, bne_self_eq_false, d3, d4]
      refine at20_ok h5 (by omega) fun G7 h7 g7 => ?_
      rw [show ∀ t w m : SP, m * (t * (w * R)) = t * (w * (m * R)) by intro t w m; ac_rfl] at h7
      exact ih' _ _ F5 G7 (by omega) (inv.again hsm) (by omega) (hG.trans (g1.trans (g2.trans (g3.trans (g4.trans (g5.trans g7)))))) h7 hk
end
end Go.Proofs.YtnnheophehnioaaGreat
namespace Go.Proofs.YtnnheophehnioaaGreat
open Go.Sx Go.Proofs Go.Gm
set_option maxRecDepth 100000

theorem sdue_none {now at' : Int} {lf : Int → Int} {ctOf : Int → Ct} {i : Nat} {T T' : Nat → TL} {L L' : List Due} (h : DueR now at' lf ctOf i T L T' L') : T = T0 → L = [] → L' = [] := by
  induction h with
  | done T L => exact fun _ h => h
  | step i T L D T' L' hi hs hp h ih =>
    intro hT hL
    subst hT hL
    have hD : D = [] := List.Perm.eq_nil (by simpa [T0] using hp)
    subst hD
    refine ih ?_ rfl
    simp only [dueOf, List.map_nil, List.append_nil, List.foldl_nil]
    exact fupd_id T0 i
section
variable {p pw sb : Nat} {b q : Nat → Nat} {R : SP}
theorem cnt_le {M : Nat → List (Int × Value)} : ∀ i, i ≤ 4 → cntTo M i ≤ cntTo M 4 := by
  intro i hi
  match i, hi with
  | 0, _ => simp [cntTo]
  | 1, _ => simp [cntTo]; omega
  | 2, _ => simp [cntTo]; omega
  | 3, _ => simp [cntTo]
  | 4, _ => exact Nat.le_refl _
theorem shards_sum {M : Nat → List (Int × Value)} {sm : List (Int × Value)} (inv : SInv M sm) (hc : cntTo M 4 ≤ 60) {F : Nat → Prop} {K : Value → HPred} :
    ∀ (d i : Nat) (G : Hp), 4 = i + d → (tabS p (tbn (cntTo M 4) b q) M T0 * (blkS pw (wantO M) * (mapS sb sm * R))).holds F G →
      (∀ G' F', R.holds F' G' → Gr F G F' G' → K (.bool true) G') →
      f3.at23 K (ptrQ p) (ptrQ pw) (.int .i64 (cntTo M 4)) (.int .i64 (cntTo M i)) (.int .i64 i) G := by
  intro d
  induction d with
  | zero =>
    intro i G hi h hk
    obtain rfl : i = 4 := by omega
    have hlt : ¬ ((4 : Nat) : Int) < 4 := by omega
    refine f3.b23_ok ?_
    simp only [f3.b23, nilV_ptr', offV_ptr, opt_some', extV_tuple', List.getElem?_cons_zero, List.getElem?_cons_succ, List.getElem?_toArray, cnd_true', cnd_false', grd_tt', grd_tf', grd_ft', grd_ff', grd_u', pick_true', pick_false', un_not', Bool.not_true, Bool.not_false, Nat.add_zero, Nat.zero_add, Nat.reduceAdd, int_eql, int_neq, int_lss, int_leq, int_gtr, int_geq, rd_go, rdo_cells', rds_go, st_go, sto_cells, stc_ok', stA_go, stAo_all, stAo_allL, rdso_all, upd_push_top, one_int, one_bool, one_ptr, one_slice, one_map, one_func, one_iface, boxM_eq', newC_eq', Value.cells, push_get_new, push_size, upd_size, List.size_toArray, List.toList_toArray, List.length_cons, List.length_nil, List.all_cons, List.all_nil, Bool.and_self, Bool.and_true, decide_true, decide_false, decide_eq_false hlt]
    refine keys_ok h (fun _ _ => rfl) (fun j hj x hx => ?_) (fun j hj => by have := cnt_le (M := M) j hj; omega) fun a cap G1 h1 g1 => ?_
    · obtain ⟨r0, r1⟩ := inv.rng j hj x hx
      have e1 : IntKind.i64.min = -9223372036854775808 := by decide
      have e2 : IntKind.i64.max = 9223372036854775807 := by decide
      simp only [Lit.wf, e1, e2, Bool.and_eq_true, decide_eq_true_eq]
      omega
    have l1 := len_slice (P := Tryz.prog) (ty := 3) (cs := #[false]) (a := a) (n := cntTo M 4) (c := cap) Tryz.underlying22
    simp only [nilV_ptr', offV_ptr, opt_some', extV_tuple', List.getElem?_cons_zero, List.getElem?_cons_succ, List.getElem?_toArray, cnd_true', cnd_false', grd_tt', grd_tf', grd_ft', grd_ff', grd_u', pick_true', pick_false', un_not', Bool.not_true, Bool.not_false, Nat.add_zero, Nat.zero_add, Nat.reduceAdd, int_eql, int_neq, int_lss, int_leq, int_gtr, int_geq, rd_go, rdo_cells', rds_go, st_go, sto_cells, stc_ok', stA_go, stAo_all, stAo_allL, rdso_all, upd_push_top, one_int, one_bool, one_ptr, one_slice, one_map, one_func, one_iface, boxM_eq', newC_eq', Value.cells, push_get_new, push_size, upd_size, List.size_toArray, List.toList_toArray, List.length_cons, List.length_nil, List.all_cons, List.all_nil, Bool.and_self, Bool.and_true, decide_true, decide_false, l1]
    refine due1_ok (t := tbn (cntTo M 4) b q) (M := M) (T := T0) (rows := []) (lf := fun _ => 0) (ctOf := fun _ => Ct.new gameC 6 9) (N := 0) (R := blkS pw (wantO M) * (mapS sb sm * R)) (by simp) (by simp) (by simp) (by simp) (by show -2 ^ 62 ≤ (1073741824 : Int) + 5 ∧ (1073741824 : Int) + 5 ≤ 2 ^ 62; omega) (fun _ _ => rfl) (by omega) (by simp [T0]) (by simp [T0])
      (fun T' L' hd => by rw [sdue_none hd rfl rfl]; simp) (by rw [show conR [] = SP.emp from rfl, SP.emp_star]; exact h1) fun T' L' w G2 F2 hd h2 g2 => ?_
    rw [sdue_none hd rfl rfl, show conR [] = SP.emp from rfl, SP.emp_star] at h2
    rw [show ∀ t s w m : SP, t * (s * (w * (m * R))) = s * (t * (w * (m * R))) by intro t s w m; ac_rfl] at h2
    obtain ⟨a2, c2, rfl⟩ := (sli_lies h2).shape
    have l2 := len_slice (P := Tryz.prog) (ty := 3) (cs := #[false]) (a := a2) (n := 0) (c := c2) Tryz.underlying40
    obtain ⟨F3, h3, g3, -⟩ := SP.right h2
    obtain ⟨F4, h4, g4, -⟩ := SP.right h3
    obtain ⟨F5, h5, g5, -⟩ := SP.right h4
    obtain ⟨F6, h6, g6, -⟩ := SP.right h5
    have l2' : pureRun Tryz.prog (bltN .len #[40] 3 #[false] [.slice a2 (outOf ([] : List Due)).length c2]) = some (.int .i64 0) := l2
    have d0 : decide ((0 : Int) = 0) = true := by decide
    simp only [nilV_ptr', offV_ptr, opt_some', extV_tuple', List.getElem?_cons_zero, List.getElem?_cons_succ, List.getElem?_toArray, cnd_true', cnd_false', grd_tt', grd_tf', grd_ft', grd_ff', grd_u', pick_true', pick_false', un_not', Bool.not_true, Bool.not_false, Nat.add_zero, Nat.zero_add, Nat.reduceAdd, int_eql, int_neq, int_lss, int_leq, int_gtr, int_geq, rd_go, rdo_cells', rds_go, st_go, sto_cells, stc_ok', stA_go, stAo_all, stAo_allL, rdso_all, upd_push_top, one_int, one_bool, one_ptr, one_slice, one_map, one_func, one_iface, boxM_eq', newC_eq', Value.cells, push_get_new, push_size, upd_size, List.size_toArray, List.toList_toArray, List.length_cons, List.length_nil, List.all_cons, List.all_nil, Bool.and_self, Bool.and_true, decide_true, decide_false, l2', d0]
    refine known_ok h6 fun G7 F7 h7 g7 => ?_
    exact hk G7 F7 h7 (g1.trans (g2.trans (g3.trans (g4.trans (g5.trans (g6.trans g7))))))
  | succ d ih =>
    intro i G hi h hk
    have hi4 : i < 4 := by omega
    have hlt : (i : Int) < 4 := by omega
    have hxi : idxA (ptrQ pw) (.int .i64 (i : Int)) 4 1 = some (.pointer (some ⟨pw, i, none⟩)) := by rw [ptrQ, idxA_eq (by omega) (by omega)]; simp
    have hw0 := h
    rw [show ∀ t w m : SP, t * (w * (m * R)) = w * (t * (m * R)) by intro t w m; ac_rfl] at hw0
    have hb0 := blk_get hw0
    unfold wantO at hb0
    have r0 := at_one (o := i) hb0 (by rw [List.getElem?_toArray]; exact want_get M hi4)
    have hMi : (M i).length ≤ 60 := by
      have : (M i).length ≤ cntTo M 4 := by
        obtain e | e | e | e := four hi4 <;> rw [e] <;> simp only [cntTo] <;> omega
      omega
    refine f3.b23_ok ?_
    simp only [f3.b23, nilV_ptr', offV_ptr, opt_some', extV_tuple', List.getElem?_cons_zero, List.getElem?_cons_succ, List.getElem?_toArray, cnd_true', cnd_false', grd_tt', grd_tf', grd_ft', grd_ff', grd_u', pick_true', pick_false', un_not', Bool.not_true, Bool.not_false, Nat.add_zero, Nat.zero_add, Nat.reduceAdd, int_eql, int_neq, int_lss, int_leq, int_gtr, int_geq, rd_go, rdo_cells', rds_go, st_go, sto_cells, stc_ok', stA_go, stAo_all, stAo_allL, rdso_all, upd_push_top, one_int, one_bool, one_ptr, one_slice, one_map, one_func, one_iface, boxM_eq', newC_eq', Value.cells, push_get_new, push_size, upd_size, List.size_toArray, List.toList_toArray, List.length_cons, List.length_nil, List.all_cons, List.all_nil, Bool.and_self, Bool.and_true, decide_true, decide_false, decide_eq_true hlt, hxi, r0]
    refine shard_ok h (fun _ _ => rfl) hi4 fun G1 h1 g1 => ?_
    have hw1 := h1
    rw [show ∀ t w m : SP, t * (w * (m * R)) = w * (t * (m * R)) by intro t w m; ac_rfl] at hw1
    have hb1 := blk_get hw1
    unfold wantO at hb1
    rw [k_chkc hb1 (by rw [List.getElem?_toArray]; exact want_get M hi4)]
    have d0 : decide (((M i).length : Int) ≠ ((M i).length : Int)) = false := by simp
    simp only [nilV_ptr', offV_ptr, opt_some', extV_tuple', List.getElem?_cons_zero, List.getElem?_cons_succ, List.getElem?_toArray, cnd_true', cnd_false', grd_tt', grd_tf', grd_ft', grd_ff', grd_u', pick_true', pick_false', un_not', Bool.not_true, Bool.not_false, Nat.add_zero, Nat.zero_add, Nat.reduceAdd, int_eql, int_neq, int_lss, int_leq, int_gtr, int_geq, rd_go, rdo_cells', rds_go, st_go, sto_cells, stc_ok', stA_go, stAo_all, stAo_allL, rdso_all, upd_push_top, one_int, one_bool, one_ptr, one_slice, one_map, one_func, one_iface, boxM_eq', newC_eq', Value.cells, push_get_new, push_size, upd_size, List.size_toArray, List.toList_toArray, List.length_cons, List.length_nil, List.all_cons, List.all_nil, Bool.and_self, Bool.and_true, decide_true, decide_false, d0]
    refine shard_ok h1 (fun _ _ => rfl) hi4 fun G2 h2 g2 => ?_
    have hci := cnt_le (M := M) i (by omega)
    have ew : IntKind.i64.wrap ((cntTo M i : Int) + ((M i).length : Int)) = ((cntTo M (i + 1) : Nat) : Int) := by rw [wrap64_id (by omega) (by omega)]; simp [cntTo]
    have ei : IntKind.i64.wrap ((i : Int) + 1) = ((i + 1 : Nat) : Int) := by rw [wrap64_id (by omega) (by omega)]; omega
    simp only [nilV_ptr', offV_ptr, opt_some', extV_tuple', List.getElem?_cons_zero, List.getElem?_cons_succ, List.getElem?_toArray, cnd_true', cnd_false', grd_tt', grd_tf', grd_ft', grd_ff', grd_u', pick_true', pick_false', un_not', Bool.not_true, Bool.not_false, Nat.add_zero, Nat.zero_add, Nat.reduceAdd, int_eql, int_neq, int_lss, int_leq, int_gtr, int_geq, rd_go, rdo_cells', rds_go, st_go, sto_cells, stc_ok', stA_go, stAo_all, stAo_allL, rdso_all, upd_push_top, one_int, one_bool, one_ptr, one_slice, one_map, one_func, one_iface, boxM_eq', newC_eq', Value.cells, push_get_new, push_size, upd_size, List.size_toArray, List.toList_toArray, List.length_cons, List.length_nil, List.all_cons, List.all_nil, Bool.and_self, Bool.and_true, decide_true, decide_false, int_add, ew, ei]
    exact ih (i + 1) G2 (by omega) h2 fun G' F' hR hg => hk G' F' hR (g1.trans (g2.trans hg))
end
theorem shards_ok {H : Hp} {x0 : Value} {zs : List Int} (hsh : ∃ a cap, x0 = .slice a zs.length cap) (hL : 0 < zs.length → Lies H x0 3 1 zs.length (zs.flatMap encZ1)) {K : Value → HPred} (hk : ∀ H', Ext0 H H' → K (.bool true) H') : callF Tryz.prog 3 [x0] K H := by
  refine f3.call ?_
  have emp : SP.emp.holds none' H := rfl
  obtain ⟨a, cap, hxs⟩ := id hsh
  have l1 := len_slice (P := Tryz.prog) (ty := 3) (cs := #[false]) (a := a) (n := zs.length) (c := cap) Tryz.underlying22
  rw [← hxs] at l1
  by_cases hz : (zs.length : Int) > 60
  · simp only [f3.b, nilV_ptr', offV_ptr, opt_some', extV_tuple', List.getElem?_cons_zero, List.getElem?_cons_succ, List.getElem?_toArray, cnd_true', cnd_false', grd_tt', grd_tf', grd_ft', grd_ff', grd_u', pick_true', pick_false', un_not', Bool.not_true, Bool.not_false, Nat.add_zero, Nat.zero_add, Nat.reduceAdd, int_eql, int_neq, int_lss, int_leq, int_gtr, int_geq, rd_go, rdo_cells', rds_go, st_go, sto_cells, stc_ok', stA_go, stAo_all, stAo_allL, rdso_all, upd_push_top, one_int, one_bool, one_ptr, one_slice, one_map, one_func, one_iface, boxM_eq', newC_eq', Value.cells, push_get_new, push_size, upd_size, List.size_toArray, List.toList_toArray, List.length_cons, List.length_nil, List.all_cons, List.all_nil, Bool.and_self, Bool.and_true, decide_true, decide_false, l1, decide_eq_true hz]
    exact known_ok emp fun G F h g => hk G g.ext
  · simp only [f3.b, nilV_ptr', offV_ptr, opt_some', extV_tuple', List.getElem?_cons_zero, List.getElem?_cons_succ, List.getElem?_toArray, cnd_true', cnd_false', grd_tt', grd_tf', grd_ft', grd_ff', grd_u', pick_true', pick_false', un_not', Bool.not_true, Bool.not_false, Nat.add_zero, Nat.zero_add, Nat.reduceAdd, int_eql, int_neq, int_lss, int_leq, int_gtr, int_geq, rd_go, rdo_cells', rds_go, st_go, sto_cells, stc_ok', stA_go, stAo_all, stAo_allL, rdso_all, upd_push_top, one_int, one_bool, one_ptr, one_slice, one_map, one_func, one_iface, boxM_eq', newC_eq', Value.cells, push_get_new, push_size, upd_size, List.size_toArray, List.toList_toArray, List.length_cons, List.length_nil, List.all_cons, List.all_nil, Bool.and_self, Bool.and_true, decide_true, decide_false, l1, decide_eq_false hz]
    refine tnew_ok emp (by omega) fun H1 F1 p b q _ h1 g1 => ?_
    simp only [ptrQ, nilV_ptr', offV_ptr, opt_some', extV_tuple', List.getElem?_cons_zero, List.getElem?_cons_succ, List.getElem?_toArray, cnd_true', cnd_false', grd_tt', grd_tf', grd_ft', grd_ff', grd_u', pick_true', pick_false', un_not', Bool.not_true, Bool.not_false, Nat.add_zero, Nat.zero_add, Nat.reduceAdd, int_eql, int_neq, int_lss, int_leq, int_gtr, int_geq, rd_go, rdo_cells', rds_go, st_go, sto_cells, stc_ok', stA_go, stAo_all, stAo_allL, rdso_all, upd_push_top, one_int, one_bool, one_ptr, one_slice, one_map, one_func, one_iface, boxM_eq', newC_eq', Value.cells, push_get_new, push_size, upd_size, List.size_toArray, List.toList_toArray, List.length_cons, List.length_nil, List.all_cons, List.all_nil, Bool.and_self, Bool.and_true, decide_true, decide_false, ptr_eq_nil Tryz.underlying24, Option.isNone_some, makeMap_eq]
    obtain ⟨F2, h2, g2⟩ := blk_new h1 (.cells #[.int .i64 0, .int .i64 0, .int .i64 0, .int .i64 0] 28)
    obtain ⟨F3, h3, g3⟩ := map_new h2
    rw [show ∀ t w m : SP, m * (w * (t * SP.emp)) = t * (w * (m * SP.emp)) by intro t w m; ac_rfl] at h3
    simp only [push_size] at h3
    refine shards_loop (b := b) (q := q) (R := SP.emp) hsh hL (by omega) zs.length 0 (fun _ => []) [] F3 _ (by omega) SInv.zero (by simp [cntTo]) (g1.trans (g2.trans g3)) h3 fun M sm F G inv hc hG h => ?_
    exact shards_sum inv hc 4 0 G rfl h fun G' F' _ g' => hk G' (hG.trans g').ext
end Go.Proofs.YtnnheophehnioaaGreat
namespace Go.Proofs.YtnnheophehnioaaGreat.tableShards
open Go.ChangeShapes Go.WideShapes Go.ChangeAt Go.RowKit Go.Sx
set_option linter.unusedVariables false
set_option maxRecDepth 100000

theorem own : ownKnob Tryz.prog.godebug = none := by kernel_rfl
theorem cellsI : Tryz.prog.cellsOf 3 = 1 := by kernel_rfl
theorem params_lt : ∀ t ∈ Tryz.f3.params.toList, t < Tryz.prog.types.size :=
  fun t ht => of_decide_eq_true (List.all_eq_true.1 (by kernel_rfl : (Tryz.f3.params.toList.all fun t => decide (t < Tryz.prog.types.size)) = true) t ht)
theorem lifted (os : Os) (started : os.Started) (H : Type) (enc : TypeId × Value → H) :
    ReturnsInHanded {} Tryz.checked os 3 .any (Rows.tableShardsSpec.pre6 enc Tryz.prog Tryz.f3 Rows.tableShardsRow.domain false) (Rows.tableShardsSpec.post enc Tryz.prog Tryz.f3 false true false false) := by
  refine returnsInHanded_of_change (C := Tryz.checked) own started (by kernel_rfl) Tryz.func3
    (ChangeSpec.witness6 (enc := enc) (C := Tryz.checked) false ⟨#[], #[.slice none 0 0], []⟩ 8 (by kernel_rfl) (by kernel_rfl) (by kernel_rfl) (by kernel_rfl)) ?_
  intro W base args ds gs before hval0 hW hcnd _
  have hval : ∀ (j : Nat) t v, Tryz.f3.params[j]? = some t → args[j]? = some v → Value.okWide Tryz.prog W .any base t v := hval0
  have hW' := hW
  obtain ⟨p, q, hA0, hV, rfl, hfz, hnd⟩ := hW
  have hA : DataW.TrodAll enc Tryz.prog W 0 (fun _ => true) true Tryz.f3.params.toList args.toList ds p := hA0
  rw [Tryz.params3] at hA hval
  obtain ⟨v0, vs0, d0, ds0, p0, q0, hargs, hds0, rfl, h0, r0⟩ := trodAll_cons hA
  obtain ⟨rfl, rfl, rfl⟩ := trodAll_nil r0
  obtain rfl : args = #[v0] := by cases args; simp_all
  obtain ⟨zs, hsh, _, hL⟩ := open_slice_ints Tryz.underlying22 Tryz.underlying3 cellsI (hval 0 _ v0 rfl rfl) h0
  have call := shards_ok (H := W.heap) hsh hL (K := fun v H' => v = .bool true ∧ Ext0 W.heap H') fun H' hx => ⟨rfl, hx⟩
  refine (calls_of call (fun w => by rfl)).mono fun e W' ⟨v, he, ⟨hv, hx⟩, hs⟩ => ?_
  subst he hv
  exact ⟨_, rfl, post_true kids full hW' rfl (fun ds' hd => by rw [hd, hds0]; rfl) rfl Tryz.underlying4 params_lt hs hx⟩

theorem over : Rows.tableShardsRow.holds Tryz.pinned (OpenSpec.ofChange Rows.tableShardsSpec) :=
  OpenClaim.holds_of_wide 3 Tryz.f3 rfl rfl rfl rfl rfl rfl rfl ⟨rfl, rfl, rfl, rfl, rfl⟩ rfl rfl rfl rfl rfl (by kernel_rfl) Tryz.func3 (by kernel_rfl)
    (of_decide_eq_true (by kernel_rfl)) (by unfold Func.isWrapper; first | (rw [if_pos (by decide +kernel)]; kernel_rfl) | (rw [if_neg (by decide +kernel)]; exact ⟨rfl, rfl⟩))
    (fun os started H enc _ => lifted os started H enc)

theorem proved : Rows.TableShardsSaid := over
end Go.Proofs.YtnnheophehnioaaGreat.tableShards
