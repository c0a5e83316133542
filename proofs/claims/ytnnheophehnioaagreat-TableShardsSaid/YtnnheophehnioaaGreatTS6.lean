/-
  Part 6 of the proof: contracts of the functions that the law reaches, and the rules they stand on. Own work (an AI agent). No conditions.
-/
import Derived.Test.YtnnheophehnioaaGreatTS5
set_option linter.unusedSimpArgs false
set_option linter.unusedVariables false
namespace Go.Proofs.YtnnheophehnioaaGreat
open Go.Sx Go.Proofs Go.Gm
set_option maxRecDepth 100000

theorem con_set_open (c : Ct) (v0 v1 v2 v3 v4 : Value) (x : Bool) : (conL c v0 v1 v2 v3 v4).toArray.setIfInBounds 13 (.bool x) = (conL { c with opened := x } v0 v1 v2 v3 v4).toArray := by
  apply Array.ext'; simp [conL, statusL]
theorem con_set_seed (c : Ct) (v0 v1 v2 v3 v4 : Value) (x : Int) : (conL c v0 v1 v2 v3 v4).toArray.setIfInBounds 5 (.int .u32 x) = (conL { c with seed := x } v0 v1 v2 v3 v4).toArray := by
  apply Array.ext'; simp [conL, statusL]
theorem con_set_code (c : Ct) (v0 v1 v2 v3 v4 x : Value) : (conL c v0 v1 v2 v3 v4).toArray.setIfInBounds 0 x = (conL c x v1 v2 v3 v4).toArray := by
  apply Array.ext'; simp [conL, statusL]
theorem con_set_evs {c : Ct} (h : c.st.cells.length = 16) (v0 v1 v2 v3 v4 x : Value) (l : List Ev) : (conL c v0 v1 v2 v3 v4).toArray.setIfInBounds 37 x = (conL { c with evs := l } v0 v1 v2 v3 x).toArray := by
  have e := set_app ([v0, .int .i64 c.cap, .int .i64 c.fuel] ++ (statusL c ++ ([v1, v2, v3] ++ stL' c.st))) [] v4 x
  have hl : ([v0, .int .i64 c.cap, .int .i64 c.fuel] ++ (statusL c ++ ([v1, v2, v3] ++ stL' c.st))).length = 37 := by simp [statusL, stL', h]
  rw [hl] at e
  simpa [conL, statusL] using e
theorem con_sta_players (c : Ct) (h : c.st.cells.length = 16) (v0 v1 v2 v3 v4 : Value) (a b : Int) (T : TypeId) (q : Nat) (C : HPred) (H : Hp) :
    stAo (some (.cells (conL c v0 v1 v2 v3 v4).toArray T (0, 0))) q 3 2 #[.int .i64 a, .int .i64 b] C H = C (upd H q (.cells (conL { c with p0 := a, p1 := b } v0 v1 v2 v3 v4).toArray T (0, 0))) := by
  rw [stAo_cells, if_pos ⟨rfl, by rw [List.size_toArray, conO_lt c h]; omega, by simp [oneCell]⟩]
  rw [show over' (conL c v0 v1 v2 v3 v4).toArray 3 (#[.int .i64 a, .int .i64 b] : Array Value).toList = (conL { c with p0 := a, p1 := b } v0 v1 v2 v3 v4).toArray from ?_]
  exact over'_app [.int .i64 a, .int .i64 b] [v0, .int .i64 c.cap, .int .i64 c.fuel] [.int .i64 c.p0, .int .i64 c.p1] _ rfl
theorem con_sta_state {c : Ct} {s : St} (h : c.st.cells.length = 16) (hs : s.cells.length = 16) (v0 v1 v2 v3 v4 : Value) (T : TypeId) (q : Nat) (C : HPred) (H : Hp) :
    stAo (some (.cells (conL c v0 v1 v2 v3 v4).toArray T (0, 0))) q 17 20 (stateA s) C H = C (upd H q (.cells (conL { c with st := s } v0 v1 v2 v3 v4).toArray T (0, 0))) := by
  rw [stAo_cells, if_pos ⟨stateA_size hs, by rw [List.size_toArray, conO_lt c h]; omega, stateA_all⟩]
  congr 3
  have e := over'_app (stL' s) ([v0, .int .i64 c.cap, .int .i64 c.fuel] ++ (statusL c ++ [v1, v2, v3])) (stL' c.st) [v4] (by rw [stL'_len h, stL'_len hs])
  have e2 : ∀ s : St, ([v0, .int .i64 c.cap, .int .i64 c.fuel] ++ (statusL c ++ [v1, v2, v3])) ++ (stL' s ++ [v4]) = conL { c with st := s } v0 v1 v2 v3 v4 := by intro s; simp [conL, statusL]
  rw [e2 s, e2 c.st] at e
  exact e
theorem startP_len (x : Int) : (startP x).cells.length = 16 := by simp [startP]
theorem bld_two (a b : Int) : pureRun Tryz.prog (Instr.build 59 #[(0, .int .i64 a), (1, .int .i64 b)]) = some (.agg #[.int .i64 a, .int .i64 b]) := by kernel_rfl
theorem conv_u32 {a : Int} (h0 : 0 ≤ a) (h1 : a ≤ 4294967295) : pureRun Tryz.prog (Go.convert 3 60 (.int .i64 a)) = some (.int .u32 a) := by
  rw [conv_int Tryz.underlying3 Tryz.underlying60, wrapu32_id h0 h1]
section
variable {q : Nat} {c : Ct} {R : SP} {F : Nat → Prop} {H : Hp}
/-- open. -/
theorem open_ok (h : (conS q c * R).holds F H) {e : Ev} (he : openOk e) {K : Value → HPred} (hk : ∀ H', (conS q (c.openP e) * R).holds F H' → Gr F H F H' → K (.tuple #[]) H') :
    callF Tryz.prog 133 [ptrQ q, evV e] K H := by
  obtain ⟨v0, v1, v2, v3, v4, h0, h⟩ := conS_open h
  have hb := blk_get h
  have hlt := blk_lt hb
  obtain ⟨p1, p2, p3, p4, p5⟩ := he
  refine f133.call ?_
  unfold conO at hb
  simp (disch := first | assumption | (simp only [List.size_toArray, List.toList_toArray, List.length_cons, List.length_nil, List.all_cons, List.all_nil, oneCell, Bool.and_self, Bool.and_true, Nat.reduceAdd]; done) | (simp only [push_size, upd_size]; done) | (simp only [push_size, upd_size]; omega) | omega) only [f133.b, ptrQ, evV, evL, nilV_ptr, offV_ptr, opt_some, extV_tuple, List.getElem?_cons_zero, List.getElem?_cons_succ, List.getElem?_toArray, cnd_true, cnd_false, grd_tt, grd_tf, grd_ft, grd_ff, grd_u, pick_true, pick_false, un_not, Bool.not_true, Bool.not_false, Nat.add_zero, Nat.zero_add, Nat.reduceAdd, int_eql, int_neq, int_lss, int_leq, int_gtr, int_geq, rd_go, rdo_cells, rds_go, st_go, sto_cells, stc_ok, stA_go, stAo_all, stAo_allL, rdso_all, upd_push_top, one_int, one_bool, one_ptr, one_slice, one_map, one_func, one_iface, boxM_eq, newC_eq, Value.cells, push_get_new, push_size, upd_size, List.size_toArray, List.toList_toArray, List.length_cons, List.length_nil, List.all_cons, List.all_nil, Bool.and_self, Bool.and_true, push_get_old, push_get_eq, upd_push_old, upd_push_eq, upd_get_self, upd_get_ne, bld_two, conv_u32 p4 p5, hb, con_get, con_set_open, con_set_seed, con_sta_players { c with opened := true } h0, chk_eq, cellP_ptr, cellH, Option.isSome_none, Bool.false_eq_true, if_false, true_and, upd_upd]
  obtain ⟨h2, g2⟩ := blk_set h (conO { c with opened := true, p0 := e.player, p1 := e.other, seed := e.n } v0 v1 v2 v3 v4)
  obtain ⟨h3, g3⟩ := SP.push h2 (.cells #[.int .i64 e.kind, .int .i64 e.player, .int .i64 e.other, .int .i64 e.frame, .int .u16 e.inn, .int .i64 e.n] 53)
  refine start_ok p4 fun H' hx => ?_
  obtain ⟨h4, g4⟩ := SP.ext0 h3 hx
  have hb4 := blk_get h4
  unfold conO at hb4
  simp (disch := first | assumption | (simp only [List.size_toArray, List.toList_toArray, List.length_cons, List.length_nil, List.all_cons, List.all_nil, oneCell, Bool.and_self, Bool.and_true, Nat.reduceAdd]; done) | (simp only [push_size, upd_size]; done) | (simp only [push_size, upd_size]; omega) | omega) only [nilV_ptr, offV_ptr, opt_some, extV_tuple, List.getElem?_cons_zero, List.getElem?_cons_succ, List.getElem?_toArray, cnd_true, cnd_false, grd_tt, grd_tf, grd_ft, grd_ff, grd_u, pick_true, pick_false, un_not, Bool.not_true, Bool.not_false, Nat.add_zero, Nat.zero_add, Nat.reduceAdd, int_eql, int_neq, int_lss, int_leq, int_gtr, int_geq, rd_go, rdo_cells, rds_go, st_go, sto_cells, stc_ok, stA_go, stAo_all, stAo_allL, rdso_all, upd_push_top, one_int, one_bool, one_ptr, one_slice, one_map, one_func, one_iface, boxM_eq, newC_eq, Value.cells, push_get_new, push_size, upd_size, List.size_toArray, List.toList_toArray, List.length_cons, List.length_nil, List.all_cons, List.all_nil, Bool.and_self, Bool.and_true, hb4]
  rw [con_sta_state (c := { c with opened := true, p0 := e.player, p1 := e.other, seed := e.n }) (s := startP e.n) h0 (startP_len _)]
  obtain ⟨h5, g5⟩ := blk_set h4 (conO (c.openP e) v0 v1 v2 v3 v4)
  exact hk _ (conS_mk (startP_len _) h5) (g2.trans (g3.trans (g4.trans g5)))
theorem bs_ev (e : Ev) (K : Value → HPred) (H : Hp) : tot Tryz.prog (Instr.buildSlice 96 1 #[(0, evV e)]) K H = K (.slice (some ⟨H.size, 0, none⟩) 1 1) (H.push (.cells (evL e).toArray 53)) := by kernel_rfl
def conE (q : Nat) (c : Ct) (v0 v1 v2 v3 v4 : Value) : SP :=
  blkS q (conO c v0 v1 v2 v3 v4) * (sliS v0 101 2 c.code.length (c.code.flatMap encI) * (sliS v1 51 1 c.in0.length (c.in0.flatMap u16L) * (sliS v2 51 1 c.in1.length (c.in1.flatMap u16L) * sliS v3 228 2 c.pairs.length (c.pairs.flatMap pairL))))
theorem conS_evs (h : (conS q c * R).holds F H) : ∃ v0 v1 v2 v3 v4, c.st.cells.length = 16 ∧ (sliS v4 53 6 c.evs.length (c.evs.flatMap evL) * (conE q c v0 v1 v2 v3 v4 * R)).holds F H := by
  obtain ⟨v0, v1, v2, v3, v4, h0, h⟩ := conS_open h
  refine ⟨v0, v1, v2, v3, v4, h0, ?_⟩
  rw [← SP.assoc, SP.comm (sliS v4 _ _ _ _)]
  unfold conE
  simpa only [SP.assoc] using h
theorem conS_evs_mk {v0 v1 v2 v3 v4 : Value} (h0 : c.st.cells.length = 16) (h : (sliS v4 53 6 c.evs.length (c.evs.flatMap evL) * (conE q c v0 v1 v2 v3 v4 * R)).holds F H) : (conS q c * R).holds F H := by
  rw [← SP.assoc, SP.comm (sliS v4 _ _ _ _)] at h
  unfold conE at h
  exact conS_mk h0 (by simpa only [SP.assoc] using h)
theorem conE_blk {A : SP} {v0 v1 v2 v3 v4 : Value} (h : (A * (conE q c v0 v1 v2 v3 v4 * R)).holds F H) : H[q]? = some (conO c v0 v1 v2 v3 v4) := by
  rw [SP.comm] at h
  unfold conE at h
  simp only [SP.assoc] at h
  exact blk_get h
theorem conE_set {A : SP} {v0 v1 v2 v3 v4 : Value} (h : (A * (conE q c v0 v1 v2 v3 v4 * R)).holds F H) (h0 : c.st.cells.length = 16) (x : Value) (l : List Ev) :
    (A * (conE q { c with evs := l } v0 v1 v2 v3 x * R)).holds F (upd H q (conO { c with evs := l } v0 v1 v2 v3 x)) ∧ Gr F H F (upd H q (conO { c with evs := l } v0 v1 v2 v3 x)) := by
  rw [SP.comm] at h ⊢
  unfold conE at h ⊢
  simp only [SP.assoc] at h ⊢
  exact blk_set h _
/-- Apply of an Open that may be. -/
theorem applyOpen_ok (h : (conS q c * R).holds F H) {e : Ev} (he : openOk e) (hkind : e.kind = 1) (hf : e.frame = 0) (hi : e.inn = 0) (ho : c.opened = false) (hn : c.evs.length < 2 ^ 30) {K : Value → HPred}
    (hk : ∀ H' F', (conS q ((c.openP e).addEv e) * R).holds F' H' → Gr F H F' H' → K (.int .i64 0) H') :
    callF Tryz.prog 59 [ptrQ q, evV e] K H := by
  refine f59.call ?_
  have e3 := evL_len e
  have gk : (evL e)[0]? = some (.int .i64 1) := by simp [evL, hkind]
  simp (disch := first | assumption | (simp only [List.size_toArray, List.toList_toArray, List.length_cons, List.length_nil, List.all_cons, List.all_nil, oneCell, Bool.and_self, Bool.and_true, Nat.reduceAdd]; done) | (simp only [push_size, upd_size]; done) | (simp only [push_size, upd_size]; omega) | omega) only [f59.b, evV, nilV_ptr, offV_ptr, opt_some, extV_tuple, List.getElem?_cons_zero, List.getElem?_cons_succ, List.getElem?_toArray, cnd_true, cnd_false, grd_tt, grd_tf, grd_ft, grd_ff, grd_u, pick_true, pick_false, un_not, Bool.not_true, Bool.not_false, Nat.add_zero, Nat.zero_add, Nat.reduceAdd, int_eql, int_neq, int_lss, int_leq, int_gtr, int_geq, rd_go, rdo_cells, rds_go, st_go, sto_cells, stc_ok, stA_go, stAo_all, stAo_allL, rdso_all, upd_push_top, one_int, one_bool, one_ptr, one_slice, one_map, one_func, one_iface, boxM_eq, newC_eq, Value.cells, push_get_new, push_size, upd_size, List.size_toArray, List.toList_toArray, List.length_cons, List.length_nil, List.all_cons, List.all_nil, Bool.and_self, Bool.and_true, push_get_old, push_get_eq, upd_push_old, upd_push_eq, upd_get_self, upd_get_ne]
  obtain ⟨h1, g1⟩ := SP.push h (.cells (evL e).toArray 53)
  have hq1 : (H.push (.cells (evL e).toArray 53))[H.size]? = some (.cells (evL e).toArray 53 (0, 0)) := push_new _ _
  have hns : ¬ F H.size := fun x => Nat.lt_irrefl _ ((conS q c * R).lt h _ x)
  refine may_gen h1 (e := e) (k := 1) (by omega) (by omega) hkind (mf := 132) (bf := 134) (r := mayOpenP c e) rfl rfl (be := ⟨e.kind, 0, 0, e.frame, e.inn, 0⟩) (fun K H hk => bare1_ok e hk) ?_ ?_
  · intro H' hx hk
    obtain ⟨h2, g2⟩ := SP.ext0 h1 hx
    exact mayOpen_ok h2 e fun x => hk _ (ext_push none' _ _)
  intro H2 hx2
  obtain ⟨h2, g2⟩ := SP.ext0 h1 hx2
  have hq2 := hx2.blk hq1
  have em : mayOpenP c e = 0 := by unfold mayOpenP; rw [ho]; simp [he]
  rw [if_pos (by rw [hkind, hf, hi]; rfl), em]
  simp (disch := first | assumption | (simp only [List.size_toArray, List.toList_toArray, List.length_cons, List.length_nil, List.all_cons, List.all_nil, oneCell, Bool.and_self, Bool.and_true, Nat.reduceAdd]; done) | (simp only [push_size, upd_size]; done) | (simp only [push_size, upd_size]; omega) | omega) only [nilV_ptr, offV_ptr, opt_some, extV_tuple, List.getElem?_cons_zero, List.getElem?_cons_succ, List.getElem?_toArray, cnd_true, cnd_false, grd_tt, grd_tf, grd_ft, grd_ff, grd_u, pick_true, pick_false, un_not, Bool.not_true, Bool.not_false, Nat.add_zero, Nat.zero_add, Nat.reduceAdd, int_eql, int_neq, int_lss, int_leq, int_gtr, int_geq, rd_go, rdo_cells, rds_go, st_go, sto_cells, stc_ok, stA_go, stAo_all, stAo_allL, rdso_all, upd_push_top, one_int, one_bool, one_ptr, one_slice, one_map, one_func, one_iface, boxM_eq, newC_eq, Value.cells, push_get_new, push_size, upd_size, List.size_toArray, List.toList_toArray, List.length_cons, List.length_nil, List.all_cons, List.all_nil, Bool.and_self, Bool.and_true, hq2, gk]
  simp only [decide_true, nilV_ptr, offV_ptr, opt_some, extV_tuple, List.getElem?_cons_zero, List.getElem?_cons_succ, List.getElem?_toArray, cnd_true, cnd_false, grd_tt, grd_tf, grd_ft, grd_ff, grd_u, pick_true, pick_false, un_not, Bool.not_true, Bool.not_false, Nat.add_zero, Nat.zero_add, Nat.reduceAdd, int_eql, int_neq, int_lss, int_leq, int_gtr, int_geq, rd_go, rdo_cells, rds_go, st_go, sto_cells, stc_ok, stA_go, stAo_all, stAo_allL, rdso_all, upd_push_top, one_int, one_bool, one_ptr, one_slice, one_map, one_func, one_iface, boxM_eq, newC_eq, Value.cells, push_get_new, push_size, upd_size, List.size_toArray, List.toList_toArray, List.length_cons, List.length_nil, List.all_cons, List.all_nil, Bool.and_self, Bool.and_true, hq2, gk, rdso_all (show (evL e).toArray.size = 6 by simp [evL])]
  refine hows_ok fun x => ?_
  obtain ⟨h3, g3⟩ := SP.push h2 x
  have hq3 := push_old (x := x) hq2
  have e18 : (evL e).toArray.extract 0 (0 + 6) = (evL e).toArray := by simp [evL]
  simp only [chk_eq, cellP_ptr, cellH, hq3, cellsP, List.getElem?_toArray, gk, List.size_toArray, e3, Option.isSome_none, Bool.false_eq_true, if_false, true_and, e18, Nat.ble, Nat.zero_add]
  have hidx := how_at 1 (by omega)
  rw [show (((1 : Nat) : Int)) = 1 from rfl] at hidx
  rw [hidx, opt_some, how_does, opt_some]
  show callV _ (.func (.func 133) #[] #[]) _ _ _
  rw [callV_f]
  have e18 : (evL e).toArray.extract 0 (0 + 6) = (evL e).toArray := by simp [evL]
  refine open_ok h3 he fun H4 h4 g4 => ?_
  have g04 := g1.trans (g2.trans (g3.trans g4))
  have hq4 := g4.blk hq3 hns
  obtain ⟨v0, v1, v2, v3, v4, h0, h4'⟩ := conS_evs h4
  have hb4 := conE_blk h4'
  have hlt := blk_lt hb4
  unfold conO at hb4
  simp (disch := first | assumption | (simp only [List.size_toArray, List.toList_toArray, List.length_cons, List.length_nil, List.all_cons, List.all_nil, oneCell, Bool.and_self, Bool.and_true, Nat.reduceAdd]; done) | (simp only [push_size, upd_size]; done) | (simp only [push_size, upd_size]; omega) | omega) only [ptrQ, nilV_ptr, offV_ptr, opt_some, extV_tuple, List.getElem?_cons_zero, List.getElem?_cons_succ, List.getElem?_toArray, cnd_true, cnd_false, grd_tt, grd_tf, grd_ft, grd_ff, grd_u, pick_true, pick_false, un_not, Bool.not_true, Bool.not_false, Nat.add_zero, Nat.zero_add, Nat.reduceAdd, int_eql, int_neq, int_lss, int_leq, int_gtr, int_geq, rd_go, rdo_cells, rds_go, st_go, sto_cells, stc_ok, stA_go, stAo_all, stAo_allL, rdso_all, upd_push_top, one_int, one_bool, one_ptr, one_slice, one_map, one_func, one_iface, boxM_eq, newC_eq, Value.cells, push_get_new, push_size, upd_size, List.size_toArray, List.toList_toArray, List.length_cons, List.length_nil, List.all_cons, List.all_nil, Bool.and_self, Bool.and_true, hb4, hq4, con_get_37 h0, chk_eq, cellP_ptr, cellH, Option.isSome_none, Bool.false_eq_true, if_false, true_and]
  have hbs := bs_ev e
  unfold evV at hbs
  rw [hbs]
  simp (disch := first | assumption | (simp only [List.size_toArray, List.toList_toArray, List.length_cons, List.length_nil, List.all_cons, List.all_nil, oneCell, Bool.and_self, Bool.and_true, Nat.reduceAdd]; done) | (simp only [push_size, upd_size]; done) | (simp only [push_size, upd_size]; omega) | omega) only [push_get_old, hb4, List.getElem?_toArray, con_get_37 h0, true_and, chk_eq]
  refine append_sli_new Tryz.underlying96 Tryz.type53 rfl rfl rfl (by decide) (by decide) h4' (ns := (evL e).toArray) (k := 1) rfl (by simp [evL, oneCell]) ?_ ?_
  · show (2 * (c.evs.length + 1) + 192) * _ ≤ _
    have : (2 * (c.evs.length + 1) + 192) * 48 ≤ 2 ^ 48 := by omega
    exact this
  intro v' H' F' h5 g5
  have hb5 := conE_blk h5
  have hlt5 := blk_lt hb5
  have h1v := sli_one h5
  obtain ⟨h6, g6⟩ := conE_set h5 h0 v' ((c.openP e).evs ++ [e])
  unfold conO at hb5
  simp (disch := first | assumption | (simp only [List.size_toArray, List.toList_toArray, List.length_cons, List.length_nil, List.all_cons, List.all_nil, oneCell, Bool.and_self, Bool.and_true, Nat.reduceAdd]; done) | (simp only [push_size, upd_size]; done) | (simp only [push_size, upd_size]; omega) | omega) only [ptrQ, nilV_ptr, offV_ptr, opt_some, extV_tuple, List.getElem?_cons_zero, List.getElem?_cons_succ, List.getElem?_toArray, cnd_true, cnd_false, grd_tt, grd_tf, grd_ft, grd_ff, grd_u, pick_true, pick_false, un_not, Bool.not_true, Bool.not_false, Nat.add_zero, Nat.zero_add, Nat.reduceAdd, int_eql, int_neq, int_lss, int_leq, int_gtr, int_geq, rd_go, rdo_cells, rds_go, st_go, sto_cells, stc_ok, stA_go, stAo_all, stAo_allL, rdso_all, upd_push_top, one_int, one_bool, one_ptr, one_slice, one_map, one_func, one_iface, boxM_eq, newC_eq, Value.cells, push_get_new, push_size, upd_size, List.size_toArray, List.toList_toArray, List.length_cons, List.length_nil, List.all_cons, List.all_nil, Bool.and_self, Bool.and_true, hb5, con_get_37 h0, h1v, con_set_evs (c := c.openP e) h0 v0 v1 v2 v3 v4 v' ((c.openP e).evs ++ [e])]
  refine hk _ _ (conS_evs_mk (c := (c.openP e).addEv e) (v0 := v0) (v1 := v1) (v2 := v2) (v3 := v3) (v4 := v') h0 ?_) (g04.trans (g5.trans g6))
  show (sliS v' _ 6 ((c.openP e).evs ++ [e]).length (((c.openP e).evs ++ [e]).flatMap evL) * _).holds _ _
  have e' : ((c.openP e).evs ++ [e]).flatMap evL = (c.openP e).evs.flatMap evL ++ (evL e).toArray.toList := by
    rw [List.flatMap_append]; rfl
  rw [e', List.length_append]
  exact h6
end

end Go.Proofs.YtnnheophehnioaaGreat
namespace Go.Proofs.YtnnheophehnioaaGreat
open Go.Sx Go.Proofs Go.Gm
set_option maxRecDepth 100000

theorem ins_nil (ox oy : Operand) (a : Option Addr) (n cap : Nat) : binV Tryz.prog .eql 33 ox oy (.slice a n cap) (.slice none 0 0) = some (.bool a.isNone) := by cases a <;> kernel_rfl
theorem bs_ins0 (K : Value → HPred) (H : Hp) : tot Tryz.prog (Instr.buildSlice 33 0 #[]) K H = K (.slice (some ⟨H.size, 0, none⟩) 0 0) (H.push (.cells #[] 101)) := by kernel_rfl
theorem encI_all : ∀ (l : List (Int × Int)), ∀ c ∈ l.flatMap encI, oneCell c = true := by
  intro l c hc
  obtain ⟨x, _, hx⟩ := List.mem_flatMap.1 hc
  simp [encI] at hx
  rcases hx with rfl | rfl <;> rfl
/-- Clone. -/
theorem clone_ok {code : List (Int × Int)} {cv : Value} {K : Value → HPred} {R : SP} {F : Nat → Prop} {H : Hp} (h : R.holds F H) (hc : Lies H cv 101 2 code.length (code.flatMap encI)) (hmax : code.length < 2 ^ 30)
    (hk : ∀ v H' F', (sliS v 101 2 code.length (code.flatMap encI) * R).holds F' H' → Gr F H F' H' → K v H') : callF Tryz.prog 28 [cv] K H := by
  obtain ⟨a, cap, rfl⟩ := hc.shape
  refine f28.call ?_
  simp only [f28.b, ins_nil, opt_some, bs_ins0]
  cases a with
  | none =>
    simp only [Option.isNone_none, cnd_true]
    have hn : code = [] := by
      rcases hc.is with ⟨e, _⟩ | ⟨b, o, c, cap', T, fz, e, _⟩
      · exact List.eq_nil_of_length_eq_zero e
      · cases e
    subst hn
    exact hk _ _ F (sli_nil h _ _) (Gr.refl _ _)
  | some a =>
    simp only [Option.isNone_some, cnd_false, bs_ins0]
    obtain ⟨F1, h1, g1⟩ := sli_new h #[] 101 2 0 rfl
    refine append_sli Tryz.underlying33 ⟨_, Tryz.underlying33, by intro q e; cases e⟩ Tryz.type101 rfl rfl rfl (by decide) (by decide) h1 (hc.ext (ext_push none' _ _) fun _ _ e => e) (encI_all _) ?_ ?_
    · have : (2 * (0 + code.length) + 192) * 16 ≤ 2 ^ 48 := by omega
      exact this
    · intro v' H' F' h2 g2
      rw [Nat.zero_add] at h2
      exact hk _ _ _ h2 (g1.trans g2)
theorem bld_con (cv : Value) (cap fuel : Int) (s : St) (hs : s.cells.length = 16) (a : Option Addr) (n k : Nat) : pureRun Tryz.prog (Instr.build 98 #[(0, .agg #[.slice a n k, .int .i64 cap, .int .i64 fuel]), (4, .agg (stateA s))]) =
    some (.agg (conL { Ct.new [] cap fuel with st := s } (.slice a n k) (.slice none 0 0) (.slice none 0 0) (.slice none 0 0) (.slice none 0 0)).toArray) := by
  obtain ⟨a0, a1, a2, a3, a4, a5, a6, a7, a8, a9, aa, ab, ac, ad, ae, af, e⟩ := sixteen hs
  obtain ⟨f, c, sd, o, w⟩ := s
  simp only at e
  subst e
  kernel_rfl
/-- New. -/
theorem cnew_ok {code : List (Int × Int)} {cv : Value} {cap fuel : Int} {K : Value → HPred} {R : SP} {F : Nat → Prop} {H : Hp} (h : R.holds F H) (hc : Lies H cv 101 2 code.length (code.flatMap encI)) (hmax : code.length < 2 ^ 30)
    (h0 : gameE code cap fuel = 0 → ∀ H' F' q, H.size ≤ q → (conS q (Ct.new code cap fuel) * R).holds F' H' → Gr F H F' H' → K (.tuple #[ptrQ q, .int .i64 0]) H')
    (h1 : gameE code cap fuel ≠ 0 → ∀ H', Ext0 H H' → K (.tuple #[.pointer none, .int .i64 (gameE code cap fuel)]) H') : callF Tryz.prog 8 [.agg #[cv, .int .i64 cap, .int .i64 fuel]] K H := by
  obtain ⟨a, ccap, rfl⟩ := hc.shape
  refine f8.call ?_
  simp (disch := first | assumption | (simp only [List.size_toArray, List.toList_toArray, List.length_cons, List.length_nil, List.all_cons, List.all_nil, oneCell, Bool.and_self, Bool.and_true, Nat.reduceAdd]; done) | (simp only [push_size, upd_size]; done) | (simp only [push_size, upd_size]; omega) | omega) only [f8.b, nilV_ptr, offV_ptr, opt_some, extV_tuple, List.getElem?_cons_zero, List.getElem?_cons_succ, List.getElem?_toArray, cnd_true, cnd_false, grd_tt, grd_tf, grd_ft, grd_ff, grd_u, pick_true, pick_false, un_not, Bool.not_true, Bool.not_false, Nat.add_zero, Nat.zero_add, Nat.reduceAdd, int_eql, int_neq, int_lss, int_leq, int_gtr, int_geq, rd_go, rdo_cells, rds_go, st_go, sto_cells, stc_ok, stA_go, stAo_all, stAo_allL, rdso_all, upd_push_top, one_int, one_bool, one_ptr, one_slice, one_map, one_func, one_iface, boxM_eq, newC_eq, Value.cells, push_get_new, push_size, upd_size, List.size_toArray, List.toList_toArray, List.length_cons, List.length_nil, List.all_cons, List.all_nil, Bool.and_self, Bool.and_true, push_get_old, push_get_eq, upd_push_old, upd_push_eq, upd_get_self, upd_get_ne]
  have hx1 := ext_push none' H (.cells #[.slice a code.length ccap, .int .i64 cap, .int .i64 fuel] 35)
  have hb1 := push_new H (.cells #[.slice a code.length ccap, .int .i64 cap, .int .i64 fuel] 35)
  refine vcheck_ok (hc.ext hx1 fun _ _ e => e) (by omega) ?_
  intro H2 hx2
  have hb2 := hx2.blk hb1
  have hx02 := hx1.trans' hx2
  simp only [nilV_ptr, offV_ptr, opt_some, extV_tuple, List.getElem?_cons_zero, List.getElem?_cons_succ, List.getElem?_toArray, cnd_true, cnd_false, grd_tt, grd_tf, grd_ft, grd_ff, grd_u, pick_true, pick_false, un_not, Bool.not_true, Bool.not_false, Nat.add_zero, Nat.zero_add, Nat.reduceAdd, int_eql, int_neq, int_lss, int_leq, int_gtr, int_geq, rd_go, rdo_cells, rds_go, st_go, sto_cells, stc_ok, stA_go, stAo_all, stAo_allL, rdso_all, upd_push_top, one_int, one_bool, one_ptr, one_slice, one_map, one_func, one_iface, boxM_eq, newC_eq, Value.cells, push_get_new, push_size, upd_size, List.size_toArray, List.toList_toArray, List.length_cons, List.length_nil, List.all_cons, List.all_nil, Bool.and_self, Bool.and_true]
  by_cases he : gameE code cap fuel = 0
  · simp only [decide_eq_true he, nilV_ptr, offV_ptr, opt_some, extV_tuple, List.getElem?_cons_zero, List.getElem?_cons_succ, List.getElem?_toArray, cnd_true, cnd_false, grd_tt, grd_tf, grd_ft, grd_ff, grd_u, pick_true, pick_false, un_not, Bool.not_true, Bool.not_false, Nat.add_zero, Nat.zero_add, Nat.reduceAdd, int_eql, int_neq, int_lss, int_leq, int_gtr, int_geq, rd_go, rdo_cells, rds_go, st_go, sto_cells, stc_ok, stA_go, stAo_all, stAo_allL, rdso_all, upd_push_top, one_int, one_bool, one_ptr, one_slice, one_map, one_func, one_iface, boxM_eq, newC_eq, Value.cells, push_get_new, push_size, upd_size, List.size_toArray, List.toList_toArray, List.length_cons, List.length_nil, List.all_cons, List.all_nil, Bool.and_self, Bool.and_true, hb2]
    refine start_ok (Int.le_refl 0) ?_
    intro H3 hx3
    have hb3 := hx3.blk hb2
    have hx03 := hx02.trans' hx3
    have hlt3 := blk_lt hb3
    simp only [chk_eq, cellsP, hb3, Nat.ble, List.size_toArray, List.length_cons, List.length_nil, Nat.zero_add]
    refine ⟨rfl, ?_⟩
    rw [bld_con (.int .i64 0) cap fuel (startP 0) (startP_len 0)]
    simp (disch := first | assumption | (simp only [List.size_toArray, List.toList_toArray, List.length_cons, List.length_nil, List.all_cons, List.all_nil, oneCell, Bool.and_self, Bool.and_true, Nat.reduceAdd]; done) | (simp only [push_size, upd_size]; done) | (simp only [push_size, upd_size]; omega) | omega) only [nilV_ptr, offV_ptr, opt_some, extV_tuple, List.getElem?_cons_zero, List.getElem?_cons_succ, List.getElem?_toArray, cnd_true, cnd_false, grd_tt, grd_tf, grd_ft, grd_ff, grd_u, pick_true, pick_false, un_not, Bool.not_true, Bool.not_false, Nat.add_zero, Nat.zero_add, Nat.reduceAdd, int_eql, int_neq, int_lss, int_leq, int_gtr, int_geq, rd_go, rdo_cells, rds_go, st_go, sto_cells, stc_ok, stA_go, stAo_all, stAo_allL, rdso_all, upd_push_top, one_int, one_bool, one_ptr, one_slice, one_map, one_func, one_iface, boxM_eq, newC_eq, Value.cells, push_get_new, push_size, upd_size, List.size_toArray, List.toList_toArray, List.length_cons, List.length_nil, List.all_cons, List.all_nil, Bool.and_self, Bool.and_true, push_get_old, push_get_eq, upd_push_old, upd_push_eq, upd_get_self, upd_get_ne, hb3]
    obtain ⟨h3, g3⟩ := SP.ext0 h hx03
    obtain ⟨F4, h4, g4⟩ := blk_new h3 (conO { Ct.new [] cap fuel with st := startP 0 } (.slice a code.length ccap) (.slice none 0 0) (.slice none 0 0) (.slice none 0 0) (.slice none 0 0))
    refine clone_ok h4 ((hc.ext hx03 fun _ _ e => e).ext (ext_push none' _ _) fun _ _ e => e) hmax ?_
    intro v H' F' h5 g5
    have h1v := sli_one h5
    rw [← SP.assoc, SP.comm (sliS _ _ _ _ _), SP.assoc] at h5
    have hb5 := blk_get h5
    unfold conO at hb5
    simp (disch := first | assumption | (simp only [List.size_toArray, List.toList_toArray, List.length_cons, List.length_nil, List.all_cons, List.all_nil, oneCell, Bool.and_self, Bool.and_true, Nat.reduceAdd]; done) | (simp only [push_size, upd_size]; done) | (simp only [push_size, upd_size]; omega) | omega) only [nilV_ptr, offV_ptr, opt_some, extV_tuple, List.getElem?_cons_zero, List.getElem?_cons_succ, List.getElem?_toArray, cnd_true, cnd_false, grd_tt, grd_tf, grd_ft, grd_ff, grd_u, pick_true, pick_false, un_not, Bool.not_true, Bool.not_false, Nat.add_zero, Nat.zero_add, Nat.reduceAdd, int_eql, int_neq, int_lss, int_leq, int_gtr, int_geq, rd_go, rdo_cells, rds_go, st_go, sto_cells, stc_ok, stA_go, stAo_all, stAo_allL, rdso_all, upd_push_top, one_int, one_bool, one_ptr, one_slice, one_map, one_func, one_iface, boxM_eq, newC_eq, Value.cells, push_get_new, push_size, upd_size, List.size_toArray, List.toList_toArray, List.length_cons, List.length_nil, List.all_cons, List.all_nil, Bool.and_self, Bool.and_true, push_get_old, push_get_eq, upd_push_old, upd_push_eq, upd_get_self, upd_get_ne, hb5, con_get, h1v, con_set_code]
    obtain ⟨h6, g6⟩ := blk_set h5 (conO (Ct.new code cap fuel) v (.slice none 0 0) (.slice none 0 0) (.slice none 0 0) (.slice none 0 0))
    refine h0 he _ F' H3.size hx03.size (conS_mk (v0 := v) (v1 := .slice none 0 0) (v2 := .slice none 0 0) (v3 := .slice none 0 0) (v4 := .slice none 0 0) (startP_len 0) ?_) (g3.trans (g4.trans (g5.trans g6)))
    show (_ * (_ * (sliS (.slice none 0 0) _ _ 0 [] * (sliS (.slice none 0 0) _ _ 0 [] * (sliS (.slice none 0 0) _ _ 0 [] * (sliS (.slice none 0 0) _ _ 0 [] * R)))))).holds _ _
    simp only [sli_emp, SP.emp_star]
    exact h6
  · simp only [decide_eq_false he, nilV_ptr, offV_ptr, opt_some, extV_tuple, List.getElem?_cons_zero, List.getElem?_cons_succ, List.getElem?_toArray, cnd_true, cnd_false, grd_tt, grd_tf, grd_ft, grd_ff, grd_u, pick_true, pick_false, un_not, Bool.not_true, Bool.not_false, Nat.add_zero, Nat.zero_add, Nat.reduceAdd, int_eql, int_neq, int_lss, int_leq, int_gtr, int_geq, rd_go, rdo_cells, rds_go, st_go, sto_cells, stc_ok, stA_go, stAo_all, stAo_allL, rdso_all, upd_push_top, one_int, one_bool, one_ptr, one_slice, one_map, one_func, one_iface, boxM_eq, newC_eq, Value.cells, push_get_new, push_size, upd_size, List.size_toArray, List.toList_toArray, List.length_cons, List.length_nil, List.all_cons, List.all_nil, Bool.and_self, Bool.and_true]
    exact h1 he _ hx02

end Go.Proofs.YtnnheophehnioaaGreat
namespace Go.Proofs.YtnnheophehnioaaGreat
open Go.Sx Go.Proofs Go.Gm
set_option maxRecDepth 100000

/-- The births of a map's entries. -/
def Born (es : Array MapEntry) (clk : Nat) : Prop := (∀ x ∈ es.toList, x.born < clk) ∧ (es.toList.map (·.born)).Nodup
theorem born_nil : Born #[] 0 := ⟨by simp, by simp⟩
theorem born_push {es : Array MapEntry} {clk : Nat} (h : Born es clk) (k v : Value) : Born (es.push { key := k, val := v, born := clk }) (clk + 1) := by
  refine ⟨fun x hx => ?_, ?_⟩
  · simp only [Array.toList_push, List.mem_append, List.mem_singleton] at hx
    rcases hx with hx | rfl
    · have := h.1 x hx; omega
    · exact Nat.lt_succ_self _
  · simp only [Array.toList_push, List.map_append, List.map_cons, List.map_nil]
    rw [List.nodup_append]
    refine ⟨h.2, by simp, fun a ha b hb e => ?_⟩
    simp only [List.mem_singleton] at hb
    obtain ⟨x, hx, rfl⟩ := List.mem_map.1 ha
    have := h.1 x hx
    omega
theorem born_mod {es : Array MapEntry} {clk : Nat} (h : Born es clk) (i : Nat) (k v : Value) : Born (es.modify i fun e => { e with key := k, val := v }) clk := by
  have e : (es.modify i fun e => { e with key := k, val := v }).toList.map (·.born) = es.toList.map (·.born) := by
    apply List.ext_getElem?
    intro j
    simp only [Array.toList_modify, List.getElem?_map, List.getElem?_modify]
    cases es.toList[j]? with
    | none => simp
    | some e => by_cases hij : i = j <;> simp [hij]
  refine ⟨fun x hx => ?_, by rw [e]; exact h.2⟩
  have : x.born ∈ (es.modify i fun e => { e with key := k, val := v }).toList.map (·.born) := List.mem_map.2 ⟨x, hx, rfl⟩
  rw [e] at this
  obtain ⟨y, hy, hxy⟩ := List.mem_map.1 this
  rw [← hxy]
  exact h.1 y hy
/-- A store of a key's value, the births kept. -/
theorem update_mapB {P : Program} {T K E : TypeId} {b clk : Nat} {es : Array MapEntry} {m : List (Int × Value)} {k : Int} {v : Value} {H : Hp} {C : Value → HPred}
    (hT : P.underlying T = some (.map K E)) (hK : P.underlying K = some (keyInt).kd) (hb : H[b]? = some (.map es clk)) (hm : Holds keyInt es m) (hbn : Born es clk)
    (hc : ∀ es' clk', Holds keyInt es' (mput m k v) → Born es' clk' → C undef (H.setIfInBounds b (.map es' clk'))) :
    unitT P (Instr.mapUpdate T (.map (some b)) (keyInt.kv k) v) C H := by
  unfold unitT Instr.mapUpdate
  simp only [bindS, semM_bind, sem_underlying, hT]
  show semM P (getObj b) _ H
  simp only [getObj, semM, hb]
  rw [semM_bind]
  rw [keyInt.plain P _ 9999 K k _ H hK]
  rw [semM_bind]
  unfold Instr.findKey
  simp only [bindS, semM_bind, sem_underlying, hK]
  rw [findNow_eq keyInt es.toList m k 0 hm.1]
  cases hf : m.findIdx? (fun x => decide (x.1 = k)) with
  | none =>
    simp only [pure, semM, setObj, hb]
    exact hc _ _ (holds_push keyInt hm hf) (born_push hbn _ _)
  | some j =>
    obtain ⟨v0, hv⟩ := findIdx_mem hf
    simp only [pure, semM, Nat.zero_add]
    rw [semM_bind]
    have hkey : ((es[j]?).map (·.key)).getD (keyInt.kv k) = keyInt.kv k := by
      have := congrArg (fun l => l[j]?) hm.1
      simp only [ents, List.getElem?_map, hv, Option.map_some] at this
      cases he : es[j]? with
      | none => rfl
      | some e =>
        have he' : es.toList[j]? = some e := by simpa using he
        rw [he'] at this
        simp only [Option.map_some, Option.some.injEq, Prod.mk.injEq] at this
        simp [this.1]
    rw [hkey]
    unfold Instr.keyThatStays
    rw [if_pos (keyInt.bits 9999 k)]
    simp only [pure, semM, setObj, hb]
    exact hc _ _ (holds_put keyInt hm hf) (born_mod hbn _ _ _)

/-- A map of whole numbers. -/
def mapS (b : Nat) (m : List (Int × Value)) : SP := SP.ex fun es => SP.ex fun clk => SP.grd (Holds keyInt es m ∧ Born es clk) (blkS b (.map es clk))
theorem mapS_open {b : Nat} {m : List (Int × Value)} {R : SP} {F : Nat → Prop} {H : Hp} (h : (mapS b m * R).holds F H) : ∃ es clk, (Holds keyInt es m ∧ Born es clk) ∧ (blkS b (.map es clk) * R).holds F H := by
  unfold mapS at h
  simp only [SP.ex_star, SP.grd_star] at h
  exact h
theorem mapS_mk {b : Nat} {m : List (Int × Value)} {R : SP} {F : Nat → Prop} {H : Hp} {es : Array MapEntry} {clk : Nat} (hm : Holds keyInt es m ∧ Born es clk) (h : (blkS b (.map es clk) * R).holds F H) : (mapS b m * R).holds F H := by
  unfold mapS
  simp only [SP.ex_star, SP.grd_star]
  exact ⟨es, clk, hm, h⟩
def timS (q : Nat) (A : TL) : SP where
  holds F H := TimAt H q A F
  frame h hx hn := h.ext hx hn
  lt h := h.lt
def fupd {α : Type} (f : Nat → α) (i : Nat) (x : α) : Nat → α := fun j => if j = i then x else f j
theorem fupd_same {α : Type} (f : Nat → α) (i : Nat) (x : α) : fupd f i x i = x := if_pos rfl
theorem fupd_ne {α : Type} (f : Nat → α) {i j : Nat} (x : α) (h : j ≠ i) : fupd f i x j = f j := if_neg h
theorem fupd_fupd {α : Type} (f : Nat → α) (i : Nat) (x y : α) : fupd (fupd f i x) i y = fupd f i y := by
  funext j; unfold fupd; split <;> rfl
theorem fupd_id {α : Type} (f : Nat → α) (i : Nat) : fupd f i (f i) = f := by
  funext j; unfold fupd; split
  · subst_vars; rfl
  · rfl
structure Tb where
  tmo : Int
  ml : Int
  cnt : Int
  lk : Nat → Int
  b : Nat → Nat
  q : Nat → Nat
def shL (t : Tb) (i : Nat) : List Value := [.int .i32 (t.lk i), .int .u32 0, .map (some (t.b i)), ptrQ (t.q i)]
def tabL (t : Tb) : List Value := [.int .i64 t.tmo, .int .i32 t.ml, .int .u32 0, .int .i64 t.cnt] ++ (shL t 0 ++ (shL t 1 ++ (shL t 2 ++ shL t 3)))
def tabO (t : Tb) : Obj := .cells (tabL t).toArray 86 (0, 0)
theorem tabL_len (t : Tb) : (tabL t).length = 20 := by simp [tabL, shL]
theorem four {i : Nat} (h : i < 4) : i = 0 ∨ i = 1 ∨ i = 2 ∨ i = 3 := by omega
theorem tab_lk (t : Tb) {i : Nat} (h : i < 4) : (tabL t)[4 + i * 4]? = some (.int .i32 (t.lk i)) := by
  obtain rfl | rfl | rfl | rfl := four h <;> rfl
theorem tab_map (t : Tb) {i : Nat} (h : i < 4) : (tabL t)[4 + i * 4 + 2]? = some (.map (some (t.b i))) := by
  obtain rfl | rfl | rfl | rfl := four h <;> rfl
theorem tab_q (t : Tb) {i : Nat} (h : i < 4) : (tabL t)[4 + i * 4 + 3]? = some (ptrQ (t.q i)) := by
  obtain rfl | rfl | rfl | rfl := four h <;> rfl
theorem tab_tmo (t : Tb) : (tabL t)[0]? = some (.int .i64 t.tmo) := rfl
theorem tab_ml (t : Tb) : (tabL t)[1]? = some (.int .i32 t.ml) := rfl
theorem tab_cnt (t : Tb) : (tabL t)[3]? = some (.int .i64 t.cnt) := rfl
theorem tab_set_ml (t : Tb) (x : Int) : (tabL t).toArray.setIfInBounds 1 (.int .i32 x) = (tabL { t with ml := x }).toArray := by apply Array.ext'; simp [tabL, shL]
theorem tab_set_cnt (t : Tb) (x : Int) : (tabL t).toArray.setIfInBounds 3 (.int .i64 x) = (tabL { t with cnt := x }).toArray := by apply Array.ext'; simp [tabL, shL]
theorem tab_set_lk (t : Tb) {i : Nat} (h : i < 4) (x : Int) : (tabL t).toArray.setIfInBounds (4 + i * 4) (.int .i32 x) = (tabL { t with lk := fupd t.lk i x }).toArray := by
  obtain rfl | rfl | rfl | rfl := four h <;> (apply Array.ext'; simp [tabL, shL, fupd])
def shdS (b q : Nat → Nat) (M : Nat → List (Int × Value)) (T : Nat → TL) (i : Nat) : SP := mapS (b i) (M i) * timS (q i) (T i)
def restS (b q : Nat → Nat) (M : Nat → List (Int × Value)) (T : Nat → TL) (i : Nat) : SP := stars (((List.range 4).map (shdS b q M T)).eraseIdx i)
def tabS (p : Nat) (t : Tb) (M : Nat → List (Int × Value)) (T : Nat → TL) : SP := blkS p (tabO t) * stars ((List.range 4).map (shdS t.b t.q M T))
theorem tab_split {p : Nat} {t : Tb} {M : Nat → List (Int × Value)} {T : Nat → TL} {i : Nat} (h : i < 4) : tabS p t M T = blkS p (tabO t) * (mapS (t.b i) (M i) * (timS (t.q i) (T i) * restS t.b t.q M T i)) := by
  unfold tabS restS
  rw [stars_get (i := i) (A := shdS t.b t.q M T i) (by simp [h])]
  unfold shdS
  simp only [SP.assoc]
theorem rest_upd {b q : Nat → Nat} {M : Nat → List (Int × Value)} {T : Nat → TL} {i : Nat} (h : i < 4) (m : List (Int × Value)) (a : TL) : restS b q (fupd M i m) (fupd T i a) i = restS b q M T i := by
  unfold restS
  obtain rfl | rfl | rfl | rfl := four h <;> simp [List.range, List.range.loop, shdS, fupd]
theorem tab_join {p : Nat} {t : Tb} {M : Nat → List (Int × Value)} {T : Nat → TL} {i : Nat} (h : i < 4) (m : List (Int × Value)) (a : TL) :
    tabS p t (fupd M i m) (fupd T i a) = blkS p (tabO t) * (mapS (t.b i) m * (timS (t.q i) a * restS t.b t.q M T i)) := by
  rw [tab_split h, rest_upd h, fupd_same, fupd_same]
section
variable {p : Nat} {t : Tb} {M : Nat → List (Int × Value)} {T : Nat → TL} {R : SP} {F : Nat → Prop} {H : Hp}
theorem tab_blk (h : (tabS p t M T * R).holds F H) : H[p]? = some (.cells (tabL t).toArray 86 (0, 0)) := by
  unfold tabS at h
  rw [SP.assoc] at h
  exact blk_get h
theorem tab_set (h : (tabS p t M T * R).holds F H) (t' : Tb) (hb : t'.b = t.b) (hq : t'.q = t.q) : (tabS p t' M T * R).holds F (upd H p (tabO t')) ∧ Gr F H F (upd H p (tabO t')) := by
  unfold tabS at h ⊢
  rw [SP.assoc] at h ⊢
  rw [hb, hq]
  exact blk_set h _
theorem tab_mapblk {i : Nat} (hi : i < 4) (h : (tabS p t M T * R).holds F H) : ∃ es clk, (Holds keyInt es (M i) ∧ Born es clk) ∧ H[t.b i]? = some (.map es clk) := by
  rw [tab_split hi, SP.assoc, SP.comm, SP.assoc, SP.assoc] at h
  obtain ⟨es, clk, hm, h⟩ := mapS_open h
  exact ⟨es, clk, hm, blk_get h⟩
/-- A shard's lock taken. -/
theorem slock_ok {i : Nat} (hi : i < 4) (h : (tabS p t M T * R).holds F H) (hl : t.lk i = 0) {K : Value → HPred}
    (hk : ∀ H', (tabS p { t with lk := fupd t.lk i 1 } M T * R).holds F H' → Gr F H F H' → K (.tuple #[]) H') : callF Tryz.prog 29 [.pointer (some ⟨p, 4 + i * 4, none⟩)] K H := by
  have hb := tab_blk h
  refine lock_ok hb (by rw [List.getElem?_toArray, tab_lk t hi, hl]) ?_
  obtain ⟨h1, g1⟩ := tab_set h { t with lk := fupd t.lk i 1 } rfl rfl
  rw [tab_set_lk t hi]
  exact hk _ h1 g1
theorem lk_back {t : Tb} {i : Nat} {x : Int} (h : t.lk i = x) (y : Int) : ({ { t with lk := fupd t.lk i y } with lk := fupd (fupd t.lk i y) i x } : Tb) = t := by
  subst h
  rw [fupd_fupd, fupd_id]
/-- and given back by a deferred call. -/
theorem sleave_ok {i : Nat} (hi : i < 4) (h : (tabS p { t with lk := fupd t.lk i 1 } M T * R).holds F H) (hl : t.lk i = 0) {K : HPred}
    (hk : ∀ H', (tabS p t M T * R).holds F H' → Gr F H F H' → K H') : leaveH Tryz.prog K ({ target := .fn (.func 30) #[], args := #[.pointer (some ⟨p, 4 + i * 4, none⟩)] } :: []) H := by
  have hb := tab_blk h
  refine leave_unlock hb (by rw [List.getElem?_toArray, tab_lk _ hi]; simp only [fupd_same]) ?_
  obtain ⟨h1, g1⟩ := tab_set h t rfl rfl
  rw [tab_set_lk _ hi]
  simp only [lk_back hl] at h1 ⊢
  exact hk _ h1 g1
theorem sunlock_ok {i : Nat} (hi : i < 4) (h : (tabS p { t with lk := fupd t.lk i 1 } M T * R).holds F H) (hl : t.lk i = 0) {K : Value → HPred}
    (hk : ∀ H', (tabS p t M T * R).holds F H' → Gr F H F H' → K (.tuple #[]) H') : callF Tryz.prog 30 [.pointer (some ⟨p, 4 + i * 4, none⟩)] K H := by
  have hb := tab_blk h
  refine unlock_ok hb (by rw [List.getElem?_toArray, tab_lk _ hi]; simp only [fupd_same]) ?_
  obtain ⟨h1, g1⟩ := tab_set h t rfl rfl
  rw [tab_set_lk _ hi]
  simp only [lk_back hl] at h1 ⊢
  exact hk _ h1 g1
/-- counts. -/
theorem counts_ok (h : (tabS p t M T * R).holds F H) (hl : t.ml = 0) {n : Int} (hn : -2 ^ 40 ≤ t.cnt + n ∧ t.cnt + n ≤ 2 ^ 40) {K : Value → HPred}
    (h0 : t.cnt + n > 4096 → ∀ H', (tabS p t M T * R).holds F H' → Gr F H F H' → K (.bool false) H')
    (h1 : t.cnt + n ≤ 4096 → ∀ H', (tabS p { t with cnt := t.cnt + n } M T * R).holds F H' → Gr F H F H' → K (.bool true) H') :
    callF Tryz.prog 31 [ptrQ p, .int .i64 n] K H := by
  have hb := tab_blk h
  refine f31.call ?_
  simp only [f31.b, ptrQ, nilV_ptr, offV_ptr, opt_some, extV_tuple, List.getElem?_cons_zero, List.getElem?_cons_succ, List.getElem?_toArray, cnd_true, cnd_false, grd_tt, grd_tf, grd_ft, grd_ff, grd_u, pick_true, pick_false, un_not, Bool.not_true, Bool.not_false, Nat.add_zero, Nat.zero_add, Nat.reduceAdd, int_eql, int_neq, int_lss, int_leq, int_gtr, int_geq, rd_go, rdo_cells, rds_go, st_go, sto_cells, stc_ok, stA_go, stAo_all, stAo_allL, rdso_all, upd_push_top, one_int, one_bool, one_ptr, one_slice, one_map, one_func, one_iface, boxM_eq, newC_eq, Value.cells, push_get_new, push_size, upd_size, List.size_toArray, List.toList_toArray, List.length_cons, List.length_nil, List.all_cons, List.all_nil, Bool.and_self, Bool.and_true, decide_true, decide_false]
  refine lock_ok hb (by rw [List.getElem?_toArray, tab_ml, hl]) ?_
  obtain ⟨h2, g2⟩ := tab_set h { t with ml := 1 } rfl rfl
  rw [tab_set_ml]
  have hb2 := tab_blk h2
  unfold tabO at h2 g2 hb2
  have ew : IntKind.i64.wrap (t.cnt + n) = t.cnt + n := wrap64_id (by omega) (by omega)
  simp only [nilV_ptr, offV_ptr, opt_some, extV_tuple, List.getElem?_cons_zero, List.getElem?_cons_succ, List.getElem?_toArray, cnd_true, cnd_false, grd_tt, grd_tf, grd_ft, grd_ff, grd_u, pick_true, pick_false, un_not, Bool.not_true, Bool.not_false, Nat.add_zero, Nat.zero_add, Nat.reduceAdd, int_eql, int_neq, int_lss, int_leq, int_gtr, int_geq, rd_go, rdo_cells, rds_go, st_go, sto_cells, stc_ok, stA_go, stAo_all, stAo_allL, rdso_all, upd_push_top, one_int, one_bool, one_ptr, one_slice, one_map, one_func, one_iface, boxM_eq, newC_eq, Value.cells, push_get_new, push_size, upd_size, List.size_toArray, List.toList_toArray, List.length_cons, List.length_nil, List.all_cons, List.all_nil, Bool.and_self, Bool.and_true, decide_true, decide_false, hb2, tab_cnt, int_add, ew]
  by_cases c : t.cnt + n > 4096
  · simp only [decide_eq_true c, nilV_ptr, offV_ptr, opt_some, extV_tuple, List.getElem?_cons_zero, List.getElem?_cons_succ, List.getElem?_toArray, cnd_true, cnd_false, grd_tt, grd_tf, grd_ft, grd_ff, grd_u, pick_true, pick_false, un_not, Bool.not_true, Bool.not_false, Nat.add_zero, Nat.zero_add, Nat.reduceAdd, int_eql, int_neq, int_lss, int_leq, int_gtr, int_geq, rd_go, rdo_cells, rds_go, st_go, sto_cells, stc_ok, stA_go, stAo_all, stAo_allL, rdso_all, upd_push_top, one_int, one_bool, one_ptr, one_slice, one_map, one_func, one_iface, boxM_eq, newC_eq, Value.cells, push_get_new, push_size, upd_size, List.size_toArray, List.toList_toArray, List.length_cons, List.length_nil, List.all_cons, List.all_nil, Bool.and_self, Bool.and_true, decide_true, decide_false]
    refine leave_unlock hb2 (by rw [List.getElem?_toArray, tab_ml]) ?_
    obtain ⟨h3, g3⟩ := tab_set h2 t rfl rfl
    rw [tab_set_ml]
    have e : ({ { t with ml := 1 } with ml := 0 } : Tb) = t := by cases t; simp only at hl; subst hl; rfl
    rw [show ({ tmo := t.tmo, ml := 0, cnt := t.cnt, lk := t.lk, b := t.b, q := t.q } : Tb) = t from e]
    exact h0 c _ h3 (g2.trans g3)
  · simp only [decide_eq_false c, nilV_ptr, offV_ptr, opt_some, extV_tuple, List.getElem?_cons_zero, List.getElem?_cons_succ, List.getElem?_toArray, cnd_true, cnd_false, grd_tt, grd_tf, grd_ft, grd_ff, grd_u, pick_true, pick_false, un_not, Bool.not_true, Bool.not_false, Nat.add_zero, Nat.zero_add, Nat.reduceAdd, int_eql, int_neq, int_lss, int_leq, int_gtr, int_geq, rd_go, rdo_cells, rds_go, st_go, sto_cells, stc_ok, stA_go, stAo_all, stAo_allL, rdso_all, upd_push_top, one_int, one_bool, one_ptr, one_slice, one_map, one_func, one_iface, boxM_eq, newC_eq, Value.cells, push_get_new, push_size, upd_size, List.size_toArray, List.toList_toArray, List.length_cons, List.length_nil, List.all_cons, List.all_nil, Bool.and_self, Bool.and_true, decide_true, decide_false, hb2, tab_cnt, int_add, ew, tab_set_cnt]
    obtain ⟨h3, g3⟩ := tab_set h2 { { t with ml := 1 } with cnt := t.cnt + n } rfl rfl
    have hb3 := tab_blk h3
    unfold tabO at h3 g3 hb3
    refine leave_unlock hb3 (by rw [List.getElem?_toArray, tab_ml]) ?_
    obtain ⟨h4, g4⟩ := tab_set h3 { t with cnt := t.cnt + n } rfl rfl
    rw [tab_set_ml]
    have e : ({ { t with ml := 1, cnt := t.cnt + n } with ml := 0 } : Tb) = { t with cnt := t.cnt + n } := by cases t; simp only at hl; subst hl; rfl
    rw [show ({ tmo := t.tmo, ml := 0, cnt := t.cnt + n, lk := t.lk, b := t.b, q := t.q } : Tb) = { t with cnt := t.cnt + n } from e]
    exact h1 (by omega) _ h4 (g2.trans (g3.trans g4))
end

end Go.Proofs.YtnnheophehnioaaGreat
namespace Go.Proofs.YtnnheophehnioaaGreat
open Go.Sx Go.Proofs Go.Gm
set_option maxRecDepth 100000

theorem fld_over {s : St} (h : s.cells.length = 16) : pureRun Tryz.prog (Instr.field 91 (.agg (stateA s)) 3) = some (.bool s.over) := by
  obtain ⟨a0, a1, a2, a3, a4, a5, a6, a7, a8, a9, aa, ab, ac, ad, ae, af, e⟩ := sixteen h
  obtain ⟨f, c, sd, o, w⟩ := s
  simp only at e
  subst e
  kernel_rfl
def playedP (c : Ct) : Bool := c.opened && (!c.over && !c.st.over)
section
variable {q : Nat} {c : Ct} {R : SP} {F : Nat → Prop} {H : Hp}
/-- played. -/
theorem played_ok (h : (conS q c * R).holds F H) {K : Value → HPred} (hk : ∀ H', Ext0 H H' → K (.bool (playedP c)) H') : callF Tryz.prog 70 [ptrQ q] K H := by
  obtain ⟨v0, v1, v2, v3, v4, h0, -⟩ := bs_get h
  refine f70.call ?_
  unfold f70.b
  refine status_ok h fun H1 hx1 => ?_
  obtain ⟨h1, g1⟩ := SP.ext0 h hx1
  unfold playedP at hk
  have e11 := statusL_len c
  have a11 := statusL_all c
  simp (disch := first | assumption | (simp only [List.size_toArray, List.toList_toArray, List.length_cons, List.length_nil, List.all_cons, List.all_nil, oneCell, Bool.and_self, Bool.and_true, Nat.reduceAdd]; done) | (simp only [push_size, upd_size]; done) | (simp only [push_size, upd_size]; omega) | omega) only [statusV, nilV_ptr, offV_ptr, opt_some, extV_tuple, List.getElem?_cons_zero, List.getElem?_cons_succ, List.getElem?_toArray, cnd_true, cnd_false, grd_tt, grd_tf, grd_ft, grd_ff, grd_u, pick_true, pick_false, un_not, Bool.not_true, Bool.not_false, Nat.add_zero, Nat.zero_add, Nat.reduceAdd, int_eql, int_neq, int_lss, int_leq, int_gtr, int_geq, rd_go, rdo_cells, rds_go, st_go, sto_cells, stc_ok, stA_go, stAo_all, stAo_allL, rdso_all, upd_push_top, one_int, one_bool, one_ptr, one_slice, one_map, one_func, one_iface, boxM_eq, newC_eq, Value.cells, push_get_new, push_size, upd_size, List.size_toArray, List.toList_toArray, List.length_cons, List.length_nil, List.all_cons, List.all_nil, Bool.and_self, Bool.and_true, decide_true, decide_false, push_get_old, push_get_eq, upd_push_old, upd_push_eq, upd_get_self, upd_get_ne]
  have hx2 := hx1.trans' (ext_push none' H1 (.cells (statusL c).toArray 62))
  obtain ⟨h2, g2⟩ := SP.push h1 (.cells (statusL c).toArray 62)
  have o10 : (statusL c)[10]? = some (.bool c.opened) := rfl
  have o7 : (statusL c)[7]? = some (.bool c.over) := rfl
  cases co : c.opened with
  | false =>
    simp only [co, Bool.false_and] at hk
    simp only [o10, co, nilV_ptr, offV_ptr, opt_some, extV_tuple, List.getElem?_cons_zero, List.getElem?_cons_succ, List.getElem?_toArray, cnd_true, cnd_false, grd_tt, grd_tf, grd_ft, grd_ff, grd_u, pick_true, pick_false, un_not, Bool.not_true, Bool.not_false, Nat.add_zero, Nat.zero_add, Nat.reduceAdd, int_eql, int_neq, int_lss, int_leq, int_gtr, int_geq, rd_go, rdo_cells, rds_go, st_go, sto_cells, stc_ok, stA_go, stAo_all, stAo_allL, rdso_all, upd_push_top, one_int, one_bool, one_ptr, one_slice, one_map, one_func, one_iface, boxM_eq, newC_eq, Value.cells, push_get_new, push_size, upd_size, List.size_toArray, List.toList_toArray, List.length_cons, List.length_nil, List.all_cons, List.all_nil, Bool.and_self, Bool.and_true, decide_true, decide_false]
    exact hk _ hx2
  | true =>
    cases cv : c.over with
    | true =>
      simp only [co, cv, Bool.true_and, Bool.not_true, Bool.false_and] at hk
      simp only [o10, o7, co, cv, nilV_ptr, offV_ptr, opt_some, extV_tuple, List.getElem?_cons_zero, List.getElem?_cons_succ, List.getElem?_toArray, cnd_true, cnd_false, grd_tt, grd_tf, grd_ft, grd_ff, grd_u, pick_true, pick_false, un_not, Bool.not_true, Bool.not_false, Nat.add_zero, Nat.zero_add, Nat.reduceAdd, int_eql, int_neq, int_lss, int_leq, int_gtr, int_geq, rd_go, rdo_cells, rds_go, st_go, sto_cells, stc_ok, stA_go, stAo_all, stAo_allL, rdso_all, upd_push_top, one_int, one_bool, one_ptr, one_slice, one_map, one_func, one_iface, boxM_eq, newC_eq, Value.cells, push_get_new, push_size, upd_size, List.size_toArray, List.toList_toArray, List.length_cons, List.length_nil, List.all_cons, List.all_nil, Bool.and_self, Bool.and_true, decide_true, decide_false]
      exact hk _ hx2
    | false =>
      simp only [co, cv, Bool.true_and, Bool.not_false] at hk
      simp only [o10, o7, co, cv, nilV_ptr, offV_ptr, opt_some, extV_tuple, List.getElem?_cons_zero, List.getElem?_cons_succ, List.getElem?_toArray, cnd_true, cnd_false, grd_tt, grd_tf, grd_ft, grd_ff, grd_u, pick_true, pick_false, un_not, Bool.not_true, Bool.not_false, Nat.add_zero, Nat.zero_add, Nat.reduceAdd, int_eql, int_neq, int_lss, int_leq, int_gtr, int_geq, rd_go, rdo_cells, rds_go, st_go, sto_cells, stc_ok, stA_go, stAo_all, stAo_allL, rdso_all, upd_push_top, one_int, one_bool, one_ptr, one_slice, one_map, one_func, one_iface, boxM_eq, newC_eq, Value.cells, push_get_new, push_size, upd_size, List.size_toArray, List.toList_toArray, List.length_cons, List.length_nil, List.all_cons, List.all_nil, Bool.and_self, Bool.and_true, decide_true, decide_false]
      refine state_ok h2 fun H3 hx3 => ?_
      rw [fld_over h0]
      simp only [nilV_ptr, offV_ptr, opt_some, extV_tuple, List.getElem?_cons_zero, List.getElem?_cons_succ, List.getElem?_toArray, cnd_true, cnd_false, grd_tt, grd_tf, grd_ft, grd_ff, grd_u, pick_true, pick_false, un_not, Bool.not_true, Bool.not_false, Nat.add_zero, Nat.zero_add, Nat.reduceAdd, int_eql, int_neq, int_lss, int_leq, int_gtr, int_geq, rd_go, rdo_cells, rds_go, st_go, sto_cells, stc_ok, stA_go, stAo_all, stAo_allL, rdso_all, upd_push_top, one_int, one_bool, one_ptr, one_slice, one_map, one_func, one_iface, boxM_eq, newC_eq, Value.cells, push_get_new, push_size, upd_size, List.size_toArray, List.toList_toArray, List.length_cons, List.length_nil, List.all_cons, List.all_nil, Bool.and_self, Bool.and_true, decide_true, decide_false]
      exact hk _ (hx2.trans' hx3)
end
section
variable {p : Nat} {t : Tb} {M : Nat → List (Int × Value)} {T : Nat → TL} {R : SP} {F : Nat → Prop} {H : Hp}
theorem lk_map {i : Nat} (hi : i < 4) (h : (tabS p t M T * R).holds F H) (key : Int) (K : Value → HPred) : rd (readRun Tryz.prog (Instr.lookup 80 (.map (some (t.b i))) (.int .i64 key) false)) K H = K ((mget (M i) key).getD (.pointer none)) H := by
  obtain ⟨es, clk, ⟨hm, _⟩, hb⟩ := tab_mapblk hi h
  exact rd_some (lookup_map keyInt (k := key) (z := .pointer none) Tryz.underlying80 Tryz.underlying3 (by kernel_rfl) hb hm)
theorem tab_tim {i : Nat} (hi : i < 4) (h : (tabS p t M T * R).holds F H) : ∃ F1, TimAt H (t.q i) (T i) F1 ∧ ∀ (a : TL) (F1' : Nat → Prop) (H' : Hp), TimAt H' (t.q i) a F1' → Gr F1 H F1' H' → ∃ F', (tabS p t M (fupd T i a) * R).holds F' H' ∧ Gr F H F' H' := by
  rw [tab_split hi, show blkS p (tabO t) * (mapS (t.b i) (M i) * (timS (t.q i) (T i) * restS t.b t.q M T i)) * R = timS (t.q i) (T i) * (blkS p (tabO t) * (mapS (t.b i) (M i) * (restS t.b t.q M T i)) * R) by ac_rfl] at h
  obtain ⟨F1, h1, -, back⟩ := SP.focus h
  refine ⟨F1, h1, fun a F1' H' ht hg => ?_⟩
  obtain ⟨F', h', g⟩ := back (timS (t.q i) a) F1' H' ht hg
  refine ⟨F', ?_, g⟩
  have e := tab_join (p := p) (t := t) (M := M) (T := T) hi (M i) a
  rw [fupd_id] at e
  rw [e, show blkS p (tabO t) * (mapS (t.b i) (M i) * (timS (t.q i) a * restS t.b t.q M T i)) * R = timS (t.q i) a * (blkS p (tabO t) * (mapS (t.b i) (M i) * (restS t.b t.q M T i)) * R) by ac_rfl]
  exact h'
/-- The time of a match. -/
def timesP (c : Ct) (A : TL) (key at' : Int) : TL := if playedP c then tset A key at' else tdel A key
/-- times. -/
theorem times_ok {i : Nat} (hi : i < 4) {c : Ct} {qc : Nat} (h : (tabS p t M T * (conS qc c * R)).holds F H) {key now : Int} (hm : mget (M i) key = some (ptrQ qc)) (hroom : key ∈ (T i).map (·.1) ∨ (T i).length < 4096) (hlen : (T i).length < 2 ^ 30)
    (hnow : -2 ^ 62 ≤ now + t.tmo ∧ now + t.tmo ≤ 2 ^ 62) {K : Value → HPred}
    (hk : ∀ H' F', (tabS p t M (fupd T i (timesP c (T i) key (now + t.tmo))) * (conS qc c * R)).holds F' H' → Gr F H F' H' → K (.tuple #[]) H') :
    callF Tryz.prog 32 [ptrQ p, .pointer (some ⟨p, 4 + i * 4, none⟩), .int .i64 key, .int .i64 now] K H := by
  have hb := tab_blk h
  refine f32.call ?_
  have ew : IntKind.i64.wrap (now + t.tmo) = now + t.tmo := wrap64_id (by omega) (by omega)
  simp only [f32.b, ptrQ, nilV_ptr, offV_ptr, opt_some, extV_tuple, List.getElem?_cons_zero, List.getElem?_cons_succ, List.getElem?_toArray, cnd_true, cnd_false, grd_tt, grd_tf, grd_ft, grd_ff, grd_u, pick_true, pick_false, un_not, Bool.not_true, Bool.not_false, Nat.add_zero, Nat.zero_add, Nat.reduceAdd, int_eql, int_neq, int_lss, int_leq, int_gtr, int_geq, rd_go, rdo_cells, rds_go, st_go, sto_cells, stc_ok, stA_go, stAo_all, stAo_allL, rdso_all, upd_push_top, one_int, one_bool, one_ptr, one_slice, one_map, one_func, one_iface, boxM_eq, newC_eq, Value.cells, push_get_new, push_size, upd_size, List.size_toArray, List.toList_toArray, List.length_cons, List.length_nil, List.all_cons, List.all_nil, Bool.and_self, Bool.and_true, decide_true, decide_false, hb, tab_map t hi, lk_map hi h, hm, Option.getD_some]
  have h' := h
  rw [show tabS p t M T * (conS qc c * R) = conS qc c * (tabS p t M T * R) by ac_rfl] at h'
  refine played_ok h' fun H1 hx1 => ?_
  obtain ⟨h1, g1⟩ := SP.ext0 h hx1
  have hb1 := tab_blk h1
  obtain ⟨F1, ht, back⟩ := tab_tim hi h1
  unfold timesP at hk
  cases hp : playedP c with
  | true =>
    rw [hp] at hk
    simp only [nilV_ptr, offV_ptr, opt_some, extV_tuple, List.getElem?_cons_zero, List.getElem?_cons_succ, List.getElem?_toArray, cnd_true, cnd_false, grd_tt, grd_tf, grd_ft, grd_ff, grd_u, pick_true, pick_false, un_not, Bool.not_true, Bool.not_false, Nat.add_zero, Nat.zero_add, Nat.reduceAdd, int_eql, int_neq, int_lss, int_leq, int_gtr, int_geq, rd_go, rdo_cells, rds_go, st_go, sto_cells, stc_ok, stA_go, stAo_all, stAo_allL, rdso_all, upd_push_top, one_int, one_bool, one_ptr, one_slice, one_map, one_func, one_iface, boxM_eq, newC_eq, Value.cells, push_get_new, push_size, upd_size, List.size_toArray, List.toList_toArray, List.length_cons, List.length_nil, List.all_cons, List.all_nil, Bool.and_self, Bool.and_true, decide_true, decide_false, hb1, tab_q t hi, tab_tmo, int_add, ew]
    refine timers_set ht hlen (fun _ H2 hx2 ht2 => ?_) (fun hn => absurd hroom hn)
    obtain ⟨F2, h2, g2⟩ := back _ _ _ ht2 (Gr.of hx2 fun b hb => hb)
    exact hk _ _ h2 (g1.trans g2)
  | false =>
    rw [hp] at hk
    simp only [nilV_ptr, offV_ptr, opt_some, extV_tuple, List.getElem?_cons_zero, List.getElem?_cons_succ, List.getElem?_toArray, cnd_true, cnd_false, grd_tt, grd_tf, grd_ft, grd_ff, grd_u, pick_true, pick_false, un_not, Bool.not_true, Bool.not_false, Nat.add_zero, Nat.zero_add, Nat.reduceAdd, int_eql, int_neq, int_lss, int_leq, int_gtr, int_geq, rd_go, rdo_cells, rds_go, st_go, sto_cells, stc_ok, stA_go, stAo_all, stAo_allL, rdso_all, upd_push_top, one_int, one_bool, one_ptr, one_slice, one_map, one_func, one_iface, boxM_eq, newC_eq, Value.cells, push_get_new, push_size, upd_size, List.size_toArray, List.toList_toArray, List.length_cons, List.length_nil, List.all_cons, List.all_nil, Bool.and_self, Bool.and_true, decide_true, decide_false, hb1, tab_q t hi]
    refine timers_cancel ht hlen (fun tm _ H2 hx2 ht2 => ?_) (fun hn => ?_)
    · obtain ⟨F2, h2, g2⟩ := back _ _ _ ht2 (Gr.of hx2 fun b hb => hb)
      exact hk _ _ h2 (g1.trans g2)
    · have e : tdel (T i) key = T i := tdel_no (tget_none.1 hn)
      simp only [Bool.false_eq_true, if_false, e, fupd_id] at hk
      exact hk _ _ h1 g1
end

end Go.Proofs.YtnnheophehnioaaGreat
namespace Go.Proofs.YtnnheophehnioaaGreat
open Go.Sx Go.Proofs Go.Gm
set_option maxRecDepth 100000

section
variable {p : Nat} {t : Tb} {M : Nat → List (Int × Value)} {T : Nat → TL} {R : SP} {F : Nat → Prop} {H : Hp}
/-- The shard of a key. -/
def shd (key : Int) : Nat := (key.tmod 4).toNat
theorem shd_lt {key : Int} (h : 0 ≤ key) : shd key < 4 := by
  have : key.tmod 4 = key % 4 := Int.tmod_eq_emod_of_nonneg h
  unfold shd; omega
theorem shd_int {key : Int} (h : 0 ≤ key) : key.tmod 4 = (shd key : Int) := by
  have : key.tmod 4 = key % 4 := Int.tmod_eq_emod_of_nonneg h
  unfold shd; omega
theorem idx_shd {p : Nat} {key : Int} (h : 0 ≤ key) : idxA (.pointer (some ⟨p, 4, none⟩)) (.int .i64 (key.tmod 4)) 4 4 = some (.pointer (some ⟨p, 4 + shd key * 4, none⟩)) := by
  have := shd_lt h
  rw [shd_int h, idxA_eq (by omega) (by omega)]
  simp
theorem tab_mapfocus {i : Nat} (hi : i < 4) (h : (tabS p t M T * R).holds F H) : ∃ es clk, (Holds keyInt es (M i) ∧ Born es clk) ∧ H[t.b i]? = some (.map es clk) ∧ ∀ (m : List (Int × Value)) (es' : Array MapEntry) (clk' : Nat), (Holds keyInt es' m ∧ Born es' clk') →
    (tabS p t (fupd M i m) T * R).holds F (upd H (t.b i) (.map es' clk')) ∧ Gr F H F (upd H (t.b i) (.map es' clk')) := by
  rw [tab_split hi, show blkS p (tabO t) * (mapS (t.b i) (M i) * (timS (t.q i) (T i) * restS t.b t.q M T i)) * R = mapS (t.b i) (M i) * (blkS p (tabO t) * (timS (t.q i) (T i) * restS t.b t.q M T i) * R) by ac_rfl] at h
  obtain ⟨es, clk, hm, h⟩ := mapS_open h
  refine ⟨es, clk, hm, blk_get h, fun m es' clk' hm' => ?_⟩
  obtain ⟨h1, g1⟩ := blk_set h (.map es' clk')
  refine ⟨?_, g1⟩
  have e := tab_join (p := p) (t := t) (M := M) (T := T) hi m (T i)
  rw [fupd_id] at e
  rw [e, show blkS p (tabO t) * (mapS (t.b i) m * (timS (t.q i) (T i) * restS t.b t.q M T i)) * R = mapS (t.b i) m * (blkS p (tabO t) * (timS (t.q i) (T i) * restS t.b t.q M T i) * R) by ac_rfl]
  exact mapS_mk hm' h1
theorem mput_get (m : List (Int × Value)) (k : Int) (v : Value) : mget (mput m k v) k = some v := by
  unfold mput mget
  split
  · rename_i h
    induction m with
    | nil => simp at h
    | cons x m ih =>
      simp only [List.map_cons, List.find?_cons]
      by_cases hx : x.1 = k
      · simp [hx]
      · have hk : k ∈ m.map (·.1) := by
          simp only [List.map_cons, List.mem_cons] at h
          rcases h with h | h
          · exact absurd h.symm hx
          · exact h
        simp only [hx, if_false, decide_false]
        exact ih hk
  · rename_i h
    rw [List.find?_append]
    have : m.find? (fun x => decide (x.1 = k)) = none := by
      rw [List.find?_eq_none]
      intro x hx hd
      exact h (List.mem_map.2 ⟨x, hx, by simpa using hd⟩)
    rw [this]; simp
theorem lay_nil {a : Option Addr} {key now : Int} {cv : Option Addr} {K : Value → HPred} {H : Hp} (hbad : a = none ∨ key < 0 ∨ cv = none) (hk : K (.int .i64 1) H) : callF Tryz.prog 10 [.pointer a, .int .i64 key, .pointer cv, .int .i64 now] K H := by
  refine f10.call ?_
  simp only [f10.b, ptr_eq_nil Tryz.underlying24]
  cases a with
  | none => simp only [Option.isNone_none, nilV_ptr, offV_ptr, opt_some, extV_tuple, List.getElem?_cons_zero, List.getElem?_cons_succ, List.getElem?_toArray, cnd_true, cnd_false, grd_tt, grd_tf, grd_ft, grd_ff, grd_u, pick_true, pick_false, un_not, Bool.not_true, Bool.not_false, Nat.add_zero, Nat.zero_add, Nat.reduceAdd, int_eql, int_neq, int_lss, int_leq, int_gtr, int_geq, rd_go, rdo_cells, rds_go, st_go, sto_cells, stc_ok, stA_go, stAo_all, stAo_allL, rdso_all, upd_push_top, one_int, one_bool, one_ptr, one_slice, one_map, one_func, one_iface, boxM_eq, newC_eq, Value.cells, push_get_new, push_size, upd_size, List.size_toArray, List.toList_toArray, List.length_cons, List.length_nil, List.all_cons, List.all_nil, Bool.and_self, Bool.and_true, decide_true, decide_false]; exact hk
  | some a =>
    simp only [Option.isNone_some, nilV_ptr, offV_ptr, opt_some, extV_tuple, List.getElem?_cons_zero, List.getElem?_cons_succ, List.getElem?_toArray, cnd_true, cnd_false, grd_tt, grd_tf, grd_ft, grd_ff, grd_u, pick_true, pick_false, un_not, Bool.not_true, Bool.not_false, Nat.add_zero, Nat.zero_add, Nat.reduceAdd, int_eql, int_neq, int_lss, int_leq, int_gtr, int_geq, rd_go, rdo_cells, rds_go, st_go, sto_cells, stc_ok, stA_go, stAo_all, stAo_allL, rdso_all, upd_push_top, one_int, one_bool, one_ptr, one_slice, one_map, one_func, one_iface, boxM_eq, newC_eq, Value.cells, push_get_new, push_size, upd_size, List.size_toArray, List.toList_toArray, List.length_cons, List.length_nil, List.all_cons, List.all_nil, Bool.and_self, Bool.and_true, decide_true, decide_false]
    by_cases c : key < 0
    · simp only [decide_eq_true c, nilV_ptr, offV_ptr, opt_some, extV_tuple, List.getElem?_cons_zero, List.getElem?_cons_succ, List.getElem?_toArray, cnd_true, cnd_false, grd_tt, grd_tf, grd_ft, grd_ff, grd_u, pick_true, pick_false, un_not, Bool.not_true, Bool.not_false, Nat.add_zero, Nat.zero_add, Nat.reduceAdd, int_eql, int_neq, int_lss, int_leq, int_gtr, int_geq, rd_go, rdo_cells, rds_go, st_go, sto_cells, stc_ok, stA_go, stAo_all, stAo_allL, rdso_all, upd_push_top, one_int, one_bool, one_ptr, one_slice, one_map, one_func, one_iface, boxM_eq, newC_eq, Value.cells, push_get_new, push_size, upd_size, List.size_toArray, List.toList_toArray, List.length_cons, List.length_nil, List.all_cons, List.all_nil, Bool.and_self, Bool.and_true, decide_true, decide_false]; exact hk
    · simp only [decide_eq_false c, nilV_ptr, offV_ptr, opt_some, extV_tuple, List.getElem?_cons_zero, List.getElem?_cons_succ, List.getElem?_toArray, cnd_true, cnd_false, grd_tt, grd_tf, grd_ft, grd_ff, grd_u, pick_true, pick_false, un_not, Bool.not_true, Bool.not_false, Nat.add_zero, Nat.zero_add, Nat.reduceAdd, int_eql, int_neq, int_lss, int_leq, int_gtr, int_geq, rd_go, rdo_cells, rds_go, st_go, sto_cells, stc_ok, stA_go, stAo_all, stAo_allL, rdso_all, upd_push_top, one_int, one_bool, one_ptr, one_slice, one_map, one_func, one_iface, boxM_eq, newC_eq, Value.cells, push_get_new, push_size, upd_size, List.size_toArray, List.toList_toArray, List.length_cons, List.length_nil, List.all_cons, List.all_nil, Bool.and_self, Bool.and_true, decide_true, decide_false, ptr_eq_nil Tryz.underlying30]
      have : cv = none := by rcases hbad with h | h | h; cases h; exact absurd h c; exact h
      subst this
      simp only [Option.isNone_none, nilV_ptr, offV_ptr, opt_some, extV_tuple, List.getElem?_cons_zero, List.getElem?_cons_succ, List.getElem?_toArray, cnd_true, cnd_false, grd_tt, grd_tf, grd_ft, grd_ff, grd_u, pick_true, pick_false, un_not, Bool.not_true, Bool.not_false, Nat.add_zero, Nat.zero_add, Nat.reduceAdd, int_eql, int_neq, int_lss, int_leq, int_gtr, int_geq, rd_go, rdo_cells, rds_go, st_go, sto_cells, stc_ok, stA_go, stAo_all, stAo_allL, rdso_all, upd_push_top, one_int, one_bool, one_ptr, one_slice, one_map, one_func, one_iface, boxM_eq, newC_eq, Value.cells, push_get_new, push_size, upd_size, List.size_toArray, List.toList_toArray, List.length_cons, List.length_nil, List.all_cons, List.all_nil, Bool.and_self, Bool.and_true, decide_true, decide_false]; exact hk
/-- Lay. -/
theorem lay_ok {qc : Nat} {c : Ct} (h : (tabS p t M T * (conS qc c * R)).holds F H) {key now : Int} (hkey : 0 ≤ key) (hl : ∀ i, i < 4 → t.lk i = 0) (hml : t.ml = 0) (hcnt : 0 ≤ t.cnt ∧ t.cnt ≤ 4096)
    (hroom : (T (shd key)).length < 4096) (hnow : -2 ^ 62 ≤ now + t.tmo ∧ now + t.tmo ≤ 2 ^ 62) (hptr : ∀ i, i < 4 → ∀ k v, mget (M i) k = some v → ∃ b, v = ptrQ b) {K : Value → HPred}
    (hhas : mget (M (shd key)) key ≠ none → ∀ H', (tabS p t M T * (conS qc c * R)).holds F H' → Gr F H F H' → K (.int .i64 8) H')
    (hfull : mget (M (shd key)) key = none → t.cnt + 1 > 4096 → ∀ H', (tabS p t M T * (conS qc c * R)).holds F H' → Gr F H F H' → K (.int .i64 17) H')
    (hk : mget (M (shd key)) key = none → t.cnt + 1 ≤ 4096 → ∀ H' F', (tabS p { t with cnt := t.cnt + 1 } (fupd M (shd key) (mput (M (shd key)) key (ptrQ qc))) (fupd T (shd key) (timesP c (T (shd key)) key (now + t.tmo))) * (conS qc c * R)).holds F' H' → Gr F H F' H' → K (.int .i64 0) H') :
    callF Tryz.prog 10 [ptrQ p, .int .i64 key, ptrQ qc, .int .i64 now] K H := by
  have hs := shd_lt hkey
  have hkey' : ¬ key < 0 := by omega
  have hb := tab_blk h
  refine f10.call ?_
  have h4 : (4 : Int) ≠ 0 := by decide
  simp only [f10.b, ptrQ, ptr_eq_nil Tryz.underlying24, ptr_eq_nil Tryz.underlying30, Option.isNone_some, nilV_ptr, offV_ptr, opt_some, extV_tuple, List.getElem?_cons_zero, List.getElem?_cons_succ, List.getElem?_toArray, cnd_true, cnd_false, grd_tt, grd_tf, grd_ft, grd_ff, grd_u, pick_true, pick_false, un_not, Bool.not_true, Bool.not_false, Nat.add_zero, Nat.zero_add, Nat.reduceAdd, int_eql, int_neq, int_lss, int_leq, int_gtr, int_geq, rd_go, rdo_cells, rds_go, st_go, sto_cells, stc_ok, stA_go, stAo_all, stAo_allL, rdso_all, upd_push_top, one_int, one_bool, one_ptr, one_slice, one_map, one_func, one_iface, boxM_eq, newC_eq, Value.cells, push_get_new, push_size, upd_size, List.size_toArray, List.toList_toArray, List.length_cons, List.length_nil, List.all_cons, List.all_nil, Bool.and_self, Bool.and_true, decide_true, decide_false, decide_eq_false hkey', int_rem _ _ _ _ _ _ h4, idx_shd hkey]
  refine slock_ok hs h (hl _ hs) fun H1 h1 g1 => ?_
  have hb1 := tab_blk h1
  simp only [nilV_ptr, offV_ptr, opt_some, extV_tuple, List.getElem?_cons_zero, List.getElem?_cons_succ, List.getElem?_toArray, cnd_true, cnd_false, grd_tt, grd_tf, grd_ft, grd_ff, grd_u, pick_true, pick_false, un_not, Bool.not_true, Bool.not_false, Nat.add_zero, Nat.zero_add, Nat.reduceAdd, int_eql, int_neq, int_lss, int_leq, int_gtr, int_geq, rd_go, rdo_cells, rds_go, st_go, sto_cells, stc_ok, stA_go, stAo_all, stAo_allL, rdso_all, upd_push_top, one_int, one_bool, one_ptr, one_slice, one_map, one_func, one_iface, boxM_eq, newC_eq, Value.cells, push_get_new, push_size, upd_size, List.size_toArray, List.toList_toArray, List.length_cons, List.length_nil, List.all_cons, List.all_nil, Bool.and_self, Bool.and_true, decide_true, decide_false, hb1, tab_map _ hs, lk_map hs h1]
  cases hg : mget (M (shd key)) key with
  | some v =>
    obtain ⟨b, rfl⟩ := hptr _ hs _ _ hg
    simp only [Option.getD_some, ptrQ, ptr_ne_nil Tryz.underlying30, Option.isNone_some, nilV_ptr, offV_ptr, opt_some, extV_tuple, List.getElem?_cons_zero, List.getElem?_cons_succ, List.getElem?_toArray, cnd_true, cnd_false, grd_tt, grd_tf, grd_ft, grd_ff, grd_u, pick_true, pick_false, un_not, Bool.not_true, Bool.not_false, Nat.add_zero, Nat.zero_add, Nat.reduceAdd, int_eql, int_neq, int_lss, int_leq, int_gtr, int_geq, rd_go, rdo_cells, rds_go, st_go, sto_cells, stc_ok, stA_go, stAo_all, stAo_allL, rdso_all, upd_push_top, one_int, one_bool, one_ptr, one_slice, one_map, one_func, one_iface, boxM_eq, newC_eq, Value.cells, push_get_new, push_size, upd_size, List.size_toArray, List.toList_toArray, List.length_cons, List.length_nil, List.all_cons, List.all_nil, Bool.and_self, Bool.and_true, decide_true, decide_false]
    refine sleave_ok hs h1 (hl _ hs) fun H2 h2 g2 => ?_
    exact hhas (by rw [hg]; exact nofun) _ h2 (g1.trans g2)
  | none =>
    simp only [Option.getD_none, ptr_ne_nil Tryz.underlying30, Option.isNone_none, nilV_ptr, offV_ptr, opt_some, extV_tuple, List.getElem?_cons_zero, List.getElem?_cons_succ, List.getElem?_toArray, cnd_true, cnd_false, grd_tt, grd_tf, grd_ft, grd_ff, grd_u, pick_true, pick_false, un_not, Bool.not_true, Bool.not_false, Nat.add_zero, Nat.zero_add, Nat.reduceAdd, int_eql, int_neq, int_lss, int_leq, int_gtr, int_geq, rd_go, rdo_cells, rds_go, st_go, sto_cells, stc_ok, stA_go, stAo_all, stAo_allL, rdso_all, upd_push_top, one_int, one_bool, one_ptr, one_slice, one_map, one_func, one_iface, boxM_eq, newC_eq, Value.cells, push_get_new, push_size, upd_size, List.size_toArray, List.toList_toArray, List.length_cons, List.length_nil, List.all_cons, List.all_nil, Bool.and_self, Bool.and_true, decide_true, decide_false]
    refine counts_ok h1 hml ⟨by show -2 ^ 40 ≤ t.cnt + 1; omega, by show t.cnt + 1 ≤ 2 ^ 40; omega⟩ ?_ ?_
    · intro hc H2 h2 g2
      simp only [nilV_ptr, offV_ptr, opt_some, extV_tuple, List.getElem?_cons_zero, List.getElem?_cons_succ, List.getElem?_toArray, cnd_true, cnd_false, grd_tt, grd_tf, grd_ft, grd_ff, grd_u, pick_true, pick_false, un_not, Bool.not_true, Bool.not_false, Nat.add_zero, Nat.zero_add, Nat.reduceAdd, int_eql, int_neq, int_lss, int_leq, int_gtr, int_geq, rd_go, rdo_cells, rds_go, st_go, sto_cells, stc_ok, stA_go, stAo_all, stAo_allL, rdso_all, upd_push_top, one_int, one_bool, one_ptr, one_slice, one_map, one_func, one_iface, boxM_eq, newC_eq, Value.cells, push_get_new, push_size, upd_size, List.size_toArray, List.toList_toArray, List.length_cons, List.length_nil, List.all_cons, List.all_nil, Bool.and_self, Bool.and_true, decide_true, decide_false]
      refine sleave_ok hs h2 (hl _ hs) fun H3 h3 g3 => ?_
      exact hfull hg hc _ h3 (g1.trans (g2.trans g3))
    · intro hc H2 h2 g2
      have hb2 := tab_blk h2
      obtain ⟨es, clk, ⟨hm, hbn⟩, hbm, back⟩ := tab_mapfocus hs h2
      simp only [nilV_ptr, offV_ptr, opt_some, extV_tuple, List.getElem?_cons_zero, List.getElem?_cons_succ, List.getElem?_toArray, cnd_true, cnd_false, grd_tt, grd_tf, grd_ft, grd_ff, grd_u, pick_true, pick_false, un_not, Bool.not_true, Bool.not_false, Nat.add_zero, Nat.zero_add, Nat.reduceAdd, int_eql, int_neq, int_lss, int_leq, int_gtr, int_geq, rd_go, rdo_cells, rds_go, st_go, sto_cells, stc_ok, stA_go, stAo_all, stAo_allL, rdso_all, upd_push_top, one_int, one_bool, one_ptr, one_slice, one_map, one_func, one_iface, boxM_eq, newC_eq, Value.cells, push_get_new, push_size, upd_size, List.size_toArray, List.toList_toArray, List.length_cons, List.length_nil, List.all_cons, List.all_nil, Bool.and_self, Bool.and_true, decide_true, decide_false, hb2, tab_map _ hs]
      refine update_mapB (k := key) Tryz.underlying80 Tryz.underlying3 hbm hm hbn ?_
      intro es' clk' hh hhb
      obtain ⟨h3, g3⟩ := back _ es' clk' ⟨hh, hhb⟩
      rw [setIf_upd]
      refine times_ok hs h3 (c := c) (qc := qc) (by rw [fupd_same]; exact mput_get ..) (.inr hroom) (by omega) hnow ?_
      intro H4 F4 h4 g4
      refine sleave_ok (t := { t with cnt := t.cnt + 1 }) hs h4 (hl _ hs) fun H5 h5 g5 => ?_
      exact hk hg hc _ _ h5 (g1.trans (g2.trans (g3.trans (g4.trans g5))))
end

end Go.Proofs.YtnnheophehnioaaGreat
namespace Go.Proofs.YtnnheophehnioaaGreat
open Go.Sx Go.Proofs Go.Gm
set_option maxRecDepth 100000

theorem tim_new {A : SP} {F : Nat → Prop} {H : Hp} (h : A.holds F H) {K : Value → HPred} (hk : ∀ H' F' q, (timS q [] * A).holds F' H' → Gr F H F' H' → K (ptrQ q) H') : callF Tryz.prog 25 [] K H := by
  refine timers_new fun H' q h1 h2 hx ht => ?_
  obtain ⟨F', h', g⟩ := SP.new_part h hx (B := timS q []) ht fun b hb => by
    rcases hb with hb | hb
    · exact False.elim hb
    · exact hb.1
  exact hk _ _ _ h' g
theorem map_new {A : SP} {F : Nat → Prop} {H : Hp} (h : A.holds F H) : ∃ F', (mapS H.size [] * A).holds F' (H.push (.map #[] 0)) ∧ Gr F H F' (H.push (.map #[] 0)) := by
  obtain ⟨F', h', g⟩ := blk_new h (.map #[] 0)
  exact ⟨F', mapS_mk ⟨⟨rfl, by simp⟩, born_nil⟩ h', g⟩
section
variable {p : Nat} {R : SP} {F : Nat → Prop} {H : Hp}
theorem new_step {i : Nat} (hi : i < 4) {x : Int} (hxi : x = i) {c : Array Value} (hc : c.size = 20) (h : (blkS p (.cells c 86 (0, 0)) * R).holds F H) {K : Value → HPred}
    (hk : ∀ b q H' F', (blkS p (.cells ((c.setIfInBounds (4 + i * 4 + 2) (.map (some b))).setIfInBounds (4 + i * 4 + 3) (ptrQ q)) 86 (0, 0)) * (mapS b [] * (timS q [] * R))).holds F' H' → Gr F H F' H' →
      f7.at5 K (ptrQ p) (.int .i64 (x + 1)) H') : f7.at5 K (ptrQ p) (.int .i64 x) H := by
  subst hxi
  refine f7.b5_ok ?_
  have hi' : (i : Int) < 4 := by omega
  have ei : idxA (.pointer (some ⟨p, 4, none⟩)) (.int .i64 (i : Int)) 4 4 = some (.pointer (some ⟨p, 4 + i * 4, none⟩)) := by
    rw [idxA_eq (by omega) (by omega)]; simp
  have ea : IntKind.i64.wrap ((i : Int) + 1) = (i : Int) + 1 := wrap64_id (by omega) (by omega)
  have o2 : ∀ d : Array Value, d.size = 20 → ∃ v, d[4 + i * 4 + 2]? = some v := fun d hd => ⟨_, Array.getElem?_eq_getElem (by omega)⟩
  have o3 : ∀ d : Array Value, d.size = 20 → ∃ v, d[4 + i * 4 + 3]? = some v := fun d hd => ⟨_, Array.getElem?_eq_getElem (by omega)⟩
  have fin : ∀ (b q : Nat) (G : Hp) (F' : Nat → Prop), (blkS p (.cells c 86 (0, 0)) * (mapS b [] * (timS q [] * R))).holds F' G → Gr F H F' G →
      (st (.pointer (some ⟨p, 4 + i * 4 + 2, none⟩)) (.map (some b)) <| st (.pointer (some ⟨p, 4 + i * 4 + 3, none⟩)) (ptrQ q) <| f7.at5 K (ptrQ p) (.int .i64 ((i : Int) + 1))) G := by
    intro b q G F' hG hg
    have hb := blk_get hG
    obtain ⟨v2, e2⟩ := o2 c hc
    obtain ⟨h2, g2⟩ := blk_set hG (.cells (c.setIfInBounds (4 + i * 4 + 2) (.map (some b))) 86 (0, 0))
    have hb2 := blk_get h2
    obtain ⟨v3, e3⟩ := o3 (c.setIfInBounds (4 + i * 4 + 2) (.map (some b))) (by simpa using hc)
    obtain ⟨h3, g3⟩ := blk_set h2 (.cells ((c.setIfInBounds (4 + i * 4 + 2) (.map (some b))).setIfInBounds (4 + i * 4 + 3) (ptrQ q)) 86 (0, 0))
    simp only [ptrQ, nilV_ptr, offV_ptr, opt_some, extV_tuple, List.getElem?_cons_zero, List.getElem?_cons_succ, List.getElem?_toArray, cnd_true, cnd_false, grd_tt, grd_tf, grd_ft, grd_ff, grd_u, pick_true, pick_false, un_not, Bool.not_true, Bool.not_false, Nat.add_zero, Nat.zero_add, Nat.reduceAdd, int_eql, int_neq, int_lss, int_leq, int_gtr, int_geq, rd_go, rdo_cells, rds_go, st_go, sto_cells, stc_ok, stA_go, stAo_all, stAo_allL, rdso_all, upd_push_top, one_int, one_bool, one_ptr, one_slice, one_map, one_func, one_iface, boxM_eq, newC_eq, Value.cells, push_get_new, push_size, upd_size, List.size_toArray, List.toList_toArray, List.length_cons, List.length_nil, List.all_cons, List.all_nil, Bool.and_self, Bool.and_true, decide_true, decide_false, hb, e2, hb2, e3]
    exact hk b q _ _ h3 (hg.trans (g2.trans g3))
  simp only [f7.b5, ptrQ, nilV_ptr, offV_ptr, opt_some, extV_tuple, List.getElem?_cons_zero, List.getElem?_cons_succ, List.getElem?_toArray, cnd_true, cnd_false, grd_tt, grd_tf, grd_ft, grd_ff, grd_u, pick_true, pick_false, un_not, Bool.not_true, Bool.not_false, Nat.add_zero, Nat.zero_add, Nat.reduceAdd, int_eql, int_neq, int_lss, int_leq, int_gtr, int_geq, rd_go, rdo_cells, rds_go, st_go, sto_cells, stc_ok, stA_go, stAo_all, stAo_allL, rdso_all, upd_push_top, one_int, one_bool, one_ptr, one_slice, one_map, one_func, one_iface, boxM_eq, newC_eq, Value.cells, push_get_new, push_size, upd_size, List.size_toArray, List.toList_toArray, List.length_cons, List.length_nil, List.all_cons, List.all_nil, Bool.and_self, Bool.and_true, decide_true, decide_false, decide_eq_true hi', ei, int_add, ea]
  constructor
  · rw [makeMap_eq]
    obtain ⟨F1, h1, g1⟩ := map_new h
    refine tim_new h1 fun H2 F2 q h2 g2 => ?_
    refine fin H.size q H2 F2 ?_ (g1.trans g2)
    rw [show blkS p (.cells c 86 (0, 0)) * (mapS H.size [] * (timS q [] * R)) = timS q [] * (mapS H.size [] * (blkS p (.cells c 86 (0, 0)) * R)) by ac_rfl]
    exact h2
  · refine tim_new h fun H2 F2 q h2 g2 => ?_
    rw [makeMap_eq]
    obtain ⟨F3, h3, g3⟩ := map_new h2
    refine fin H2.size q _ F3 ?_ (g2.trans g3)
    rw [show blkS p (.cells c 86 (0, 0)) * (mapS H2.size [] * (timS q [] * R)) = mapS H2.size [] * (timS q [] * (blkS p (.cells c 86 (0, 0)) * R)) by ac_rfl]
    exact h3
theorem bld_table (tmo : Int) : pureRun Tryz.prog (Instr.build 86 #[(0, .int .i64 tmo)]) = some (.agg #[.int .i64 tmo, .int .i32 0, .int .u32 0, .int .i64 0, .int .i32 0, .int .u32 0, .map none, .pointer none, .int .i32 0, .int .u32 0, .map none, .pointer none,
  .int .i32 0, .int .u32 0, .map none, .pointer none, .int .i32 0, .int .u32 0, .map none, .pointer none]) := by kernel_rfl
theorem tnew_bad {tmo : Int} (hbad : tmo < 1 ∨ tmo > 1048576) {K : Value → HPred} (hk : K (.tuple #[.pointer none, .int .i64 1]) H) : callF Tryz.prog 7 [.int .i64 tmo] K H := by
  refine f7.call ?_
  by_cases c : tmo < 1
  · simp only [f7.b, nilV_ptr, offV_ptr, opt_some, extV_tuple, List.getElem?_cons_zero, List.getElem?_cons_succ, List.getElem?_toArray, cnd_true, cnd_false, grd_tt, grd_tf, grd_ft, grd_ff, grd_u, pick_true, pick_false, un_not, Bool.not_true, Bool.not_false, Nat.add_zero, Nat.zero_add, Nat.reduceAdd, int_eql, int_neq, int_lss, int_leq, int_gtr, int_geq, rd_go, rdo_cells, rds_go, st_go, sto_cells, stc_ok, stA_go, stAo_all, stAo_allL, rdso_all, upd_push_top, one_int, one_bool, one_ptr, one_slice, one_map, one_func, one_iface, boxM_eq, newC_eq, Value.cells, push_get_new, push_size, upd_size, List.size_toArray, List.toList_toArray, List.length_cons, List.length_nil, List.all_cons, List.all_nil, Bool.and_self, Bool.and_true, decide_true, decide_false, decide_eq_true c]; exact hk
  · have c2 : tmo > 1048576 := by omega
    simp only [f7.b, nilV_ptr, offV_ptr, opt_some, extV_tuple, List.getElem?_cons_zero, List.getElem?_cons_succ, List.getElem?_toArray, cnd_true, cnd_false, grd_tt, grd_tf, grd_ft, grd_ff, grd_u, pick_true, pick_false, un_not, Bool.not_true, Bool.not_false, Nat.add_zero, Nat.zero_add, Nat.reduceAdd, int_eql, int_neq, int_lss, int_leq, int_gtr, int_geq, rd_go, rdo_cells, rds_go, st_go, sto_cells, stc_ok, stA_go, stAo_all, stAo_allL, rdso_all, upd_push_top, one_int, one_bool, one_ptr, one_slice, one_map, one_func, one_iface, boxM_eq, newC_eq, Value.cells, push_get_new, push_size, upd_size, List.size_toArray, List.toList_toArray, List.length_cons, List.length_nil, List.all_cons, List.all_nil, Bool.and_self, Bool.and_true, decide_true, decide_false, decide_eq_false c, decide_eq_true c2]; exact hk
def pick4 (a b c d : Nat) : Nat → Nat := fun i => if i = 0 then a else if i = 1 then b else if i = 2 then c else d
theorem tab_all {p : Nat} {tmo : Int} {R : SP} (b0 b1 b2 b3 q0 q1 q2 q3 : Nat) : tabS p ⟨tmo, 0, 0, fun _ => 0, pick4 b0 b1 b2 b3, pick4 q0 q1 q2 q3⟩ (fun _ => []) (fun _ => []) * R =
      blkS p (tabO ⟨tmo, 0, 0, fun _ => 0, pick4 b0 b1 b2 b3, pick4 q0 q1 q2 q3⟩) * (mapS b3 [] * (timS q3 [] * (mapS b2 [] * (timS q2 [] * (mapS b1 [] * (timS q1 [] * (mapS b0 [] * (timS q0 [] * R)))))))) := by
  unfold tabS
  simp only [List.range, List.range.loop, List.map_cons, List.map_nil, stars, shdS, pick4]
  simp only [SP.star_emp]
  simp (decide := true) only [if_true, if_false]
  ac_rfl
def set8 (c : Array Value) (b0 b1 b2 b3 q0 q1 q2 q3 : Nat) : Array Value :=
  (((((((c.setIfInBounds (4 + 0 * 4 + 2) (.map (some b0))).setIfInBounds (4 + 0 * 4 + 3) (ptrQ q0)).setIfInBounds (4 + 1 * 4 + 2) (.map (some b1))).setIfInBounds (4 + 1 * 4 + 3) (ptrQ q1)).setIfInBounds (4 + 2 * 4 + 2) (.map (some b2))).setIfInBounds (4 + 2 * 4 + 3) (ptrQ q2)).setIfInBounds (4 + 3 * 4 + 2) (.map (some b3))).setIfInBounds (4 + 3 * 4 + 3) (ptrQ q3)
theorem new_loop {c : Array Value} (hc : c.size = 20) (h : (blkS p (.cells c 86 (0, 0)) * R).holds F H) {K : Value → HPred}
    (hk : ∀ b0 b1 b2 b3 q0 q1 q2 q3 H' F', (blkS p (.cells (set8 c b0 b1 b2 b3 q0 q1 q2 q3) 86 (0, 0)) * (mapS b3 [] * (timS q3 [] * (mapS b2 [] * (timS q2 [] * (mapS b1 [] * (timS q1 [] * (mapS b0 [] * (timS q0 [] * R))))))))).holds F' H' → Gr F H F' H' → K (.tuple #[ptrQ p, .int .i64 0]) H') :
    f7.at5 K (ptrQ p) (.int .i64 0) H := by
  refine new_step (i := 0) (by omega) (by omega) hc h fun b0 q0 H2 F2 h2 g2 => ?_
  refine new_step (i := 1) (by omega) (by omega) (by simpa using hc) h2 fun b1 q1 H3 F3 h3 g3 => ?_
  refine new_step (i := 2) (by omega) (by omega) (by simpa using hc) h3 fun b2 q2 H4 F4 h4 g4 => ?_
  refine new_step (i := 3) (by omega) (by omega) (by simpa using hc) h4 fun b3 q3 H5 F5 h5 g5 => ?_
  refine f7.b5_ok ?_
  simp only [f7.b5, ptrQ, nilV_ptr, offV_ptr, opt_some, extV_tuple, List.getElem?_cons_zero, List.getElem?_cons_succ, List.getElem?_toArray, cnd_true, cnd_false, grd_tt, grd_tf, grd_ft, grd_ff, grd_u, pick_true, pick_false, un_not, Bool.not_true, Bool.not_false, Nat.add_zero, Nat.zero_add, Nat.reduceAdd, int_eql, int_neq, int_lss, int_leq, int_gtr, int_geq, rd_go, rdo_cells, rds_go, st_go, sto_cells, stc_ok, stA_go, stAo_all, stAo_allL, rdso_all, upd_push_top, one_int, one_bool, one_ptr, one_slice, one_map, one_func, one_iface, boxM_eq, newC_eq, Value.cells, push_get_new, push_size, upd_size, List.size_toArray, List.toList_toArray, List.length_cons, List.length_nil, List.all_cons, List.all_nil, Bool.and_self, Bool.and_true, decide_true, decide_false, show ¬ ((0 + 1 + 1 + 1 + 1 : Int) < 4) by omega, decide_false]
  exact hk b0 b1 b2 b3 q0 q1 q2 q3 _ _ h5 (g2.trans (g3.trans (g4.trans g5)))
def tabZ (tmo : Int) : List Value := [.int .i64 tmo, .int .i32 0, .int .u32 0, .int .i64 0, .int .i32 0, .int .u32 0, .map none, .pointer none, .int .i32 0, .int .u32 0, .map none, .pointer none, .int .i32 0, .int .u32 0, .map none, .pointer none, .int .i32 0, .int .u32 0, .map none, .pointer none]
theorem set8_tab (tmo : Int) (b0 b1 b2 b3 q0 q1 q2 q3 : Nat) : set8 (tabZ tmo).toArray b0 b1 b2 b3 q0 q1 q2 q3 = (tabL ⟨tmo, 0, 0, fun _ => 0, pick4 b0 b1 b2 b3, pick4 q0 q1 q2 q3⟩).toArray := by
  apply Array.ext'
  simp [set8, tabZ, tabL, shL, pick4]
/-- New. -/
theorem tnew_ok (h : R.holds F H) {tmo : Int} (hok : 1 ≤ tmo ∧ tmo ≤ 1048576) {K : Value → HPred}
    (hk : ∀ H' F' p b q, H.size ≤ p → (tabS p ⟨tmo, 0, 0, fun _ => 0, b, q⟩ (fun _ => []) (fun _ => []) * R).holds F' H' → Gr F H F' H' → K (.tuple #[ptrQ p, .int .i64 0]) H') : callF Tryz.prog 7 [.int .i64 tmo] K H := by
  refine f7.call ?_
  have c1 : ¬ tmo < 1 := by omega
  have c2 : ¬ tmo > 1048576 := by omega
  simp only [f7.b, nilV_ptr, offV_ptr, opt_some, extV_tuple, List.getElem?_cons_zero, List.getElem?_cons_succ, List.getElem?_toArray, cnd_true, cnd_false, grd_tt, grd_tf, grd_ft, grd_ff, grd_u, pick_true, pick_false, un_not, Bool.not_true, Bool.not_false, Nat.add_zero, Nat.zero_add, Nat.reduceAdd, int_eql, int_neq, int_lss, int_leq, int_gtr, int_geq, rd_go, rdo_cells, rds_go, st_go, sto_cells, stc_ok, stA_go, stAo_all, stAo_allL, rdso_all, upd_push_top, one_int, one_bool, one_ptr, one_slice, one_map, one_func, one_iface, boxM_eq, newC_eq, Value.cells, push_get_new, push_size, upd_size, List.size_toArray, List.toList_toArray, List.length_cons, List.length_nil, List.all_cons, List.all_nil, Bool.and_self, Bool.and_true, decide_true, decide_false, decide_eq_false c1, decide_eq_false c2, bld_table]
  obtain ⟨F1, h1, g1⟩ := blk_new h (.cells (tabZ tmo).toArray 86)
  refine new_loop (c := (tabZ tmo).toArray) (by simp [tabZ]) h1 ?_
  intro b0 b1 b2 b3 q0 q1 q2 q3 H' F' h2 g2
  refine hk _ F' H.size (pick4 b0 b1 b2 b3) (pick4 q0 q1 q2 q3) (Nat.le_refl _) ?_ (g1.trans g2)
  rw [set8_tab] at h2
  rw [tab_all]
  exact h2
end

end Go.Proofs.YtnnheophehnioaaGreat
namespace Go.Proofs.YtnnheophehnioaaGreat
open Go.Sx Go.Proofs Go.Gm
set_option maxRecDepth 100000

/-- may. -/
theorem rmay_ok {a b n : Int} {K : Value → HPred} {H : Hp} (hk : ∀ H' t, (t = true ↔ mayP a b n) → Ext0 H H' → K (.bool t) H') : callF Tryz.prog 173 [.agg #[.int .i64 a, .int .i64 b], .int .i64 n] K H := by
  refine f173.call ?_
  have hb := push_new H (.cells #[.int .i64 a, .int .i64 b] 101)
  have hx := ext_push none' H (.cells #[.int .i64 a, .int .i64 b] 101)
  simp only [f173.b, boxM_eq, Value.cells]
  generalize H.push (.cells #[.int .i64 a, .int .i64 b] 101) = G at hb hx
  have fin : ∀ t, (t = true ↔ mayP a b n) → K (.bool t) G := fun t e => hk G t e hx
  unfold mayP R32 at fin
  have b6 : (a = 2 ∨ a = 3) → f173.at6 K (.pointer (some ⟨H.size, 0, none⟩)) G := by
    intro ha
    refine f173.b6_ok ?_
    by_cases c1 : b ≥ 0
    · by_cases c2 : b < 16
      · simp only [f173.b6, nilV_ptr, offV_ptr, opt_some, extV_tuple, List.getElem?_cons_zero, List.getElem?_cons_succ, List.getElem?_toArray, cnd_true, cnd_false, grd_tt, grd_tf, grd_ft, grd_ff, grd_u, pick_true, pick_false, un_not, Bool.not_true, Bool.not_false, Nat.add_zero, Nat.zero_add, Nat.reduceAdd, int_eql, int_neq, int_lss, int_leq, int_gtr, int_geq, rd_go, rdo_cells, rds_go, st_go, sto_cells, stc_ok, stA_go, stAo_all, stAo_allL, rdso_all, upd_push_top, one_int, one_bool, one_ptr, one_slice, one_map, one_func, one_iface, boxM_eq, newC_eq, Value.cells, push_get_new, push_size, upd_size, List.size_toArray, List.toList_toArray, List.length_cons, List.length_nil, List.all_cons, List.all_nil, Bool.and_self, Bool.and_true, hb, decide_eq_true c1, decide_eq_true c2]; exact fin true (by simp; omega)
      · simp only [f173.b6, nilV_ptr, offV_ptr, opt_some, extV_tuple, List.getElem?_cons_zero, List.getElem?_cons_succ, List.getElem?_toArray, cnd_true, cnd_false, grd_tt, grd_tf, grd_ft, grd_ff, grd_u, pick_true, pick_false, un_not, Bool.not_true, Bool.not_false, Nat.add_zero, Nat.zero_add, Nat.reduceAdd, int_eql, int_neq, int_lss, int_leq, int_gtr, int_geq, rd_go, rdo_cells, rds_go, st_go, sto_cells, stc_ok, stA_go, stAo_all, stAo_allL, rdso_all, upd_push_top, one_int, one_bool, one_ptr, one_slice, one_map, one_func, one_iface, boxM_eq, newC_eq, Value.cells, push_get_new, push_size, upd_size, List.size_toArray, List.toList_toArray, List.length_cons, List.length_nil, List.all_cons, List.all_nil, Bool.and_self, Bool.and_true, hb, decide_eq_true c1, decide_eq_false c2]; exact fin false (by simp; omega)
    · simp only [f173.b6, nilV_ptr, offV_ptr, opt_some, extV_tuple, List.getElem?_cons_zero, List.getElem?_cons_succ, List.getElem?_toArray, cnd_true, cnd_false, grd_tt, grd_tf, grd_ft, grd_ff, grd_u, pick_true, pick_false, un_not, Bool.not_true, Bool.not_false, Nat.add_zero, Nat.zero_add, Nat.reduceAdd, int_eql, int_neq, int_lss, int_leq, int_gtr, int_geq, rd_go, rdo_cells, rds_go, st_go, sto_cells, stc_ok, stA_go, stAo_all, stAo_allL, rdso_all, upd_push_top, one_int, one_bool, one_ptr, one_slice, one_map, one_func, one_iface, boxM_eq, newC_eq, Value.cells, push_get_new, push_size, upd_size, List.size_toArray, List.toList_toArray, List.length_cons, List.length_nil, List.all_cons, List.all_nil, Bool.and_self, Bool.and_true, hb, decide_eq_false c1]; exact fin false (by simp; omega)
  have b11 : (a = 18 ∨ a = 19) → f173.at11 K (.int .i64 n) (.pointer (some ⟨H.size, 0, none⟩)) G := by
    intro ha
    refine f173.b11_ok ?_
    by_cases c1 : b ≥ 0
    · by_cases c2 : b ≤ n
      · simp only [f173.b11, nilV_ptr, offV_ptr, opt_some, extV_tuple, List.getElem?_cons_zero, List.getElem?_cons_succ, List.getElem?_toArray, cnd_true, cnd_false, grd_tt, grd_tf, grd_ft, grd_ff, grd_u, pick_true, pick_false, un_not, Bool.not_true, Bool.not_false, Nat.add_zero, Nat.zero_add, Nat.reduceAdd, int_eql, int_neq, int_lss, int_leq, int_gtr, int_geq, rd_go, rdo_cells, rds_go, st_go, sto_cells, stc_ok, stA_go, stAo_all, stAo_allL, rdso_all, upd_push_top, one_int, one_bool, one_ptr, one_slice, one_map, one_func, one_iface, boxM_eq, newC_eq, Value.cells, push_get_new, push_size, upd_size, List.size_toArray, List.toList_toArray, List.length_cons, List.length_nil, List.all_cons, List.all_nil, Bool.and_self, Bool.and_true, hb, decide_eq_true c1, decide_eq_true c2]; exact fin true (by simp; omega)
      · simp only [f173.b11, nilV_ptr, offV_ptr, opt_some, extV_tuple, List.getElem?_cons_zero, List.getElem?_cons_succ, List.getElem?_toArray, cnd_true, cnd_false, grd_tt, grd_tf, grd_ft, grd_ff, grd_u, pick_true, pick_false, un_not, Bool.not_true, Bool.not_false, Nat.add_zero, Nat.zero_add, Nat.reduceAdd, int_eql, int_neq, int_lss, int_leq, int_gtr, int_geq, rd_go, rdo_cells, rds_go, st_go, sto_cells, stc_ok, stA_go, stAo_all, stAo_allL, rdso_all, upd_push_top, one_int, one_bool, one_ptr, one_slice, one_map, one_func, one_iface, boxM_eq, newC_eq, Value.cells, push_get_new, push_size, upd_size, List.size_toArray, List.toList_toArray, List.length_cons, List.length_nil, List.all_cons, List.all_nil, Bool.and_self, Bool.and_true, hb, decide_eq_true c1, decide_eq_false c2]; exact fin false (by simp; omega)
    · simp only [f173.b11, nilV_ptr, offV_ptr, opt_some, extV_tuple, List.getElem?_cons_zero, List.getElem?_cons_succ, List.getElem?_toArray, cnd_true, cnd_false, grd_tt, grd_tf, grd_ft, grd_ff, grd_u, pick_true, pick_false, un_not, Bool.not_true, Bool.not_false, Nat.add_zero, Nat.zero_add, Nat.reduceAdd, int_eql, int_neq, int_lss, int_leq, int_gtr, int_geq, rd_go, rdo_cells, rds_go, st_go, sto_cells, stc_ok, stA_go, stAo_all, stAo_allL, rdso_all, upd_push_top, one_int, one_bool, one_ptr, one_slice, one_map, one_func, one_iface, boxM_eq, newC_eq, Value.cells, push_get_new, push_size, upd_size, List.size_toArray, List.toList_toArray, List.length_cons, List.length_nil, List.all_cons, List.all_nil, Bool.and_self, Bool.and_true, hb, decide_eq_false c1]; exact fin false (by simp; omega)
  have b12 : ¬ (a = 1 ∨ a = 2 ∨ a = 3 ∨ a = 16 ∨ a = 18 ∨ a = 19) → f173.at12 K (.pointer (some ⟨H.size, 0, none⟩)) (.int .i64 a) G := by
    intro ha
    refine f173.b12_ok ?_
    by_cases c0 : a = 20
    · by_cases c1 : b ≥ 0
      · by_cases c2 : b ≤ 2
        · simp only [f173.b12, nilV_ptr, offV_ptr, opt_some, extV_tuple, List.getElem?_cons_zero, List.getElem?_cons_succ, List.getElem?_toArray, cnd_true, cnd_false, grd_tt, grd_tf, grd_ft, grd_ff, grd_u, pick_true, pick_false, un_not, Bool.not_true, Bool.not_false, Nat.add_zero, Nat.zero_add, Nat.reduceAdd, int_eql, int_neq, int_lss, int_leq, int_gtr, int_geq, rd_go, rdo_cells, rds_go, st_go, sto_cells, stc_ok, stA_go, stAo_all, stAo_allL, rdso_all, upd_push_top, one_int, one_bool, one_ptr, one_slice, one_map, one_func, one_iface, boxM_eq, newC_eq, Value.cells, push_get_new, push_size, upd_size, List.size_toArray, List.toList_toArray, List.length_cons, List.length_nil, List.all_cons, List.all_nil, Bool.and_self, Bool.and_true, hb, decide_eq_true c0, decide_eq_true c1, decide_eq_true c2]; exact fin true (by simp; omega)
        · simp only [f173.b12, nilV_ptr, offV_ptr, opt_some, extV_tuple, List.getElem?_cons_zero, List.getElem?_cons_succ, List.getElem?_toArray, cnd_true, cnd_false, grd_tt, grd_tf, grd_ft, grd_ff, grd_u, pick_true, pick_false, un_not, Bool.not_true, Bool.not_false, Nat.add_zero, Nat.zero_add, Nat.reduceAdd, int_eql, int_neq, int_lss, int_leq, int_gtr, int_geq, rd_go, rdo_cells, rds_go, st_go, sto_cells, stc_ok, stA_go, stAo_all, stAo_allL, rdso_all, upd_push_top, one_int, one_bool, one_ptr, one_slice, one_map, one_func, one_iface, boxM_eq, newC_eq, Value.cells, push_get_new, push_size, upd_size, List.size_toArray, List.toList_toArray, List.length_cons, List.length_nil, List.all_cons, List.all_nil, Bool.and_self, Bool.and_true, hb, decide_eq_true c0, decide_eq_true c1, decide_eq_false c2]; exact fin false (by simp; omega)
      · simp only [f173.b12, nilV_ptr, offV_ptr, opt_some, extV_tuple, List.getElem?_cons_zero, List.getElem?_cons_succ, List.getElem?_toArray, cnd_true, cnd_false, grd_tt, grd_tf, grd_ft, grd_ff, grd_u, pick_true, pick_false, un_not, Bool.not_true, Bool.not_false, Nat.add_zero, Nat.zero_add, Nat.reduceAdd, int_eql, int_neq, int_lss, int_leq, int_gtr, int_geq, rd_go, rdo_cells, rds_go, st_go, sto_cells, stc_ok, stA_go, stAo_all, stAo_allL, rdso_all, upd_push_top, one_int, one_bool, one_ptr, one_slice, one_map, one_func, one_iface, boxM_eq, newC_eq, Value.cells, push_get_new, push_size, upd_size, List.size_toArray, List.toList_toArray, List.length_cons, List.length_nil, List.all_cons, List.all_nil, Bool.and_self, Bool.and_true, hb, decide_eq_true c0, decide_eq_false c1]; exact fin false (by simp; omega)
    · by_cases c1 : a ≥ 1
      · by_cases c2 : a ≤ 22
        · by_cases c3 : b = 0
          · simp only [f173.b12, nilV_ptr, offV_ptr, opt_some, extV_tuple, List.getElem?_cons_zero, List.getElem?_cons_succ, List.getElem?_toArray, cnd_true, cnd_false, grd_tt, grd_tf, grd_ft, grd_ff, grd_u, pick_true, pick_false, un_not, Bool.not_true, Bool.not_false, Nat.add_zero, Nat.zero_add, Nat.reduceAdd, int_eql, int_neq, int_lss, int_leq, int_gtr, int_geq, rd_go, rdo_cells, rds_go, st_go, sto_cells, stc_ok, stA_go, stAo_all, stAo_allL, rdso_all, upd_push_top, one_int, one_bool, one_ptr, one_slice, one_map, one_func, one_iface, boxM_eq, newC_eq, Value.cells, push_get_new, push_size, upd_size, List.size_toArray, List.toList_toArray, List.length_cons, List.length_nil, List.all_cons, List.all_nil, Bool.and_self, Bool.and_true, hb, decide_eq_false c0, decide_eq_true c1, decide_eq_true c2, decide_eq_true c3]; exact fin true (by simp; omega)
          · simp only [f173.b12, nilV_ptr, offV_ptr, opt_some, extV_tuple, List.getElem?_cons_zero, List.getElem?_cons_succ, List.getElem?_toArray, cnd_true, cnd_false, grd_tt, grd_tf, grd_ft, grd_ff, grd_u, pick_true, pick_false, un_not, Bool.not_true, Bool.not_false, Nat.add_zero, Nat.zero_add, Nat.reduceAdd, int_eql, int_neq, int_lss, int_leq, int_gtr, int_geq, rd_go, rdo_cells, rds_go, st_go, sto_cells, stc_ok, stA_go, stAo_all, stAo_allL, rdso_all, upd_push_top, one_int, one_bool, one_ptr, one_slice, one_map, one_func, one_iface, boxM_eq, newC_eq, Value.cells, push_get_new, push_size, upd_size, List.size_toArray, List.toList_toArray, List.length_cons, List.length_nil, List.all_cons, List.all_nil, Bool.and_self, Bool.and_true, hb, decide_eq_false c0, decide_eq_true c1, decide_eq_true c2, decide_eq_false c3]; exact fin false (by simp; omega)
        · simp only [f173.b12, nilV_ptr, offV_ptr, opt_some, extV_tuple, List.getElem?_cons_zero, List.getElem?_cons_succ, List.getElem?_toArray, cnd_true, cnd_false, grd_tt, grd_tf, grd_ft, grd_ff, grd_u, pick_true, pick_false, un_not, Bool.not_true, Bool.not_false, Nat.add_zero, Nat.zero_add, Nat.reduceAdd, int_eql, int_neq, int_lss, int_leq, int_gtr, int_geq, rd_go, rdo_cells, rds_go, st_go, sto_cells, stc_ok, stA_go, stAo_all, stAo_allL, rdso_all, upd_push_top, one_int, one_bool, one_ptr, one_slice, one_map, one_func, one_iface, boxM_eq, newC_eq, Value.cells, push_get_new, push_size, upd_size, List.size_toArray, List.toList_toArray, List.length_cons, List.length_nil, List.all_cons, List.all_nil, Bool.and_self, Bool.and_true, hb, decide_eq_false c0, decide_eq_true c1, decide_eq_false c2]; exact fin false (by simp; omega)
      · simp only [f173.b12, nilV_ptr, offV_ptr, opt_some, extV_tuple, List.getElem?_cons_zero, List.getElem?_cons_succ, List.getElem?_toArray, cnd_true, cnd_false, grd_tt, grd_tf, grd_ft, grd_ff, grd_u, pick_true, pick_false, un_not, Bool.not_true, Bool.not_false, Nat.add_zero, Nat.zero_add, Nat.reduceAdd, int_eql, int_neq, int_lss, int_leq, int_gtr, int_geq, rd_go, rdo_cells, rds_go, st_go, sto_cells, stc_ok, stA_go, stAo_all, stAo_allL, rdso_all, upd_push_top, one_int, one_bool, one_ptr, one_slice, one_map, one_func, one_iface, boxM_eq, newC_eq, Value.cells, push_get_new, push_size, upd_size, List.size_toArray, List.toList_toArray, List.length_cons, List.length_nil, List.all_cons, List.all_nil, Bool.and_self, Bool.and_true, hb, decide_eq_false c0, decide_eq_false c1]; exact fin false (by simp; omega)
  have b7 : ¬ (a = 1 ∨ a = 2 ∨ a = 3) → f173.at7 K (.int .i64 n) (.pointer (some ⟨H.size, 0, none⟩)) (.int .i64 a) G := by
    intro ha
    refine f173.b7_ok ?_
    by_cases c0 : a = 16
    · by_cases c1 : b = 0
      · simp only [f173.b7, nilV_ptr, offV_ptr, opt_some, extV_tuple, List.getElem?_cons_zero, List.getElem?_cons_succ, List.getElem?_toArray, cnd_true, cnd_false, grd_tt, grd_tf, grd_ft, grd_ff, grd_u, pick_true, pick_false, un_not, Bool.not_true, Bool.not_false, Nat.add_zero, Nat.zero_add, Nat.reduceAdd, int_eql, int_neq, int_lss, int_leq, int_gtr, int_geq, rd_go, rdo_cells, rds_go, st_go, sto_cells, stc_ok, stA_go, stAo_all, stAo_allL, rdso_all, upd_push_top, one_int, one_bool, one_ptr, one_slice, one_map, one_func, one_iface, boxM_eq, newC_eq, Value.cells, push_get_new, push_size, upd_size, List.size_toArray, List.toList_toArray, List.length_cons, List.length_nil, List.all_cons, List.all_nil, Bool.and_self, Bool.and_true, hb, decide_eq_true c0, decide_eq_true c1]; exact fin true (by simp; omega)
      · by_cases c2 : b = 1
        · simp only [f173.b7, nilV_ptr, offV_ptr, opt_some, extV_tuple, List.getElem?_cons_zero, List.getElem?_cons_succ, List.getElem?_toArray, cnd_true, cnd_false, grd_tt, grd_tf, grd_ft, grd_ff, grd_u, pick_true, pick_false, un_not, Bool.not_true, Bool.not_false, Nat.add_zero, Nat.zero_add, Nat.reduceAdd, int_eql, int_neq, int_lss, int_leq, int_gtr, int_geq, rd_go, rdo_cells, rds_go, st_go, sto_cells, stc_ok, stA_go, stAo_all, stAo_allL, rdso_all, upd_push_top, one_int, one_bool, one_ptr, one_slice, one_map, one_func, one_iface, boxM_eq, newC_eq, Value.cells, push_get_new, push_size, upd_size, List.size_toArray, List.toList_toArray, List.length_cons, List.length_nil, List.all_cons, List.all_nil, Bool.and_self, Bool.and_true, hb, decide_eq_true c0, decide_eq_false c1, decide_eq_true c2]; exact fin true (by simp; omega)
        · simp only [f173.b7, nilV_ptr, offV_ptr, opt_some, extV_tuple, List.getElem?_cons_zero, List.getElem?_cons_succ, List.getElem?_toArray, cnd_true, cnd_false, grd_tt, grd_tf, grd_ft, grd_ff, grd_u, pick_true, pick_false, un_not, Bool.not_true, Bool.not_false, Nat.add_zero, Nat.zero_add, Nat.reduceAdd, int_eql, int_neq, int_lss, int_leq, int_gtr, int_geq, rd_go, rdo_cells, rds_go, st_go, sto_cells, stc_ok, stA_go, stAo_all, stAo_allL, rdso_all, upd_push_top, one_int, one_bool, one_ptr, one_slice, one_map, one_func, one_iface, boxM_eq, newC_eq, Value.cells, push_get_new, push_size, upd_size, List.size_toArray, List.toList_toArray, List.length_cons, List.length_nil, List.all_cons, List.all_nil, Bool.and_self, Bool.and_true, hb, decide_eq_true c0, decide_eq_false c1, decide_eq_false c2]; exact fin false (by simp; omega)
    · by_cases c1 : a = 18
      · simp only [f173.b7, nilV_ptr, offV_ptr, opt_some, extV_tuple, List.getElem?_cons_zero, List.getElem?_cons_succ, List.getElem?_toArray, cnd_true, cnd_false, grd_tt, grd_tf, grd_ft, grd_ff, grd_u, pick_true, pick_false, un_not, Bool.not_true, Bool.not_false, Nat.add_zero, Nat.zero_add, Nat.reduceAdd, int_eql, int_neq, int_lss, int_leq, int_gtr, int_geq, rd_go, rdo_cells, rds_go, st_go, sto_cells, stc_ok, stA_go, stAo_all, stAo_allL, rdso_all, upd_push_top, one_int, one_bool, one_ptr, one_slice, one_map, one_func, one_iface, boxM_eq, newC_eq, Value.cells, push_get_new, push_size, upd_size, List.size_toArray, List.toList_toArray, List.length_cons, List.length_nil, List.all_cons, List.all_nil, Bool.and_self, Bool.and_true, decide_eq_false c0, decide_eq_true c1]; exact b11 (.inl c1)
      · by_cases c2 : a = 19
        · simp only [f173.b7, nilV_ptr, offV_ptr, opt_some, extV_tuple, List.getElem?_cons_zero, List.getElem?_cons_succ, List.getElem?_toArray, cnd_true, cnd_false, grd_tt, grd_tf, grd_ft, grd_ff, grd_u, pick_true, pick_false, un_not, Bool.not_true, Bool.not_false, Nat.add_zero, Nat.zero_add, Nat.reduceAdd, int_eql, int_neq, int_lss, int_leq, int_gtr, int_geq, rd_go, rdo_cells, rds_go, st_go, sto_cells, stc_ok, stA_go, stAo_all, stAo_allL, rdso_all, upd_push_top, one_int, one_bool, one_ptr, one_slice, one_map, one_func, one_iface, boxM_eq, newC_eq, Value.cells, push_get_new, push_size, upd_size, List.size_toArray, List.toList_toArray, List.length_cons, List.length_nil, List.all_cons, List.all_nil, Bool.and_self, Bool.and_true, decide_eq_false c0, decide_eq_false c1, decide_eq_true c2]; exact b11 (.inr c2)
        · simp only [f173.b7, nilV_ptr, offV_ptr, opt_some, extV_tuple, List.getElem?_cons_zero, List.getElem?_cons_succ, List.getElem?_toArray, cnd_true, cnd_false, grd_tt, grd_tf, grd_ft, grd_ff, grd_u, pick_true, pick_false, un_not, Bool.not_true, Bool.not_false, Nat.add_zero, Nat.zero_add, Nat.reduceAdd, int_eql, int_neq, int_lss, int_leq, int_gtr, int_geq, rd_go, rdo_cells, rds_go, st_go, sto_cells, stc_ok, stA_go, stAo_all, stAo_allL, rdso_all, upd_push_top, one_int, one_bool, one_ptr, one_slice, one_map, one_func, one_iface, boxM_eq, newC_eq, Value.cells, push_get_new, push_size, upd_size, List.size_toArray, List.toList_toArray, List.length_cons, List.length_nil, List.all_cons, List.all_nil, Bool.and_self, Bool.and_true, decide_eq_false c0, decide_eq_false c1, decide_eq_false c2]; exact b12 (by omega)
  by_cases c0 : a = 1
  · by_cases c1 : b ≥ -2147483648
    · by_cases c2 : b ≤ 2147483647
      · simp only [nilV_ptr, offV_ptr, opt_some, extV_tuple, List.getElem?_cons_zero, List.getElem?_cons_succ, List.getElem?_toArray, cnd_true, cnd_false, grd_tt, grd_tf, grd_ft, grd_ff, grd_u, pick_true, pick_false, un_not, Bool.not_true, Bool.not_false, Nat.add_zero, Nat.zero_add, Nat.reduceAdd, int_eql, int_neq, int_lss, int_leq, int_gtr, int_geq, rd_go, rdo_cells, rds_go, st_go, sto_cells, stc_ok, stA_go, stAo_all, stAo_allL, rdso_all, upd_push_top, one_int, one_bool, one_ptr, one_slice, one_map, one_func, one_iface, boxM_eq, newC_eq, Value.cells, push_get_new, push_size, upd_size, List.size_toArray, List.toList_toArray, List.length_cons, List.length_nil, List.all_cons, List.all_nil, Bool.and_self, Bool.and_true, hb, decide_eq_true c0, decide_eq_true c1, decide_eq_true c2]; exact fin true (by simp; omega)
      · simp only [nilV_ptr, offV_ptr, opt_some, extV_tuple, List.getElem?_cons_zero, List.getElem?_cons_succ, List.getElem?_toArray, cnd_true, cnd_false, grd_tt, grd_tf, grd_ft, grd_ff, grd_u, pick_true, pick_false, un_not, Bool.not_true, Bool.not_false, Nat.add_zero, Nat.zero_add, Nat.reduceAdd, int_eql, int_neq, int_lss, int_leq, int_gtr, int_geq, rd_go, rdo_cells, rds_go, st_go, sto_cells, stc_ok, stA_go, stAo_all, stAo_allL, rdso_all, upd_push_top, one_int, one_bool, one_ptr, one_slice, one_map, one_func, one_iface, boxM_eq, newC_eq, Value.cells, push_get_new, push_size, upd_size, List.size_toArray, List.toList_toArray, List.length_cons, List.length_nil, List.all_cons, List.all_nil, Bool.and_self, Bool.and_true, hb, decide_eq_true c0, decide_eq_true c1, decide_eq_false c2]; exact fin false (by simp; omega)
    · simp only [nilV_ptr, offV_ptr, opt_some, extV_tuple, List.getElem?_cons_zero, List.getElem?_cons_succ, List.getElem?_toArray, cnd_true, cnd_false, grd_tt, grd_tf, grd_ft, grd_ff, grd_u, pick_true, pick_false, un_not, Bool.not_true, Bool.not_false, Nat.add_zero, Nat.zero_add, Nat.reduceAdd, int_eql, int_neq, int_lss, int_leq, int_gtr, int_geq, rd_go, rdo_cells, rds_go, st_go, sto_cells, stc_ok, stA_go, stAo_all, stAo_allL, rdso_all, upd_push_top, one_int, one_bool, one_ptr, one_slice, one_map, one_func, one_iface, boxM_eq, newC_eq, Value.cells, push_get_new, push_size, upd_size, List.size_toArray, List.toList_toArray, List.length_cons, List.length_nil, List.all_cons, List.all_nil, Bool.and_self, Bool.and_true, hb, decide_eq_true c0, decide_eq_false c1]; exact fin false (by simp; omega)
  · by_cases c1 : a = 2
    · simp only [nilV_ptr, offV_ptr, opt_some, extV_tuple, List.getElem?_cons_zero, List.getElem?_cons_succ, List.getElem?_toArray, cnd_true, cnd_false, grd_tt, grd_tf, grd_ft, grd_ff, grd_u, pick_true, pick_false, un_not, Bool.not_true, Bool.not_false, Nat.add_zero, Nat.zero_add, Nat.reduceAdd, int_eql, int_neq, int_lss, int_leq, int_gtr, int_geq, rd_go, rdo_cells, rds_go, st_go, sto_cells, stc_ok, stA_go, stAo_all, stAo_allL, rdso_all, upd_push_top, one_int, one_bool, one_ptr, one_slice, one_map, one_func, one_iface, boxM_eq, newC_eq, Value.cells, push_get_new, push_size, upd_size, List.size_toArray, List.toList_toArray, List.length_cons, List.length_nil, List.all_cons, List.all_nil, Bool.and_self, Bool.and_true, hb, decide_eq_false c0, decide_eq_true c1]; exact b6 (.inl c1)
    · by_cases c2 : a = 3
      · simp only [nilV_ptr, offV_ptr, opt_some, extV_tuple, List.getElem?_cons_zero, List.getElem?_cons_succ, List.getElem?_toArray, cnd_true, cnd_false, grd_tt, grd_tf, grd_ft, grd_ff, grd_u, pick_true, pick_false, un_not, Bool.not_true, Bool.not_false, Nat.add_zero, Nat.zero_add, Nat.reduceAdd, int_eql, int_neq, int_lss, int_leq, int_gtr, int_geq, rd_go, rdo_cells, rds_go, st_go, sto_cells, stc_ok, stA_go, stAo_all, stAo_allL, rdso_all, upd_push_top, one_int, one_bool, one_ptr, one_slice, one_map, one_func, one_iface, boxM_eq, newC_eq, Value.cells, push_get_new, push_size, upd_size, List.size_toArray, List.toList_toArray, List.length_cons, List.length_nil, List.all_cons, List.all_nil, Bool.and_self, Bool.and_true, hb, decide_eq_false c0, decide_eq_false c1, decide_eq_true c2]; exact b6 (.inr c2)
      · simp only [nilV_ptr, offV_ptr, opt_some, extV_tuple, List.getElem?_cons_zero, List.getElem?_cons_succ, List.getElem?_toArray, cnd_true, cnd_false, grd_tt, grd_tf, grd_ft, grd_ff, grd_u, pick_true, pick_false, un_not, Bool.not_true, Bool.not_false, Nat.add_zero, Nat.zero_add, Nat.reduceAdd, int_eql, int_neq, int_lss, int_leq, int_gtr, int_geq, rd_go, rdo_cells, rds_go, st_go, sto_cells, stc_ok, stA_go, stAo_all, stAo_allL, rdso_all, upd_push_top, one_int, one_bool, one_ptr, one_slice, one_map, one_func, one_iface, boxM_eq, newC_eq, Value.cells, push_get_new, push_size, upd_size, List.size_toArray, List.toList_toArray, List.length_cons, List.length_nil, List.all_cons, List.all_nil, Bool.and_self, Bool.and_true, hb, decide_eq_false c0, decide_eq_false c1, decide_eq_false c2]; exact b7 (by omega)
theorem rcheck_loop {code : List (Int × Int)} {cv : Value} {K : Value → HPred} (hlen : code.length ≤ 256) : ∀ (d i : Nat) (H : Hp), code.length = i + d → (∀ j x, j < i → code[j]? = some x → mayP x.1 x.2 code.length) →
    Lies H cv 101 2 code.length (code.flatMap encI) → (∀ H' k, Ext0 H H' → K (.tuple #[.int .i64 k, .int .i64 (codeE code)]) H') → f147.at4 K cv (.int .i64 i) H := by
  intro d
  induction d with
  | zero =>
    intro i H hi hall hc hk
    obtain ⟨a, cap, rfl⟩ := hc.shape
    refine f147.b4_ok ?_
    have hlt : ¬ (i : Int) < (code.length : Int) := by omega
    simp only [f147.b4, len_slice Tryz.underlying33, nilV_ptr, offV_ptr, opt_some, extV_tuple, List.getElem?_cons_zero, List.getElem?_cons_succ, List.getElem?_toArray, cnd_true, cnd_false, grd_tt, grd_tf, grd_ft, grd_ff, grd_u, pick_true, pick_false, un_not, Bool.not_true, Bool.not_false, Nat.add_zero, Nat.zero_add, Nat.reduceAdd, int_eql, int_neq, int_lss, int_leq, int_gtr, int_geq, rd_go, rdo_cells, rds_go, st_go, sto_cells, stc_ok, stA_go, stAo_all, stAo_allL, rdso_all, upd_push_top, one_int, one_bool, one_ptr, one_slice, one_map, one_func, one_iface, boxM_eq, newC_eq, Value.cells, push_get_new, push_size, upd_size, List.size_toArray, List.toList_toArray, List.length_cons, List.length_nil, List.all_cons, List.all_nil, Bool.and_self, Bool.and_true, decide_eq_false hlt]
    have e : codeE code = 0 := by
      unfold codeE
      rw [if_neg (by omega), if_pos]
      intro x hx
      obtain ⟨j, hj, rfl⟩ := List.getElem_of_mem hx
      exact hall j _ (by omega) (List.getElem?_eq_getElem hj)
    have := hk H 0 (Ext.refl _ _)
    rw [e] at this; exact this
  | succ d ih =>
    intro i H hi hall hc hk
    refine f147.b4_ok ?_
    have hlt : (i : Int) < (code.length : Int) := by omega
    have hai : code[i]? = some code[i] := List.getElem?_eq_getElem (by omega)
    generalize hx : code[i] = x at hai
    have hc0 := hc
    obtain ⟨bb, o, cc, ccap, T, fz, rfl, hb, hil, hsz, hg⟩ := hc.at encI_len hai
    have g0 := hg 0 (by omega)
    have g1 := hg 1 (by omega)
    have ecl : cc.extract (o + i * 2) (o + i * 2 + 2) = #[.int .i64 x.1, .int .i64 x.2] := by
      apply Array.ext_getElem?
      intro k
      rw [Array.getElem?_extract]
      match k with
      | 0 => rw [if_pos (by omega)]; exact g0
      | 1 => rw [if_pos (by omega)]; exact g1
      | k + 2 => rw [if_neg (by omega)]; simp
    have ei : o + Int.toNat (i : Int) * 2 = o + i * 2 := by simp
    have rs : ∀ K : Value → HPred, rd (cellsP (.pointer (some ⟨bb, o + i * 2, none⟩)) 2) K H = K (.agg #[.int .i64 x.1, .int .i64 x.2]) H := by
      intro K
      rw [rds_blk hb (by omega), ecl]
    simp only [f147.b4, len_slice Tryz.underlying33, int_lss, opt_some, decide_eq_true hlt, cnd_true, idxS_eq (Int.natCast_nonneg i) hlt, ei, rs]
    refine rmay_ok fun U t ht hxU => ?_
    cases t with
    | true =>
      have hm := ht.1 rfl
      have ea : IntKind.i64.wrap ((i : Int) + 1) = ((i + 1 : Nat) : Int) := by rw [wrap64_id (by omega) (by omega)]; omega
      simp only [nilV_ptr, offV_ptr, opt_some, extV_tuple, List.getElem?_cons_zero, List.getElem?_cons_succ, List.getElem?_toArray, cnd_true, cnd_false, grd_tt, grd_tf, grd_ft, grd_ff, grd_u, pick_true, pick_false, un_not, Bool.not_true, Bool.not_false, Nat.add_zero, Nat.zero_add, Nat.reduceAdd, int_eql, int_neq, int_lss, int_leq, int_gtr, int_geq, rd_go, rdo_cells, rds_go, st_go, sto_cells, stc_ok, stA_go, stAo_all, stAo_allL, rdso_all, upd_push_top, one_int, one_bool, one_ptr, one_slice, one_map, one_func, one_iface, boxM_eq, newC_eq, Value.cells, push_get_new, push_size, upd_size, List.size_toArray, List.toList_toArray, List.length_cons, List.length_nil, List.all_cons, List.all_nil, Bool.and_self, Bool.and_true, int_add, ea]
      refine ih (i + 1) U (by omega) ?_ (hc0.ext hxU fun _ _ e => e) fun H' k hx' => hk H' k (hxU.trans' hx')
      intro j y hj hy
      by_cases hji : j = i
      · subst hji; rw [hai] at hy; cases hy; exact hm
      · exact hall j y (by omega) hy
    | false =>
      have hm : ¬ mayP x.1 x.2 code.length := fun h => by have := ht.2 h; cases this
      simp only [nilV_ptr, offV_ptr, opt_some, extV_tuple, List.getElem?_cons_zero, List.getElem?_cons_succ, List.getElem?_toArray, cnd_true, cnd_false, grd_tt, grd_tf, grd_ft, grd_ff, grd_u, pick_true, pick_false, un_not, Bool.not_true, Bool.not_false, Nat.add_zero, Nat.zero_add, Nat.reduceAdd, int_eql, int_neq, int_lss, int_leq, int_gtr, int_geq, rd_go, rdo_cells, rds_go, st_go, sto_cells, stc_ok, stA_go, stAo_all, stAo_allL, rdso_all, upd_push_top, one_int, one_bool, one_ptr, one_slice, one_map, one_func, one_iface, boxM_eq, newC_eq, Value.cells, push_get_new, push_size, upd_size, List.size_toArray, List.toList_toArray, List.length_cons, List.length_nil, List.all_cons, List.all_nil, Bool.and_self, Bool.and_true]
      have hbad : codeE code = 3 := by
        unfold codeE
        rw [if_neg (by omega), if_neg]
        exact fun h => hm (h x (List.mem_of_getElem? hai))
      have := hk U i hxU
      rw [hbad] at this; exact this
/-- Check. -/
theorem rcheck_ok {code : List (Int × Int)} {cv : Value} {K : Value → HPred} {H : Hp} (hc : Lies H cv 101 2 code.length (code.flatMap encI))
    (hk : ∀ H' k, Ext0 H H' → K (.tuple #[.int .i64 k, .int .i64 (codeE code)]) H') : callF Tryz.prog 147 [cv] K H := by
  refine f147.call ?_
  obtain ⟨a, cap, rfl⟩ := hc.shape
  by_cases hl : code.length > 256
  · have hl' : (code.length : Int) > 256 := by omega
    simp only [f147.b, len_slice Tryz.underlying33, nilV_ptr, offV_ptr, opt_some, extV_tuple, List.getElem?_cons_zero, List.getElem?_cons_succ, List.getElem?_toArray, cnd_true, cnd_false, grd_tt, grd_tf, grd_ft, grd_ff, grd_u, pick_true, pick_false, un_not, Bool.not_true, Bool.not_false, Nat.add_zero, Nat.zero_add, Nat.reduceAdd, int_eql, int_neq, int_lss, int_leq, int_gtr, int_geq, rd_go, rdo_cells, rds_go, st_go, sto_cells, stc_ok, stA_go, stAo_all, stAo_allL, rdso_all, upd_push_top, one_int, one_bool, one_ptr, one_slice, one_map, one_func, one_iface, boxM_eq, newC_eq, Value.cells, push_get_new, push_size, upd_size, List.size_toArray, List.toList_toArray, List.length_cons, List.length_nil, List.all_cons, List.all_nil, Bool.and_self, Bool.and_true, decide_eq_true hl']
    have e : codeE code = 5 := by unfold codeE; rw [if_pos hl]
    have := hk H 0 (Ext.refl _ _)
    rw [e] at this; exact this
  · have hl' : ¬ (code.length : Int) > 256 := by omega
    simp only [f147.b, len_slice Tryz.underlying33, nilV_ptr, offV_ptr, opt_some, extV_tuple, List.getElem?_cons_zero, List.getElem?_cons_succ, List.getElem?_toArray, cnd_true, cnd_false, grd_tt, grd_tf, grd_ft, grd_ff, grd_u, pick_true, pick_false, un_not, Bool.not_true, Bool.not_false, Nat.add_zero, Nat.zero_add, Nat.reduceAdd, int_eql, int_neq, int_lss, int_leq, int_gtr, int_geq, rd_go, rdo_cells, rds_go, st_go, sto_cells, stc_ok, stA_go, stAo_all, stAo_allL, rdso_all, upd_push_top, one_int, one_bool, one_ptr, one_slice, one_map, one_func, one_iface, boxM_eq, newC_eq, Value.cells, push_get_new, push_size, upd_size, List.size_toArray, List.toList_toArray, List.length_cons, List.length_nil, List.all_cons, List.all_nil, Bool.and_self, Bool.and_true, decide_eq_false hl']
    exact rcheck_loop (by omega) code.length 0 _ (by omega) (fun j x hj => by omega) hc hk
/-- vm.Check. -/
theorem rvcheck_ok {code : List (Int × Int)} {cv : Value} {cap fuel : Int} {K : Value → HPred} {H : Hp} (hc : Lies H cv 101 2 code.length (code.flatMap encI))
    (hk : ∀ H', Ext0 H H' → K (.int .i64 (gameE code cap fuel)) H') : callF Tryz.prog 88 [.agg #[cv, .int .i64 cap, .int .i64 fuel]] K H := by
  refine f88.call ?_
  have hb := push_new H (.cells #[cv, .int .i64 cap, .int .i64 fuel] 35)
  have hx := ext_push none' H (.cells #[cv, .int .i64 cap, .int .i64 fuel] 35)
  simp only [f88.b, boxM_eq, Value.cells]
  generalize H.push (.cells #[cv, .int .i64 cap, .int .i64 fuel] 35) = G at hb hx
  simp only [nilV_ptr, offV_ptr, opt_some, extV_tuple, List.getElem?_cons_zero, List.getElem?_cons_succ, List.getElem?_toArray, cnd_true, cnd_false, grd_tt, grd_tf, grd_ft, grd_ff, grd_u, pick_true, pick_false, un_not, Bool.not_true, Bool.not_false, Nat.add_zero, Nat.zero_add, Nat.reduceAdd, int_eql, int_neq, int_lss, int_leq, int_gtr, int_geq, rd_go, rdo_cells, rds_go, st_go, sto_cells, stc_ok, stA_go, stAo_all, stAo_allL, rdso_all, upd_push_top, one_int, one_bool, one_ptr, one_slice, one_map, one_func, one_iface, boxM_eq, newC_eq, Value.cells, push_get_new, push_size, upd_size, List.size_toArray, List.toList_toArray, List.length_cons, List.length_nil, List.all_cons, List.all_nil, Bool.and_self, Bool.and_true, hb]
  refine rcheck_ok (hc.ext hx fun _ _ e => e) ?_
  intro U k hxU
  have hbU := hxU.blk hb
  have fin := hk U (hx.trans' hxU)
  unfold gameE at fin
  by_cases c0 : codeE code = 0
  · rw [if_neg (by simpa using c0)] at fin
    by_cases c1 : cap < 1
    · rw [if_pos (.inl c1)] at fin
      simp only [nilV_ptr, offV_ptr, opt_some, extV_tuple, List.getElem?_cons_zero, List.getElem?_cons_succ, List.getElem?_toArray, cnd_true, cnd_false, grd_tt, grd_tf, grd_ft, grd_ff, grd_u, pick_true, pick_false, un_not, Bool.not_true, Bool.not_false, Nat.add_zero, Nat.zero_add, Nat.reduceAdd, int_eql, int_neq, int_lss, int_leq, int_gtr, int_geq, rd_go, rdo_cells, rds_go, st_go, sto_cells, stc_ok, stA_go, stAo_all, stAo_allL, rdso_all, upd_push_top, one_int, one_bool, one_ptr, one_slice, one_map, one_func, one_iface, boxM_eq, newC_eq, Value.cells, push_get_new, push_size, upd_size, List.size_toArray, List.toList_toArray, List.length_cons, List.length_nil, List.all_cons, List.all_nil, Bool.and_self, Bool.and_true, hbU, decide_eq_true c0, decide_eq_true c1]; exact fin
    by_cases c2 : cap > 600
    · rw [if_pos (.inr (.inl c2))] at fin
      simp only [nilV_ptr, offV_ptr, opt_some, extV_tuple, List.getElem?_cons_zero, List.getElem?_cons_succ, List.getElem?_toArray, cnd_true, cnd_false, grd_tt, grd_tf, grd_ft, grd_ff, grd_u, pick_true, pick_false, un_not, Bool.not_true, Bool.not_false, Nat.add_zero, Nat.zero_add, Nat.reduceAdd, int_eql, int_neq, int_lss, int_leq, int_gtr, int_geq, rd_go, rdo_cells, rds_go, st_go, sto_cells, stc_ok, stA_go, stAo_all, stAo_allL, rdso_all, upd_push_top, one_int, one_bool, one_ptr, one_slice, one_map, one_func, one_iface, boxM_eq, newC_eq, Value.cells, push_get_new, push_size, upd_size, List.size_toArray, List.toList_toArray, List.length_cons, List.length_nil, List.all_cons, List.all_nil, Bool.and_self, Bool.and_true, hbU, decide_eq_true c0, decide_eq_false c1, decide_eq_true c2]; exact fin
    by_cases c3 : fuel < 1
    · rw [if_pos (.inr (.inr (.inl c3)))] at fin
      simp only [nilV_ptr, offV_ptr, opt_some, extV_tuple, List.getElem?_cons_zero, List.getElem?_cons_succ, List.getElem?_toArray, cnd_true, cnd_false, grd_tt, grd_tf, grd_ft, grd_ff, grd_u, pick_true, pick_false, un_not, Bool.not_true, Bool.not_false, Nat.add_zero, Nat.zero_add, Nat.reduceAdd, int_eql, int_neq, int_lss, int_leq, int_gtr, int_geq, rd_go, rdo_cells, rds_go, st_go, sto_cells, stc_ok, stA_go, stAo_all, stAo_allL, rdso_all, upd_push_top, one_int, one_bool, one_ptr, one_slice, one_map, one_func, one_iface, boxM_eq, newC_eq, Value.cells, push_get_new, push_size, upd_size, List.size_toArray, List.toList_toArray, List.length_cons, List.length_nil, List.all_cons, List.all_nil, Bool.and_self, Bool.and_true, hbU, decide_eq_true c0, decide_eq_false c1, decide_eq_false c2, decide_eq_true c3]; exact fin
    by_cases c4 : fuel > 2000
    · rw [if_pos (.inr (.inr (.inr c4)))] at fin
      simp only [nilV_ptr, offV_ptr, opt_some, extV_tuple, List.getElem?_cons_zero, List.getElem?_cons_succ, List.getElem?_toArray, cnd_true, cnd_false, grd_tt, grd_tf, grd_ft, grd_ff, grd_u, pick_true, pick_false, un_not, Bool.not_true, Bool.not_false, Nat.add_zero, Nat.zero_add, Nat.reduceAdd, int_eql, int_neq, int_lss, int_leq, int_gtr, int_geq, rd_go, rdo_cells, rds_go, st_go, sto_cells, stc_ok, stA_go, stAo_all, stAo_allL, rdso_all, upd_push_top, one_int, one_bool, one_ptr, one_slice, one_map, one_func, one_iface, boxM_eq, newC_eq, Value.cells, push_get_new, push_size, upd_size, List.size_toArray, List.toList_toArray, List.length_cons, List.length_nil, List.all_cons, List.all_nil, Bool.and_self, Bool.and_true, hbU, decide_eq_true c0, decide_eq_false c1, decide_eq_false c2, decide_eq_false c3, decide_eq_true c4]; exact fin
    · rw [if_neg (by omega)] at fin
      simp only [nilV_ptr, offV_ptr, opt_some, extV_tuple, List.getElem?_cons_zero, List.getElem?_cons_succ, List.getElem?_toArray, cnd_true, cnd_false, grd_tt, grd_tf, grd_ft, grd_ff, grd_u, pick_true, pick_false, un_not, Bool.not_true, Bool.not_false, Nat.add_zero, Nat.zero_add, Nat.reduceAdd, int_eql, int_neq, int_lss, int_leq, int_gtr, int_geq, rd_go, rdo_cells, rds_go, st_go, sto_cells, stc_ok, stA_go, stAo_all, stAo_allL, rdso_all, upd_push_top, one_int, one_bool, one_ptr, one_slice, one_map, one_func, one_iface, boxM_eq, newC_eq, Value.cells, push_get_new, push_size, upd_size, List.size_toArray, List.toList_toArray, List.length_cons, List.length_nil, List.all_cons, List.all_nil, Bool.and_self, Bool.and_true, hbU, decide_eq_true c0, decide_eq_false c1, decide_eq_false c2, decide_eq_false c3, decide_eq_false c4]; exact fin
  · rw [if_pos c0] at fin
    simp only [nilV_ptr, offV_ptr, opt_some, extV_tuple, List.getElem?_cons_zero, List.getElem?_cons_succ, List.getElem?_toArray, cnd_true, cnd_false, grd_tt, grd_tf, grd_ft, grd_ff, grd_u, pick_true, pick_false, un_not, Bool.not_true, Bool.not_false, Nat.add_zero, Nat.zero_add, Nat.reduceAdd, int_eql, int_neq, int_lss, int_leq, int_gtr, int_geq, rd_go, rdo_cells, rds_go, st_go, sto_cells, stc_ok, stA_go, stAo_all, stAo_allL, rdso_all, upd_push_top, one_int, one_bool, one_ptr, one_slice, one_map, one_func, one_iface, boxM_eq, newC_eq, Value.cells, push_get_new, push_size, upd_size, List.size_toArray, List.toList_toArray, List.length_cons, List.length_nil, List.all_cons, List.all_nil, Bool.and_self, Bool.and_true, hbU, decide_eq_false c0]; exact fin
/-- Start. -/
theorem rstart_ok {seed : Int} {K : Value → HPred} {H : Hp} (hk : ∀ H', Ext0 H H' → K (.agg (stateA (startP seed))) H') : callF Tryz.prog 130 [.int .u32 seed] K H := by
  refine f130.call ?_
  have sz : ∀ a : Int, (stateA ⟨0, List.replicate 16 0, a, false, 0⟩).size = 20 := fun a => stateA_size rfl
  by_cases c : seed = 0
  · have e : startP seed = ⟨0, List.replicate 16 0, 1, false, 0⟩ := by unfold startP; rw [if_pos c]
    simp only [f130.b, nilV_ptr, offV_ptr, opt_some, extV_tuple, List.getElem?_cons_zero, List.getElem?_cons_succ, List.getElem?_toArray, cnd_true, cnd_false, grd_tt, grd_tf, grd_ft, grd_ff, grd_u, pick_true, pick_false, un_not, Bool.not_true, Bool.not_false, Nat.add_zero, Nat.zero_add, Nat.reduceAdd, int_eql, int_neq, int_lss, int_leq, int_gtr, int_geq, rd_go, rdo_cells, rds_go, st_go, sto_cells, stc_ok, stA_go, stAo_all, stAo_allL, rdso_all, upd_push_top, one_int, one_bool, one_ptr, one_slice, one_map, one_func, one_iface, boxM_eq, newC_eq, Value.cells, push_get_new, push_size, upd_size, List.size_toArray, List.toList_toArray, List.length_cons, List.length_nil, List.all_cons, List.all_nil, Bool.and_self, Bool.and_true, decide_eq_true c]
    refine f130.b3_ok ?_
    simp (disch := first | assumption | (simp only [List.size_toArray, List.toList_toArray, List.length_cons, List.length_nil, List.all_cons, List.all_nil, oneCell, Bool.and_self, Bool.and_true, Nat.reduceAdd]; done) | (simp only [push_size, upd_size]; done) | (simp only [push_size, upd_size]; omega) | omega) only [f130.b3, bld_start, nilV_ptr, offV_ptr, opt_some, extV_tuple, List.getElem?_cons_zero, List.getElem?_cons_succ, List.getElem?_toArray, cnd_true, cnd_false, grd_tt, grd_tf, grd_ft, grd_ff, grd_u, pick_true, pick_false, un_not, Bool.not_true, Bool.not_false, Nat.add_zero, Nat.zero_add, Nat.reduceAdd, int_eql, int_neq, int_lss, int_leq, int_gtr, int_geq, rd_go, rdo_cells, rds_go, st_go, sto_cells, stc_ok, stA_go, stAo_all, stAo_allL, rdso_all, upd_push_top, one_int, one_bool, one_ptr, one_slice, one_map, one_func, one_iface, boxM_eq, newC_eq, Value.cells, push_get_new, push_size, upd_size, List.size_toArray, List.toList_toArray, List.length_cons, List.length_nil, List.all_cons, List.all_nil, Bool.and_self, Bool.and_true, sz, stateA_all]
    rw [e] at hk
    simp only [nilV_ptr, offV_ptr, opt_some, extV_tuple, List.getElem?_cons_zero, List.getElem?_cons_succ, List.getElem?_toArray, cnd_true, cnd_false, grd_tt, grd_tf, grd_ft, grd_ff, grd_u, pick_true, pick_false, un_not, Bool.not_true, Bool.not_false, Nat.add_zero, Nat.zero_add, Nat.reduceAdd, int_eql, int_neq, int_lss, int_leq, int_gtr, int_geq, rd_go, rdo_cells, rds_go, st_go, sto_cells, stc_ok, stA_go, stAo_all, stAo_allL, rdso_all, upd_push_top, one_int, one_bool, one_ptr, one_slice, one_map, one_func, one_iface, boxM_eq, newC_eq, Value.cells, push_get_new, push_size, upd_size, List.size_toArray, List.toList_toArray, List.length_cons, List.length_nil, List.all_cons, List.all_nil, Bool.and_self, Bool.and_true, sz, stateA_all]
    exact hk _ (ext_push none' _ _)
  · have e : startP seed = ⟨0, List.replicate 16 0, seed, false, 0⟩ := by unfold startP; rw [if_neg c]
    simp only [f130.b, nilV_ptr, offV_ptr, opt_some, extV_tuple, List.getElem?_cons_zero, List.getElem?_cons_succ, List.getElem?_toArray, cnd_true, cnd_false, grd_tt, grd_tf, grd_ft, grd_ff, grd_u, pick_true, pick_false, un_not, Bool.not_true, Bool.not_false, Nat.add_zero, Nat.zero_add, Nat.reduceAdd, int_eql, int_neq, int_lss, int_leq, int_gtr, int_geq, rd_go, rdo_cells, rds_go, st_go, sto_cells, stc_ok, stA_go, stAo_all, stAo_allL, rdso_all, upd_push_top, one_int, one_bool, one_ptr, one_slice, one_map, one_func, one_iface, boxM_eq, newC_eq, Value.cells, push_get_new, push_size, upd_size, List.size_toArray, List.toList_toArray, List.length_cons, List.length_nil, List.all_cons, List.all_nil, Bool.and_self, Bool.and_true, decide_eq_false c]
    refine f130.b3_ok ?_
    simp (disch := first | assumption | (simp only [List.size_toArray, List.toList_toArray, List.length_cons, List.length_nil, List.all_cons, List.all_nil, oneCell, Bool.and_self, Bool.and_true, Nat.reduceAdd]; done) | (simp only [push_size, upd_size]; done) | (simp only [push_size, upd_size]; omega) | omega) only [f130.b3, bld_start, nilV_ptr, offV_ptr, opt_some, extV_tuple, List.getElem?_cons_zero, List.getElem?_cons_succ, List.getElem?_toArray, cnd_true, cnd_false, grd_tt, grd_tf, grd_ft, grd_ff, grd_u, pick_true, pick_false, un_not, Bool.not_true, Bool.not_false, Nat.add_zero, Nat.zero_add, Nat.reduceAdd, int_eql, int_neq, int_lss, int_leq, int_gtr, int_geq, rd_go, rdo_cells, rds_go, st_go, sto_cells, stc_ok, stA_go, stAo_all, stAo_allL, rdso_all, upd_push_top, one_int, one_bool, one_ptr, one_slice, one_map, one_func, one_iface, boxM_eq, newC_eq, Value.cells, push_get_new, push_size, upd_size, List.size_toArray, List.toList_toArray, List.length_cons, List.length_nil, List.all_cons, List.all_nil, Bool.and_self, Bool.and_true, sz, stateA_all]
    rw [e] at hk
    simp only [nilV_ptr, offV_ptr, opt_some, extV_tuple, List.getElem?_cons_zero, List.getElem?_cons_succ, List.getElem?_toArray, cnd_true, cnd_false, grd_tt, grd_tf, grd_ft, grd_ff, grd_u, pick_true, pick_false, un_not, Bool.not_true, Bool.not_false, Nat.add_zero, Nat.zero_add, Nat.reduceAdd, int_eql, int_neq, int_lss, int_leq, int_gtr, int_geq, rd_go, rdo_cells, rds_go, st_go, sto_cells, stc_ok, stA_go, stAo_all, stAo_allL, rdso_all, upd_push_top, one_int, one_bool, one_ptr, one_slice, one_map, one_func, one_iface, boxM_eq, newC_eq, Value.cells, push_get_new, push_size, upd_size, List.size_toArray, List.toList_toArray, List.length_cons, List.length_nil, List.all_cons, List.all_nil, Bool.and_self, Bool.and_true, sz, stateA_all]
    exact hk _ (ext_push none' _ _)

end Go.Proofs.YtnnheophehnioaaGreat
namespace Go.Proofs.YtnnheophehnioaaGreat
open Go.Sx Go.Proofs Go.Gm
set_option maxRecDepth 100000

def rconL (c : Ct) (v0 v1 v2 v3 : Value) : List Value :=
  [v0, .int .i64 c.cap, .int .i64 c.fuel, v1, v2, v3, .int .i64 c.p0, .int .i64 c.p1, .int .u32 c.seed, .int .i64 c.l0, .int .i64 c.l1, .bool c.opened, .bool c.over, .int .i64 c.winner, .int .i64 c.why]
def rconO (c : Ct) (v0 v1 v2 v3 : Value) : Obj := .cells (rconL c v0 v1 v2 v3).toArray 171 (0, 0)
/-- The reference's match at q. -/
def rconS (q : Nat) (c : Ct) : SP :=
  SP.ex fun v0 => SP.ex fun v1 => SP.ex fun v2 => SP.ex fun v3 =>
    (sliS v1 53 6 c.evs.length (c.evs.flatMap evL) * (blkS q (rconO c v0 v1 v2 v3) * (sliS v0 101 2 c.code.length (c.code.flatMap encI) * (sliS v2 51 1 c.in0.length (c.in0.flatMap u16L) * sliS v3 51 1 c.in1.length (c.in1.flatMap u16L)))))
section
variable {q : Nat} {c : Ct} {R : SP} {F : Nat → Prop} {H : Hp}
theorem rconS_open (h : (rconS q c * R).holds F H) : ∃ v0 v1 v2 v3,
    (sliS v1 53 6 c.evs.length (c.evs.flatMap evL) * (blkS q (rconO c v0 v1 v2 v3) * (sliS v0 101 2 c.code.length (c.code.flatMap encI) * (sliS v2 51 1 c.in0.length (c.in0.flatMap u16L) * (sliS v3 51 1 c.in1.length (c.in1.flatMap u16L) * R))))).holds F H := by
  unfold rconS at h
  simp only [SP.ex_star] at h
  obtain ⟨v0, v1, v2, v3, h⟩ := h
  exact ⟨v0, v1, v2, v3, by simpa only [SP.assoc] using h⟩
theorem rconS_mk {v0 v1 v2 v3 : Value}
    (h : (sliS v1 53 6 c.evs.length (c.evs.flatMap evL) * (blkS q (rconO c v0 v1 v2 v3) * (sliS v0 101 2 c.code.length (c.code.flatMap encI) * (sliS v2 51 1 c.in0.length (c.in0.flatMap u16L) * (sliS v3 51 1 c.in1.length (c.in1.flatMap u16L) * R))))).holds F H) : (rconS q c * R).holds F H := by
  unfold rconS
  simp only [SP.ex_star]
  exact ⟨v0, v1, v2, v3, by simpa only [SP.assoc] using h⟩
theorem rcon_get (h : (rconS q c * R).holds F H) : ∃ v0 v1 v2 v3, H[q]? = some (.cells (rconL c v0 v1 v2 v3).toArray 171 (0, 0)) ∧ Lies H v0 101 2 c.code.length (c.code.flatMap encI) ∧
    Lies H v2 51 1 c.in0.length (c.in0.flatMap u16L) ∧ Lies H v3 51 1 c.in1.length (c.in1.flatMap u16L) := by
  obtain ⟨v0, v1, v2, v3, h⟩ := rconS_open h
  obtain ⟨F1, h1, -⟩ := SP.right h
  refine ⟨v0, v1, v2, v3, blk_get h1, ?_⟩
  obtain ⟨F2, h2, -⟩ := SP.right h1
  refine ⟨sli_lies h2, ?_⟩
  obtain ⟨F3, h3, -⟩ := SP.right h2
  refine ⟨sli_lies h3, ?_⟩
  obtain ⟨F4, h4, -⟩ := SP.right h3
  exact sli_lies h4
theorem bld_rcon (a : Option Addr) (n k : Nat) (cap fuel : Int) : pureRun Tryz.prog (Instr.build 171 #[(0, .agg #[.slice a n k, .int .i64 cap, .int .i64 fuel])]) =
    some (.agg (rconL (Ct.new [] cap fuel) (.slice a n k) (.slice none 0 0) (.slice none 0 0) (.slice none 0 0)).toArray) := by kernel_rfl
/-- New. -/
theorem rcnew_ok {code : List (Int × Int)} {cv : Value} {cap fuel : Int} (h : (sliS cv 101 2 code.length (code.flatMap encI) * R).holds F H) {K : Value → HPred} (hg : gameE code cap fuel = 0)
    (hk : ∀ H' F' q, H.size ≤ q → (rconS q (Ct.new code cap fuel) * R).holds F' H' → Gr F H F' H' → K (.tuple #[ptrQ q, .int .i64 0]) H') : callF Tryz.prog 63 [.agg #[cv, .int .i64 cap, .int .i64 fuel]] K H := by
  have hl := sli_lies h
  obtain ⟨a, ccap, rfl⟩ := hl.shape
  refine f63.call ?_
  simp (disch := first | assumption | (simp only [List.size_toArray, List.toList_toArray, List.length_cons, List.length_nil, List.all_cons, List.all_nil, oneCell, Bool.and_self, Bool.and_true, Nat.reduceAdd]; done) | (simp only [push_size, upd_size]; done) | (simp only [push_size, upd_size]; omega) | omega) only [f63.b, nilV_ptr, offV_ptr, opt_some, extV_tuple, List.getElem?_cons_zero, List.getElem?_cons_succ, List.getElem?_toArray, cnd_true, cnd_false, grd_tt, grd_tf, grd_ft, grd_ff, grd_u, pick_true, pick_false, un_not, Bool.not_true, Bool.not_false, Nat.add_zero, Nat.zero_add, Nat.reduceAdd, int_eql, int_neq, int_lss, int_leq, int_gtr, int_geq, rd_go, rdo_cells, rds_go, st_go, sto_cells, stc_ok, stA_go, stAo_all, stAo_allL, rdso_all, upd_push_top, one_int, one_bool, one_ptr, one_slice, one_map, one_func, one_iface, boxM_eq, newC_eq, Value.cells, push_get_new, push_size, upd_size, List.size_toArray, List.toList_toArray, List.length_cons, List.length_nil, List.all_cons, List.all_nil, Bool.and_self, Bool.and_true, push_get_old, push_get_eq, upd_push_old, upd_push_eq, upd_get_self, upd_get_ne]
  have hx1 := ext_push none' H (.cells #[.slice a code.length ccap, .int .i64 cap, .int .i64 fuel] 35)
  have hb1 := push_new H (.cells #[.slice a code.length ccap, .int .i64 cap, .int .i64 fuel] 35)
  refine rvcheck_ok (hl.ext hx1 fun _ _ e => e) fun H2 hx2 => ?_
  have hb2 := hx2.blk hb1
  have hx02 := hx1.trans' hx2
  rw [hg]
  simp (disch := first | assumption | (simp only [List.size_toArray, List.toList_toArray, List.length_cons, List.length_nil, List.all_cons, List.all_nil, oneCell, Bool.and_self, Bool.and_true, Nat.reduceAdd]; done) | (simp only [push_size, upd_size]; done) | (simp only [push_size, upd_size]; omega) | omega) only [nilV_ptr, offV_ptr, opt_some, extV_tuple, List.getElem?_cons_zero, List.getElem?_cons_succ, List.getElem?_toArray, cnd_true, cnd_false, grd_tt, grd_tf, grd_ft, grd_ff, grd_u, pick_true, pick_false, un_not, Bool.not_true, Bool.not_false, Nat.add_zero, Nat.zero_add, Nat.reduceAdd, int_eql, int_neq, int_lss, int_leq, int_gtr, int_geq, rd_go, rdo_cells, rds_go, st_go, sto_cells, stc_ok, stA_go, stAo_all, stAo_allL, rdso_all, upd_push_top, one_int, one_bool, one_ptr, one_slice, one_map, one_func, one_iface, boxM_eq, newC_eq, Value.cells, push_get_new, push_size, upd_size, List.size_toArray, List.toList_toArray, List.length_cons, List.length_nil, List.all_cons, List.all_nil, Bool.and_self, Bool.and_true, decide_true, hb2]
  simp only [rdso_all (show (#[.slice a code.length ccap, .int .i64 cap, .int .i64 fuel] : Array Value).size = 3 from rfl), bld_rcon, nilV_ptr, offV_ptr, opt_some, extV_tuple, List.getElem?_cons_zero, List.getElem?_cons_succ, List.getElem?_toArray, cnd_true, cnd_false, grd_tt, grd_tf, grd_ft, grd_ff, grd_u, pick_true, pick_false, un_not, Bool.not_true, Bool.not_false, Nat.add_zero, Nat.zero_add, Nat.reduceAdd, int_eql, int_neq, int_lss, int_leq, int_gtr, int_geq, rd_go, rdo_cells, rds_go, st_go, sto_cells, stc_ok, stA_go, stAo_all, stAo_allL, rdso_all, upd_push_top, one_int, one_bool, one_ptr, one_slice, one_map, one_func, one_iface, boxM_eq, newC_eq, Value.cells, push_get_new, push_size, upd_size, List.size_toArray, List.toList_toArray, List.length_cons, List.length_nil, List.all_cons, List.all_nil, Bool.and_self, Bool.and_true]
  obtain ⟨h2, g2⟩ := SP.ext0 h hx02
  obtain ⟨F3, h3, g3⟩ := blk_new h2 (rconO (Ct.new code cap fuel) (.slice a code.length ccap) (.slice none 0 0) (.slice none 0 0) (.slice none 0 0))
  refine hk _ F3 H2.size hx02.size (rconS_mk (v0 := .slice a code.length ccap) (v1 := .slice none 0 0) (v2 := .slice none 0 0) (v3 := .slice none 0 0) ?_) (g2.trans g3)
  show (sliS (.slice none 0 0) _ _ 0 [] * (_ * (_ * (sliS (.slice none 0 0) _ _ 0 [] * (sliS (.slice none 0 0) _ _ 0 [] * R))))).holds _ _
  simp only [sli_emp, SP.emp_star]
  exact h3
def seatP (c : Ct) (pl : Int) : Int := if c.p0 = pl then 0 else if c.p1 = pl then 1 else -1
/-- Seat. -/
theorem rseat_ok (h : (rconS q c * R).holds F H) (pl : Int) {K : Value → HPred} (hk : K (.int .i64 (if c.opened then seatP c pl else -1)) H) : callF Tryz.prog 83 [ptrQ q, .int .i64 pl] K H := by
  obtain ⟨v0, v1, v2, v3, hb, -⟩ := rcon_get h
  refine f83.call ?_
  unfold f83.b
  refine f83.b2_ok ?_
  have i0 : idxA (.pointer (some ⟨q, 6, none⟩)) (.int .i64 0) 2 1 = some (.pointer (some ⟨q, 6, none⟩)) := idxA_eq (by omega) (by omega)
  have i1 : idxA (.pointer (some ⟨q, 6, none⟩)) (.int .i64 1) 2 1 = some (.pointer (some ⟨q, 7, none⟩)) := idxA_eq (by omega) (by omega)
  unfold seatP at hk
  have d1 : decide ((0 : Int) < 2) = true := by decide
  have d2 : decide ((1 : Int) < 2) = true := by decide
  have d3 : decide ((2 : Int) < 2) = false := by decide
  cases ho : c.opened with
  | false =>
    rw [ho] at hk
    simp only [f83.b2, ptrQ, nilV_ptr, offV_ptr, opt_some, extV_tuple, List.getElem?_cons_zero, List.getElem?_cons_succ, List.getElem?_toArray, cnd_true, cnd_false, grd_tt, grd_tf, grd_ft, grd_ff, grd_u, pick_true, pick_false, un_not, Bool.not_true, Bool.not_false, Nat.add_zero, Nat.zero_add, Nat.reduceAdd, int_eql, int_neq, int_lss, int_leq, int_gtr, int_geq, rd_go, rdo_cells, rds_go, st_go, sto_cells, stc_ok, stA_go, stAo_all, stAo_allL, rdso_all, upd_push_top, one_int, one_bool, one_ptr, one_slice, one_map, one_func, one_iface, boxM_eq, newC_eq, Value.cells, push_get_new, push_size, upd_size, List.size_toArray, List.toList_toArray, List.length_cons, List.length_nil, List.all_cons, List.all_nil, Bool.and_self, Bool.and_true, hb, rconL, ho]
    exact hk
  | true =>
    rw [ho] at hk
    simp only [if_true] at hk
    by_cases c0 : c.p0 = pl
    · rw [if_pos c0] at hk
      simp only [f83.b2, ptrQ, nilV_ptr, offV_ptr, opt_some, extV_tuple, List.getElem?_cons_zero, List.getElem?_cons_succ, List.getElem?_toArray, cnd_true, cnd_false, grd_tt, grd_tf, grd_ft, grd_ff, grd_u, pick_true, pick_false, un_not, Bool.not_true, Bool.not_false, Nat.add_zero, Nat.zero_add, Nat.reduceAdd, int_eql, int_neq, int_lss, int_leq, int_gtr, int_geq, rd_go, rdo_cells, rds_go, st_go, sto_cells, stc_ok, stA_go, stAo_all, stAo_allL, rdso_all, upd_push_top, one_int, one_bool, one_ptr, one_slice, one_map, one_func, one_iface, boxM_eq, newC_eq, Value.cells, push_get_new, push_size, upd_size, List.size_toArray, List.toList_toArray, List.length_cons, List.length_nil, List.all_cons, List.all_nil, Bool.and_self, Bool.and_true, hb, rconL, ho, d1, i0, decide_eq_true c0]
      exact hk
    · rw [if_neg c0] at hk
      have w1 : IntKind.i64.wrap (0 + 1) = 1 := rfl
      have w2 : IntKind.i64.wrap (1 + 1) = 2 := rfl
      simp only [f83.b2, ptrQ, nilV_ptr, offV_ptr, opt_some, extV_tuple, List.getElem?_cons_zero, List.getElem?_cons_succ, List.getElem?_toArray, cnd_true, cnd_false, grd_tt, grd_tf, grd_ft, grd_ff, grd_u, pick_true, pick_false, un_not, Bool.not_true, Bool.not_false, Nat.add_zero, Nat.zero_add, Nat.reduceAdd, int_eql, int_neq, int_lss, int_leq, int_gtr, int_geq, rd_go, rdo_cells, rds_go, st_go, sto_cells, stc_ok, stA_go, stAo_all, stAo_allL, rdso_all, upd_push_top, one_int, one_bool, one_ptr, one_slice, one_map, one_func, one_iface, boxM_eq, newC_eq, Value.cells, push_get_new, push_size, upd_size, List.size_toArray, List.toList_toArray, List.length_cons, List.length_nil, List.all_cons, List.all_nil, Bool.and_self, Bool.and_true, hb, rconL, ho, d1, i0, decide_eq_false c0, int_add, w1]
      refine f83.b2_ok ?_
      by_cases c1 : c.p1 = pl
      · rw [if_pos c1] at hk
        simp only [f83.b2, ptrQ, nilV_ptr, offV_ptr, opt_some, extV_tuple, List.getElem?_cons_zero, List.getElem?_cons_succ, List.getElem?_toArray, cnd_true, cnd_false, grd_tt, grd_tf, grd_ft, grd_ff, grd_u, pick_true, pick_false, un_not, Bool.not_true, Bool.not_false, Nat.add_zero, Nat.zero_add, Nat.reduceAdd, int_eql, int_neq, int_lss, int_leq, int_gtr, int_geq, rd_go, rdo_cells, rds_go, st_go, sto_cells, stc_ok, stA_go, stAo_all, stAo_allL, rdso_all, upd_push_top, one_int, one_bool, one_ptr, one_slice, one_map, one_func, one_iface, boxM_eq, newC_eq, Value.cells, push_get_new, push_size, upd_size, List.size_toArray, List.toList_toArray, List.length_cons, List.length_nil, List.all_cons, List.all_nil, Bool.and_self, Bool.and_true, hb, rconL, ho, d2, i1, decide_eq_true c1]
        exact hk
      · rw [if_neg c1] at hk
        simp only [f83.b2, ptrQ, nilV_ptr, offV_ptr, opt_some, extV_tuple, List.getElem?_cons_zero, List.getElem?_cons_succ, List.getElem?_toArray, cnd_true, cnd_false, grd_tt, grd_tf, grd_ft, grd_ff, grd_u, pick_true, pick_false, un_not, Bool.not_true, Bool.not_false, Nat.add_zero, Nat.zero_add, Nat.reduceAdd, int_eql, int_neq, int_lss, int_leq, int_gtr, int_geq, rd_go, rdo_cells, rds_go, st_go, sto_cells, stc_ok, stA_go, stAo_all, stAo_allL, rdso_all, upd_push_top, one_int, one_bool, one_ptr, one_slice, one_map, one_func, one_iface, boxM_eq, newC_eq, Value.cells, push_get_new, push_size, upd_size, List.size_toArray, List.toList_toArray, List.length_cons, List.length_nil, List.all_cons, List.all_nil, Bool.and_self, Bool.and_true, hb, rconL, ho, d2, i1, decide_eq_false c1, int_add, w2]
        refine f83.b2_ok ?_
        simp only [f83.b2, ptrQ, nilV_ptr, offV_ptr, opt_some, extV_tuple, List.getElem?_cons_zero, List.getElem?_cons_succ, List.getElem?_toArray, cnd_true, cnd_false, grd_tt, grd_tf, grd_ft, grd_ff, grd_u, pick_true, pick_false, un_not, Bool.not_true, Bool.not_false, Nat.add_zero, Nat.zero_add, Nat.reduceAdd, int_eql, int_neq, int_lss, int_leq, int_gtr, int_geq, rd_go, rdo_cells, rds_go, st_go, sto_cells, stc_ok, stA_go, stAo_all, stAo_allL, rdso_all, upd_push_top, one_int, one_bool, one_ptr, one_slice, one_map, one_func, one_iface, boxM_eq, newC_eq, Value.cells, push_get_new, push_size, upd_size, List.size_toArray, List.toList_toArray, List.length_cons, List.length_nil, List.all_cons, List.all_nil, Bool.and_self, Bool.and_true, hb, rconL, ho, d3]
        exact hk
theorem bs_state {s : St} (hs : s.cells.length = 16) (K : Value → HPred) (H : Hp) : tot Tryz.prog (Instr.buildSlice 224 1 #[(0, .agg (stateA s))]) K H = K (.slice (some ⟨H.size, 0, none⟩) 1 1) (H.push (.cells (stateA s) 91)) := by
  obtain ⟨a0, a1, a2, a3, a4, a5, a6, a7, a8, a9, aa, ab, ac, ad, ae, af, e⟩ := sixteen hs
  obtain ⟨f, cc, sd, o, w⟩ := s
  simp only at e
  subst e
  kernel_rfl
/-- Pairs, where nobody has done anything. -/
theorem rpairs0_ok (h : (rconS q c * R).holds F H) (h0 : c.in0 = []) {K : Value → HPred} (hk : ∀ H', Ext0 H H' → K (.slice none 0 0) H') : callF Tryz.prog 86 [ptrQ q] K H := by
  obtain ⟨v0, v1, v2, v3, hb, -, hl, -⟩ := rcon_get h
  refine f86.call ?_
  simp only [f86.b, ptrQ, nilV_ptr, offV_ptr, opt_some, extV_tuple, List.getElem?_cons_zero, List.getElem?_cons_succ, List.getElem?_toArray, cnd_true, cnd_false, grd_tt, grd_tf, grd_ft, grd_ff, grd_u, pick_true, pick_false, un_not, Bool.not_true, Bool.not_false, Nat.add_zero, Nat.zero_add, Nat.reduceAdd, int_eql, int_neq, int_lss, int_leq, int_gtr, int_geq, rd_go, rdo_cells, rds_go, st_go, sto_cells, stc_ok, stA_go, stAo_all, stAo_allL, rdso_all, upd_push_top, one_int, one_bool, one_ptr, one_slice, one_map, one_func, one_iface, boxM_eq, newC_eq, Value.cells, push_get_new, push_size, upd_size, List.size_toArray, List.toList_toArray, List.length_cons, List.length_nil, List.all_cons, List.all_nil, Bool.and_self, Bool.and_true, hb, rconL]
  refine rstart_ok fun H1 hx1 => ?_
  have hb1 := hx1.blk hb
  have sz := stateA_size (startP_len c.seed)
  simp (disch := first | assumption | (simp only [List.size_toArray, List.toList_toArray, List.length_cons, List.length_nil, List.all_cons, List.all_nil, oneCell, Bool.and_self, Bool.and_true, Nat.reduceAdd]; done) | (simp only [push_size, upd_size]; done) | (simp only [push_size, upd_size]; omega) | omega) only [nilV_ptr, offV_ptr, opt_some, extV_tuple, List.getElem?_cons_zero, List.getElem?_cons_succ, List.getElem?_toArray, cnd_true, cnd_false, grd_tt, grd_tf, grd_ft, grd_ff, grd_u, pick_true, pick_false, un_not, Bool.not_true, Bool.not_false, Nat.add_zero, Nat.zero_add, Nat.reduceAdd, int_eql, int_neq, int_lss, int_leq, int_gtr, int_geq, rd_go, rdo_cells, rds_go, st_go, sto_cells, stc_ok, stA_go, stAo_all, stAo_allL, rdso_all, upd_push_top, one_int, one_bool, one_ptr, one_slice, one_map, one_func, one_iface, boxM_eq, newC_eq, Value.cells, push_get_new, push_size, upd_size, List.size_toArray, List.toList_toArray, List.length_cons, List.length_nil, List.all_cons, List.all_nil, Bool.and_self, Bool.and_true, sz, stateA_all]
  refine f86.b4_ok ?_
  have hlt := blk_lt hb1
  have i0 : idxA (.pointer (some ⟨q, 4, none⟩)) (.int .i64 0) 2 1 = some (.pointer (some ⟨q, 4, none⟩)) := idxA_eq (by omega) (by omega)
  rw [h0] at hl
  obtain ⟨a, cap, rfl⟩ := hl.shape
  simp (disch := first | assumption | (simp only [List.size_toArray, List.toList_toArray, List.length_cons, List.length_nil, List.all_cons, List.all_nil, oneCell, Bool.and_self, Bool.and_true, Nat.reduceAdd]; done) | (simp only [push_size, upd_size]; done) | (simp only [push_size, upd_size]; omega) | omega) only [f86.b4, nilV_ptr, offV_ptr, opt_some, extV_tuple, List.getElem?_cons_zero, List.getElem?_cons_succ, List.getElem?_toArray, cnd_true, cnd_false, grd_tt, grd_tf, grd_ft, grd_ff, grd_u, pick_true, pick_false, un_not, Bool.not_true, Bool.not_false, Nat.add_zero, Nat.zero_add, Nat.reduceAdd, int_eql, int_neq, int_lss, int_leq, int_gtr, int_geq, rd_go, rdo_cells, rds_go, st_go, sto_cells, stc_ok, stA_go, stAo_all, stAo_allL, rdso_all, upd_push_top, one_int, one_bool, one_ptr, one_slice, one_map, one_func, one_iface, boxM_eq, newC_eq, Value.cells, push_get_new, push_size, upd_size, List.size_toArray, List.toList_toArray, List.length_cons, List.length_nil, List.all_cons, List.all_nil, Bool.and_self, Bool.and_true, push_get_old, push_get_eq, upd_push_old, upd_push_eq, upd_get_self, upd_get_ne, hb1, rconL, i0, len_slice Tryz.underlying93]
  have d : decide ((0 : Int) < ((0 : Nat) : Int)) = false := by decide
  simp only [d, nilV_ptr, offV_ptr, opt_some, extV_tuple, List.getElem?_cons_zero, List.getElem?_cons_succ, List.getElem?_toArray, cnd_true, cnd_false, grd_tt, grd_tf, grd_ft, grd_ff, grd_u, pick_true, pick_false, un_not, Bool.not_true, Bool.not_false, Nat.add_zero, Nat.zero_add, Nat.reduceAdd, int_eql, int_neq, int_lss, int_leq, int_gtr, int_geq, rd_go, rdo_cells, rds_go, st_go, sto_cells, stc_ok, stA_go, stAo_all, stAo_allL, rdso_all, upd_push_top, one_int, one_bool, one_ptr, one_slice, one_map, one_func, one_iface, boxM_eq, newC_eq, Value.cells, push_get_new, push_size, upd_size, List.size_toArray, List.toList_toArray, List.length_cons, List.length_nil, List.all_cons, List.all_nil, Bool.and_self, Bool.and_true]
  exact hk _ (hx1.trans' (ext_push none' _ _))
/-- States of no inputs. -/
theorem rstates0_ok {code : List (Int × Int)} {cv : Value} {cap fuel seed : Int} (hl : Lies H cv 101 2 code.length (code.flatMap encI)) (hg : gameE code cap fuel = 0) {K : Value → HPred}
    (hk : ∀ H' b, Ext0 H H' → H'[b]? = some (.cells (stateA (startP seed)) 91 (0, 0)) → K (.tuple #[.slice (some ⟨b, 0, none⟩) 1 1, .int .i64 0]) H') :
    callF Tryz.prog 129 [.agg #[cv, .int .i64 cap, .int .i64 fuel], .int .u32 seed, .slice none 0 0] K H := by
  refine f129.call ?_
  simp (disch := first | assumption | (simp only [List.size_toArray, List.toList_toArray, List.length_cons, List.length_nil, List.all_cons, List.all_nil, oneCell, Bool.and_self, Bool.and_true, Nat.reduceAdd]; done) | (simp only [push_size, upd_size]; done) | (simp only [push_size, upd_size]; omega) | omega) only [f129.b, nilV_ptr, offV_ptr, opt_some, extV_tuple, List.getElem?_cons_zero, List.getElem?_cons_succ, List.getElem?_toArray, cnd_true, cnd_false, grd_tt, grd_tf, grd_ft, grd_ff, grd_u, pick_true, pick_false, un_not, Bool.not_true, Bool.not_false, Nat.add_zero, Nat.zero_add, Nat.reduceAdd, int_eql, int_neq, int_lss, int_leq, int_gtr, int_geq, rd_go, rdo_cells, rds_go, st_go, sto_cells, stc_ok, stA_go, stAo_all, stAo_allL, rdso_all, upd_push_top, one_int, one_bool, one_ptr, one_slice, one_map, one_func, one_iface, boxM_eq, newC_eq, Value.cells, push_get_new, push_size, upd_size, List.size_toArray, List.toList_toArray, List.length_cons, List.length_nil, List.all_cons, List.all_nil, Bool.and_self, Bool.and_true, push_get_old, push_get_eq, upd_push_old, upd_push_eq, upd_get_self, upd_get_ne]
  have hx1 := ext_push none' H (.cells #[cv, .int .i64 cap, .int .i64 fuel] 35)
  refine rvcheck_ok (hl.ext hx1 fun _ _ e => e) fun H2 hx2 => ?_
  rw [hg]
  simp only [nilV_ptr, offV_ptr, opt_some, extV_tuple, List.getElem?_cons_zero, List.getElem?_cons_succ, List.getElem?_toArray, cnd_true, cnd_false, grd_tt, grd_tf, grd_ft, grd_ff, grd_u, pick_true, pick_false, un_not, Bool.not_true, Bool.not_false, Nat.add_zero, Nat.zero_add, Nat.reduceAdd, int_eql, int_neq, int_lss, int_leq, int_gtr, int_geq, rd_go, rdo_cells, rds_go, st_go, sto_cells, stc_ok, stA_go, stAo_all, stAo_allL, rdso_all, upd_push_top, one_int, one_bool, one_ptr, one_slice, one_map, one_func, one_iface, boxM_eq, newC_eq, Value.cells, push_get_new, push_size, upd_size, List.size_toArray, List.toList_toArray, List.length_cons, List.length_nil, List.all_cons, List.all_nil, Bool.and_self, Bool.and_true, decide_true]
  refine rstart_ok fun H3 hx3 => ?_
  have sz := stateA_size (startP_len seed)
  have al := @stateA_all (startP seed)
  simp (disch := first | assumption | (simp only [List.size_toArray, List.toList_toArray, List.length_cons, List.length_nil, List.all_cons, List.all_nil, oneCell, Bool.and_self, Bool.and_true, Nat.reduceAdd]; done) | (simp only [push_size, upd_size]; done) | (simp only [push_size, upd_size]; omega) | omega) only [nilV_ptr, offV_ptr, opt_some, extV_tuple, List.getElem?_cons_zero, List.getElem?_cons_succ, List.getElem?_toArray, cnd_true, cnd_false, grd_tt, grd_tf, grd_ft, grd_ff, grd_u, pick_true, pick_false, un_not, Bool.not_true, Bool.not_false, Nat.add_zero, Nat.zero_add, Nat.reduceAdd, int_eql, int_neq, int_lss, int_leq, int_gtr, int_geq, rd_go, rdo_cells, rds_go, st_go, sto_cells, stc_ok, stA_go, stAo_all, stAo_allL, rdso_all, upd_push_top, one_int, one_bool, one_ptr, one_slice, one_map, one_func, one_iface, boxM_eq, newC_eq, Value.cells, push_get_new, push_size, upd_size, List.size_toArray, List.toList_toArray, List.length_cons, List.length_nil, List.all_cons, List.all_nil, Bool.and_self, Bool.and_true, sz, stateA_all, bs_state (startP_len seed)]
  refine f129.b7_ok ?_
  simp (disch := first | assumption | (simp only [List.size_toArray, List.toList_toArray, List.length_cons, List.length_nil, List.all_cons, List.all_nil, oneCell, Bool.and_self, Bool.and_true, Nat.reduceAdd]; done) | (simp only [push_size, upd_size]; done) | (simp only [push_size, upd_size]; omega) | omega) only [f129.b7, nilV_ptr, offV_ptr, opt_some, extV_tuple, List.getElem?_cons_zero, List.getElem?_cons_succ, List.getElem?_toArray, cnd_true, cnd_false, grd_tt, grd_tf, grd_ft, grd_ff, grd_u, pick_true, pick_false, un_not, Bool.not_true, Bool.not_false, Nat.add_zero, Nat.zero_add, Nat.reduceAdd, int_eql, int_neq, int_lss, int_leq, int_gtr, int_geq, rd_go, rdo_cells, rds_go, st_go, sto_cells, stc_ok, stA_go, stAo_all, stAo_allL, rdso_all, upd_push_top, one_int, one_bool, one_ptr, one_slice, one_map, one_func, one_iface, boxM_eq, newC_eq, Value.cells, push_get_new, push_size, upd_size, List.size_toArray, List.toList_toArray, List.length_cons, List.length_nil, List.all_cons, List.all_nil, Bool.and_self, Bool.and_true, len_slice Tryz.underlying95]
  have d : decide ((0 : Int) < ((0 : Nat) : Int)) = false := by decide
  simp only [d, nilV_ptr, offV_ptr, opt_some, extV_tuple, List.getElem?_cons_zero, List.getElem?_cons_succ, List.getElem?_toArray, cnd_true, cnd_false, grd_tt, grd_tf, grd_ft, grd_ff, grd_u, pick_true, pick_false, un_not, Bool.not_true, Bool.not_false, Nat.add_zero, Nat.zero_add, Nat.reduceAdd, int_eql, int_neq, int_lss, int_leq, int_gtr, int_geq, rd_go, rdo_cells, rds_go, st_go, sto_cells, stc_ok, stA_go, stAo_all, stAo_allL, rdso_all, upd_push_top, one_int, one_bool, one_ptr, one_slice, one_map, one_func, one_iface, boxM_eq, newC_eq, Value.cells, push_get_new, push_size, upd_size, List.size_toArray, List.toList_toArray, List.length_cons, List.length_nil, List.all_cons, List.all_nil, Bool.and_self, Bool.and_true]
  refine hk _ _ (hx1.trans' (hx2.trans' (hx3.trans' ((ext_push none' _ _).trans' (ext_push none' _ _))))) ?_
  simp (disch := first | assumption | (simp only [List.size_toArray, List.toList_toArray, List.length_cons, List.length_nil, List.all_cons, List.all_nil, oneCell, Bool.and_self, Bool.and_true, Nat.reduceAdd]; done) | (simp only [push_size, upd_size]; done) | (simp only [push_size, upd_size]; omega) | omega) only [push_get_old, push_get_eq, upd_push_old, upd_push_eq, upd_get_self, upd_get_ne]
/-- Play of no inputs. -/
theorem rplay0_ok {code : List (Int × Int)} {cv : Value} {cap fuel seed : Int} (hl : Lies H cv 101 2 code.length (code.flatMap encI)) (hg : gameE code cap fuel = 0) {K : Value → HPred}
    (hk : ∀ H', Ext0 H H' → K (.tuple #[.agg (stateA (startP seed)), .int .i64 0]) H') :
    callF Tryz.prog 85 [.agg #[cv, .int .i64 cap, .int .i64 fuel], .int .u32 seed, .slice none 0 0] K H := by
  refine f85.call ?_
  have n1 : H.size ≠ (H.push (.cells #[cv, .int .i64 cap, .int .i64 fuel] 35)).size := by simp
  simp (disch := first | assumption | (simp only [List.size_toArray, List.toList_toArray, List.length_cons, List.length_nil, List.all_cons, List.all_nil, oneCell, Bool.and_self, Bool.and_true, Nat.reduceAdd]; done) | (simp only [push_size, upd_size]; done) | (simp only [push_size, upd_size]; omega) | omega) only [f85.b, nilV_ptr, offV_ptr, opt_some, extV_tuple, List.getElem?_cons_zero, List.getElem?_cons_succ, List.getElem?_toArray, cnd_true, cnd_false, grd_tt, grd_tf, grd_ft, grd_ff, grd_u, pick_true, pick_false, un_not, Bool.not_true, Bool.not_false, Nat.add_zero, Nat.zero_add, Nat.reduceAdd, int_eql, int_neq, int_lss, int_leq, int_gtr, int_geq, rd_go, rdo_cells, rds_go, st_go, sto_cells, stc_ok, stA_go, stAo_all, stAo_allL, rdso_all, upd_push_top, one_int, one_bool, one_ptr, one_slice, one_map, one_func, one_iface, boxM_eq, newC_eq, Value.cells, push_get_new, push_size, upd_size, List.size_toArray, List.toList_toArray, List.length_cons, List.length_nil, List.all_cons, List.all_nil, Bool.and_self, Bool.and_true, push_get_old, push_get_eq, upd_push_old, upd_push_eq, upd_get_self, upd_get_ne]
  generalize hG : (H.push (.cells #[cv, .int .i64 cap, .int .i64 fuel] 35)).push _ = G
  have hx1 : Ext0 H G := hG ▸ (ext_push none' _ _).trans' (ext_push none' _ _)
  obtain ⟨z, hz, hzs⟩ : ∃ z, G[H.size + 1]? = some (.cells z 91 (0, 0)) ∧ z.size = 20 := ⟨_, by rw [← hG]; exact push_get_eq (by simp), rfl⟩
  have hGs : G.size = H.size + 2 := by rw [← hG]; simp
  clear hG
  refine rstates0_ok (hl.ext hx1 fun _ _ e => e) hg fun H2 b hx2 hb2 => ?_
  have hz2 := hx2.blk hz
  have sz := stateA_size (startP_len seed)
  have al := @stateA_all (startP seed)
  have iS : idxS (.slice (some ⟨b, 0, none⟩) 1 1) (.int .i64 0) 20 = some (.pointer (some ⟨b, 0, none⟩)) := idxS_eq (by omega) (by omega)
  have w : IntKind.i64.wrap (((1 : Nat) : Int) - 1) = 0 := rfl
  simp (disch := first | assumption | (simp only [List.size_toArray, List.toList_toArray, List.length_cons, List.length_nil, List.all_cons, List.all_nil, oneCell, Bool.and_self, Bool.and_true, Nat.reduceAdd]; done) | (simp only [push_size, upd_size]; done) | (simp only [push_size, upd_size]; omega) | omega) only [nilV_ptr, offV_ptr, opt_some, extV_tuple, List.getElem?_cons_zero, List.getElem?_cons_succ, List.getElem?_toArray, cnd_true, cnd_false, grd_tt, grd_tf, grd_ft, grd_ff, grd_u, pick_true, pick_false, un_not, Bool.not_true, Bool.not_false, Nat.add_zero, Nat.zero_add, Nat.reduceAdd, int_eql, int_neq, int_lss, int_leq, int_gtr, int_geq, rd_go, rdo_cells, rds_go, st_go, sto_cells, stc_ok, stA_go, stAo_all, stAo_allL, rdso_all, upd_push_top, one_int, one_bool, one_ptr, one_slice, one_map, one_func, one_iface, boxM_eq, newC_eq, Value.cells, push_get_new, push_size, upd_size, List.size_toArray, List.toList_toArray, List.length_cons, List.length_nil, List.all_cons, List.all_nil, Bool.and_self, Bool.and_true, decide_true, len_slice Tryz.underlying224, int_sub, w, iS, hb2, hz2, sz, hzs, stateA_all, upd_self hz2]
  refine hk _ ((hx1.trans' hx2).trans (ext_upd _ _ _) fun b hb e => ?_)
  rcases e with e | e
  · exact e
  · omega
end

end Go.Proofs.YtnnheophehnioaaGreat
namespace Go.Proofs.YtnnheophehnioaaGreat
open Go.Sx Go.Proofs Go.Gm
set_option maxRecDepth 100000

def encT (x : Int × Int) : List Value := [.int .i64 x.1, .int .i64 x.2]
theorem encT_len (x : Int × Int) : (encT x).length = 2 := rfl
/-- In the block p, at o, lies the slice of the things A. -/
structure RT (H : Hp) (p o : Nat) (c : Array Value) (T : TypeId) (A : TL) (bk : Option Nat) : Prop where
  blk : H[p]? = some (.cells c T (0, 0))
  sl : ∃ v, c[o]? = some v ∧ OwnS H v 222 2 A.length (A.flatMap encT) bk
  ne : bk ≠ some p
theorem RT.slice {H : Hp} {p o : Nat} {c : Array Value} {T : TypeId} {A : TL} {bk : Option Nat} (h : RT H p o c T A bk) : ∃ a cap, c[o]? = some (.slice a A.length cap) := by
  obtain ⟨v, h1, h2⟩ := h.sl
  rcases h2.is with ⟨_, e, rfl⟩ | ⟨b, c, cap, _, rfl, _⟩
  · rw [e]; exact ⟨_, _, h1⟩
  · exact ⟨_, _, h1⟩
theorem RT.at {H : Hp} {p o : Nat} {c : Array Value} {T : TypeId} {A : TL} {bk : Option Nat} (h : RT H p o c T A bk) {i : Nat} {x : Int × Int} (hi : A[i]? = some x) :
    ∃ b cap c', bk = some b ∧ c[o]? = some (.slice (some ⟨b, 0, none⟩) A.length cap) ∧ H[b]? = some (.cells c' 222 (0, 0)) ∧ i < A.length ∧ i * 2 + 2 ≤ c'.size ∧ c'[i * 2]? = some (.int .i64 x.1) ∧ c'[i * 2 + 1]? = some (.int .i64 x.2) := by
  obtain ⟨v, h1, h2⟩ := h.sl
  obtain ⟨b, c', cap, e1, e2, e3, e4, e5, e6, e7⟩ := h2.at encT_len hi
  exact ⟨b, cap, c', e1, by rw [h1, e2], e3, e5, e6, by rw [show i * 2 = i * 2 + 0 from rfl, e7 0 (by omega)]; rfl, by rw [e7 1 (by omega)]; rfl⟩

def findT (A : TL) (id : Int) : Option Nat := A.findIdx? fun x => decide (x.1 = id)
def findZ (o : Option Nat) (i : Nat) : Int := match o with
  | some j => (i + j : Nat)
  | none => -1
theorem find_loop {H : Hp} {p o : Nat} {c : Array Value} {T : TypeId} {A : TL} {bk : Option Nat} (h : RT H p o c T A bk) {id : Int} {K : Value → HPred} (hmax : A.length < 2 ^ 40) : ∀ (d i : Nat), A.length = i + d →
    K (.int .i64 (findZ (findT (A.drop i) id) i)) H → f127.at2 K (.pointer (some ⟨p, o, none⟩)) (.int .i64 id) (.int .i64 i) H := by
  intro d
  obtain ⟨a, cap, hc⟩ := h.slice
  have r0 := fun K => rd_blk (K := K) (o := o + 0) (v := .slice a A.length cap) h.blk hc
  induction d with
  | zero =>
    intro i hi hk
    refine f127.b2_ok ?_
    have hlt : ¬ (i : Int) < (A.length : Int) := by omega
    simp only [f127.b2, nilV_ptr, offV_ptr, opt_some, r0, len_slice Tryz.underlying130, int_lss, decide_eq_false hlt, cnd_false]
    rw [List.drop_of_length_le (by omega)] at hk
    exact hk
  | succ d ih =>
    intro i hi hk
    refine f127.b2_ok ?_
    have hlt : (i : Int) < (A.length : Int) := by omega
    have hx : A[i]? = some A[i] := List.getElem?_eq_getElem (by omega)
    obtain ⟨b, cap', c', hbk, hc', hb, hil, hsz, g0, g1⟩ := h.at hx
    have e0 : (0 + Int.toNat (i : Int) * 2 + 0) = i * 2 := by omega
    have r0' := fun K => rd_blk (K := K) (o := o + 0) (v := .slice (some ⟨b, 0, none⟩) A.length cap') h.blk hc'
    have r1 := fun K => rd_blk (K := K) (o := i * 2) hb g0
    have ea : IntKind.i64.wrap ((i : Int) + 1) = ((i + 1 : Nat) : Int) := by rw [wrap64_id (by omega) (by omega)]; omega
    simp only [f127.b2, nilV_ptr, offV_ptr, opt_some, r0', len_slice Tryz.underlying130, int_lss, decide_eq_true hlt, cnd_true, idxS_eq (Int.natCast_nonneg i) hlt, e0, r1, int_eql]
    rw [List.drop_eq_getElem_cons (by omega)] at hk
    unfold findT at hk
    rw [List.findIdx?_cons] at hk
    by_cases he : (A[i]).1 = id
    · simp only [decide_eq_true he, cnd_true]
      simp only [decide_eq_true he] at hk
      exact hk
    · simp only [decide_eq_false he, cnd_false, int_add, opt_some, ea]
      refine ih (i + 1) (by omega) ?_
      simp only [decide_eq_false he] at hk
      unfold findT
      cases hf : (A.drop (i + 1)).findIdx? (fun x => decide (x.1 = id)) with
      | none => rw [hf] at hk; exact hk
      | some j =>
        rw [hf] at hk
        simp only [findZ, Option.map_some] at hk ⊢
        rw [show i + 1 + j = i + (j + 1) by omega]; exact hk
theorem find_ok {H : Hp} {p o : Nat} {c : Array Value} {T : TypeId} {A : TL} {bk : Option Nat} (h : RT H p o c T A bk) {id : Int} {K : Value → HPred} (hmax : A.length < 2 ^ 40)
    (hk : K (.int .i64 (findZ (findT A id) 0)) H) : callF Tryz.prog 127 [.pointer (some ⟨p, o, none⟩), .int .i64 id] K H := by
  refine f127.call ?_
  exact find_loop h hmax A.length 0 (by omega) (by simpa using hk)
theorem findT_some {A : TL} {id : Int} {i : Nat} (h : findT A id = some i) : ∃ tm, A[i]? = some (id, tm) ∧ ∀ j, j < i → ∀ x, A[j]? = some x → x.1 ≠ id := by
  unfold findT at h
  obtain ⟨h1, h2, h3⟩ := List.findIdx?_eq_some_iff_getElem.1 h
  have e : (A[i]).1 = id := by simpa using h2
  refine ⟨(A[i]).2, by rw [List.getElem?_eq_getElem h1, ← e], fun j hj x hx => ?_⟩
  have := h3 j hj
  rw [List.getElem?_eq_getElem (by omega)] at hx
  cases hx
  simpa using this
theorem findT_none {A : TL} {id : Int} (h : findT A id = none) : id ∉ A.map (·.1) := by
  unfold findT at h
  rw [List.findIdx?_eq_none_iff] at h
  intro hm
  obtain ⟨x, hx, rfl⟩ := List.mem_map.1 hm
  simpa using h x hx

/-- What becomes of the block's cells when the slice is written anew. -/
structure RT2 (H H' : Hp) (p o : Nat) (c : Array Value) (T : TypeId) (A' : TL) (bk : Option Nat) (c' : Array Value) (bk' : Option Nat) : Prop where
  rt : RT H' p o c' T A' bk'
  ext : Ext (fun b => b = p ∨ bk = some b) H H'
  bk : bk' = bk ∨ ∃ b, bk' = some b ∧ H.size ≤ b
  cs : ∀ k, k ≠ o → c'[k]? = c[k]?
  sz : c'.size = c.size
theorem bld_T (a b : Int) : pureRun Tryz.prog (Instr.build 222 #[(0, .int .i64 a), (1, .int .i64 b)]) = some (.agg #[.int .i64 a, .int .i64 b]) := by kernel_rfl
theorem bs_T (a b : Int) (K : Value → HPred) (H : Hp) : tot Tryz.prog (Instr.buildSlice 130 1 #[(0, .agg #[.int .i64 a, .int .i64 b])]) K H =
    K (.slice (some ⟨H.size, 0, none⟩) 1 1) (H.push (.cells #[.int .i64 a, .int .i64 b] 222)) := by kernel_rfl
theorem bs_T0 (K : Value → HPred) (H : Hp) : tot Tryz.prog (Instr.buildSlice 130 0 #[]) K H =
    K (.slice (some ⟨H.size, 0, none⟩) 0 0) (H.push (.cells #[] 222)) := by kernel_rfl

/-- Set. -/
theorem rtim_set {H : Hp} {p o : Nat} {c : Array Value} {T : TypeId} {A : TL} {bk : Option Nat} (h : RT H p o c T A bk) (hn : (A.map (·.1)).Nodup) {id tm : Int} {K : Value → HPred} (hmax : A.length < 2 ^ 30)
    (h1 : (id ∈ A.map (·.1) ∨ A.length < 4096) → ∀ H' c' bk', RT2 H H' p o c T (tset A id tm) bk c' bk' → K (.bool true) H')
    (h0 : ¬ (id ∈ A.map (·.1) ∨ A.length < 4096) → K (.bool false) H) :
    callF Tryz.prog 91 [.pointer (some ⟨p, o, none⟩), .int .i64 id, .int .i64 tm] K H := by
  refine f91.call ?_
  unfold f91.b
  refine find_ok h (by omega) ?_
  have hne : p ≠ p → False := fun e => e rfl
  cases hf : findT A id with
  | some i =>
    obtain ⟨t0, hx, -⟩ := findT_some hf
    obtain ⟨b, cap, c', hbk, hc', hb, hil, hsz, g0, g1⟩ := h.at hx
    have hlt : (i : Int) < (A.length : Int) := by omega
    have hge : ((0 + i : Nat) : Int) ≥ 0 := by omega
    have e0 : (0 + Int.toNat ((0 + i : Nat) : Int) * 2 + 1) = i * 2 + 1 := by omega
    have r0 := fun K => rd_blk (K := K) (o := o + 0) (v := .slice (some ⟨b, 0, none⟩) A.length cap) h.blk hc'
    have s := fun C => st_blk (C := C) (o := i * 2 + 1) (v := .int .i64 tm) hb (by omega) rfl
    have ix := idxS_eq (b := b) (o := 0) (len := A.length) (cap := cap) (size := 2) (k := .i64) (i := ((0 + i : Nat) : Int)) (by omega) (by omega)
    simp only [findZ, int_geq, opt_some, decide_eq_true hge, cnd_true, nilV_ptr, offV_ptr, r0, ix, e0, s]
    refine h1 (.inl (List.mem_map.2 ⟨_, List.mem_of_getElem? hx, rfl⟩)) _ c bk ⟨⟨?_, ⟨_, hc', ?_⟩, h.ne⟩, (ext_upd _ _ _).mono fun b' _ e => .inr (by rw [e]; exact hbk), .inl rfl, fun _ _ => rfl, rfl⟩
    · rw [upd_ne]; exact h.blk
      intro e; exact h.ne (by rw [e]; exact hbk)
    · obtain ⟨v, hv, ho⟩ := h.sl
      have hv' : v = .slice (some ⟨b, 0, none⟩) A.length cap := Option.some.inj (hv.symm.trans hc')
      subst hv'
      rw [tset_at hn hx, List.length_set, hbk]
      rw [hbk] at ho
      have := ho.put (w := .int .i64 tm) (k := i * 2 + 1) hb (by omega)
      rw [flat_set (y := (id, tm)) encT_len hx (by omega) rfl] at this
      exact this
  | none =>
    have hnm := findT_none hf
    have hge : ¬ (-1 : Int) ≥ 0 := by omega
    obtain ⟨v, hv, ho⟩ := h.sl
    obtain ⟨a, cap, rfl, hcap⟩ := ho.shape
    have r0 := fun K => rd_blk (K := K) (o := o + 0) (v := .slice a A.length cap) h.blk hv
    simp only [findZ, int_geq, opt_some, decide_eq_false hge, cnd_false, nilV_ptr, offV_ptr, r0, len_slice Tryz.underlying130]
    by_cases hl : A.length < 4096
    · have hl' : ¬ (A.length : Int) ≥ 4096 := by omega
      simp only [decide_eq_false hl', cnd_false, r0, bld_T, opt_some, bs_T]
      refine append_new Tryz.underlying130 Tryz.type222 rfl rfl rfl (by decide) (by decide) ho (ns := #[.int .i64 id, .int .i64 tm]) rfl (by intro c hc; simp at hc; rcases hc with rfl | rfl <;> rfl) ?_ ?_
      · show (2 * (A.length + 1) + 192) * 16 ≤ 2 ^ 48
        omega
      intro v' H' bk' ho' hx' hbk'
      have hb' := hx'.blk h.blk h.ne
      have hos : o + 0 < c.size := (Array.getElem?_eq_some_iff.1 hv).1
      have s := fun C => st_blk (C := C) (o := o + 0) (v := v') hb' hos ho'.one
      simp only [s]
      have hne' : bk' ≠ some p := by
        rcases hbk' with e | ⟨b, e, hb⟩
        · rw [e]; exact h.ne
        · rw [e]; intro e'; cases e'; have := blk_lt h.blk; omega
      refine h1 (.inr hl) _ (c.setIfInBounds (o + 0) v') bk' ⟨⟨upd_self hb', ⟨v', by rw [Array.getElem?_setIfInBounds, if_pos (by omega), if_pos (by omega)], ?_⟩, hne'⟩, (hx'.mono fun b _ e => .inr e).trans' ((ext_upd _ _ _).mono fun b _ e => .inl e), hbk', fun k hk => by rw [Array.getElem?_setIfInBounds_ne (by omega)], by simp⟩
      unfold tset
      rw [if_neg hnm, List.length_append, List.flatMap_append]
      exact ho'.ext (ext_upd _ _ _) fun b e e' => hne' (by rw [e, e'])
    · have hl' : (A.length : Int) ≥ 4096 := by omega
      simp only [decide_eq_true hl', cnd_true]
      exact h0 fun e => e.elim hnm hl

end Go.Proofs.YtnnheophehnioaaGreat
namespace Go.Proofs.YtnnheophehnioaaGreat
open Go.Sx Go.Proofs Go.Gm
set_option maxRecDepth 100000

theorem take_encT (A : TL) (i : Nat) : ((A.flatMap encT).drop (0 * 2)).take ((i - 0) * 2) = (A.take i).flatMap encT := by
  have := flat_take encT_len A 0 i
  simpa using this
theorem drop_encT (A : TL) (i : Nat) : ((A.flatMap encT).drop (i * 2)).take ((A.length - i) * 2) = (A.drop i).flatMap encT := by
  have := flat_take encT_len A i A.length
  rw [this, List.take_of_length_le (by simp)]
theorem encT_one (A : TL) : ∀ c ∈ A.flatMap encT, oneCell c = true := by
  intro c hc
  obtain ⟨x, _, hx⟩ := List.mem_flatMap.1 hc
  simp [encT] at hx
  rcases hx with rfl | rfl <;> rfl
/-- Cancel. -/
theorem rtim_cancel {H : Hp} {p o : Nat} {c : Array Value} {T : TypeId} {A : TL} {bk : Option Nat} (h : RT H p o c T A bk) (hn : (A.map (·.1)).Nodup) {id : Int} {K : Value → HPred} (hmax : A.length < 2 ^ 30)
    (h1 : ∀ tm, tget A id = some tm → ∀ H' c' bk', RT2 H H' p o c T (tdel A id) bk c' bk' → K (.tuple #[.int .i64 tm, .bool true]) H')
    (h0 : tget A id = none → K (.tuple #[.int .i64 0, .bool false]) H) :
    callF Tryz.prog 80 [.pointer (some ⟨p, o, none⟩), .int .i64 id] K H := by
  refine f80.call ?_
  unfold f80.b
  refine find_ok h (by omega) ?_
  cases hf : findT A id with
  | none =>
    have hlt : (-1 : Int) < 0 := by omega
    simp only [findZ, int_lss, opt_some, decide_eq_true hlt, cnd_true]
    exact h0 (tget_none.2 (findT_none hf))
  | some i =>
    obtain ⟨t0, hx, -⟩ := findT_some hf
    obtain ⟨b, cap, c', hbk, hc', hb, hil, hsz, g0, g1⟩ := h.at hx
    have hnl : ¬ ((0 + i : Nat) : Int) < 0 := by omega
    have e0 : (0 + Int.toNat ((0 + i : Nat) : Int) * 2 + 1) = i * 2 + 1 := by omega
    have r0 := fun K => rd_blk (K := K) (o := o + 0) (v := .slice (some ⟨b, 0, none⟩) A.length cap) h.blk hc'
    have r1 := fun K => rd_blk (K := K) (o := i * 2 + 1) hb g1
    have ix := idxS_eq (b := b) (o := 0) (len := A.length) (cap := cap) (size := 2) (k := .i64) (i := ((0 + i : Nat) : Int)) (by omega) (by omega)
    obtain ⟨v, hv, ho⟩ := h.sl
    have hv' : v = .slice (some ⟨b, 0, none⟩) A.length cap := Option.some.inj (hv.symm.trans hc')
    subst hv'
    have hcap : A.length ≤ cap := by obtain ⟨_, _, e, h⟩ := ho.shape; cases e; exact h
    have sh := slice_hi' (a := some ⟨b, 0, none⟩) (n := A.length) (cap := cap) (k := .i64) (h := ((0 + i : Nat) : Int)) Tryz.underlying130 Tryz.type222 (by omega) (by omega)
    have ea : IntKind.i64.wrap (((0 + i : Nat) : Int) + 1) = ((i + 1 : Nat) : Int) := by rw [wrap64_id (by omega) (by omega)]; omega
    have sl := slice_lo (a := some ⟨b, 0, none⟩) (n := A.length) (cap := cap) (k := .i64) (l := ((i + 1 : Nat) : Int)) Tryz.underlying130 Tryz.type222 (by omega) (by omega)
    have ei : Int.toNat ((0 + i : Nat) : Int) = i := by omega
    have ej : Int.toNat ((i + 1 : Nat) : Int) = i + 1 := by omega
    rw [ei] at sh
    rw [ej] at sl
    simp only [findZ, int_lss, opt_some, decide_eq_false hnl, cnd_false, nilV_ptr, offV_ptr, r0, ix, e0, r1, sh, int_add, ea, sl, bs_T0, chk_eq]
    have hp1 := push_old (x := .cells #[] 222) h.blk
    have cp : ∀ {H' : Hp}, H'[p]? = some (.cells c T (0, 0)) → cellP (.pointer (some ⟨p, o + 0, none⟩)) H' = some (.slice (some ⟨b, 0, none⟩) A.length cap) := fun {H'} h' => by
      rw [cellP_ptr, cell_blk h']; exact hc'
    refine ⟨cp hp1, cp hp1, ?_⟩
    have ho1 : OwnS (H.push (.cells #[] 222)) (.slice (some ⟨b, 0, none⟩) A.length cap) 222 2 A.length (A.flatMap encT) bk := ho.ext (ext_push none' _ _) fun _ _ e => e
    have l1 := ho1.lies.cut (l := 0) (h := i) hcap (by omega) (by omega)
    rw [take_encT] at l1
    refine append_own Tryz.underlying130 ⟨_, Tryz.underlying130, by intro q e; cases e⟩ Tryz.type222 rfl rfl rfl (by decide) (by decide)
      (own_new H #[] 222 2 0 rfl) l1 (encT_one _) ?_ ?_
    · show (2 * (0 + (i - 0)) + 192) * 16 ≤ 2 ^ 48
      omega
    intro v2 H2 bk2 ho2 hx2 hbk2
    have hpsz := blk_lt h.blk
    have hbsz := blk_lt hb
    have hp2 : H2[p]? = some (.cells c T (0, 0)) := hx2.blk hp1 (by simp; omega)
    refine ⟨cp hp2, ?_⟩
    have hl2 : Lies H2 (.slice (some ⟨b, 0, none⟩) A.length cap) 222 2 A.length (A.flatMap encT) := (ho1.ext hx2 (by rw [hbk]; intro b' e; cases e; simp; omega)).lies
    have l2 := hl2.cut (l := i + 1) (h := A.length) hcap (by omega) (by omega)
    rw [drop_encT] at l2
    simp only [List.nil_append, Nat.zero_add] at ho2
    refine append_own Tryz.underlying130 ⟨_, Tryz.underlying130, by intro q e; cases e⟩ Tryz.type222 rfl rfl rfl (by decide) (by decide)
      ho2 l2 (encT_one _) ?_ ?_
    · show (2 * (i - 0 + (A.length - (i + 1))) + 192) * 16 ≤ 2 ^ 48
      omega
    intro v3 H3 bk3 ho3 hx3 hbk3
    have hnew : ∀ bb, bk2 = some bb → H.size ≤ bb := by
      intro bb e
      rcases hbk2 with e' | ⟨b', e', hb'⟩
      · rw [e'] at e; cases e; exact Nat.le_refl _
      · rw [e'] at e; cases e; simp at hb'; omega
    have hnew3 : ∃ bb, bk3 = some bb ∧ H.size ≤ bb := by
      rcases hbk3 with e' | ⟨b', e', hb'⟩
      · rcases hbk2 with e2 | ⟨b2, e2, h2⟩
        · exact ⟨_, e'.trans e2, Nat.le_refl _⟩
        · exact ⟨_, e'.trans e2, by simp at h2; omega⟩
      · exact ⟨b', e', by have := hx2.size; simp at this; omega⟩
    have hp3 : H3[p]? = some (.cells c T (0, 0)) := hx3.blk hp2 (fun e => by have := hnew _ e; omega)
    have hos : o + 0 < c.size := (Array.getElem?_eq_some_iff.1 hv).1
    have s := fun C => st_blk (C := C) (o := o + 0) (v := v3) hp3 hos ho3.one
    simp only [s]
    have hx13 : Ext none' H H3 := ((ext_push none' _ _).trans (hx2.trans hx3 (S := fun b => H.size ≤ b) fun bb _ e => by
      rcases e with e | e
      · cases e; exact Nat.le_refl _
      · exact hnew _ e) (S := none') fun bb hb e => by
        rcases e with e | e
        · exact e
        · omega)
    obtain ⟨b3, hb3, hb3'⟩ := hnew3
    have hne' : bk3 ≠ some p := by rw [hb3]; intro e; cases e; omega
    refine h1 t0 ((tget_some hn).2 (List.mem_of_getElem? hx)) _ (c.setIfInBounds (o + 0) v3) bk3 ⟨⟨upd_self hp3, ⟨v3, by rw [Array.getElem?_setIfInBounds, if_pos (by omega), if_pos (by omega)], ?_⟩, hne'⟩,
      (Ext0.to hx13).trans' ((ext_upd _ _ _).mono fun b _ e => .inl e), .inr ⟨b3, hb3, hb3'⟩, fun k hk => by rw [Array.getElem?_setIfInBounds_ne (by omega)], by simp⟩
    rw [tdel_at hn hx, List.length_append, List.flatMap_append, List.length_take, List.length_drop, Nat.min_eq_left (by omega)]
    exact ho3.ext (ext_upd _ _ _) fun b e e' => hne' (by rw [e, e'])

theorem RT.ext {S : Nat → Prop} {H H' : Hp} {p o : Nat} {c : Array Value} {T : TypeId} {A : TL} {bk : Option Nat} (h : RT H p o c T A bk) (hx : Ext S H H') (h1 : ¬ S p) (h2 : ∀ b, bk = some b → ¬ S b) : RT H' p o c T A bk := by
  obtain ⟨v, hv, ho⟩ := h.sl
  exact ⟨hx.blk h.blk h1, ⟨v, hv, ho.ext hx h2⟩, h.ne⟩

/-- x is the least of the first i. -/
theorem next_loop {p o : Nat} {c : Array Value} {T : TypeId} {A : TL} {bk : Option Nat} {q : Nat} {K : Value → HPred} (hmax : A.length < 2 ^ 30) (hqb : bk ≠ some q) (hqp : p ≠ q) : ∀ (d i : Nat) (H : Hp) (x : Int × Int), A.length = i + d → 0 < i → RT H p o c T A bk →
    H[q]? = some (.cells #[.int .i64 x.1, .int .i64 x.2] 222 (0, 0)) → tmin (A.take i) x → (∀ H' x, tmin A x → Ext (· = q) H H' → K (.tuple #[.int .i64 x.1, .int .i64 x.2, .bool true]) H') →
    f148.at5 K (.pointer (some ⟨p, o, none⟩)) (.pointer (some ⟨q, 0, none⟩)) (.int .i64 i) H := by
  intro d
  induction d with
  | zero =>
    intro i H x hi h0 h hq hm hk
    refine f148.b5_ok ?_
    obtain ⟨a, cap, hc⟩ := h.slice
    have r0 := fun K => rd_blk (K := K) (o := o + 0) (v := .slice a A.length cap) h.blk hc
    have q0 := fun K => rd_blk (K := K) (o := 0 + 0) (v := .int .i64 x.1) hq rfl
    have q1 := fun K => rd_blk (K := K) (o := 0 + 1) (v := .int .i64 x.2) hq rfl
    have hlt : ¬ (i : Int) < (A.length : Int) := by omega
    simp only [f148.b5, nilV_ptr, offV_ptr, opt_some, r0, len_slice Tryz.underlying130, int_lss, decide_eq_false hlt, cnd_false, q0, q1]
    rw [List.take_of_length_le (by omega)] at hm
    exact hk H x hm (Ext.refl _ _)
  | succ d ih =>
    intro i H x hi h0 h hq hm hk
    refine f148.b5_ok ?_
    have hlt : (i : Int) < (A.length : Int) := by omega
    have hy : A[i]? = some A[i] := List.getElem?_eq_getElem (by omega)
    obtain ⟨b, cap', c', hbk, hc', hb, hil, hsz, g0, g1⟩ := h.at hy
    have e0 : (0 + Int.toNat (i : Int) * 2 + 0) = i * 2 := by omega
    have e0' : (0 + Int.toNat (i : Int) * 2) = i * 2 := by omega
    have e1 : (0 + Int.toNat (i : Int) * 2 + 1) = i * 2 + 1 := by omega
    have r0 := fun K => rd_blk (K := K) (o := o + 0) (v := .slice (some ⟨b, 0, none⟩) A.length cap') h.blk hc'
    have y0 := fun K => rd_blk (K := K) (o := i * 2) hb g0
    have y1 := fun K => rd_blk (K := K) (o := i * 2 + 1) hb g1
    have q0 := fun K => rd_blk (K := K) (o := 0 + 0) (v := .int .i64 x.1) hq rfl
    have q1 := fun K => rd_blk (K := K) (o := 0 + 1) (v := .int .i64 x.2) hq rfl
    have ea : IntKind.i64.wrap ((i : Int) + 1) = ((i + 1 : Nat) : Int) := by rw [wrap64_id (by omega) (by omega)]; omega
    have htk : A.take (i + 1) = A.take i ++ [A[i]] := by rw [List.take_add_one, hy]; rfl
    have keep : ¬ tlt A[i] x → f148.at6 K (.pointer (some ⟨p, o, none⟩)) (.pointer (some ⟨q, 0, none⟩)) (.int .i64 i) H := by
      intro hnl
      refine f148.b6_ok ?_
      simp only [f148.b6, int_add, opt_some, ea]
      refine ih (i + 1) H x (by omega) (by omega) h hq ⟨?_, ?_⟩ hk
      · rw [htk]; exact List.mem_append_left _ hm.1
      · intro y hy; rw [htk, List.mem_append] at hy
        rcases hy with hy | hy
        · exact hm.2 y hy
        · simp at hy; subst hy; exact hnl
    have rs : ∀ K : Value → HPred, rd (cellsP (.pointer (some ⟨b, i * 2, none⟩)) 2) K H = K (.agg #[.int .i64 (A[i]).1, .int .i64 (A[i]).2]) H := by
      intro K
      rw [rds_blk hb (by omega)]
      have : c'.extract (i * 2) (i * 2 + 2) = #[.int .i64 (A[i]).1, .int .i64 (A[i]).2] := by
        apply Array.ext_getElem?
        intro k
        rw [Array.getElem?_extract]
        match k with
        | 0 => rw [if_pos (by omega), Nat.add_zero, g0]; rfl
        | 1 => rw [if_pos (by omega), g1]; rfl
        | k + 2 => rw [if_neg (by omega)]; simp
      rw [this]
    have take : tlt A[i] x → stA (.pointer (some ⟨q, 0, none⟩)) 2 (.agg #[.int .i64 (A[i]).1, .int .i64 (A[i]).2]) (f148.at6 K (.pointer (some ⟨p, o, none⟩)) (.pointer (some ⟨q, 0, none⟩)) (.int .i64 i)) H := by
      intro hl
      have s0 := fun C => st_blk (C := C) (o := 0 + 0) (v := .int .i64 (A[i]).1) hq (by simp) rfl
      have hq1 := upd_self (x := .cells (#[.int .i64 x.1, .int .i64 x.2].setIfInBounds (0 + 0) (.int .i64 (A[i]).1)) 222 (0, 0)) hq
      have s1 := fun C => st_blk (C := C) (o := 0 + 1) (v := .int .i64 (A[i]).2) hq1 (by simp) rfl
      simp only [stA, Nat.beq, List.size_toArray, List.length_cons, List.length_nil, stL, add_mk, s0, s1, upd_upd]
      refine f148.b6_ok ?_
      simp only [f148.b6, int_add, opt_some, ea]
      refine ih (i + 1) _ A[i] (by omega) (by omega) (h.ext (ext_upd _ _ _) hqp (fun b e e' => hqb (by rw [e, e']))) (upd_self hq) ⟨?_, ?_⟩ fun H' x hx hex => hk H' x hx ((ext_upd _ _ _).trans' hex)
      · rw [htk]; exact List.mem_append_right _ (by simp)
      · intro y hy; rw [htk, List.mem_append] at hy
        rcases hy with hy | hy
        · have := hm.2 y hy
          unfold tlt at *; omega
        · simp at hy; subst hy; unfold tlt; omega
    simp only [f148.b5, nilV_ptr, offV_ptr, opt_some, r0, len_slice Tryz.underlying130, int_lss, decide_eq_true hlt, cnd_true, idxS_eq (Int.natCast_nonneg i) hlt, e1, y1, q1]
    by_cases c1 : (A[i]).2 < x.2
    · simp only [decide_eq_true c1, grd_tf, grd_u, pick_true, opt_some, cnd_true, r0, nilV_ptr, offV_ptr, idxS_eq (Int.natCast_nonneg i) hlt, e0', rs]
      exact take (.inl c1)
    · by_cases c2 : (A[i]).2 = x.2
      · simp only [decide_eq_false c1, grd_ff, nilV_ptr, offV_ptr, opt_some, r0, idxS_eq (Int.natCast_nonneg i) hlt, e1, y1, q1, int_eql, decide_eq_true c2, grd_tt, e0, y0, q0, int_lss, pick_true, pick_false]
        by_cases c3 : (A[i]).1 < x.1
        · simp only [decide_eq_true c3, cnd_true, nilV_ptr, offV_ptr, opt_some, r0, idxS_eq (Int.natCast_nonneg i) hlt, e0', rs]
          exact take (.inr ⟨c2, c3⟩)
        · simp only [decide_eq_false c3, cnd_false]
          exact keep (by unfold tlt; omega)
      · simp only [decide_eq_false c1, grd_ff, nilV_ptr, offV_ptr, opt_some, r0, idxS_eq (Int.natCast_nonneg i) hlt, e1, y1, q1, int_eql, decide_eq_false c2, grd_ft, grd_u, pick_true, pick_false, cnd_false]
        exact keep (by unfold tlt; omega)

/-- Next. -/
theorem rtim_next {H : Hp} {p o : Nat} {c : Array Value} {T : TypeId} {A : TL} {bk : Option Nat} (h : RT H p o c T A bk) {K : Value → HPred} (hmax : A.length < 2 ^ 30)
    (h0 : A = [] → K (.tuple #[.int .i64 0, .int .i64 0, .bool false]) H)
    (h1 : ∀ x, tmin A x → ∀ H', Ext0 H H' → K (.tuple #[.int .i64 x.1, .int .i64 x.2, .bool true]) H') :
    callF Tryz.prog 148 [.pointer (some ⟨p, o, none⟩)] K H := by
  refine f148.call ?_
  by_cases he : A.length = 0
  · obtain ⟨a, cap, hc⟩ := h.slice
    have r0 := fun K => rd_blk (K := K) (o := o + 0) (v := .slice a A.length cap) h.blk hc
    have he' : (A.length : Int) = 0 := by omega
    simp only [f148.b, nilV_ptr, offV_ptr, opt_some, r0, len_slice Tryz.underlying130, int_eql, decide_eq_true he', cnd_true]
    exact h0 (List.eq_nil_of_length_eq_zero he)
  · have hx : A[0]? = some A[0] := List.getElem?_eq_getElem (by omega)
    obtain ⟨b, cap', c', hbk, hc', hb, hil, hsz, g0, g1⟩ := h.at hx
    have he' : ¬ (A.length : Int) = 0 := by omega
    have hlt : (0 : Int) < (A.length : Int) := by omega
    have r0 := fun K => rd_blk (K := K) (o := o + 0) (v := .slice (some ⟨b, 0, none⟩) A.length cap') h.blk hc'
    have e0 : (0 + Int.toNat (0 : Int) * 2) = 0 := by omega
    have rs : ∀ K : Value → HPred, rd (cellsP (.pointer (some ⟨b, 0, none⟩)) 2) K H = K (.agg #[.int .i64 (A[0]).1, .int .i64 (A[0]).2]) H := by
      intro K
      rw [rds_blk hb (by omega)]
      have : c'.extract 0 (0 + 2) = #[.int .i64 (A[0]).1, .int .i64 (A[0]).2] := by
        apply Array.ext_getElem?
        intro k
        rw [Array.getElem?_extract]
        match k with
        | 0 => rw [if_pos (by omega)]; exact g0
        | 1 => rw [if_pos (by omega)]; exact g1
        | k + 2 => rw [if_neg (by omega)]; simp
      rw [this]
    have hq := push_new H (.cells #[.int .i64 0, .int .i64 0] 222)
    have s0 := fun C => st_blk (C := C) (o := 0 + 0) (v := .int .i64 (A[0]).1) hq (by simp) rfl
    have hq1 := upd_self (x := .cells (#[.int .i64 0, .int .i64 0].setIfInBounds (0 + 0) (.int .i64 (A[0]).1)) 222 (0, 0)) hq
    have s1 := fun C => st_blk (C := C) (o := 0 + 1) (v := .int .i64 (A[0]).2) hq1 (by simp) rfl
    simp only [f148.b, nilV_ptr, offV_ptr, opt_some, r0, len_slice Tryz.underlying130, int_eql, decide_eq_false he', cnd_false, idxS_eq (Int.le_refl 0) hlt, e0, rs, newC_eq,
      stA, Nat.beq, List.size_toArray, List.length_cons, List.length_nil, stL, add_mk, s0, s1, upd_upd]
    have hpsz := blk_lt h.blk
    have hbsz := blk_lt hb
    refine next_loop (q := H.size) hmax (by rw [hbk]; intro e; cases e; omega) (by omega) (A.length - 1) 1 _ A[0] (by omega) (by omega)
      ((h.ext (ext_push none' _ _) id fun _ _ e => e).ext (ext_upd _ _ _) (by omega) fun b' e => by rw [hbk] at e; cases e; omega) (upd_self hq) ⟨?_, ?_⟩ ?_
    · rw [List.take_add_one, hx]; simp
    · intro y hy
      rw [List.take_add_one, hx] at hy; simp at hy; subst hy
      unfold tlt; omega
    · intro H' x hx hex
      refine h1 x hx H' ((ext_push none' _ _).trans ((ext_upd _ _ _).trans' hex) fun bb hb e => ?_)
      rcases e with e | e
      · exact e
      · omega

theorem bs_int (a : Int) (K : Value → HPred) (H : Hp) : tot Tryz.prog (Instr.buildSlice 22 1 #[(0, .int .i64 a)]) K H =
    K (.slice (some ⟨H.size, 0, none⟩) 1 1) (H.push (.cells #[.int .i64 a] 3)) := by kernel_rfl
theorem due_loop {p o : Nat} {T : TypeId} {now : Int} {K : Value → HPred} {H0 : Hp} {bk0 : Option Nat} (hp0 : p < H0.size) (hb0 : ∀ b, bk0 = some b → b < H0.size) {c0 : Array Value} : ∀ (n : Nat) (A : TL) (D : TL) (H : Hp) (c : Array Value) (bk bka : Option Nat) (v : Value),
    A.length ≤ n → A.length + D.length < 2 ^ 30 → (A.map (·.1)).Nodup → RT H p o c T A bk → Ext (fun b => b = p ∨ bk0 = some b) H0 H → (bk = bk0 ∨ ∃ b, bk = some b ∧ H0.size ≤ b) →
    (∀ k, k ≠ o → c[k]? = c0[k]?) → c.size = c0.size → OwnS H v 3 1 D.length (D.map fun x => .int .i64 x.1) bka → (∀ b, bka = some b → H0.size ≤ b ∧ bk ≠ some b) →
    (∀ (D2 : TL) H' c' bk' bka' v', D2.Pairwise tlt → D2.Perm (A.filter fun x => decide (x.2 ≤ now)) → RT H' p o c' T (A.filter fun x => decide (now < x.2)) bk' → Ext (fun b => b = p ∨ bk0 = some b) H0 H' → (bk' = bk0 ∨ ∃ b, bk' = some b ∧ H0.size ≤ b) →
      (∀ k, k ≠ o → c'[k]? = c0[k]?) → c'.size = c0.size → OwnS H' v' 3 1 (D ++ D2).length ((D ++ D2).map fun x => .int .i64 x.1) bka' → (∀ b, bka' = some b → H0.size ≤ b ∧ bk' ≠ some b) → K v' H') →
    f89.at2 K (.pointer (some ⟨p, o, none⟩)) (.int .i64 now) v H := by
  intro n
  induction n with
  | zero =>
    intro A D H c bk bka v hl hmax hn h hx hbk hc hcs ho hb hk
    have : A = [] := List.eq_nil_of_length_eq_zero (by omega)
    subst this
    refine f89.b2_ok ?_
    unfold f89.b2
    refine rtim_next h (by simp) ?_ ?_
    · intro _
      simp only [extV_tuple, List.getElem?_cons_zero, List.getElem?_cons_succ, opt_some, un_not, Bool.not_false, grd_tf, grd_u, pick_true, cnd_true]
      exact hk [] H c bk bka v List.Pairwise.nil (List.Perm.refl _) h hx hbk hc hcs (by simpa using ho) hb
    · intro x hx; exact absurd hx.1 (by simp)
  | succ n ih =>
    intro A D H c bk bka v hl hmax hn h hx hbk hc hcs ho hb hk
    refine f89.b2_ok ?_
    unfold f89.b2
    refine rtim_next h (by omega) ?_ ?_
    · rintro rfl
      simp only [extV_tuple, List.getElem?_cons_zero, List.getElem?_cons_succ, opt_some, un_not, Bool.not_false, grd_tf, grd_u, pick_true, cnd_true]
      exact hk [] H c bk bka v List.Pairwise.nil (List.Perm.refl _) h hx hbk hc hcs (by simpa using ho) hb
    · intro x hm H1 hx1
      have h1 := h.ext hx1 id fun _ _ e => e
      have ho1 := ho.ext hx1 fun _ _ e => e
      have hx01 := hx.trans' hx1.to
      simp only [extV_tuple, List.getElem?_cons_zero, List.getElem?_cons_succ, opt_some, un_not, Bool.not_true, grd_ff, int_gtr]
      by_cases hd : x.2 ≤ now
      · have hd' : ¬ x.2 > now := by omega
        simp only [decide_eq_false hd', pick_false, opt_some, cnd_false]
        refine rtim_cancel h1 hn (by omega) ?_ ?_
        · intro tm htm H2 c2 bk2 hr
          simp only [bs_int]
          have hbp : ∀ b, bka = some b → b ≠ p := fun b e e' => by have := (hb b e).1; omega
          have ho2 : OwnS H2 v 3 1 D.length (D.map fun x => .int .i64 x.1) bka := ho1.ext hr.ext fun b e => by
            rintro (e' | e')
            · exact hbp b e e'
            · exact (hb b e).2 e'
          refine append_new Tryz.underlying22 Tryz.type3 rfl rfl rfl (by decide) (by decide) ho2 (ns := #[.int .i64 x.1]) rfl (by intro c hc; simp at hc; rw [hc]; rfl) ?_ ?_
          · show (2 * (D.length + 1) + 192) * 8 ≤ 2 ^ 48
            omega
          intro v' H3 bka' ho3 hx3 hbka'
          have hsz1 := hx1.size
          have hsz0 := hx.size
          have hsz2 := hr.ext.size
          have hlt : (tdel A x.1).length < A.length := by
            have hmem := hm.1
            unfold tdel
            rw [List.length_filter_lt_length_iff_exists]
            exact ⟨x, hmem, by simp⟩
          have hx02 : Ext (fun b => b = p ∨ bk0 = some b) H0 H2 := hx01.trans hr.ext fun b hb e => by
            rcases e with e | e | e
            · exact e
            · exact .inl e
            · rcases hbk with e' | ⟨b', e', hb'⟩
              · exact .inr (by rw [← e']; exact e)
              · rw [e'] at e; cases e; omega
          have hx03 : Ext (fun b => b = p ∨ bk0 = some b) H0 H3 := hx02.trans hx3 fun b hb' e => by
            rcases e with e | e
            · exact e
            · have := (hb b e).1; omega
          have hbk2 : bk2 = bk0 ∨ ∃ b, bk2 = some b ∧ H0.size ≤ b := by
            rcases hr.bk with e | ⟨b, e, hb⟩
            · rw [e]; exact hbk
            · exact .inr ⟨b, e, by omega⟩
          have hne2 : ∀ b, bka = some b → bk2 ≠ some b := fun b e e' => by
            rcases hr.bk with e2 | ⟨b2, e2, hb2⟩
            · rw [e2] at e'; exact (hb b e).2 e'
            · rw [e2] at e'; cases e'
              rw [e] at ho1
              have := ho1.lt
              omega
          have hbka2 : ∀ b, bka' = some b → H0.size ≤ b ∧ bk2 ≠ some b := fun b e => by
            rcases hbka' with e' | ⟨b', e', hb'⟩
            · rw [e'] at e; exact ⟨(hb b e).1, hne2 b e⟩
            · rw [e'] at e; cases e
              refine ⟨by omega, fun e2 => ?_⟩
              obtain ⟨w, _, hw⟩ := hr.rt.sl
              rw [e2] at hw
              have := hw.lt
              omega
          refine ih (tdel A x.1) (D ++ [x]) H3 c2 bk2 bka' v' (by omega) (by simp; omega) (tdel_fst hn) (hr.rt.ext hx3 ?_ ?_) hx03 hbk2 (fun k hk => by rw [hr.cs k hk, hc k hk]) (by rw [hr.sz, hcs]) ?_ hbka2 ?_
          · intro e; exact hbp p e rfl
          · intro b e e'; exact hne2 b e' e
          · have e1 : (D ++ [x]).length = D.length + 1 := by simp
            have e2 : (D ++ [x]).map (fun x => Value.int .i64 x.1) = D.map (fun x => Value.int .i64 x.1) ++ [Value.int .i64 x.1] := by simp
            rw [e1, e2]; exact ho3
          · intro D2 H' c' bk' bka'' v'' hs hp hrt hxx hbk' hc' hcs' ho' hb'
            have hxA : (tdel A x.1).filter (fun y => decide (now < y.2)) = A.filter fun y => decide (now < y.2) := by
              unfold tdel
              rw [List.filter_filter]
              refine List.filter_congr fun y hy => ?_
              by_cases hyx : y.1 = x.1
              · have : y.2 = x.2 := by
                  have a1 := (tget_some hn).2 (show (x.1, y.2) ∈ A by rw [← hyx]; exact hy)
                  have a2 := (tget_some hn).2 (show (x.1, x.2) ∈ A from hm.1)
                  rw [a1] at a2; exact Option.some.inj a2
                have : ¬ now < y.2 := by omega
                simp [this]
              · simp [hyx]
            rw [hxA] at hrt
            refine hk (x :: D2) H' c' bk' bka'' v'' ?_ ?_ hrt hxx hbk' hc' hcs' (by simpa using ho') hb'
            · rw [List.pairwise_cons]
              refine ⟨fun y hy => ?_, hs⟩
              have hy' := hp.mem_iff.1 hy
              have hy2 := (List.mem_filter.1 (List.mem_filter.1 hy').1)
              have hyA := hy2.1
              have hyn : y.1 ≠ x.1 := by simpa using hy2.2
              have := hm.2 y hyA
              unfold tlt at *
              have : ¬ y.1 = x.1 := hyn
              omega
            · have hxmem : x ∈ A.filter fun y => decide (y.2 ≤ now) := List.mem_filter.2 ⟨hm.1, by simpa using hd⟩
              have hnd : (A.filter fun y => decide (y.2 ≤ now)).Nodup := by
                have : A.Nodup := by
                  have := hn
                  exact List.Pairwise.of_map (fun x : Int × Int => x.1) (fun a b h e => h (by rw [e])) this
                exact this.filter _
              have hxA2 : (tdel A x.1).filter (fun y => decide (y.2 ≤ now)) = (A.filter fun y => decide (y.2 ≤ now)).erase x := by
                rw [hnd.erase_eq_filter]
                unfold tdel
                rw [List.filter_filter, List.filter_filter]
                refine List.filter_congr fun y hy => ?_
                by_cases hyx : y.1 = x.1
                · have : y.2 = x.2 := by
                    have a1 := (tget_some hn).2 (show (x.1, y.2) ∈ A by rw [← hyx]; exact hy)
                    have a2 := (tget_some hn).2 (show (x.1, x.2) ∈ A from hm.1)
                    rw [a1] at a2; exact Option.some.inj a2
                  have : y = x := Prod.ext hyx this
                  simp [this]
                · have : y ≠ x := fun e => hyx (by rw [e])
                  simp [hyx, this]
              rw [hxA2] at hp
              exact (List.Perm.cons x hp).trans (List.perm_cons_erase hxmem).symm
        · intro hg
          rw [tget_none] at hg
          exact absurd (List.mem_map_of_mem hm.1) hg
      · have hd' : x.2 > now := by omega
        simp only [decide_eq_true hd', pick_false, opt_some, cnd_true]
        have hall : ∀ y ∈ A, now < y.2 := fun y hy => by
          have := hm.2 y hy
          unfold tlt at this; omega
        have f1 : A.filter (fun y => decide (y.2 ≤ now)) = [] := List.filter_eq_nil_iff.2 fun y hy => by
          have := hall y hy
          simp; omega
        have f2 : A.filter (fun y => decide (now < y.2)) = A := List.filter_eq_self.2 fun y hy => by simpa using hall y hy
        refine hk [] H1 c bk bka v List.Pairwise.nil (by rw [f1]) (by rw [f2]; exact h1) hx01 hbk hc hcs (by simpa using ho1) hb
/-- Due. -/
theorem rtim_due {H : Hp} {p o : Nat} {c : Array Value} {T : TypeId} {A : TL} {bk : Option Nat} (h : RT H p o c T A bk) (hn : (A.map (·.1)).Nodup) {now : Int} {K : Value → HPred} (hmax : A.length < 2 ^ 30)
    (hk : ∀ (D : TL) H' c' bk' bka v, D.Pairwise tlt → D.Perm (A.filter fun x => decide (x.2 ≤ now)) → RT2 H H' p o c T (A.filter fun x => decide (now < x.2)) bk c' bk' →
      OwnS H' v 3 1 D.length (D.map fun x => .int .i64 x.1) bka → (∀ b, bka = some b → H.size ≤ b ∧ bk' ≠ some b) → K v H') :
    callF Tryz.prog 89 [.pointer (some ⟨p, o, none⟩), .int .i64 now] K H := by
  refine f89.call ?_
  have hb0 : ∀ b, bk = some b → b < H.size := fun b e => by obtain ⟨v, _, ho⟩ := h.sl; rw [e] at ho; exact ho.lt
  refine due_loop (c0 := c) (blk_lt h.blk) hb0 A.length A [] H c bk none _ (Nat.le_refl _) (by simpa using hmax) hn h (Ext.refl _ _) (.inl rfl) (fun _ _ => rfl) rfl (OwnS.nil _ _ _) (by intro b e; cases e) ?_
  intro D2 H' c' bk' bka' v' hs hp hrt hx hbk' hc hcs ho hb
  exact hk D2 H' c' bk' bka' v' hs hp ⟨hrt, hx, hbk', hc, hcs⟩ (by simpa using ho) hb

end Go.Proofs.YtnnheophehnioaaGreat
namespace Go.Sx
variable {P : Program}

@[congr] theorem opt_cg {o o' : Option Value} {K : Value → HPred} (h : o = o') {H : Hp} : opt o K H = opt o' K H := by rw [h]
@[congr] theorem rd_cg {f f' : Hp → Option Value} {K : Value → HPred} (h : f = f') {H : Hp} : rd f K H = rd f' K H := by rw [h]
@[congr] theorem rdo_cg {x x' : Option Obj} {o o' : Nat} {K : Value → HPred} {H : Hp} (h : x = x') (h2 : o = o') : rdo x o K H = rdo x' o' K H := by rw [h, h2]
@[congr] theorem rdso_cg {x x' : Option Obj} {o o' n : Nat} {K : Value → HPred} {H : Hp} (h : x = x') (h2 : o = o') : rdso x o n K H = rdso x' o' n K H := by rw [h, h2]
@[congr] theorem st_cg {x x' v v' : Value} {C : HPred} (h : x = x') (h2 : v = v') {H : Hp} : st x v C H = st x' v' C H := by rw [h, h2]
@[congr] theorem sto_cg {x x' : Option Obj} {b b' o o' : Nat} {v v' : Value} {C : HPred} {H : Hp} (h : x = x') (h1 : b = b') (h2 : o = o') (h3 : v = v') : sto x b o v C H = sto x' b' o' v' C H := by rw [h, h1, h2, h3]
@[congr] theorem stc_cg {t t' : Bool} {x x' : Option Value} {p : Prop} (h : t = t') (h2 : x = x') : stc t x p = stc t' x' p := by rw [h, h2]
@[congr] theorem stA_cg {x x' v v' : Value} {n : Nat} {C : HPred} (h : x = x') (h2 : v = v') {H : Hp} : stA x n v C H = stA x' n v' C H := by rw [h, h2]
@[congr] theorem stAo_cg {x x' : Option Obj} {b b' o o' n : Nat} {cs cs' : Array Value} {C : HPred} {H : Hp} (h : x = x') (h1 : b = b') (h2 : o = o') (h3 : cs = cs') : stAo x b o n cs C H = stAo x' b' o' n cs' C H := by rw [h, h1, h2, h3]
@[congr] theorem cnd_cg {c c' : Value} {A B : HPred} (h : c = c') {H : Hp} : cnd c A B H = cnd c' A B H := by rw [h]
@[congr] theorem grdK_cg {g g' : Value} {w : Bool} {A : (Value → HPred) → HPred} {K : Value → HPred} (h : g = g') {H : Hp} : grdK g w A K H = grdK g' w A K H := by rw [h]
@[congr] theorem newC_cg {c c' : Array Value} {T : TypeId} {K : Value → HPred} (h : c = c') {H : Hp} : newC c T K H = newC c' T K H := by rw [h]
@[congr] theorem boxM_cg {T : TypeId} {v v' : Value} {K : Value → HPred} (h : v = v') {H : Hp} : boxM T v K H = boxM T v' K H := by rw [h]
@[congr] theorem callF_cg {f : FuncId} {a a' : List Value} {K : Value → HPred} (h : a = a') {H : Hp} : callF P f a K H = callF P f a' K H := by rw [h]
@[congr] theorem callV_cg {f f' : Value} {a a' : List Value} {K : Value → HPred} (h0 : f = f') (h : a = a') {H : Hp} : callV P f a K H = callV P f' a' K H := by rw [h0, h]
@[congr] theorem callI_cg {r r' : Value} {n : String} {a a' : List Value} {K : Value → HPred} (h0 : r = r') (h : a = a') {H : Hp} : callI P r n a K H = callI P r' n a' K H := by rw [h0, h]
@[congr] theorem blt_cg {b : Builtin} {ts : Array TypeId} {ty : TypeId} {cs : Array Bool} {a a' : List Value} {K : Value → HPred} (h : a = a') {H : Hp} : blt P b ts ty cs a K H = blt P b ts ty cs a' K H := by rw [h]
@[congr] theorem tot_cg {s s' : Sem Value} {K : Value → HPred} (h : s = s') {H : Hp} : tot P s K H = tot P s' K H := by rw [h]
@[congr] theorem unitT_cg {s s' : Sem Unit} {K : Value → HPred} (h : s = s') {H : Hp} : unitT P s K H = unitT P s' K H := by rw [h]

/-! The rules once more, with proofs that are kept. -/
theorem opt_some' (v : Value) (K : Value → HPred) : opt (some v) K = K v := by rw [opt_some]
theorem nilV_ptr' (a : Addr) : nilV (.pointer (some a)) = some (.pointer (some a)) := by rw [nilV_ptr]
theorem extV_tuple' (vs : Array Value) (i : Nat) : extV (.tuple vs) i = vs.toList[i]? := by rw [extV_tuple]
theorem pick_true' (a b : Value) : pickV (.bool true) a b = some a := by rw [pick_true]
theorem pick_false' (a b : Value) : pickV (.bool false) a b = some b := by rw [pick_false]
theorem cnd_true' (A B : HPred) : cnd (.bool true) A B = A := by rw [cnd_true]
theorem cnd_false' (A B : HPred) : cnd (.bool false) A B = B := by rw [cnd_false]
theorem grd_tt' (A : (Value → HPred) → HPred) (K : Value → HPred) : grdK (.bool true) true A K = A K := by rw [grd_tt]
theorem grd_tf' (A : (Value → HPred) → HPred) (K : Value → HPred) : grdK (.bool true) false A K = K undef := by rw [grd_tf]
theorem grd_ft' (A : (Value → HPred) → HPred) (K : Value → HPred) : grdK (.bool false) true A K = K undef := by rw [grd_ft]
theorem grd_ff' (A : (Value → HPred) → HPred) (K : Value → HPred) : grdK (.bool false) false A K = A K := by rw [grd_ff]
theorem grd_u' (b : Bool) (A : (Value → HPred) → HPred) (K : Value → HPred) : grdK undef b A K = K undef := by rw [grd_u]
theorem un_not' (b : Bool) : pureRun P (Op.unary .not (.bool b)) = some (.bool (!b)) := by rw [un_not]
theorem rdo_cells' (c : Array Value) (T : TypeId) (fz : Nat × Nat) (o : Nat) (K : Value → HPred) (H : Hp) : rdo (some (.cells c T fz)) o K H = opt c[o]? K H := by rw [rdo_cells]
theorem stc_ok' (x : Value) (p : Prop) : stc true (some x) p = p := by rw [stc_ok]
theorem boxM_eq' (T : TypeId) (v : Value) (K : Value → HPred) (H : Hp) : boxM T v K H = K (.pointer (some ⟨H.size, 0, none⟩)) (H.push (.cells v.cells T)) := by rw [boxM_eq]
theorem newC_eq' (cells : Array Value) (T : TypeId) (K : Value → HPred) (H : Hp) : newC cells T K H = K (.pointer (some ⟨H.size, 0, none⟩)) (H.push (.cells cells T)) := by rw [newC_eq]
theorem chk_eq' (I C : HPred) (H : Hp) : chk I C H = (I H ∧ C H) := by rw [chk_eq]

end Go.Sx
