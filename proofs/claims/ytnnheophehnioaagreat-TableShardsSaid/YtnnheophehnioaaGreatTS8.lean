/-
  Part 8 of the proof: contracts of the functions that the law reaches, and the rules they stand on. Own work (an AI agent). No conditions.
-/
import Derived.Test.YtnnheophehnioaaGreatTS7
set_option linter.unusedSimpArgs false
set_option linter.unusedVariables false
namespace Go.Proofs.YtnnheophehnioaaGreat
open Go.Sx Go.Proofs Go.Gm
set_option maxRecDepth 100000

def gameC : List (Int × Int) := [(2, 0), (16, 0), (4, 0), (3, 0)]
theorem codeC_ok : codeE gameC = 0 := by
  unfold codeE
  rw [if_neg (by simp [gameC]), if_pos]
  intro x hx
  simp [gameC] at hx
  rcases hx with rfl | rfl | rfl | rfl <;> (unfold mayP R32; simp [gameC])
theorem gameC_ok : gameE gameC 6 9 = 0 := by
  unfold gameE
  rw [codeC_ok]
  simp
theorem bld_ins (a : Int) : pureRun Tryz.prog (Instr.build 101 #[(0, .int .i64 a)]) = some (.agg #[.int .i64 a, .int .i64 0]) := by kernel_rfl
theorem bs_game (K : Value → HPred) (H : Hp) : tot Tryz.prog (Instr.buildSlice 33 4 #[(0, .agg #[.int .i64 2, .int .i64 0]), (1, .agg #[.int .i64 16, .int .i64 0]), (2, .agg #[.int .i64 4, .int .i64 0]), (3, .agg #[.int .i64 3, .int .i64 0])]) K H =
    K (.slice (some ⟨H.size, 0, none⟩) 4 4) (H.push (.cells #[.int .i64 2, .int .i64 0, .int .i64 16, .int .i64 0, .int .i64 4, .int .i64 0, .int .i64 3, .int .i64 0] 101)) := by kernel_rfl
theorem bld_game (a : Option Addr) (n c : Nat) : pureRun Tryz.prog (Instr.build 35 #[(0, .slice a n c), (1, .int .i64 6), (2, .int .i64 9)]) = some (.agg #[.slice a n c, .int .i64 6, .int .i64 9]) := by kernel_rfl
section
variable {R : SP} {F : Nat → Prop} {H : Hp}
/-- game. -/
theorem game_ok (h : R.holds F H) {K : Value → HPred} (hk : ∀ v H' F', (sliS v 101 2 gameC.length (gameC.flatMap encI) * R).holds F' H' → Gr F H F' H' → K (.agg #[v, .int .i64 6, .int .i64 9]) H') : callF Tryz.prog 9 [] K H := by
  refine f9.call ?_
  simp only [f9.b, bld_ins, nilV_ptr', offV_ptr, opt_some', extV_tuple', List.getElem?_cons_zero, List.getElem?_cons_succ, List.getElem?_toArray, cnd_true', cnd_false', grd_tt', grd_tf', grd_ft', grd_ff', grd_u', pick_true', pick_false', un_not', Bool.not_true, Bool.not_false, Nat.add_zero, Nat.zero_add, Nat.reduceAdd, int_eql, int_neq, int_lss, int_leq, int_gtr, int_geq, rd_go, rdo_cells', rds_go, st_go, sto_cells, stc_ok', stA_go, stAo_all, stAo_allL, rdso_all, upd_push_top, one_int, one_bool, one_ptr, one_slice, one_map, one_func, one_iface, boxM_eq', newC_eq', Value.cells, push_get_new, push_size, upd_size, List.size_toArray, List.toList_toArray, List.length_cons, List.length_nil, List.all_cons, List.all_nil, Bool.and_self, Bool.and_true, decide_true, decide_false, bs_game]
  obtain ⟨F1, h1, g1⟩ := blk_new h (.cells #[.slice none 0 0, .int .i64 0, .int .i64 0] 35)
  obtain ⟨F2, h2, g2⟩ := sli_new h1 #[.int .i64 2, .int .i64 0, .int .i64 16, .int .i64 0, .int .i64 4, .int .i64 0, .int .i64 3, .int .i64 0] 101 2 4 rfl
  rw [show ∀ a b : SP, a * (b * R) = b * (a * R) by intro a b; ac_rfl] at h2
  have hz := blk_get h2
  simp only [bld_game, nilV_ptr', offV_ptr, opt_some', extV_tuple', List.getElem?_cons_zero, List.getElem?_cons_succ, List.getElem?_toArray, cnd_true', cnd_false', grd_tt', grd_tf', grd_ft', grd_ff', grd_u', pick_true', pick_false', un_not', Bool.not_true, Bool.not_false, Nat.add_zero, Nat.zero_add, Nat.reduceAdd, int_eql, int_neq, int_lss, int_leq, int_gtr, int_geq, rd_go, rdo_cells', rds_go, st_go, sto_cells, stc_ok', stA_go, stAo_all, stAo_allL, rdso_all, upd_push_top, one_int, one_bool, one_ptr, one_slice, one_map, one_func, one_iface, boxM_eq', newC_eq', Value.cells, push_get_new, push_size, upd_size, List.size_toArray, List.toList_toArray, List.length_cons, List.length_nil, List.all_cons, List.all_nil, Bool.and_self, Bool.and_true, decide_true, decide_false]
  rw [hz, stAo_all (n := 3) (by simp) (by simp) (by simp [oneCell])]
  obtain ⟨h3, g3⟩ := blk_set h2 (.cells #[.slice (some ⟨(H.push (Obj.cells #[Value.slice none 0 0, Value.int .i64 0, Value.int .i64 0] 35)).size, 0, none⟩) 4 4, .int .i64 6, .int .i64 9] 35)
  have hz3 := blk_get h3
  simp only [push_size] at h3 g3 hz3
  simp only [nilV_ptr', offV_ptr, opt_some', extV_tuple', List.getElem?_cons_zero, List.getElem?_cons_succ, List.getElem?_toArray, cnd_true', cnd_false', grd_tt', grd_tf', grd_ft', grd_ff', grd_u', pick_true', pick_false', un_not', Bool.not_true, Bool.not_false, Nat.add_zero, Nat.zero_add, Nat.reduceAdd, int_eql, int_neq, int_lss, int_leq, int_gtr, int_geq, rd_go, rdo_cells', rds_go, st_go, sto_cells, stc_ok', stA_go, stAo_all, stAo_allL, rdso_all, upd_push_top, one_int, one_bool, one_ptr, one_slice, one_map, one_func, one_iface, boxM_eq', newC_eq', Value.cells, push_get_new, push_size, upd_size, List.size_toArray, List.toList_toArray, List.length_cons, List.length_nil, List.all_cons, List.all_nil, Bool.and_self, Bool.and_true, decide_true, decide_false, hz3]
  obtain ⟨F4, h4, g4, -⟩ := SP.right h3
  exact hk _ _ F4 h4 (g1.trans (g2.trans (g3.trans g4)))
def pairO (pt pw : Nat) (now : Int) : Obj := .cells #[ptrQ pt, ptrQ pw, .int .i64 now] 49 (0, 0)
theorem bld_pair (pt pw : Nat) : pureRun Tryz.prog (Instr.build 49 #[(0, ptrQ pt), (1, ptrQ pw)]) = some (.agg #[ptrQ pt, ptrQ pw, .int .i64 0]) := by kernel_rfl
theorem bool_eql (ox oy : Operand) (a b : Bool) : binV Tryz.prog .eql 4 ox oy (.bool a) (.bool b) = some (.bool (a == b)) := by cases a <;> cases b <;> kernel_rfl
/-- start. -/
theorem start23_ok (h : R.holds F H) {tmo : Int} (hok : 1 ≤ tmo ∧ tmo ≤ 1048576) {K : Value → HPred}
    (hk : ∀ H' F' pb pt pw b q, (blkS pb (pairO pt pw 0) * (tabS pt ⟨tmo, 0, 0, fun _ => 0, b, q⟩ (fun _ => []) (fun _ => []) * (rtabS pw tmo [] [] * R))).holds F' H' → Gr F H F' H' → K (.tuple #[ptrQ pb, .bool true]) H') : callF Tryz.prog 14 [.int .i64 tmo] K H := by
  refine f14.call ?_
  unfold f14.b
  refine tnew_ok h hok fun H1 F1 pt b q _ h1 g1 => ?_
  simp only [nilV_ptr', offV_ptr, opt_some', extV_tuple', List.getElem?_cons_zero, List.getElem?_cons_succ, List.getElem?_toArray, cnd_true', cnd_false', grd_tt', grd_tf', grd_ft', grd_ff', grd_u', pick_true', pick_false', un_not', Bool.not_true, Bool.not_false, Nat.add_zero, Nat.zero_add, Nat.reduceAdd, int_eql, int_neq, int_lss, int_leq, int_gtr, int_geq, rd_go, rdo_cells', rds_go, st_go, sto_cells, stc_ok', stA_go, stAo_all, stAo_allL, rdso_all, upd_push_top, one_int, one_bool, one_ptr, one_slice, one_map, one_func, one_iface, boxM_eq', newC_eq', Value.cells, push_get_new, push_size, upd_size, List.size_toArray, List.toList_toArray, List.length_cons, List.length_nil, List.all_cons, List.all_nil, Bool.and_self, Bool.and_true, decide_true, decide_false]
  refine rtnew_ok h1 hok fun H2 F2 pw _ h2 g2 => ?_
  obtain ⟨F3, h3, g3⟩ := blk_new h2 (pairO pt pw 0)
  have bp := bld_pair pt pw
  simp only [nilV_ptr', offV_ptr, opt_some', extV_tuple', List.getElem?_cons_zero, List.getElem?_cons_succ, List.getElem?_toArray, cnd_true', cnd_false', grd_tt', grd_tf', grd_ft', grd_ff', grd_u', pick_true', pick_false', un_not', Bool.not_true, Bool.not_false, Nat.add_zero, Nat.zero_add, Nat.reduceAdd, int_eql, int_neq, int_lss, int_leq, int_gtr, int_geq, rd_go, rdo_cells', rds_go, st_go, sto_cells, stc_ok', stA_go, stAo_all, stAo_allL, rdso_all, upd_push_top, one_int, one_bool, one_ptr, one_slice, one_map, one_func, one_iface, boxM_eq', newC_eq', Value.cells, push_get_new, push_size, upd_size, List.size_toArray, List.toList_toArray, List.length_cons, List.length_nil, List.all_cons, List.all_nil, Bool.and_self, Bool.and_true, decide_true, decide_false, bp]
  simp only [ptrQ, nilV_ptr', offV_ptr, opt_some', extV_tuple', List.getElem?_cons_zero, List.getElem?_cons_succ, List.getElem?_toArray, cnd_true', cnd_false', grd_tt', grd_tf', grd_ft', grd_ff', grd_u', pick_true', pick_false', un_not', Bool.not_true, Bool.not_false, Nat.add_zero, Nat.zero_add, Nat.reduceAdd, int_eql, int_neq, int_lss, int_leq, int_gtr, int_geq, rd_go, rdo_cells', rds_go, st_go, sto_cells, stc_ok', stA_go, stAo_all, stAo_allL, rdso_all, upd_push_top, one_int, one_bool, one_ptr, one_slice, one_map, one_func, one_iface, boxM_eq', newC_eq', Value.cells, push_get_new, push_size, upd_size, List.size_toArray, List.toList_toArray, List.length_cons, List.length_nil, List.all_cons, List.all_nil, Bool.and_self, Bool.and_true, decide_true, decide_false, ptr_eq_nil Tryz.underlying24, Option.isNone_some, bool_eql, beq_self_eq_true]
  refine hk _ F3 H2.size pt pw b q ?_ (g1.trans (g2.trans g3))
  rw [show ∀ a b c : SP, a * (b * (c * R)) = a * (c * (b * R)) by intro a b c; ac_rfl]
  exact h3
def ev3 : Ev := ⟨1, 4, 9, 0, 0, 5⟩
def ct3 : Ct := ((Ct.new gameC 6 9).openP ev3).addEv ev3
theorem ev3_ok : openOk ev3 := by unfold openOk ev3; simp
theorem bld_ev3 : pureRun Tryz.prog (Instr.build 53 #[(0, .int .i64 1), (1, .int .i64 4), (2, .int .i64 9), (5, .int .i64 5)]) = some (evV ev3) := by kernel_rfl
theorem ct3_played : playedP ct3 = true := rfl
/-- A match laid at 3. -/
theorem lay3_ok {pb pt pw : Nat} {b q : Nat → Nat} {now : Int} (hnow : 0 ≤ now ∧ now ≤ 1000)
    (h : (blkS pb (pairO pt pw now) * (tabS pt ⟨5, 0, 0, fun _ => 0, b, q⟩ (fun _ => []) (fun _ => []) * (rtabS pw 5 [] [] * R))).holds F H) {K : Value → HPred}
    (hk : ∀ H' F' q1 q2, (blkS pb (pairO pt pw now) * (tabS pt ⟨5, 0, 1, fun _ => 0, b, q⟩ (fupd (fun _ => []) 3 [(3, ptrQ q1)]) (fupd (fun _ => []) 3 [(3, now + 5)]) * (rtabS pw 5 [(3, q2)] [(3, now + 5)] * (conS q1 ct3 * (rconS q2 ct3 * R))))).holds F' H' → Gr F H F' H' → K (.bool true) H') :
    callF Tryz.prog 23 [ptrQ pb, .int .i64 3, .bool true] K H := by
  refine f23.call ?_
  unfold f23.b
  refine game_ok h fun v1 H1 F1 h1 g1 => ?_
  refine cnew_ok (code := gameC) h1 (sli_lies h1) (by simp [gameC]) (fun _ H2 F2 q1 _ h2 g2 => ?_) (fun hne => absurd gameC_ok hne)
  simp only [nilV_ptr', offV_ptr, opt_some', extV_tuple', List.getElem?_cons_zero, List.getElem?_cons_succ, List.getElem?_toArray, cnd_true', cnd_false', grd_tt', grd_tf', grd_ft', grd_ff', grd_u', pick_true', pick_false', un_not', Bool.not_true, Bool.not_false, Nat.add_zero, Nat.zero_add, Nat.reduceAdd, int_eql, int_neq, int_lss, int_leq, int_gtr, int_geq, rd_go, rdo_cells', rds_go, st_go, sto_cells, stc_ok', stA_go, stAo_all, stAo_allL, rdso_all, upd_push_top, one_int, one_bool, one_ptr, one_slice, one_map, one_func, one_iface, boxM_eq', newC_eq', Value.cells, push_get_new, push_size, upd_size, List.size_toArray, List.toList_toArray, List.length_cons, List.length_nil, List.all_cons, List.all_nil, Bool.and_self, Bool.and_true, decide_true, decide_false]
  refine game_ok h2 fun v3 H3 F3 h3 g3 => ?_
  refine rcnew_ok h3 gameC_ok fun H4 F4 q2 _ h4 g4 => ?_
  have ea : binV Tryz.prog .and 3 (Go.Operand.tmp 29) (Go.Operand.const (Go.Value.int Go.IntKind.i64 7)) (.int .i64 3) (.int .i64 7) = some (.int .i64 3) := by kernel_rfl
  have ew : IntKind.i64.wrap (1 + 3) = 4 := (wrap64_id (by omega) (by omega)).trans (by omega)
  have al := evL_all ev3
  have ll := evL_len ev3
  simp (disch := first | assumption | (simp only [List.size_toArray, List.toList_toArray, List.length_cons, List.length_nil, List.all_cons, List.all_nil, oneCell, Bool.and_self, Bool.and_true, Nat.reduceAdd]; done) | (simp only [push_size, upd_size]; done) | (simp only [push_size, upd_size]; omega) | omega) only [ptrQ, nilV_ptr', offV_ptr, opt_some', extV_tuple', List.getElem?_cons_zero, List.getElem?_cons_succ, List.getElem?_toArray, cnd_true', cnd_false', grd_tt', grd_tf', grd_ft', grd_ff', grd_u', pick_true', pick_false', un_not', Bool.not_true, Bool.not_false, Nat.add_zero, Nat.zero_add, Nat.reduceAdd, int_eql, int_neq, int_lss, int_leq, int_gtr, int_geq, rd_go, rdo_cells', rds_go, st_go, sto_cells, stc_ok', stA_go, stAo_all, stAo_allL, rdso_all, upd_push_top, one_int, one_bool, one_ptr, one_slice, one_map, one_func, one_iface, boxM_eq', newC_eq', Value.cells, push_get_new, push_size, upd_size, List.size_toArray, List.toList_toArray, List.length_cons, List.length_nil, List.all_cons, List.all_nil, Bool.and_self, Bool.and_true, decide_true, decide_false, push_get_old, push_get_eq, upd_push_old, upd_push_eq, upd_get_self, upd_get_ne, ptr_eq_nil Tryz.underlying30, Option.isNone_some]
  rw [ea, opt_some, int_add, opt_some, ew, bld_ev3, opt_some, newC_eq]
  unfold evV
  obtain ⟨F5, h5, g5⟩ := blk_new h4 (.cells (evL ev3).toArray 53)
  rw [stA_go, push_new, stAo_allL ll rfl al, upd_push_top]
  simp (disch := first | assumption | (simp only [List.size_toArray, List.toList_toArray, List.length_cons, List.length_nil, List.all_cons, List.all_nil, oneCell, Bool.and_self, Bool.and_true, Nat.reduceAdd]; done) | (simp only [push_size, upd_size]; done) | (simp only [push_size, upd_size]; omega) | omega) only [nilV_ptr', offV_ptr, opt_some', extV_tuple', List.getElem?_cons_zero, List.getElem?_cons_succ, List.getElem?_toArray, cnd_true', cnd_false', grd_tt', grd_tf', grd_ft', grd_ff', grd_u', pick_true', pick_false', un_not', Bool.not_true, Bool.not_false, Nat.add_zero, Nat.zero_add, Nat.reduceAdd, int_eql, int_neq, int_lss, int_leq, int_gtr, int_geq, rd_go, rdo_cells', rds_go, st_go, sto_cells, stc_ok', stA_go, stAo_all, stAo_allL, rdso_all, upd_push_top, one_int, one_bool, one_ptr, one_slice, one_map, one_func, one_iface, boxM_eq', newC_eq', Value.cells, push_get_new, push_size, upd_size, List.size_toArray, List.toList_toArray, List.length_cons, List.length_nil, List.all_cons, List.all_nil, Bool.and_self, Bool.and_true, decide_true, decide_false]
  have hz5 := blk_get h5
  have e6 : (evL ev3).toArray.size = 6 := by simp [evL]
  rw [show ∀ a b c d : SP, a * (b * (c * d)) = c * (a * (b * d)) by intro a b c d; ac_rfl] at h5
  refine applyOpen_ok h5 ev3_ok rfl rfl rfl rfl (by simp [Ct.new]) fun H6 F6 h6 g6 => ?_
  rw [show ∀ a b c d : SP, a * (b * (c * d)) = b * (c * (a * d)) by intro a b c d; ac_rfl] at h6
  have hz6 := blk_get h6
  simp only [nilV_ptr', offV_ptr, opt_some', extV_tuple', List.getElem?_cons_zero, List.getElem?_cons_succ, List.getElem?_toArray, cnd_true', cnd_false', grd_tt', grd_tf', grd_ft', grd_ff', grd_u', pick_true', pick_false', un_not', Bool.not_true, Bool.not_false, Nat.add_zero, Nat.zero_add, Nat.reduceAdd, int_eql, int_neq, int_lss, int_leq, int_gtr, int_geq, rd_go, rdo_cells', rds_go, st_go, sto_cells, stc_ok', stA_go, stAo_all, stAo_allL, rdso_all, upd_push_top, one_int, one_bool, one_ptr, one_slice, one_map, one_func, one_iface, boxM_eq', newC_eq', Value.cells, push_get_new, push_size, upd_size, List.size_toArray, List.toList_toArray, List.length_cons, List.length_nil, List.all_cons, List.all_nil, Bool.and_self, Bool.and_true, decide_true, decide_false, hz6]
  rw [rdso_all e6]
  rw [show ∀ a b c d : SP, a * (b * (c * d)) = b * (a * (c * d)) by intro a b c d; ac_rfl] at h6
  refine rapplyOpen_ok h6 ev3_ok rfl rfl rfl rfl (by simp [Ct.new]) fun H7 F7 h7 g7 => ?_
  obtain ⟨F8, h8, g8⟩ : ∃ F8, (blkS pb (pairO pt pw now) * (tabS pt ⟨5, 0, 0, fun _ => 0, b, q⟩ (fun _ => []) (fun _ => []) * (rtabS pw 5 [] [] * (conS q1 ct3 * (rconS q2 ct3 * R))))).holds F8 H7 ∧ Gr F7 H7 F8 H7 := by
    rw [show ∀ a b c d e f g : SP, a * (b * (c * (d * (e * (f * (g * R)))))) = b * (d * (e * (f * (g * (c * (a * R)))))) by intro a b c d e f g; ac_rfl] at h7
    obtain ⟨F9, h9, g9, -⟩ := SP.right h7
    obtain ⟨F10, h10, g10, -⟩ := SP.right h9
    exact ⟨F10, h10, g9.trans g10⟩
  have g08 := g1.trans (g2.trans (g3.trans (g4.trans (g5.trans (g6.trans (g7.trans g8))))))
  refine f23.b9_ok ?_
  have hp8 := blk_get h8
  unfold pairO at hp8
  simp only [f23.b9, nilV_ptr', offV_ptr, opt_some', extV_tuple', List.getElem?_cons_zero, List.getElem?_cons_succ, List.getElem?_toArray, cnd_true', cnd_false', grd_tt', grd_tf', grd_ft', grd_ff', grd_u', pick_true', pick_false', un_not', Bool.not_true, Bool.not_false, Nat.add_zero, Nat.zero_add, Nat.reduceAdd, int_eql, int_neq, int_lss, int_leq, int_gtr, int_geq, rd_go, rdo_cells', rds_go, st_go, sto_cells, stc_ok', stA_go, stAo_all, stAo_allL, rdso_all, upd_push_top, one_int, one_bool, one_ptr, one_slice, one_map, one_func, one_iface, boxM_eq', newC_eq', Value.cells, push_get_new, push_size, upd_size, List.size_toArray, List.toList_toArray, List.length_cons, List.length_nil, List.all_cons, List.all_nil, Bool.and_self, Bool.and_true, decide_true, decide_false, ptrQ, hp8]
  rw [show ∀ a b c d : SP, a * (b * (c * (d * (rconS q2 ct3 * R)))) = b * (d * (a * (c * (rconS q2 ct3 * R)))) by intro a b c d; ac_rfl] at h8
  refine lay_ok h8 (by omega) (fun _ _ => rfl) rfl ⟨Int.le_refl _, by simp⟩ (by simp) (by simp; omega) (fun i _ k v hv => by simp [mget] at hv) (fun hne => by simp [mget] at hne) (fun _ hc => by simp at hc) ?_
  intro _ _ H9 F9 h9 g9
  rw [show ∀ a b c d : SP, a * (b * (c * (d * (rconS q2 ct3 * R)))) = c * (a * (b * (d * (rconS q2 ct3 * R)))) by intro a b c d; ac_rfl] at h9
  have hp9 := blk_get h9
  unfold pairO at hp9
  rw [k_chkc hp9 (by rfl), k_chkc hp9 (by rfl)]
  rw [show ∀ a b c d : SP, a * (b * (c * (d * (rconS q2 ct3 * R)))) = d * (rconS q2 ct3 * (a * (b * (c * R)))) by intro a b c d; ac_rfl] at h9
  refine rlay_ok h9 (fun h hk => rplayed0_ok h rfl rfl gameC_ok hk) (by simp) (by omega) (.inr (by simp)) (by simp) (by omega) (by simp) (fun hne => by simp [rget] at hne) (fun _ e => by simp at e) ?_
  intro _ _ H10 F10 h10 g10
  simp only [nilV_ptr', offV_ptr, opt_some', extV_tuple', List.getElem?_cons_zero, List.getElem?_cons_succ, List.getElem?_toArray, cnd_true', cnd_false', grd_tt', grd_tf', grd_ft', grd_ff', grd_u', pick_true', pick_false', un_not', Bool.not_true, Bool.not_false, Nat.add_zero, Nat.zero_add, Nat.reduceAdd, int_eql, int_neq, int_lss, int_leq, int_gtr, int_geq, rd_go, rdo_cells', rds_go, st_go, sto_cells, stc_ok', stA_go, stAo_all, stAo_allL, rdso_all, upd_push_top, one_int, one_bool, one_ptr, one_slice, one_map, one_func, one_iface, boxM_eq', newC_eq', Value.cells, push_get_new, push_size, upd_size, List.size_toArray, List.toList_toArray, List.length_cons, List.length_nil, List.all_cons, List.all_nil, Bool.and_self, Bool.and_true, decide_true, decide_false]
  refine hk _ F10 q1 q2 ?_ (g08.trans (g9.trans g10))
  have e1 : rins [] 3 q2 = [(3, q2)] := rfl
  have e2 : timesP ct3 [] 3 (now + 5) = [(3, now + 5)] := by unfold timesP; rw [ct3_played]; rfl
  have e3 : shd 3 = 3 := rfl
  have e4 : mput ([] : List (Int × Value)) 3 (ptrQ q1) = [(3, ptrQ q1)] := rfl
  simp only [e1, e2, e3, e4] at h10
  rw [show ∀ a b c d : SP, a * (b * (c * (d * (rconS q2 ct3 * R)))) = c * (rconS q2 ct3 * (a * (b * (d * R)))) by intro a b c d; ac_rfl]
  exact h10
end

end Go.Proofs.YtnnheophehnioaaGreat
namespace Go.Proofs.YtnnheophehnioaaGreat
open Go.Sx Go.Proofs Go.Gm
set_option maxRecDepth 100000

section
variable {now at' : Int} {lf : Int → Int} {ctOf : Int → Ct}
theorem dueR_end {T T' : Nat → TL} {L L' : List Due} (h : DueR now at' lf ctOf 4 T L T' L') : T' = T ∧ L' = L := by
  cases h with
  | done => exact ⟨rfl, rfl⟩
  | step i _ _ D _ _ hi => omega
theorem dueR_skip {k : Nat} (hk : k < 4) {T T' : Nat → TL} {L' : List Due} (h1 : (T k).filter (fun x => decide (x.2 ≤ now)) = []) (h2 : (T k).filter (fun x => decide (now < x.2)) = T k)
    (h : DueR now at' lf ctOf k T [] T' L') : DueR now at' lf ctOf (k + 1) T [] T' L' := by
  cases h with
  | done => omega
  | step i _ _ D _ _ hi hs hp hr =>
    rw [h1] at hp
    have hD := hp.eq_nil
    subst hD
    rw [h2, fupd_id] at hr
    exact hr
theorem dueR_none {T T' : Nat → TL} {L' : List Due} (h1 : ∀ k, k < 4 → (T k).filter (fun x => decide (x.2 ≤ now)) = []) (h2 : ∀ k, k < 4 → (T k).filter (fun x => decide (now < x.2)) = T k)
    (h : DueR now at' lf ctOf 0 T [] T' L') : T' = T ∧ L' = [] :=
  dueR_end (dueR_skip (by omega) (h1 3 (by omega)) (h2 3 (by omega)) (dueR_skip (by omega) (h1 2 (by omega)) (h2 2 (by omega)) (dueR_skip (by omega) (h1 1 (by omega)) (h2 1 (by omega)) (dueR_skip (by omega) (h1 0 (by omega)) (h2 0 (by omega)) h))))
theorem dueR_last {T T' : Nat → TL} {L' : List Due} {x : Int × Int} (h0 : ∀ k, k < 3 → T k = []) (h3 : T 3 = [x]) (hx : x.2 ≤ now) (h : DueR now at' lf ctOf 0 T [] T' L') : L' = [⟨x.2, x.1, lf x.1⟩] := by
  have f : ∀ k, k < 3 → (T k).filter (fun x => decide (x.2 ≤ now)) = [] ∧ (T k).filter (fun x => decide (now < x.2)) = T k := fun k hk => by rw [h0 k hk]; exact ⟨rfl, rfl⟩
  have h := dueR_skip (by omega) (f 2 (by omega)).1 (f 2 (by omega)).2 (dueR_skip (by omega) (f 1 (by omega)).1 (f 1 (by omega)).2 (dueR_skip (by omega) (f 0 (by omega)).1 (f 0 (by omega)).2 h))
  cases h with
  | step i _ _ D _ _ hi hs hp hr =>
    have e : (T (0 + 1 + 1 + 1)).filter (fun x => decide (x.2 ≤ now)) = [x] := by
      show (T 3).filter _ = _
      rw [h3]; simp [hx]
    rw [e] at hp
    have hD := List.perm_singleton.1 hp
    subst hD
    exact (dueR_end hr).2
end
theorem owes_ct3 (pl : Int) : owesP ct3 pl = owesC ct3 pl := by
  have n0 : ct3.n0 = 0 := rfl
  have n1 : ct3.n1 = 0 := rfl
  unfold owesP owesC
  rw [n0, n1]
  simp
  rw [Bool.and_comm]
theorem late_ct3 : lateP ct3 = 9 := rfl
def T3 : Nat → TL := fupd (fun _ => []) 3 [(3, 5)]
theorem T3_3 : T3 3 = [(3, 5)] := rfl
theorem T3_ne {k : Nat} (h : k < 3) : T3 k = [] := fupd_ne _ _ (by omega)
def tb3 (b q : Nat → Nat) : Tb := ⟨5, 0, 1, fun _ => 0, b, q⟩
def M3 (q1 : Nat) : Nat → List (Int × Value) := fupd (fun _ => []) 3 [(3, ptrQ q1)]
section
variable {R : SP} {F : Nat → Prop} {H : Hp}
/-- Due of the one match, at whatever time. -/
theorem due3_ok {pt q1 : Nat} {b q : Nat → Nat} {now : Int} (hnow : 0 ≤ now ∧ now ≤ 1000) (h : (tabS pt (tb3 b q) (M3 q1) T3 * (conS q1 ct3 * R)).holds F H) {K : Value → HPred}
    (h0 : now < 5 → ∀ w H' F', (sliS w 73 2 0 [] * (tabS pt (tb3 b q) (M3 q1) T3 * (conS q1 ct3 * R))).holds F' H' → Gr F H F' H' → K w H')
    (h1 : 5 ≤ now → ∀ w H' F', (sliS w 73 2 1 [.int .i64 3, .int .i64 9] * R).holds F' H' → Gr F H F' H' → K w H') : callF Tryz.prog 13 [ptrQ pt, .int .i64 now] K H := by
  have hr : ∀ {r : Row3}, r ∈ [((3 : Int), q1, ct3)] → r = (3, q1, ct3) := fun h => by simpa using h
  have eR : conR [((3 : Int), q1, ct3)] = conS q1 ct3 := by unfold conR; simp [stars, SP.star_emp]
  have none4 : now < 5 → ∀ T' L', DueR now (now + 5) (fun _ => 9) (fun _ => ct3) 0 T3 [] T' L' → T' = T3 ∧ L' = [] := by
    intro hn T' L' hd
    refine dueR_none (fun k hk => ?_) (fun k hk => ?_) hd
    · by_cases h3 : k < 3
      · rw [T3_ne h3]; rfl
      · obtain rfl : k = 3 := by omega
        rw [T3_3]; have : ¬ (5 : Int) ≤ now := by omega
        simp [this]
    · by_cases h3 : k < 3
      · rw [T3_ne h3]; rfl
      · obtain rfl : k = 3 := by omega
        rw [T3_3]; simp [hn]
  have one5 : 5 ≤ now → ∀ T' L', DueR now (now + 5) (fun _ => 9) (fun _ => ct3) 0 T3 [] T' L' → L' = [⟨5, 3, 9⟩] := fun hn T' L' hd => dueR_last (x := (3, 5)) (fun k hk => T3_ne hk) T3_3 hn hd
  refine due1_ok (t := tb3 b q) (rows := [((3 : Int), q1, ct3)]) (now := now) (lf := fun _ => 9) (fun r h => by rw [hr h]; exact late_ct3.symm) (ctOf := fun _ => ct3) (fun r h => by rw [hr h]) ?_ (fun r h => by rw [hr h]; show (0 : Int) ≤ 3; omega)
    (by show -2 ^ 62 ≤ now + 5 ∧ now + 5 ≤ 2 ^ 62; omega) (fun _ _ => rfl) (N := 1) (by omega) (T := T3) ?_ ?_ ?_ (by rw [eR]; exact h) ?_
  · intro i hi r h hs
    rw [hr h] at hs ⊢
    have : i = 3 := hs.symm
    subst this
    rfl
  · intro j hj
    by_cases h3 : j < 3
    · rw [T3_ne h3]; simp
    · obtain rfl : j = 3 := by omega
      rw [T3_3]; simp
  · intro j hj x hx
    by_cases h3 : j < 3
    · rw [T3_ne h3] at hx; simp at hx
    · obtain rfl : j = 3 := by omega
      rw [T3_3] at hx
      simp at hx
      subst hx
      exact ⟨(3, q1, ct3), by simp, rfl, rfl⟩
  · intro T' L' hd
    by_cases hn : now < 5
    · rw [(none4 hn T' L' hd).2]; simp
    · rw [one5 (by omega) T' L' hd]; simp
  · intro T' L' w H' F' hd h' g'
    rw [eR] at h'
    rw [show ∀ a b c : SP, a * (b * (c * R)) = b * (a * (c * R)) by intro a b c; ac_rfl] at h'
    by_cases hn : now < 5
    · obtain ⟨rfl, rfl⟩ := none4 hn T' L' hd
      exact h0 hn w H' F' h' g'
    · obtain rfl := one5 (by omega) T' L' hd
      rw [show ∀ a b c : SP, a * (b * (c * R)) = b * (c * (a * R)) by intro a b c; ac_rfl] at h'
      obtain ⟨F1, h1', g1', -⟩ := SP.right h'
      obtain ⟨F2, h2', g2', -⟩ := SP.right h1'
      exact h1 (by omega) w H' F2 h2' (g'.trans (g1'.trans g2'))
theorem rdue3_ok {pw q2 : Nat} (h : (rtabS pw 5 [(3, q2)] [(3, 5)] * (rconS q2 ct3 * R)).holds F H) {K : Value → HPred}
    (h0 : ∀ w H' F', (sliS w 149 2 0 [] * (rtabS pw 5 [(3, q2)] [(3, 5)] * (rconS q2 ct3 * R))).holds F' H' → Gr F H F' H' → K w H') : callF Tryz.prog 66 [ptrQ pw, .int .i64 4] K H := by
  have hr : ∀ {r : Row3}, r ∈ [((3 : Int), q2, ct3)] → r = (3, q2, ct3) := fun h => by simpa using h
  have eR : rconR [((3 : Int), q2, ct3)] = rconS q2 ct3 := by unfold rconR; simp [stars, SP.star_emp]
  refine rdue_ok (tmo := 5) (rows := [((3 : Int), q2, ct3)]) (by simp) ?_ (lf := fun _ => 9) (fun r h => by rw [hr h]; exact late_ct3.symm) (by omega) (by simp) (A := [(3, 5)]) (by simp) (by simp) (by intro x hx; simp at hx; subst hx; exact ⟨(3, q2, ct3), by simp, rfl⟩) (by rw [eR]; exact h) ?_
  · intro r hm R' F' H' K pl h' hk
    rw [hr hm] at h' hk ⊢
    refine rowes0_ok h' rfl rfl rfl rfl gameC_ok pl fun H'' hx => ?_
    rw [owes_ct3]
    exact hk H'' hx
  · intro D w H' F' hs hp h' g'
    have e : ([((3 : Int), (5 : Int))] : TL).filter (fun x => decide (x.2 ≤ 4)) = [] := rfl
    rw [e] at hp
    have hD := hp.eq_nil
    subst hD
    rw [eR, show ∀ a b c : SP, a * (b * (c * R)) = b * (a * (c * R)) by intro a b c; ac_rfl] at h'
    exact h0 w H' F' h' g'
/-- due, ahead of the time. -/
theorem pdue_ok {pb pt pw q1 q2 : Nat} {b q : Nat → Nat} (h : (blkS pb (pairO pt pw 4) * (tabS pt (tb3 b q) (M3 q1) T3 * (rtabS pw 5 [(3, q2)] [(3, 5)] * (conS q1 ct3 * (rconS q2 ct3 * R))))).holds F H) {K : Value → HPred}
    (hk : ∀ H' F', (blkS pb (pairO pt pw 4) * (tabS pt (tb3 b q) (M3 q1) T3 * (rtabS pw 5 [(3, q2)] [(3, 5)] * (conS q1 ct3 * (rconS q2 ct3 * R))))).holds F' H' → Gr F H F' H' → K (.bool true) H') :
    callF Tryz.prog 24 [ptrQ pb] K H := by
  have hb := blk_get h
  unfold pairO at hb
  refine f24.call ?_
  simp only [f24.b, ptrQ, nilV_ptr', offV_ptr, opt_some', extV_tuple', List.getElem?_cons_zero, List.getElem?_cons_succ, List.getElem?_toArray, cnd_true', cnd_false', grd_tt', grd_tf', grd_ft', grd_ff', grd_u', pick_true', pick_false', un_not', Bool.not_true, Bool.not_false, Nat.add_zero, Nat.zero_add, Nat.reduceAdd, int_eql, int_neq, int_lss, int_leq, int_gtr, int_geq, rd_go, rdo_cells', rds_go, st_go, sto_cells, stc_ok', stA_go, stAo_all, stAo_allL, rdso_all, upd_push_top, one_int, one_bool, one_ptr, one_slice, one_map, one_func, one_iface, boxM_eq', newC_eq', Value.cells, push_get_new, push_size, upd_size, List.size_toArray, List.toList_toArray, List.length_cons, List.length_nil, List.all_cons, List.all_nil, Bool.and_self, Bool.and_true, decide_true, decide_false, hb]
  rw [show ∀ a b c d e : SP, a * (b * (c * (d * (e * R)))) = b * (d * (a * (c * (e * R)))) by intro a b c d e; ac_rfl] at h
  refine due3_ok (now := 4) (by omega) h (fun _ w1 H1 F1 h1 g1 => ?_) (fun hn => by omega)
  obtain ⟨a1, c1, rfl⟩ := (sli_lies h1).shape
  rw [show ∀ w a b c d e : SP, w * (a * (b * (c * (d * (e * R))))) = c * (w * (a * (b * (d * (e * R))))) by intro w a b c d e; ac_rfl] at h1
  have hb1 := blk_get h1
  unfold pairO at hb1
  rw [k_chkc hb1 (by rfl), k_chkc hb1 (by rfl)]
  rw [show ∀ w a b c d e : SP, w * (a * (b * (c * (d * (e * R))))) = d * (e * (w * (a * (b * (c * R))))) by intro w a b c d e; ac_rfl] at h1
  refine rdue3_ok h1 fun w2 H2 F2 h2 g2 => ?_
  obtain ⟨a2, c2, rfl⟩ := (sli_lies h2).shape
  have l1 := len_slice (P := Tryz.prog) (ty := 3) (cs := #[false]) (a := a1) (n := 0) (c := c1) Tryz.underlying40
  have l2 := len_slice (P := Tryz.prog) (ty := 3) (cs := #[false]) (a := a2) (n := 0) (c := c2) Tryz.underlying147
  simp only [l1, l2, nilV_ptr', offV_ptr, opt_some', extV_tuple', List.getElem?_cons_zero, List.getElem?_cons_succ, List.getElem?_toArray, cnd_true', cnd_false', grd_tt', grd_tf', grd_ft', grd_ff', grd_u', pick_true', pick_false', un_not', Bool.not_true, Bool.not_false, Nat.add_zero, Nat.zero_add, Nat.reduceAdd, int_eql, int_neq, int_lss, int_leq, int_gtr, int_geq, rd_go, rdo_cells', rds_go, st_go, sto_cells, stc_ok', stA_go, stAo_all, stAo_allL, rdso_all, upd_push_top, one_int, one_bool, one_ptr, one_slice, one_map, one_func, one_iface, boxM_eq', newC_eq', Value.cells, push_get_new, push_size, upd_size, List.size_toArray, List.toList_toArray, List.length_cons, List.length_nil, List.all_cons, List.all_nil, Bool.and_self, Bool.and_true, decide_true, decide_false]
  refine f24.b5_ok ?_
  have d0 : decide ((0 : Int) < ((0 : Nat) : Int)) = false := by decide
  simp only [f24.b5, l1, nilV_ptr', offV_ptr, opt_some', extV_tuple', List.getElem?_cons_zero, List.getElem?_cons_succ, List.getElem?_toArray, cnd_true', cnd_false', grd_tt', grd_tf', grd_ft', grd_ff', grd_u', pick_true', pick_false', un_not', Bool.not_true, Bool.not_false, Nat.add_zero, Nat.zero_add, Nat.reduceAdd, int_eql, int_neq, int_lss, int_leq, int_gtr, int_geq, rd_go, rdo_cells', rds_go, st_go, sto_cells, stc_ok', stA_go, stAo_all, stAo_allL, rdso_all, upd_push_top, one_int, one_bool, one_ptr, one_slice, one_map, one_func, one_iface, boxM_eq', newC_eq', Value.cells, push_get_new, push_size, upd_size, List.size_toArray, List.toList_toArray, List.length_cons, List.length_nil, List.all_cons, List.all_nil, Bool.and_self, Bool.and_true, decide_true, decide_false, d0]
  obtain ⟨F3, h3, g3, -⟩ := SP.right h2
  rw [show ∀ a b c d e f : SP, a * (b * (c * (d * (e * (f * R))))) = d * (c * (e * (a * (f * (b * R))))) by intro a b c d e f; ac_rfl] at h3
  obtain ⟨F4, h4, g4, -⟩ := SP.right h3
  exact hk _ F4 h4 (g1.trans (g2.trans (g3.trans g4)))
/-- known. -/
theorem known_ok (h : R.holds F H) {K : Value → HPred} (hk : ∀ H' F', R.holds F' H' → Gr F H F' H' → K (.bool true) H') : callF Tryz.prog 6 [] K H := by
  refine f6.call ?_
  unfold f6.b
  refine start23_ok h (by omega) fun H1 F1 pb pt pw b q h1 g1 => ?_
  have hb1 := blk_get h1
  unfold pairO at hb1
  simp only [ptrQ, nilV_ptr', offV_ptr, opt_some', extV_tuple', List.getElem?_cons_zero, List.getElem?_cons_succ, List.getElem?_toArray, cnd_true', cnd_false', grd_tt', grd_tf', grd_ft', grd_ff', grd_u', pick_true', pick_false', un_not', Bool.not_true, Bool.not_false, Nat.add_zero, Nat.zero_add, Nat.reduceAdd, int_eql, int_neq, int_lss, int_leq, int_gtr, int_geq, rd_go, rdo_cells', rds_go, st_go, sto_cells, stc_ok', stA_go, stAo_all, stAo_allL, rdso_all, upd_push_top, one_int, one_bool, one_ptr, one_slice, one_map, one_func, one_iface, boxM_eq', newC_eq', Value.cells, push_get_new, push_size, upd_size, List.size_toArray, List.toList_toArray, List.length_cons, List.length_nil, List.all_cons, List.all_nil, Bool.and_self, Bool.and_true, decide_true, decide_false, hb1, ptr_eq_nil Tryz.underlying24, Option.isNone_some]
  refine lay3_ok (now := 0) (by omega) h1 fun H2 F2 q1 q2 h2 g2 => ?_
  have hb2 := blk_get h2
  unfold pairO at hb2
  obtain ⟨h3, g3⟩ := blk_set h2 (pairO pt pw 4)
  unfold pairO at h3 g3
  simp only [ptrQ, nilV_ptr', offV_ptr, opt_some', extV_tuple', List.getElem?_cons_zero, List.getElem?_cons_succ, List.getElem?_toArray, cnd_true', cnd_false', grd_tt', grd_tf', grd_ft', grd_ff', grd_u', pick_true', pick_false', un_not', Bool.not_true, Bool.not_false, Nat.add_zero, Nat.zero_add, Nat.reduceAdd, int_eql, int_neq, int_lss, int_leq, int_gtr, int_geq, rd_go, rdo_cells', rds_go, st_go, sto_cells, stc_ok', stA_go, stAo_all, stAo_allL, rdso_all, upd_push_top, one_int, one_bool, one_ptr, one_slice, one_map, one_func, one_iface, boxM_eq', newC_eq', Value.cells, push_get_new, push_size, upd_size, List.size_toArray, List.toList_toArray, List.length_cons, List.length_nil, List.all_cons, List.all_nil, Bool.and_self, Bool.and_true, decide_true, decide_false, hb2, List.setIfInBounds_toArray, List.set_cons_succ, List.set_cons_zero]
  refine pdue_ok h3 fun H4 F4 h4 g4 => ?_
  have hb4 := blk_get h4
  unfold pairO at hb4
  obtain ⟨h5, g5⟩ := blk_set h4 (pairO pt pw 5)
  have hb5 := blk_get h5
  unfold pairO at h5 g5 hb5
  simp only [ptrQ] at hb5
  simp only [ptrQ, nilV_ptr', offV_ptr, opt_some', extV_tuple', List.getElem?_cons_zero, List.getElem?_cons_succ, List.getElem?_toArray, cnd_true', cnd_false', grd_tt', grd_tf', grd_ft', grd_ff', grd_u', pick_true', pick_false', un_not', Bool.not_true, Bool.not_false, Nat.add_zero, Nat.zero_add, Nat.reduceAdd, int_eql, int_neq, int_lss, int_leq, int_gtr, int_geq, rd_go, rdo_cells', rds_go, st_go, sto_cells, stc_ok', stA_go, stAo_all, stAo_allL, rdso_all, upd_push_top, one_int, one_bool, one_ptr, one_slice, one_map, one_func, one_iface, boxM_eq', newC_eq', Value.cells, push_get_new, push_size, upd_size, List.size_toArray, List.toList_toArray, List.length_cons, List.length_nil, List.all_cons, List.all_nil, Bool.and_self, Bool.and_true, decide_true, decide_false, hb4, List.setIfInBounds_toArray, List.set_cons_succ, List.set_cons_zero, hb5]
  rw [show ∀ a b c d e : SP, a * (b * (c * (d * (e * R)))) = b * (d * (a * (c * (e * R)))) by intro a b c d e; ac_rfl] at h5
  refine due3_ok (now := 5) (by omega) h5 (fun hn => by omega) (fun _ w1 H6 F6 h6 g6 => ?_)
  have hl := sli_lies h6
  obtain ⟨a1, c1, rfl⟩ := hl.shape
  have l1 := len_slice (P := Tryz.prog) (ty := 3) (cs := #[false]) (a := a1) (n := 1) (c := c1) Tryz.underlying40
  obtain ⟨bb, o, cc, ccap, TT, fz, hve, hbb, hil, hsz, hg⟩ := hl.at (xs := [(⟨3, 9⟩ : Late)]) (enc := lateL) lateL_len (i := 0) rfl
  cases hve
  have x0 : cc[o]? = some (.int .i64 3) := hg 0 (by omega)
  have x1 : cc[o + 1]? = some (.int .i64 9) := hg 1 (by omega)
  have ix : idxS (.slice (some ⟨bb, o, none⟩) 1 c1) (.int .i64 0) 2 = some (.pointer (some ⟨bb, o, none⟩)) := idxS_eq (by omega) (by omega)
  have d1 : decide (((1 : Nat) : Int) = 1) = true := by decide
  simp only [l1, nilV_ptr', offV_ptr, opt_some', extV_tuple', List.getElem?_cons_zero, List.getElem?_cons_succ, List.getElem?_toArray, cnd_true', cnd_false', grd_tt', grd_tf', grd_ft', grd_ff', grd_u', pick_true', pick_false', un_not', Bool.not_true, Bool.not_false, Nat.add_zero, Nat.zero_add, Nat.reduceAdd, int_eql, int_neq, int_lss, int_leq, int_gtr, int_geq, rd_go, rdo_cells', rds_go, st_go, sto_cells, stc_ok', stA_go, stAo_all, stAo_allL, rdso_all, upd_push_top, one_int, one_bool, one_ptr, one_slice, one_map, one_func, one_iface, boxM_eq', newC_eq', Value.cells, push_get_new, push_size, upd_size, List.size_toArray, List.toList_toArray, List.length_cons, List.length_nil, List.all_cons, List.all_nil, Bool.and_self, Bool.and_true, decide_true, decide_false, d1, ix, hbb, x0, x1]
  obtain ⟨F7, h7, g7, -⟩ := SP.right h6
  rw [show ∀ a b c : SP, a * (b * (c * R)) = (a * (b * c)) * R by intro a b c; ac_rfl] at h7
  obtain ⟨F8, h8, g8, -⟩ := SP.right h7
  exact hk _ F8 h8 (g1.trans (g2.trans (g3.trans (g4.trans (g5.trans (g6.trans (g7.trans g8)))))))
end

end Go.Proofs.YtnnheophehnioaaGreat
