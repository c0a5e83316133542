/-
  Part 7 of the proof: contracts of the functions that the law reaches, and the rules they stand on. Own work (an AI agent). No conditions.
-/
import Derived.Test.YtnnheophehnioaaGreatTS6
set_option linter.unusedSimpArgs false
set_option linter.unusedVariables false
namespace Go.Proofs.YtnnheophehnioaaGreat
open Go.Sx Go.Proofs Go.Gm
set_option maxRecDepth 100000

theorem ext0_upd {H G : Hp} (hx : Ext0 H G) {b : Nat} (hb : H.size ≤ b) (x : Obj) : Ext0 H (upd G b x) :=
  hx.trans (ext_upd G b x) fun y hy e => by
    rcases e with e | e
    · exact e
    · have e' : y = b := e; omega
def z20 : List Value := [(.int .i64 0), (.int .i32 0), (.int .i32 0), (.int .i32 0), (.int .i32 0), (.int .i32 0), (.int .i32 0), (.int .i32 0), (.int .i32 0), (.int .i32 0), (.int .i32 0), (.int .i32 0), (.int .i32 0), (.int .i32 0), (.int .i32 0), (.int .i32 0), (.int .i32 0), (.int .u32 0), (.bool false), (.int .i64 0)]
theorem put20 {b : Nat} {z : Array Value} {s : St} {K : Value → HPred} {G : Hp} (hs : s.cells.length = 16) (hb : G[b]? = some (.cells z 91 (0, 0))) (hz : z.size = 20)
    (hk : K (.agg (stateA s)) (upd G b (.cells (stateA s) 91))) : stA (.pointer (some ⟨b, 0, none⟩)) 20 (.agg (stateA s)) (rd (cellsP (.pointer (some ⟨b, 0, none⟩)) 20) K) G := by
  rw [stA_all (n := 20) (cs := stateA s) hb (stateA_size hs) hz stateA_one, rds_all (n := 20) (c := stateA s) (upd_self hb) (stateA_size hs)]
  exact hk
section
variable {q : Nat} {c : Ct} {R : SP} {F : Nat → Prop} {H : Hp}
/-- State, where nobody has done anything. -/
theorem rstate0_ok (h : (rconS q c * R).holds F H) (h0 : c.in0 = []) (hg : gameE c.code c.cap c.fuel = 0) {K : Value → HPred} (hk : ∀ H', Ext0 H H' → K (.agg (stateA (startP c.seed))) H') :
    callF Tryz.prog 51 [ptrQ q] K H := by
  obtain ⟨v0, v1, v2, v3, hb, hl, -⟩ := rcon_get h
  have hq := blk_lt hb
  refine f51.call ?_
  have ex : ((rconL c v0 v1 v2 v3).toArray).extract 0 (0 + 3) = #[v0, .int .i64 c.cap, .int .i64 c.fuel] := by simp [rconL]
  have rg : ∀ (T : TypeId) (fz : Nat × Nat) (K : Value → HPred) (H : Hp), rdso (some (.cells (rconL c v0 v1 v2 v3).toArray T fz)) 0 3 K H = K (.agg #[v0, .int .i64 c.cap, .int .i64 c.fuel]) H := fun T fz K H => rdso_at (by simp [rconL]) ex T fz K H
  have r8 : (rconL c v0 v1 v2 v3)[8]? = some (.int .u32 c.seed) := rfl
  have hb' := fun x => push_old (x := x) hb
  simp only [f51.b, ptrQ, nilV_ptr, offV_ptr, opt_some, extV_tuple, List.getElem?_cons_zero, List.getElem?_cons_succ, List.getElem?_toArray, cnd_true, cnd_false, grd_tt, grd_tf, grd_ft, grd_ff, grd_u, pick_true, pick_false, un_not, Bool.not_true, Bool.not_false, Nat.add_zero, Nat.zero_add, Nat.reduceAdd, int_eql, int_neq, int_lss, int_leq, int_gtr, int_geq, rd_go, rdo_cells, rds_go, st_go, sto_cells, stc_ok, stA_go, stAo_all, stAo_allL, rdso_all, upd_push_top, one_int, one_bool, one_ptr, one_slice, one_map, one_func, one_iface, boxM_eq, newC_eq, Value.cells, push_get_new, push_size, upd_size, List.size_toArray, List.toList_toArray, List.length_cons, List.length_nil, List.all_cons, List.all_nil, Bool.and_self, Bool.and_true, decide_true, decide_false, hb', rg, r8]
  have hx1 := ext_push none' H (.cells z20.toArray 91)
  have hz1 : (H.push (.cells z20.toArray 91))[H.size]? = some (.cells z20.toArray 91 (0, 0)) := push_new _ _
  have hb1 := push_old (x := .cells z20.toArray 91) hb
  obtain ⟨h1, -⟩ := SP.push h (.cells z20.toArray 91)
  have hl1 := hl.ext hx1 fun _ _ e => e
  have ge : (z20.length = 20) := rfl
  show frk _ _ (H.push (.cells z20.toArray 91))
  have c1 : ∀ G, Ext0 (H.push (.cells z20.toArray 91)) G → cellP (.pointer (some ⟨q, 8, none⟩)) G = some (.int .u32 c.seed) := fun G hx => by
    rw [cellP_blk (hx.blk hb1), List.getElem?_toArray, r8]
  have c2 : ∀ G, Ext0 (H.push (.cells z20.toArray 91)) G → cellsP (.pointer (some ⟨q, 0, none⟩)) 3 G = some (.agg #[v0, .int .i64 c.cap, .int .i64 c.fuel]) := fun G hx => by
    rw [cells_blk (hx.blk hb1) (by simp [rconL]), ex]
  generalize H.push (.cells z20.toArray 91) = H1 at *
  have fin : ∀ (G : Hp) (b : Nat) (z : Array Value), Ext0 H1 G → H.size < b → G[b]? = some (.cells z 91 (0, 0)) → z.size = 20 →
      (stA (.pointer (some ⟨b, 0, none⟩)) 20 (.agg (stateA (startP c.seed))) <| rd (cellsP (.pointer (some ⟨b, 0, none⟩)) 20) fun v13 => stA (.pointer (some ⟨H.size, 0, none⟩)) 20 v13 <| rd (cellsP (.pointer (some ⟨H.size, 0, none⟩)) 20) fun v14 => K v14) G := by
    intro G b z hx hlt hbz hzs
    refine put20 (startP_len _) hbz hzs ?_
    have hz2 := hx.blk hz1
    have hz3 : (upd G b (.cells (stateA (startP c.seed)) 91))[H.size]? = _ := (upd_ne (show H.size ≠ b by omega)).trans hz2
    refine put20 (startP_len _) hz3 (by simp [ge]) ?_
    exact hk _ (ext0_upd (ext0_upd (hx1.trans' hx) (by omega) _) (Nat.le_refl _) _)
  have hsz1 : H.size < H1.size := blk_lt hz1
  constructor
  · refine rpairs0_ok h1 h0 fun H2 hx2 => ?_
    refine ⟨c1 _ hx2, c2 _ hx2, ?_, ?_⟩
    · refine rplay0_ok (hl1.ext hx2 fun _ _ e => e) hg fun H3 hx3 => ?_
      have hx13 := hx2.trans' hx3
      simp only [extV_tuple, List.getElem?_cons_zero, List.getElem?_cons_succ, opt_some, newC_eq]
      have hx14 := hx13.trans' (ext_push none' H3 (.cells z20.toArray 91))
      refine ⟨c1 _ hx14, c2 _ hx14, ?_⟩
      have h3s := hx13.size
      exact fin _ H3.size z20.toArray hx14 (by omega) (push_new _ _) (by simp [ge])
    · simp only [extV_tuple, List.getElem?_cons_zero, List.getElem?_cons_succ, opt_some, newC_eq]
      have hx14 := hx2.trans' (ext_push none' H2 (.cells z20.toArray 91))
      refine ⟨c1 _ hx14, c2 _ hx14, ?_⟩
      refine rplay0_ok (hl1.ext hx14 fun _ _ e => e) hg fun H3 hx3 => ?_
      have h2s := hx2.size
      simp only [extV_tuple, List.getElem?_cons_zero, List.getElem?_cons_succ, opt_some, newC_eq]
      exact fin H3 H2.size z20.toArray (hx14.trans' hx3) (by omega) (Ext0.blk hx3 (push_new _ _)) (by simp [ge])
  · simp only [extV_tuple, List.getElem?_cons_zero, List.getElem?_cons_succ, opt_some, newC_eq]
    have hx2 := ext_push none' H1 (.cells z20.toArray 91)
    refine ⟨c1 _ hx2, c2 _ hx2, ?_⟩
    obtain ⟨h2, -⟩ := SP.ext0 h1 hx2
    refine rpairs0_ok h2 h0 fun H3 hx3 => ?_
    refine ⟨c1 _ (hx2.trans' hx3), c2 _ (hx2.trans' hx3), ?_⟩
    refine rplay0_ok (hl1.ext (hx2.trans' hx3) fun _ _ e => e) hg fun H4 hx4 => ?_
    simp only [extV_tuple, List.getElem?_cons_zero, List.getElem?_cons_succ, opt_some, newC_eq]
    exact fin H4 H1.size z20.toArray ((hx2.trans' hx3).trans' hx4) hsz1 (Ext0.blk (hx3.trans' hx4) (push_new _ _)) (by simp [ge])
/-- played. -/
theorem rplayed0_ok (h : (rconS q c * R).holds F H) (h0 : c.in0 = []) (hst : c.st = startP c.seed) (hg : gameE c.code c.cap c.fuel = 0) {K : Value → HPred} (hk : ∀ H', Ext0 H H' → K (.bool (playedP c)) H') :
    callF Tryz.prog 128 [ptrQ q] K H := by
  obtain ⟨v0, v1, v2, v3, hb, -⟩ := rcon_get h
  refine f128.call ?_
  unfold playedP at hk
  cases co : c.opened with
  | false =>
    simp only [co, Bool.false_and] at hk
    simp only [f128.b, ptrQ, nilV_ptr, offV_ptr, opt_some, extV_tuple, List.getElem?_cons_zero, List.getElem?_cons_succ, List.getElem?_toArray, cnd_true, cnd_false, grd_tt, grd_tf, grd_ft, grd_ff, grd_u, pick_true, pick_false, un_not, Bool.not_true, Bool.not_false, Nat.add_zero, Nat.zero_add, Nat.reduceAdd, int_eql, int_neq, int_lss, int_leq, int_gtr, int_geq, rd_go, rdo_cells, rds_go, st_go, sto_cells, stc_ok, stA_go, stAo_all, stAo_allL, rdso_all, upd_push_top, one_int, one_bool, one_ptr, one_slice, one_map, one_func, one_iface, boxM_eq, newC_eq, Value.cells, push_get_new, push_size, upd_size, List.size_toArray, List.toList_toArray, List.length_cons, List.length_nil, List.all_cons, List.all_nil, Bool.and_self, Bool.and_true, decide_true, decide_false, hb, rconL, co]
    exact hk _ (Ext.refl _ _)
  | true =>
    cases cv : c.over with
    | true =>
      simp only [co, cv, Bool.true_and, Bool.not_true, Bool.false_and] at hk
      simp only [f128.b, ptrQ, nilV_ptr, offV_ptr, opt_some, extV_tuple, List.getElem?_cons_zero, List.getElem?_cons_succ, List.getElem?_toArray, cnd_true, cnd_false, grd_tt, grd_tf, grd_ft, grd_ff, grd_u, pick_true, pick_false, un_not, Bool.not_true, Bool.not_false, Nat.add_zero, Nat.zero_add, Nat.reduceAdd, int_eql, int_neq, int_lss, int_leq, int_gtr, int_geq, rd_go, rdo_cells, rds_go, st_go, sto_cells, stc_ok, stA_go, stAo_all, stAo_allL, rdso_all, upd_push_top, one_int, one_bool, one_ptr, one_slice, one_map, one_func, one_iface, boxM_eq, newC_eq, Value.cells, push_get_new, push_size, upd_size, List.size_toArray, List.toList_toArray, List.length_cons, List.length_nil, List.all_cons, List.all_nil, Bool.and_self, Bool.and_true, decide_true, decide_false, hb, rconL, co, cv]
      exact hk _ (Ext.refl _ _)
    | false =>
      simp only [co, cv, Bool.true_and, Bool.not_false, hst] at hk
      simp only [f128.b, ptrQ, nilV_ptr, offV_ptr, opt_some, extV_tuple, List.getElem?_cons_zero, List.getElem?_cons_succ, List.getElem?_toArray, cnd_true, cnd_false, grd_tt, grd_tf, grd_ft, grd_ff, grd_u, pick_true, pick_false, un_not, Bool.not_true, Bool.not_false, Nat.add_zero, Nat.zero_add, Nat.reduceAdd, int_eql, int_neq, int_lss, int_leq, int_gtr, int_geq, rd_go, rdo_cells, rds_go, st_go, sto_cells, stc_ok, stA_go, stAo_all, stAo_allL, rdso_all, upd_push_top, one_int, one_bool, one_ptr, one_slice, one_map, one_func, one_iface, boxM_eq, newC_eq, Value.cells, push_get_new, push_size, upd_size, List.size_toArray, List.toList_toArray, List.length_cons, List.length_nil, List.all_cons, List.all_nil, Bool.and_self, Bool.and_true, decide_true, decide_false, hb, rconL, co, cv]
      refine rstate0_ok h h0 hg fun H3 hx3 => ?_
      rw [fld_over (startP_len _)]
      simp only [nilV_ptr, offV_ptr, opt_some, extV_tuple, List.getElem?_cons_zero, List.getElem?_cons_succ, List.getElem?_toArray, cnd_true, cnd_false, grd_tt, grd_tf, grd_ft, grd_ff, grd_u, pick_true, pick_false, un_not, Bool.not_true, Bool.not_false, Nat.add_zero, Nat.zero_add, Nat.reduceAdd, int_eql, int_neq, int_lss, int_leq, int_gtr, int_geq, rd_go, rdo_cells, rds_go, st_go, sto_cells, stc_ok, stA_go, stAo_all, stAo_allL, rdso_all, upd_push_top, one_int, one_bool, one_ptr, one_slice, one_map, one_func, one_iface, boxM_eq, newC_eq, Value.cells, push_get_new, push_size, upd_size, List.size_toArray, List.toList_toArray, List.length_cons, List.length_nil, List.all_cons, List.all_nil, Bool.and_self, Bool.and_true, decide_true, decide_false]
      exact hk _ hx3
def owesP (c : Ct) (pl : Int) : Bool := decide (0 ≤ seatP c pl) && (c.opened && (!c.over && !c.st.over))
/-- Owes, where nobody has done anything. -/
theorem rowes0_ok (h : (rconS q c * R).holds F H) (h0 : c.in0 = []) (h1 : c.in1 = []) (ho : c.opened = true) (hst : c.st = startP c.seed) (hg : gameE c.code c.cap c.fuel = 0) (pl : Int) {K : Value → HPred} (hk : ∀ H', Ext0 H H' → K (.bool (owesP c pl)) H') :
    callF Tryz.prog 90 [ptrQ q, .int .i64 pl] K H := by
  obtain ⟨v0, v1, v2, v3, hb, -, hl2, hl3⟩ := rcon_get h
  refine f90.call ?_
  unfold f90.b
  refine rseat_ok h pl ?_
  rw [ho, if_pos rfl]
  unfold owesP at hk
  rw [ho] at hk
  by_cases cs : 0 ≤ seatP c pl
  · have cs' : seatP c pl ≥ 0 := cs
    rw [decide_eq_true cs] at hk
    cases cv : c.over with
    | true =>
      simp only [cv, Bool.true_and, Bool.not_true, Bool.false_and] at hk
      simp only [ptrQ, nilV_ptr', offV_ptr, opt_some', extV_tuple', List.getElem?_cons_zero, List.getElem?_cons_succ, List.getElem?_toArray, cnd_true', cnd_false', grd_tt', grd_tf', grd_ft', grd_ff', grd_u', pick_true', pick_false', un_not', Bool.not_true, Bool.not_false, Nat.add_zero, Nat.zero_add, Nat.reduceAdd, int_eql, int_neq, int_lss, int_leq, int_gtr, int_geq, rd_go, rdo_cells', rds_go, st_go, sto_cells, stc_ok', stA_go, stAo_all, stAo_allL, rdso_all, upd_push_top, one_int, one_bool, one_ptr, one_slice, one_map, one_func, one_iface, boxM_eq', newC_eq', Value.cells, push_get_new, push_size, upd_size, List.size_toArray, List.toList_toArray, List.length_cons, List.length_nil, List.all_cons, List.all_nil, Bool.and_self, Bool.and_true, decide_true, decide_false, decide_eq_true cs', hb, rconL, cv]
      exact hk _ (Ext.refl _ _)
    | false =>
      have e : (startP c.seed).over = false := rfl
      simp only [cv, hst, e, Bool.true_and, Bool.not_false] at hk
      simp only [ptrQ, nilV_ptr', offV_ptr, opt_some', extV_tuple', List.getElem?_cons_zero, List.getElem?_cons_succ, List.getElem?_toArray, cnd_true', cnd_false', grd_tt', grd_tf', grd_ft', grd_ff', grd_u', pick_true', pick_false', un_not', Bool.not_true, Bool.not_false, Nat.add_zero, Nat.zero_add, Nat.reduceAdd, int_eql, int_neq, int_lss, int_leq, int_gtr, int_geq, rd_go, rdo_cells', rds_go, st_go, sto_cells, stc_ok', stA_go, stAo_all, stAo_allL, rdso_all, upd_push_top, one_int, one_bool, one_ptr, one_slice, one_map, one_func, one_iface, boxM_eq', newC_eq', Value.cells, push_get_new, push_size, upd_size, List.size_toArray, List.toList_toArray, List.length_cons, List.length_nil, List.all_cons, List.all_nil, Bool.and_self, Bool.and_true, decide_true, decide_false, decide_eq_true cs', hb, rconL, cv]
      refine rstate0_ok h h0 hg fun H3 hx3 => ?_
      have hb3 := hx3.blk hb
      rw [fld_over (startP_len _), e]
      rw [h0] at hl2
      rw [h1] at hl3
      obtain ⟨a2, k2, rfl⟩ := hl2.shape
      obtain ⟨a3, k3, rfl⟩ := hl3.shape
      have l1 := len_slice (P := Tryz.prog) (ty := 3) (cs := #[false]) (a := a2) (n := 0) (c := k2) Tryz.underlying93
      have l2 := len_slice (P := Tryz.prog) (ty := 3) (cs := #[false]) (a := a3) (n := 0) (c := k3) Tryz.underlying93
      have i0 : idxA (.pointer (some ⟨q, 4, none⟩)) (.int .i64 0) 2 1 = some (.pointer (some ⟨q, 4, none⟩)) := idxA_eq (by omega) (by omega)
      have i1 : idxA (.pointer (some ⟨q, 4, none⟩)) (.int .i64 1) 2 1 = some (.pointer (some ⟨q, 5, none⟩)) := idxA_eq (by omega) (by omega)
      have w0 : IntKind.i64.wrap (1 - 0) = 1 := (wrap64_id (by omega) (by omega)).trans (by omega)
      have w1 : IntKind.i64.wrap (1 - 1) = 0 := (wrap64_id (by omega) (by omega)).trans (by omega)
      have dl : decide (((0 : Nat) : Int) ≤ ((0 : Nat) : Int)) = true := decide_eq_true (Int.le_refl _)
      have hs : seatP c pl = 0 ∨ seatP c pl = 1 := by
        unfold seatP at cs ⊢; split
        · exact .inl rfl
        · split
          · exact .inr rfl
          · rename_i a b; rw [if_neg a, if_neg b] at cs; omega
      rcases hs with e0 | e0
      · simp only [ptrQ, nilV_ptr', offV_ptr, opt_some', extV_tuple', List.getElem?_cons_zero, List.getElem?_cons_succ, List.getElem?_toArray, cnd_true', cnd_false', grd_tt', grd_tf', grd_ft', grd_ff', grd_u', pick_true', pick_false', un_not', Bool.not_true, Bool.not_false, Nat.add_zero, Nat.zero_add, Nat.reduceAdd, int_eql, int_neq, int_lss, int_leq, int_gtr, int_geq, rd_go, rdo_cells', rds_go, st_go, sto_cells, stc_ok', stA_go, stAo_all, stAo_allL, rdso_all, upd_push_top, one_int, one_bool, one_ptr, one_slice, one_map, one_func, one_iface, boxM_eq', newC_eq', Value.cells, push_get_new, push_size, upd_size, List.size_toArray, List.toList_toArray, List.length_cons, List.length_nil, List.all_cons, List.all_nil, Bool.and_self, Bool.and_true, decide_true, decide_false, e0, hb3, rconL, i0, i1, int_sub, w0, l1, l2, dl]
        exact hk _ hx3
      · simp only [ptrQ, nilV_ptr', offV_ptr, opt_some', extV_tuple', List.getElem?_cons_zero, List.getElem?_cons_succ, List.getElem?_toArray, cnd_true', cnd_false', grd_tt', grd_tf', grd_ft', grd_ff', grd_u', pick_true', pick_false', un_not', Bool.not_true, Bool.not_false, Nat.add_zero, Nat.zero_add, Nat.reduceAdd, int_eql, int_neq, int_lss, int_leq, int_gtr, int_geq, rd_go, rdo_cells', rds_go, st_go, sto_cells, stc_ok', stA_go, stAo_all, stAo_allL, rdso_all, upd_push_top, one_int, one_bool, one_ptr, one_slice, one_map, one_func, one_iface, boxM_eq', newC_eq', Value.cells, push_get_new, push_size, upd_size, List.size_toArray, List.toList_toArray, List.length_cons, List.length_nil, List.all_cons, List.all_nil, Bool.and_self, Bool.and_true, decide_true, decide_false, e0, hb3, rconL, i0, i1, int_sub, w1, l1, l2, dl]
        exact hk _ hx3
  · have cs' : ¬ seatP c pl ≥ 0 := cs
    rw [decide_eq_false cs] at hk
    simp only [Bool.false_and] at hk
    simp only [ptrQ, nilV_ptr', offV_ptr, opt_some', extV_tuple', List.getElem?_cons_zero, List.getElem?_cons_succ, List.getElem?_toArray, cnd_true', cnd_false', grd_tt', grd_tf', grd_ft', grd_ff', grd_u', pick_true', pick_false', un_not', Bool.not_true, Bool.not_false, Nat.add_zero, Nat.zero_add, Nat.reduceAdd, int_eql, int_neq, int_lss, int_leq, int_gtr, int_geq, rd_go, rdo_cells', rds_go, st_go, sto_cells, stc_ok', stA_go, stAo_all, stAo_allL, rdso_all, upd_push_top, one_int, one_bool, one_ptr, one_slice, one_map, one_func, one_iface, boxM_eq', newC_eq', Value.cells, push_get_new, push_size, upd_size, List.size_toArray, List.toList_toArray, List.length_cons, List.length_nil, List.all_cons, List.all_nil, Bool.and_self, Bool.and_true, decide_true, decide_false, decide_eq_false cs']
    exact hk _ (Ext.refl _ _)
end

end Go.Proofs.YtnnheophehnioaaGreat
namespace Go.Sx
variable {P : Program} {K : Value → HPred} {A B C : HPred} {H : Hp}

theorem p_by {o : Option Value} {v : Value} (h : o = some v) : opt o K H = K v H := by rw [h, opt_some]
theorem p_some {v : Value} : opt (some v) K H = K v H := by rw [opt_some]
theorem p_nil {a : Addr} : opt (nilV (.pointer (some a))) K H = K (.pointer (some a)) H := by rw [nilV_ptr, opt_some]
theorem p_off {b o n : Nat} : opt (offV (.pointer (some ⟨b, o, none⟩)) n) K H = K (.pointer (some ⟨b, o + n, none⟩)) H := by rw [offV_ptr, opt_some]
theorem p_ext0 {a : Value} {l : List Value} : opt (extV (.tuple (a :: l).toArray) 0) K H = K a H := by rw [extV_tuple]; simp [opt_some]
theorem p_ext1 {a b : Value} {l : List Value} : opt (extV (.tuple (a :: b :: l).toArray) 1) K H = K b H := by rw [extV_tuple]; simp [opt_some]
theorem p_ext2 {a b c : Value} {l : List Value} : opt (extV (.tuple (a :: b :: c :: l).toArray) 2) K H = K c H := by rw [extV_tuple]; simp [opt_some]
section
variable {T : TypeId} {ox oy : Operand} {k : IntKind} {a b : Int}
theorem p_add : opt (binV P .add T ox oy (.int k a) (.int k b)) K H = K (.int k (k.wrap (a + b))) H := by rw [int_add, opt_some]
theorem p_sub : opt (binV P .sub T ox oy (.int k a) (.int k b)) K H = K (.int k (k.wrap (a - b))) H := by rw [int_sub, opt_some]
theorem p_eql : opt (binV P .eql T ox oy (.int k a) (.int k b)) K H = K (.bool (decide (a = b))) H := by rw [int_eql, opt_some]
theorem p_neq : opt (binV P .neq T ox oy (.int k a) (.int k b)) K H = K (.bool (!decide (a = b))) H := by rw [int_neq, opt_some]
theorem p_lss : opt (binV P .lss T ox oy (.int k a) (.int k b)) K H = K (.bool (decide (a < b))) H := by rw [int_lss, opt_some]
theorem p_leq : opt (binV P .leq T ox oy (.int k a) (.int k b)) K H = K (.bool (decide (a ≤ b))) H := by rw [int_leq, opt_some]
theorem p_gtr : opt (binV P .gtr T ox oy (.int k a) (.int k b)) K H = K (.bool (decide (a > b))) H := by rw [int_gtr, opt_some]
theorem p_geq : opt (binV P .geq T ox oy (.int k a) (.int k b)) K H = K (.bool (decide (a ≥ b))) H := by rw [int_geq, opt_some]
end
theorem p_not {b : Bool} : opt (pureRun P (Op.unary .not (.bool b))) K H = K (.bool (!b)) H := by rw [un_not, opt_some]
theorem p_pickT {b : Bool} {x y : Value} (h : b = true) : opt (pickV (.bool b) x y) K H = K x H := by rw [h, pick_true, opt_some]
theorem p_pickF {b : Bool} {x y : Value} (h : b = false) : opt (pickV (.bool b) x y) K H = K y H := by rw [h, pick_false, opt_some]
theorem c_T {b : Bool} (h : b = true) : cnd (.bool b) A B H = A H := by rw [h, cnd_true]
theorem c_F {b : Bool} (h : b = false) : cnd (.bool b) A B H = B H := by rw [h, cnd_false]
section
variable {X : (Value → HPred) → HPred}
theorem g_tT {b : Bool} (h : b = true) : grdK (.bool b) true X K H = X K H := by rw [h, grd_tt]
theorem g_tF {b : Bool} (h : b = false) : grdK (.bool b) true X K H = K undef H := by rw [h, grd_ft]
theorem g_fT {b : Bool} (h : b = true) : grdK (.bool b) false X K H = K undef H := by rw [h, grd_tf]
theorem g_fF {b : Bool} (h : b = false) : grdK (.bool b) false X K H = X K H := by rw [h, grd_ff]
theorem g_u {w : Bool} : grdK undef w X K H = K undef H := by rw [grd_u]
end
theorem r_cell {b o : Nat} {c : Array Value} {T : TypeId} {fz : Nat × Nat} (h : H[b]? = some (.cells c T fz)) : rd (cellP (.pointer (some ⟨b, o, none⟩))) K H = opt c[o]? K H := by rw [rd_go, h, rdo_cells]
theorem r_cells {b n : Nat} {c : Array Value} {T : TypeId} {fz : Nat × Nat} (h : H[b]? = some (.cells c T fz)) (hs : c.size = n) : rd (cellsP (.pointer (some ⟨b, 0, none⟩)) n) K H = K (.agg c) H := by rw [rds_go, h, rdso_all hs]
theorem p_getA {l : List Value} {i : Nat} : opt (l.toArray[i]?) K H = opt (l[i]?) K H := by rw [List.getElem?_toArray]
theorem p_get0 {a : Value} {l : List Value} : opt ((a :: l)[0]?) K H = K a H := by rw [List.getElem?_cons_zero, opt_some]
theorem p_getS {a : Value} {l : List Value} {i : Nat} : opt ((a :: l)[i + 1]?) K H = opt (l[i]?) K H := by rw [List.getElem?_cons_succ]
theorem s_cell {b o : Nat} {c : Array Value} {T : TypeId} {v : Value} (h : H[b]? = some (.cells c T (0, 0))) (hv : oneCell v = true) (ho : o < c.size) :
    st (.pointer (some ⟨b, o, none⟩)) v C H = C (upd H b (.cells (c.setIfInBounds o v) T (0, 0))) := st_blk h ho hv
theorem a_all {b n : Nat} {c cs : Array Value} {T : TypeId} (h : H[b]? = some (.cells c T (0, 0))) (h1 : cs.size = n) (h2 : c.size = n) (h3 : cs.toList.all oneCell = true) :
    stA (.pointer (some ⟨b, 0, none⟩)) n (.agg cs) C H = C (upd H b (.cells cs T (0, 0))) := stA_all h h1 h2 fun v hv => List.all_eq_true.1 h3 v hv
theorem n_new {cells : Array Value} {T : TypeId} : newC cells T K H = K (.pointer (some ⟨H.size, 0, none⟩)) (H.push (.cells cells T)) := by rw [newC_eq]
theorem n_box {T : TypeId} {v : Value} : boxM T v K H = K (.pointer (some ⟨H.size, 0, none⟩)) (H.push (.cells v.cells T)) := by rw [boxM_eq]
theorem k_chk {I : HPred} (h : I H) : chk I C H = C H := by rw [chk_eq]; exact propext ⟨fun x => x.2, fun x => ⟨h, x⟩⟩
theorem k_chkc {b o : Nat} {c : Array Value} {T : TypeId} {fz : Nat × Nat} {w : Value} (h : H[b]? = some (.cells c T fz)) (e : c[o]? = some w) : chk (fun H => cellP (.pointer (some ⟨b, o, none⟩)) H = some w) C H = C H :=
  k_chk (by show cellP _ H = _; rw [cellP_blk h, e])
theorem k_chks0 {b n : Nat} {c : Array Value} {T : TypeId} {fz : Nat × Nat} {w : Value} (h : H[b]? = some (.cells c T fz)) (hs : c.size = n) (e : Value.agg c = w) : chk (fun H => cellsP (.pointer (some ⟨b, 0, none⟩)) n H = some w) C H = C H := by
  refine k_chk ?_
  show cellsP _ n H = _
  subst hs
  rw [cells_blk h (by omega), ← e]
  congr 2
  apply Array.ext'
  simp [List.extract_eq_take_drop]
theorem k_chks {b o n : Nat} {c : Array Value} {T : TypeId} {fz : Nat × Nat} {w : Value} (h : H[b]? = some (.cells c T fz)) (hs : o + n ≤ c.size) (e : Value.agg (c.extract o (o + n)) = w) : chk (fun H => cellsP (.pointer (some ⟨b, o, none⟩)) n H = some w) C H = C H := by
  refine k_chk ?_
  show cellsP _ n H = _
  rw [cells_blk h hs, e]

end Go.Sx
namespace Go.Proofs.YtnnheophehnioaaGreat
open Go.Sx Go.Proofs Go.Gm
set_option maxRecDepth 100000

theorem cut2 (q o : Nat) : pureRun Tryz.prog (Instr.sliceAt 59 (.pointer (some ⟨q, o, none⟩)) none none none) = some (.slice (some ⟨q, o, none⟩) 2 2) := by kernel_rfl
section
variable {q : Nat} {c : Ct} {R : SP} {F : Nat → Prop} {H : Hp}
/-- seat. -/
theorem seat_ok (h : (conS q c * R).holds F H) (pl : Int) {K : Value → HPred} (hk : K (.int .i64 (seatP c pl)) H) : callF Tryz.prog 116 [ptrQ q, .int .i64 pl] K H := by
  obtain ⟨v0, v1, v2, v3, v4, h0, hb⟩ := bs_get h
  unfold conO at hb
  refine f116.call ?_
  simp only [f116.b, ptrQ, nilV_ptr', offV_ptr, opt_some', extV_tuple', List.getElem?_cons_zero, List.getElem?_cons_succ, List.getElem?_toArray, cnd_true', cnd_false', grd_tt', grd_tf', grd_ft', grd_ff', grd_u', pick_true', pick_false', un_not', Bool.not_true, Bool.not_false, Nat.add_zero, Nat.zero_add, Nat.reduceAdd, int_eql, int_neq, int_lss, int_leq, int_gtr, int_geq, rd_go, rdo_cells', rds_go, st_go, sto_cells, stc_ok', stA_go, stAo_all, stAo_allL, rdso_all, upd_push_top, one_int, one_bool, one_ptr, one_slice, one_map, one_func, one_iface, boxM_eq', newC_eq', Value.cells, push_get_new, push_size, upd_size, List.size_toArray, List.toList_toArray, List.length_cons, List.length_nil, List.all_cons, List.all_nil, Bool.and_self, Bool.and_true, decide_true, decide_false, cut2]
  refine f164.call ?_
  have l2 := len_slice (P := Tryz.prog) (ty := 3) (cs := #[false]) (a := some ⟨q, 3, none⟩) (n := 2) (c := 2) Tryz.underlying22
  simp only [f164.b, nilV_ptr', offV_ptr, opt_some', extV_tuple', List.getElem?_cons_zero, List.getElem?_cons_succ, List.getElem?_toArray, cnd_true', cnd_false', grd_tt', grd_tf', grd_ft', grd_ff', grd_u', pick_true', pick_false', un_not', Bool.not_true, Bool.not_false, Nat.add_zero, Nat.zero_add, Nat.reduceAdd, int_eql, int_neq, int_lss, int_leq, int_gtr, int_geq, rd_go, rdo_cells', rds_go, st_go, sto_cells, stc_ok', stA_go, stAo_all, stAo_allL, rdso_all, upd_push_top, one_int, one_bool, one_ptr, one_slice, one_map, one_func, one_iface, boxM_eq', newC_eq', Value.cells, push_get_new, push_size, upd_size, List.size_toArray, List.toList_toArray, List.length_cons, List.length_nil, List.all_cons, List.all_nil, Bool.and_self, Bool.and_true, decide_true, decide_false, l2]
  have i0 : idxS (.slice (some ⟨q, 3, none⟩) 2 2) (.int .i64 0) 1 = some (.pointer (some ⟨q, 3, none⟩)) := idxS_eq (by omega) (by omega)
  have i1 : idxS (.slice (some ⟨q, 3, none⟩) 2 2) (.int .i64 1) 1 = some (.pointer (some ⟨q, 4, none⟩)) := idxS_eq (by omega) (by omega)
  have w1 : IntKind.i64.wrap (0 + 1) = 1 := (wrap64_id (by omega) (by omega)).trans (by omega)
  have w2 : IntKind.i64.wrap (1 + 1) = 2 := (wrap64_id (by omega) (by omega)).trans (by omega)
  have d0 : decide ((0 : Int) < ((2 : Nat) : Int)) = true := by decide
  have d1 : decide ((1 : Int) < ((2 : Nat) : Int)) = true := by decide
  have d2 : decide ((2 : Int) < ((2 : Nat) : Int)) = false := by decide
  have g3 := con_get c v0 v1 v2 v3 v4 3 (by omega)
  have g4 := con_get c v0 v1 v2 v3 v4 4 (by omega)
  unfold seatP at hk
  refine f164.b2_ok ?_
  by_cases c0 : c.p0 = pl
  · rw [if_pos c0] at hk
    have c0' : pl = c.p0 := c0.symm
    simp only [f164.b2, nilV_ptr', offV_ptr, opt_some', extV_tuple', List.getElem?_cons_zero, List.getElem?_cons_succ, List.getElem?_toArray, cnd_true', cnd_false', grd_tt', grd_tf', grd_ft', grd_ff', grd_u', pick_true', pick_false', un_not', Bool.not_true, Bool.not_false, Nat.add_zero, Nat.zero_add, Nat.reduceAdd, int_eql, int_neq, int_lss, int_leq, int_gtr, int_geq, rd_go, rdo_cells', rds_go, st_go, sto_cells, stc_ok', stA_go, stAo_all, stAo_allL, rdso_all, upd_push_top, one_int, one_bool, one_ptr, one_slice, one_map, one_func, one_iface, boxM_eq', newC_eq', Value.cells, push_get_new, push_size, upd_size, List.size_toArray, List.toList_toArray, List.length_cons, List.length_nil, List.all_cons, List.all_nil, Bool.and_self, Bool.and_true, decide_true, decide_false, d0, i0, hb, g3, decide_eq_true c0']
    exact hk
  · rw [if_neg c0] at hk
    have c0' : ¬ pl = c.p0 := fun e => c0 e.symm
    simp only [f164.b2, nilV_ptr', offV_ptr, opt_some', extV_tuple', List.getElem?_cons_zero, List.getElem?_cons_succ, List.getElem?_toArray, cnd_true', cnd_false', grd_tt', grd_tf', grd_ft', grd_ff', grd_u', pick_true', pick_false', un_not', Bool.not_true, Bool.not_false, Nat.add_zero, Nat.zero_add, Nat.reduceAdd, int_eql, int_neq, int_lss, int_leq, int_gtr, int_geq, rd_go, rdo_cells', rds_go, st_go, sto_cells, stc_ok', stA_go, stAo_all, stAo_allL, rdso_all, upd_push_top, one_int, one_bool, one_ptr, one_slice, one_map, one_func, one_iface, boxM_eq', newC_eq', Value.cells, push_get_new, push_size, upd_size, List.size_toArray, List.toList_toArray, List.length_cons, List.length_nil, List.all_cons, List.all_nil, Bool.and_self, Bool.and_true, decide_true, decide_false, d0, i0, hb, g3, decide_eq_false c0', int_add, w1]
    refine f164.b2_ok ?_
    by_cases c1 : c.p1 = pl
    · rw [if_pos c1] at hk
      have c1' : pl = c.p1 := c1.symm
      simp only [f164.b2, nilV_ptr', offV_ptr, opt_some', extV_tuple', List.getElem?_cons_zero, List.getElem?_cons_succ, List.getElem?_toArray, cnd_true', cnd_false', grd_tt', grd_tf', grd_ft', grd_ff', grd_u', pick_true', pick_false', un_not', Bool.not_true, Bool.not_false, Nat.add_zero, Nat.zero_add, Nat.reduceAdd, int_eql, int_neq, int_lss, int_leq, int_gtr, int_geq, rd_go, rdo_cells', rds_go, st_go, sto_cells, stc_ok', stA_go, stAo_all, stAo_allL, rdso_all, upd_push_top, one_int, one_bool, one_ptr, one_slice, one_map, one_func, one_iface, boxM_eq', newC_eq', Value.cells, push_get_new, push_size, upd_size, List.size_toArray, List.toList_toArray, List.length_cons, List.length_nil, List.all_cons, List.all_nil, Bool.and_self, Bool.and_true, decide_true, decide_false, d1, i1, hb, g4, decide_eq_true c1']
      exact hk
    · rw [if_neg c1] at hk
      have c1' : ¬ pl = c.p1 := fun e => c1 e.symm
      simp only [f164.b2, nilV_ptr', offV_ptr, opt_some', extV_tuple', List.getElem?_cons_zero, List.getElem?_cons_succ, List.getElem?_toArray, cnd_true', cnd_false', grd_tt', grd_tf', grd_ft', grd_ff', grd_u', pick_true', pick_false', un_not', Bool.not_true, Bool.not_false, Nat.add_zero, Nat.zero_add, Nat.reduceAdd, int_eql, int_neq, int_lss, int_leq, int_gtr, int_geq, rd_go, rdo_cells', rds_go, st_go, sto_cells, stc_ok', stA_go, stAo_all, stAo_allL, rdso_all, upd_push_top, one_int, one_bool, one_ptr, one_slice, one_map, one_func, one_iface, boxM_eq', newC_eq', Value.cells, push_get_new, push_size, upd_size, List.size_toArray, List.toList_toArray, List.length_cons, List.length_nil, List.all_cons, List.all_nil, Bool.and_self, Bool.and_true, decide_true, decide_false, d1, i1, hb, g4, decide_eq_false c1', int_add, w2]
      refine f164.b2_ok ?_
      simp only [f164.b2, nilV_ptr', offV_ptr, opt_some', extV_tuple', List.getElem?_cons_zero, List.getElem?_cons_succ, List.getElem?_toArray, cnd_true', cnd_false', grd_tt', grd_tf', grd_ft', grd_ff', grd_u', pick_true', pick_false', un_not', Bool.not_true, Bool.not_false, Nat.add_zero, Nat.zero_add, Nat.reduceAdd, int_eql, int_neq, int_lss, int_leq, int_gtr, int_geq, rd_go, rdo_cells', rds_go, st_go, sto_cells, stc_ok', stA_go, stAo_all, stAo_allL, rdso_all, upd_push_top, one_int, one_bool, one_ptr, one_slice, one_map, one_func, one_iface, boxM_eq', newC_eq', Value.cells, push_get_new, push_size, upd_size, List.size_toArray, List.toList_toArray, List.length_cons, List.length_nil, List.all_cons, List.all_nil, Bool.and_self, Bool.and_true, decide_true, decide_false, d2]
      exact hk
def owesC (c : Ct) (pl : Int) : Bool := (c.opened && (!c.over && !c.st.over)) && (decide (0 ≤ seatP c pl) && decide ((if seatP c pl = 0 then c.n0 else c.n1) ≤ (if seatP c pl = 0 then c.n1 else c.n0)))
theorem nor_b (a b : Bool) : (!a && !b) = !(a || b) := by cases a <;> cases b <;> rfl
theorem seatP_cases (c : Ct) (pl : Int) : seatP c pl = 0 ∨ seatP c pl = 1 ∨ seatP c pl = -1 := by
  unfold seatP; split
  · exact .inl rfl
  · split
    · exact .inr (.inl rfl)
    · exact .inr (.inr rfl)
/-- Owes. -/
theorem owes_ok (h : (conS q c * R).holds F H) (pl : Int) {K : Value → HPred} (hk : K (.bool (owesC c pl)) H) : callF Tryz.prog 76 [ptrQ q, .int .i64 pl] K H := by
  obtain ⟨v0, v1, v2, v3, v4, h0, hb⟩ := bs_get h
  unfold conO at hb
  refine f76.call ?_
  unfold owesC at hk
  have g13 := con_get c v0 v1 v2 v3 v4 13 (by omega)
  cases co : c.opened with
  | false =>
    simp only [co, Bool.false_and] at hk
    simp only [f76.b, ptrQ, ptr_eq_nil Tryz.underlying30, Option.isNone_some, nilV_ptr', offV_ptr, opt_some', extV_tuple', List.getElem?_cons_zero, List.getElem?_cons_succ, List.getElem?_toArray, cnd_true', cnd_false', grd_tt', grd_tf', grd_ft', grd_ff', grd_u', pick_true', pick_false', un_not', Bool.not_true, Bool.not_false, Nat.add_zero, Nat.zero_add, Nat.reduceAdd, int_eql, int_neq, int_lss, int_leq, int_gtr, int_geq, rd_go, rdo_cells', rds_go, st_go, sto_cells, stc_ok', stA_go, stAo_all, stAo_allL, rdso_all, upd_push_top, one_int, one_bool, one_ptr, one_slice, one_map, one_func, one_iface, boxM_eq', newC_eq', Value.cells, push_get_new, push_size, upd_size, List.size_toArray, List.toList_toArray, List.length_cons, List.length_nil, List.all_cons, List.all_nil, Bool.and_self, Bool.and_true, decide_true, decide_false, hb, g13, co]
    exact hk
  | true =>
    simp only [co, Bool.true_and] at hk
    simp only [f76.b, ptrQ, ptr_eq_nil Tryz.underlying30, Option.isNone_some, nilV_ptr', offV_ptr, opt_some', extV_tuple', List.getElem?_cons_zero, List.getElem?_cons_succ, List.getElem?_toArray, cnd_true', cnd_false', grd_tt', grd_tf', grd_ft', grd_ff', grd_u', pick_true', pick_false', un_not', Bool.not_true, Bool.not_false, Nat.add_zero, Nat.zero_add, Nat.reduceAdd, int_eql, int_neq, int_lss, int_leq, int_gtr, int_geq, rd_go, rdo_cells', rds_go, st_go, sto_cells, stc_ok', stA_go, stAo_all, stAo_allL, rdso_all, upd_push_top, one_int, one_bool, one_ptr, one_slice, one_map, one_func, one_iface, boxM_eq', newC_eq', Value.cells, push_get_new, push_size, upd_size, List.size_toArray, List.toList_toArray, List.length_cons, List.length_nil, List.all_cons, List.all_nil, Bool.and_self, Bool.and_true, decide_true, decide_false, hb, g13, co]
    refine ended_ok h ?_
    unfold endedP
    cases ce : (c.over || c.st.over) with
    | true =>
      have e : (!c.over && !c.st.over) = false := by rw [nor_b, ce]; rfl
      simp only [e, Bool.false_and] at hk
      simp only [nilV_ptr', offV_ptr, opt_some', extV_tuple', List.getElem?_cons_zero, List.getElem?_cons_succ, List.getElem?_toArray, cnd_true', cnd_false', grd_tt', grd_tf', grd_ft', grd_ff', grd_u', pick_true', pick_false', un_not', Bool.not_true, Bool.not_false, Nat.add_zero, Nat.zero_add, Nat.reduceAdd, int_eql, int_neq, int_lss, int_leq, int_gtr, int_geq, rd_go, rdo_cells', rds_go, st_go, sto_cells, stc_ok', stA_go, stAo_all, stAo_allL, rdso_all, upd_push_top, one_int, one_bool, one_ptr, one_slice, one_map, one_func, one_iface, boxM_eq', newC_eq', Value.cells, push_get_new, push_size, upd_size, List.size_toArray, List.toList_toArray, List.length_cons, List.length_nil, List.all_cons, List.all_nil, Bool.and_self, Bool.and_true, decide_true, decide_false]
      exact hk
    | false =>
      have e : (!c.over && !c.st.over) = true := by rw [nor_b, ce]; rfl
      simp only [e, Bool.true_and] at hk
      simp only [nilV_ptr', offV_ptr, opt_some', extV_tuple', List.getElem?_cons_zero, List.getElem?_cons_succ, List.getElem?_toArray, cnd_true', cnd_false', grd_tt', grd_tf', grd_ft', grd_ff', grd_u', pick_true', pick_false', un_not', Bool.not_true, Bool.not_false, Nat.add_zero, Nat.zero_add, Nat.reduceAdd, int_eql, int_neq, int_lss, int_leq, int_gtr, int_geq, rd_go, rdo_cells', rds_go, st_go, sto_cells, stc_ok', stA_go, stAo_all, stAo_allL, rdso_all, upd_push_top, one_int, one_bool, one_ptr, one_slice, one_map, one_func, one_iface, boxM_eq', newC_eq', Value.cells, push_get_new, push_size, upd_size, List.size_toArray, List.toList_toArray, List.length_cons, List.length_nil, List.all_cons, List.all_nil, Bool.and_self, Bool.and_true, decide_true, decide_false]
      refine seat_ok h pl ?_
      have i0 : idxA (.pointer (some ⟨q, 8, none⟩)) (.int .i64 0) 2 1 = some (.pointer (some ⟨q, 8, none⟩)) := idxA_eq (by omega) (by omega)
      have i1 : idxA (.pointer (some ⟨q, 8, none⟩)) (.int .i64 1) 2 1 = some (.pointer (some ⟨q, 9, none⟩)) := idxA_eq (by omega) (by omega)
      have w0 : IntKind.i64.wrap (1 - 0) = 1 := (wrap64_id (by omega) (by omega)).trans (by omega)
      have w1 : IntKind.i64.wrap (1 - 1) = 0 := (wrap64_id (by omega) (by omega)).trans (by omega)
      have g8 := con_get c v0 v1 v2 v3 v4 8 (by omega)
      have g9 := con_get c v0 v1 v2 v3 v4 9 (by omega)
      have d0 : decide ((0 : Int) ≥ 0) = true := by decide
      have d1 : decide ((1 : Int) ≥ 0) = true := by decide
      have d2 : decide ((-1 : Int) ≥ 0) = false := by decide
      rcases seatP_cases c pl with e0 | e0 | e0
      · rw [e0] at hk ⊢
        simp only [ptrQ, nilV_ptr', offV_ptr, opt_some', extV_tuple', List.getElem?_cons_zero, List.getElem?_cons_succ, List.getElem?_toArray, cnd_true', cnd_false', grd_tt', grd_tf', grd_ft', grd_ff', grd_u', pick_true', pick_false', un_not', Bool.not_true, Bool.not_false, Nat.add_zero, Nat.zero_add, Nat.reduceAdd, int_eql, int_neq, int_lss, int_leq, int_gtr, int_geq, rd_go, rdo_cells', rds_go, st_go, sto_cells, stc_ok', stA_go, stAo_all, stAo_allL, rdso_all, upd_push_top, one_int, one_bool, one_ptr, one_slice, one_map, one_func, one_iface, boxM_eq', newC_eq', Value.cells, push_get_new, push_size, upd_size, List.size_toArray, List.toList_toArray, List.length_cons, List.length_nil, List.all_cons, List.all_nil, Bool.and_self, Bool.and_true, decide_true, decide_false, d0, hb, i0, i1, int_sub, w0, g8, g9]
        simpa using hk
      · rw [e0] at hk ⊢
        simp only [ptrQ, nilV_ptr', offV_ptr, opt_some', extV_tuple', List.getElem?_cons_zero, List.getElem?_cons_succ, List.getElem?_toArray, cnd_true', cnd_false', grd_tt', grd_tf', grd_ft', grd_ff', grd_u', pick_true', pick_false', un_not', Bool.not_true, Bool.not_false, Nat.add_zero, Nat.zero_add, Nat.reduceAdd, int_eql, int_neq, int_lss, int_leq, int_gtr, int_geq, rd_go, rdo_cells', rds_go, st_go, sto_cells, stc_ok', stA_go, stAo_all, stAo_allL, rdso_all, upd_push_top, one_int, one_bool, one_ptr, one_slice, one_map, one_func, one_iface, boxM_eq', newC_eq', Value.cells, push_get_new, push_size, upd_size, List.size_toArray, List.toList_toArray, List.length_cons, List.length_nil, List.all_cons, List.all_nil, Bool.and_self, Bool.and_true, decide_true, decide_false, d1, hb, i0, i1, int_sub, w1, g8, g9]
        simpa using hk
      · rw [e0] at hk ⊢
        simp only [ptrQ, nilV_ptr', offV_ptr, opt_some', extV_tuple', List.getElem?_cons_zero, List.getElem?_cons_succ, List.getElem?_toArray, cnd_true', cnd_false', grd_tt', grd_tf', grd_ft', grd_ff', grd_u', pick_true', pick_false', un_not', Bool.not_true, Bool.not_false, Nat.add_zero, Nat.zero_add, Nat.reduceAdd, int_eql, int_neq, int_lss, int_leq, int_gtr, int_geq, rd_go, rdo_cells', rds_go, st_go, sto_cells, stc_ok', stA_go, stAo_all, stAo_allL, rdso_all, upd_push_top, one_int, one_bool, one_ptr, one_slice, one_map, one_func, one_iface, boxM_eq', newC_eq', Value.cells, push_get_new, push_size, upd_size, List.size_toArray, List.toList_toArray, List.length_cons, List.length_nil, List.all_cons, List.all_nil, Bool.and_self, Bool.and_true, decide_true, decide_false, d2]
        simpa using hk
def lateP (c : Ct) : Int := if owesC c c.p1 then c.p1 else c.p0
/-- late. -/
theorem late_ok (h : (conS q c * R).holds F H) {K : Value → HPred} (hk : ∀ H', Ext0 H H' → K (.int .i64 (lateP c)) H') : callF Tryz.prog 37 [ptrQ q] K H := by
  refine f37.call ?_
  unfold f37.b
  refine status_ok h fun H1 hx1 => ?_
  obtain ⟨h1, g1⟩ := SP.ext0 h hx1
  have e11 := statusL_len c
  have a11 := statusL_all c
  simp (disch := first | assumption | (simp only [List.size_toArray, List.toList_toArray, List.length_cons, List.length_nil, List.all_cons, List.all_nil, oneCell, Bool.and_self, Bool.and_true, Nat.reduceAdd]; done) | (simp only [push_size, upd_size]; done) | (simp only [push_size, upd_size]; omega) | omega) only [statusV, nilV_ptr', offV_ptr, opt_some', extV_tuple', List.getElem?_cons_zero, List.getElem?_cons_succ, List.getElem?_toArray, cnd_true', cnd_false', grd_tt', grd_tf', grd_ft', grd_ff', grd_u', pick_true', pick_false', un_not', Bool.not_true, Bool.not_false, Nat.add_zero, Nat.zero_add, Nat.reduceAdd, int_eql, int_neq, int_lss, int_leq, int_gtr, int_geq, rd_go, rdo_cells', rds_go, st_go, sto_cells, stc_ok', stA_go, stAo_all, stAo_allL, rdso_all, upd_push_top, one_int, one_bool, one_ptr, one_slice, one_map, one_func, one_iface, boxM_eq', newC_eq', Value.cells, push_get_new, push_size, upd_size, List.size_toArray, List.toList_toArray, List.length_cons, List.length_nil, List.all_cons, List.all_nil, Bool.and_self, Bool.and_true, decide_true, decide_false, push_get_old, push_get_eq, upd_push_old, upd_push_eq, upd_get_self, upd_get_ne]
  have hx2 := hx1.trans' (ext_push none' H1 (.cells (statusL c).toArray 62))
  obtain ⟨h2, g2⟩ := SP.push h1 (.cells (statusL c).toArray 62)
  have o0 : (statusL c)[0]? = some (.int .i64 c.p0) := rfl
  have o1 : (statusL c)[1]? = some (.int .i64 c.p1) := rfl
  have i0 : idxA (.pointer (some ⟨H1.size, 0, none⟩)) (.int .i64 0) 2 1 = some (.pointer (some ⟨H1.size, 0, none⟩)) := idxA_eq (by omega) (by omega)
  have i1 : idxA (.pointer (some ⟨H1.size, 0, none⟩)) (.int .i64 1) 2 1 = some (.pointer (some ⟨H1.size, 1, none⟩)) := idxA_eq (by omega) (by omega)
  simp only [i1, nilV_ptr', offV_ptr, opt_some', extV_tuple', List.getElem?_cons_zero, List.getElem?_cons_succ, List.getElem?_toArray, cnd_true', cnd_false', grd_tt', grd_tf', grd_ft', grd_ff', grd_u', pick_true', pick_false', un_not', Bool.not_true, Bool.not_false, Nat.add_zero, Nat.zero_add, Nat.reduceAdd, int_eql, int_neq, int_lss, int_leq, int_gtr, int_geq, rd_go, rdo_cells', rds_go, st_go, sto_cells, stc_ok', stA_go, stAo_all, stAo_allL, rdso_all, upd_push_top, one_int, one_bool, one_ptr, one_slice, one_map, one_func, one_iface, boxM_eq', newC_eq', Value.cells, push_get_new, push_size, upd_size, List.size_toArray, List.toList_toArray, List.length_cons, List.length_nil, List.all_cons, List.all_nil, Bool.and_self, Bool.and_true, decide_true, decide_false, o1]
  refine owes_ok h2 c.p1 ?_
  unfold lateP at hk
  cases cw : owesC c c.p1 with
  | true =>
    rw [cw] at hk
    simp only [nilV_ptr', offV_ptr, opt_some', extV_tuple', List.getElem?_cons_zero, List.getElem?_cons_succ, List.getElem?_toArray, cnd_true', cnd_false', grd_tt', grd_tf', grd_ft', grd_ff', grd_u', pick_true', pick_false', un_not', Bool.not_true, Bool.not_false, Nat.add_zero, Nat.zero_add, Nat.reduceAdd, int_eql, int_neq, int_lss, int_leq, int_gtr, int_geq, rd_go, rdo_cells', rds_go, st_go, sto_cells, stc_ok', stA_go, stAo_all, stAo_allL, rdso_all, upd_push_top, one_int, one_bool, one_ptr, one_slice, one_map, one_func, one_iface, boxM_eq', newC_eq', Value.cells, push_get_new, push_size, upd_size, List.size_toArray, List.toList_toArray, List.length_cons, List.length_nil, List.all_cons, List.all_nil, Bool.and_self, Bool.and_true, decide_true, decide_false, i1, o1]
    exact hk _ hx2
  | false =>
    rw [cw] at hk
    simp only [nilV_ptr', offV_ptr, opt_some', extV_tuple', List.getElem?_cons_zero, List.getElem?_cons_succ, List.getElem?_toArray, cnd_true', cnd_false', grd_tt', grd_tf', grd_ft', grd_ff', grd_u', pick_true', pick_false', un_not', Bool.not_true, Bool.not_false, Nat.add_zero, Nat.zero_add, Nat.reduceAdd, int_eql, int_neq, int_lss, int_leq, int_gtr, int_geq, rd_go, rdo_cells', rds_go, st_go, sto_cells, stc_ok', stA_go, stAo_all, stAo_allL, rdso_all, upd_push_top, one_int, one_bool, one_ptr, one_slice, one_map, one_func, one_iface, boxM_eq', newC_eq', Value.cells, push_get_new, push_size, upd_size, List.size_toArray, List.toList_toArray, List.length_cons, List.length_nil, List.all_cons, List.all_nil, Bool.and_self, Bool.and_true, decide_true, decide_false, i0, o0]
    exact hk _ hx2
end

end Go.Proofs.YtnnheophehnioaaGreat
namespace Go.Proofs.YtnnheophehnioaaGreat
open Go.Sx Go.Proofs Go.Gm
set_option maxRecDepth 100000

theorem conv_uint {a : Int} (h0 : 0 ≤ a) (h1 : a ≤ 18446744073709551615) : pureRun Tryz.prog (Go.convert 3 162 (.int .i64 a)) = some (.int .u64 a) := by
  rw [conv_int Tryz.underlying3 Tryz.underlying162]
  congr 2
  simp only [IntKind.wrap, IntKind.bits, IntKind.signed]
  simp
  omega
theorem conv_u8 {a : Int} (h0 : 0 ≤ a) (h1 : a ≤ 255) : pureRun Tryz.prog (Go.convert 209 5 (.int .u64 a)) = some (.int .u8 a) := by
  rw [conv_int Tryz.underlying209 Tryz.underlying5, wrapu8_id h0 h1]
theorem conv_8i {a : Int} (h0 : 0 ≤ a) (h1 : a ≤ 255) : pureRun Tryz.prog (Go.convert 5 3 (.int .u8 a)) = some (.int .i64 a) := by
  rw [conv_int Tryz.underlying5 Tryz.underlying3, wrap64_id (by omega) (by omega)]
section
variable {H : Hp}
/-- math/bits.Len of 0 and of 1: a number. -/
theorem bits01_ok {n : Nat} (hn : n ≤ 1) {K : Value → HPred} (hk : ∀ r : Int, K (.int .i64 r) H) : callF Tryz.prog 74 [.int .u64 n] K H := by
  refine f74.call ?_
  simp only [f74.b, nilV_ptr', offV_ptr, opt_some', extV_tuple', List.getElem?_cons_zero, List.getElem?_cons_succ, List.getElem?_toArray, cnd_true', cnd_false', grd_tt', grd_tf', grd_ft', grd_ff', grd_u', pick_true', pick_false', un_not', Bool.not_true, Bool.not_false, Nat.add_zero, Nat.zero_add, Nat.reduceAdd, int_eql, int_neq, int_lss, int_leq, int_gtr, int_geq, rd_go, rdo_cells', rds_go, st_go, sto_cells, stc_ok', stA_go, stAo_all, stAo_allL, rdso_all, upd_push_top, one_int, one_bool, one_ptr, one_slice, one_map, one_func, one_iface, boxM_eq', newC_eq', Value.cells, push_get_new, push_size, upd_size, List.size_toArray, List.toList_toArray, List.length_cons, List.length_nil, List.all_cons, List.all_nil, Bool.and_self, Bool.and_true, decide_true, decide_false]
  refine f114.call ?_
  have c1 : ¬ (n : Int) ≥ 4294967296 := by omega
  have c2 : ¬ (n : Int) ≥ 65536 := by omega
  have c3 : ¬ (n : Int) ≥ 256 := by omega
  simp only [f114.b, nilV_ptr', offV_ptr, opt_some', extV_tuple', List.getElem?_cons_zero, List.getElem?_cons_succ, List.getElem?_toArray, cnd_true', cnd_false', grd_tt', grd_tf', grd_ft', grd_ff', grd_u', pick_true', pick_false', un_not', Bool.not_true, Bool.not_false, Nat.add_zero, Nat.zero_add, Nat.reduceAdd, int_eql, int_neq, int_lss, int_leq, int_gtr, int_geq, rd_go, rdo_cells', rds_go, st_go, sto_cells, stc_ok', stA_go, stAo_all, stAo_allL, rdso_all, upd_push_top, one_int, one_bool, one_ptr, one_slice, one_map, one_func, one_iface, boxM_eq', newC_eq', Value.cells, push_get_new, push_size, upd_size, List.size_toArray, List.toList_toArray, List.length_cons, List.length_nil, List.all_cons, List.all_nil, Bool.and_self, Bool.and_true, decide_true, decide_false, decide_eq_false c1]
  refine f114.b4_ok ?_
  simp only [f114.b4, nilV_ptr', offV_ptr, opt_some', extV_tuple', List.getElem?_cons_zero, List.getElem?_cons_succ, List.getElem?_toArray, cnd_true', cnd_false', grd_tt', grd_tf', grd_ft', grd_ff', grd_u', pick_true', pick_false', un_not', Bool.not_true, Bool.not_false, Nat.add_zero, Nat.zero_add, Nat.reduceAdd, int_eql, int_neq, int_lss, int_leq, int_gtr, int_geq, rd_go, rdo_cells', rds_go, st_go, sto_cells, stc_ok', stA_go, stAo_all, stAo_allL, rdso_all, upd_push_top, one_int, one_bool, one_ptr, one_slice, one_map, one_func, one_iface, boxM_eq', newC_eq', Value.cells, push_get_new, push_size, upd_size, List.size_toArray, List.toList_toArray, List.length_cons, List.length_nil, List.all_cons, List.all_nil, Bool.and_self, Bool.and_true, decide_true, decide_false, decide_eq_false c2]
  refine f114.b7_ok ?_
  simp only [f114.b7, nilV_ptr', offV_ptr, opt_some', extV_tuple', List.getElem?_cons_zero, List.getElem?_cons_succ, List.getElem?_toArray, cnd_true', cnd_false', grd_tt', grd_tf', grd_ft', grd_ff', grd_u', pick_true', pick_false', un_not', Bool.not_true, Bool.not_false, Nat.add_zero, Nat.zero_add, Nat.reduceAdd, int_eql, int_neq, int_lss, int_leq, int_gtr, int_geq, rd_go, rdo_cells', rds_go, st_go, sto_cells, stc_ok', stA_go, stAo_all, stAo_allL, rdso_all, upd_push_top, one_int, one_bool, one_ptr, one_slice, one_map, one_func, one_iface, boxM_eq', newC_eq', Value.cells, push_get_new, push_size, upd_size, List.size_toArray, List.toList_toArray, List.length_cons, List.length_nil, List.all_cons, List.all_nil, Bool.and_self, Bool.and_true, decide_true, decide_false, decide_eq_false c3]
  refine f114.b10_ok ?_
  unfold f114.b10
  rw [conv_u8 (by omega) (by omega), opt_some]
  have hx : ∃ r : Int, 0 ≤ r ∧ r ≤ 255 ∧ pureRun Tryz.prog (Instr.index 9 (.string { data := #[0, 1, 2, 2, 3, 3, 3, 3, 4, 4, 4, 4, 4, 4, 4, 4, 5, 5, 5, 5, 5, 5, 5, 5, 5, 5, 5, 5, 5, 5, 5, 5, 6, 6, 6, 6, 6, 6, 6, 6, 6, 6, 6, 6, 6, 6, 6, 6, 6, 6, 6, 6, 6, 6, 6, 6, 6, 6, 6, 6, 6, 6, 6, 6, 7, 7, 7, 7, 7, 7, 7, 7, 7, 7, 7, 7, 7, 7, 7, 7, 7, 7, 7, 7, 7, 7, 7, 7, 7, 7, 7, 7, 7, 7, 7, 7, 7, 7, 7, 7, 7, 7, 7, 7, 7, 7, 7, 7, 7, 7, 7, 7, 7, 7, 7, 7, 7, 7, 7, 7, 7, 7, 7, 7, 7, 7, 7, 7, 8, 8, 8, 8, 8, 8, 8, 8, 8, 8, 8, 8, 8, 8, 8, 8, 8, 8, 8, 8, 8, 8, 8, 8, 8, 8, 8, 8, 8, 8, 8, 8, 8, 8, 8, 8, 8, 8, 8, 8, 8, 8, 8, 8, 8, 8, 8, 8, 8, 8, 8, 8, 8, 8, 8, 8, 8, 8, 8, 8, 8, 8, 8, 8, 8, 8, 8, 8, 8, 8, 8, 8, 8, 8, 8, 8, 8, 8, 8, 8, 8, 8, 8, 8, 8, 8, 8, 8, 8, 8, 8, 8, 8, 8, 8, 8, 8, 8, 8, 8, 8, 8, 8, 8, 8, 8, 8, 8, 8, 8, 8, 8, 8, 8, 8, 8, 8, 8, 8, 8, 8, 8, 8, 8, 8, 8, 8, 8] }) (.int .u8 (n : Int))) = some (.int .u8 r) := by
    obtain rfl | rfl : n = 0 ∨ n = 1 := by omega
    · exact ⟨0, by omega, by omega, by kernel_rfl⟩
    · exact ⟨1, by omega, by omega, by kernel_rfl⟩
  obtain ⟨r, r0, r1, hr⟩ := hx
  rw [hr, opt_some, conv_8i r0 r1, opt_some, int_add, opt_some]
  exact hk _
/-- SortFunc of one element at most. -/
theorem sortf1_ok {a : Option Addr} {n cap : Nat} {cmp : Value} (hn : n ≤ 1) {K : Value → HPred} (hk : K (.tuple #[]) H) : callF Tryz.prog 39 [.slice a n cap, cmp] K H := by
  refine f39.call ?_
  have l2 := len_slice (P := Tryz.prog) (ty := 3) (cs := #[false]) (a := a) (n := n) (c := cap) Tryz.underlying110
  simp only [f39.b, nilV_ptr', offV_ptr, opt_some', extV_tuple', List.getElem?_cons_zero, List.getElem?_cons_succ, List.getElem?_toArray, cnd_true', cnd_false', grd_tt', grd_tf', grd_ft', grd_ff', grd_u', pick_true', pick_false', un_not', Bool.not_true, Bool.not_false, Nat.add_zero, Nat.zero_add, Nat.reduceAdd, int_eql, int_neq, int_lss, int_leq, int_gtr, int_geq, rd_go, rdo_cells', rds_go, st_go, sto_cells, stc_ok', stA_go, stAo_all, stAo_allL, rdso_all, upd_push_top, one_int, one_bool, one_ptr, one_slice, one_map, one_func, one_iface, boxM_eq', newC_eq', Value.cells, push_get_new, push_size, upd_size, List.size_toArray, List.toList_toArray, List.length_cons, List.length_nil, List.all_cons, List.all_nil, Bool.and_self, Bool.and_true, decide_true, decide_false, l2, conv_uint (show (0 : Int) ≤ n by omega) (show (n : Int) ≤ 18446744073709551615 by omega)]
  refine bits01_ok hn fun r => ?_
  refine f78.call ?_
  unfold f78.b
  refine f78.b2_ok ?_
  have w : IntKind.i64.wrap ((n : Int) - 0) = n := (wrap64_id (by omega) (by omega)).trans (by omega)
  have c1 : (n : Int) ≤ 12 := by omega
  simp only [f78.b2, nilV_ptr', offV_ptr, opt_some', extV_tuple', List.getElem?_cons_zero, List.getElem?_cons_succ, List.getElem?_toArray, cnd_true', cnd_false', grd_tt', grd_tf', grd_ft', grd_ff', grd_u', pick_true', pick_false', un_not', Bool.not_true, Bool.not_false, Nat.add_zero, Nat.zero_add, Nat.reduceAdd, int_eql, int_neq, int_lss, int_leq, int_gtr, int_geq, rd_go, rdo_cells', rds_go, st_go, sto_cells, stc_ok', stA_go, stAo_all, stAo_allL, rdso_all, upd_push_top, one_int, one_bool, one_ptr, one_slice, one_map, one_func, one_iface, boxM_eq', newC_eq', Value.cells, push_get_new, push_size, upd_size, List.size_toArray, List.toList_toArray, List.length_cons, List.length_nil, List.all_cons, List.all_nil, Bool.and_self, Bool.and_true, decide_true, decide_false, int_sub, w, decide_eq_true c1]
  refine f119.call ?_
  have w1 : IntKind.i64.wrap (0 + 1) = 1 := (wrap64_id (by omega) (by omega)).trans (by omega)
  simp only [f119.b, nilV_ptr', offV_ptr, opt_some', extV_tuple', List.getElem?_cons_zero, List.getElem?_cons_succ, List.getElem?_toArray, cnd_true', cnd_false', grd_tt', grd_tf', grd_ft', grd_ff', grd_u', pick_true', pick_false', un_not', Bool.not_true, Bool.not_false, Nat.add_zero, Nat.zero_add, Nat.reduceAdd, int_eql, int_neq, int_lss, int_leq, int_gtr, int_geq, rd_go, rdo_cells', rds_go, st_go, sto_cells, stc_ok', stA_go, stAo_all, stAo_allL, rdso_all, upd_push_top, one_int, one_bool, one_ptr, one_slice, one_map, one_func, one_iface, boxM_eq', newC_eq', Value.cells, push_get_new, push_size, upd_size, List.size_toArray, List.toList_toArray, List.length_cons, List.length_nil, List.all_cons, List.all_nil, Bool.and_self, Bool.and_true, decide_true, decide_false, int_add, w1]
  refine f119.b1_ok ?_
  have c2 : ¬ (1 : Int) < n := by omega
  simp only [f119.b1, nilV_ptr', offV_ptr, opt_some', extV_tuple', List.getElem?_cons_zero, List.getElem?_cons_succ, List.getElem?_toArray, cnd_true', cnd_false', grd_tt', grd_tf', grd_ft', grd_ff', grd_u', pick_true', pick_false', un_not', Bool.not_true, Bool.not_false, Nat.add_zero, Nat.zero_add, Nat.reduceAdd, int_eql, int_neq, int_lss, int_leq, int_gtr, int_geq, rd_go, rdo_cells', rds_go, st_go, sto_cells, stc_ok', stA_go, stAo_all, stAo_allL, rdso_all, upd_push_top, one_int, one_bool, one_ptr, one_slice, one_map, one_func, one_iface, boxM_eq', newC_eq', Value.cells, push_get_new, push_size, upd_size, List.size_toArray, List.toList_toArray, List.length_cons, List.length_nil, List.all_cons, List.all_nil, Bool.and_self, Bool.and_true, decide_true, decide_false, decide_eq_false c2]
  exact hk
end

end Go.Proofs.YtnnheophehnioaaGreat
namespace Go.Proofs.YtnnheophehnioaaGreat
open Go.Sx Go.Proofs Go.Gm
set_option maxRecDepth 100000

theorem due_keep {A : TL} {x : Int × Int} {now : Int} (hn : (A.map (·.1)).Nodup) (hm : tmin A x) (hd : x.2 ≤ now) : (tdel A x.1).filter (fun y => decide (now < y.2)) = A.filter fun y => decide (now < y.2) := by
  unfold tdel
  rw [List.filter_filter]
  refine List.filter_congr fun y hy => ?_
  by_cases hyx : y.1 = x.1
  · have : y.2 = x.2 := by
      have a1 := (tget_some hn).2 (show (x.1, y.2) ∈ A by rw [← hyx]; exact hy)
      have a2 := (tget_some hn).2 (show (x.1, x.2) ∈ A from hm.1)
      rw [a1] at a2; exact Option.some.inj a2
    have : ¬ now < y.2 := by omega
    simp [this]
  · simp [hyx]
theorem due_cons {A D2 : TL} {x : Int × Int} {now : Int} (hn : (A.map (·.1)).Nodup) (hm : tmin A x) (hd : x.2 ≤ now) (hs : D2.Pairwise tlt) (hp : D2.Perm ((tdel A x.1).filter fun y => decide (y.2 ≤ now))) :
    (x :: D2).Pairwise tlt ∧ (x :: D2).Perm (A.filter fun y => decide (y.2 ≤ now)) := by
  constructor
  · rw [List.pairwise_cons]
    refine ⟨fun y hy => ?_, hs⟩
    have hy' := hp.mem_iff.1 hy
    have hy2 := (List.mem_filter.1 (List.mem_filter.1 hy').1)
    have hyA := hy2.1
    have hyn : y.1 ≠ x.1 := by simpa using hy2.2
    have := hm.2 y hyA
    unfold tlt at *
    have : ¬ y.1 = x.1 := hyn
    omega
  · have hxmem : x ∈ A.filter fun y => decide (y.2 ≤ now) := List.mem_filter.2 ⟨hm.1, by simpa using hd⟩
    have hnd : (A.filter fun y => decide (y.2 ≤ now)).Nodup := by
      have : A.Nodup := by
        have := hn
        exact List.Pairwise.of_map (fun x : Int × Int => x.1) (fun a b h e => h (by rw [e])) this
      exact this.filter _
    have hxA2 : (tdel A x.1).filter (fun y => decide (y.2 ≤ now)) = (A.filter fun y => decide (y.2 ≤ now)).erase x := by
      rw [hnd.erase_eq_filter]
      unfold tdel
      rw [List.filter_filter, List.filter_filter]
      refine List.filter_congr fun y hy => ?_
      by_cases hyx : y.1 = x.1
      · have : y.2 = x.2 := by
          have a1 := (tget_some hn).2 (show (x.1, y.2) ∈ A by rw [← hyx]; exact hy)
          have a2 := (tget_some hn).2 (show (x.1, x.2) ∈ A from hm.1)
          rw [a1] at a2; exact Option.some.inj a2
        have : y = x := Prod.ext hyx this
        simp [this]
      · have : y ≠ x := fun e => hyx (by rw [e])
        simp [hyx, this]
    rw [hxA2] at hp
    exact (List.Perm.cons x hp).trans (List.perm_cons_erase hxmem).symm
theorem due_none {A : TL} {x : Int × Int} {now : Int} (hm : tmin A x) (hd : ¬ x.2 ≤ now) : A.filter (fun y => decide (y.2 ≤ now)) = [] ∧ A.filter (fun y => decide (now < y.2)) = A := by
  have hall : ∀ y ∈ A, now < y.2 := fun y hy => by
    have := hm.2 y hy
    unfold tlt at this; omega
  exact ⟨List.filter_eq_nil_iff.2 fun y hy => by have := hall y hy; simp; omega, List.filter_eq_self.2 fun y hy => by simpa using hall y hy⟩

/-- What is due: when, which match, who. -/
structure Due where
  at' : Int
  key : Int
  player : Int
def dueL (x : Due) : List Value := [.int .i64 x.at', .int .i64 x.key, .int .i64 x.player]
theorem dueL_len (x : Due) : (dueL x).length = 3 := rfl
abbrev Row3 := Int × Nat × Ct
def conR (rows : List Row3) : SP := stars (rows.map fun r => conS r.2.1 r.2.2)
theorem conR_get {rows : List Row3} {r : Row3} (h : r ∈ rows) : ∃ X, conR rows = conS r.2.1 r.2.2 * X := by
  obtain ⟨i, hi, e⟩ := List.getElem_of_mem h
  refine ⟨_, stars_get (i := i) ?_⟩
  rw [List.getElem?_map, List.getElem?_eq_getElem hi, e]; rfl
theorem bld_due (a b c : Int) : pureRun Tryz.prog (Instr.build 115 #[(0, .int .i64 a), (1, .int .i64 b), (2, .int .i64 c)]) = some (.agg #[.int .i64 a, .int .i64 b, .int .i64 c]) := by kernel_rfl
theorem bs_due (a b c : Int) (K : Value → HPred) (H : Hp) : tot Tryz.prog (Instr.buildSlice 110 1 #[(0, .agg #[.int .i64 a, .int .i64 b, .int .i64 c])]) K H = K (.slice (some ⟨H.size, 0, none⟩) 1 1) (H.push (.cells #[.int .i64 a, .int .i64 b, .int .i64 c] 115)) := by kernel_rfl
section
variable {p : Nat} {t : Tb} {M : Nat → List (Int × Value)} {R : SP}
/-- What Next has said. -/
def nextV (A : TL) (k a : Int) (ok : Bool) : Prop := (A = [] ∧ ok = false) ∨ (∃ x, tmin A x ∧ k = x.1 ∧ a = x.2 ∧ ok = true)
theorem due_while {rows : List Row3} {now : Int} {i : Nat} (hi : i < 4) {lf : Int → Int} (hlf : ∀ r ∈ rows, lf r.1 = lateP r.2.2) (hM : ∀ r ∈ rows, shd r.1 = i → mget (M i) r.1 = some (ptrQ r.2.1)) {K : Value → HPred} :
    ∀ (n : Nat) (T : Nat → TL) (L : List Due) (v : Value) (F : Nat → Prop) (H : Hp) (k a : Int) (ok : Bool), (T i).length ≤ n → (T i).length + L.length < 2 ^ 30 → (∀ x ∈ T i, ∃ r ∈ rows, r.1 = x.1 ∧ shd r.1 = i) → nextV (T i) k a ok →
    (tabS p t M T * (sliS v 115 3 L.length (L.flatMap dueL) * (conR rows * R))).holds F H →
    (∀ (D : TL) H' F' v', D.Pairwise tlt → D.Perm ((T i).filter fun x => decide (x.2 ≤ now)) →
      (tabS p t M (fupd T i ((T i).filter fun x => decide (now < x.2))) * (sliS v' 115 3 (L ++ D.map fun x => (⟨x.2, x.1, lf x.1⟩ : Due)).length ((L ++ D.map fun x => (⟨x.2, x.1, lf x.1⟩ : Due)).flatMap dueL) * (conR rows * R))).holds F' H' → Gr F H F' H' →
      f13.at15 K (ptrQ p) (.int .i64 now) v' (.int .i64 i) (.pointer (some ⟨p, 4 + i * 4, none⟩)) (.int .i64 i) v' (.int .i64 (L ++ D.map fun x => (⟨x.2, x.1, lf x.1⟩ : Due)).length) (.int .i64 0) H') →
    f13.at10 K (ptrQ p) (.int .i64 now) v (.int .i64 i) (.pointer (some ⟨p, 4 + i * 4, none⟩)) (.int .i64 k) (.int .i64 a) (.bool ok) (.int .i64 i) H := by
  intro n
  induction n with
  | zero =>
    intro T L v F H k a ok hl hmax hids hnx h hk
    have hA : T i = [] := List.eq_nil_of_length_eq_zero (by omega)
    have hok : ok = false := by
      rcases hnx with ⟨_, e⟩ | ⟨x, hm, _⟩
      · exact e
      · rw [hA] at hm; exact absurd hm.1 (by simp)
    subst hok
    refine f13.b10_ok ?_
    have hsl := h
    rw [show tabS p t M T * (sliS v 115 3 L.length (L.flatMap dueL) * (conR rows * R)) = sliS v 115 3 L.length (L.flatMap dueL) * (tabS p t M T * (conR rows * R)) by ac_rfl] at hsl
    obtain ⟨av, cv, rfl⟩ := (sli_lies hsl).shape
    simp only [f13.b10, nilV_ptr', offV_ptr, opt_some', extV_tuple', List.getElem?_cons_zero, List.getElem?_cons_succ, List.getElem?_toArray, cnd_true', cnd_false', grd_tt', grd_tf', grd_ft', grd_ff', grd_u', pick_true', pick_false', un_not', Bool.not_true, Bool.not_false, Nat.add_zero, Nat.zero_add, Nat.reduceAdd, int_eql, int_neq, int_lss, int_leq, int_gtr, int_geq, rd_go, rdo_cells', rds_go, st_go, sto_cells, stc_ok', stA_go, stAo_all, stAo_allL, rdso_all, upd_push_top, one_int, one_bool, one_ptr, one_slice, one_map, one_func, one_iface, boxM_eq', newC_eq', Value.cells, push_get_new, push_size, upd_size, List.size_toArray, List.toList_toArray, List.length_cons, List.length_nil, List.all_cons, List.all_nil, Bool.and_self, Bool.and_true, decide_true, decide_false, len_slice Tryz.underlying110]
    have e : fupd T i ((T i).filter fun x => decide (now < x.2)) = T := by rw [hA]; rw [show ([] : TL).filter _ = T i by rw [hA]; rfl]; exact fupd_id T i
    have := hk [] H F (.slice av L.length cv) List.Pairwise.nil (by rw [hA]; exact List.Perm.refl _) (by rw [e]; simpa using h) (Gr.refl _ _)
    simpa using this
  | succ n ih =>
    intro T L v F H k a ok hl hmax hids hnx h hk
    have stop : T i = (T i).filter (fun x => decide (now < x.2)) → (T i).filter (fun x => decide (x.2 ≤ now)) = [] → f13.at15 K (ptrQ p) (.int .i64 now) v (.int .i64 i) (.pointer (some ⟨p, 4 + i * 4, none⟩)) (.int .i64 i) v (.int .i64 L.length) (.int .i64 0) H := by
      intro e1 e2
      have e : fupd T i ((T i).filter fun x => decide (now < x.2)) = T := by rw [← e1]; exact fupd_id T i
      have := hk [] H F v List.Pairwise.nil (by rw [e2]) (by rw [e]; simpa using h) (Gr.refl _ _)
      simpa using this
    have hsl := h
    rw [show tabS p t M T * (sliS v 115 3 L.length (L.flatMap dueL) * (conR rows * R)) = sliS v 115 3 L.length (L.flatMap dueL) * (tabS p t M T * (conR rows * R)) by ac_rfl] at hsl
    obtain ⟨av, cv, rfl⟩ := (sli_lies hsl).shape
    refine f13.b10_ok ?_
    rcases hnx with ⟨hA, rfl⟩ | ⟨x, hm, rfl, rfl, rfl⟩
    · simp only [f13.b10, nilV_ptr', offV_ptr, opt_some', extV_tuple', List.getElem?_cons_zero, List.getElem?_cons_succ, List.getElem?_toArray, cnd_true', cnd_false', grd_tt', grd_tf', grd_ft', grd_ff', grd_u', pick_true', pick_false', un_not', Bool.not_true, Bool.not_false, Nat.add_zero, Nat.zero_add, Nat.reduceAdd, int_eql, int_neq, int_lss, int_leq, int_gtr, int_geq, rd_go, rdo_cells', rds_go, st_go, sto_cells, stc_ok', stA_go, stAo_all, stAo_allL, rdso_all, upd_push_top, one_int, one_bool, one_ptr, one_slice, one_map, one_func, one_iface, boxM_eq', newC_eq', Value.cells, push_get_new, push_size, upd_size, List.size_toArray, List.toList_toArray, List.length_cons, List.length_nil, List.all_cons, List.all_nil, Bool.and_self, Bool.and_true, decide_true, decide_false, len_slice Tryz.underlying110]
      exact stop (by rw [hA]; rfl) (by rw [hA]; rfl)
    · by_cases hd : x.2 ≤ now
      · obtain ⟨r, hr, hrx, hrs⟩ := hids x hm.1
        have hmg := hM r hr hrs
        rw [hrx] at hmg
        have hb := tab_blk h
        simp only [f13.b10, nilV_ptr', offV_ptr, opt_some', extV_tuple', List.getElem?_cons_zero, List.getElem?_cons_succ, List.getElem?_toArray, cnd_true', cnd_false', grd_tt', grd_tf', grd_ft', grd_ff', grd_u', pick_true', pick_false', un_not', Bool.not_true, Bool.not_false, Nat.add_zero, Nat.zero_add, Nat.reduceAdd, int_eql, int_neq, int_lss, int_leq, int_gtr, int_geq, rd_go, rdo_cells', rds_go, st_go, sto_cells, stc_ok', stA_go, stAo_all, stAo_allL, rdso_all, upd_push_top, one_int, one_bool, one_ptr, one_slice, one_map, one_func, one_iface, boxM_eq', newC_eq', Value.cells, push_get_new, push_size, upd_size, List.size_toArray, List.toList_toArray, List.length_cons, List.length_nil, List.all_cons, List.all_nil, Bool.and_self, Bool.and_true, decide_true, decide_false, decide_eq_true hd, hb, tab_map t hi, lk_map hi h, hmg, Option.getD_some]
        obtain ⟨X, hX⟩ := conR_get hr
        have hc := h
        rw [hX, show tabS p t M T * (sliS (.slice av L.length cv) 115 3 L.length (L.flatMap dueL) * (conS r.2.1 r.2.2 * X * R)) = conS r.2.1 r.2.2 * (tabS p t M T * (sliS (.slice av L.length cv) 115 3 L.length (L.flatMap dueL) * (X * R))) by ac_rfl] at hc
        refine late_ok hc fun H1 hx1 => ?_
        obtain ⟨h1, g1⟩ := SP.ext0 hsl hx1
        simp only [bld_due, nilV_ptr', offV_ptr, opt_some', extV_tuple', List.getElem?_cons_zero, List.getElem?_cons_succ, List.getElem?_toArray, cnd_true', cnd_false', grd_tt', grd_tf', grd_ft', grd_ff', grd_u', pick_true', pick_false', un_not', Bool.not_true, Bool.not_false, Nat.add_zero, Nat.zero_add, Nat.reduceAdd, int_eql, int_neq, int_lss, int_leq, int_gtr, int_geq, rd_go, rdo_cells', rds_go, st_go, sto_cells, stc_ok', stA_go, stAo_all, stAo_allL, rdso_all, upd_push_top, one_int, one_bool, one_ptr, one_slice, one_map, one_func, one_iface, boxM_eq', newC_eq', Value.cells, push_get_new, push_size, upd_size, List.size_toArray, List.toList_toArray, List.length_cons, List.length_nil, List.all_cons, List.all_nil, Bool.and_self, Bool.and_true, decide_true, decide_false, bs_due]
        refine append_sli_new (sz := 3) Tryz.underlying110 Tryz.type115 rfl rfl rfl (by decide) (by decide) h1 (ns := #[.int .i64 x.2, .int .i64 x.1, .int .i64 (lateP r.2.2)]) (k := 1) rfl rfl ?_ ?_
        · have : (2 * (L.length + 1) + 192) * 24 ≤ 2 ^ 48 := by omega
          exact this
        intro v' H2 F2 h2 g2
        rw [show sliS v' 115 3 (L.length + 1) (L.flatMap dueL ++ (#[.int .i64 x.2, .int .i64 x.1, .int .i64 (lateP r.2.2)] : Array Value).toList) * (tabS p t M T * (conR rows * R)) = tabS p t M T * (sliS v' 115 3 (L.length + 1) (L.flatMap dueL ++ (#[.int .i64 x.2, .int .i64 x.1, .int .i64 (lateP r.2.2)] : Array Value).toList) * (conR rows * R)) by ac_rfl] at h2
        have hb2 := tab_blk h2
        obtain ⟨Ft, ht, back⟩ := tab_tim hi h2
        have hnd := ht.nodup
        simp only [nilV_ptr', offV_ptr, opt_some', extV_tuple', List.getElem?_cons_zero, List.getElem?_cons_succ, List.getElem?_toArray, cnd_true', cnd_false', grd_tt', grd_tf', grd_ft', grd_ff', grd_u', pick_true', pick_false', un_not', Bool.not_true, Bool.not_false, Nat.add_zero, Nat.zero_add, Nat.reduceAdd, int_eql, int_neq, int_lss, int_leq, int_gtr, int_geq, rd_go, rdo_cells', rds_go, st_go, sto_cells, stc_ok', stA_go, stAo_all, stAo_allL, rdso_all, upd_push_top, one_int, one_bool, one_ptr, one_slice, one_map, one_func, one_iface, boxM_eq', newC_eq', Value.cells, push_get_new, push_size, upd_size, List.size_toArray, List.toList_toArray, List.length_cons, List.length_nil, List.all_cons, List.all_nil, Bool.and_self, Bool.and_true, decide_true, decide_false, hb2, tab_q t hi]
        refine timers_cancel ht (by omega) (fun tm _ H3 hx3 ht3 => ?_) (fun hg => ?_)
        · obtain ⟨F3, h3, g3⟩ := back _ _ _ ht3 (Gr.of hx3 fun b hb => hb)
          have hb3 := tab_blk h3
          simp only [nilV_ptr', offV_ptr, opt_some', extV_tuple', List.getElem?_cons_zero, List.getElem?_cons_succ, List.getElem?_toArray, cnd_true', cnd_false', grd_tt', grd_tf', grd_ft', grd_ff', grd_u', pick_true', pick_false', un_not', Bool.not_true, Bool.not_false, Nat.add_zero, Nat.zero_add, Nat.reduceAdd, int_eql, int_neq, int_lss, int_leq, int_gtr, int_geq, rd_go, rdo_cells', rds_go, st_go, sto_cells, stc_ok', stA_go, stAo_all, stAo_allL, rdso_all, upd_push_top, one_int, one_bool, one_ptr, one_slice, one_map, one_func, one_iface, boxM_eq', newC_eq', Value.cells, push_get_new, push_size, upd_size, List.size_toArray, List.toList_toArray, List.length_cons, List.length_nil, List.all_cons, List.all_nil, Bool.and_self, Bool.and_true, decide_true, decide_false, hb3, tab_q t hi]
          have hlt : (tdel (T i) x.1).length < (T i).length := by
            have hmem := hm.1
            unfold tdel
            rw [List.length_filter_lt_length_iff_exists]
            exact ⟨x, hmem, by simp⟩
          have eL : (L ++ [(⟨x.2, x.1, lf x.1⟩ : Due)]).flatMap dueL = L.flatMap dueL ++ (#[.int .i64 x.2, .int .i64 x.1, .int .i64 (lateP r.2.2)] : Array Value).toList := by
            rw [List.flatMap_append]
            have := hlf r hr
            rw [hrx] at this
            rw [← this]; rfl
          have nL : (L ++ [(⟨x.2, x.1, lf x.1⟩ : Due)]).length = L.length + 1 := by simp
          have fT : fupd T i (tdel (T i) x.1) i = tdel (T i) x.1 := fupd_same _ _ _
          have nxt : ∀ (k' a' : Int) (ok' : Bool), nextV (tdel (T i) x.1) k' a' ok' → f13.at10 K (ptrQ p) (.int .i64 now) v' (.int .i64 i) (.pointer (some ⟨p, 4 + i * 4, none⟩)) (.int .i64 k') (.int .i64 a') (.bool ok') (.int .i64 i) H3 := by
            intro k' a' ok' hn'
            refine ih (fupd T i (tdel (T i) x.1)) (L ++ [⟨x.2, x.1, lf x.1⟩]) v' F3 H3 k' a' ok' (by rw [fT]; omega) (by rw [fT, nL]; omega) ?_ (by rw [fT]; exact hn') (by rw [eL, nL]; exact h3) ?_
            · intro y hy
              rw [fT] at hy
              exact hids y (List.mem_filter.1 hy).1
            · intro D H' F' v'' hs hp h' g'
              rw [fT] at hp
              rw [fupd_fupd, fT, due_keep hnd hm hd] at h'
              obtain ⟨q1, q2⟩ := due_cons hnd hm hd hs hp
              have := hk (x :: D) H' F' v'' q1 q2 (by simpa using h') (g1.trans (g2.trans (g3.trans g')))
              simpa using this
          obtain ⟨Ft3, ht3', -⟩ := tab_tim hi h3
          rw [fT] at ht3'
          refine timers_next ht3' (fun e => ?_) (fun y hy => ?_)
          · simp only [nilV_ptr', offV_ptr, opt_some', extV_tuple', List.getElem?_cons_zero, List.getElem?_cons_succ, List.getElem?_toArray, cnd_true', cnd_false', grd_tt', grd_tf', grd_ft', grd_ff', grd_u', pick_true', pick_false', un_not', Bool.not_true, Bool.not_false, Nat.add_zero, Nat.zero_add, Nat.reduceAdd, int_eql, int_neq, int_lss, int_leq, int_gtr, int_geq, rd_go, rdo_cells', rds_go, st_go, sto_cells, stc_ok', stA_go, stAo_all, stAo_allL, rdso_all, upd_push_top, one_int, one_bool, one_ptr, one_slice, one_map, one_func, one_iface, boxM_eq', newC_eq', Value.cells, push_get_new, push_size, upd_size, List.size_toArray, List.toList_toArray, List.length_cons, List.length_nil, List.all_cons, List.all_nil, Bool.and_self, Bool.and_true, decide_true, decide_false]
            exact nxt 0 0 false (.inl ⟨e, rfl⟩)
          · simp only [nilV_ptr', offV_ptr, opt_some', extV_tuple', List.getElem?_cons_zero, List.getElem?_cons_succ, List.getElem?_toArray, cnd_true', cnd_false', grd_tt', grd_tf', grd_ft', grd_ff', grd_u', pick_true', pick_false', un_not', Bool.not_true, Bool.not_false, Nat.add_zero, Nat.zero_add, Nat.reduceAdd, int_eql, int_neq, int_lss, int_leq, int_gtr, int_geq, rd_go, rdo_cells', rds_go, st_go, sto_cells, stc_ok', stA_go, stAo_all, stAo_allL, rdso_all, upd_push_top, one_int, one_bool, one_ptr, one_slice, one_map, one_func, one_iface, boxM_eq', newC_eq', Value.cells, push_get_new, push_size, upd_size, List.size_toArray, List.toList_toArray, List.length_cons, List.length_nil, List.all_cons, List.all_nil, Bool.and_self, Bool.and_true, decide_true, decide_false]
            exact nxt y.1 y.2 true (.inr ⟨y, hy, rfl, rfl, rfl⟩)
        · rw [tget_none] at hg
          exact absurd (List.mem_map_of_mem hm.1) hg
      · obtain ⟨e1, e2⟩ := due_none hm hd
        simp only [f13.b10, nilV_ptr', offV_ptr, opt_some', extV_tuple', List.getElem?_cons_zero, List.getElem?_cons_succ, List.getElem?_toArray, cnd_true', cnd_false', grd_tt', grd_tf', grd_ft', grd_ff', grd_u', pick_true', pick_false', un_not', Bool.not_true, Bool.not_false, Nat.add_zero, Nat.zero_add, Nat.reduceAdd, int_eql, int_neq, int_lss, int_leq, int_gtr, int_geq, rd_go, rdo_cells', rds_go, st_go, sto_cells, stc_ok', stA_go, stAo_all, stAo_allL, rdso_all, upd_push_top, one_int, one_bool, one_ptr, one_slice, one_map, one_func, one_iface, boxM_eq', newC_eq', Value.cells, push_get_new, push_size, upd_size, List.size_toArray, List.toList_toArray, List.length_cons, List.length_nil, List.all_cons, List.all_nil, Bool.and_self, Bool.and_true, decide_true, decide_false, decide_eq_false hd, len_slice Tryz.underlying110]
        exact stop e2.symm e1
end

end Go.Proofs.YtnnheophehnioaaGreat
namespace Go.Proofs.YtnnheophehnioaaGreat
open Go.Sx Go.Proofs Go.Gm
set_option maxRecDepth 100000

theorem tset_len (A : TL) (id tm : Int) : (tset A id tm).length ≤ A.length + 1 := by
  unfold tset; split <;> simp
theorem tdel_len (A : TL) (id : Int) : (tdel A id).length ≤ A.length := List.length_filter_le _ _
theorem timesP_len (c : Ct) (A : TL) (key at' : Int) : (timesP c A key at').length ≤ A.length + 1 := by
  unfold timesP
  split
  · exact tset_len _ _ _
  · have := tdel_len A key; omega
/-- A match that was late: its time anew. -/
def stepT (ctOf : Int → Ct) (at' : Int) (i : Nat) (T : Nat → TL) (x : Due) : Nat → TL := if x.key.tmod 4 = i then fupd T i (timesP (ctOf x.key) (T i) x.key at') else T
theorem at_three {H : Hp} {b o : Nat} {c : Array Value} {T : TypeId} {fz : Nat × Nat} {x : Due} (hb : H[b]? = some (.cells c T fz)) (hs : o + 3 ≤ c.size) (hg : ∀ j, j < 3 → c[o + j]? = (dueL x)[j]?) :
    ∀ K : Value → HPred, rd (cellsP (.pointer (some ⟨b, o, none⟩)) 3) K H = K (.agg #[.int .i64 x.at', .int .i64 x.key, .int .i64 x.player]) H := by
  intro K
  have e : c.extract o (o + 3) = #[.int .i64 x.at', .int .i64 x.key, .int .i64 x.player] := by
    apply Array.ext_getElem?
    intro k
    rw [Array.getElem?_extract]
    match k with
    | 0 => rw [if_pos (by omega)]; exact hg 0 (by omega)
    | 1 => rw [if_pos (by omega)]; exact hg 1 (by omega)
    | 2 => rw [if_pos (by omega)]; exact hg 2 (by omega)
    | k + 3 => rw [if_neg (by omega)]; simp
  rw [rds_blk hb hs, e]
section
variable {p : Nat} {t : Tb} {M : Nat → List (Int × Value)} {R : SP}
theorem due_again {rows : List Row3} {now : Int} {i : Nat} (hi : i < 4) {ctOf : Int → Ct} (hct : ∀ r ∈ rows, ctOf r.1 = r.2.2) (hM : ∀ r ∈ rows, shd r.1 = i → mget (M i) r.1 = some (ptrQ r.2.1)) (hpos : ∀ r ∈ rows, 0 ≤ r.1)
    (hnow : -2 ^ 62 ≤ now + t.tmo ∧ now + t.tmo ≤ 2 ^ 62) (hl0 : t.lk i = 0) {L : List Due} (hLl : L.length < 2 ^ 40) (hL : ∀ x ∈ L, ∃ r ∈ rows, r.1 = x.key) {v : Value} {K : Value → HPred} :
    ∀ (d j : Nat) (T : Nat → TL) (F : Nat → Prop) (H : Hp), L.length = j + d → (T i).length + d < 4096 →
    (tabS p { t with lk := fupd t.lk i 1 } M T * (sliS v 115 3 L.length (L.flatMap dueL) * (conR rows * R))).holds F H →
    (∀ H' F', (tabS p t M ((L.drop j).foldl (stepT ctOf (now + t.tmo) i) T) * (sliS v 115 3 L.length (L.flatMap dueL) * (conR rows * R))).holds F' H' → Gr F H F' H' →
      f13.at5 K (ptrQ p) (.int .i64 now) v (.int .i64 ((i : Int) + 1)) H') →
    f13.at15 K (ptrQ p) (.int .i64 now) v (.int .i64 i) (.pointer (some ⟨p, 4 + i * 4, none⟩)) (.int .i64 i) v (.int .i64 L.length) (.int .i64 j) H := by
  intro d
  induction d with
  | zero =>
    intro j T F H hj hlen h hk
    refine f13.b15_ok ?_
    have hlt : ¬ (j : Int) < (L.length : Int) := by omega
    have ea : IntKind.i64.wrap ((i : Int) + 1) = (i : Int) + 1 := wrap64_id (by omega) (by omega)
    simp only [f13.b15, nilV_ptr', offV_ptr, opt_some', extV_tuple', List.getElem?_cons_zero, List.getElem?_cons_succ, List.getElem?_toArray, cnd_true', cnd_false', grd_tt', grd_tf', grd_ft', grd_ff', grd_u', pick_true', pick_false', un_not', Bool.not_true, Bool.not_false, Nat.add_zero, Nat.zero_add, Nat.reduceAdd, int_eql, int_neq, int_lss, int_leq, int_gtr, int_geq, rd_go, rdo_cells', rds_go, st_go, sto_cells, stc_ok', stA_go, stAo_all, stAo_allL, rdso_all, upd_push_top, one_int, one_bool, one_ptr, one_slice, one_map, one_func, one_iface, boxM_eq', newC_eq', Value.cells, push_get_new, push_size, upd_size, List.size_toArray, List.toList_toArray, List.length_cons, List.length_nil, List.all_cons, List.all_nil, Bool.and_self, Bool.and_true, decide_true, decide_false, decide_eq_false hlt]
    refine sunlock_ok hi h hl0 fun H1 h1 g1 => ?_
    simp only [nilV_ptr', offV_ptr, opt_some', extV_tuple', List.getElem?_cons_zero, List.getElem?_cons_succ, List.getElem?_toArray, cnd_true', cnd_false', grd_tt', grd_tf', grd_ft', grd_ff', grd_u', pick_true', pick_false', un_not', Bool.not_true, Bool.not_false, Nat.add_zero, Nat.zero_add, Nat.reduceAdd, int_eql, int_neq, int_lss, int_leq, int_gtr, int_geq, rd_go, rdo_cells', rds_go, st_go, sto_cells, stc_ok', stA_go, stAo_all, stAo_allL, rdso_all, upd_push_top, one_int, one_bool, one_ptr, one_slice, one_map, one_func, one_iface, boxM_eq', newC_eq', Value.cells, push_get_new, push_size, upd_size, List.size_toArray, List.toList_toArray, List.length_cons, List.length_nil, List.all_cons, List.all_nil, Bool.and_self, Bool.and_true, decide_true, decide_false, int_add, ea]
    rw [List.drop_of_length_le (by omega)] at hk
    exact hk _ _ h1 g1
  | succ d ih =>
    intro j T F H hj hlen h hk
    have hlt : (j : Int) < (L.length : Int) := by omega
    have hx : L[j]? = some L[j] := List.getElem?_eq_getElem (by omega)
    have hsl := h
    rw [show tabS p { t with lk := fupd t.lk i 1 } M T * (sliS v 115 3 L.length (L.flatMap dueL) * (conR rows * R)) = sliS v 115 3 L.length (L.flatMap dueL) * (tabS p { t with lk := fupd t.lk i 1 } M T * (conR rows * R)) by ac_rfl] at hsl
    obtain ⟨bb, o, cc, ccap, TT, fz, hve, hbb, hil, hsz, hg⟩ := (sli_lies hsl).at dueL_len hx
    have rs := at_three hbb (o := o + j * 3) (by omega) (fun k hk => by rw [Nat.add_assoc]; exact hg k hk)
    have ei : o + Int.toNat (j : Int) * 3 = o + j * 3 := by simp
    have eaj : IntKind.i64.wrap ((j : Int) + 1) = ((j + 1 : Nat) : Int) := by rw [wrap64_id (by omega) (by omega)]; omega
    rw [List.drop_eq_getElem_cons (by omega)] at hk
    generalize hy : L[j] = y at hx hg rs hk
    have hix : idxS v (.int .i64 (j : Int)) 3 = some (.pointer (some ⟨bb, o + j * 3, none⟩)) := by rw [hve, idxS_eq (Int.natCast_nonneg j) hlt, ei]
    refine f13.b15_ok ?_
    have next : ∀ (T' : Nat → TL) (F' : Nat → Prop) (H' : Hp), (T' i).length + d < 4096 → T' = stepT ctOf (now + t.tmo) i T y → (tabS p { t with lk := fupd t.lk i 1 } M T' * (sliS v 115 3 L.length (L.flatMap dueL) * (conR rows * R))).holds F' H' → Gr F H F' H' →
        f13.at19 K (ptrQ p) (.int .i64 now) v (.int .i64 i) (.pointer (some ⟨p, 4 + i * 4, none⟩)) (.int .i64 i) v (.int .i64 L.length) (.int .i64 j) H' := by
      intro T' F' H' hl' hT h' g'
      refine f13.b19_ok ?_
      simp only [f13.b19, nilV_ptr', offV_ptr, opt_some', extV_tuple', List.getElem?_cons_zero, List.getElem?_cons_succ, List.getElem?_toArray, cnd_true', cnd_false', grd_tt', grd_tf', grd_ft', grd_ff', grd_u', pick_true', pick_false', un_not', Bool.not_true, Bool.not_false, Nat.add_zero, Nat.zero_add, Nat.reduceAdd, int_eql, int_neq, int_lss, int_leq, int_gtr, int_geq, rd_go, rdo_cells', rds_go, st_go, sto_cells, stc_ok', stA_go, stAo_all, stAo_allL, rdso_all, upd_push_top, one_int, one_bool, one_ptr, one_slice, one_map, one_func, one_iface, boxM_eq', newC_eq', Value.cells, push_get_new, push_size, upd_size, List.size_toArray, List.toList_toArray, List.length_cons, List.length_nil, List.all_cons, List.all_nil, Bool.and_self, Bool.and_true, decide_true, decide_false, int_add, eaj]
      refine ih (j + 1) T' F' H' (by omega) hl' h' fun H'' F'' h'' g'' => ?_
      rw [hT] at h''
      exact hk H'' F'' (by rw [List.foldl_cons]; exact h'') (g'.trans g'')
    have h4 : (4 : Int) ≠ 0 := by decide
    have a3 : ([.int .i64 y.at', .int .i64 y.key, .int .i64 y.player] : List Value).all oneCell = true := rfl
    simp (disch := first | assumption | (simp only [List.size_toArray, List.toList_toArray, List.length_cons, List.length_nil, List.all_cons, List.all_nil, oneCell, Bool.and_self, Bool.and_true, Nat.reduceAdd]; done) | (simp only [push_size, upd_size]; done) | (simp only [push_size, upd_size]; omega) | omega) only [f13.b15, nilV_ptr', offV_ptr, opt_some', extV_tuple', List.getElem?_cons_zero, List.getElem?_cons_succ, List.getElem?_toArray, cnd_true', cnd_false', grd_tt', grd_tf', grd_ft', grd_ff', grd_u', pick_true', pick_false', un_not', Bool.not_true, Bool.not_false, Nat.add_zero, Nat.zero_add, Nat.reduceAdd, int_eql, int_neq, int_lss, int_leq, int_gtr, int_geq, rd_go, rdo_cells', rds_go, st_go, sto_cells, stc_ok', stA_go, stAo_all, stAo_allL, rdso_all, upd_push_top, one_int, one_bool, one_ptr, one_slice, one_map, one_func, one_iface, boxM_eq', newC_eq', Value.cells, push_get_new, push_size, upd_size, List.size_toArray, List.toList_toArray, List.length_cons, List.length_nil, List.all_cons, List.all_nil, Bool.and_self, Bool.and_true, decide_true, decide_false, push_get_old, push_get_eq, upd_push_old, upd_push_eq, upd_get_self, upd_get_ne, decide_eq_true hlt, hix, rs, int_rem _ _ _ _ _ _ h4]
    obtain ⟨h1, g1⟩ := SP.push h (.cells #[.int .i64 y.at', .int .i64 y.key, .int .i64 y.player] 115)
    by_cases ck : y.key.tmod 4 = (i : Int)
    · obtain ⟨r, hr, hrx⟩ := hL y (List.mem_of_getElem? hx)
      have hk0 := hpos r hr
      rw [hrx] at hk0
      have hsi : shd y.key = i := by have := shd_int hk0; omega
      have hmg := hM r hr (by rw [hrx]; exact hsi)
      rw [hrx] at hmg
      obtain ⟨X, hX⟩ := conR_get hr
      simp only [decide_eq_true ck, nilV_ptr', offV_ptr, opt_some', extV_tuple', List.getElem?_cons_zero, List.getElem?_cons_succ, List.getElem?_toArray, cnd_true', cnd_false', grd_tt', grd_tf', grd_ft', grd_ff', grd_u', pick_true', pick_false', un_not', Bool.not_true, Bool.not_false, Nat.add_zero, Nat.zero_add, Nat.reduceAdd, int_eql, int_neq, int_lss, int_leq, int_gtr, int_geq, rd_go, rdo_cells', rds_go, st_go, sto_cells, stc_ok', stA_go, stAo_all, stAo_allL, rdso_all, upd_push_top, one_int, one_bool, one_ptr, one_slice, one_map, one_func, one_iface, boxM_eq', newC_eq', Value.cells, push_get_new, push_size, upd_size, List.size_toArray, List.toList_toArray, List.length_cons, List.length_nil, List.all_cons, List.all_nil, Bool.and_self, Bool.and_true, decide_true, decide_false]
      have hc := h1
      rw [hX, show tabS p { t with lk := fupd t.lk i 1 } M T * (sliS v 115 3 L.length (L.flatMap dueL) * (conS r.2.1 r.2.2 * X * R)) = tabS p { t with lk := fupd t.lk i 1 } M T * (conS r.2.1 r.2.2 * (sliS v 115 3 L.length (L.flatMap dueL) * (X * R))) by ac_rfl] at hc
      refine times_ok hi hc hmg (.inr (by omega)) (by omega) hnow fun H2 F2 h2 g2 => ?_
      have hct' := hct r hr
      rw [hrx] at hct'
      refine next (fupd T i (timesP r.2.2 (T i) y.key (now + t.tmo))) F2 H2 ?_ ?_ ?_ (g1.trans g2)
      · rw [fupd_same]
        have := timesP_len r.2.2 (T i) y.key (now + t.tmo); omega
      · unfold stepT
        rw [if_pos ck, hct']
      · rw [hX, show ∀ Z : SP, Z * (sliS v 115 3 L.length (L.flatMap dueL) * (conS r.2.1 r.2.2 * X * R)) = Z * (conS r.2.1 r.2.2 * (sliS v 115 3 L.length (L.flatMap dueL) * (X * R))) by intro Z; ac_rfl]
        exact h2
    · simp only [decide_eq_false ck, nilV_ptr', offV_ptr, opt_some', extV_tuple', List.getElem?_cons_zero, List.getElem?_cons_succ, List.getElem?_toArray, cnd_true', cnd_false', grd_tt', grd_tf', grd_ft', grd_ff', grd_u', pick_true', pick_false', un_not', Bool.not_true, Bool.not_false, Nat.add_zero, Nat.zero_add, Nat.reduceAdd, int_eql, int_neq, int_lss, int_leq, int_gtr, int_geq, rd_go, rdo_cells', rds_go, st_go, sto_cells, stc_ok', stA_go, stAo_all, stAo_allL, rdso_all, upd_push_top, one_int, one_bool, one_ptr, one_slice, one_map, one_func, one_iface, boxM_eq', newC_eq', Value.cells, push_get_new, push_size, upd_size, List.size_toArray, List.toList_toArray, List.length_cons, List.length_nil, List.all_cons, List.all_nil, Bool.and_self, Bool.and_true, decide_true, decide_false]
      refine next T F _ (by omega) ?_ h1 g1
      unfold stepT
      rw [if_neg ck]
end

end Go.Proofs.YtnnheophehnioaaGreat
namespace Go.Proofs.YtnnheophehnioaaGreat
open Go.Sx Go.Proofs Go.Gm
set_option maxRecDepth 100000

def dueOf (lf : Int → Int) (D : TL) : List Due := D.map fun x => ⟨x.2, x.1, lf x.1⟩
/-- From shard i on: times and what is due become others. -/
inductive DueR (now at' : Int) (lf : Int → Int) (ctOf : Int → Ct) : Nat → (Nat → TL) → List Due → (Nat → TL) → List Due → Prop
  | done (T : Nat → TL) (L : List Due) : DueR now at' lf ctOf 4 T L T L
  | step (i : Nat) (T : Nat → TL) (L : List Due) (D : TL) (T' : Nat → TL) (L' : List Due) (hi : i < 4) (hs : D.Pairwise tlt) (hp : D.Perm ((T i).filter fun x => decide (x.2 ≤ now)))
      (h : DueR now at' lf ctOf (i + 1) ((L ++ dueOf lf D).foldl (stepT ctOf at' i) (fupd T i ((T i).filter fun x => decide (now < x.2)))) (L ++ dueOf lf D) T' L') : DueR now at' lf ctOf i T L T' L'
theorem fold_ne {ctOf : Int → Ct} {at' : Int} {i j : Nat} (h : j ≠ i) : ∀ (L : List Due) (T : Nat → TL), (L.foldl (stepT ctOf at' i) T) j = T j
  | [], _ => rfl
  | x :: L, T => by
    rw [List.foldl_cons, fold_ne h L]
    unfold stepT
    split
    · exact fupd_ne _ _ h
    · rfl
structure Late where
  key : Int
  player : Int
def lateL (x : Late) : List Value := [.int .i64 x.key, .int .i64 x.player]
theorem lateL_len (x : Late) : (lateL x).length = 2 := rfl
theorem bld_late (a b : Int) : pureRun Tryz.prog (Instr.build 73 #[(0, .int .i64 a), (1, .int .i64 b)]) = some (.agg #[.int .i64 a, .int .i64 b]) := by kernel_rfl
theorem bs_late (a b : Int) (K : Value → HPred) (H : Hp) : tot Tryz.prog (Instr.buildSlice 40 1 #[(0, .agg #[.int .i64 a, .int .i64 b])]) K H = K (.slice (some ⟨H.size, 0, none⟩) 1 1) (H.push (.cells #[.int .i64 a, .int .i64 b] 73)) := by kernel_rfl
def outOf (L : List Due) : List Late := L.map fun x => ⟨x.key, x.player⟩
section
variable {p : Nat} {t : Tb} {M : Nat → List (Int × Value)} {R : SP}
theorem due_out {L : List Due} {v : Value} (hLl : L.length < 2 ^ 30) {K : Value → HPred} : ∀ (d j : Nat) (w : Value) (F : Nat → Prop) (H : Hp), L.length = j + d →
    (sliS w 73 2 (outOf (L.take j)).length ((outOf (L.take j)).flatMap lateL) * (sliS v 115 3 L.length (L.flatMap dueL) * R)).holds F H →
    (∀ w' H' F', (sliS w' 73 2 (outOf L).length ((outOf L).flatMap lateL) * (sliS v 115 3 L.length (L.flatMap dueL) * R)).holds F' H' → Gr F H F' H' → K w' H') →
    f13.at25 K w v (.int .i64 L.length) (.int .i64 j) H := by
  intro d
  induction d with
  | zero =>
    intro j w F H hj h hk
    refine f13.b25_ok ?_
    have hlt : ¬ (j : Int) < (L.length : Int) := by omega
    simp only [f13.b25, nilV_ptr', offV_ptr, opt_some', extV_tuple', List.getElem?_cons_zero, List.getElem?_cons_succ, List.getElem?_toArray, cnd_true', cnd_false', grd_tt', grd_tf', grd_ft', grd_ff', grd_u', pick_true', pick_false', un_not', Bool.not_true, Bool.not_false, Nat.add_zero, Nat.zero_add, Nat.reduceAdd, int_eql, int_neq, int_lss, int_leq, int_gtr, int_geq, rd_go, rdo_cells', rds_go, st_go, sto_cells, stc_ok', stA_go, stAo_all, stAo_allL, rdso_all, upd_push_top, one_int, one_bool, one_ptr, one_slice, one_map, one_func, one_iface, boxM_eq', newC_eq', Value.cells, push_get_new, push_size, upd_size, List.size_toArray, List.toList_toArray, List.length_cons, List.length_nil, List.all_cons, List.all_nil, Bool.and_self, Bool.and_true, decide_true, decide_false, decide_eq_false hlt]
    rw [List.take_of_length_le (by omega)] at h
    exact hk w H F h (Gr.refl _ _)
  | succ d ih =>
    intro j w F H hj h hk
    have hlt : (j : Int) < (L.length : Int) := by omega
    have hx : L[j]? = some L[j] := List.getElem?_eq_getElem (by omega)
    obtain ⟨F0, h0, -⟩ := SP.right h
    obtain ⟨bb, o, cc, ccap, TT, fz, hve, hbb, hil, hsz, hg⟩ := (sli_lies h0).at dueL_len hx
    have rs := at_three hbb (o := o + j * 3) (by omega) (fun k hk => by rw [Nat.add_assoc]; exact hg k hk)
    have ei : o + Int.toNat (j : Int) * 3 = o + j * 3 := by simp
    have eaj : IntKind.i64.wrap ((j : Int) + 1) = ((j + 1 : Nat) : Int) := by rw [wrap64_id (by omega) (by omega)]; omega
    have etk : L.take (j + 1) = L.take j ++ [L[j]] := by rw [List.take_add_one, hx]; rfl
    generalize hy : L[j] = y at hx hg rs etk
    have hix : idxS v (.int .i64 (j : Int)) 3 = some (.pointer (some ⟨bb, o + j * 3, none⟩)) := by rw [hve, idxS_eq (Int.natCast_nonneg j) hlt, ei]
    refine f13.b25_ok ?_
    have a3 : ([.int .i64 y.at', .int .i64 y.key, .int .i64 y.player] : List Value).all oneCell = true := rfl
    simp (disch := first | assumption | (simp only [List.size_toArray, List.toList_toArray, List.length_cons, List.length_nil, List.all_cons, List.all_nil, oneCell, Bool.and_self, Bool.and_true, Nat.reduceAdd]; done) | (simp only [push_size, upd_size]; done) | (simp only [push_size, upd_size]; omega) | omega) only [f13.b25, nilV_ptr', offV_ptr, opt_some', extV_tuple', List.getElem?_cons_zero, List.getElem?_cons_succ, List.getElem?_toArray, cnd_true', cnd_false', grd_tt', grd_tf', grd_ft', grd_ff', grd_u', pick_true', pick_false', un_not', Bool.not_true, Bool.not_false, Nat.add_zero, Nat.zero_add, Nat.reduceAdd, int_eql, int_neq, int_lss, int_leq, int_gtr, int_geq, rd_go, rdo_cells', rds_go, st_go, sto_cells, stc_ok', stA_go, stAo_all, stAo_allL, rdso_all, upd_push_top, one_int, one_bool, one_ptr, one_slice, one_map, one_func, one_iface, boxM_eq', newC_eq', Value.cells, push_get_new, push_size, upd_size, List.size_toArray, List.toList_toArray, List.length_cons, List.length_nil, List.all_cons, List.all_nil, Bool.and_self, Bool.and_true, decide_true, decide_false, push_get_old, push_get_eq, upd_push_old, upd_push_eq, upd_get_self, upd_get_ne, decide_eq_true hlt, hix, rs, bld_late, bs_late]
    obtain ⟨h1, g1⟩ := SP.push h (.cells #[.int .i64 y.at', .int .i64 y.key, .int .i64 y.player] 115)
    have hlen : (outOf (L.take j)).length ≤ j := by unfold outOf; rw [List.length_map, List.length_take]; omega
    have hsz1 : (H.push (Obj.cells #[Value.int .i64 y.at', Value.int .i64 y.key, Value.int .i64 y.player] 115)).size = H.size + 1 := by simp
    rw [← hsz1]
    refine append_sli_new (sz := 2) Tryz.underlying40 Tryz.type73 rfl rfl rfl (by decide) (by decide) h1 (ns := #[.int .i64 y.key, .int .i64 y.player]) (k := 1) rfl rfl ?_ ?_
    · have : (2 * ((outOf (L.take j)).length + 1) + 192) * 16 ≤ 2 ^ 48 := by omega
      exact this
    intro w' H2 F2 h2 g2
    simp only [nilV_ptr', offV_ptr, opt_some', extV_tuple', List.getElem?_cons_zero, List.getElem?_cons_succ, List.getElem?_toArray, cnd_true', cnd_false', grd_tt', grd_tf', grd_ft', grd_ff', grd_u', pick_true', pick_false', un_not', Bool.not_true, Bool.not_false, Nat.add_zero, Nat.zero_add, Nat.reduceAdd, int_eql, int_neq, int_lss, int_leq, int_gtr, int_geq, rd_go, rdo_cells', rds_go, st_go, sto_cells, stc_ok', stA_go, stAo_all, stAo_allL, rdso_all, upd_push_top, one_int, one_bool, one_ptr, one_slice, one_map, one_func, one_iface, boxM_eq', newC_eq', Value.cells, push_get_new, push_size, upd_size, List.size_toArray, List.toList_toArray, List.length_cons, List.length_nil, List.all_cons, List.all_nil, Bool.and_self, Bool.and_true, decide_true, decide_false, int_add, eaj]
    refine ih (j + 1) w' F2 H2 (by omega) ?_ fun w'' H' F' h' g' => hk w'' H' F' h' (g1.trans (g2.trans g'))
    have e1 : outOf (L.take (j + 1)) = outOf (L.take j) ++ [⟨y.key, y.player⟩] := by rw [etk]; unfold outOf; rw [List.map_append]; rfl
    have e2 : (outOf (L.take (j + 1))).flatMap lateL = (outOf (L.take j)).flatMap lateL ++ (#[.int .i64 y.key, .int .i64 y.player] : Array Value).toList := by rw [e1, List.flatMap_append]; rfl
    have e3 : (outOf (L.take (j + 1))).length = (outOf (L.take j)).length + 1 := by rw [e1]; simp
    rw [e2, e3]
    exact h2
theorem due_outer {rows : List Row3} {now : Int} {lf : Int → Int} (hlf : ∀ r ∈ rows, lf r.1 = lateP r.2.2) {ctOf : Int → Ct} (hct : ∀ r ∈ rows, ctOf r.1 = r.2.2) (hM : ∀ i, i < 4 → ∀ r ∈ rows, shd r.1 = i → mget (M i) r.1 = some (ptrQ r.2.1)) (hpos : ∀ r ∈ rows, 0 ≤ r.1)
    (hnow : -2 ^ 62 ≤ now + t.tmo ∧ now + t.tmo ≤ 2 ^ 62) (hl0 : ∀ i, i < 4 → t.lk i = 0) {N : Nat} (hN : N ≤ 800) {K : Value → HPred} :
    ∀ (d i : Nat) (T : Nat → TL) (L : List Due) (v : Value) (F : Nat → Prop) (H : Hp), 4 = i + d → (∀ j, i ≤ j → j < 4 → (T j).length ≤ N) → L.length ≤ i * N → (∀ j, i ≤ j → j < 4 → ∀ x ∈ T j, ∃ r ∈ rows, r.1 = x.1 ∧ shd r.1 = j) → (∀ x ∈ L, ∃ r ∈ rows, r.1 = x.key) →
    (tabS p t M T * (sliS v 115 3 L.length (L.flatMap dueL) * (conR rows * R))).holds F H →
    (∀ T' L' v' H' F', DueR now (now + t.tmo) lf ctOf i T L T' L' → L'.length < 2 ^ 30 → (tabS p t M T' * (sliS v' 115 3 L'.length (L'.flatMap dueL) * (conR rows * R))).holds F' H' → Gr F H F' H' →
      f13.at5 K (ptrQ p) (.int .i64 now) v' (.int .i64 4) H') →
    f13.at5 K (ptrQ p) (.int .i64 now) v (.int .i64 i) H := by
  intro d
  induction d with
  | zero =>
    intro i T L v F H hi hT hLl hids hL h hk
    obtain rfl : i = 4 := by omega
    exact hk T L v H F (.done T L) (by omega) h (Gr.refl _ _)
  | succ d ih =>
    intro i T L v F H hi hT hLl hids hL h hk
    have hi4 : i < 4 := by omega
    have hb := tab_blk h
    have hlt : (i : Int) < 4 := by omega
    have ei : idxA (.pointer (some ⟨p, 4, none⟩)) (.int .i64 (i : Int)) 4 4 = some (.pointer (some ⟨p, 4 + i * 4, none⟩)) := by
      rw [idxA_eq (by omega) (by omega)]; simp
    refine f13.b5_ok ?_
    simp only [f13.b5, ptrQ, nilV_ptr', offV_ptr, opt_some', extV_tuple', List.getElem?_cons_zero, List.getElem?_cons_succ, List.getElem?_toArray, cnd_true', cnd_false', grd_tt', grd_tf', grd_ft', grd_ff', grd_u', pick_true', pick_false', un_not', Bool.not_true, Bool.not_false, Nat.add_zero, Nat.zero_add, Nat.reduceAdd, int_eql, int_neq, int_lss, int_leq, int_gtr, int_geq, rd_go, rdo_cells', rds_go, st_go, sto_cells, stc_ok', stA_go, stAo_all, stAo_allL, rdso_all, upd_push_top, one_int, one_bool, one_ptr, one_slice, one_map, one_func, one_iface, boxM_eq', newC_eq', Value.cells, push_get_new, push_size, upd_size, List.size_toArray, List.toList_toArray, List.length_cons, List.length_nil, List.all_cons, List.all_nil, Bool.and_self, Bool.and_true, decide_true, decide_false, decide_eq_true hlt, ei]
    refine slock_ok hi4 h (hl0 i hi4) fun H1 h1 g1 => ?_
    have hb1 := tab_blk h1
    simp only [nilV_ptr', offV_ptr, opt_some', extV_tuple', List.getElem?_cons_zero, List.getElem?_cons_succ, List.getElem?_toArray, cnd_true', cnd_false', grd_tt', grd_tf', grd_ft', grd_ff', grd_u', pick_true', pick_false', un_not', Bool.not_true, Bool.not_false, Nat.add_zero, Nat.zero_add, Nat.reduceAdd, int_eql, int_neq, int_lss, int_leq, int_gtr, int_geq, rd_go, rdo_cells', rds_go, st_go, sto_cells, stc_ok', stA_go, stAo_all, stAo_allL, rdso_all, upd_push_top, one_int, one_bool, one_ptr, one_slice, one_map, one_func, one_iface, boxM_eq', newC_eq', Value.cells, push_get_new, push_size, upd_size, List.size_toArray, List.toList_toArray, List.length_cons, List.length_nil, List.all_cons, List.all_nil, Bool.and_self, Bool.and_true, decide_true, decide_false, hb1, tab_q _ hi4]
    obtain ⟨Ft, ht, -⟩ := tab_tim hi4 h1
    have hTi := hT i (Nat.le_refl _) hi4
    have iN : i * N ≤ 3 * N := Nat.mul_le_mul_right _ (by omega)
    have body : ∀ (k a : Int) (ok : Bool), nextV (T i) k a ok → f13.at10 K (ptrQ p) (.int .i64 now) v (.int .i64 i) (.pointer (some ⟨p, 4 + i * 4, none⟩)) (.int .i64 k) (.int .i64 a) (.bool ok) (.int .i64 i) H1 := by
      intro k a ok hnx
      refine due_while hi4 hlf (hM i hi4) (T i).length T L v F H1 k a ok (Nat.le_refl _) (by omega) (hids i (Nat.le_refl _) hi4) hnx h1 ?_
      intro D H2 F2 v2 hs hp h2 g2
      have hDl : D.length ≤ (T i).length := by
        rw [hp.length_eq]; exact List.length_filter_le _ _
      have hDm : ∀ x ∈ D, x ∈ T i := fun x hx => (List.mem_filter.1 (hp.mem_iff.1 hx)).1
      have hL2 : ∀ x ∈ L ++ dueOf lf D, ∃ r ∈ rows, r.1 = x.key := by
        intro x hx
        rcases List.mem_append.1 hx with hx | hx
        · exact hL x hx
        · obtain ⟨y, hy, rfl⟩ := List.mem_map.1 hx
          obtain ⟨r, hr, e, -⟩ := hids i (Nat.le_refl _) hi4 y (hDm y hy)
          exact ⟨r, hr, e⟩
      have hl2 : (L ++ dueOf lf D).length ≤ (i + 1) * N := by
        rw [List.length_append, Nat.add_mul]; unfold dueOf; rw [List.length_map]; omega
      have i1N : (i + 1) * N ≤ 4 * N := Nat.mul_le_mul_right _ (by omega)
      have hfl : ((T i).filter fun x => decide (now < x.2)).length ≤ (T i).length := List.length_filter_le _ _
      refine due_again hi4 hct (hM i hi4) hpos hnow (hl0 i hi4) (L := L ++ dueOf lf D) (by omega) hL2 (L ++ dueOf lf D).length 0 _ F2 H2 (by omega) (by rw [fupd_same]; omega) h2 ?_
      intro H3 F3 h3 g3
      rw [List.drop_zero] at h3
      have := ih (i + 1) _ (L ++ dueOf lf D) v2 F3 H3 (by omega) ?_ hl2 ?_ hL2 h3 ?_
      · have e : (((i + 1 : Nat)) : Int) = (i : Int) + 1 := by omega
        rw [e] at this; exact this
      · intro j hj1 hj2
        rw [fold_ne (by omega), fupd_ne _ _ (by omega)]
        exact hT j (by omega) hj2
      · intro j hj1 hj2 x hx
        rw [fold_ne (by omega), fupd_ne _ _ (by omega)] at hx
        exact hids j (by omega) hj2 x hx
      · intro T' L' v' H' F' hr hl' h' g'
        exact hk T' L' v' H' F' (.step i T L D T' L' hi4 hs hp hr) hl' h' (g1.trans (g2.trans (g3.trans g')))
    refine timers_next ht (fun e => ?_) (fun y hy => ?_)
    · simp only [nilV_ptr', offV_ptr, opt_some', extV_tuple', List.getElem?_cons_zero, List.getElem?_cons_succ, List.getElem?_toArray, cnd_true', cnd_false', grd_tt', grd_tf', grd_ft', grd_ff', grd_u', pick_true', pick_false', un_not', Bool.not_true, Bool.not_false, Nat.add_zero, Nat.zero_add, Nat.reduceAdd, int_eql, int_neq, int_lss, int_leq, int_gtr, int_geq, rd_go, rdo_cells', rds_go, st_go, sto_cells, stc_ok', stA_go, stAo_all, stAo_allL, rdso_all, upd_push_top, one_int, one_bool, one_ptr, one_slice, one_map, one_func, one_iface, boxM_eq', newC_eq', Value.cells, push_get_new, push_size, upd_size, List.size_toArray, List.toList_toArray, List.length_cons, List.length_nil, List.all_cons, List.all_nil, Bool.and_self, Bool.and_true, decide_true, decide_false]
      exact body 0 0 false (.inl ⟨e, rfl⟩)
    · simp only [nilV_ptr', offV_ptr, opt_some', extV_tuple', List.getElem?_cons_zero, List.getElem?_cons_succ, List.getElem?_toArray, cnd_true', cnd_false', grd_tt', grd_tf', grd_ft', grd_ff', grd_u', pick_true', pick_false', un_not', Bool.not_true, Bool.not_false, Nat.add_zero, Nat.zero_add, Nat.reduceAdd, int_eql, int_neq, int_lss, int_leq, int_gtr, int_geq, rd_go, rdo_cells', rds_go, st_go, sto_cells, stc_ok', stA_go, stAo_all, stAo_allL, rdso_all, upd_push_top, one_int, one_bool, one_ptr, one_slice, one_map, one_func, one_iface, boxM_eq', newC_eq', Value.cells, push_get_new, push_size, upd_size, List.size_toArray, List.toList_toArray, List.length_cons, List.length_nil, List.all_cons, List.all_nil, Bool.and_self, Bool.and_true, decide_true, decide_false]
      exact body y.1 y.2 true (.inr ⟨y, hy, rfl, rfl, rfl⟩)
/-- Due, where one match at most is due. -/
theorem due1_ok {rows : List Row3} {now : Int} {lf : Int → Int} (hlf : ∀ r ∈ rows, lf r.1 = lateP r.2.2) {ctOf : Int → Ct} (hct : ∀ r ∈ rows, ctOf r.1 = r.2.2) (hM : ∀ i, i < 4 → ∀ r ∈ rows, shd r.1 = i → mget (M i) r.1 = some (ptrQ r.2.1)) (hpos : ∀ r ∈ rows, 0 ≤ r.1)
    (hnow : -2 ^ 62 ≤ now + t.tmo ∧ now + t.tmo ≤ 2 ^ 62) (hl0 : ∀ i, i < 4 → t.lk i = 0) {N : Nat} (hN : N ≤ 800) {T : Nat → TL} {F : Nat → Prop} {H : Hp} (hT : ∀ j, j < 4 → (T j).length ≤ N) (hids : ∀ j, j < 4 → ∀ x ∈ T j, ∃ r ∈ rows, r.1 = x.1 ∧ shd r.1 = j)
    (hone : ∀ T' L', DueR now (now + t.tmo) lf ctOf 0 T [] T' L' → L'.length ≤ 1) (h : (tabS p t M T * (conR rows * R)).holds F H) {K : Value → HPred}
    (hk : ∀ T' L' w H' F', DueR now (now + t.tmo) lf ctOf 0 T [] T' L' → (tabS p t M T' * (sliS w 73 2 (outOf L').length ((outOf L').flatMap lateL) * (conR rows * R))).holds F' H' → Gr F H F' H' → K w H') :
    callF Tryz.prog 13 [ptrQ p, .int .i64 now] K H := by
  refine f13.call ?_
  simp only [f13.b, ptrQ, ptr_eq_nil Tryz.underlying24, Option.isNone_some, nilV_ptr', offV_ptr, opt_some', extV_tuple', List.getElem?_cons_zero, List.getElem?_cons_succ, List.getElem?_toArray, cnd_true', cnd_false', grd_tt', grd_tf', grd_ft', grd_ff', grd_u', pick_true', pick_false', un_not', Bool.not_true, Bool.not_false, Nat.add_zero, Nat.zero_add, Nat.reduceAdd, int_eql, int_neq, int_lss, int_leq, int_gtr, int_geq, rd_go, rdo_cells', rds_go, st_go, sto_cells, stc_ok', stA_go, stAo_all, stAo_allL, rdso_all, upd_push_top, one_int, one_bool, one_ptr, one_slice, one_map, one_func, one_iface, boxM_eq', newC_eq', Value.cells, push_get_new, push_size, upd_size, List.size_toArray, List.toList_toArray, List.length_cons, List.length_nil, List.all_cons, List.all_nil, Bool.and_self, Bool.and_true, decide_true, decide_false]
  have h0 : (tabS p t M T * (sliS (.slice none 0 0) 115 3 ([] : List Due).length (([] : List Due).flatMap dueL) * (conR rows * R))).holds F H := by
    show (tabS p t M T * (sliS (.slice none 0 0) 115 3 0 [] * (conR rows * R))).holds F H
    rw [sli_emp, SP.emp_star]; exact h
  refine due_outer hlf hct hM hpos hnow hl0 hN 4 0 T [] _ F H (by omega) (fun j _ hj => hT j hj) (by simp) (fun j _ hj => hids j hj) (by simp) h0 ?_
  intro T' L' v' H1 F1 hr hl1 h1 g1
  have hsl := h1
  rw [show tabS p t M T' * (sliS v' 115 3 L'.length (L'.flatMap dueL) * (conR rows * R)) = sliS v' 115 3 L'.length (L'.flatMap dueL) * (tabS p t M T' * (conR rows * R)) by ac_rfl] at hsl
  obtain ⟨av, cv, rfl⟩ := (sli_lies hsl).shape
  refine f13.b5_ok ?_
  have d4 : decide ((4 : Int) < 4) = false := by decide
  have l2 := len_slice (P := Tryz.prog) (ty := 3) (cs := #[false]) (a := av) (n := L'.length) (c := cv) Tryz.underlying110
  simp only [f13.b5, nilV_ptr', offV_ptr, opt_some', extV_tuple', List.getElem?_cons_zero, List.getElem?_cons_succ, List.getElem?_toArray, cnd_true', cnd_false', grd_tt', grd_tf', grd_ft', grd_ff', grd_u', pick_true', pick_false', un_not', Bool.not_true, Bool.not_false, Nat.add_zero, Nat.zero_add, Nat.reduceAdd, int_eql, int_neq, int_lss, int_leq, int_gtr, int_geq, rd_go, rdo_cells', rds_go, st_go, sto_cells, stc_ok', stA_go, stAo_all, stAo_allL, rdso_all, upd_push_top, one_int, one_bool, one_ptr, one_slice, one_map, one_func, one_iface, boxM_eq', newC_eq', Value.cells, push_get_new, push_size, upd_size, List.size_toArray, List.toList_toArray, List.length_cons, List.length_nil, List.all_cons, List.all_nil, Bool.and_self, Bool.and_true, decide_true, decide_false, d4]
  refine sortf1_ok (hone T' L' hr) ?_
  simp only [l2, nilV_ptr', offV_ptr, opt_some', extV_tuple', List.getElem?_cons_zero, List.getElem?_cons_succ, List.getElem?_toArray, cnd_true', cnd_false', grd_tt', grd_tf', grd_ft', grd_ff', grd_u', pick_true', pick_false', un_not', Bool.not_true, Bool.not_false, Nat.add_zero, Nat.zero_add, Nat.reduceAdd, int_eql, int_neq, int_lss, int_leq, int_gtr, int_geq, rd_go, rdo_cells', rds_go, st_go, sto_cells, stc_ok', stA_go, stAo_all, stAo_allL, rdso_all, upd_push_top, one_int, one_bool, one_ptr, one_slice, one_map, one_func, one_iface, boxM_eq', newC_eq', Value.cells, push_get_new, push_size, upd_size, List.size_toArray, List.toList_toArray, List.length_cons, List.length_nil, List.all_cons, List.all_nil, Bool.and_self, Bool.and_true, decide_true, decide_false]
  have h2 : (sliS (.slice none 0 0) 73 2 (outOf (L'.take 0)).length ((outOf (L'.take 0)).flatMap lateL) * (sliS (.slice av L'.length cv) 115 3 L'.length (L'.flatMap dueL) * (tabS p t M T' * (conR rows * R)))).holds F1 H1 := by
    show (sliS (.slice none 0 0) 73 2 0 [] * _).holds F1 H1
    rw [sli_emp, SP.emp_star]; exact hsl
  refine due_out hl1 L'.length 0 _ F1 H1 (by omega) h2 ?_
  intro w' H2 F2 h3 g3
  rw [show sliS w' 73 2 (outOf L').length ((outOf L').flatMap lateL) * (sliS (.slice av L'.length cv) 115 3 L'.length (L'.flatMap dueL) * (tabS p t M T' * (conR rows * R))) =
    sliS (.slice av L'.length cv) 115 3 L'.length (L'.flatMap dueL) * (tabS p t M T' * (sliS w' 73 2 (outOf L').length ((outOf L').flatMap lateL) * (conR rows * R))) by ac_rfl] at h3
  obtain ⟨F3, h4, g4, -⟩ := SP.right h3
  exact hk T' L' w' H2 F3 hr h4 (g1.trans (g3.trans g4))
end

end Go.Proofs.YtnnheophehnioaaGreat
namespace Go.Proofs.YtnnheophehnioaaGreat
open Go.Sx Go.Proofs Go.Gm
set_option maxRecDepth 100000

/-- form of an Open. -/
theorem rform1_ok (e : Ev) (hkind : e.kind = 1) (hf : e.frame = 0) (hi : e.inn = 0) {K : Value → HPred} {H : Hp} (hk : ∀ H', Ext0 H H' → K (.bool true) H') : callF Tryz.prog 82 [evV e] K H := by
  refine f82.call ?_
  obtain ⟨k, p, o, f, i, n⟩ := e
  simp only at hkind hf hi
  subst hkind hf hi
  have ev0 : ∀ k : Int, evV ⟨k, 0, 0, 0, 0, 0⟩ = .agg #[.int .i64 k, .int .i64 0, .int .i64 0, .int .i64 0, .int .u16 0, .int .i64 0] := fun k => rfl
  have d1 : decide ((1 : Int) = 1) = true := rfl
  have a6 : ([.int .i64 1, .int .i64 0, .int .i64 0, .int .i64 0, .int .u16 0, .int .i64 0] : List Value).all oneCell = true := rfl
  simp (disch := first | assumption | (simp only [List.size_toArray, List.toList_toArray, List.length_cons, List.length_nil, List.all_cons, List.all_nil, oneCell, Bool.and_self, Bool.and_true, Nat.reduceAdd]; done) | (simp only [push_size, upd_size]; done) | (simp only [push_size, upd_size]; omega) | omega) only [f82.b, evV, evL, nilV_ptr', offV_ptr, opt_some', extV_tuple', List.getElem?_cons_zero, List.getElem?_cons_succ, List.getElem?_toArray, cnd_true', cnd_false', grd_tt', grd_tf', grd_ft', grd_ff', grd_u', pick_true', pick_false', un_not', Bool.not_true, Bool.not_false, Nat.add_zero, Nat.zero_add, Nat.reduceAdd, int_eql, int_neq, int_lss, int_leq, int_gtr, int_geq, rd_go, rdo_cells', rds_go, st_go, sto_cells, stc_ok', stA_go, stAo_all, stAo_allL, rdso_all, upd_push_top, one_int, one_bool, one_ptr, one_slice, one_map, one_func, one_iface, boxM_eq', newC_eq', Value.cells, push_get_new, push_size, upd_size, List.size_toArray, List.toList_toArray, List.length_cons, List.length_nil, List.all_cons, List.all_nil, Bool.and_self, Bool.and_true, decide_true, decide_false, push_get_old, push_get_eq, upd_push_old, upd_push_eq, upd_get_self, upd_get_ne, bld_ev0, List.setIfInBounds_toArray, List.set_cons_succ, List.set_cons_zero, chk_eq', cellP_ptr, cellH, Option.isSome_none, Bool.false_eq_true, if_false, true_and]
  refine f82.b13_ok ?_
  simp (disch := first | assumption | (simp only [List.size_toArray, List.toList_toArray, List.length_cons, List.length_nil, List.all_cons, List.all_nil, oneCell, Bool.and_self, Bool.and_true, Nat.reduceAdd]; done) | (simp only [push_size, upd_size]; done) | (simp only [push_size, upd_size]; omega) | omega) only [f82.b13, nilV_ptr', offV_ptr, opt_some', extV_tuple', List.getElem?_cons_zero, List.getElem?_cons_succ, List.getElem?_toArray, cnd_true', cnd_false', grd_tt', grd_tf', grd_ft', grd_ff', grd_u', pick_true', pick_false', un_not', Bool.not_true, Bool.not_false, Nat.add_zero, Nat.zero_add, Nat.reduceAdd, int_eql, int_neq, int_lss, int_leq, int_gtr, int_geq, rd_go, rdo_cells', rds_go, st_go, sto_cells, stc_ok', stA_go, stAo_all, stAo_allL, rdso_all, upd_push_top, one_int, one_bool, one_ptr, one_slice, one_map, one_func, one_iface, boxM_eq', newC_eq', Value.cells, push_get_new, push_size, upd_size, List.size_toArray, List.toList_toArray, List.length_cons, List.length_nil, List.all_cons, List.all_nil, Bool.and_self, Bool.and_true, decide_true, decide_false, push_get_old, push_get_eq, upd_push_old, upd_push_eq, upd_get_self, upd_get_ne]
  have h := ev_eql (Go.Operand.tmp 45) (Go.Operand.tmp 46) ⟨1, p, o, 0, 0, n⟩ ⟨1, p, o, 0, 0, n⟩
  unfold evV evL at h
  simp only at h
  rw [h]
  simp only [decide_true, nilV_ptr', offV_ptr, opt_some', extV_tuple', List.getElem?_cons_zero, List.getElem?_cons_succ, List.getElem?_toArray, cnd_true', cnd_false', grd_tt', grd_tf', grd_ft', grd_ff', grd_u', pick_true', pick_false', un_not', Bool.not_true, Bool.not_false, Nat.add_zero, Nat.zero_add, Nat.reduceAdd, int_eql, int_neq, int_lss, int_leq, int_gtr, int_geq, rd_go, rdo_cells', rds_go, st_go, sto_cells, stc_ok', stA_go, stAo_all, stAo_allL, rdso_all, upd_push_top, one_int, one_bool, one_ptr, one_slice, one_map, one_func, one_iface, boxM_eq', newC_eq', Value.cells, push_get_new, push_size, upd_size, List.size_toArray, List.toList_toArray, List.length_cons, List.length_nil, List.all_cons, List.all_nil, Bool.and_self, Bool.and_true, decide_true, decide_false]
  exact hk _ ((ext_push none' _ _).trans' (ext_push none' _ _))
section
variable {q : Nat} {c : Ct} {R : SP} {F : Nat → Prop} {H : Hp}
/-- May of an Open that may be. -/
theorem rmay1_ok (h : (rconS q c * R).holds F H) (e : Ev) (hkind : e.kind = 1) (hf : e.frame = 0) (hi : e.inn = 0) (he : openOk e) (ho : c.opened = false) {K : Value → HPred} (hk : ∀ H', Ext0 H H' → K (.int .i64 0) H') :
    callF Tryz.prog 47 [ptrQ q, evV e] K H := by
  obtain ⟨v0, v1, v2, v3, hb, -⟩ := rcon_get h
  refine f47.call ?_
  have e6 : (evL e).toArray.size = 6 := by simp [evL]
  have g0 : (evL e)[0]? = some (.int .i64 e.kind) := rfl
  have g1 : (evL e)[1]? = some (.int .i64 e.player) := rfl
  have g2 : (evL e)[2]? = some (.int .i64 e.other) := rfl
  have g5 : (evL e)[5]? = some (.int .i64 e.n) := rfl
  unfold f47.b
  simp (disch := first | assumption | with_reducible rfl | (simp only [Bool.not_eq_true', Bool.not_eq_false', Bool.not_true, Bool.not_false, decide_eq_true_eq, decide_eq_false_iff_not, Decidable.not_not]; first | done | assumption | omega) | (simp only [List.size_toArray, List.length_cons, List.length_nil, List.all_cons, List.all_nil, oneCell, Bool.and_self, Bool.and_true, Nat.reduceAdd, Nat.reduceLT]; done) | (first | assumption | (refine (push_get_eq ?_).trans rfl; (first | rfl | omega | (simp only [push_size, upd_size]; done) | (simp only [push_size, upd_size]; omega))) | (refine (upd_get_self ?_).trans rfl; (first | rfl | omega | (simp only [push_size, upd_size]; done) | (simp only [push_size, upd_size]; omega))) | (refine (push_get_old ?_).trans ?_; · (first | rfl | omega | (simp only [push_size, upd_size]; done) | (simp only [push_size, upd_size]; omega)); · (first | assumption | (refine (push_get_eq ?_).trans rfl; (first | rfl | omega | (simp only [push_size, upd_size]; done) | (simp only [push_size, upd_size]; omega))) | (refine (upd_get_self ?_).trans rfl; (first | rfl | omega | (simp only [push_size, upd_size]; done) | (simp only [push_size, upd_size]; omega))) | (refine (push_get_old ?_).trans ?_; · (first | rfl | omega | (simp only [push_size, upd_size]; done) | (simp only [push_size, upd_size]; omega)); · (first | assumption)) | (refine (upd_get_ne ?_).trans ?_; · (first | rfl | omega | (simp only [push_size, upd_size]; done) | (simp only [push_size, upd_size]; omega)); · (first | assumption)))) | (refine (upd_get_ne ?_).trans ?_; · (first | rfl | omega | (simp only [push_size, upd_size]; done) | (simp only [push_size, upd_size]; omega)); · (first | assumption | (refine (push_get_eq ?_).trans rfl; (first | rfl | omega | (simp only [push_size, upd_size]; done) | (simp only [push_size, upd_size]; omega))) | (refine (upd_get_self ?_).trans rfl; (first | rfl | omega | (simp only [push_size, upd_size]; done) | (simp only [push_size, upd_size]; omega))) | (refine (push_get_old ?_).trans ?_; · (first | rfl | omega | (simp only [push_size, upd_size]; done) | (simp only [push_size, upd_size]; omega)); · (first | assumption)) | (refine (upd_get_ne ?_).trans ?_; · (first | rfl | omega | (simp only [push_size, upd_size]; done) | (simp only [push_size, upd_size]; omega)); · (first | assumption))))) | rfl) only [evV, ptrQ, ↓p_some, ↓p_nil, ↓p_off, ↓p_ext0, ↓p_ext1, ↓p_ext2, ↓p_add, ↓p_sub, ↓p_eql, ↓p_neq, ↓p_lss, ↓p_leq, ↓p_gtr, ↓p_geq, ↓p_not, ↓p_pickT, ↓p_pickF, ↓c_T, ↓c_F, ↓g_tT, ↓g_tF, ↓g_fT, ↓g_fF, ↓g_u, ↓r_cell, ↓r_cells, ↓p_getA, ↓p_get0, ↓p_getS, ↓s_cell, ↓a_all, ↓n_new, ↓n_box, ↓k_chkc, ↓k_chks0, ↓k_chks, ↓k_chk, ↓p_by, Value.cells, Nat.zero_add, Nat.add_zero, Nat.reduceAdd]
  refine rform1_ok e hkind hf hi fun H1 hx1 => ?_
  have hb1 := Ext0.blk hx1 (push_old (x := .cells (evL e).toArray 53) hb)
  have hq1 := Ext0.blk hx1 (push_new H (.cells (evL e).toArray 53))
  obtain ⟨p1, p2, p3, p4, p5⟩ := he
  have r11 : (rconL c v0 v1 v2 v3)[11]? = some (.bool c.opened) := rfl
  simp (disch := first | assumption | with_reducible rfl | (simp only [Bool.not_eq_true', Bool.not_eq_false', Bool.not_true, Bool.not_false, decide_eq_true_eq, decide_eq_false_iff_not, Decidable.not_not]; first | done | assumption | omega) | (simp only [List.size_toArray, List.length_cons, List.length_nil, List.all_cons, List.all_nil, oneCell, Bool.and_self, Bool.and_true, Nat.reduceAdd, Nat.reduceLT]; done) | (first | assumption | (refine (push_get_eq ?_).trans rfl; (first | rfl | omega | (simp only [push_size, upd_size]; done) | (simp only [push_size, upd_size]; omega))) | (refine (upd_get_self ?_).trans rfl; (first | rfl | omega | (simp only [push_size, upd_size]; done) | (simp only [push_size, upd_size]; omega))) | (refine (push_get_old ?_).trans ?_; · (first | rfl | omega | (simp only [push_size, upd_size]; done) | (simp only [push_size, upd_size]; omega)); · (first | assumption | (refine (push_get_eq ?_).trans rfl; (first | rfl | omega | (simp only [push_size, upd_size]; done) | (simp only [push_size, upd_size]; omega))) | (refine (upd_get_self ?_).trans rfl; (first | rfl | omega | (simp only [push_size, upd_size]; done) | (simp only [push_size, upd_size]; omega))) | (refine (push_get_old ?_).trans ?_; · (first | rfl | omega | (simp only [push_size, upd_size]; done) | (simp only [push_size, upd_size]; omega)); · (first | assumption)) | (refine (upd_get_ne ?_).trans ?_; · (first | rfl | omega | (simp only [push_size, upd_size]; done) | (simp only [push_size, upd_size]; omega)); · (first | assumption)))) | (refine (upd_get_ne ?_).trans ?_; · (first | rfl | omega | (simp only [push_size, upd_size]; done) | (simp only [push_size, upd_size]; omega)); · (first | assumption | (refine (push_get_eq ?_).trans rfl; (first | rfl | omega | (simp only [push_size, upd_size]; done) | (simp only [push_size, upd_size]; omega))) | (refine (upd_get_self ?_).trans rfl; (first | rfl | omega | (simp only [push_size, upd_size]; done) | (simp only [push_size, upd_size]; omega))) | (refine (push_get_old ?_).trans ?_; · (first | rfl | omega | (simp only [push_size, upd_size]; done) | (simp only [push_size, upd_size]; omega)); · (first | assumption)) | (refine (upd_get_ne ?_).trans ?_; · (first | rfl | omega | (simp only [push_size, upd_size]; done) | (simp only [push_size, upd_size]; omega)); · (first | assumption))))) | rfl) only [↓p_some, ↓p_nil, ↓p_off, ↓p_ext0, ↓p_ext1, ↓p_ext2, ↓p_add, ↓p_sub, ↓p_eql, ↓p_neq, ↓p_lss, ↓p_leq, ↓p_gtr, ↓p_geq, ↓p_not, ↓p_pickT, ↓p_pickF, ↓c_T, ↓c_F, ↓g_tT, ↓g_tF, ↓g_fT, ↓g_fF, ↓g_u, ↓r_cell, ↓r_cells, ↓p_getA, ↓p_get0, ↓p_getS, ↓s_cell, ↓a_all, ↓n_new, ↓n_box, ↓k_chkc, ↓k_chks0, ↓k_chks, ↓k_chk, ↓p_by, Value.cells, Nat.zero_add, Nat.add_zero, Nat.reduceAdd]
  exact hk _ ((ext_push none' _ _).trans' hx1)
theorem rcon_set_evs (c : Ct) (v0 v1 v2 v3 x : Value) (l : List Ev) : (rconL c v0 v1 v2 v3).toArray.setIfInBounds 3 x = (rconL { c with evs := l } v0 x v2 v3).toArray := by apply Array.ext'; simp [rconL]
theorem rcon_set_open (c : Ct) (v0 v1 v2 v3 : Value) (x : Bool) : (rconL c v0 v1 v2 v3).toArray.setIfInBounds 11 (.bool x) = (rconL { c with opened := x } v0 v1 v2 v3).toArray := by apply Array.ext'; simp [rconL]
theorem rcon_set_seed (c : Ct) (v0 v1 v2 v3 : Value) (x : Int) : (rconL c v0 v1 v2 v3).toArray.setIfInBounds 8 (.int .u32 x) = (rconL { c with seed := x } v0 v1 v2 v3).toArray := by apply Array.ext'; simp [rconL]
theorem rcon_sta_players (c : Ct) (v0 v1 v2 v3 : Value) (a b : Int) (T : TypeId) (q : Nat) (C : HPred) (H : Hp) :
    stAo (some (.cells (rconL c v0 v1 v2 v3).toArray T (0, 0))) q 6 2 #[.int .i64 a, .int .i64 b] C H = C (upd H q (.cells (rconL { c with p0 := a, p1 := b } v0 v1 v2 v3).toArray T (0, 0))) := by
  rw [stAo_cells, if_pos ⟨rfl, by simp [rconL], by simp [oneCell]⟩]
  rw [show over' (rconL c v0 v1 v2 v3).toArray 6 (#[.int .i64 a, .int .i64 b] : Array Value).toList = (rconL { c with p0 := a, p1 := b } v0 v1 v2 v3).toArray from ?_]
  exact over'_app [.int .i64 a, .int .i64 b] [v0, .int .i64 c.cap, .int .i64 c.fuel, v1, v2, v3] [.int .i64 c.p0, .int .i64 c.p1] _ rfl
/-- Apply of an Open that may be. -/
theorem rapplyOpen_ok (h : (rconS q c * R).holds F H) {e : Ev} (he : openOk e) (hkind : e.kind = 1) (hf : e.frame = 0) (hi : e.inn = 0) (ho : c.opened = false) (hn : c.evs.length < 2 ^ 30) {K : Value → HPred}
    (hk : ∀ H' F', (rconS q ((c.openP e).addEv e) * R).holds F' H' → Gr F H F' H' → K (.int .i64 0) H') :
    callF Tryz.prog 64 [ptrQ q, evV e] K H := by
  refine f64.call ?_
  have e6 : (evL e).toArray.size = 6 := by simp [evL]
  have g0 : (evL e)[0]? = some (.int .i64 e.kind) := rfl
  have g1 : (evL e)[1]? = some (.int .i64 e.player) := rfl
  have g2 : (evL e)[2]? = some (.int .i64 e.other) := rfl
  have g5 : (evL e)[5]? = some (.int .i64 e.n) := rfl
  have hev := evL_all e
  unfold f64.b
  simp (disch := first | assumption | with_reducible rfl | (simp only [Bool.not_eq_true', Bool.not_eq_false', Bool.not_true, Bool.not_false, decide_eq_true_eq, decide_eq_false_iff_not, Decidable.not_not]; first | done | assumption | omega) | (simp only [List.size_toArray, List.length_cons, List.length_nil, List.all_cons, List.all_nil, oneCell, Bool.and_self, Bool.and_true, Nat.reduceAdd, Nat.reduceLT]; done) | (first | assumption | (refine (push_get_eq ?_).trans rfl; (first | rfl | omega | (simp only [push_size, upd_size]; done) | (simp only [push_size, upd_size]; omega))) | (refine (upd_get_self ?_).trans rfl; (first | rfl | omega | (simp only [push_size, upd_size]; done) | (simp only [push_size, upd_size]; omega))) | (refine (push_get_old ?_).trans ?_; · (first | rfl | omega | (simp only [push_size, upd_size]; done) | (simp only [push_size, upd_size]; omega)); · (first | assumption | (refine (push_get_eq ?_).trans rfl; (first | rfl | omega | (simp only [push_size, upd_size]; done) | (simp only [push_size, upd_size]; omega))) | (refine (upd_get_self ?_).trans rfl; (first | rfl | omega | (simp only [push_size, upd_size]; done) | (simp only [push_size, upd_size]; omega))) | (refine (push_get_old ?_).trans ?_; · (first | rfl | omega | (simp only [push_size, upd_size]; done) | (simp only [push_size, upd_size]; omega)); · (first | assumption)) | (refine (upd_get_ne ?_).trans ?_; · (first | rfl | omega | (simp only [push_size, upd_size]; done) | (simp only [push_size, upd_size]; omega)); · (first | assumption)))) | (refine (upd_get_ne ?_).trans ?_; · (first | rfl | omega | (simp only [push_size, upd_size]; done) | (simp only [push_size, upd_size]; omega)); · (first | assumption | (refine (push_get_eq ?_).trans rfl; (first | rfl | omega | (simp only [push_size, upd_size]; done) | (simp only [push_size, upd_size]; omega))) | (refine (upd_get_self ?_).trans rfl; (first | rfl | omega | (simp only [push_size, upd_size]; done) | (simp only [push_size, upd_size]; omega))) | (refine (push_get_old ?_).trans ?_; · (first | rfl | omega | (simp only [push_size, upd_size]; done) | (simp only [push_size, upd_size]; omega)); · (first | assumption)) | (refine (upd_get_ne ?_).trans ?_; · (first | rfl | omega | (simp only [push_size, upd_size]; done) | (simp only [push_size, upd_size]; omega)); · (first | assumption))))) | rfl) only [evV, ↓p_some, ↓p_nil, ↓p_off, ↓p_ext0, ↓p_ext1, ↓p_ext2, ↓p_add, ↓p_sub, ↓p_eql, ↓p_neq, ↓p_lss, ↓p_leq, ↓p_gtr, ↓p_geq, ↓p_not, ↓p_pickT, ↓p_pickF, ↓c_T, ↓c_F, ↓g_tT, ↓g_tF, ↓g_fT, ↓g_fF, ↓g_u, ↓r_cell, ↓r_cells, ↓p_getA, ↓p_get0, ↓p_getS, ↓s_cell, ↓a_all, ↓n_new, ↓n_box, ↓k_chkc, ↓k_chks0, ↓k_chks, ↓k_chk, ↓p_by, Value.cells, Nat.zero_add, Nat.add_zero, Nat.reduceAdd]
  obtain ⟨h1, g1'⟩ := SP.push h (.cells (evL e).toArray 53)
  have hq1 : (H.push (.cells (evL e).toArray 53))[H.size]? = some (.cells (evL e).toArray 53 (0, 0)) := push_new _ _
  have hns : ¬ F H.size := fun x => Nat.lt_irrefl _ ((rconS q c * R).lt h _ x)
  have hqH := blk_lt (rcon_get h).choose_spec.choose_spec.choose_spec.choose_spec.1
  refine rmay1_ok h1 e hkind hf hi he ho fun H2 hx2 => ?_
  obtain ⟨h2, g2'⟩ := SP.ext0 h1 hx2
  have hq2 := Ext0.blk hx2 hq1
  obtain ⟨v0, v1, v2, v3, h2'⟩ := rconS_open h2
  have hb2 : H2[q]? = some (.cells (rconL c v0 v1 v2 v3).toArray 171 (0, 0)) := by
    obtain ⟨F3, h3, -⟩ := SP.right h2'
    exact blk_get h3
  have hlt2 := blk_lt hb2
  have r3 : (rconL c v0 v1 v2 v3)[3]? = some v1 := rfl
  simp (disch := first | assumption | with_reducible rfl | (simp only [Bool.not_eq_true', Bool.not_eq_false', Bool.not_true, Bool.not_false, decide_eq_true_eq, decide_eq_false_iff_not, Decidable.not_not]; first | done | assumption | omega) | (simp only [List.size_toArray, List.length_cons, List.length_nil, List.all_cons, List.all_nil, oneCell, Bool.and_self, Bool.and_true, Nat.reduceAdd, Nat.reduceLT]; done) | (first | assumption | (refine (push_get_eq ?_).trans rfl; (first | rfl | omega | (simp only [push_size, upd_size]; done) | (simp only [push_size, upd_size]; omega))) | (refine (upd_get_self ?_).trans rfl; (first | rfl | omega | (simp only [push_size, upd_size]; done) | (simp only [push_size, upd_size]; omega))) | (refine (push_get_old ?_).trans ?_; · (first | rfl | omega | (simp only [push_size, upd_size]; done) | (simp only [push_size, upd_size]; omega)); · (first | assumption | (refine (push_get_eq ?_).trans rfl; (first | rfl | omega | (simp only [push_size, upd_size]; done) | (simp only [push_size, upd_size]; omega))) | (refine (upd_get_self ?_).trans rfl; (first | rfl | omega | (simp only [push_size, upd_size]; done) | (simp only [push_size, upd_size]; omega))) | (refine (push_get_old ?_).trans ?_; · (first | rfl | omega | (simp only [push_size, upd_size]; done) | (simp only [push_size, upd_size]; omega)); · (first | assumption)) | (refine (upd_get_ne ?_).trans ?_; · (first | rfl | omega | (simp only [push_size, upd_size]; done) | (simp only [push_size, upd_size]; omega)); · (first | assumption)))) | (refine (upd_get_ne ?_).trans ?_; · (first | rfl | omega | (simp only [push_size, upd_size]; done) | (simp only [push_size, upd_size]; omega)); · (first | assumption | (refine (push_get_eq ?_).trans rfl; (first | rfl | omega | (simp only [push_size, upd_size]; done) | (simp only [push_size, upd_size]; omega))) | (refine (upd_get_self ?_).trans rfl; (first | rfl | omega | (simp only [push_size, upd_size]; done) | (simp only [push_size, upd_size]; omega))) | (refine (push_get_old ?_).trans ?_; · (first | rfl | omega | (simp only [push_size, upd_size]; done) | (simp only [push_size, upd_size]; omega)); · (first | assumption)) | (refine (upd_get_ne ?_).trans ?_; · (first | rfl | omega | (simp only [push_size, upd_size]; done) | (simp only [push_size, upd_size]; omega)); · (first | assumption))))) | rfl) only [ptrQ, ↓p_some, ↓p_nil, ↓p_off, ↓p_ext0, ↓p_ext1, ↓p_ext2, ↓p_add, ↓p_sub, ↓p_eql, ↓p_neq, ↓p_lss, ↓p_leq, ↓p_gtr, ↓p_geq, ↓p_not, ↓p_pickT, ↓p_pickF, ↓c_T, ↓c_F, ↓g_tT, ↓g_tF, ↓g_fT, ↓g_fF, ↓g_u, ↓r_cell, ↓r_cells, ↓p_getA, ↓p_get0, ↓p_getS, ↓s_cell, ↓a_all, ↓n_new, ↓n_box, ↓k_chkc, ↓k_chks0, ↓k_chks, ↓k_chk, ↓p_by, Value.cells, Nat.zero_add, Nat.add_zero, Nat.reduceAdd]
  have hbs := bs_ev e
  unfold evV at hbs
  rw [hbs]
  rw [k_chkc (push_old hb2) (by rfl)]
  refine append_sli_new Tryz.underlying96 Tryz.type53 rfl rfl rfl (by decide) (by decide) h2' (ns := (evL e).toArray) (k := 1) rfl (by simp [evL, oneCell]) ?_ ?_
  · have : (2 * (c.evs.length + 1) + 192) * 48 ≤ 2 ^ 48 := by omega
    exact this
  intro v' H3 F3 h3 g3
  have h1v := sli_one h3
  have g03 := g1'.trans (g2'.trans g3)
  have hq3 := g3.blk hq2 hns
  rw [SP.comm, SP.assoc] at h3
  have hb3 := blk_get h3
  unfold rconO at hb3
  have hlen : ∀ c v0 v1 v2 v3, (rconL c v0 v1 v2 v3).length = 15 := fun _ _ _ _ _ => rfl
  have ho3 : 0 + 3 < (rconL c v0 v1 v2 v3).toArray.size := by rw [List.size_toArray, hlen]; omega
  obtain ⟨h4, g4⟩ := blk_set h3 (rconO { c with evs := c.evs ++ [e] } v0 v' v2 v3)
  have hq4 := g4.blk hq3 (fun x => (g3.own _ x).elim hns fun e => by have := blk_lt hq2; omega)
  have hb4 := blk_get h4
  unfold rconO at hb4 h4 g4 hq4
  simp (disch := first | assumption | with_reducible rfl | (simp only [Bool.not_eq_true', Bool.not_eq_false', Bool.not_true, Bool.not_false, decide_eq_true_eq, decide_eq_false_iff_not, Decidable.not_not]; first | done | assumption | omega) | (simp only [List.size_toArray, List.length_cons, List.length_nil, List.all_cons, List.all_nil, oneCell, Bool.and_self, Bool.and_true, Nat.reduceAdd, Nat.reduceLT]; done) | (first | assumption | (refine (push_get_eq ?_).trans rfl; (first | rfl | omega | (simp only [push_size, upd_size]; done) | (simp only [push_size, upd_size]; omega))) | (refine (upd_get_self ?_).trans rfl; (first | rfl | omega | (simp only [push_size, upd_size]; done) | (simp only [push_size, upd_size]; omega))) | (refine (push_get_old ?_).trans ?_; · (first | rfl | omega | (simp only [push_size, upd_size]; done) | (simp only [push_size, upd_size]; omega)); · (first | assumption | (refine (push_get_eq ?_).trans rfl; (first | rfl | omega | (simp only [push_size, upd_size]; done) | (simp only [push_size, upd_size]; omega))) | (refine (upd_get_self ?_).trans rfl; (first | rfl | omega | (simp only [push_size, upd_size]; done) | (simp only [push_size, upd_size]; omega))) | (refine (push_get_old ?_).trans ?_; · (first | rfl | omega | (simp only [push_size, upd_size]; done) | (simp only [push_size, upd_size]; omega)); · (first | assumption)) | (refine (upd_get_ne ?_).trans ?_; · (first | rfl | omega | (simp only [push_size, upd_size]; done) | (simp only [push_size, upd_size]; omega)); · (first | assumption)))) | (refine (upd_get_ne ?_).trans ?_; · (first | rfl | omega | (simp only [push_size, upd_size]; done) | (simp only [push_size, upd_size]; omega)); · (first | assumption | (refine (push_get_eq ?_).trans rfl; (first | rfl | omega | (simp only [push_size, upd_size]; done) | (simp only [push_size, upd_size]; omega))) | (refine (upd_get_self ?_).trans rfl; (first | rfl | omega | (simp only [push_size, upd_size]; done) | (simp only [push_size, upd_size]; omega))) | (refine (push_get_old ?_).trans ?_; · (first | rfl | omega | (simp only [push_size, upd_size]; done) | (simp only [push_size, upd_size]; omega)); · (first | assumption)) | (refine (upd_get_ne ?_).trans ?_; · (first | rfl | omega | (simp only [push_size, upd_size]; done) | (simp only [push_size, upd_size]; omega)); · (first | assumption))))) | rfl) only [↓p_some, ↓p_nil, ↓p_off, ↓p_ext0, ↓p_ext1, ↓p_ext2, ↓p_add, ↓p_sub, ↓p_eql, ↓p_neq, ↓p_lss, ↓p_leq, ↓p_gtr, ↓p_geq, ↓p_not, ↓p_pickT, ↓p_pickF, ↓c_T, ↓c_F, ↓g_tT, ↓g_tF, ↓g_fT, ↓g_fF, ↓g_u, ↓r_cell, ↓r_cells, ↓p_getA, ↓p_get0, ↓p_getS, ↓s_cell, ↓a_all, ↓n_new, ↓n_box, ↓k_chkc, ↓k_chks0, ↓k_chks, ↓k_chk, ↓p_by, Value.cells, Nat.zero_add, Nat.add_zero, Nat.reduceAdd, rcon_set_evs c v0 v1 v2 v3 v' (c.evs ++ [e])]
  generalize hU : upd H3 q _ = U at h4 g4 hq4 hb4
  have h5 : (rconS q { c with evs := c.evs ++ [e] } * R).holds F3 U := by
    refine rconS_mk (v0 := v0) (v1 := v') (v2 := v2) (v3 := v3) ?_
    rw [SP.comm, SP.assoc]
    show (_ * (_ * sliS v' _ 6 (c.evs ++ [e]).length ((c.evs ++ [e]).flatMap evL))).holds _ _
    have e' : (c.evs ++ [e]).flatMap evL = c.evs.flatMap evL ++ (evL e).toArray.toList := by
      rw [List.flatMap_append]; rfl
    rw [e', List.length_append]
    exact h4
  refine rseat_ok h5 e.player ?_
  obtain ⟨p1, p2, p3, p4, p5⟩ := he
  have hb4q : q < U.size := blk_lt hb4
  have cu := conv_u32 p4 p5
  have bt := bld_two e.player e.other
  simp (disch := first | assumption | with_reducible rfl | (simp only [Bool.not_eq_true', Bool.not_eq_false', Bool.not_true, Bool.not_false, decide_eq_true_eq, decide_eq_false_iff_not, Decidable.not_not]; first | done | assumption | omega) | (simp only [List.size_toArray, List.length_cons, List.length_nil, List.all_cons, List.all_nil, oneCell, Bool.and_self, Bool.and_true, Nat.reduceAdd, Nat.reduceLT]; done) | (first | assumption | (refine (push_get_eq ?_).trans rfl; (first | rfl | omega | (simp only [push_size, upd_size]; done) | (simp only [push_size, upd_size]; omega))) | (refine (upd_get_self ?_).trans rfl; (first | rfl | omega | (simp only [push_size, upd_size]; done) | (simp only [push_size, upd_size]; omega))) | (refine (push_get_old ?_).trans ?_; · (first | rfl | omega | (simp only [push_size, upd_size]; done) | (simp only [push_size, upd_size]; omega)); · (first | assumption | (refine (push_get_eq ?_).trans rfl; (first | rfl | omega | (simp only [push_size, upd_size]; done) | (simp only [push_size, upd_size]; omega))) | (refine (upd_get_self ?_).trans rfl; (first | rfl | omega | (simp only [push_size, upd_size]; done) | (simp only [push_size, upd_size]; omega))) | (refine (push_get_old ?_).trans ?_; · (first | rfl | omega | (simp only [push_size, upd_size]; done) | (simp only [push_size, upd_size]; omega)); · (first | assumption)) | (refine (upd_get_ne ?_).trans ?_; · (first | rfl | omega | (simp only [push_size, upd_size]; done) | (simp only [push_size, upd_size]; omega)); · (first | assumption)))) | (refine (upd_get_ne ?_).trans ?_; · (first | rfl | omega | (simp only [push_size, upd_size]; done) | (simp only [push_size, upd_size]; omega)); · (first | assumption | (refine (push_get_eq ?_).trans rfl; (first | rfl | omega | (simp only [push_size, upd_size]; done) | (simp only [push_size, upd_size]; omega))) | (refine (upd_get_self ?_).trans rfl; (first | rfl | omega | (simp only [push_size, upd_size]; done) | (simp only [push_size, upd_size]; omega))) | (refine (push_get_old ?_).trans ?_; · (first | rfl | omega | (simp only [push_size, upd_size]; done) | (simp only [push_size, upd_size]; omega)); · (first | assumption)) | (refine (upd_get_ne ?_).trans ?_; · (first | rfl | omega | (simp only [push_size, upd_size]; done) | (simp only [push_size, upd_size]; omega)); · (first | assumption))))) | rfl) only [↓p_some, ↓p_nil, ↓p_off, ↓p_ext0, ↓p_ext1, ↓p_ext2, ↓p_add, ↓p_sub, ↓p_eql, ↓p_neq, ↓p_lss, ↓p_leq, ↓p_gtr, ↓p_geq, ↓p_not, ↓p_pickT, ↓p_pickF, ↓c_T, ↓c_F, ↓g_tT, ↓g_tF, ↓g_fT, ↓g_fF, ↓g_u, ↓r_cell, ↓r_cells, ↓p_getA, ↓p_get0, ↓p_getS, ↓s_cell, ↓a_all, ↓n_new, ↓n_box, ↓k_chkc, ↓k_chks0, ↓k_chks, ↓k_chk, ↓p_by, Value.cells, Nat.zero_add, Nat.add_zero, Nat.reduceAdd]
  have sz : ∀ c v0 v1 v2 v3, (rconL c v0 v1 v2 v3).toArray.size = 15 := fun _ _ _ _ _ => by rw [List.size_toArray, hlen]
  have hev' : ∀ x, (upd U q x)[H.size]? = some (.cells (evL e).toArray 53 (0, 0)) := fun x => (upd_ne (show H.size ≠ q by omega)).trans hq4
  rw [st_blk hb4 (by rw [sz]; omega) rfl, rcon_set_open]
  rw [k_chkc (hev' _) g5, k_chkc (hev' _) g2, k_chkc (hev' _) g1]
  simp only [nilV_ptr, offV_ptr, opt_some', Nat.zero_add]
  rw [stA_go, upd_self hb4, rcon_sta_players, upd_upd, k_chkc (hev' _) g5]
  simp only [nilV_ptr, offV_ptr, opt_some', Nat.zero_add]
  rw [st_blk (upd_self hb4) (by rw [sz]; omega) rfl, upd_upd, rcon_set_seed]
  refine f64.b17_ok ?_
  unfold f64.b17
  have h4' : (blkS q (rconO { c with evs := c.evs ++ [e] } v0 v' v2 v3) * (sliS v0 101 2 c.code.length (c.code.flatMap encI) * (sliS v2 51 1 c.in0.length (c.in0.flatMap u16L) * (sliS v3 51 1 c.in1.length (c.in1.flatMap u16L) * R)) * sliS v' 53 6 (c.evs.length + 1) (c.evs.flatMap evL ++ (evL e).toArray.toList))).holds F3 U := h4
  obtain ⟨h6, g6⟩ := blk_set h4' (rconO { c with opened := true, p0 := e.player, p1 := e.other, seed := e.n, evs := c.evs ++ [e] } v0 v' v2 v3)
  refine hk _ F3 (rconS_mk (v0 := v0) (v1 := v') (v2 := v2) (v3 := v3) ?_) (g03.trans (g4.trans g6))
  rw [SP.comm, SP.assoc]
  show (_ * (_ * sliS v' _ 6 (c.evs ++ [e]).length ((c.evs ++ [e]).flatMap evL))).holds _ _
  have e' : (c.evs ++ [e]).flatMap evL = c.evs.flatMap evL ++ (evL e).toArray.toList := by
    rw [List.flatMap_append]; rfl
  rw [e', List.length_append]
  exact h6
end

end Go.Proofs.YtnnheophehnioaaGreat
namespace Go.Proofs.YtnnheophehnioaaGreat
open Go.Sx Go.Proofs Go.Gm
set_option maxRecDepth 100000

def rrowL (r : Int × Nat) : List Value := [.int .i64 r.1, ptrQ r.2]
theorem rrowL_len (r : Int × Nat) : (rrowL r).length = 2 := rfl
theorem rrowL_all (l : List (Int × Nat)) : ∀ c ∈ l.flatMap rrowL, oneCell c = true := by
  intro c hc
  obtain ⟨x, _, hx⟩ := List.mem_flatMap.1 hc
  simp [rrowL] at hx
  rcases hx with rfl | rfl <;> rfl
def rtabA (tmo : Int) (vL vT : Value) : Array Value := #[.int .i64 tmo, vL, vT]
def rtabO (tmo : Int) (vL vT : Value) : Obj := .cells (rtabA tmo vL vT) 134 (0, 0)
def rtabS (p : Nat) (tmo : Int) (rows : List (Int × Nat)) (A : TL) : SP := SP.ex fun vL => SP.ex fun vT =>
  blkS p (rtabO tmo vL vT) * (sliS vL 136 2 rows.length (rows.flatMap rrowL) * sliS vT 222 2 A.length (A.flatMap encT))
section
variable {p : Nat} {tmo : Int} {rows : List (Int × Nat)} {A : TL} {R : SP} {F : Nat → Prop} {H : Hp}
theorem rtab_open (h : (rtabS p tmo rows A * R).holds F H) : ∃ vL vT, (blkS p (rtabO tmo vL vT) * (sliS vL 136 2 rows.length (rows.flatMap rrowL) * (sliS vT 222 2 A.length (A.flatMap encT) * R))).holds F H := by
  unfold rtabS at h
  simp only [SP.ex_star] at h
  obtain ⟨vL, vT, h⟩ := h
  exact ⟨vL, vT, by simpa only [SP.assoc] using h⟩
theorem rtab_mk {vL vT : Value} (h : (blkS p (rtabO tmo vL vT) * (sliS vL 136 2 rows.length (rows.flatMap rrowL) * (sliS vT 222 2 A.length (A.flatMap encT) * R))).holds F H) : (rtabS p tmo rows A * R).holds F H := by
  unfold rtabS
  simp only [SP.ex_star]
  exact ⟨vL, vT, by simpa only [SP.assoc] using h⟩
theorem rtim_focus {vL vT : Value} (h : (blkS p (rtabO tmo vL vT) * (sliS vT 222 2 A.length (A.flatMap encT) * R)).holds F H) :
    ∃ bk, RT H p 2 (rtabA tmo vL vT) 134 A bk ∧ (∀ b, bk = some b → F b) ∧ F p ∧ ∀ H' A' c' bk', RT2 H H' p 2 (rtabA tmo vL vT) 134 A' bk c' bk' →
      ∃ vT' F', (blkS p (rtabO tmo vL vT') * (sliS vT' 222 2 A'.length (A'.flatMap encT) * R)).holds F' H' ∧ Gr F H F' H' := by
  rw [← SP.assoc] at h
  obtain ⟨F1, ⟨Fa, Fb, ⟨hb, rfl⟩, ⟨bk, ho, rfl⟩, hd, rfl⟩, hsub, back⟩ := SP.focus h
  refine ⟨bk, ⟨hb, ⟨vT, rfl, ho⟩, fun e => hd p rfl e⟩, fun b e => hsub b (.inr e), hsub p (.inl rfl), ?_⟩
  intro H' A' c' bk' hr
  obtain ⟨vT', hv, ho'⟩ := hr.rt.sl
  have hc : c' = rtabA tmo vL vT' := by
    apply Array.ext_getElem?
    intro i
    have hs : c'.size = 3 := hr.sz
    match i with
    | 0 => rw [hr.cs 0 (by omega)]; rfl
    | 1 => rw [hr.cs 1 (by omega)]; rfl
    | 2 => rw [hv]; rfl
    | i + 3 => rw [Array.getElem?_eq_none (by omega), Array.getElem?_eq_none (by show 3 ≤ i + 3; omega)]
  subst hc
  obtain ⟨F', h', g⟩ := back (blkS p (rtabO tmo vL vT') * sliS vT' 222 2 A'.length (A'.flatMap encT)) (fun b => b = p ∨ bk' = some b) H'
    ⟨(· = p), fun b => bk' = some b, ⟨hr.rt.blk, rfl⟩, ⟨bk', ho', rfl⟩, fun b e1 e2 => hr.rt.ne (by rw [e2, e1]), rfl⟩ ⟨hr.ext, fun b e => by
      rcases e with e | e
      · exact .inl (.inl e)
      · rcases hr.bk with e' | ⟨b', e', hb'⟩
        · exact .inl (.inr (e' ▸ e))
        · rw [e'] at e; cases e; exact .inr hb'⟩
  exact ⟨vT', F', by rw [← SP.assoc]; exact h', g⟩
theorem rtim_tab (h : (rtabS p tmo rows A * R).holds F H) : ∃ c bk, RT H p 2 c 134 A bk ∧ c[0]? = some (.int .i64 tmo) ∧ (∀ b, bk = some b → F b) ∧ F p ∧ ∀ H' A' c' bk', RT2 H H' p 2 c 134 A' bk c' bk' →
      ∃ F', (rtabS p tmo rows A' * R).holds F' H' ∧ Gr F H F' H' := by
  obtain ⟨vL, vT, h⟩ := rtab_open h
  rw [show blkS p (rtabO tmo vL vT) * (sliS vL 136 2 rows.length (rows.flatMap rrowL) * (sliS vT 222 2 A.length (A.flatMap encT) * R)) =
    blkS p (rtabO tmo vL vT) * (sliS vT 222 2 A.length (A.flatMap encT) * (sliS vL 136 2 rows.length (rows.flatMap rrowL) * R)) by ac_rfl] at h
  obtain ⟨bk, hr, h1, h2, back⟩ := rtim_focus h
  refine ⟨_, bk, hr, rfl, h1, h2, fun H' A' c' bk' hr' => ?_⟩
  obtain ⟨vT', F', h', g⟩ := back H' A' c' bk' hr'
  refine ⟨F', rtab_mk (vL := vL) (vT := vT') ?_, g⟩
  rw [show blkS p (rtabO tmo vL vT') * (sliS vL 136 2 rows.length (rows.flatMap rrowL) * (sliS vT' 222 2 A'.length (A'.flatMap encT) * R)) =
    blkS p (rtabO tmo vL vT') * (sliS vT' 222 2 A'.length (A'.flatMap encT) * (sliS vL 136 2 rows.length (rows.flatMap rrowL) * R)) by ac_rfl]
  exact h'
/-- New. -/
theorem rtnew_bad {tmo : Int} (hbad : tmo < 1 ∨ tmo > 1048576) {K : Value → HPred} (hk : K (.tuple #[.pointer none, .int .i64 1]) H) : callF Tryz.prog 43 [.int .i64 tmo] K H := by
  refine f43.call ?_
  by_cases c : tmo < 1
  · simp only [f43.b, nilV_ptr', offV_ptr, opt_some', extV_tuple', List.getElem?_cons_zero, List.getElem?_cons_succ, List.getElem?_toArray, cnd_true', cnd_false', grd_tt', grd_tf', grd_ft', grd_ff', grd_u', pick_true', pick_false', un_not', Bool.not_true, Bool.not_false, Nat.add_zero, Nat.zero_add, Nat.reduceAdd, int_eql, int_neq, int_lss, int_leq, int_gtr, int_geq, rd_go, rdo_cells', rds_go, st_go, sto_cells, stc_ok', stA_go, stAo_all, stAo_allL, rdso_all, upd_push_top, one_int, one_bool, one_ptr, one_slice, one_map, one_func, one_iface, boxM_eq', newC_eq', Value.cells, push_get_new, push_size, upd_size, List.size_toArray, List.toList_toArray, List.length_cons, List.length_nil, List.all_cons, List.all_nil, Bool.and_self, Bool.and_true, decide_true, decide_false, decide_eq_true c]; exact hk
  · have c2 : tmo > 1048576 := by omega
    simp only [f43.b, nilV_ptr', offV_ptr, opt_some', extV_tuple', List.getElem?_cons_zero, List.getElem?_cons_succ, List.getElem?_toArray, cnd_true', cnd_false', grd_tt', grd_tf', grd_ft', grd_ff', grd_u', pick_true', pick_false', un_not', Bool.not_true, Bool.not_false, Nat.add_zero, Nat.zero_add, Nat.reduceAdd, int_eql, int_neq, int_lss, int_leq, int_gtr, int_geq, rd_go, rdo_cells', rds_go, st_go, sto_cells, stc_ok', stA_go, stAo_all, stAo_allL, rdso_all, upd_push_top, one_int, one_bool, one_ptr, one_slice, one_map, one_func, one_iface, boxM_eq', newC_eq', Value.cells, push_get_new, push_size, upd_size, List.size_toArray, List.toList_toArray, List.length_cons, List.length_nil, List.all_cons, List.all_nil, Bool.and_self, Bool.and_true, decide_true, decide_false, decide_eq_false c, decide_eq_true c2]; exact hk
theorem bld_rtab (tmo : Int) : pureRun Tryz.prog (Instr.build 134 #[(0, .int .i64 tmo)]) = some (.agg (rtabA tmo (.slice none 0 0) (.slice none 0 0))) := by kernel_rfl
theorem rtnew_ok (h : R.holds F H) {tmo : Int} (hok : 1 ≤ tmo ∧ tmo ≤ 1048576) {K : Value → HPred} (hk : ∀ H' F' p, H.size ≤ p → (rtabS p tmo [] [] * R).holds F' H' → Gr F H F' H' → K (.tuple #[ptrQ p, .int .i64 0]) H') : callF Tryz.prog 43 [.int .i64 tmo] K H := by
  refine f43.call ?_
  have c1 : ¬ tmo < 1 := by omega
  have c2 : ¬ tmo > 1048576 := by omega
  simp only [f43.b, nilV_ptr', offV_ptr, opt_some', extV_tuple', List.getElem?_cons_zero, List.getElem?_cons_succ, List.getElem?_toArray, cnd_true', cnd_false', grd_tt', grd_tf', grd_ft', grd_ff', grd_u', pick_true', pick_false', un_not', Bool.not_true, Bool.not_false, Nat.add_zero, Nat.zero_add, Nat.reduceAdd, int_eql, int_neq, int_lss, int_leq, int_gtr, int_geq, rd_go, rdo_cells', rds_go, st_go, sto_cells, stc_ok', stA_go, stAo_all, stAo_allL, rdso_all, upd_push_top, one_int, one_bool, one_ptr, one_slice, one_map, one_func, one_iface, boxM_eq', newC_eq', Value.cells, push_get_new, push_size, upd_size, List.size_toArray, List.toList_toArray, List.length_cons, List.length_nil, List.all_cons, List.all_nil, Bool.and_self, Bool.and_true, decide_true, decide_false, decide_eq_false c1, decide_eq_false c2, bld_rtab]
  obtain ⟨F1, h1, g1⟩ := blk_new h (rtabO tmo (.slice none 0 0) (.slice none 0 0))
  refine hk _ F1 H.size (Nat.le_refl _) (rtab_mk (vL := .slice none 0 0) (vT := .slice none 0 0) ?_) g1
  show (_ * (sliS (.slice none 0 0) _ _ 0 [] * (sliS (.slice none 0 0) _ _ 0 [] * R))).holds _ _
  simp only [sli_emp, SP.emp_star]
  exact h1
def rget (rows : List (Int × Nat)) (key : Int) : Option Nat := (rows.find? fun r => decide (r.1 = key)).map (·.2)
def optP : Option Nat → Value
  | some q => ptrQ q
  | none => .pointer none
theorem rfind_loop {vL vT : Value} (h : (blkS p (rtabO tmo vL vT) * (sliS vL 136 2 rows.length (rows.flatMap rrowL) * R)).holds F H) {key : Int} (hmax : rows.length < 2 ^ 40) {K : Value → HPred} : ∀ (d i : Nat), rows.length = i + d →
    K (optP (rget (rows.drop i) key)) H → f45.at2 K (ptrQ p) (.int .i64 key) (.int .i64 i) H := by
  have hb := blk_get h
  have hl : Lies H vL 136 2 rows.length (rows.flatMap rrowL) := by obtain ⟨F1, h1, -⟩ := SP.right h; exact sli_lies h1
  intro d
  induction d with
  | zero =>
    intro i hi hk
    obtain ⟨a, cap, rfl⟩ := hl.shape
    refine f45.b2_ok ?_
    have hlt : ¬ (i : Int) < (rows.length : Int) := by omega
    rw [List.drop_of_length_le (by omega)] at hk
    unfold rtabO rtabA at hb
    simp only [f45.b2, ptrQ, nilV_ptr', offV_ptr, opt_some', extV_tuple', List.getElem?_cons_zero, List.getElem?_cons_succ, List.getElem?_toArray, cnd_true', cnd_false', grd_tt', grd_tf', grd_ft', grd_ff', grd_u', pick_true', pick_false', un_not', Bool.not_true, Bool.not_false, Nat.add_zero, Nat.zero_add, Nat.reduceAdd, int_eql, int_neq, int_lss, int_leq, int_gtr, int_geq, rd_go, rdo_cells', rds_go, st_go, sto_cells, stc_ok', stA_go, stAo_all, stAo_allL, rdso_all, upd_push_top, one_int, one_bool, one_ptr, one_slice, one_map, one_func, one_iface, boxM_eq', newC_eq', Value.cells, push_get_new, push_size, upd_size, List.size_toArray, List.toList_toArray, List.length_cons, List.length_nil, List.all_cons, List.all_nil, Bool.and_self, Bool.and_true, decide_true, decide_false, hb, len_slice Tryz.underlying129, decide_eq_false hlt]
    exact hk
  | succ d ih =>
    intro i hi hk
    have hlt : (i : Int) < (rows.length : Int) := by omega
    have hx : rows[i]? = some rows[i] := List.getElem?_eq_getElem (by omega)
    obtain ⟨bb, o, cc, ccap, T, fz, rfl, hbb, hil, hsz, hg⟩ := hl.at rrowL_len hx
    have g0 := hg 0 (by omega)
    have g1 := hg 1 (by omega)
    have ea : IntKind.i64.wrap ((i : Int) + 1) = ((i + 1 : Nat) : Int) := by rw [wrap64_id (by omega) (by omega)]; omega
    have ei : o + Int.toNat (i : Int) * 2 = o + i * 2 := by simp
    have g0' : cc[o + i * 2]? = some (.int .i64 rows[i].1) := g0
    have g1' : cc[o + i * 2 + 1]? = some (ptrQ rows[i].2) := g1
    rw [List.drop_eq_getElem_cons (by omega)] at hk
    unfold rtabO rtabA at hb
    refine f45.b2_ok ?_
    by_cases ck : rows[i].1 = key
    · simp only [f45.b2, ptrQ, nilV_ptr', offV_ptr, opt_some', extV_tuple', List.getElem?_cons_zero, List.getElem?_cons_succ, List.getElem?_toArray, cnd_true', cnd_false', grd_tt', grd_tf', grd_ft', grd_ff', grd_u', pick_true', pick_false', un_not', Bool.not_true, Bool.not_false, Nat.add_zero, Nat.zero_add, Nat.reduceAdd, int_eql, int_neq, int_lss, int_leq, int_gtr, int_geq, rd_go, rdo_cells', rds_go, st_go, sto_cells, stc_ok', stA_go, stAo_all, stAo_allL, rdso_all, upd_push_top, one_int, one_bool, one_ptr, one_slice, one_map, one_func, one_iface, boxM_eq', newC_eq', Value.cells, push_get_new, push_size, upd_size, List.size_toArray, List.toList_toArray, List.length_cons, List.length_nil, List.all_cons, List.all_nil, Bool.and_self, Bool.and_true, decide_true, decide_false, hb, len_slice Tryz.underlying129, decide_eq_true hlt, idxS_eq (Int.natCast_nonneg i) hlt, ei, hbb, g0', decide_eq_true ck, g1']
      unfold rget at hk
      rw [List.find?_cons] at hk
      simp only [decide_eq_true ck, Option.map_some, optP] at hk
      exact hk
    · simp only [f45.b2, ptrQ, nilV_ptr', offV_ptr, opt_some', extV_tuple', List.getElem?_cons_zero, List.getElem?_cons_succ, List.getElem?_toArray, cnd_true', cnd_false', grd_tt', grd_tf', grd_ft', grd_ff', grd_u', pick_true', pick_false', un_not', Bool.not_true, Bool.not_false, Nat.add_zero, Nat.zero_add, Nat.reduceAdd, int_eql, int_neq, int_lss, int_leq, int_gtr, int_geq, rd_go, rdo_cells', rds_go, st_go, sto_cells, stc_ok', stA_go, stAo_all, stAo_allL, rdso_all, upd_push_top, one_int, one_bool, one_ptr, one_slice, one_map, one_func, one_iface, boxM_eq', newC_eq', Value.cells, push_get_new, push_size, upd_size, List.size_toArray, List.toList_toArray, List.length_cons, List.length_nil, List.all_cons, List.all_nil, Bool.and_self, Bool.and_true, decide_true, decide_false, hb, len_slice Tryz.underlying129, decide_eq_true hlt, idxS_eq (Int.natCast_nonneg i) hlt, ei, hbb, g0', decide_eq_false ck, int_add, ea]
      refine ih (i + 1) (by omega) ?_
      unfold rget at hk ⊢
      rw [List.find?_cons] at hk
      simp only [decide_eq_false ck] at hk
      exact hk
/-- Find. -/
theorem rfind_ok (h : (rtabS p tmo rows A * R).holds F H) (key : Int) (hmax : rows.length < 2 ^ 40) {K : Value → HPred} (hk : K (optP (rget rows key)) H) : callF Tryz.prog 45 [ptrQ p, .int .i64 key] K H := by
  obtain ⟨vL, vT, h⟩ := rtab_open h
  refine f45.call ?_
  unfold f45.b
  exact rfind_loop h hmax rows.length 0 (by omega) hk
/-- time. -/
theorem rtime_ok {c : Ct} {qc : Nat} (h : (rtabS p tmo rows A * (rconS qc c * R)).holds F H) (hplay : ∀ {R' : SP} {F' : Nat → Prop} {H' : Hp} {K : Value → HPred}, (rconS qc c * R').holds F' H' → (∀ H'', Ext0 H' H'' → K (.bool (playedP c)) H'') → callF Tryz.prog 128 [ptrQ qc] K H')
    (hn : (A.map (·.1)).Nodup) {key now : Int} (hroom : key ∈ A.map (·.1) ∨ A.length < 4096) (hlen : A.length < 2 ^ 30) (hnow : -2 ^ 62 ≤ now + tmo ∧ now + tmo ≤ 2 ^ 62) {K : Value → HPred}
    (hk : ∀ H' F', (rtabS p tmo rows (timesP c A key (now + tmo)) * (rconS qc c * R)).holds F' H' → Gr F H F' H' → K (.tuple #[]) H') :
    callF Tryz.prog 84 [ptrQ p, .int .i64 key, ptrQ qc, .int .i64 now] K H := by
  refine f84.call ?_
  unfold f84.b
  have h' := h
  rw [show rtabS p tmo rows A * (rconS qc c * R) = rconS qc c * (rtabS p tmo rows A * R) by ac_rfl] at h'
  refine hplay h' fun H1 hx1 => ?_
  obtain ⟨h1, g1⟩ := SP.ext0 h hx1
  obtain ⟨ca, bk, hr, ht0, -, -, back⟩ := rtim_tab h1
  have ew : IntKind.i64.wrap (now + tmo) = now + tmo := wrap64_id (by omega) (by omega)
  unfold timesP at hk
  cases hp : playedP c with
  | true =>
    rw [hp] at hk
    simp only [ptrQ, nilV_ptr', offV_ptr, opt_some', extV_tuple', List.getElem?_cons_zero, List.getElem?_cons_succ, List.getElem?_toArray, cnd_true', cnd_false', grd_tt', grd_tf', grd_ft', grd_ff', grd_u', pick_true', pick_false', un_not', Bool.not_true, Bool.not_false, Nat.add_zero, Nat.zero_add, Nat.reduceAdd, int_eql, int_neq, int_lss, int_leq, int_gtr, int_geq, rd_go, rdo_cells', rds_go, st_go, sto_cells, stc_ok', stA_go, stAo_all, stAo_allL, rdso_all, upd_push_top, one_int, one_bool, one_ptr, one_slice, one_map, one_func, one_iface, boxM_eq', newC_eq', Value.cells, push_get_new, push_size, upd_size, List.size_toArray, List.toList_toArray, List.length_cons, List.length_nil, List.all_cons, List.all_nil, Bool.and_self, Bool.and_true, decide_true, decide_false, hr.blk, ht0, int_add, ew]
    refine rtim_set hr hn hlen (fun _ H2 c' bk' hr2 => ?_) (fun hn' => absurd hroom hn')
    obtain ⟨F2, h2, g2⟩ := back _ _ _ _ hr2
    exact hk _ _ h2 (g1.trans g2)
  | false =>
    rw [hp] at hk
    simp only [ptrQ, nilV_ptr', offV_ptr, opt_some', extV_tuple', List.getElem?_cons_zero, List.getElem?_cons_succ, List.getElem?_toArray, cnd_true', cnd_false', grd_tt', grd_tf', grd_ft', grd_ff', grd_u', pick_true', pick_false', un_not', Bool.not_true, Bool.not_false, Nat.add_zero, Nat.zero_add, Nat.reduceAdd, int_eql, int_neq, int_lss, int_leq, int_gtr, int_geq, rd_go, rdo_cells', rds_go, st_go, sto_cells, stc_ok', stA_go, stAo_all, stAo_allL, rdso_all, upd_push_top, one_int, one_bool, one_ptr, one_slice, one_map, one_func, one_iface, boxM_eq', newC_eq', Value.cells, push_get_new, push_size, upd_size, List.size_toArray, List.toList_toArray, List.length_cons, List.length_nil, List.all_cons, List.all_nil, Bool.and_self, Bool.and_true, decide_true, decide_false, hr.blk, ht0]
    refine rtim_cancel hr hn hlen (fun tm _ H2 c' bk' hr2 => ?_) (fun hn' => ?_)
    · obtain ⟨F2, h2, g2⟩ := back _ _ _ _ hr2
      exact hk _ _ h2 (g1.trans g2)
    · have e : tdel A key = A := tdel_no (tget_none.1 hn')
      simp only [Bool.false_eq_true, if_false, e] at hk
      exact hk _ _ h1 g1
end

end Go.Proofs.YtnnheophehnioaaGreat
namespace Go.Proofs.YtnnheophehnioaaGreat
open Go.Sx Go.Proofs Go.Gm
set_option maxRecDepth 100000

/-- How many rows stand ahead of a key. -/
def rpos (rows : List (Int × Nat)) (key : Int) : Nat := (rows.takeWhile fun r => decide (r.1 < key)).length
def rins (rows : List (Int × Nat)) (key : Int) (q : Nat) : List (Int × Nat) := rows.take (rpos rows key) ++ [(key, q)] ++ rows.drop (rpos rows key)
theorem rpos_le (rows : List (Int × Nat)) (key : Int) : rpos rows key ≤ rows.length := by
  unfold rpos
  exact (List.takeWhile_sublist _).length_le
theorem rins_len (rows : List (Int × Nat)) (key : Int) (q : Nat) : (rins rows key q).length = rows.length + 1 := by
  have := rpos_le rows key
  unfold rins
  simp only [List.length_append, List.length_take, List.length_drop, List.length_cons, List.length_nil]
  omega
theorem bs_row0 (K : Value → HPred) (H : Hp) : tot Tryz.prog (Instr.buildSlice 129 0 #[]) K H = K (.slice (some ⟨H.size, 0, none⟩) 0 0) (H.push (.cells #[] 136)) := by kernel_rfl
theorem bs_row (a : Int) (q : Nat) (K : Value → HPred) (H : Hp) : tot Tryz.prog (Instr.buildSlice 129 1 #[(0, .agg #[.int .i64 a, ptrQ q])]) K H = K (.slice (some ⟨H.size, 0, none⟩) 1 1) (H.push (.cells #[.int .i64 a, ptrQ q] 136)) := by kernel_rfl
theorem bld_row (a : Int) (q : Nat) : pureRun Tryz.prog (Instr.build 136 #[(0, .int .i64 a), (1, ptrQ q)]) = some (.agg #[.int .i64 a, ptrQ q]) := by kernel_rfl
section
variable {p : Nat} {tmo : Int} {rows : List (Int × Nat)} {A : TL} {R : SP} {F : Nat → Prop} {H : Hp}
/-- From the place on. -/
theorem rlay_tail {c : Ct} {qc : Nat} (h : (rtabS p tmo rows A * (rconS qc c * R)).holds F H) (hplay : ∀ {R' : SP} {F' : Nat → Prop} {H' : Hp} {K : Value → HPred}, (rconS qc c * R').holds F' H' → (∀ H'', Ext0 H' H'' → K (.bool (playedP c)) H'') → callF Tryz.prog 128 [ptrQ qc] K H')
    (hn : (A.map (·.1)).Nodup) {key now : Int} (hroom : key ∈ A.map (·.1) ∨ A.length < 4096) (hlen : A.length < 2 ^ 30) (hnow : -2 ^ 62 ≤ now + tmo ∧ now + tmo ≤ 2 ^ 62) (hrl : rows.length < 4096) {i : Nat} (hi : i ≤ rows.length) {K : Value → HPred}
    (hstop : ¬ (i < rows.length ∧ (rows.getD i (0, 0)).1 < key))
    (hk : ∀ H' F', (rtabS p tmo (rows.take i ++ [(key, qc)] ++ rows.drop i) (timesP c A key (now + tmo)) * (rconS qc c * R)).holds F' H' → Gr F H F' H' → K (.int .i64 0) H') :
    f65.at8 K (ptrQ p) (.int .i64 key) (ptrQ qc) (.int .i64 now) (.int .i64 i) H := by
  obtain ⟨vL, vT, h⟩ := rtab_open h
  have hb := blk_get h
  have hpl := blk_lt hb
  have hl : Lies H vL 136 2 rows.length (rows.flatMap rrowL) := by obtain ⟨F1, h1, -⟩ := SP.right h; exact sli_lies h1
  have hown := h
  rw [show blkS p (rtabO tmo vL vT) * (sliS vL 136 2 rows.length (rows.flatMap rrowL) * (sliS vT 222 2 A.length (A.flatMap encT) * (rconS qc c * R))) =
    sliS vL 136 2 rows.length (rows.flatMap rrowL) * (blkS p (rtabO tmo vL vT) * (sliS vT 222 2 A.length (A.flatMap encT) * (rconS qc c * R))) by ac_rfl] at hown
  obtain ⟨bkL, hoL, -⟩ := sli_get hown
  obtain ⟨aL, capL, rfl, hcap⟩ := hoL.shape
  refine f65.b8_ok ?_
  -- the place
  have stop : ∀ {X Y : HPred}, Y H → (grdK (.bool (decide ((i : Int) < rows.length))) true (fun c6 => c6 (ptrQ p)) fun v7 =>
      grdK (.bool (decide ((i : Int) < rows.length))) true (fun c8 => opt (nilV v7) fun v9 => c8 v9) fun v10 =>
      grdK (.bool (decide ((i : Int) < rows.length))) true (fun c11 => opt (offV v10 1) fun v12 => c11 v12) fun v13 =>
      grdK (.bool (decide ((i : Int) < rows.length))) true (fun c14 => rd (cellP v13) fun v15 => c14 v15) fun v16 =>
      grdK (.bool (decide ((i : Int) < rows.length))) true (fun c17 => c17 (.int .i64 i)) fun v18 =>
      grdK (.bool (decide ((i : Int) < rows.length))) true (fun c19 => opt (idxS v16 v18 2) fun v20 => c19 v20) fun v21 =>
      grdK (.bool (decide ((i : Int) < rows.length))) true (fun c22 => opt (offV v21 0) fun v23 => c22 v23) fun v24 =>
      grdK (.bool (decide ((i : Int) < rows.length))) true (fun c25 => rd (cellP v24) fun v26 => c25 v26) fun v27 =>
      grdK (.bool (decide ((i : Int) < rows.length))) true (fun c28 => c28 (.int .i64 key)) fun v29 =>
      grdK (.bool (decide ((i : Int) < rows.length))) true (fun c30 => opt (binV Tryz.prog .lss 3 (Go.Operand.tmp 42) (Go.Operand.tmp 43) v27 v29) fun v31 => c30 v31) fun v32 =>
      opt (pickV (.bool (decide ((i : Int) < rows.length))) v32 (.bool false)) fun v33 => cnd v33 X Y) H := by
    intro X Y hY
    unfold rtabO rtabA at hb
    by_cases hlt : i < rows.length
    · have hlt' : (i : Int) < (rows.length : Int) := by omega
      have hx : rows[i]? = some rows[i] := List.getElem?_eq_getElem hlt
      obtain ⟨bb, o, cc, ccap, T, fz, e, hbb, hil, hsz, hg⟩ := hl.at rrowL_len hx
      cases e
      have g0 : cc[o + i * 2]? = some (.int .i64 rows[i].1) := hg 0 (by omega)
      have ei : o + Int.toNat (i : Int) * 2 = o + i * 2 := by simp
      have hnk : ¬ rows[i].1 < key := fun hk => hstop ⟨hlt, by rw [List.getD_eq_getElem?_getD, hx]; exact hk⟩
      simp only [ptrQ, nilV_ptr', offV_ptr, opt_some', extV_tuple', List.getElem?_cons_zero, List.getElem?_cons_succ, List.getElem?_toArray, cnd_true', cnd_false', grd_tt', grd_tf', grd_ft', grd_ff', grd_u', pick_true', pick_false', un_not', Bool.not_true, Bool.not_false, Nat.add_zero, Nat.zero_add, Nat.reduceAdd, int_eql, int_neq, int_lss, int_leq, int_gtr, int_geq, rd_go, rdo_cells', rds_go, st_go, sto_cells, stc_ok', stA_go, stAo_all, stAo_allL, rdso_all, upd_push_top, one_int, one_bool, one_ptr, one_slice, one_map, one_func, one_iface, boxM_eq', newC_eq', Value.cells, push_get_new, push_size, upd_size, List.size_toArray, List.toList_toArray, List.length_cons, List.length_nil, List.all_cons, List.all_nil, Bool.and_self, Bool.and_true, decide_true, decide_false, decide_eq_true hlt', hb, idxS_eq (Int.natCast_nonneg i) hlt', ei, hbb, g0, decide_eq_false hnk]
      exact hY
    · have hlt' : ¬ (i : Int) < (rows.length : Int) := by omega
      simp only [nilV_ptr', offV_ptr, opt_some', extV_tuple', List.getElem?_cons_zero, List.getElem?_cons_succ, List.getElem?_toArray, cnd_true', cnd_false', grd_tt', grd_tf', grd_ft', grd_ff', grd_u', pick_true', pick_false', un_not', Bool.not_true, Bool.not_false, Nat.add_zero, Nat.zero_add, Nat.reduceAdd, int_eql, int_neq, int_lss, int_leq, int_gtr, int_geq, rd_go, rdo_cells', rds_go, st_go, sto_cells, stc_ok', stA_go, stAo_all, stAo_allL, rdso_all, upd_push_top, one_int, one_bool, one_ptr, one_slice, one_map, one_func, one_iface, boxM_eq', newC_eq', Value.cells, push_get_new, push_size, upd_size, List.size_toArray, List.toList_toArray, List.length_cons, List.length_nil, List.all_cons, List.all_nil, Bool.and_self, Bool.and_true, decide_true, decide_false, decide_eq_false hlt']
      exact hY
  unfold f65.b8
  have hb1 := hb
  unfold rtabO rtabA at hb1
  have e1 : ∀ K : Value → HPred, rd (cellP (.pointer (some ⟨p, 0 + 1, none⟩))) K H = K (.slice aL rows.length capL) H := fun K => rd_blk hb1 rfl
  rw [ptrQ, nilV_ptr, opt_some, offV_ptr, opt_some, e1, len_slice Tryz.underlying129, opt_some, int_lss, opt_some]
  refine stop ?_
  clear stop
  -- the new list
  simp only [bs_row0, ptrQ, nilV_ptr', offV_ptr, opt_some', extV_tuple', List.getElem?_cons_zero, List.getElem?_cons_succ, List.getElem?_toArray, cnd_true', cnd_false', grd_tt', grd_tf', grd_ft', grd_ff', grd_u', pick_true', pick_false', un_not', Bool.not_true, Bool.not_false, Nat.add_zero, Nat.zero_add, Nat.reduceAdd, int_eql, int_neq, int_lss, int_leq, int_gtr, int_geq, rd_go, rdo_cells', rds_go, st_go, sto_cells, stc_ok', stA_go, stAo_all, stAo_allL, rdso_all, upd_push_top, one_int, one_bool, one_ptr, one_slice, one_map, one_func, one_iface, boxM_eq', newC_eq', Value.cells, push_get_new, push_size, upd_size, List.size_toArray, List.toList_toArray, List.length_cons, List.length_nil, List.all_cons, List.all_nil, Bool.and_self, Bool.and_true, decide_true, decide_false]
  obtain ⟨h1, g1⟩ := SP.push h (.cells #[] 136)
  have sh := slice_hi' (a := aL) (n := rows.length) (cap := capL) (k := .i64) (h := (i : Int)) Tryz.underlying129 Tryz.type136 (by omega) (by omega)
  have ei : Int.toNat (i : Int) = i := by omega
  rw [ei] at sh
  simp only [push_old hb1, nilV_ptr', offV_ptr, opt_some', extV_tuple', List.getElem?_cons_zero, List.getElem?_cons_succ, List.getElem?_toArray, cnd_true', cnd_false', grd_tt', grd_tf', grd_ft', grd_ff', grd_u', pick_true', pick_false', un_not', Bool.not_true, Bool.not_false, Nat.add_zero, Nat.zero_add, Nat.reduceAdd, int_eql, int_neq, int_lss, int_leq, int_gtr, int_geq, rd_go, rdo_cells', rds_go, st_go, sto_cells, stc_ok', stA_go, stAo_all, stAo_allL, rdso_all, upd_push_top, one_int, one_bool, one_ptr, one_slice, one_map, one_func, one_iface, boxM_eq', newC_eq', Value.cells, push_get_new, push_size, upd_size, List.size_toArray, List.toList_toArray, List.length_cons, List.length_nil, List.all_cons, List.all_nil, Bool.and_self, Bool.and_true, decide_true, decide_false, sh]
  obtain ⟨F2, h2, g2⟩ := sli_new h #[] 136 2 0 rfl
  have tk : ((rows.flatMap rrowL).drop (0 * 2)).take ((i - 0) * 2) = (rows.take i).flatMap rrowL := flat_take rrowL_len rows 0 i
  have dk : ((rows.flatMap rrowL).drop (i * 2)).take ((rows.length - i) * 2) = (rows.drop i).flatMap rrowL := by
    rw [flat_take rrowL_len rows i rows.length]
    congr 1
    rw [List.take_of_length_le (by simp)]
  have l1 := (hl.ext (ext_push none' H (.cells #[] 136)) fun _ _ e => e).cut (l := 0) (h := i) hcap (by omega) hi
  rw [tk] at l1
  refine append_sli Tryz.underlying129 ⟨_, Tryz.underlying129, by intro q e; cases e⟩ Tryz.type136 rfl rfl rfl (by decide) (by decide) h2 l1 (rrowL_all _) ?_ ?_
  · have : (2 * (0 + (i - 0)) + 192) * 16 ≤ 2 ^ 48 := by omega
    exact this
  intro v3 H3 F3 h3 g3
  have hbr := bld_row key qc
  simp only [ptrQ] at hbr
  have hbs := bs_row key qc
  simp only [ptrQ] at hbs
  simp only [hbr, nilV_ptr', offV_ptr, opt_some', extV_tuple', List.getElem?_cons_zero, List.getElem?_cons_succ, List.getElem?_toArray, cnd_true', cnd_false', grd_tt', grd_tf', grd_ft', grd_ff', grd_u', pick_true', pick_false', un_not', Bool.not_true, Bool.not_false, Nat.add_zero, Nat.zero_add, Nat.reduceAdd, int_eql, int_neq, int_lss, int_leq, int_gtr, int_geq, rd_go, rdo_cells', rds_go, st_go, sto_cells, stc_ok', stA_go, stAo_all, stAo_allL, rdso_all, upd_push_top, one_int, one_bool, one_ptr, one_slice, one_map, one_func, one_iface, boxM_eq', newC_eq', Value.cells, push_get_new, push_size, upd_size, List.size_toArray, List.toList_toArray, List.length_cons, List.length_nil, List.all_cons, List.all_nil, Bool.and_self, Bool.and_true, decide_true, decide_false, hbs]
  refine append_sli_new Tryz.underlying129 Tryz.type136 rfl rfl rfl (by decide) (by decide) h3 (ns := #[.int .i64 key, .pointer (some ⟨qc, 0, none⟩)]) (k := 1) rfl rfl ?_ ?_
  · have : (2 * (0 + (i - 0) + 1) + 192) * 16 ≤ 2 ^ 48 := by omega
    exact this
  intro v4 H4 F4 h4 g4
  have hb4 : H4[p]? = some (rtabO tmo (.slice aL rows.length capL) vT) := by
    obtain ⟨_, hx, -⟩ := SP.right h4
    exact blk_get hx
  have hl4 : Lies H4 (.slice aL rows.length capL) 136 2 rows.length (rows.flatMap rrowL) := by
    obtain ⟨_, hx, -⟩ := SP.right h4
    obtain ⟨_, hx, -⟩ := SP.right hx
    exact sli_lies hx
  unfold rtabO rtabA at hb4
  have sl := slice_lo (a := aL) (n := rows.length) (cap := capL) (k := .i64) (l := (i : Int)) Tryz.underlying129 Tryz.type136 (by omega) (by omega)
  rw [ei] at sl
  simp only [nilV_ptr', offV_ptr, opt_some', extV_tuple', List.getElem?_cons_zero, List.getElem?_cons_succ, List.getElem?_toArray, cnd_true', cnd_false', grd_tt', grd_tf', grd_ft', grd_ff', grd_u', pick_true', pick_false', un_not', Bool.not_true, Bool.not_false, Nat.add_zero, Nat.zero_add, Nat.reduceAdd, int_eql, int_neq, int_lss, int_leq, int_gtr, int_geq, rd_go, rdo_cells', rds_go, st_go, sto_cells, stc_ok', stA_go, stAo_all, stAo_allL, rdso_all, upd_push_top, one_int, one_bool, one_ptr, one_slice, one_map, one_func, one_iface, boxM_eq', newC_eq', Value.cells, push_get_new, push_size, upd_size, List.size_toArray, List.toList_toArray, List.length_cons, List.length_nil, List.all_cons, List.all_nil, Bool.and_self, Bool.and_true, decide_true, decide_false, hb4, sl]
  have l2 := hl4.cut (l := i) (h := rows.length) hcap hi (Nat.le_refl _)
  rw [dk] at l2
  refine append_sli Tryz.underlying129 ⟨_, Tryz.underlying129, by intro q e; cases e⟩ Tryz.type136 rfl rfl rfl (by decide) (by decide) h4 l2 (rrowL_all _) ?_ ?_
  · have : (2 * (0 + (i - 0) + 1 + (rows.length - i)) + 192) * 16 ≤ 2 ^ 48 := by omega
    exact this
  intro v5 H5 F5 h5 g5
  have h1v := sli_one h5
  have e5 : (#[].toList ++ (rows.take i).flatMap rrowL ++ (#[.int .i64 key, .pointer (some ⟨qc, 0, none⟩)] : Array Value).toList ++ (rows.drop i).flatMap rrowL) = (rows.take i ++ [(key, qc)] ++ rows.drop i).flatMap rrowL := by
    rw [List.flatMap_append, List.flatMap_append]; rfl
  have n5 : 0 + (i - 0) + 1 + (rows.length - i) = (rows.take i ++ [(key, qc)] ++ rows.drop i).length := by
    simp only [List.length_append, List.length_take, List.length_drop, List.length_cons, List.length_nil]; omega
  rw [n5] at h5
  rw [e5] at h5
  rw [show ∀ X Y Z : SP, X * (blkS p (rtabO tmo (.slice aL rows.length capL) vT) * (Y * (Z * (rconS qc c * R)))) = Y * (blkS p (rtabO tmo (.slice aL rows.length capL) vT) * (X * (Z * (rconS qc c * R)))) by intro X Y Z; ac_rfl] at h5
  obtain ⟨F6, h6, g6, -⟩ := SP.right h5
  have hb6 := blk_get h6
  unfold rtabO rtabA at hb6
  obtain ⟨h7, g7⟩ := blk_set h6 (rtabO tmo v5 vT)
  simp only [nilV_ptr', offV_ptr, opt_some', extV_tuple', List.getElem?_cons_zero, List.getElem?_cons_succ, List.getElem?_toArray, cnd_true', cnd_false', grd_tt', grd_tf', grd_ft', grd_ff', grd_u', pick_true', pick_false', un_not', Bool.not_true, Bool.not_false, Nat.add_zero, Nat.zero_add, Nat.reduceAdd, int_eql, int_neq, int_lss, int_leq, int_gtr, int_geq, rd_go, rdo_cells', rds_go, st_go, sto_cells, stc_ok', stA_go, stAo_all, stAo_allL, rdso_all, upd_push_top, one_int, one_bool, one_ptr, one_slice, one_map, one_func, one_iface, boxM_eq', newC_eq', Value.cells, push_get_new, push_size, upd_size, List.size_toArray, List.toList_toArray, List.length_cons, List.length_nil, List.all_cons, List.all_nil, Bool.and_self, Bool.and_true, decide_true, decide_false, hb6, h1v, List.setIfInBounds_toArray, List.set_cons_succ, List.set_cons_zero]
  refine rtime_ok (rtab_mk h7) hplay hn hroom hlen hnow ?_
  intro H8 F8 h8 g8
  exact hk H8 F8 h8 (g2.trans (g3.trans (g4.trans (g5.trans (g6.trans (g7.trans g8))))))
end

end Go.Proofs.YtnnheophehnioaaGreat
namespace Go.Proofs.YtnnheophehnioaaGreat
open Go.Sx Go.Proofs Go.Gm
set_option maxRecDepth 100000

theorem rpos_eq : ∀ (rows : List (Int × Nat)) (key : Int) (i : Nat), i ≤ rows.length → (∀ j, j < i → (rows.getD j (0, 0)).1 < key) → ¬ (i < rows.length ∧ (rows.getD i (0, 0)).1 < key) → rpos rows key = i
  | [], key, i, hi, _, _ => by simp at hi; subst hi; rfl
  | x :: rows, key, 0, _, _, hs => by
    have : ¬ x.1 < key := fun hx => hs ⟨by simp, by simpa using hx⟩
    unfold rpos
    rw [List.takeWhile_cons, decide_eq_false this]; rfl
  | x :: rows, key, i + 1, hi, ha, hs => by
    have hx : x.1 < key := by have := ha 0 (by omega); simpa using this
    have ih := rpos_eq rows key i (by simpa using hi) (fun j hj => by have := ha (j + 1) (by omega); simpa using this) (fun h => hs ⟨by simpa using h.1, by simpa using h.2⟩)
    unfold rpos at ih ⊢
    rw [List.takeWhile_cons, decide_eq_true hx]
    simp [ih]
section
variable {p : Nat} {tmo : Int} {rows : List (Int × Nat)} {A : TL} {R : SP} {F : Nat → Prop} {H : Hp}
theorem rlay_loop {c : Ct} {qc : Nat} (h : (rtabS p tmo rows A * (rconS qc c * R)).holds F H) (hplay : ∀ {R' : SP} {F' : Nat → Prop} {H' : Hp} {K : Value → HPred}, (rconS qc c * R').holds F' H' → (∀ H'', Ext0 H' H'' → K (.bool (playedP c)) H'') → callF Tryz.prog 128 [ptrQ qc] K H')
    (hn : (A.map (·.1)).Nodup) {key now : Int} (hroom : key ∈ A.map (·.1) ∨ A.length < 4096) (hlen : A.length < 2 ^ 30) (hnow : -2 ^ 62 ≤ now + tmo ∧ now + tmo ≤ 2 ^ 62) (hrl : rows.length < 4096) {K : Value → HPred}
    (hk : ∀ H' F', (rtabS p tmo (rins rows key qc) (timesP c A key (now + tmo)) * (rconS qc c * R)).holds F' H' → Gr F H F' H' → K (.int .i64 0) H') : ∀ (d i : Nat), rows.length = i + d → (∀ j, j < i → (rows.getD j (0, 0)).1 < key) →
    f65.at8 K (ptrQ p) (.int .i64 key) (ptrQ qc) (.int .i64 now) (.int .i64 i) H := by
  intro d
  induction d with
  | zero =>
    intro i hi ha
    have hs : ¬ (i < rows.length ∧ (rows.getD i (0, 0)).1 < key) := fun h => by omega
    have e := rpos_eq rows key i (by omega) ha hs
    refine rlay_tail h hplay hn hroom hlen hnow hrl (by omega) hs ?_
    intro H' F' h' g'
    refine hk H' F' ?_ g'
    unfold rins
    rw [e]; exact h'
  | succ d ih =>
    intro i hi ha
    by_cases ck : (rows.getD i (0, 0)).1 < key
    · refine f65.b8_ok ?_
      obtain ⟨vL, vT, h'⟩ := rtab_open h
      have hb := blk_get h'
      have hl : Lies H vL 136 2 rows.length (rows.flatMap rrowL) := by obtain ⟨F1, h1, -⟩ := SP.right h'; exact sli_lies h1
      have hlt' : (i : Int) < (rows.length : Int) := by omega
      have hx : rows[i]? = some rows[i] := List.getElem?_eq_getElem (by omega)
      obtain ⟨bb, o, cc, ccap, T, fz, rfl, hbb, hil, hsz, hg⟩ := hl.at rrowL_len hx
      have g0 : cc[o + i * 2]? = some (.int .i64 rows[i].1) := hg 0 (by omega)
      have ei : o + Int.toNat (i : Int) * 2 = o + i * 2 := by simp
      have ck' : rows[i].1 < key := by rwa [List.getD_eq_getElem?_getD, hx] at ck
      have ea : IntKind.i64.wrap ((i : Int) + 1) = ((i + 1 : Nat) : Int) := by rw [wrap64_id (by omega) (by omega)]; omega
      unfold rtabO rtabA at hb
      simp only [f65.b8, ptrQ, nilV_ptr', offV_ptr, opt_some', extV_tuple', List.getElem?_cons_zero, List.getElem?_cons_succ, List.getElem?_toArray, cnd_true', cnd_false', grd_tt', grd_tf', grd_ft', grd_ff', grd_u', pick_true', pick_false', un_not', Bool.not_true, Bool.not_false, Nat.add_zero, Nat.zero_add, Nat.reduceAdd, int_eql, int_neq, int_lss, int_leq, int_gtr, int_geq, rd_go, rdo_cells', rds_go, st_go, sto_cells, stc_ok', stA_go, stAo_all, stAo_allL, rdso_all, upd_push_top, one_int, one_bool, one_ptr, one_slice, one_map, one_func, one_iface, boxM_eq', newC_eq', Value.cells, push_get_new, push_size, upd_size, List.size_toArray, List.toList_toArray, List.length_cons, List.length_nil, List.all_cons, List.all_nil, Bool.and_self, Bool.and_true, decide_true, decide_false, hb, len_slice Tryz.underlying129, decide_eq_true hlt', idxS_eq (Int.natCast_nonneg i) hlt', ei, hbb, g0, decide_eq_true ck', int_add, ea]
      refine ih (i + 1) (by omega) fun j hj => ?_
      by_cases hji : j = i
      · subst hji; exact ck
      · exact ha j (by omega)
    · have hs : ¬ (i < rows.length ∧ (rows.getD i (0, 0)).1 < key) := fun h => ck h.2
      have e := rpos_eq rows key i (by omega) ha hs
      refine rlay_tail h hplay hn hroom hlen hnow hrl (by omega) hs ?_
      intro H' F' h' g'
      refine hk H' F' ?_ g'
      unfold rins
      rw [e]; exact h'
/-- Lay. -/
theorem rlay_ok {c : Ct} {qc : Nat} (h : (rtabS p tmo rows A * (rconS qc c * R)).holds F H) (hplay : ∀ {R' : SP} {F' : Nat → Prop} {H' : Hp} {K : Value → HPred}, (rconS qc c * R').holds F' H' → (∀ H'', Ext0 H' H'' → K (.bool (playedP c)) H'') → callF Tryz.prog 128 [ptrQ qc] K H')
    (hn : (A.map (·.1)).Nodup) {key now : Int} (hkey : 0 ≤ key) (hroom : key ∈ A.map (·.1) ∨ A.length < 4096) (hlen : A.length < 2 ^ 30) (hnow : -2 ^ 62 ≤ now + tmo ∧ now + tmo ≤ 2 ^ 62) (hrl : rows.length ≤ 4096) {K : Value → HPred}
    (hhas : rget rows key ≠ none → K (.int .i64 8) H) (hfull : rget rows key = none → rows.length = 4096 → K (.int .i64 17) H)
    (hk : rget rows key = none → rows.length < 4096 → ∀ H' F', (rtabS p tmo (rins rows key qc) (timesP c A key (now + tmo)) * (rconS qc c * R)).holds F' H' → Gr F H F' H' → K (.int .i64 0) H') :
    callF Tryz.prog 65 [ptrQ p, .int .i64 key, ptrQ qc, .int .i64 now] K H := by
  refine f65.call ?_
  have hkey' : ¬ key < 0 := by omega
  simp only [f65.b, nilV_ptr', offV_ptr, opt_some', extV_tuple', List.getElem?_cons_zero, List.getElem?_cons_succ, List.getElem?_toArray, cnd_true', cnd_false', grd_tt', grd_tf', grd_ft', grd_ff', grd_u', pick_true', pick_false', un_not', Bool.not_true, Bool.not_false, Nat.add_zero, Nat.zero_add, Nat.reduceAdd, int_eql, int_neq, int_lss, int_leq, int_gtr, int_geq, rd_go, rdo_cells', rds_go, st_go, sto_cells, stc_ok', stA_go, stAo_all, stAo_allL, rdso_all, upd_push_top, one_int, one_bool, one_ptr, one_slice, one_map, one_func, one_iface, boxM_eq', newC_eq', Value.cells, push_get_new, push_size, upd_size, List.size_toArray, List.toList_toArray, List.length_cons, List.length_nil, List.all_cons, List.all_nil, Bool.and_self, Bool.and_true, decide_true, decide_false, decide_eq_false hkey', ptrQ, ptr_eq_nil Tryz.underlying124, Option.isNone_some]
  refine rfind_ok h key (by omega) ?_
  cases hg : rget rows key with
  | some q =>
    simp only [optP, ptrQ, ptr_ne_nil Tryz.underlying124, Option.isNone_some, nilV_ptr', offV_ptr, opt_some', extV_tuple', List.getElem?_cons_zero, List.getElem?_cons_succ, List.getElem?_toArray, cnd_true', cnd_false', grd_tt', grd_tf', grd_ft', grd_ff', grd_u', pick_true', pick_false', un_not', Bool.not_true, Bool.not_false, Nat.add_zero, Nat.zero_add, Nat.reduceAdd, int_eql, int_neq, int_lss, int_leq, int_gtr, int_geq, rd_go, rdo_cells', rds_go, st_go, sto_cells, stc_ok', stA_go, stAo_all, stAo_allL, rdso_all, upd_push_top, one_int, one_bool, one_ptr, one_slice, one_map, one_func, one_iface, boxM_eq', newC_eq', Value.cells, push_get_new, push_size, upd_size, List.size_toArray, List.toList_toArray, List.length_cons, List.length_nil, List.all_cons, List.all_nil, Bool.and_self, Bool.and_true, decide_true, decide_false]
    exact hhas (by rw [hg]; exact nofun)
  | none =>
    obtain ⟨vL, vT, h'⟩ := rtab_open h
    have hb := blk_get h'
    have hl : Lies H vL 136 2 rows.length (rows.flatMap rrowL) := by obtain ⟨F1, h1, -⟩ := SP.right h'; exact sli_lies h1
    obtain ⟨aL, capL, rfl⟩ := hl.shape
    unfold rtabO rtabA at hb
    simp only [optP, ptr_ne_nil Tryz.underlying124, Option.isNone_none, nilV_ptr', offV_ptr, opt_some', extV_tuple', List.getElem?_cons_zero, List.getElem?_cons_succ, List.getElem?_toArray, cnd_true', cnd_false', grd_tt', grd_tf', grd_ft', grd_ff', grd_u', pick_true', pick_false', un_not', Bool.not_true, Bool.not_false, Nat.add_zero, Nat.zero_add, Nat.reduceAdd, int_eql, int_neq, int_lss, int_leq, int_gtr, int_geq, rd_go, rdo_cells', rds_go, st_go, sto_cells, stc_ok', stA_go, stAo_all, stAo_allL, rdso_all, upd_push_top, one_int, one_bool, one_ptr, one_slice, one_map, one_func, one_iface, boxM_eq', newC_eq', Value.cells, push_get_new, push_size, upd_size, List.size_toArray, List.toList_toArray, List.length_cons, List.length_nil, List.all_cons, List.all_nil, Bool.and_self, Bool.and_true, decide_true, decide_false, hb, len_slice Tryz.underlying129]
    by_cases c1 : (rows.length : Int) ≥ 4096
    · simp only [decide_eq_true c1, nilV_ptr', offV_ptr, opt_some', extV_tuple', List.getElem?_cons_zero, List.getElem?_cons_succ, List.getElem?_toArray, cnd_true', cnd_false', grd_tt', grd_tf', grd_ft', grd_ff', grd_u', pick_true', pick_false', un_not', Bool.not_true, Bool.not_false, Nat.add_zero, Nat.zero_add, Nat.reduceAdd, int_eql, int_neq, int_lss, int_leq, int_gtr, int_geq, rd_go, rdo_cells', rds_go, st_go, sto_cells, stc_ok', stA_go, stAo_all, stAo_allL, rdso_all, upd_push_top, one_int, one_bool, one_ptr, one_slice, one_map, one_func, one_iface, boxM_eq', newC_eq', Value.cells, push_get_new, push_size, upd_size, List.size_toArray, List.toList_toArray, List.length_cons, List.length_nil, List.all_cons, List.all_nil, Bool.and_self, Bool.and_true, decide_true, decide_false]
      exact hfull hg (by omega)
    · simp only [decide_eq_false c1, nilV_ptr', offV_ptr, opt_some', extV_tuple', List.getElem?_cons_zero, List.getElem?_cons_succ, List.getElem?_toArray, cnd_true', cnd_false', grd_tt', grd_tf', grd_ft', grd_ff', grd_u', pick_true', pick_false', un_not', Bool.not_true, Bool.not_false, Nat.add_zero, Nat.zero_add, Nat.reduceAdd, int_eql, int_neq, int_lss, int_leq, int_gtr, int_geq, rd_go, rdo_cells', rds_go, st_go, sto_cells, stc_ok', stA_go, stAo_all, stAo_allL, rdso_all, upd_push_top, one_int, one_bool, one_ptr, one_slice, one_map, one_func, one_iface, boxM_eq', newC_eq', Value.cells, push_get_new, push_size, upd_size, List.size_toArray, List.toList_toArray, List.length_cons, List.length_nil, List.all_cons, List.all_nil, Bool.and_self, Bool.and_true, decide_true, decide_false]
      exact rlay_loop h hplay hn hroom hlen hnow (by omega) (hk hg (by omega)) rows.length 0 (by omega) (fun j hj => by omega)
end

end Go.Proofs.YtnnheophehnioaaGreat
namespace Go.Proofs.YtnnheophehnioaaGreat
open Go.Sx Go.Proofs Go.Gm
set_option maxRecDepth 100000

section
variable {p : Nat} {tmo : Int} {rows : List (Int × Nat)} {A : TL} {R : SP} {F : Nat → Prop} {H : Hp}
theorem rtim_tabX (h : (rtabS p tmo rows A * R).holds F H) : ∃ c bk, RT H p 2 c 134 A bk ∧ c[0]? = some (.int .i64 tmo) ∧ ∀ H' A' c' bk' (X : SP) (FX : Nat → Prop), RT2 H H' p 2 c 134 A' bk c' bk' → X.holds FX H' → (∀ b, FX b → H.size ≤ b ∧ bk' ≠ some b) →
      ∃ F', (rtabS p tmo rows A' * (X * R)).holds F' H' ∧ Gr F H F' H' := by
  obtain ⟨vL, vT, h⟩ := rtab_open h
  have hp := blk_lt (blk_get h)
  rw [show blkS p (rtabO tmo vL vT) * (sliS vL 136 2 rows.length (rows.flatMap rrowL) * (sliS vT 222 2 A.length (A.flatMap encT) * R)) =
    (blkS p (rtabO tmo vL vT) * sliS vT 222 2 A.length (A.flatMap encT)) * (sliS vL 136 2 rows.length (rows.flatMap rrowL) * R) by ac_rfl] at h
  obtain ⟨F1, ⟨Fa, Fb, ⟨hb, rfl⟩, ⟨bk, ho, rfl⟩, hd, rfl⟩, hsub, back⟩ := SP.focus h
  refine ⟨rtabA tmo vL vT, bk, ⟨hb, ⟨vT, rfl, ho⟩, fun e => hd p rfl e⟩, rfl, ?_⟩
  intro H' A' c' bk' X FX hr hX hFX
  obtain ⟨vT', hv, ho'⟩ := hr.rt.sl
  have hc : c' = rtabA tmo vL vT' := by
    apply Array.ext_getElem?
    intro i
    have hs : c'.size = 3 := hr.sz
    match i with
    | 0 => rw [hr.cs 0 (by omega)]; rfl
    | 1 => rw [hr.cs 1 (by omega)]; rfl
    | 2 => rw [hv]; rfl
    | i + 3 => rw [Array.getElem?_eq_none (by omega), Array.getElem?_eq_none (by show 3 ≤ i + 3; omega)]
  subst hc
  obtain ⟨F', h', g⟩ := back (blkS p (rtabO tmo vL vT') * (sliS vT' 222 2 A'.length (A'.flatMap encT) * X)) (fun b => b = p ∨ (bk' = some b ∨ FX b)) H'
    ⟨(· = p), fun b => bk' = some b ∨ FX b, ⟨hr.rt.blk, rfl⟩, ⟨fun b => bk' = some b, FX, ⟨bk', ho', rfl⟩, hX, fun b e1 e2 => (hFX b e2).2 e1, rfl⟩, fun b e1 e2 => e2.elim (fun e2 => hr.rt.ne (by rw [e2, e1])) (fun e2 => by have := (hFX b e2).1; have e1' : b = p := e1; omega), rfl⟩
    ⟨hr.ext, fun b e => by
      rcases e with e | e | e
      · exact .inl (.inl e)
      · rcases hr.bk with e' | ⟨b', e', hb'⟩
        · exact .inl (.inr (e' ▸ e))
        · rw [e'] at e; cases e; exact .inr hb'
      · exact .inr (hFX b e).1⟩
  refine ⟨F', rtab_mk (vL := vL) (vT := vT') ?_, g⟩
  rw [show blkS p (rtabO tmo vL vT') * (sliS vL 136 2 rows.length (rows.flatMap rrowL) * (sliS vT' 222 2 A'.length (A'.flatMap encT) * (X * R))) =
    blkS p (rtabO tmo vL vT') * (sliS vT' 222 2 A'.length (A'.flatMap encT) * X) * (sliS vL 136 2 rows.length (rows.flatMap rrowL) * R) by ac_rfl]
  exact h'
end
def rconR (rows : List Row3) : SP := stars (rows.map fun r => rconS r.2.1 r.2.2)
theorem rconR_get {rows : List Row3} {r : Row3} (h : r ∈ rows) : ∃ X, rconR rows = rconS r.2.1 r.2.2 * X := by
  obtain ⟨i, hi, e⟩ := List.getElem_of_mem h
  refine ⟨_, stars_get (i := i) ?_⟩
  rw [List.getElem?_map, List.getElem?_eq_getElem hi, e]; rfl
def rows2 (rows : List Row3) : List (Int × Nat) := rows.map fun r => (r.1, r.2.1)
theorem rget_of : ∀ {rows : List Row3} {r : Row3}, (rows.map (·.1)).Nodup → r ∈ rows → rget (rows2 rows) r.1 = some r.2.1
  | [], _, _, h => by simp at h
  | x :: rows, r, hn, h => by
    unfold rget rows2
    rw [List.map_cons, List.find?_cons]
    simp only [List.map_cons, List.nodup_cons] at hn
    rcases List.mem_cons.1 h with rfl | h
    · simp
    · have hne : x.1 ≠ r.1 := fun e => hn.1 (by rw [e]; exact List.mem_map_of_mem h)
      simp only [hne, decide_false]
      exact rget_of hn.2 h
theorem bld_rlate (a b : Int) : pureRun Tryz.prog (Instr.build 149 #[(0, .int .i64 a), (1, .int .i64 b)]) = some (.agg #[.int .i64 a, .int .i64 b]) := by kernel_rfl
theorem bs_rlate (a b : Int) (K : Value → HPred) (H : Hp) : tot Tryz.prog (Instr.buildSlice 147 1 #[(0, .agg #[.int .i64 a, .int .i64 b])]) K H = K (.slice (some ⟨H.size, 0, none⟩) 1 1) (H.push (.cells #[.int .i64 a, .int .i64 b] 149)) := by kernel_rfl
def idL (x : Int × Int) : List Value := [.int .i64 x.1]
theorem idL_len (x : Int × Int) : (idL x).length = 1 := rfl
theorem idL_map (D : TL) : D.flatMap idL = D.map fun x => .int .i64 x.1 := by
  induction D with
  | nil => rfl
  | cons x D ih => rw [List.flatMap_cons, ih]; rfl
def setsT (at' : Int) (A : TL) (D : TL) : TL := D.foldl (fun A x => tset A x.1 at') A
section
variable {p : Nat} {tmo : Int} {R : SP}
theorem rdue_loop {rows : List Row3} (hnd : (rows.map (·.1)).Nodup) (howes : ∀ r ∈ rows, ∀ {R' : SP} {F' : Nat → Prop} {H' : Hp} {K : Value → HPred} (pl : Int), (rconS r.2.1 r.2.2 * R').holds F' H' → (∀ H'', Ext0 H' H'' → K (.bool (owesC r.2.2 pl)) H'') → callF Tryz.prog 90 [ptrQ r.2.1, .int .i64 pl] K H')
    {lf : Int → Int} (hlf : ∀ r ∈ rows, lf r.1 = lateP r.2.2) {now : Int} (hnow : -2 ^ 62 ≤ now + tmo ∧ now + tmo ≤ 2 ^ 62) (hrl : rows.length < 4096) {D : TL} (hD : ∀ x ∈ D, ∃ r ∈ rows, r.1 = x.1) (hDl : D.length < 2 ^ 30) {v : Value} {K : Value → HPred} :
    ∀ (d j : Nat) (A : TL) (w : Value) (F : Nat → Prop) (H : Hp), D.length = j + d → A.length + d < 4096 → (A.map (·.1)).Nodup →
    (rtabS p tmo (rows2 rows) A * (sliS w 149 2 (outOf (dueOf lf (D.take j))).length ((outOf (dueOf lf (D.take j))).flatMap lateL) * (sliS v 3 1 D.length (D.flatMap idL) * (rconR rows * R)))).holds F H →
    (∀ w' H' F', (rtabS p tmo (rows2 rows) (setsT (now + tmo) A (D.drop j)) * (sliS w' 149 2 (outOf (dueOf lf D)).length ((outOf (dueOf lf D)).flatMap lateL) * (sliS v 3 1 D.length (D.flatMap idL) * (rconR rows * R)))).holds F' H' → Gr F H F' H' → K w' H') →
    f66.at4 K (ptrQ p) (.int .i64 now) w v (.int .i64 j) H := by
  intro d
  induction d with
  | zero =>
    intro j A w F H hj hA hn h hk
    refine f66.b4_ok ?_
    have hlt : ¬ (j : Int) < (D.length : Int) := by omega
    obtain ⟨_, hx, -⟩ := SP.right h
    obtain ⟨_, hx, -⟩ := SP.right hx
    obtain ⟨av, cv, rfl⟩ := (sli_lies hx).shape
    simp only [f66.b4, nilV_ptr', offV_ptr, opt_some', extV_tuple', List.getElem?_cons_zero, List.getElem?_cons_succ, List.getElem?_toArray, cnd_true', cnd_false', grd_tt', grd_tf', grd_ft', grd_ff', grd_u', pick_true', pick_false', un_not', Bool.not_true, Bool.not_false, Nat.add_zero, Nat.zero_add, Nat.reduceAdd, int_eql, int_neq, int_lss, int_leq, int_gtr, int_geq, rd_go, rdo_cells', rds_go, st_go, sto_cells, stc_ok', stA_go, stAo_all, stAo_allL, rdso_all, upd_push_top, one_int, one_bool, one_ptr, one_slice, one_map, one_func, one_iface, boxM_eq', newC_eq', Value.cells, push_get_new, push_size, upd_size, List.size_toArray, List.toList_toArray, List.length_cons, List.length_nil, List.all_cons, List.all_nil, Bool.and_self, Bool.and_true, decide_true, decide_false, len_slice Tryz.underlying22, decide_eq_false hlt]
    rw [List.take_of_length_le (by omega)] at h
    rw [List.drop_of_length_le (by omega)] at hk
    exact hk w H F h (Gr.refl _ _)
  | succ d ih =>
    intro j A w F H hj hA hn h hk
    have hlt : (j : Int) < (D.length : Int) := by omega
    have hx : D[j]? = some D[j] := List.getElem?_eq_getElem (by omega)
    obtain ⟨_, hx1, -⟩ := SP.right h
    obtain ⟨_, hx2, -⟩ := SP.right hx1
    obtain ⟨bb, o, cc, ccap, TT, fz, rfl, hbb, hil, hsz, hg⟩ := (sli_lies hx2).at idL_len hx
    have g0 := hg 0 (by omega)
    have ei : o + Int.toNat (j : Int) * 1 = o + (j * 1 + 0) := by simp
    have eaj : IntKind.i64.wrap ((j : Int) + 1) = ((j + 1 : Nat) : Int) := by rw [wrap64_id (by omega) (by omega)]; omega
    have etk : D.take (j + 1) = D.take j ++ [D[j]] := by rw [List.take_add_one, hx]; rfl
    rw [List.drop_eq_getElem_cons (by omega)] at hk
    obtain ⟨r, hr, hrx⟩ := hD D[j] (List.mem_of_getElem? hx)
    generalize hy : D[j] = y at hx g0 etk hk hrx
    have g0' : cc[o + (j * 1 + 0)]? = some (.int .i64 y.1) := g0
    refine f66.b4_ok ?_
    simp only [f66.b4, nilV_ptr', offV_ptr, opt_some', extV_tuple', List.getElem?_cons_zero, List.getElem?_cons_succ, List.getElem?_toArray, cnd_true', cnd_false', grd_tt', grd_tf', grd_ft', grd_ff', grd_u', pick_true', pick_false', un_not', Bool.not_true, Bool.not_false, Nat.add_zero, Nat.zero_add, Nat.reduceAdd, int_eql, int_neq, int_lss, int_leq, int_gtr, int_geq, rd_go, rdo_cells', rds_go, st_go, sto_cells, stc_ok', stA_go, stAo_all, stAo_allL, rdso_all, upd_push_top, one_int, one_bool, one_ptr, one_slice, one_map, one_func, one_iface, boxM_eq', newC_eq', Value.cells, push_get_new, push_size, upd_size, List.size_toArray, List.toList_toArray, List.length_cons, List.length_nil, List.all_cons, List.all_nil, Bool.and_self, Bool.and_true, decide_true, decide_false, len_slice Tryz.underlying22, decide_eq_true hlt, idxS_eq (Int.natCast_nonneg j) hlt]
    rw [ei, hbb, rdo_cells, g0', opt_some]
    have hrl2 : (rows2 rows).length < 2 ^ 40 := by unfold rows2; rw [List.length_map]; omega
    have hrg := rget_of hnd hr
    rw [hrx] at hrg
    refine rfind_ok h y.1 hrl2 ?_
    rw [hrg]
    obtain ⟨X, hX⟩ := rconR_get hr
    have hc := h
    rw [hX, show ∀ a b c : SP, a * (b * (c * (rconS r.2.1 r.2.2 * X * R))) = rconS r.2.1 r.2.2 * (a * (b * (c * (X * R)))) by intro a b c; ac_rfl] at hc
    obtain ⟨w0, w1, w2, w3, hcb, -⟩ := rcon_get hc
    have i0 : idxA (.pointer (some ⟨r.2.1, 6, none⟩)) (.int .i64 0) 2 1 = some (.pointer (some ⟨r.2.1, 6, none⟩)) := idxA_eq (by omega) (by omega)
    have i1 : idxA (.pointer (some ⟨r.2.1, 6, none⟩)) (.int .i64 1) 2 1 = some (.pointer (some ⟨r.2.1, 7, none⟩)) := idxA_eq (by omega) (by omega)
    simp only [optP, ptrQ, nilV_ptr', offV_ptr, opt_some', extV_tuple', List.getElem?_cons_zero, List.getElem?_cons_succ, List.getElem?_toArray, cnd_true', cnd_false', grd_tt', grd_tf', grd_ft', grd_ff', grd_u', pick_true', pick_false', un_not', Bool.not_true, Bool.not_false, Nat.add_zero, Nat.zero_add, Nat.reduceAdd, int_eql, int_neq, int_lss, int_leq, int_gtr, int_geq, rd_go, rdo_cells', rds_go, st_go, sto_cells, stc_ok', stA_go, stAo_all, stAo_allL, rdso_all, upd_push_top, one_int, one_bool, one_ptr, one_slice, one_map, one_func, one_iface, boxM_eq', newC_eq', Value.cells, push_get_new, push_size, upd_size, List.size_toArray, List.toList_toArray, List.length_cons, List.length_nil, List.all_cons, List.all_nil, Bool.and_self, Bool.and_true, decide_true, decide_false, i1, hcb, rconL]
    refine howes r hr r.2.2.p1 hc fun H1 hxe1 => ?_
    obtain ⟨h1, g1⟩ := SP.ext0 h hxe1
    have hcb1 := hxe1.blk hcb
    have hbb1 := hxe1.blk hbb
    have hlate := hlf r hr
    rw [hrx] at hlate
    unfold lateP at hlate
    have ix : idxS (.slice (some ⟨bb, o, none⟩) D.length ccap) (.int .i64 (j : Int)) 1 = some (.pointer (some ⟨bb, o + (j * 1 + 0), none⟩)) := by rw [idxS_eq (Int.natCast_nonneg j) hlt, ei]
    have rest : f66.at10 K (ptrQ p) (.int .i64 now) w (.slice (some ⟨bb, o, none⟩) D.length ccap) (.int .i64 j) (.int .i64 (lf y.1)) H1 := by
      refine f66.b10_ok ?_
      have rdy : ∀ {G : Hp} (hG : G[bb]? = some (.cells cc TT fz)) (K : Value → HPred), rd (cellP (.pointer (some ⟨bb, o + (j * 1 + 0), none⟩))) K G = K (.int .i64 y.1) G := fun hG K => rd_blk hG g0'
      unfold f66.b10
      rw [ix, opt_some, rdy hbb1, bld_rlate, opt_some, bs_rlate]
      rw [show ∀ a b c : SP, a * (b * c) = b * (a * c) by intro a b c; ac_rfl] at h1
      have hlen : (outOf (dueOf lf (D.take j))).length ≤ j := by unfold outOf dueOf; rw [List.length_map, List.length_map, List.length_take]; omega
      refine append_sli_new (sz := 2) Tryz.underlying147 Tryz.type149 rfl rfl rfl (by decide) (by decide) h1 (ns := #[.int .i64 y.1, .int .i64 (lf y.1)]) (k := 1) rfl rfl ?_ ?_
      · have : (2 * ((outOf (dueOf lf (D.take j))).length + 1) + 192) * 16 ≤ 2 ^ 48 := by omega
        exact this
      intro w' H2 F2 h2 g2
      rw [show ∀ a b c : SP, a * (b * c) = b * (a * c) by intro a b c; ac_rfl] at h2
      obtain ⟨ca, bk, hrt, ht0, -, -, back⟩ := rtim_tab h2
      obtain ⟨_, hy1, -⟩ := SP.right h2
      obtain ⟨_, hy2, -⟩ := SP.right hy1
      obtain ⟨bb2, o2, cc2, ccap2, TT2, fz2, hve2, hbb2, hil2, hsz2, hg2⟩ := (sli_lies hy2).at idL_len hx
      cases hve2
      have g02 : cc2[o + j * 1]? = some (.int .i64 y.1) := hg2 0 (by omega)
      have ew : IntKind.i64.wrap (now + tmo) = now + tmo := wrap64_id (by omega) (by omega)
      simp only [ptrQ, nilV_ptr', offV_ptr, opt_some', extV_tuple', List.getElem?_cons_zero, List.getElem?_cons_succ, List.getElem?_toArray, cnd_true', cnd_false', grd_tt', grd_tf', grd_ft', grd_ff', grd_u', pick_true', pick_false', un_not', Bool.not_true, Bool.not_false, Nat.add_zero, Nat.zero_add, Nat.reduceAdd, int_eql, int_neq, int_lss, int_leq, int_gtr, int_geq, rd_go, rdo_cells', rds_go, st_go, sto_cells, stc_ok', stA_go, stAo_all, stAo_allL, rdso_all, upd_push_top, one_int, one_bool, one_ptr, one_slice, one_map, one_func, one_iface, boxM_eq', newC_eq', Value.cells, push_get_new, push_size, upd_size, List.size_toArray, List.toList_toArray, List.length_cons, List.length_nil, List.all_cons, List.all_nil, Bool.and_self, Bool.and_true, decide_true, decide_false, ix, hbb2, hrt.blk, ht0, int_add, ew]
      rw [g02, opt_some]
      simp only [ptrQ, nilV_ptr', offV_ptr, opt_some', extV_tuple', List.getElem?_cons_zero, List.getElem?_cons_succ, List.getElem?_toArray, cnd_true', cnd_false', grd_tt', grd_tf', grd_ft', grd_ff', grd_u', pick_true', pick_false', un_not', Bool.not_true, Bool.not_false, Nat.add_zero, Nat.zero_add, Nat.reduceAdd, int_eql, int_neq, int_lss, int_leq, int_gtr, int_geq, rd_go, rdo_cells', rds_go, st_go, sto_cells, stc_ok', stA_go, stAo_all, stAo_allL, rdso_all, upd_push_top, one_int, one_bool, one_ptr, one_slice, one_map, one_func, one_iface, boxM_eq', newC_eq', Value.cells, push_get_new, push_size, upd_size, List.size_toArray, List.toList_toArray, List.length_cons, List.length_nil, List.all_cons, List.all_nil, Bool.and_self, Bool.and_true, decide_true, decide_false, hrt.blk, ht0, int_add, ew]
      refine rtim_set hrt hn (by omega) (fun _ H3 c' bk' hr3 => ?_) (fun hn' => absurd (.inr (by omega)) hn')
      obtain ⟨F3, h3, g3⟩ := back _ _ _ _ hr3
      simp only [nilV_ptr', offV_ptr, opt_some', extV_tuple', List.getElem?_cons_zero, List.getElem?_cons_succ, List.getElem?_toArray, cnd_true', cnd_false', grd_tt', grd_tf', grd_ft', grd_ff', grd_u', pick_true', pick_false', un_not', Bool.not_true, Bool.not_false, Nat.add_zero, Nat.zero_add, Nat.reduceAdd, int_eql, int_neq, int_lss, int_leq, int_gtr, int_geq, rd_go, rdo_cells', rds_go, st_go, sto_cells, stc_ok', stA_go, stAo_all, stAo_allL, rdso_all, upd_push_top, one_int, one_bool, one_ptr, one_slice, one_map, one_func, one_iface, boxM_eq', newC_eq', Value.cells, push_get_new, push_size, upd_size, List.size_toArray, List.toList_toArray, List.length_cons, List.length_nil, List.all_cons, List.all_nil, Bool.and_self, Bool.and_true, decide_true, decide_false, int_add, eaj]
      have e1 : outOf (dueOf lf (D.take (j + 1))) = outOf (dueOf lf (D.take j)) ++ [⟨y.1, lf y.1⟩] := by rw [etk]; unfold outOf dueOf; rw [List.map_append, List.map_append]; rfl
      have e2 : (outOf (dueOf lf (D.take (j + 1)))).flatMap lateL = (outOf (dueOf lf (D.take j))).flatMap lateL ++ (#[.int .i64 y.1, .int .i64 (lf y.1)] : Array Value).toList := by rw [e1, List.flatMap_append]; rfl
      have e3 : (outOf (dueOf lf (D.take (j + 1)))).length = (outOf (dueOf lf (D.take j))).length + 1 := by rw [e1]; simp
      have tl := tset_len A y.1 (now + tmo)
      refine ih (j + 1) (tset A y.1 (now + tmo)) w' F3 H3 (by omega) (by omega) (tset_fst hn) (by rw [e2, e3]; exact h3) ?_
      intro w'' H' F' h' g'
      exact hk w'' H' F' (by unfold setsT at h' ⊢; rw [List.foldl_cons]; exact h') (g1.trans (g2.trans (g3.trans g')))
    cases co : owesC r.2.2 r.2.2.p1 with
    | true =>
      rw [co, if_pos rfl] at hlate
      simp only [nilV_ptr', offV_ptr, opt_some', extV_tuple', List.getElem?_cons_zero, List.getElem?_cons_succ, List.getElem?_toArray, cnd_true', cnd_false', grd_tt', grd_tf', grd_ft', grd_ff', grd_u', pick_true', pick_false', un_not', Bool.not_true, Bool.not_false, Nat.add_zero, Nat.zero_add, Nat.reduceAdd, int_eql, int_neq, int_lss, int_leq, int_gtr, int_geq, rd_go, rdo_cells', rds_go, st_go, sto_cells, stc_ok', stA_go, stAo_all, stAo_allL, rdso_all, upd_push_top, one_int, one_bool, one_ptr, one_slice, one_map, one_func, one_iface, boxM_eq', newC_eq', Value.cells, push_get_new, push_size, upd_size, List.size_toArray, List.toList_toArray, List.length_cons, List.length_nil, List.all_cons, List.all_nil, Bool.and_self, Bool.and_true, decide_true, decide_false]
      rw [← hlate]; exact rest
    | false =>
      rw [co] at hlate
      simp only [Bool.false_eq_true, if_false] at hlate
      simp only [nilV_ptr', offV_ptr, opt_some', extV_tuple', List.getElem?_cons_zero, List.getElem?_cons_succ, List.getElem?_toArray, cnd_true', cnd_false', grd_tt', grd_tf', grd_ft', grd_ff', grd_u', pick_true', pick_false', un_not', Bool.not_true, Bool.not_false, Nat.add_zero, Nat.zero_add, Nat.reduceAdd, int_eql, int_neq, int_lss, int_leq, int_gtr, int_geq, rd_go, rdo_cells', rds_go, st_go, sto_cells, stc_ok', stA_go, stAo_all, stAo_allL, rdso_all, upd_push_top, one_int, one_bool, one_ptr, one_slice, one_map, one_func, one_iface, boxM_eq', newC_eq', Value.cells, push_get_new, push_size, upd_size, List.size_toArray, List.toList_toArray, List.length_cons, List.length_nil, List.all_cons, List.all_nil, Bool.and_self, Bool.and_true, decide_true, decide_false, i0, hcb1, rconL]
      rw [← hlate]; exact rest
/-- Due. -/
theorem rdue_ok {rows : List Row3} (hnd : (rows.map (·.1)).Nodup) (howes : ∀ r ∈ rows, ∀ {R' : SP} {F' : Nat → Prop} {H' : Hp} {K : Value → HPred} (pl : Int), (rconS r.2.1 r.2.2 * R').holds F' H' → (∀ H'', Ext0 H' H'' → K (.bool (owesC r.2.2 pl)) H'') → callF Tryz.prog 90 [ptrQ r.2.1, .int .i64 pl] K H')
    {lf : Int → Int} (hlf : ∀ r ∈ rows, lf r.1 = lateP r.2.2) {now : Int} (hnow : -2 ^ 62 ≤ now + tmo ∧ now + tmo ≤ 2 ^ 62) (hrl : rows.length < 4096) {A : TL} (hA : 2 * A.length < 4096) (hn : (A.map (·.1)).Nodup) (hids : ∀ x ∈ A, ∃ r ∈ rows, r.1 = x.1)
    {F : Nat → Prop} {H : Hp} (h : (rtabS p tmo (rows2 rows) A * (rconR rows * R)).holds F H) {K : Value → HPred}
    (hk : ∀ (D : TL) w H' F', D.Pairwise tlt → D.Perm (A.filter fun x => decide (x.2 ≤ now)) →
      (rtabS p tmo (rows2 rows) (setsT (now + tmo) (A.filter fun x => decide (now < x.2)) D) * (sliS w 149 2 (outOf (dueOf lf D)).length ((outOf (dueOf lf D)).flatMap lateL) * (rconR rows * R))).holds F' H' → Gr F H F' H' → K w H') :
    callF Tryz.prog 66 [ptrQ p, .int .i64 now] K H := by
  refine f66.call ?_
  simp only [f66.b, ptrQ, nilV_ptr', offV_ptr, opt_some', extV_tuple', List.getElem?_cons_zero, List.getElem?_cons_succ, List.getElem?_toArray, cnd_true', cnd_false', grd_tt', grd_tf', grd_ft', grd_ff', grd_u', pick_true', pick_false', un_not', Bool.not_true, Bool.not_false, Nat.add_zero, Nat.zero_add, Nat.reduceAdd, int_eql, int_neq, int_lss, int_leq, int_gtr, int_geq, rd_go, rdo_cells', rds_go, st_go, sto_cells, stc_ok', stA_go, stAo_all, stAo_allL, rdso_all, upd_push_top, one_int, one_bool, one_ptr, one_slice, one_map, one_func, one_iface, boxM_eq', newC_eq', Value.cells, push_get_new, push_size, upd_size, List.size_toArray, List.toList_toArray, List.length_cons, List.length_nil, List.all_cons, List.all_nil, Bool.and_self, Bool.and_true, decide_true, decide_false]
  obtain ⟨ca, bk, hrt, ht0, back⟩ := rtim_tabX h
  refine rtim_due hrt hn (by omega) ?_
  intro D H1 c1 bk1 bka v hs hp hr ho hb
  obtain ⟨F1, h1, g1⟩ := back H1 _ c1 bk1 (sliS v 3 1 D.length (D.flatMap idL)) (fun b => bka = some b) hr ⟨bka, by rw [idL_map]; exact ho, rfl⟩ hb
  have hDl : D.length ≤ A.length := by rw [hp.length_eq]; exact List.length_filter_le _ _
  have hfl : (A.filter fun x => decide (now < x.2)).length ≤ A.length := List.length_filter_le _ _
  have h2 : (rtabS p tmo (rows2 rows) (A.filter fun x => decide (now < x.2)) * (sliS (.slice none 0 0) 149 2 (outOf (dueOf lf (D.take 0))).length ((outOf (dueOf lf (D.take 0))).flatMap lateL) * (sliS v 3 1 D.length (D.flatMap idL) * (rconR rows * R)))).holds F1 H1 := by
    show (_ * (sliS (.slice none 0 0) _ 2 0 [] * _)).holds F1 H1
    rw [sli_emp, SP.emp_star]; exact h1
  refine rdue_loop hnd howes hlf hnow hrl (D := D) ?_ (by omega) D.length 0 _ _ F1 H1 (by omega) (by omega) (hn.sublist (List.Sublist.map _ List.filter_sublist)) h2 ?_
  · intro x hx
    exact hids x (List.mem_filter.1 (hp.mem_iff.1 hx)).1
  · intro w' H2 F2 h3 g3
    rw [show ∀ a b c d : SP, a * (b * (c * d)) = c * (a * (b * d)) by intro a b c d; ac_rfl] at h3
    obtain ⟨F3, h4, g4, -⟩ := SP.right h3
    exact hk D w' H2 F3 hs hp h4 (g1.trans (g3.trans g4))
end

end Go.Proofs.YtnnheophehnioaaGreat
