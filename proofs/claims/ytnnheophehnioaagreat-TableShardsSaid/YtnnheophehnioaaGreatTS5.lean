/-
  Part 5 of the proof: contracts of the functions that the law reaches, and the rules they stand on. Own work (an AI agent). No conditions.
-/
import Derived.Test.YtnnheophehnioaaGreatTS4
set_option linter.unusedSimpArgs false
set_option linter.unusedVariables false
namespace Go.Proofs.YtnnheophehnioaaGreat
open Go.Sx Go.Proofs Go.Gm
set_option maxRecDepth 100000

theorem cv_1632 (a : Int) : pureRun Tryz.prog (convert 51 21 (.int .u16 a)) = some (.int .i32 (IntKind.i32.wrap a)) := conv_int Tryz.underlying51 Tryz.underlying21
theorem cv_u3232 (a : Int) : pureRun Tryz.prog (convert 60 21 (.int .u32 a)) = some (.int .i32 (IntKind.i32.wrap a)) := conv_int Tryz.underlying60 Tryz.underlying21
theorem cv_i32 (a : Int) : pureRun Tryz.prog (convert 3 21 (.int .i64 a)) = some (.int .i32 (IntKind.i32.wrap a)) := conv_int Tryz.underlying3 Tryz.underlying21
theorem getD_R32 {l : List Int} (h : ∀ x ∈ l, R32 x) (i : Nat) : R32 (l.getD i 0) := by
  rw [List.getD_eq_getElem?_getD]
  cases hl : l[i]? with
  | none => exact ⟨by decide, by decide⟩
  | some x => exact h x (List.mem_of_getElem? hl)
theorem set_R32 {l : List Int} (h : ∀ x ∈ l, R32 x) (i : Nat) {v : Int} (hv : R32 v) : ∀ x ∈ l.set i v, R32 x := by
  intro x hx
  rcases List.mem_or_eq_of_mem_set hx with h' | h'
  · exact h x h'
  · rw [h']; exact hv
theorem pop_len (m : MS) : (popP m).2.st.length ≤ m.st.length := by
  unfold popP
  cases hs : m.st with
  | nil => simp [hs]
  | cons v s => simp
section
variable {H : Hp} {p : Nat} {m : MS} {bk : Option Nat} {arg : Int} {K : Value → HPred}
/-- An op's contract: with the function f. -/
abbrev OpOk (f : Nat) (op : Int) : Prop := ∀ {H : Hp} {p : Nat} {m : MS} {bk : Option Nat} {arg n : Int} {K : Value → HPred}, MAt H p m bk → m.st.length < 2 ^ 19 → mayP op arg n →
  (∀ H' bk', MAt H' p (stepP op arg m) bk' → Own1 H H' p bk bk' → K (.tuple #[]) H') → callF Tryz.prog f [.pointer (some ⟨p, 0, none⟩), .int .i64 arg] K H

theorem op1 : OpOk 190 1 := by
  intro H p m bk arg n K h hmax _ hk
  refine f190.call ?_
  simp only [f190.b, cv_i32, opt_some]
  exact mpush1_ok h (by omega) (wrap32_in _) hk
theorem op2 : OpOk 191 2 := by
  intro H p m bk arg n K h hmax hm hk
  have ha : 0 ≤ arg ∧ arg < 16 := by unfold mayP at hm; omega
  have e0 : 0 + 0 + 1 + arg.toNat * 1 = 1 + arg.toNat := by omega
  refine f191.call ?_
  simp only [f191.b, nilV_ptr, offV_ptr, opt_some, idxA_eq ha.1 ha.2, e0, h.rd (o := 1 + arg.toNat) (fun v => machA_cell h.ok.len (show arg.toNat < 16 by omega))]
  exact mpush1_ok h (by omega) (getD_R32 h.ok.cells _) hk
theorem op3 : OpOk 192 3 := by
  intro H p m bk arg n K h hmax hm hk
  have ha : 0 ≤ arg ∧ arg < 16 := by unfold mayP at hm; omega
  have e0 : 0 + 0 + 1 + arg.toNat * 1 = 1 + arg.toNat := by omega
  refine f192.call ?_
  simp only [f192.b, nilV_ptr, offV_ptr, opt_some]
  refine mpop_ok h (by omega) ?_
  intro H1 h1 o1
  simp only [idxA_eq ha.1 ha.2, e0, opt_some]
  have hpc : (popP m).2.cells = m.cells := by unfold popP; cases m.st <;> rfl
  refine h1.put (m' := { (popP m).2 with cells := m.cells.set arg.toNat (popP m).1 }) rfl ⟨by simp [h.ok.len], set_R32 h.ok.cells _ (pop_ok' h.ok).2, h1.ok.st, h1.ok.in0, h1.ok.in1⟩ rfl (by omega)
    (fun v => by rw [machA_setc h1.ok.len (show arg.toNat < 16 by omega), hpc]) ?_
  intro H2 h2 o2
  exact hk H2 bk h2 (o1.trans o2)
theorem op12 : OpOk 202 12 := by
  intro H p m bk arg n K h hmax hm hk
  refine f202.call ?_
  unfold f202.b
  refine mpop_ok h (by omega) ?_
  intro H1 h1 o1
  simp only [int_eql, opt_some]
  refine truth_ok ?_
  have := pop_len m
  exact mpush1_ok h1 (by omega) (truth_R32 _) fun H' bk' h' o' => hk H' bk' h' (o1.trans o')
theorem op13 : OpOk 203 13 := by
  intro H p m bk arg n K h hmax hm hk
  refine f203.call ?_
  unfold f203.b
  refine mpop_ok h (by omega) ?_
  intro H1 h1 o1
  have := pop_len m
  exact mpush2_ok h1 (by omega) (pop_ok' h.ok).2 (pop_ok' h.ok).2 fun H' bk' h' o' => hk H' bk' h' (o1.trans o')
theorem op14 : OpOk 204 14 := by
  intro H p m bk arg n K h hmax hm hk
  refine f204.call ?_
  unfold f204.b
  have := pop_len m
  have := pop_len (popP m).2
  refine mpop_ok h (by omega) ?_
  intro H1 h1 o1
  refine mpop_ok h1 (by omega) ?_
  intro H2 h2 o2
  exact mpush2_ok h2 (by omega) (pop_ok' h.ok).2 (pop_ok' h1.ok).2 fun H' bk' h' o' => hk H' bk' h' (o1.trans (o2.trans o'))
theorem op15 : OpOk 205 15 := by
  intro H p m bk arg n K h hmax hm hk
  refine f205.call ?_
  unfold f205.b
  refine mpop_ok h (by omega) ?_
  intro H1 h1 o1
  exact hk H1 bk h1 o1
theorem op16 : OpOk 206 16 := by
  intro H p m bk arg n K h hmax hm hk
  refine f206.call ?_
  have ha : arg = 0 ∨ arg = 1 := by unfold mayP at hm; omega
  rcases ha with rfl | rfl
  · simp only [f206.b, nilV_ptr, offV_ptr, opt_some, idxA_eq (show (0 : Int) ≤ 0 by omega) (show (0 : Int) < (2 : Nat) by omega), show 0 + 20 + Int.toNat 0 * 1 = 20 from rfl, h.rd (o := 20) (fun v => machA_hi h.ok.len 3), cv_1632]
    exact mpush1_ok h (by omega) (wrap32_in _) hk
  · simp only [f206.b, nilV_ptr, offV_ptr, opt_some, idxA_eq (show (0 : Int) ≤ 1 by omega) (show (1 : Int) < (2 : Nat) by omega), show 0 + 20 + Int.toNat 1 * 1 = 21 from rfl, h.rd (o := 21) (fun v => machA_hi h.ok.len 4), cv_1632]
    exact mpush1_ok h (by omega) (wrap32_in _) hk
theorem op17 : OpOk 207 17 := by
  intro H p m bk arg n K h hmax hm hk
  refine f207.call ?_
  simp only [f207.b, nilV_ptr, offV_ptr, opt_some, Nat.add_zero, h.rd (o := 0) (fun v => machA_0), cv_i32]
  exact mpush1_ok h (by omega) (wrap32_in _) hk
theorem op18 : OpOk 208 18 := by
  intro H p m bk arg n K h hmax hm hk
  refine f208.call ?_
  simp only [f208.b, nilV_ptr, offV_ptr, opt_some]
  exact h.put (m' := { m with at' := arg }) (o := 0 + 23) rfl ⟨h.ok.len, h.ok.cells, h.ok.st, h.ok.in0, h.ok.in1⟩ rfl (by omega) (fun v => machA_at h.ok.len arg) fun H' h' o' => hk H' bk h' o'
theorem op19 : OpOk 209 19 := by
  intro H p m bk arg n K h hmax hm hk
  refine f209.call ?_
  unfold f209.b
  refine mpop_ok h (by omega) ?_
  intro H1 h1 o1
  simp only [int_eql, opt_some]
  by_cases h0 : (popP m).1 = 0
  · have e : stepP 19 arg m = { (popP m).2 with at' := arg } := by simp [stepP, h0]
    rw [e] at hk
    simp only [decide_eq_true h0, cnd_true, nilV_ptr, offV_ptr, opt_some]
    exact h1.put (m' := { (popP m).2 with at' := arg }) (o := 0 + 23) rfl ⟨h1.ok.len, h1.ok.cells, h1.ok.st, h1.ok.in0, h1.ok.in1⟩ rfl (by omega) (fun v => machA_at h1.ok.len arg) fun H' h' o' => hk H' bk h' (o1.trans o')
  · have e : stepP 19 arg m = (popP m).2 := by simp [stepP, h0]
    rw [e] at hk
    simp only [decide_eq_false h0, cnd_false]
    exact hk H1 bk h1 o1
theorem op20 : OpOk 210 20 := by
  intro H p m bk arg n K h hmax hm hk
  refine f210.call ?_
  simp only [f210.b, nilV_ptr, offV_ptr, opt_some]
  refine h.put (m' := { m with over := true }) (o := 0 + 0 + 18) rfl ⟨h.ok.len, h.ok.cells, h.ok.st, h.ok.in0, h.ok.in1⟩ rfl (by omega) (fun v => machA_over h.ok.len true) ?_
  intro H1 h1 o1
  refine h1.put (m' := { m with over := true, winner := arg }) (o := 0 + 0 + 19) rfl ⟨h.ok.len, h.ok.cells, h.ok.st, h.ok.in0, h.ok.in1⟩ rfl (by omega) (fun v => machA_winner h1.ok.len arg) ?_
  intro H2 h2 o2
  refine h2.put (m' := { m with over := true, winner := arg, ended := true }) (o := 0 + 24) rfl ⟨h.ok.len, h.ok.cells, h.ok.st, h.ok.in0, h.ok.in1⟩ rfl (by omega) (fun v => machA_ended h2.ok.len true) ?_
  intro H3 h3 o3
  exact hk H3 bk h3 (o1.trans (o2.trans o3))
theorem op21 : OpOk 211 21 := by
  intro H p m bk arg n K h hmax hm hk
  refine f211.call ?_
  simp only [f211.b, nilV_ptr, offV_ptr, opt_some, h.rd (o := 0 + 0 + 17) (fun v => machA_hi h.ok.len 0), int_shl _ _ _ _ _ _ _ (show (0 : Int) ≤ 13 by omega), int_shl _ _ _ _ _ _ _ (show (0 : Int) ≤ 5 by omega),
    int_shr _ _ _ _ _ _ _ (show (0 : Int) ≤ 17 by omega), int_xor]
  refine h.put (m' := { m with seed := seedP m.seed }) (o := 0 + 0 + 17) rfl ⟨h.ok.len, h.ok.cells, h.ok.st, h.ok.in0, h.ok.in1⟩ rfl (by omega) (fun v => machA_seed h.ok.len _) ?_
  intro H1 h1 o1
  simp only [int_rem _ _ _ _ _ _ (show (65536 : Int) ≠ 0 by omega), opt_some, cv_u3232]
  exact mpush1_ok h1 (by simpa using by omega) (wrap32_in _) fun H' bk' h' o' => hk H' bk' h' (o1.trans o')
theorem op22 : OpOk 212 22 := by
  intro H p m bk arg n K h hmax hm hk
  refine f212.call ?_
  simp only [f212.b, nilV_ptr, offV_ptr, opt_some]
  exact h.put (m' := { m with ended := true }) (o := 0 + 24) rfl ⟨h.ok.len, h.ok.cells, h.ok.st, h.ok.in0, h.ok.in1⟩ rfl (by omega) (fun v => machA_ended h.ok.len true) fun H' h' o' => hk H' bk h' o'
/-- The ops of two numbers; q: the variable that holds the function. -/
theorem op_two {q n op : Int} {qb : Nat} {fz : Nat × Nat} {T : TypeId} (h : MAt H p m bk) (hmax : m.st.length < 2 ^ 19) (ho : 4 ≤ op ∧ op ≤ 11)
    (hq : H[qb]? = some (.cells #[.func (.func (binF op)) #[] #[]] T fz)) (hqp : qb ≠ p) (hqb : bk ≠ some qb)
    (hk : ∀ H' bk', MAt H' p (stepP op arg m) bk' → Own1 H H' p bk bk' → K (.tuple #[]) H') :
    callF Tryz.prog 215 [.pointer (some ⟨p, 0, none⟩), .int .i64 arg, .pointer (some ⟨qb, 0, none⟩)] K H := by
  refine f215.call ?_
  unfold f215.b
  have := pop_len m
  have := pop_len (popP m).2
  refine mpop_ok h (by omega) ?_
  intro H1 h1 o1
  refine mpop_ok h1 (by omega) ?_
  intro H2 h2 o2
  have hq2 := (o1.trans o2).ext.blk hq (fun e => e.elim hqp hqb)
  simp only [rd_blk (K := _) (o := 0) (v := .func (.func (binF op)) #[] #[]) hq2 rfl]
  refine bin_ok (pop_ok' h1.ok).2 (pop_ok' h.ok).2 ?_
  have e : stepP op arg m = pushP [twoP op (popP (popP m).2).1 (popP m).1] (popP (popP m).2).2 := by
    unfold stepP
    rw [if_neg (by omega), if_neg (by omega), if_neg (by omega), if_neg (by omega), if_neg (by omega), if_neg (by omega), if_neg (by omega), if_neg (by omega), if_neg (by omega), if_neg (by omega), if_neg (by omega), if_neg (by omega), if_neg (by omega), if_neg (by omega)]
  rw [e] at hk
  exact mpush1_ok h2 (by omega) (two_R32 (pop_ok' h1.ok).2 (pop_ok' h.ok).2) fun H' bk' h' o' => hk H' bk' h' (o1.trans (o2.trans o'))
end

end Go.Proofs.YtnnheophehnioaaGreat
namespace Go.Proofs.YtnnheophehnioaaGreat
open Go.Sx Go.Proofs Go.Gm
set_option maxRecDepth 100000

abbrev fnV (f : Nat) : Value := .func (.func f) #[] #[]
abbrev twoV (q : Nat) : Value := .func (.func 215) #[] #[.pointer (some ⟨q, 0, none⟩)]
/-- The table of ops; the variables of the functions of two numbers lie behind b. -/
def doerA (b : Nat) : Array Value := #[.nilFunc, fnV 190, fnV 191, fnV 192, twoV (b + 1), twoV (b + 2), twoV (b + 3), twoV (b + 4), twoV (b + 5), twoV (b + 6), twoV (b + 7), twoV (b + 8),
  fnV 202, fnV 203, fnV 204, fnV 205, fnV 206, fnV 207, fnV 208, fnV 209, fnV 210, fnV 211, fnV 212]
def DoersAt (H : Hp) (b : Nat) : Prop := ∀ i, i < 8 → H[b + 1 + i]? = some (.cells #[fnV (binF (4 + (i : Nat)))] 265 (0, 0))
theorem two_box {K : Value → HPred} {H : Hp} {f : Nat} (hk : K (twoV H.size) (H.push (.cells #[fnV f] 265))) : callF Tryz.prog 193 [fnV f] K H := by
  refine f193.call ?_
  simp only [f193.b, boxM_eq, Value.cells]
  exact hk
theorem bld_doers (b : Nat) : pureRun Tryz.prog (Instr.build 267 #[(1, fnV 190), (2, fnV 191), (3, fnV 192), (4, twoV (b + 1)), (5, twoV (b + 2)), (6, twoV (b + 3)), (7, twoV (b + 4)), (8, twoV (b + 5)), (9, twoV (b + 6)), (10, twoV (b + 7)), (11, twoV (b + 8)),
  (12, fnV 202), (13, fnV 203), (14, fnV 204), (15, fnV 205), (16, fnV 206), (17, fnV 207), (18, fnV 208), (19, fnV 209), (20, fnV 210), (21, fnV 211), (22, fnV 212)]) = some (.agg (doerA b)) := by kernel_rfl
theorem doer_one (b : Nat) : ∀ v ∈ (doerA b).toList, oneCell v = true := by
  have : (doerA b).toList.all (fun v => oneCell v) = true := rfl
  intro v hv
  exact List.all_eq_true.1 this v hv
theorem doers_ok {K : Value → HPred} {H : Hp} (hk : ∀ H', Ext0 H H' → DoersAt H' H.size → H.size + 8 < H'.size → K (.agg (doerA H.size)) H') : callF Tryz.prog 188 [] K H := by
  refine f188.call ?_
  unfold f188.b
  simp only [newC_eq]
  refine two_box ?_
  refine two_box ?_
  refine two_box ?_
  refine two_box ?_
  refine two_box ?_
  refine two_box ?_
  refine two_box ?_
  refine two_box ?_
  simp only [Array.size_push, Nat.add_assoc, Nat.reduceAdd]
  rw [bld_doers H.size]
  simp only [opt_some]
  generalize hH1 : H.push (Obj.cells #[.nilFunc, .nilFunc, .nilFunc, .nilFunc, .nilFunc, .nilFunc, .nilFunc, .nilFunc, .nilFunc, .nilFunc, .nilFunc, .nilFunc, .nilFunc, .nilFunc, .nilFunc, .nilFunc, .nilFunc, .nilFunc, .nilFunc, .nilFunc, .nilFunc, .nilFunc, .nilFunc] 267) = H1
  have hs1 : H1.size = H.size + 1 := by rw [← hH1]; simp
  generalize hG : ((((((((H1.push _).push _).push _).push _).push _).push _).push _).push _ : Hp) = G
  have hgs : G.size = H.size + 9 := by rw [← hG]; simp [hs1]
  have hx1 : Ext0 H1 G := by
    rw [← hG]
    exact ((((((((ext_push _ _ _).trans' (ext_push _ _ _)).trans' (ext_push _ _ _)).trans' (ext_push _ _ _)).trans' (ext_push _ _ _)).trans' (ext_push _ _ _)).trans' (ext_push _ _ _)).trans' (ext_push _ _ _))
  have hz : G[H.size]? = some (.cells #[.nilFunc, .nilFunc, .nilFunc, .nilFunc, .nilFunc, .nilFunc, .nilFunc, .nilFunc, .nilFunc, .nilFunc, .nilFunc, .nilFunc, .nilFunc, .nilFunc, .nilFunc, .nilFunc, .nilFunc, .nilFunc, .nilFunc, .nilFunc, .nilFunc, .nilFunc, .nilFunc] 267 (0, 0)) :=
    hx1.blk (by rw [← hH1]; exact push_new _ _)
  rw [stA_all (n := 23) (cs := doerA H.size) hz rfl rfl (doer_one _), rds_all (n := 23) (c := doerA H.size) (upd_self hz) rfl]
  refine hk _ ?_ ?_ ?_
  · have h0 : Ext0 H H1 := by rw [← hH1]; exact ext_push _ _ _
    exact (h0.trans' hx1).trans (ext_upd _ _ _) fun b hb e => by
      rcases e with e | e
      · exact e
      · omega
  · intro i hi
    have hl : G = H1 ++ #[Obj.cells #[fnV 194] 265, Obj.cells #[fnV 195] 265, Obj.cells #[fnV 196] 265, Obj.cells #[fnV 197] 265, Obj.cells #[fnV 198] 265, Obj.cells #[fnV 199] 265, Obj.cells #[fnV 200] 265, Obj.cells #[fnV 201] 265] := by rw [← hG]; apply Array.ext'; simp
    rw [upd_ne (by omega), hl, Array.getElem?_append_right (by omega), hs1, show H.size + 1 + i - (H.size + 1) = i by omega]
    have : i = 0 ∨ i = 1 ∨ i = 2 ∨ i = 3 ∨ i = 4 ∨ i = 5 ∨ i = 6 ∨ i = 7 := by omega
    rcases this with rfl | rfl | rfl | rfl | rfl | rfl | rfl | rfl <;> rfl
  · rw [upd_size, hgs]; omega

theorem fn_of {f : Nat} {args : List Value} {K : Value → HPred} {H : Hp} (h : callF Tryz.prog f args K H) : callV Tryz.prog (fnV f) args K H := by
  have : callV Tryz.prog (fnV f) args K = callF Tryz.prog f args K := by
    simp only [callV, List.nil_append, List.append_nil]
  rw [this]; exact h
theorem tw_of {q : Nat} {args : List Value} {K : Value → HPred} {H : Hp} (h : callF Tryz.prog 215 (args ++ [.pointer (some ⟨q, 0, none⟩)]) K H) : callV Tryz.prog (twoV q) args K H := by
  have : callV Tryz.prog (twoV q) args K = callF Tryz.prog 215 (args ++ [.pointer (some ⟨q, 0, none⟩)]) K := by
    simp only [callV, List.nil_append]
  rw [this]; exact h
/-- What an op does, by the table. -/
theorem op_ok {H : Hp} {p : Nat} {m : MS} {bk : Option Nat} {op arg n : Int} {D : Nat} {v : Value} {K : Value → HPred} (h : MAt H p m bk) (hmax : m.st.length < 2 ^ 19) (hm : mayP op arg n)
    (hd : DoersAt H D) (hdp : p < D ∨ D + 8 < p) (hdb : ∀ b, bk = some b → b < D ∨ D + 8 < b) (hv : (doerA D)[op.toNat]? = some v)
    (hk : ∀ H' bk', MAt H' p (stepP op arg m) bk' → Own1 H H' p bk bk' → K (.tuple #[]) H') :
    callV Tryz.prog v [.pointer (some ⟨p, 0, none⟩), .int .i64 arg] K H := by
  have ho : op = 1 ∨ op = 2 ∨ op = 3 ∨ (4 ≤ op ∧ op ≤ 11) ∨ op = 12 ∨ op = 13 ∨ op = 14 ∨ op = 15 ∨ op = 16 ∨ op = 17 ∨ op = 18 ∨ op = 19 ∨ op = 20 ∨ op = 21 ∨ op = 22 := by unfold mayP at hm; omega
  rcases ho with rfl | rfl | rfl | ho | rfl | rfl | rfl | rfl | rfl | rfl | rfl | rfl | rfl | rfl | rfl
  case inr.inr.inr.inl =>
    obtain ⟨i, hi, rfl⟩ : ∃ i : Nat, i < 8 ∧ op = 4 + (i : Int) := ⟨(op - 4).toNat, by omega, by omega⟩
    have e : v = twoV (D + 1 + i) := by
      have hi' : i = 0 ∨ i = 1 ∨ i = 2 ∨ i = 3 ∨ i = 4 ∨ i = 5 ∨ i = 6 ∨ i = 7 := by omega
      rcases hi' with rfl | rfl | rfl | rfl | rfl | rfl | rfl | rfl <;> exact (Option.some.inj hv).symm
    rw [e]
    refine tw_of (op_two (q := 0) (n := 0) h hmax ho (hd i hi) (by omega) ?_ hk)
    intro e'
    have := hdb _ e'
    omega
  all_goals cases hv
  · exact fn_of (op1 h hmax hm hk)
  · exact fn_of (op2 h hmax hm hk)
  · exact fn_of (op3 h hmax hm hk)
  · exact fn_of (op12 h hmax hm hk)
  · exact fn_of (op13 h hmax hm hk)
  · exact fn_of (op14 h hmax hm hk)
  · exact fn_of (op15 h hmax hm hk)
  · exact fn_of (op16 h hmax hm hk)
  · exact fn_of (op17 h hmax hm hk)
  · exact fn_of (op18 h hmax hm hk)
  · exact fn_of (op19 h hmax hm hk)
  · exact fn_of (op20 h hmax hm hk)
  · exact fn_of (op21 h hmax hm hk)
  · exact fn_of (op22 h hmax hm hk)

end Go.Proofs.YtnnheophehnioaaGreat
namespace Go.Proofs.YtnnheophehnioaaGreat
open Go.Sx Go.Proofs Go.Gm
set_option maxRecDepth 100000

def blkOf : Value → Option Nat
  | .slice (some a) _ _ => some a.block
  | _ => none
theorem _root_.Go.Sx.Lies.ext {S : Nat → Prop} {H H' : Hp} {v : Value} {E : TypeId} {sz n : Nat} {cs : List Value} (h : Lies H v E sz n cs) (hx : Ext S H H') (hn : ∀ b, blkOf v = some b → ¬ S b) : Lies H' v E sz n cs := by
  refine ⟨h.len, ?_⟩
  rcases h.is with h1 | ⟨b, o, c, cap, T, fz, rfl, hb, h2⟩
  · exact .inl h1
  · exact .inr ⟨b, o, c, cap, T, fz, rfl, hx.blk hb (hn b rfl), h2⟩
theorem _root_.Go.Sx.Lies.shape {H : Hp} {v : Value} {E : TypeId} {sz n : Nat} {cs : List Value} (h : Lies H v E sz n cs) : ∃ a cap, v = .slice a n cap := by
  rcases h.is with ⟨e, cap, rfl⟩ | ⟨b, o, c, cap, T, fz, rfl, _⟩
  · rw [e]; exact ⟨_, _, rfl⟩
  · exact ⟨_, _, rfl⟩
theorem _root_.Go.Sx.Lies.blk_lt {H : Hp} {v : Value} {E : TypeId} {sz n : Nat} {cs : List Value} (h : Lies H v E sz n cs) : ∀ b, blkOf v = some b → b < H.size := by
  intro b' e
  rcases h.is with ⟨_, cap, rfl⟩ | ⟨b, o, c, cap, T, fz, rfl, hb, _⟩
  · cases e
  · cases e; exact Go.Sx.blk_lt hb
/-- An instruction's cells. -/
def encI (x : Int × Int) : List Value := [.int .i64 x.1, .int .i64 x.2]
theorem encI_len (x : Int × Int) : (encI x).length = 2 := rfl

theorem Own1.keep {H H' : Hp} {p : Nat} {bk bk' : Option Nat} (h : Own1 H H' p bk bk') {b : Nat} (hb : b < H.size) (hne : bk ≠ some b) : bk' ≠ some b := by
  rcases h.bk with e | ⟨b', e, hb'⟩
  · rw [e]; exact hne
  · rw [e]; intro e'; cases e'; omega

theorem run_done {p x3 D : Nat} {code : List (Int × Int)} {cv : Value} {cap fuel0 f : Int} {K : Value → HPred} {m : MS} {H : Hp} {bk : Option Nat} (h : MAt H p m bk)
    (hc : Lies H cv 101 2 code.length (code.flatMap encI)) (hx3 : H[x3]? = some (.cells #[cv, .int .i64 cap, .int .i64 fuel0] 35 (0, 0))) (c : ¬ (m.at' < code.length ∧ m.ended = false)) (hk : True → K (.int .i64 0) H) :
    f183.at3 K (.pointer (some ⟨p, 0, none⟩)) (.pointer (some ⟨x3, 0, none⟩)) (.pointer (some ⟨D, 0, none⟩)) (.int .i64 f) H := by
  refine f183.b3_ok ?_
  obtain ⟨a, ccap, rfl⟩ := hc.shape
  have rc := fun K => rd_blk (K := K) (o := 0 + 0) (v := .slice a code.length ccap) hx3 rfl
  have hl := h.ok.len
  by_cases c1 : m.at' < code.length
  · have c2 : m.ended = true := by cases he : m.ended; exact absurd ⟨c1, he⟩ c; rfl
    simp only [f183.b3, nilV_ptr, offV_ptr, opt_some, rc, h.rd (o := 0 + 23) (fun v => machA_hi hl 6), len_slice Tryz.underlying33, int_lss, decide_eq_true c1, grd_tt, h.rd (o := 0 + 24) (fun v => machA_hi hl 7), c2, un_not, Bool.not_true,
      pick_true, cnd_false]
    exact hk trivial
  · simp only [f183.b3, nilV_ptr, offV_ptr, opt_some, rc, h.rd (o := 0 + 23) (fun v => machA_hi hl 6), len_slice Tryz.underlying33, int_lss, decide_eq_false c1, grd_ft, pick_false, cnd_false]
    exact hk trivial
theorem run_loop {p x3 D Dt : Nat} {code : List (Int × Int)} {cv : Value} {cap : Int} {fuel0 : Int} {K : Value → HPred} (hcode : ∀ x ∈ code, mayP x.1 x.2 code.length) (hclen : code.length ≤ 256) : ∀ (f : Nat) (m : MS) (H : Hp) (bk : Option Nat), f < 2 ^ 40 → MAt H p m bk → m.bad = false → m.st.length ≤ 32 → 0 ≤ m.at' → m.at' ≤ code.length →
    Lies H cv 101 2 code.length (code.flatMap encI) → (∀ b, blkOf cv = some b → b ≠ p ∧ bk ≠ some b) → H[x3]? = some (.cells #[cv, .int .i64 cap, .int .i64 fuel0] 35 (0, 0)) → x3 ≠ p → bk ≠ some x3 →
    Dt ≠ p → bk ≠ some Dt → H[Dt]? = some (.cells (doerA D) 267 (0, 0)) → DoersAt H D → (p < D ∨ D + 8 < p) → (∀ b, bk = some b → b < D ∨ D + 8 < b) → D + 8 < H.size →
    (∀ H' bk' m', runP code f m = some m' → MAt H' p m' bk' → Own1 H H' p bk bk' → K (.int .i64 0) H') →
    (∀ H' bk' m' e, runP code f m = none → e ≠ 0 → MAt H' p m' bk' → Own1 H H' p bk bk' → K (.int .i64 e) H') →
    f183.at3 K (.pointer (some ⟨p, 0, none⟩)) (.pointer (some ⟨x3, 0, none⟩)) (.pointer (some ⟨Dt, 0, none⟩)) (.int .i64 f) H := by
  intro f
  induction f with
  | zero =>
    intro m H bk hf h hbad hst h0 h1 hc hcb hx3 hx3p hx3b hDtp hDtb hD hd hdp hdb hDs hk hkn
    by_cases c : m.at' < code.length ∧ m.ended = false
    · refine f183.b3_ok ?_
      obtain ⟨a, ccap, rfl⟩ := hc.shape
      have rc := fun K => rd_blk (K := K) (o := 0 + 0) (v := .slice a code.length ccap) hx3 rfl
      have hl := h.ok.len
      simp only [f183.b3, nilV_ptr, offV_ptr, opt_some, rc, h.rd (o := 0 + 23) (fun v => machA_hi hl 6), len_slice Tryz.underlying33, int_lss, decide_eq_true c.1, grd_tt, h.rd (o := 0 + 24) (fun v => machA_hi hl 7), c.2, un_not, Bool.not_false,
        pick_true, cnd_true, int_eql]
      refine cnd_split (fun _ => ?_) (fun e => by simp at e)
      exact hkn H bk m 10 (by unfold runP; rw [if_pos c]) (by decide) h (Own1.refl _ _ _)
    · exact run_done h hc hx3 c (fun _ => hk H bk m (by unfold runP; rw [if_neg c]) h (Own1.refl _ _ _))
  | succ f ih =>
    intro m H bk hf h hbad hst h0 h1 hc hcb hx3 hx3p hx3b hDtp hDtb hD hd hdp hdb hDs hk hkn
    by_cases c : m.at' < code.length ∧ m.ended = false
    · refine f183.b3_ok ?_
      have hl := h.ok.len
      have hai : code[m.at'.toNat]? = some (code.getD m.at'.toNat (0, 0)) := by
        rw [List.getD_eq_getElem?_getD, List.getElem?_eq_getElem (by omega)]; rfl
      generalize hxe : code.getD m.at'.toNat (0, 0) = x at hai
      have hmay := hcode x (List.mem_of_getElem? hai)
      obtain ⟨b, o, cc, ccap, T, fz, rfl, hb, hil, hsz, hg⟩ := hc.at encI_len hai
      have g0 := hg 0 (by omega)
      have g1 := hg 1 (by omega)
      have hcb' := hcb b rfl
      have rc := fun K => rd_blk (K := K) (o := 0 + 0) (v := .slice (some ⟨b, o, none⟩) code.length ccap) hx3 rfl
      have hnf : ¬ ((f + 1 : Nat) : Int) = 0 := by omega
      have ecl : cc.extract (o + m.at'.toNat * 2) (o + m.at'.toNat * 2 + 2) = #[.int .i64 x.1, .int .i64 x.2] := by
        apply Array.ext_getElem?
        intro k
        rw [Array.getElem?_extract]
        match k with
        | 0 => rw [if_pos (by omega)]; exact g0
        | 1 => rw [if_pos (by omega)]; exact g1
        | k + 2 => rw [if_neg (by omega)]; simp
      have rs : ∀ K : Value → HPred, rd (cellsP (.pointer (some ⟨b, o + m.at'.toNat * 2, none⟩)) 2) K H = K (.agg #[.int .i64 x.1, .int .i64 x.2]) H := by
        intro K
        rw [rds_blk hb (by omega), ecl]
      simp only [f183.b3, nilV_ptr, offV_ptr, opt_some, rc, h.rd (o := 0 + 23) (fun v => machA_hi hl 6), len_slice Tryz.underlying33, int_lss, decide_eq_true c.1, grd_tt, h.rd (o := 0 + 24) (fun v => machA_hi hl 7), c.2, un_not, Bool.not_false,
        pick_true, cnd_true, int_eql, decide_eq_false hnf, cnd_false, idxS_eq h0 c.1, rs, newC_eq, chk_eq]
      have hx := ext_push none' H (.cells #[.int .i64 0, .int .i64 0] 101)
      have hq := push_new H (.cells #[.int .i64 0, .int .i64 0] 101)
      generalize hG : H.push (.cells #[.int .i64 0, .int .i64 0] 101) = G at hx hq
      have hGs : G.size = H.size + 1 := by rw [← hG]; simp
      have hG0 := h.ext0 hx
      have hx3G := hx.blk hx3 id
      have hbG := hx.blk hb id
      refine ⟨by rw [cells_blk hbG (by omega), ecl], ?_, ?_, ?_⟩
      · obtain ⟨v, e1, _⟩ := hG0.blk
        rw [cellP_blk e1]; exact machA_hi hl 6
      · rw [cellP_blk hx3G]; rfl
      have hpsz : p < H.size := by obtain ⟨v, e1, _⟩ := h.blk; exact blk_lt e1
      rw [stA_all (n := 2) (cs := #[.int .i64 x.1, .int .i64 x.2]) hq rfl rfl (by intro v hv; simp at hv; rcases hv with rfl | rfl <;> rfl)]
      have hxu : Ext0 H (upd G H.size (.cells #[.int .i64 x.1, .int .i64 x.2] 101 (0, 0))) := hx.trans (ext_upd _ _ _) fun b hb e => by
        rcases e with e | e
        · exact e
        · omega
      have hqu := upd_self (x := .cells #[.int .i64 x.1, .int .i64 x.2] 101 (0, 0)) hq
      generalize hU : upd G H.size (.cells #[.int .i64 x.1, .int .i64 x.2] 101 (0, 0)) = U at hxu hqu
      have hUs : U.size = H.size + 1 := by rw [← hU, upd_size, hGs]
      have hu := h.ext0 hxu
      have ea : IntKind.i64.wrap (m.at' + 1) = m.at' + 1 := wrap64_id (by omega) (by omega)
      simp only [hu.rd (o := 0 + 23) (fun v => machA_hi hl 6), int_add, ea, opt_some]
      refine hu.put (m' := { m with at' := m.at' + 1 }) (o := 0 + 23) rfl ⟨h.ok.len, h.ok.cells, h.ok.st, h.ok.in0, h.ok.in1⟩ rfl (by omega) (fun v => machA_at hl _) ?_
      intro V hV oV
      have hqV := oV.ext.blk hqu (fun e => e.elim (by omega) (fun e => by
        obtain ⟨v, _, e2⟩ := h.blk
        rw [e] at e2
        have := e2.lt
        omega))
      have oHV : Own1 H V p bk bk := (Own1.of0 hxu).trans oV
      have hop : 1 ≤ x.1 ∧ x.1 ≤ 22 := by unfold mayP at hmay; omega
      have hDV := oHV.ext.blk hD (fun e => e.elim hDtp hDtb)
      have hdV : DoersAt V D := fun i hi => oHV.ext.blk (hd i hi) (fun e => e.elim (by omega) (fun e => by have := hdb _ e; omega))
      have hdsz : (doerA D).size = 23 := rfl
      obtain ⟨fv, hfv⟩ : ∃ fv, (doerA D)[x.1.toNat]? = some fv := ⟨_, Array.getElem?_eq_getElem (by omega)⟩
      have rq0 := fun K => rd_blk (K := K) (o := 0) (v := .int .i64 x.1) hqV rfl
      have rq1 := fun K => rd_blk (K := K) (o := 0 + 1) (v := .int .i64 x.2) hqV rfl
      have rD := fun K => rd_blk (K := K) (o := 0 + x.1.toNat * 1) (v := fv) hDV (by rw [show 0 + x.1.toNat * 1 = x.1.toNat by omega]; exact hfv)
      simp only [rq0, idxA_eq (show 0 ≤ x.1 by omega) (show x.1 < (23 : Nat) by omega), opt_some, rD, rq1]
      refine op_ok hV (by simpa using by omega) hmay hdV hdp hdb hfv ?_
      intro W bkW hW oW
      have oHW := oHV.trans oW
      have hstep := step_at (m := { m with at' := m.at' + 1 }) hmay (by simpa using by omega) (by have := c.1; simpa using by omega)
      have hlenW := step_len (op := x.1) (arg := x.2) (m := { m with at' := m.at' + 1 }) hst
      generalize hm1 : stepP x.1 x.2 { m with at' := m.at' + 1 } = m1 at hW hstep hlenW
      have hrun : runP code (f + 1) m = if m1.bad then none else runP code f m1 := by
        rw [runP.eq_def]
        simp only [if_pos c, hxe, hm1]
      simp only [hW.rd (o := 0 + 25) (fun v => machA_hi hW.ok.len 8)]
      cases hbd : m1.bad with
      | true =>
        rw [hbd] at hrun
        simp only [cnd_true]
        exact hkn W bkW m1 11 hrun (by decide) hW oHW
      | false =>
        rw [hbd] at hrun
        have es : IntKind.i64.wrap (((f + 1 : Nat) : Int) - 1) = (f : Int) := by rw [wrap64_id (by omega) (by omega)]; omega
        simp only [cnd_false, int_sub, opt_some, es]
        have hkeep : ∀ {bb : Nat}, bb < H.size → bk ≠ some bb → bkW ≠ some bb := fun hb hne => oHW.keep hb hne
        refine ih m1 W bkW (by omega) hW hbd (hlenW hbd) hstep.1 hstep.2 (hc.ext oHW.ext ?_) ?_ (oHW.ext.blk hx3 (fun e => e.elim hx3p hx3b)) hx3p (hkeep (blk_lt hx3) hx3b) hDtp (hkeep (blk_lt hD) hDtb) ?_ ?_ hdp ?_ (by have := oHW.ext.size; omega) ?_ ?_
        · intro bb e e'; exact e'.elim (hcb bb e).1 (hcb bb e).2
        · intro bb e; exact ⟨(hcb bb e).1, hkeep (hc.blk_lt bb e) (hcb bb e).2⟩
        · exact oW.ext.blk hDV (fun e => e.elim hDtp hDtb)
        · exact fun i hi => oW.ext.blk (hdV i hi) (fun e => e.elim (by omega) (fun e => by have := hdb _ e; omega))
        · intro bb e
          rcases oHW.bk with e' | ⟨b', e', hb'⟩
          · rw [e'] at e; exact hdb bb e
          · rw [e'] at e; cases e; exact .inr (by omega)
        · intro H' bk' m' hr hm' ho'
          exact hk H' bk' m' (hrun.trans hr) hm' (oHW.trans ho')
        · intro H' bk' m' e hr he hm' ho'
          exact hkn H' bk' m' e (hrun.trans hr) he hm' (oHW.trans ho')
    · exact run_done h hc hx3 c (fun _ => hk H bk m (by unfold runP; rw [if_neg c]) h (Own1.refl _ _ _))

/-- run. -/
theorem run_ok {p : Nat} {code : List (Int × Int)} {cv : Value} {cap : Int} {f : Nat} {K : Value → HPred} {m : MS} {H : Hp} {bk : Option Nat} (hcode : ∀ x ∈ code, mayP x.1 x.2 code.length) (hclen : code.length ≤ 256) (hf : f < 2 ^ 40)
    (h : MAt H p m bk) (hbad : m.bad = false) (hst : m.st.length ≤ 32) (h0 : 0 ≤ m.at') (h1 : m.at' ≤ code.length) (hc : Lies H cv 101 2 code.length (code.flatMap encI)) (hcb : ∀ b, blkOf cv = some b → b ≠ p ∧ bk ≠ some b)
    (hk : ∀ H' bk' m', runP code f m = some m' → MAt H' p m' bk' → Own1 H H' p bk bk' → K (.int .i64 0) H')
    (hkn : ∀ H' bk' m' e, runP code f m = none → e ≠ 0 → MAt H' p m' bk' → Own1 H H' p bk bk' → K (.int .i64 e) H') :
    callF Tryz.prog 183 [.pointer (some ⟨p, 0, none⟩), .agg #[cv, .int .i64 cap, .int .i64 f]] K H := by
  refine f183.call ?_
  have hpsz : p < H.size := by obtain ⟨v, e1, _⟩ := h.blk; exact blk_lt e1
  have hbsz : ∀ b, bk = some b → b < H.size := fun b e => by
    obtain ⟨v, _, e2⟩ := h.blk
    rw [e] at e2; exact e2.lt
  simp only [f183.b, boxM_eq, Value.cells]
  have hx0 := ext_push none' H (.cells #[cv, .int .i64 cap, .int .i64 f] 35)
  have hg0 := push_new H (.cells #[cv, .int .i64 cap, .int .i64 f] 35)
  generalize hG : H.push (.cells #[cv, .int .i64 cap, .int .i64 f] 35) = G at hx0 hg0
  have hGs : G.size = H.size + 1 := by rw [← hG]; simp
  refine doers_ok ?_
  intro V hxV hdV hVs
  simp only [newC_eq]
  have hz := push_new V (.cells #[.nilFunc, .nilFunc, .nilFunc, .nilFunc, .nilFunc, .nilFunc, .nilFunc, .nilFunc, .nilFunc, .nilFunc, .nilFunc, .nilFunc, .nilFunc, .nilFunc, .nilFunc, .nilFunc, .nilFunc, .nilFunc, .nilFunc, .nilFunc, .nilFunc, .nilFunc, .nilFunc] 267)
  generalize hW : V.push (.cells #[.nilFunc, .nilFunc, .nilFunc, .nilFunc, .nilFunc, .nilFunc, .nilFunc, .nilFunc, .nilFunc, .nilFunc, .nilFunc, .nilFunc, .nilFunc, .nilFunc, .nilFunc, .nilFunc, .nilFunc, .nilFunc, .nilFunc, .nilFunc, .nilFunc, .nilFunc, .nilFunc] 267) = W at hz
  have hWs : W.size = V.size + 1 := by rw [← hW]; simp
  have hxW : Ext0 V W := by rw [← hW]; exact ext_push _ _ _
  rw [stA_all (n := 23) (cs := doerA G.size) hz rfl rfl (doer_one _)]
  have hT := upd_self (x := .cells (doerA G.size) 267 (0, 0)) hz
  have hxU : Ext0 H (upd W V.size (.cells (doerA G.size) 267 (0, 0))) := ((hx0.trans' hxV).trans' hxW).trans (ext_upd _ _ _) fun b hb e => by
    have := hxV.size
    rcases e with e | e
    · exact e
    · omega
  have hxVU : Ext0 V (upd W V.size (.cells (doerA G.size) 267 (0, 0))) := hxW.trans (ext_upd _ _ _) fun b hb e => by
    rcases e with e | e
    · exact e
    · omega
  have hUs : (upd W V.size (.cells (doerA G.size) 267 (0, 0))).size = V.size + 1 := by rw [upd_size, hWs]
  generalize hU : upd W V.size (.cells (doerA G.size) 267 (0, 0)) = U at hT hxU hxVU hUs
  have hgU := hxVU.blk (hxV.blk hg0)
  have rf := fun K => rd_blk (K := K) (o := 0 + 2) (v := .int .i64 f) hgU rfl
  simp only [offV_ptr, opt_some, rf]
  have hVsz := hxV.size
  refine run_loop (D := G.size) (cap := cap) (fuel0 := f) hcode hclen f m U bk hf (h.ext0 hxU) hbad hst h0 h1 (hc.ext hxU fun _ _ e => e) hcb hgU (by omega) (fun e => by have := hbsz _ e; omega) (by omega) (fun e => by have := hbsz _ e; omega) hT
    (fun i hi => hxVU.blk (hdV i hi)) (by omega) (fun b e => by have := hbsz b e; omega) (by omega) ?_ ?_
  · intro H' bk' m' hr hm ho
    exact hk H' bk' m' hr hm ((Own1.of0 hxU).trans ho)
  · intro H' bk' m' e hr he hm ho
    exact hkn H' bk' m' e hr he hm ((Own1.of0 hxU).trans ho)

end Go.Proofs.YtnnheophehnioaaGreat
namespace Go.Proofs.YtnnheophehnioaaGreat
open Go.Sx Go.Proofs Go.Gm
set_option maxRecDepth 100000

/-- A state's cells. -/
def stateA (s : St) : Array Value :=
  (.int .i64 s.frame :: (s.cells.map (fun x => Value.int .i32 x) ++ [.int .u32 s.seed, .bool s.over, .int .i64 s.winner])).toArray
section
variable {s : St}
theorem stateA_size (h : s.cells.length = 16) : (stateA s).size = 20 := by simp [stateA, h]
theorem stateA_cell (h : s.cells.length = 16) {i : Nat} (hi : i < 16) : (stateA s)[1 + i]? = some (.int .i32 (s.cells.getD i 0)) := by
  unfold stateA
  rw [List.getElem?_toArray, Nat.add_comm, List.getElem?_cons_succ, List.getElem?_append_left (by simp; omega), List.getElem?_map, List.getD_eq_getElem?_getD, List.getElem?_eq_getElem (by omega)]
  rfl
theorem stateA_hi (h : s.cells.length = 16) (k : Nat) : (stateA s)[17 + k]? = [Value.int .u32 s.seed, .bool s.over, .int .i64 s.winner][k]? := by
  unfold stateA
  rw [List.getElem?_toArray, show 17 + k = (16 + k) + 1 by omega, List.getElem?_cons_succ, List.getElem?_append_right (by simp; omega)]
  simp [h]
theorem stateA_0 : (stateA s)[0]? = some (.int .i64 s.frame) := rfl
theorem stateA_one : ∀ v ∈ (stateA s).toList, oneCell v = true := by
  intro v hv
  simp [stateA] at hv
  rcases hv with rfl | ⟨a, _, rfl⟩ | rfl | rfl | rfl <;> rfl
end
section
variable {s : St}
theorem stateA_seth (h : s.cells.length = 16) (k : Nat) (w : Value) : (stateA s).setIfInBounds (17 + k) w =
    (.int .i64 s.frame :: (s.cells.map (fun x => Value.int .i32 x) ++ [Value.int .u32 s.seed, .bool s.over, .int .i64 s.winner].set k w)).toArray := by
  unfold stateA
  apply Array.ext'
  rw [Array.toList_setIfInBounds]
  rw [show 17 + k = (16 + k) + 1 by omega, List.set_cons_succ, List.set_append_right _ _ (by simp; omega)]
  simp [h]
theorem stateA_frame (x : Int) : (stateA s).setIfInBounds 0 (.int .i64 x) = stateA { s with frame := x } := by
  unfold stateA
  apply Array.ext'
  rw [Array.toList_setIfInBounds]; rfl
theorem stateA_over (h : s.cells.length = 16) (x : Bool) : (stateA s).setIfInBounds 18 (.bool x) = stateA { s with over := x } := stateA_seth h 1 _
theorem stateA_winner (h : s.cells.length = 16) (x : Int) : (stateA s).setIfInBounds 19 (.int .i64 x) = stateA { s with winner := x } := stateA_seth h 2 _
theorem mach_state {m : MS} {v : Value} (h : m.cells.length = 16) : (machA m v).extract 0 (0 + 20) = stateA m.toSt := by
  have e := extract_app0 (.int .i64 m.frame :: (m.cells.map (fun x => Value.int .i32 x) ++ [.int .u32 m.seed, .bool m.over, .int .i64 m.winner])) [.int .u16 m.in0, .int .u16 m.in1, v, .int .i64 m.at', .bool m.ended, .bool m.bad]
  have hl : (Value.int .i64 m.frame :: (m.cells.map (fun x => Value.int .i32 x) ++ [.int .u32 m.seed, .bool m.over, .int .i64 m.winner])).length = 0 + 20 := by simp [h]
  rw [hl, List.cons_append, List.append_assoc] at e
  exact e
theorem over_state {m : MS} {v : Value} (h : m.cells.length = 16) (hs : s.cells.length = 16) : (over' (machA m v) 0 (stateA s).toList) = machA { m with frame := s.frame, cells := s.cells, seed := s.seed, over := s.over, winner := s.winner } v := by
  have e := over'_app0 (vs := (stateA s).toList) (l2 := .int .i64 m.frame :: (m.cells.map (fun x => Value.int .i32 x) ++ [.int .u32 m.seed, .bool m.over, .int .i64 m.winner])) (l3 := [.int .u16 m.in0, .int .u16 m.in1, v, .int .i64 m.at', .bool m.ended, .bool m.bad]) (by simp [stateA, h, hs])
  rw [List.cons_append, List.append_assoc] at e
  refine e.trans ?_
  simp [stateA, machA]
end
/-- isState. -/
theorem is_ok {s : St} (h : s.cells.length = 16) {K : Value → HPred} {H : Hp} (hk : ∀ H' t, (t = true ↔ isP s) → Ext0 H H' → K (.bool t) H') : callF Tryz.prog 182 [.agg (stateA s)] K H := by
  refine f182.call ?_
  have hb := push_new H (.cells (stateA s) 91)
  have hx := ext_push none' H (.cells (stateA s) 91)
  simp only [f182.b, boxM_eq, Value.cells]
  generalize H.push (.cells (stateA s) 91) = G at hb hx
  have r0 := fun K => rd_blk (K := K) (o := 0 + 0) (v := .int .i64 s.frame) hb rfl
  have r18 := fun K => rd_blk (K := K) (o := 0 + 18) hb (stateA_hi h 1)
  have r19 := fun K => rd_blk (K := K) (o := 0 + 19) hb (stateA_hi h 2)
  have fin : ∀ t, (t = true ↔ isP s) → K (.bool t) G := fun t e => hk G t e hx
  unfold isP at fin
  by_cases c1 : s.frame ≥ 0
  · by_cases c2 : s.frame ≤ 600
    · by_cases c3 : s.winner ≥ 0
      · by_cases c4 : s.winner ≤ 2
        · cases c5 : s.over with
          | true =>
            simp only [offV_ptr, opt_some, r0, int_geq, int_leq, decide_eq_true c1, decide_eq_true c2, grd_tt, pick_true, r19, decide_eq_true c3, decide_eq_true c4, r18, c5, grd_tf, grd_u]
            exact fin true (by simp [c5]; omega)
          | false =>
            simp only [offV_ptr, opt_some, r0, int_geq, int_leq, int_eql, decide_eq_true c1, decide_eq_true c2, grd_tt, pick_true, pick_false, r19, decide_eq_true c3, decide_eq_true c4, r18, c5, grd_ff, grd_u]
            exact fin _ (by simp [c5]; omega)
        · simp only [offV_ptr, opt_some, r0, int_geq, int_leq, decide_eq_true c1, decide_eq_true c2, grd_tt, pick_true, pick_false, r19, decide_eq_true c3, decide_eq_false c4, grd_ft, grd_u]
          exact fin false (by simp; omega)
      · simp only [offV_ptr, opt_some, r0, int_geq, int_leq, decide_eq_true c1, decide_eq_true c2, grd_tt, pick_true, pick_false, r19, decide_eq_false c3, grd_ft, grd_u]
        exact fin false (by simp; omega)
    · simp only [offV_ptr, opt_some, r0, int_geq, int_leq, decide_eq_true c1, decide_eq_false c2, grd_tt, pick_true, pick_false, grd_ft, grd_u]
      exact fin false (by simp; omega)
  · simp only [offV_ptr, opt_some, r0, int_geq, int_leq, decide_eq_false c1, pick_true, pick_false, grd_ft, grd_u]
    exact fin false (by simp; omega)

theorem bld_start (a : Int) : pureRun Tryz.prog (Instr.build 91 #[(2, .int .u32 a)]) = some (.agg (stateA ⟨0, List.replicate 16 0, a, false, 0⟩)) := by kernel_rfl
/-- Start. -/
theorem start_ok {seed : Int} (h0 : 0 ≤ seed) {K : Value → HPred} {H : Hp} (hk : ∀ H', Ext0 H H' → K (.agg (stateA (startP seed))) H') : callF Tryz.prog 27 [.int .u32 seed] K H := by
  refine f27.call ?_
  simp only [f27.b, newC_eq, int_max, opt_some, bld_start]
  have hz := push_new H (.cells #[(.int .i64 0), (.int .i32 0), (.int .i32 0), (.int .i32 0), (.int .i32 0), (.int .i32 0), (.int .i32 0), (.int .i32 0), (.int .i32 0), (.int .i32 0), (.int .i32 0), (.int .i32 0), (.int .i32 0), (.int .i32 0), (.int .i32 0), (.int .i32 0), (.int .i32 0), (.int .u32 0), (.bool false), (.int .i64 0)] 91)
  have e : (if seed > 1 then seed else 1) = if seed = 0 then 1 else seed := by repeat' split <;> omega
  rw [e, stA_all (n := 20) (cs := stateA ⟨0, List.replicate 16 0, if seed = 0 then 1 else seed, false, 0⟩) hz rfl rfl stateA_one, rds_all (n := 20) (c := stateA ⟨0, List.replicate 16 0, if seed = 0 then 1 else seed, false, 0⟩) (upd_self hz) rfl]
  refine hk _ ((ext_push none' _ _).trans (ext_upd _ _ _) fun b hb e => ?_)
  rcases e with e | e
  · exact e
  · omega

end Go.Proofs.YtnnheophehnioaaGreat
namespace Go.Proofs.YtnnheophehnioaaGreat
open Go.Sx Go.Proofs Go.Gm
set_option maxRecDepth 100000

abbrev upV (q : Nat) : Value := .func (.func 174) #[] #[.pointer (some ⟨q, 0, none⟩)]
/-- The table of notes; the bounds lie behind b. -/
def noteA (b : Nat) : Array Value := #[.string { data := #[] }, .bool false, .nilFunc, .string { data := #[112, 117, 115, 104] }, .bool true, fnV 150, .string { data := #[108, 111, 97, 100] }, .bool true, upV (b + 2), .string { data := #[115, 116, 111, 114, 101] }, .bool true, upV (b + 3), .string { data := #[97, 100, 100] }, .bool false, upV (b + 1), .string { data := #[115, 117, 98] }, .bool false, upV (b + 1), .string { data := #[109, 117, 108] }, .bool false, upV (b + 1), .string { data := #[100, 105, 118] }, .bool false, upV (b + 1), .string { data := #[109, 105, 110] }, .bool false, upV (b + 1), .string { data := #[109, 97, 120] }, .bool false, upV (b + 1), .string { data := #[108, 101, 115, 115] }, .bool false, upV (b + 1), .string { data := #[115, 97, 109, 101] }, .bool false, upV (b + 1), .string { data := #[110, 111, 116] }, .bool false, upV (b + 1), .string { data := #[100, 117, 112] }, .bool false, upV (b + 1), .string { data := #[115, 119, 97, 112] }, .bool false, upV (b + 1), .string { data := #[100, 114, 111, 112] }, .bool false, upV (b + 1), .string { data := #[105, 110] }, .bool true, upV (b + 4), .string { data := #[102, 114, 97, 109, 101] }, .bool false, upV (b + 1), .string { data := #[106, 117, 109, 112] }, .bool true, fnV 151, .string { data := #[122, 101, 114, 111] }, .bool true, fnV 151, .string { data := #[119, 105, 110] }, .bool true, upV (b + 5), .string { data := #[114, 97, 110, 100] }, .bool false, upV (b + 1), .string { data := #[104, 97, 108, 116] }, .bool false, upV (b + 1)]
theorem bld_note (s : ByteArray) (t : Bool) (f : Go.Fn) (x y : Array Value) : pureRun Tryz.prog (Instr.build 188 #[(0, .string s), (1, .bool t), (2, .func f x y)]) = some (.agg #[.string s, .bool t, .func f x y]) := by kernel_rfl
theorem bld_notes (b : Nat) : pureRun Tryz.prog (Instr.build 189 #[(1, .agg #[.string { data := #[112, 117, 115, 104] }, .bool true, fnV 150]), (2, .agg #[.string { data := #[108, 111, 97, 100] }, .bool true, upV (b + 2)]), (3, .agg #[.string { data := #[115, 116, 111, 114, 101] }, .bool true, upV (b + 3)]), (4, .agg #[.string { data := #[97, 100, 100] }, .bool false, upV (b + 1)]), (5, .agg #[.string { data := #[115, 117, 98] }, .bool false, upV (b + 1)]), (6, .agg #[.string { data := #[109, 117, 108] }, .bool false, upV (b + 1)]), (7, .agg #[.string { data := #[100, 105, 118] }, .bool false, upV (b + 1)]), (8, .agg #[.string { data := #[109, 105, 110] }, .bool false, upV (b + 1)]), (9, .agg #[.string { data := #[109, 97, 120] }, .bool false, upV (b + 1)]), (10, .agg #[.string { data := #[108, 101, 115, 115] }, .bool false, upV (b + 1)]), (11, .agg #[.string { data := #[115, 97, 109, 101] }, .bool false, upV (b + 1)]), (12, .agg #[.string { data := #[110, 111, 116] }, .bool false, upV (b + 1)]), (13, .agg #[.string { data := #[100, 117, 112] }, .bool false, upV (b + 1)]), (14, .agg #[.string { data := #[115, 119, 97, 112] }, .bool false, upV (b + 1)]), (15, .agg #[.string { data := #[100, 114, 111, 112] }, .bool false, upV (b + 1)]), (16, .agg #[.string { data := #[105, 110] }, .bool true, upV (b + 4)]), (17, .agg #[.string { data := #[102, 114, 97, 109, 101] }, .bool false, upV (b + 1)]), (18, .agg #[.string { data := #[106, 117, 109, 112] }, .bool true, fnV 151]), (19, .agg #[.string { data := #[122, 101, 114, 111] }, .bool true, fnV 151]), (20, .agg #[.string { data := #[119, 105, 110] }, .bool true, upV (b + 5)]), (21, .agg #[.string { data := #[114, 97, 110, 100] }, .bool false, upV (b + 1)]), (22, .agg #[.string { data := #[104, 97, 108, 116] }, .bool false, upV (b + 1)])]) = some (.agg (noteA b)) := by kernel_rfl

theorem upto_box {K : Value → HPred} {H : Hp} {n : Int} (hk : K (upV H.size) (H.push (.cells #[.int .i64 n] 3))) : callF Tryz.prog 149 [.int .i64 n] K H := by
  refine f149.call ?_
  simp only [f149.b, boxM_eq, Value.cells]
  exact hk
theorem note_one (b : Nat) : ∀ v ∈ (noteA b).toList, oneCell v = true := by
  have : (noteA b).toList.all (fun v => oneCell v) = true := rfl
  intro v hv
  exact List.all_eq_true.1 this v hv
/-- The bounds of the table lie behind b. -/
def NotesAt (H : Hp) (b : Nat) : Prop := ∀ i, i < 5 → H[b + 1 + i]? = some (.cells #[.int .i64 ([0, 15, 15, 1, 2].getD i 0)] 3 (0, 0))
theorem table_ok {K : Value → HPred} {H : Hp} (hk : ∀ H', Ext0 H H' → NotesAt H' H.size → H.size + 5 < H'.size → K (.agg (noteA H.size)) H') : callF Tryz.prog 92 [] K H := by
  refine f92.call ?_
  unfold f92.b
  rw [newC_eq]
  generalize hH1 : H.push (Obj.cells _ _ _) = H1
  have hs1 : H1.size = H.size + 1 := by rw [← hH1]; simp
  obtain ⟨c, hc, hcs⟩ : ∃ c, H1[H.size]? = some (.cells c 189 (0, 0)) ∧ c.size = 69 := ⟨_, by rw [← hH1]; exact push_new _ _, rfl⟩
  have hx0 : Ext0 H H1 := by rw [← hH1]; exact ext_push _ _ _
  clear hH1
  refine upto_box ?_
  simp only [bld_note, opt_some]
  refine upto_box ?_
  simp only [bld_note, opt_some]
  refine upto_box ?_
  simp only [bld_note, opt_some]
  refine upto_box ?_
  simp only [bld_note, opt_some]
  refine upto_box ?_
  simp only [bld_note, opt_some, Array.size_push, hs1, Nat.add_assoc, Nat.reduceAdd]
  rw [bld_notes H.size]
  simp only [opt_some]
  generalize hG : (((((H1.push _).push _).push _).push _).push _ : Hp) = G
  have hgs : G.size = H.size + 6 := by rw [← hG]; simp [hs1]
  have hx1 : Ext0 H1 G := by
    rw [← hG]
    exact (((((ext_push _ _ _).trans' (ext_push _ _ _)).trans' (ext_push _ _ _)).trans' (ext_push _ _ _)).trans' (ext_push _ _ _))
  have hz := hx1.blk hc
  rw [stA_all (n := 69) (cs := noteA H.size) hz rfl hcs (note_one _), rds_all (n := 69) (c := noteA H.size) (upd_self hz) rfl]
  refine hk _ ?_ ?_ ?_
  · exact (hx0.trans' hx1).trans (ext_upd _ _ _) fun b hb e => by
      rcases e with e | e
      · exact e
      · omega
  · intro i hi
    have hl : G = H1 ++ #[Obj.cells #[.int .i64 0] 3, Obj.cells #[.int .i64 15] 3, Obj.cells #[.int .i64 15] 3, Obj.cells #[.int .i64 1] 3, Obj.cells #[.int .i64 2] 3] := by rw [← hG]; apply Array.ext'; simp
    rw [upd_ne (by omega), hl, Array.getElem?_append_right (by omega), hs1, show H.size + 1 + i - (H.size + 1) = i by omega]
    have : i = 0 ∨ i = 1 ∨ i = 2 ∨ i = 3 ∨ i = 4 := by omega
    rcases this with rfl | rfl | rfl | rfl | rfl <;> rfl
  · rw [upd_size, hgs]; omega

/-! ## Whether an instruction may be -/
section
variable {K : Value → HPred} {H : Hp} {arg n : Int}
theorem number_ok (hk : ∀ t, (t = true ↔ R32 arg) → K (.bool t) H) : callF Tryz.prog 150 [.int .i64 arg, .int .i64 n] K H := by
  refine f150.call ?_
  unfold R32 at hk
  by_cases c1 : arg ≥ -2147483648
  · simp only [f150.b, int_geq, int_leq, opt_some, decide_eq_true c1, grd_tt, pick_true]
    exact hk _ (by simp; omega)
  · simp only [f150.b, int_geq, opt_some, decide_eq_false c1, grd_ft, grd_u, pick_false]
    exact hk _ (by simp; omega)
theorem place_ok (hk : ∀ t, (t = true ↔ 0 ≤ arg ∧ arg ≤ n) → K (.bool t) H) : callF Tryz.prog 151 [.int .i64 arg, .int .i64 n] K H := by
  refine f151.call ?_
  by_cases c1 : arg ≥ 0
  · simp only [f151.b, int_geq, int_leq, opt_some, decide_eq_true c1, grd_tt, pick_true]
    exact hk _ (by simp; omega)
  · simp only [f151.b, int_geq, opt_some, decide_eq_false c1, grd_ft, grd_u, pick_false]
    exact hk _ (by simp; omega)
theorem upto_ok {q : Nat} {most : Int} {T : TypeId} {fz : Nat × Nat} (hq : H[q]? = some (.cells #[.int .i64 most] T fz)) (hk : ∀ t, (t = true ↔ 0 ≤ arg ∧ arg ≤ most) → K (.bool t) H) :
    callV Tryz.prog (upV q) [.int .i64 arg, .int .i64 n] K H := by
  have : callV Tryz.prog (upV q) [.int .i64 arg, .int .i64 n] K = callF Tryz.prog 174 [.int .i64 arg, .int .i64 n, .pointer (some ⟨q, 0, none⟩)] K := by
    simp only [callV, List.nil_append]; rfl
  rw [this]
  refine f174.call ?_
  have r := fun K => rd_blk (K := K) (o := 0) (v := .int .i64 most) hq rfl
  by_cases c1 : arg ≥ 0
  · simp only [f174.b, int_geq, int_leq, opt_some, decide_eq_true c1, grd_tt, pick_true, r]
    exact hk _ (by simp; omega)
  · simp only [f174.b, int_geq, opt_some, decide_eq_false c1, grd_ft, grd_u, pick_false]
    exact hk _ (by simp; omega)
/-- What the table says of an instruction. -/
theorem may_ok {op : Int} {b : Nat} {v : Value} (ho : 1 ≤ op ∧ op ≤ 22) (hb : NotesAt H b) (hv : (noteA b)[op.toNat * 3 + 2]? = some v) (hk : ∀ t, (t = true ↔ mayP op arg n) → K (.bool t) H) :
    callV Tryz.prog v [.int .i64 arg, .int .i64 n] K H := by
  have ho' : op = 1 ∨ op = 2 ∨ op = 3 ∨ op = 4 ∨ op = 5 ∨ op = 6 ∨ op = 7 ∨ op = 8 ∨ op = 9 ∨ op = 10 ∨ op = 11 ∨ op = 12 ∨ op = 13 ∨ op = 14 ∨ op = 15 ∨ op = 16 ∨ op = 17 ∨ op = 18 ∨ op = 19 ∨ op = 20 ∨ op = 21 ∨ op = 22 := by omega
  have h0 := hb 0 (by omega)
  have h1 := hb 1 (by omega)
  have h2 := hb 2 (by omega)
  have h3 := hb 3 (by omega)
  have h4 := hb 4 (by omega)
  unfold mayP R32 at hk
  rcases ho' with rfl | rfl | rfl | rfl | rfl | rfl | rfl | rfl | rfl | rfl | rfl | rfl | rfl | rfl | rfl | rfl | rfl | rfl | rfl | rfl | rfl | rfl <;> cases hv
  case inl => exact fn_of (number_ok fun t e => hk t (by rw [e]; unfold R32; omega))
  case inr.inl => exact upto_ok h1 fun t e => hk t (by rw [e]; simp <;> omega)
  case inr.inr.inl => exact upto_ok h2 fun t e => hk t (by rw [e]; simp <;> omega)
  all_goals first
    | exact upto_ok h0 fun t e => hk t (by rw [e]; simp <;> omega)
    | exact upto_ok h3 fun t e => hk t (by rw [e]; simp <;> omega)
    | exact upto_ok h4 fun t e => hk t (by rw [e]; simp <;> omega)
    | exact fn_of (place_ok (arg := arg) (n := n) fun t e => hk t (by rw [e]; omega))
end

end Go.Proofs.YtnnheophehnioaaGreat
namespace Go.Proofs.YtnnheophehnioaaGreat
open Go.Sx Go.Proofs Go.Gm
set_option maxRecDepth 100000

theorem isop_ok {K : Value → HPred} {H : Hp} {op : Int} (hk : K (.bool (decide (1 ≤ op ∧ op ≤ 22))) H) : callF Tryz.prog 93 [.int .i64 op] K H := by
  refine f93.call ?_
  by_cases c1 : op ≥ 1
  · simp only [f93.b, int_geq, int_leq, opt_some, decide_eq_true c1, grd_tt, pick_true]
    have e : decide (1 ≤ op ∧ op ≤ 22) = decide (op ≤ 22) := by
      have : (1 ≤ op ∧ op ≤ 22) ↔ op ≤ 22 := by omega
      exact decide_eq_decide.2 this
    rw [e] at hk; exact hk
  · simp only [f93.b, int_geq, opt_some, decide_eq_false c1, grd_ft, grd_u, pick_false]
    have e : decide (1 ≤ op ∧ op ≤ 22) = false := decide_eq_false (by omega)
    rw [e] at hk; exact hk

open Classical in
/-- What Check answers. -/
noncomputable def codeE (code : List (Int × Int)) : Int := if code.length > 256 then 5 else if ∀ x ∈ code, mayP x.1 x.2 code.length then 0 else 3
theorem check_loop {q b : Nat} {code : List (Int × Int)} {cv : Value} {K : Value → HPred} (hlen : code.length ≤ 256) : ∀ (d i : Nat) (H : Hp), code.length = i + d → (∀ j x, j < i → code[j]? = some x → mayP x.1 x.2 code.length) →
    Lies H cv 101 2 code.length (code.flatMap encI) → H[q]? = some (.cells (noteA b) 189 (0, 0)) → NotesAt H b →
    (∀ H' k, Ext0 H H' → K (.tuple #[.int .i64 k, .int .i64 (codeE code)]) H') →
    f67.at5 K cv (.pointer (some ⟨q, 0, none⟩)) cv (.int .i64 code.length) (.int .i64 i) H := by
  intro d
  induction d with
  | zero =>
    intro i H hi hall hc hq hn hk
    refine f67.b5_ok ?_
    have hlt : ¬ (i : Int) < (code.length : Int) := by omega
    simp only [f67.b5, int_lss, opt_some, decide_eq_false hlt, cnd_false]
    have e : codeE code = 0 := by
      unfold codeE
      rw [if_neg (by omega), if_pos]
      intro x hx
      obtain ⟨j, hj, rfl⟩ := List.getElem_of_mem hx
      exact hall j _ (by omega) (List.getElem?_eq_getElem hj)
    have := hk H 0 (Ext.refl _ _)
    rw [e] at this; exact this
  | succ d ih =>
    intro i H hi hall hc hq hn hk
    refine f67.b5_ok ?_
    have hlt : (i : Int) < (code.length : Int) := by omega
    have hai : code[i]? = some code[i] := List.getElem?_eq_getElem (by omega)
    generalize hx : code[i] = x at hai
    have hc0 := hc
    obtain ⟨bb, o, cc, ccap, T, fz, rfl, hb, hil, hsz, hg⟩ := hc.at encI_len hai
    have g0 := hg 0 (by omega)
    have g1 := hg 1 (by omega)
    have ecl : cc.extract (o + i * 2) (o + i * 2 + 2) = #[.int .i64 x.1, .int .i64 x.2] := by
      apply Array.ext_getElem?
      intro k
      rw [Array.getElem?_extract]
      match k with
      | 0 => rw [if_pos (by omega)]; exact g0
      | 1 => rw [if_pos (by omega)]; exact g1
      | k + 2 => rw [if_neg (by omega)]; simp
    have ei : o + Int.toNat (i : Int) * 2 = o + i * 2 := by simp
    have rs : ∀ K : Value → HPred, rd (cellsP (.pointer (some ⟨bb, o + i * 2, none⟩)) 2) K H = K (.agg #[.int .i64 x.1, .int .i64 x.2]) H := by
      intro K
      rw [rds_blk hb (by omega), ecl]
    simp only [f67.b5, int_lss, opt_some, decide_eq_true hlt, cnd_true, idxS_eq (Int.natCast_nonneg i) hlt, ei, rs, newC_eq]
    have hx1 := ext_push none' H (.cells #[.int .i64 0, .int .i64 0] 101)
    have hz := push_new H (.cells #[.int .i64 0, .int .i64 0] 101)
    generalize H.push (.cells #[.int .i64 0, .int .i64 0] 101) = G at hx1 hz
    rw [stA_all (n := 2) (cs := #[.int .i64 x.1, .int .i64 x.2]) hz rfl rfl (by intro v hv; simp at hv; rcases hv with rfl | rfl <;> rfl)]
    have hxU : Ext0 H (upd G H.size (.cells #[.int .i64 x.1, .int .i64 x.2] 101 (0, 0))) := hx1.trans (ext_upd _ _ _) fun b hb e => by
      rcases e with e | e
      · exact e
      · omega
    have hqU := upd_self (x := .cells #[.int .i64 x.1, .int .i64 x.2] 101 (0, 0)) hz
    generalize upd G H.size (.cells #[.int .i64 x.1, .int .i64 x.2] 101 (0, 0)) = U at hxU hqU
    have rq0 := fun K => rd_blk (K := K) (o := 0 + 0) (v := .int .i64 x.1) hqU rfl
    have rq1 := fun K => rd_blk (K := K) (o := 0 + 1) (v := .int .i64 x.2) hqU rfl
    simp only [offV_ptr, opt_some, rq0]
    refine isop_ok ?_
    have hbad : ¬ mayP x.1 x.2 code.length → codeE code = 3 := fun hn => by
      unfold codeE
      rw [if_neg (by omega), if_neg]
      exact fun h => hn (h x (List.mem_of_getElem? hai))
    by_cases ho : 1 ≤ x.1 ∧ x.1 ≤ 22
    · have htU := hxU.blk hq
      have hnU : NotesAt U b := fun i hi => hxU.blk (hn i hi)
      obtain ⟨fv, hfv⟩ : ∃ fv, (noteA b)[x.1.toNat * 3 + 2]? = some fv := ⟨_, Array.getElem?_eq_getElem (by show _ < 69; omega)⟩
      have rt := fun K => rd_blk (K := K) (o := 0 + x.1.toNat * 3 + 2) (v := fv) htU (by rw [show 0 + x.1.toNat * 3 + 2 = x.1.toNat * 3 + 2 by omega]; exact hfv)
      simp only [decide_eq_true ho, un_not, Bool.not_true, opt_some, grd_ff, offV_ptr, rq0, rq1, idxA_eq (show 0 ≤ x.1 by omega) (show x.1 < (23 : Nat) by omega), rt, len_slice Tryz.underlying33]
      refine may_ok (n := code.length) ho hnU hfv ?_
      intro t ht
      cases t with
      | true =>
        have hm := ht.1 rfl
        have ea : IntKind.i64.wrap ((i : Int) + 1) = ((i + 1 : Nat) : Int) := by rw [wrap64_id (by omega) (by omega)]; omega
        simp only [un_not, Bool.not_true, opt_some, pick_false, cnd_false, int_add, ea]
        refine ih (i + 1) U (by omega) ?_ (hc0.ext hxU fun _ _ e => e) htU hnU fun H' k hx' => hk H' k (hxU.trans' hx')
        intro j y hj hy
        by_cases hji : j = i
        · subst hji; rw [hai] at hy; cases hy; exact hm
        · exact hall j y (by omega) hy
      | false =>
        have hm : ¬ mayP x.1 x.2 code.length := fun h => by have := ht.2 h; cases this
        simp only [un_not, Bool.not_false, opt_some, pick_false, cnd_true]
        have := hk U i hxU
        rw [hbad hm] at this; exact this
    · have hm : ¬ mayP x.1 x.2 code.length := fun h => ho (by unfold mayP at h; omega)
      simp only [decide_eq_false ho, un_not, Bool.not_false, opt_some, grd_tf, grd_u, pick_true, cnd_true]
      have := hk U i hxU
      rw [hbad hm] at this; exact this

/-- Check. -/
theorem check_ok {code : List (Int × Int)} {cv : Value} {K : Value → HPred} {H : Hp} (hc : Lies H cv 101 2 code.length (code.flatMap encI)) (hmax : code.length < 2 ^ 40)
    (hk : ∀ H' k, Ext0 H H' → K (.tuple #[.int .i64 k, .int .i64 (codeE code)]) H') : callF Tryz.prog 67 [cv] K H := by
  refine f67.call ?_
  obtain ⟨a, cap, rfl⟩ := hc.shape
  unfold f67.b
  simp only [len_slice Tryz.underlying33, opt_some, int_gtr]
  by_cases hl : code.length > 256
  · have hl' : (code.length : Int) > 256 := by omega
    simp only [decide_eq_true hl', cnd_true]
    have e : codeE code = 5 := by unfold codeE; rw [if_pos hl]
    have := hk H 0 (Ext.refl _ _)
    rw [e] at this; exact this
  · have hl' : ¬ (code.length : Int) > 256 := by omega
    simp only [decide_eq_false hl', cnd_false]
    refine table_ok ?_
    intro G hx hn hs
    rw [newC_eq]
    generalize hW : G.push (Obj.cells _ _ _) = W
    obtain ⟨c, hz, hcs⟩ : ∃ c, W[G.size]? = some (.cells c 189 (0, 0)) ∧ c.size = 69 := ⟨_, by rw [← hW]; exact push_new _ _, rfl⟩
    have hx2 : Ext0 G W := by rw [← hW]; exact ext_push _ _ _
    clear hW
    rw [stA_all (n := 69) (cs := noteA H.size) hz rfl hcs (note_one _)]
    have hxU : Ext0 G (upd W G.size (.cells (noteA H.size) 189 (0, 0))) := hx2.trans (ext_upd _ _ _) fun b hb e => by
      rcases e with e | e
      · exact e
      · omega
    exact check_loop (by omega) code.length 0 _ (by omega) (fun j x hj => by omega) (hc.ext (hx.trans' hxU) fun _ _ e => e) (upd_self hz) (fun i hi => hxU.blk (hn i hi)) fun H' k h' => hk H' k ((hx.trans' hxU).trans' h')

open Classical in
noncomputable def gameE (code : List (Int × Int)) (cap fuel : Int) : Int := if codeE code ≠ 0 then codeE code else if cap < 1 ∨ cap > 600 ∨ fuel < 1 ∨ fuel > 2000 then 1 else 0
/-- vm.Check. -/
theorem vcheck_ok {code : List (Int × Int)} {cv : Value} {cap fuel : Int} {K : Value → HPred} {H : Hp} (hc : Lies H cv 101 2 code.length (code.flatMap encI)) (hmax : code.length < 2 ^ 40)
    (hk : ∀ H', Ext0 H H' → K (.int .i64 (gameE code cap fuel)) H') : callF Tryz.prog 26 [.agg #[cv, .int .i64 cap, .int .i64 fuel]] K H := by
  refine f26.call ?_
  have hb := push_new H (.cells #[cv, .int .i64 cap, .int .i64 fuel] 35)
  have hx := ext_push none' H (.cells #[cv, .int .i64 cap, .int .i64 fuel] 35)
  simp only [f26.b, boxM_eq, Value.cells]
  generalize H.push (.cells #[cv, .int .i64 cap, .int .i64 fuel] 35) = G at hb hx
  have r0 := fun K => rd_blk (K := K) (o := 0 + 0) (v := cv) hb rfl
  simp only [offV_ptr, opt_some, r0]
  refine check_ok (hc.ext hx fun _ _ e => e) hmax ?_
  intro U k hxU
  have hbU := hxU.blk hb
  have r1 := fun K => rd_blk (K := K) (o := 0 + 1) (v := .int .i64 cap) hbU rfl
  have r2 := fun K => rd_blk (K := K) (o := 0 + 2) (v := .int .i64 fuel) hbU rfl
  have fin := hk U (hx.trans' hxU)
  unfold gameE at fin
  simp only [extV_tuple, List.getElem?_cons_zero, List.getElem?_cons_succ, opt_some, int_neq]
  by_cases c0 : codeE code = 0
  · rw [if_neg (by simpa using c0)] at fin
    simp only [decide_eq_true c0, Bool.not_true, cnd_false, offV_ptr, opt_some, r1, int_lss]
    by_cases c1 : cap < 1
    · rw [if_pos (.inl c1)] at fin
      simp only [decide_eq_true c1, grd_tf, grd_u, pick_true, opt_some, cnd_true]; exact fin
    simp only [decide_eq_false c1, grd_ff, offV_ptr, opt_some, r1, int_gtr, pick_false]
    by_cases c2 : cap > 600
    · rw [if_pos (.inr (.inl c2))] at fin
      simp only [decide_eq_true c2, grd_tf, grd_u, pick_true, opt_some, cnd_true]; exact fin
    simp only [decide_eq_false c2, grd_ff, offV_ptr, opt_some, r2, int_lss, pick_false]
    by_cases c3 : fuel < 1
    · rw [if_pos (.inr (.inr (.inl c3)))] at fin
      simp only [decide_eq_true c3, grd_tf, grd_u, pick_true, opt_some, cnd_true]; exact fin
    simp only [decide_eq_false c3, grd_ff, offV_ptr, opt_some, r2, int_gtr, pick_false]
    by_cases c4 : fuel > 2000
    · rw [if_pos (.inr (.inr (.inr c4)))] at fin
      simp only [decide_eq_true c4, cnd_true]; exact fin
    · rw [if_neg (by omega)] at fin
      simp only [decide_eq_false c4, cnd_false]; exact fin
  · rw [if_pos c0] at fin
    simp only [decide_eq_false c0, Bool.not_false, cnd_true]; exact fin

end Go.Proofs.YtnnheophehnioaaGreat
namespace Go.Gm

structure Thing where
  q : Nat
  id : Int
  tm : Int
  deriving Inhabited, DecidableEq

def Thing.lt (a b : Thing) : Bool := decide (a.tm < b.tm) || (decide (a.tm = b.tm) && decide (a.id < b.id))
def swapL (L : List Thing) (i j : Nat) : List Thing := (L.set i (L.getD j default)).set j (L.getD i default)
theorem swapL_length (L : List Thing) (i j : Nat) : (swapL L i j).length = L.length := by simp [swapL]
theorem swapL_get {L : List Thing} {i j k : Nat} {x y : Thing} (hi : L[i]? = some x) (hj : L[j]? = some y) :
    (swapL L i j)[k]? = if k = j then some x else if k = i then some y else L[k]? := by
  have hil := (List.getElem?_eq_some_iff.1 hi).1
  have hjl := (List.getElem?_eq_some_iff.1 hj).1
  unfold swapL
  have e1 : L.getD i default = x := by rw [List.getD_eq_getElem?_getD, hi]; rfl
  have e2 : L.getD j default = y := by rw [List.getD_eq_getElem?_getD, hj]; rfl
  rw [e1, e2]
  simp only [List.getElem?_set, List.length_set]
  by_cases h1 : k = j
  · subst h1; simp [hjl]
  · rw [if_neg h1, if_neg (fun e => h1 e.symm)]
    by_cases h2 : k = i
    · subst h2; simp [hil]
    · rw [if_neg h2, if_neg (fun e => h2 e.symm)]
theorem swapL_perm {L : List Thing} {i j : Nat} (hi : i < L.length) (hj : j < L.length) : (swapL L i j).Perm L := by
  unfold swapL
  have e1 : L.getD i default = L[i] := by rw [List.getD_eq_getElem?_getD, List.getElem?_eq_getElem hi]; rfl
  have e2 : L.getD j default = L[j] := by rw [List.getD_eq_getElem?_getD, List.getElem?_eq_getElem hj]; rfl
  rw [e1, e2]
  exact List.set_set_perm hi hj
def upL : Nat → List Thing → Nat → List Thing
  | 0, L, _ => L
  | f + 1, L, j =>
    let i := (j - 1) / 2
    if i = j ∨ ¬ (L.getD j default).lt (L.getD i default) = true then L else upL f (swapL L i j) i
/-- down: from i, below n; where it ends. -/
def downL : Nat → List Thing → Nat → Nat → List Thing × Nat
  | 0, L, i, _ => (L, i)
  | f + 1, L, i, n =>
    let j1 := 2 * i + 1
    if n ≤ j1 then (L, i) else
    let j := if j1 + 1 < n ∧ (L.getD (j1 + 1) default).lt (L.getD j1 default) = true then j1 + 1 else j1
    if ¬ (L.getD j default).lt (L.getD i default) = true then (L, i) else downL f (swapL L i j) j n
def fixL (L : List Thing) (i : Nat) : List Thing :=
  let d := downL (L.length + 1) L i L.length
  if i < d.2 then d.1 else upL (i + 1) d.1 i
/-- Remove: what is left, and what was taken. -/
def removeL (L : List Thing) (i : Nat) : List Thing × Thing :=
  let n := L.length - 1
  let L1 := if n = i then L else
    let d := downL (L.length + 1) (swapL L i n) i n
    if i < d.2 then d.1 else upL (i + 1) d.1 i
  (L1.take n, L1.getD n default)
def pushL (L : List Thing) (x : Thing) : List Thing := upL (L.length + 1) (L ++ [x]) L.length
theorem upL_length : ∀ (f : Nat) (L : List Thing) (j : Nat), (upL f L j).length = L.length
  | 0, _, _ => rfl
  | f + 1, L, j => by
    simp only [upL]; split
    · rfl
    · rw [upL_length f, swapL_length]
theorem downL_length : ∀ (f : Nat) (L : List Thing) (i n : Nat), (downL f L i n).1.length = L.length
  | 0, _, _, _ => rfl
  | f + 1, L, i, n => by
    simp only [downL]
    generalize (if 2 * i + 1 + 1 < n ∧ (L.getD (2 * i + 1 + 1) default).lt (L.getD (2 * i + 1) default) = true then 2 * i + 1 + 1 else 2 * i + 1) = j
    split
    · rfl
    · split
      · rfl
      · rw [downL_length f, swapL_length]

theorem upL_perm : ∀ (f : Nat) (L : List Thing) (j : Nat), j < L.length → (upL f L j).Perm L
  | 0, _, _, _ => List.Perm.refl _
  | f + 1, L, j, hj => by
    simp only [upL]; split
    · exact List.Perm.refl _
    · have hi : (j - 1) / 2 < L.length := by omega
      exact (upL_perm f _ _ (by rw [swapL_length]; exact hi)).trans (swapL_perm hi hj)
theorem downL_perm : ∀ (f : Nat) (L : List Thing) (i n : Nat), i < L.length → n ≤ L.length → (downL f L i n).1.Perm L ∧ (downL f L i n).2 < L.length
  | 0, _, _, _, hi, _ => ⟨List.Perm.refl _, hi⟩
  | f + 1, L, i, n, hi, hn => by
    simp only [downL]
    split
    · exact ⟨List.Perm.refl _, hi⟩
    · rename_i h1
      have hj : (if 2 * i + 1 + 1 < n ∧ (L.getD (2 * i + 1 + 1) default).lt (L.getD (2 * i + 1) default) = true then 2 * i + 1 + 1 else 2 * i + 1) < L.length := by
        split <;> omega
      generalize (if 2 * i + 1 + 1 < n ∧ (L.getD (2 * i + 1 + 1) default).lt (L.getD (2 * i + 1) default) = true then 2 * i + 1 + 1 else 2 * i + 1) = j at hj
      split
      · exact ⟨List.Perm.refl _, hi⟩
      · have := downL_perm f (swapL L i j) j n (by rw [swapL_length]; exact hj) (by rw [swapL_length]; exact hn)
        rw [swapL_length] at this
        exact ⟨this.1.trans (swapL_perm hi hj), this.2⟩

end Go.Gm
namespace Go.Gm

theorem lt_iff (a b : Thing) : a.lt b = true ↔ a.tm < b.tm ∨ (a.tm = b.tm ∧ a.id < b.id) := by
  simp [Thing.lt]
theorem lt_asymm {a b : Thing} (h : a.lt b = true) : ¬ b.lt a = true := by
  rw [lt_iff] at *; omega
theorem lt_trans {a b c : Thing} (h : a.lt b = true) (h' : b.lt c = true) : a.lt c = true := by
  rw [lt_iff] at *; omega
theorem nlt_trans {a b c : Thing} (h : ¬ a.lt b = true) (h' : ¬ b.lt c = true) : ¬ a.lt c = true := by
  rw [lt_iff] at *; omega
abbrev el (L : List Thing) (i : Nat) : Thing := L.getD i default
abbrev par (k : Nat) : Nat := (k - 1) / 2
/-- k stands right with its parent. -/
def okAt (L : List Thing) (k : Nat) : Prop := ¬ (el L k).lt (el L (par k)) = true
def Ord (L : List Thing) (n : Nat) : Prop := ∀ k, 0 < k → k < n → okAt L k
theorem el_swap {L : List Thing} {i j k : Nat} (hi : i < L.length) (hj : j < L.length) : el (swapL L i j) k = if k = j then el L i else if k = i then el L j else el L k := by
  have h1 : L[i]? = some (el L i) := by unfold el; rw [List.getD_eq_getElem?_getD, List.getElem?_eq_getElem hi]; rfl
  have h2 : L[j]? = some (el L j) := by unfold el; rw [List.getD_eq_getElem?_getD, List.getElem?_eq_getElem hj]; rfl
  unfold el at *
  rw [List.getD_eq_getElem?_getD, swapL_get h1 h2]
  split
  · rfl
  · split
    · rfl
    · rw [← List.getD_eq_getElem?_getD]

theorem up_ord (n : Nat) : ∀ (f : Nat) (L : List Thing) (j : Nat), j < f → j < n → n ≤ L.length → (∀ k, 0 < k → k < n → k ≠ j → okAt L k) →
    (∀ k, 0 < k → k < n → par k = j → 0 < j → ¬ (el L k).lt (el L (par j)) = true) → Ord (upL f L j) n
  | 0, _, _, h, _, _, _, _ => by omega
  | f + 1, L, j, hf, hjn, hnl, h1, h2 => by
    have hj : j < L.length := by omega
    simp only [upL]
    split
    · rename_i hc
      intro k k0 kl
      by_cases hk : k = j
      · subst hk
        rcases hc with hc | hc
        · have : k = 0 := by omega
          omega
        · exact hc
      · exact h1 k k0 kl hk
    · rename_i hc
      have hne : ¬ (j - 1) / 2 = j := fun e => hc (.inl e)
      have hlt : (el L j).lt (el L ((j - 1) / 2)) = true := by
        by_cases h : (el L j).lt (el L ((j - 1) / 2)) = true
        · exact h
        · exact absurd (.inr h) hc
      have hj0 : 0 < j := by omega
      have hi : (j - 1) / 2 < L.length := by omega
      have hlen := swapL_length L ((j - 1) / 2) j
      refine up_ord n f (swapL L ((j - 1) / 2) j) ((j - 1) / 2) (by omega) (by omega) (by omega) ?_ ?_
      · intro k k0 kl hki
        unfold okAt
        rw [el_swap hi hj, el_swap hi hj]
        by_cases kj : k = j
        · subst kj
          rw [if_pos rfl, if_neg (by omega), if_pos rfl]
          exact lt_asymm hlt
        · rw [if_neg kj, if_neg hki]
          by_cases p1 : par k = j
          · rw [if_pos p1]; exact h2 k k0 kl p1 hj0
          · rw [if_neg p1]
            by_cases p2 : par k = (j - 1) / 2
            · rw [if_pos p2]
              intro e
              have := h1 k k0 kl kj
              unfold okAt at this
              rw [p2] at this
              exact this (lt_trans e hlt)
            · rw [if_neg p2]; exact h1 k k0 kl kj
      · intro k k0 kl hp hi0
        rw [el_swap hi hj, el_swap hi hj]
        have hpp : par ((j - 1) / 2) ≠ j ∧ par ((j - 1) / 2) ≠ (j - 1) / 2 := by unfold par; omega
        rw [if_neg hpp.1, if_neg hpp.2]
        have oki := h1 ((j - 1) / 2) hi0 (by omega) (by omega)
        unfold okAt at oki
        by_cases kj : k = j
        · rw [if_pos kj]; exact oki
        · rw [if_neg kj]
          have hki : k ≠ (j - 1) / 2 := by unfold par at hp; omega
          rw [if_neg hki]
          have := h1 k k0 kl kj
          unfold okAt at this
          rw [hp] at this
          exact nlt_trans this oki

theorem down_ord : ∀ (f : Nat) (L : List Thing) (i n : Nat), n ≤ f + i → n ≤ L.length → i < L.length → (∀ k, 0 < k → k < n → k ≠ i → par k ≠ i → okAt L k) →
    (∀ k, 0 < k → k < n → par k = i → 0 < i → ¬ (el L k).lt (el L (par i)) = true) →
    ((downL f L i n).2 = i ∧ (downL f L i n).1 = L ∧ ∀ k, 0 < k → k < n → k ≠ i → okAt L k) ∨ (i < (downL f L i n).2 ∧ Ord (downL f L i n).1 n)
  | 0, L, i, n, hf, hn, hi, h1, h2 => by
    refine .inl ⟨rfl, rfl, fun k k0 kn ki => h1 k k0 kn ki ?_⟩
    unfold par; omega
  | f + 1, L, i, n, hf, hn, hi, h1, h2 => by
    simp only [downL]
    split
    · rename_i hc
      refine .inl ⟨rfl, rfl, fun k k0 kn ki => h1 k k0 kn ki ?_⟩
      unfold par; omega
    · rename_i hc
      obtain ⟨j, hj, hjn, hpj, hij, hsm⟩ : ∃ j, (if 2 * i + 1 + 1 < n ∧ (L.getD (2 * i + 1 + 1) default).lt (L.getD (2 * i + 1) default) = true then 2 * i + 1 + 1 else 2 * i + 1) = j ∧ j < n ∧ par j = i ∧ i < j ∧
          (∀ k, 0 < k → k < n → par k = i → ¬ (el L k).lt (el L j) = true) := by
        by_cases hx : 2 * i + 1 + 1 < n ∧ (L.getD (2 * i + 1 + 1) default).lt (L.getD (2 * i + 1) default) = true
        · refine ⟨2 * i + 1 + 1, if_pos hx, hx.1, by unfold par; omega, by omega, fun k k0 kn kp => ?_⟩
          have : k = 2 * i + 1 ∨ k = 2 * i + 1 + 1 := by unfold par at kp; omega
          rcases this with rfl | rfl
          · exact lt_asymm hx.2
          · intro e; exact lt_asymm e e
        · refine ⟨2 * i + 1, if_neg hx, by omega, by unfold par; omega, by omega, fun k k0 kn kp => ?_⟩
          have : k = 2 * i + 1 ∨ k = 2 * i + 1 + 1 := by unfold par at kp; omega
          rcases this with rfl | rfl
          · intro e; exact lt_asymm e e
          · intro e; exact hx ⟨kn, e⟩
      simp only [hj]
      have hjl : j < L.length := by omega
      split
      · rename_i hs
        refine .inl ⟨rfl, rfl, fun k k0 kn ki => ?_⟩
        by_cases kp : par k = i
        · unfold okAt
          rw [kp]
          have hji : ¬ (el L j).lt (el L i) = true := hs
          exact nlt_trans (hsm k k0 kn kp) hji
        · exact h1 k k0 kn ki kp
      · rename_i hs
        have hlt : (el L j).lt (el L i) = true := by simpa using hs
        have hlen := swapL_length L i j
        have hole : ∀ k, 0 < k → k < n → k ≠ j → par k ≠ j → okAt (swapL L i j) k := by
          intro k k0 kn kj kpj
          unfold okAt
          rw [el_swap hi hjl, el_swap hi hjl, if_neg kj, if_neg kpj]
          by_cases ki : k = i
          · subst ki
            rw [if_pos rfl]
            have hpk : par k ≠ k := by unfold par; omega
            rw [if_neg hpk]
            exact h2 j (by omega) hjn hpj k0
          · rw [if_neg ki]
            by_cases kp : par k = i
            · rw [if_pos kp]; exact hsm k k0 kn kp
            · rw [if_neg kp]; exact h1 k k0 kn ki kp
        have grand : ∀ k, 0 < k → k < n → par k = j → 0 < j → ¬ (el (swapL L i j) k).lt (el (swapL L i j) (par j)) = true := by
          intro k k0 kn kp _
          rw [el_swap hi hjl, el_swap hi hjl, hpj]
          have kj : k ≠ j := by unfold par at kp; omega
          have ki : k ≠ i := by unfold par at kp; omega
          rw [if_neg kj, if_neg ki, if_neg (by omega), if_pos rfl]
          have := h1 k k0 kn ki (by rw [kp]; omega)
          unfold okAt at this
          rw [kp] at this
          exact this
        have ih := down_ord f (swapL L i j) j n (by omega) (by omega) (by omega) hole grand
        rcases ih with ⟨e1, e2, e3⟩ | ⟨e1, e2⟩
        · refine .inr ⟨by rw [e1]; exact hij, ?_⟩
          rw [e2]
          intro k k0 kn
          by_cases kj : k = j
          · subst kj
            unfold okAt
            rw [el_swap hi hjl, el_swap hi hjl, hpj, if_pos rfl, if_neg (by omega), if_pos rfl]
            exact lt_asymm hlt
          · exact e3 k k0 kn kj
        · exact .inr ⟨by omega, e2⟩

theorem push_ord {L : List Thing} {x : Thing} (h : Ord L L.length) : Ord (pushL L x) (pushL L x).length := by
  unfold pushL
  rw [upL_length]
  have hel : ∀ k, k < L.length → el (L ++ [x]) k = el L k := fun k hk => by
    unfold el; rw [List.getD_eq_getElem?_getD, List.getD_eq_getElem?_getD, List.getElem?_append_left hk]
  refine up_ord _ _ _ _ (by omega) (by simp) (Nat.le_refl _) ?_ ?_
  · intro k k0 kl kn
    have hk : k < L.length := by simp at kl; omega
    unfold okAt
    rw [hel k hk, hel (par k) (by unfold par; omega)]
    exact h k k0 hk
  · intro k k0 kl kp
    simp at kl
    unfold par at kp; omega
theorem fix_ord {L : List Thing} {i : Nat} (hi : i < L.length) (h1 : ∀ k, 0 < k → k < L.length → k ≠ i → par k ≠ i → okAt L k)
    (h2 : ∀ k, 0 < k → k < L.length → par k = i → 0 < i → ¬ (el L k).lt (el L (par i)) = true) : Ord (fixL L i) (fixL L i).length := by
  unfold fixL
  have hd := down_ord (L.length + 1) L i L.length (by omega) (Nat.le_refl _) hi h1 h2
  have hl := downL_length (L.length + 1) L i L.length
  rcases hd with ⟨e1, e2, e3⟩ | ⟨e1, e2⟩
  · simp only [e1, e2, Nat.lt_irrefl, if_false, upL_length]
    exact up_ord _ _ _ _ (by omega) hi (Nat.le_refl _) e3 h2
  · simp only [e1, if_true, hl]
    exact e2
theorem remove_ord {L : List Thing} {i : Nat} (hi : i < L.length) (h : Ord L L.length) : Ord (removeL L i).1 (removeL L i).1.length := by
  have key : ∀ L1 : List Thing, L1.length = L.length → Ord L1 (L.length - 1) → Ord (L1.take (L.length - 1)) (L1.take (L.length - 1)).length := by
    intro L1 hl h1 k k0 kl
    rw [List.length_take, hl] at kl
    have hel : ∀ k, k < L.length - 1 → el (L1.take (L.length - 1)) k = el L1 k := fun k hk => by
      unfold el; rw [List.getD_eq_getElem?_getD, List.getD_eq_getElem?_getD, List.getElem?_take, if_pos hk]
    unfold okAt
    rw [hel k (by omega), hel (par k) (by unfold par; omega)]
    exact h1 k k0 (by omega)
  unfold removeL
  by_cases hc : L.length - 1 = i
  · simp only [if_pos hc]
    exact key L rfl fun k k0 kl => h k k0 (by omega)
  · simp only [if_neg hc]
    have hn : L.length - 1 < L.length := by omega
    have hsl := swapL_length L i (L.length - 1)
    have p1 : ∀ k, 0 < k → k < L.length - 1 → k ≠ i → par k ≠ i → okAt (swapL L i (L.length - 1)) k := by
      intro k k0 kn ki kp
      unfold okAt
      rw [el_swap hi hn, el_swap hi hn, if_neg (by omega), if_neg ki, if_neg (by unfold par; omega), if_neg kp]
      exact h k k0 (by omega)
    have p2 : ∀ k, 0 < k → k < L.length - 1 → par k = i → 0 < i → ¬ (el (swapL L i (L.length - 1)) k).lt (el (swapL L i (L.length - 1)) (par i)) = true := by
      intro k k0 kn kp i0
      rw [el_swap hi hn, el_swap hi hn, if_neg (by omega), if_neg (by unfold par at kp; omega), if_neg (by unfold par; omega), if_neg (by unfold par; omega)]
      have a1 := h k k0 (by omega)
      have a2 := h i i0 hi
      unfold okAt at a1 a2
      rw [kp] at a1
      exact nlt_trans a1 a2
    have hd := down_ord (L.length + 1) (swapL L i (L.length - 1)) i (L.length - 1) (by omega) (by omega) (by omega) p1 p2
    have hl := downL_length (L.length + 1) (swapL L i (L.length - 1)) i (L.length - 1)
    rcases hd with ⟨e1, e2, e3⟩ | ⟨e1, e2⟩
    · simp only [e1, e2, Nat.lt_irrefl, if_false]
      refine key _ (by rw [upL_length, hsl]) ?_
      exact up_ord _ _ _ _ (by omega) (by omega) (by omega) e3 p2
    · simp only [e1, if_true]
      exact key _ (by rw [hl, hsl]) e2
theorem ord_first {L : List Thing} (h : Ord L L.length) : ∀ (i : Nat), i < L.length → ¬ (el L i).lt (el L 0) = true := by
  intro i
  induction i using Nat.strongRecOn with
  | _ i ih =>
    intro hi
    by_cases h0 : i = 0
    · subst h0; intro e; exact lt_asymm e e
    · have h1 := h i (by omega) hi
      unfold okAt at h1
      exact nlt_trans h1 (ih (par i) (by unfold par; omega) (by unfold par; omega))

end Go.Gm
namespace Go.Gm

theorem upL_above : ∀ (f : Nat) (L : List Thing) (j k : Nat), j < k → j < L.length → el (upL f L j) k = el L k
  | 0, _, _, _, _, _ => rfl
  | f + 1, L, j, k, h, hj => by
    simp only [upL]; split
    · rfl
    · have hi : (j - 1) / 2 < L.length := by omega
      rw [upL_above f _ _ k (by omega) (by rw [swapL_length]; exact hi), el_swap hi hj, if_neg (by omega), if_neg (by omega)]
theorem downL_above : ∀ (f : Nat) (L : List Thing) (i n k : Nat), i < n → n ≤ L.length → n ≤ k → el (downL f L i n).1 k = el L k
  | 0, _, _, _, _, _, _, _ => rfl
  | f + 1, L, i, n, k, hi, hn, hk => by
    simp only [downL]
    split
    · rfl
    · rename_i h1
      have hj : (if 2 * i + 1 + 1 < n ∧ (L.getD (2 * i + 1 + 1) default).lt (L.getD (2 * i + 1) default) = true then 2 * i + 1 + 1 else 2 * i + 1) < n := by
        split <;> omega
      generalize (if 2 * i + 1 + 1 < n ∧ (L.getD (2 * i + 1 + 1) default).lt (L.getD (2 * i + 1) default) = true then 2 * i + 1 + 1 else 2 * i + 1) = j at hj
      split
      · rfl
      · rw [downL_above f _ _ _ k hj (by rw [swapL_length]; exact hn) hk, el_swap (by omega) (by omega), if_neg (by omega), if_neg (by omega)]
theorem removeL_at {L : List Thing} {i : Nat} (hi : i < L.length) : (removeL L i).2 = el L i := by
  unfold removeL
  by_cases hc : L.length - 1 = i
  · simp only [if_pos hc]; rw [hc]
  · simp only [if_neg hc]
    have hn : L.length - 1 < L.length := by omega
    have hsl := swapL_length L i (L.length - 1)
    have h0 : el (downL (L.length + 1) (swapL L i (L.length - 1)) i (L.length - 1)).1 (L.length - 1) = el L i := by
      rw [downL_above _ _ _ _ _ (by omega) (by omega) (Nat.le_refl _), el_swap hi hn, if_pos rfl]
    split
    · exact h0
    · have := downL_length (L.length + 1) (swapL L i (L.length - 1)) i (L.length - 1)
      show el _ _ = _
      rw [upL_above _ _ _ _ (by omega) (by omega)]; exact h0
theorem removeL_perm {L : List Thing} {i : Nat} (hi : i < L.length) : (el L i :: (removeL L i).1).Perm L := by
  have h : ((removeL L i).1 ++ [(removeL L i).2]).Perm L := by
    have hn : L.length - 1 < L.length := by omega
    have key : ∀ L1 : List Thing, L1.Perm L → (L1.take (L.length - 1) ++ [L1.getD (L.length - 1) default]).Perm L := by
      intro L1 hp
      have hlen := hp.length_eq
      have hd : L1.drop (L.length - 1) = [L1.getD (L.length - 1) default] := by
        rw [List.drop_eq_getElem_cons (by omega), List.drop_of_length_le (by omega), List.getD_eq_getElem?_getD, List.getElem?_eq_getElem (by omega)]; rfl
      rw [← hd, List.take_append_drop]; exact hp
    unfold removeL
    by_cases hc : L.length - 1 = i
    · simp only [if_pos hc]; exact key L (List.Perm.refl _)
    · simp only [if_neg hc]
      have hsl := swapL_length L i (L.length - 1)
      have hps := swapL_perm hi hn
      obtain ⟨hp, hd2⟩ := downL_perm (L.length + 1) (swapL L i (L.length - 1)) i (L.length - 1) (by omega) (by omega)
      have hl := downL_length (L.length + 1) (swapL L i (L.length - 1)) i (L.length - 1)
      split
      · exact key _ (hp.trans hps)
      · exact key _ ((upL_perm _ _ _ (by omega)).trans (hp.trans hps))
  rw [removeL_at hi] at h
  exact (List.perm_append_singleton _ _).symm.trans h

/-! ## The plain list -/
abbrev TL := List (Int × Int)
def tget (A : TL) (id : Int) : Option Int := (A.find? fun x => decide (x.1 = id)).map (·.2)
def tset (A : TL) (id tm : Int) : TL := if id ∈ A.map (·.1) then A.map fun x => if x.1 = id then (id, tm) else x else A ++ [(id, tm)]
def tdel (A : TL) (id : Int) : TL := A.filter fun x => decide (x.1 ≠ id)
def tlt (a b : Int × Int) : Prop := a.2 < b.2 ∨ (a.2 = b.2 ∧ a.1 < b.1)
/-- x is the least of A. -/
def tmin (A : TL) (x : Int × Int) : Prop := x ∈ A ∧ ∀ y ∈ A, ¬ tlt y x
theorem tmin_uniq {A : TL} {x y : Int × Int} (hx : tmin A x) (hy : tmin A y) : x = y := by
  have h1 := hx.2 y hy.1
  have h2 := hy.2 x hx.1
  unfold tlt at h1 h2
  have : x.1 = y.1 ∧ x.2 = y.2 := by omega
  exact Prod.ext this.1 this.2
theorem tset_fst {A : TL} {id tm : Int} (h : (A.map (·.1)).Nodup) : ((tset A id tm).map (·.1)).Nodup := by
  unfold tset
  split
  · rw [List.map_map, show ((fun x : Int × Int => x.1) ∘ fun x => if x.1 = id then (id, tm) else x) = (·.1) from by
      funext x; simp only [Function.comp]; split
      · rename_i h; exact h.symm
      · rfl]
    exact h
  · rename_i hn
    rw [List.map_append, List.nodup_append]
    refine ⟨h, by simp, fun a ha b hb => ?_⟩
    simp at hb; subst hb
    intro e; subst e; exact hn ha
theorem tdel_fst {A : TL} {id : Int} (h : (A.map (·.1)).Nodup) : ((tdel A id).map (·.1)).Nodup := h.sublist (List.Sublist.map _ List.filter_sublist)
theorem tget_some {A : TL} {id tm : Int} (h : (A.map (·.1)).Nodup) : tget A id = some tm ↔ (id, tm) ∈ A := by
  induction A with
  | nil => simp [tget]
  | cons a A ih =>
    simp only [List.map_cons, List.nodup_cons] at h
    unfold tget at *
    rw [List.find?_cons]
    by_cases he : a.1 = id
    · subst he
      simp only [decide_true]
      constructor
      · intro e; simp at e; subst e; simp
      · intro e
        rcases List.mem_cons.1 e with e | e
        · rw [← e]; simp
        · exact absurd (List.mem_map_of_mem (f := (·.1)) e) h.1
    · simp only [decide_eq_false he]
      rw [ih h.2]
      constructor
      · exact fun e => List.mem_cons_of_mem _ e
      · intro e
        rcases List.mem_cons.1 e with e | e
        · exact absurd (by rw [← e]) he
        · exact e
theorem tget_none {A : TL} {id : Int} : tget A id = none ↔ id ∉ A.map (·.1) := by
  unfold tget
  simp only [Option.map_eq_none_iff, List.find?_eq_none, decide_eq_true_eq, List.mem_map, not_exists, not_and]

theorem tset_perm {A B : TL} (id tm : Int) (h : A.Perm B) : (tset A id tm).Perm (tset B id tm) := by
  unfold tset
  have : (id ∈ A.map (·.1)) ↔ id ∈ B.map (·.1) := (h.map _).mem_iff
  by_cases hc : id ∈ A.map (·.1)
  · rw [if_pos hc, if_pos (this.1 hc)]; exact h.map _
  · rw [if_neg hc, if_neg (fun e => hc (this.2 e))]; exact h.append_right _
theorem tdel_perm {A B : TL} (id : Int) (h : A.Perm B) : (tdel A id).Perm (tdel B id) := h.filter _
theorem tdel_head {A : TL} {id tm : Int} (h : id ∉ A.map (·.1)) : tdel ((id, tm) :: A) id = A := by
  unfold tdel
  rw [List.filter_cons]
  simp only [ne_eq, not_true_eq_false, decide_false, Bool.false_eq_true, if_false]
  refine List.filter_eq_self.2 fun a ha => ?_
  simp only [decide_eq_true_eq]
  intro e; exact h (List.mem_map.2 ⟨a, ha, e⟩)
theorem tset_filter {A : TL} {id tm : Int} (p : Int → Bool) : (tset A id tm).filter (fun x => p x.1) = if p id then tset (A.filter fun x => p x.1) id tm else A.filter fun x => p x.1 := by
  unfold tset
  by_cases hc : id ∈ A.map (·.1)
  · rw [if_pos hc]
    by_cases hp : p id = true
    · rw [if_pos hp]
      have hc' : id ∈ (A.filter fun x => p x.1).map (·.1) := by
        obtain ⟨x, hx, rfl⟩ := List.mem_map.1 hc
        exact List.mem_map_of_mem (List.mem_filter.2 ⟨hx, hp⟩)
      rw [if_pos hc', List.filter_map]
      congr 1
      refine List.filter_congr fun x _ => ?_
      simp only [Function.comp]
      split
      · rename_i h; rw [h]
      · rfl
    · rw [if_neg hp, List.filter_map]
      have : (A.filter ((fun x : Int × Int => p x.1) ∘ fun x => if x.1 = id then (id, tm) else x)) = A.filter fun x => p x.1 := by
        refine List.filter_congr fun x _ => ?_
        simp only [Function.comp]
        split
        · rename_i h; rw [h]
        · rfl
      rw [this]
      refine (List.map_congr_left fun x hx => ?_).trans (List.map_id _)
      have hx2 := (List.mem_filter.1 hx).2
      rw [if_neg (fun e => hp (by rw [← e]; exact hx2))]; rfl
  · rw [if_neg hc, List.filter_append]
    have hc' : id ∉ (A.filter fun x => p x.1).map (·.1) := fun h => by
      obtain ⟨x, hx, rfl⟩ := List.mem_map.1 h
      exact hc (List.mem_map_of_mem (List.mem_filter.1 hx).1)
    rw [if_neg hc']
    by_cases hp : p id = true
    · simp [hp]
    · simp [hp]
theorem tdel_filter {A : TL} {id : Int} (p : Int → Bool) : (tdel A id).filter (fun x => p x.1) = tdel (A.filter fun x => p x.1) id := by
  unfold tdel
  rw [List.filter_filter, List.filter_filter]
  refine List.filter_congr fun x _ => Bool.and_comm _ _
theorem tset_at {A : TL} (hn : (A.map (·.1)).Nodup) {i : Nat} {id t0 : Int} (h : A[i]? = some (id, t0)) (tm : Int) : tset A id tm = A.set i (id, tm) := by
  have hi := (List.getElem?_eq_some_iff.1 h).1
  unfold tset
  rw [if_pos (List.mem_map.2 ⟨_, List.mem_of_getElem? h, rfl⟩)]
  apply List.ext_getElem?
  intro k
  rw [List.getElem?_map, List.getElem?_set]
  by_cases e : i = k
  · subst e; rw [if_pos rfl, if_pos hi, h]; simp
  · rw [if_neg e]
    cases hk : A[k]? with
    | none => rfl
    | some y =>
      simp only [Option.map_some]
      rw [if_neg]
      intro e'
      refine e ?_
      have a1 : (A.map (·.1))[i]? = some id := by rw [List.getElem?_map, h]; rfl
      have a2 : (A.map (·.1))[k]? = some id := by rw [List.getElem?_map, hk]; simp [e']
      exact (List.getElem?_inj (by simpa using hi) hn).1 (a1.trans a2.symm)
theorem tdel_at {A : TL} (hn : (A.map (·.1)).Nodup) {i : Nat} {id t0 : Int} (h : A[i]? = some (id, t0)) : tdel A id = A.take i ++ A.drop (i + 1) := by
  have hi := (List.getElem?_eq_some_iff.1 h).1
  have hx : A[i] = (id, t0) := by rw [List.getElem?_eq_getElem hi] at h; exact Option.some.inj h
  have hs : A = A.take i ++ (id, t0) :: A.drop (i + 1) := by
    rw [← hx, ← List.drop_eq_getElem_cons hi, List.take_append_drop]
  have hn' := hn
  rw [hs, List.map_append, List.map_cons, List.nodup_append] at hn'
  have hn2 := hn'.2.1
  rw [List.nodup_cons] at hn2
  have h1 : tdel (A.take i) id = A.take i := List.filter_eq_self.2 fun a ha => by
    simp only [ne_eq, decide_eq_true_eq]
    exact hn'.2.2 a.1 (List.mem_map.2 ⟨a, ha, rfl⟩) id (by simp)
  have h2 : tdel (A.drop (i + 1)) id = A.drop (i + 1) := List.filter_eq_self.2 fun a ha => by
    simp only [ne_eq, decide_eq_true_eq]
    intro e; exact hn2.1 (List.mem_map.2 ⟨a, ha, e⟩)
  refine (congrArg (tdel · id) hs).trans ?_
  unfold tdel at *
  rw [List.filter_append, List.filter_cons, h1]
  simp only [ne_eq, not_true_eq_false, decide_false, Bool.false_eq_true, if_false]
  rw [h2]
theorem tdel_no {A : TL} {id : Int} (h : id ∉ A.map (·.1)) : tdel A id = A := List.filter_eq_self.2 fun a ha => by
  simp only [ne_eq, decide_eq_true_eq]
  intro e; exact h (by rw [← e]; exact List.mem_map_of_mem ha)

end Go.Gm
namespace Go.Proofs.YtnnheophehnioaaGreat
open Go.Sx Go.Proofs Go.Gm
set_option maxRecDepth 100000

/-- A thing's variable. -/
def thingO (x : Thing) (i : Nat) : Obj := .cells #[.int .i64 x.id, .int .i64 x.tm, .int .i64 i] 165 (0, 0)
def ptrQ (q : Nat) : Value := .pointer (some ⟨q, 0, none⟩)
/-- The Timers' variable at p (its map mv) and the row of things L. -/
structure RowAt (H : Hp) (p : Nat) (mv : Value) (L : List Thing) (bk : Option Nat) : Prop where
  sl : ∃ v, H[p]? = some (.cells #[v, mv] 154 (0, 0)) ∧ OwnS H v 166 1 L.length (L.map fun x => ptrQ x.q) bk
  th : ∀ i x, L[i]? = some x → H[x.q]? = some (thingO x i)
  nd : (L.map (·.q)).Nodup
  bp : bk ≠ some p
  qp : ∀ x ∈ L, x.q ≠ p
  qb : ∀ x ∈ L, bk ≠ some x.q
/-- What belongs to the row. -/
def rowS (p : Nat) (L : List Thing) (bk : Option Nat) : Nat → Prop := fun b => b = p ∨ bk = some b ∨ b ∈ L.map (·.q)

theorem callI_Less0 (p : Nat) (args : List Value) (K : Value → HPred) (H : Hp) : callI Tryz.prog (.iface 168 (.pointer (some ⟨p, 0, none⟩))) "Less" args K H =
   (match cellH H ⟨p, 0, none⟩ with | some v => HC Tryz.prog 236 (v :: args).toArray K H | none => False) := by kernel_rfl
theorem callI_Less {p : Nat} {args : List Value} {K : Value → HPred} {H : Hp} {c : Array Value} {T : TypeId} {fz : Nat × Nat} {v : Value} (hb : H[p]? = some (.cells c T fz)) (hv : c[0]? = some v)
    (h : HC Tryz.prog 236 (v :: args).toArray K H) : callI Tryz.prog (.iface 168 (ptrQ p)) "Less" args K H := by
  rw [ptrQ, callI_Less0, cell_blk hb, hv]; exact h
theorem callI_Len0 (p : Nat) (args : List Value) (K : Value → HPred) (H : Hp) : callI Tryz.prog (.iface 168 (.pointer (some ⟨p, 0, none⟩))) "Len" args K H =
   (match cellH H ⟨p, 0, none⟩ with | some v => HC Tryz.prog 235 (v :: args).toArray K H | none => False) := by kernel_rfl
theorem callI_Len {p : Nat} {args : List Value} {K : Value → HPred} {H : Hp} {c : Array Value} {T : TypeId} {fz : Nat × Nat} {v : Value} (hb : H[p]? = some (.cells c T fz)) (hv : c[0]? = some v)
    (h : HC Tryz.prog 235 (v :: args).toArray K H) : callI Tryz.prog (.iface 168 (ptrQ p)) "Len" args K H := by
  rw [ptrQ, callI_Len0, cell_blk hb, hv]; exact h
theorem callI_Swap0 (p : Nat) (args : List Value) (K : Value → HPred) (H : Hp) : callI Tryz.prog (.iface 168 (.pointer (some ⟨p, 0, none⟩))) "Swap" args K H =
   (match cellH H ⟨p, 0, none⟩ with | some v => HC Tryz.prog 237 (v :: args).toArray K H | none => False) := by kernel_rfl
theorem callI_Swap {p : Nat} {args : List Value} {K : Value → HPred} {H : Hp} {c : Array Value} {T : TypeId} {fz : Nat × Nat} {v : Value} (hb : H[p]? = some (.cells c T fz)) (hv : c[0]? = some v)
    (h : HC Tryz.prog 237 (v :: args).toArray K H) : callI Tryz.prog (.iface 168 (ptrQ p)) "Swap" args K H := by
  rw [ptrQ, callI_Swap0, cell_blk hb, hv]; exact h
theorem callI_Push (p : Nat) (args : List Value) (K : Value → HPred) (H : Hp) : callI Tryz.prog (.iface 168 (ptrQ p)) "Push" args K H =
   HC Tryz.prog 239 (ptrQ p :: args).toArray K H := by kernel_rfl
theorem callI_Pop (p : Nat) (args : List Value) (K : Value → HPred) (H : Hp) : callI Tryz.prog (.iface 168 (ptrQ p)) "Pop" args K H =
   HC Tryz.prog 238 (ptrQ p :: args).toArray K H := by kernel_rfl

theorem RowAt.slice {H : Hp} {p : Nat} {mv : Value} {L : List Thing} {bk : Option Nat} (h : RowAt H p mv L bk) : ∃ a cap, H[p]? = some (.cells #[.slice a L.length cap, mv] 154 (0, 0)) ∧
    (∀ i x, L[i]? = some x → ∃ b c, bk = some b ∧ a = some ⟨b, 0, none⟩ ∧ H[b]? = some (.cells c 166 (0, 0)) ∧ i < c.size ∧ c[i]? = some (ptrQ x.q)) := by
  obtain ⟨v, h1, h2⟩ := h.sl
  rcases h2.is with ⟨h3, h4, h5⟩ | ⟨b, c, cap, h3, h4, h5, h6, h7, h8⟩
  · refine ⟨none, 0, by rw [h1, h5, h4], fun i x hx => ?_⟩
    have := (List.getElem?_eq_some_iff.1 hx).1
    omega
  · refine ⟨some ⟨b, 0, none⟩, cap, by rw [h1, h4], fun i x hx => ⟨b, c, h3, rfl, h5, ?_, ?_⟩⟩
    · have := (List.getElem?_eq_some_iff.1 hx).1
      rw [h6]; omega
    · have := (List.getElem?_eq_some_iff.1 hx).1
      rw [h8 i (by omega)]; simp [hx]

/-- Len. -/
theorem row_len {H : Hp} {p : Nat} {mv : Value} {L : List Thing} {bk : Option Nat} (h : RowAt H p mv L bk) {K : Value → HPred} (hk : K (.int .i64 L.length) H) :
    callI Tryz.prog (.iface 168 (ptrQ p)) "Len" [] K H := by
  obtain ⟨a, cap, h1, _⟩ := h.slice
  refine callI_Len (v := .slice a L.length cap) h1 rfl (f235.call ?_)
  simp only [f235.b, len_slice Tryz.underlying152, opt_some]
  exact hk
theorem row_less {H : Hp} {p : Nat} {mv : Value} {L : List Thing} {bk : Option Nat} (h : RowAt H p mv L bk) {i j : Nat} {x y : Thing} (hi : L[i]? = some x) (hj : L[j]? = some y)
    {K : Value → HPred} (hk : K (.bool (x.lt y)) H) :
    callI Tryz.prog (.iface 168 (ptrQ p)) "Less" [.int .i64 i, .int .i64 j] K H := by
  obtain ⟨a, cap, h1, h2⟩ := h.slice
  obtain ⟨b, c, hb, ha, hbc, hic, hci⟩ := h2 i x hi
  obtain ⟨b', c', hb', ha', hbc', hjc, hcj⟩ := h2 j y hj
  have he : b' = b := by rw [hb] at hb'; cases hb'; rfl
  subst he
  have hc : c' = c := by rw [hbc] at hbc'; cases hbc'; rfl
  subst hc
  subst ha
  have hil := (List.getElem?_eq_some_iff.1 hi).1
  have hjl := (List.getElem?_eq_some_iff.1 hj).1
  have tx := h.th i x hi
  have ty := h.th j y hj
  refine callI_Less (v := .slice (some ⟨b', 0, none⟩) L.length cap) h1 rfl (f236.call ?_)
  have e1 : (0 + Int.toNat (i : Int) * 1) = i := by omega
  have e2 : (0 + Int.toNat (j : Int) * 1) = j := by omega
  have hx0 : ∀ K : Value → HPred, rd (cellP (.pointer (some ⟨x.q, 0 + 0, none⟩))) K H = K (.int .i64 x.id) H := fun K => rd_blk (o := 0 + 0) tx rfl
  have hx1 : ∀ K : Value → HPred, rd (cellP (.pointer (some ⟨x.q, 0 + 1, none⟩))) K H = K (.int .i64 x.tm) H := fun K => rd_blk (o := 0 + 1) tx rfl
  have hy0 : ∀ K : Value → HPred, rd (cellP (.pointer (some ⟨y.q, 0 + 0, none⟩))) K H = K (.int .i64 y.id) H := fun K => rd_blk (o := 0 + 0) ty rfl
  have hy1 : ∀ K : Value → HPred, rd (cellP (.pointer (some ⟨y.q, 0 + 1, none⟩))) K H = K (.int .i64 y.tm) H := fun K => rd_blk (o := 0 + 1) ty rfl
  unfold Thing.lt at hk
  by_cases c1 : x.tm < y.tm
  · simp only [f236.b, idxS_eq (Int.natCast_nonneg i) (Int.ofNat_lt.2 hil), idxS_eq (Int.natCast_nonneg j) (Int.ofNat_lt.2 hjl), opt_some, e1, e2, rd_blk hbc hci, rd_blk hbc hcj, ptrQ, nilV_ptr, offV_ptr,
      hx0, hx1, hy0, hy1, int_lss, int_eql, decide_eq_true c1, grd_u, grd_tt, grd_tf, grd_ft, grd_ff, pick_true, pick_false]
    simpa [c1] using hk
  · by_cases c2 : x.tm = y.tm
    · simp only [f236.b, idxS_eq (Int.natCast_nonneg i) (Int.ofNat_lt.2 hil), idxS_eq (Int.natCast_nonneg j) (Int.ofNat_lt.2 hjl), opt_some, e1, e2, rd_blk hbc hci, rd_blk hbc hcj, ptrQ, nilV_ptr, offV_ptr,
        hx0, hx1, hy0, hy1, int_lss, int_eql, decide_eq_false c1, decide_eq_true c2, grd_u, grd_tt, grd_tf, grd_ft, grd_ff, pick_true, pick_false]
      simpa [c1, c2] using hk
    · simp only [f236.b, idxS_eq (Int.natCast_nonneg i) (Int.ofNat_lt.2 hil), idxS_eq (Int.natCast_nonneg j) (Int.ofNat_lt.2 hjl), opt_some, e1, e2, rd_blk hbc hci, rd_blk hbc hcj, ptrQ, nilV_ptr, offV_ptr,
        hx0, hx1, hy0, hy1, int_lss, int_eql, decide_eq_false c1, decide_eq_false c2, grd_u, grd_tt, grd_tf, grd_ft, grd_ff, pick_true, pick_false]
      simpa [c1, c2] using hk

theorem rowS_lt {H : Hp} {p : Nat} {mv : Value} {L : List Thing} {bk : Option Nat} (h : RowAt H p mv L bk) : ∀ b, rowS p L bk b → b < H.size := by
  intro b hb
  obtain ⟨v, h1, h2⟩ := h.sl
  rcases hb with rfl | rfl | hb
  · exact blk_lt h1
  · exact h2.lt
  · obtain ⟨x, hx, rfl⟩ := List.mem_map.1 hb
    obtain ⟨i, hi, rfl⟩ := List.getElem_of_mem hx
    exact blk_lt (h.th i _ (List.getElem?_eq_getElem hi))
theorem RowAt.ext {S : Nat → Prop} {H H' : Hp} {p : Nat} {mv : Value} {L : List Thing} {bk : Option Nat} (h : RowAt H p mv L bk) (hx : Ext S H H') (hn : ∀ b, rowS p L bk b → ¬ S b) : RowAt H' p mv L bk := by
  obtain ⟨v, h1, h2⟩ := h.sl
  exact ⟨⟨v, hx.blk h1 (hn p (.inl rfl)), h2.ext hx fun b hb => hn b (.inr (.inl hb))⟩,
    fun i x hi => hx.blk (h.th i x hi) (hn _ (.inr (.inr (List.mem_map_of_mem (List.mem_of_getElem? hi))))), h.nd, h.bp, h.qp, h.qb⟩
theorem row_swap {H : Hp} {p : Nat} {mv : Value} {L : List Thing} {bk : Option Nat} (h : RowAt H p mv L bk) {i j : Nat} (hij : i ≠ j) (hil : i < L.length) (hjl : j < L.length)
    {K : Value → HPred} (hk : ∀ H', RowAt H' p mv (swapL L i j) bk → Ext (rowS p L bk) H H' → K (.tuple #[]) H') :
    callI Tryz.prog (.iface 168 (ptrQ p)) "Swap" [.int .i64 i, .int .i64 j] K H := by
  obtain ⟨x, hi⟩ : ∃ x, L[i]? = some x := ⟨_, List.getElem?_eq_getElem hil⟩
  obtain ⟨y, hj⟩ : ∃ y, L[j]? = some y := ⟨_, List.getElem?_eq_getElem hjl⟩
  obtain ⟨v0, h1, h2⟩ := h.sl
  rcases h2.is with ⟨_, h3, _⟩ | ⟨b, c, cap, hb, rfl, hbc, hcs, hn, hci⟩
  · omega
  subst hb
  have hml : ∀ (k : Nat) (z : Thing), L[k]? = some z → c[k]? = some (ptrQ z.q) := fun k z hz => by
    have := (List.getElem?_eq_some_iff.1 hz).1
    rw [hci k (by omega)]; simp [hz]
  have hic := hml i x hi
  have hjc := hml j y hj
  have hisz : i < c.size := by omega
  have hjsz : j < c.size := by omega
  have tx := h.th i x hi
  have ty := h.th j y hj
  have hxm := List.mem_of_getElem? hi
  have hym := List.mem_of_getElem? hj
  have hxb : x.q ≠ b := fun e => h.qb x hxm (by rw [e])
  have hyb : y.q ≠ b := fun e => h.qb y hym (by rw [e])
  have hxp := h.qp x hxm
  have hyp := h.qp y hym
  have hbp : p ≠ b := fun e => h.bp (by rw [e])
  have hxy : x.q ≠ y.q := fun e => hij (by
    have a1 : (L.map (·.q))[i]? = some x.q := by simp [hi]
    have a2 : (L.map (·.q))[j]? = some x.q := by simp [hj, e]
    exact (List.getElem?_inj (by simpa using hil) h.nd).1 (a1.trans a2.symm))
  refine callI_Swap (v := .slice (some ⟨b, 0, none⟩) L.length cap) h1 rfl (f237.call ?_)
  have e1 : (0 + Int.toNat (i : Int) * 1) = i := by omega
  have e2 : (0 + Int.toNat (j : Int) * 1) = j := by omega
  have s1 := fun (C : HPred) => st_blk (C := C) (v := ptrQ y.q) hbc hisz rfl
  have hb1 := upd_self (x := .cells (c.setIfInBounds i (ptrQ y.q)) 166 (0, 0)) hbc
  have s2 := fun (C : HPred) => st_blk (C := C) (v := ptrQ x.q) hb1 (o := j) (by simpa using hjsz) rfl
  have hb2 := upd_self (x := .cells ((c.setIfInBounds i (ptrQ y.q)).setIfInBounds j (ptrQ x.q)) 166 (0, 0)) hbc
  have r1 := fun (K : Value → HPred) => rd_blk (K := K) (o := i) (v := ptrQ y.q) hb2 (by rw [Array.getElem?_setIfInBounds_ne (fun e => hij e.symm)]; simp [hisz])
  have r2 := fun (K : Value → HPred) => rd_blk (K := K) (o := j) (v := ptrQ x.q) hb2 (by simp [hjsz])
  have ty2 := (upd_ne (H := H) (x := .cells ((c.setIfInBounds i (ptrQ y.q)).setIfInBounds j (ptrQ x.q)) 166 (0, 0)) hyb).trans ty
  have s3 := fun (C : HPred) => st_blk (C := C) (v := .int .i64 i) ty2 (o := 0 + 2) (by simp) rfl
  have tx3 := (upd_ne (H := upd H b (.cells ((c.setIfInBounds i (ptrQ y.q)).setIfInBounds j (ptrQ x.q)) 166 (0, 0)))
    (x := .cells (#[.int .i64 y.id, .int .i64 y.tm, .int .i64 j].setIfInBounds (0 + 2) (.int .i64 i)) 165 (0, 0)) hxy).trans ((upd_ne hxb).trans tx)
  have s4 := fun (C : HPred) => st_blk (C := C) (v := .int .i64 j) tx3 (o := 0 + 2) (by simp) rfl
  unfold ptrQ at s1 s2 r1 r2 s3 s4
  simp only [f237.b, idxS_eq (Int.natCast_nonneg i) (Int.ofNat_lt.2 hil), idxS_eq (Int.natCast_nonneg j) (Int.ofNat_lt.2 hjl), opt_some, e1, e2, rd_blk hbc hic, rd_blk hbc hjc, ptrQ, s1, s2, upd_upd, r1, r2, nilV_ptr, offV_ptr, s3, s4]
  refine hk _ ?_ ?_
  · refine ⟨⟨.slice (some ⟨b, 0, none⟩) L.length cap, ?_, ?_⟩, ?_, ?_, h.bp, ?_, ?_⟩
    · rw [upd_ne (fun e => hxp e.symm), upd_ne (fun e => hyp e.symm), upd_ne hbp]; exact h1
    · refine ⟨by simp, .inr ⟨b, (c.setIfInBounds i (ptrQ y.q)).setIfInBounds j (ptrQ x.q), cap, rfl, by rw [swapL_length], ?_, by simpa using hcs, by rw [swapL_length]; exact hn, fun k hk => ?_⟩⟩
      · rw [upd_ne (fun e => hxb e.symm), upd_ne (fun e => hyb e.symm)]; exact hb2
      · rw [List.getElem?_map, swapL_get hi hj]
        by_cases k1 : k = j
        · subst k1; simp [hjsz, ptrQ]
        · rw [if_neg k1, Array.getElem?_setIfInBounds_ne (fun e => k1 e.symm)]
          by_cases k2 : k = i
          · subst k2; simp [hisz, ptrQ]
          · rw [if_neg k2, Array.getElem?_setIfInBounds_ne (fun e => k2 e.symm), ← List.getElem?_map]
            exact hci k (by rw [swapL_length] at hk; exact hk)
    · intro k z hz
      rw [swapL_get hi hj] at hz
      by_cases k1 : k = j
      · subst k1
        rw [if_pos rfl] at hz
        cases hz
        exact upd_self tx3
      · rw [if_neg k1] at hz
        by_cases k2 : k = i
        · subst k2
          rw [if_pos rfl] at hz
          cases hz
          exact (upd_ne (fun e => hxy e.symm)).trans (upd_self ty2)
        · rw [if_neg k2] at hz
          have hzm := List.mem_of_getElem? hz
          have hkl : k < (L.map (·.q)).length := by simpa using (List.getElem?_eq_some_iff.1 hz).1
          have hzx : z.q ≠ x.q := fun e => k2 ((List.getElem?_inj hkl h.nd).1 (by simp [hz, hi, e]))
          have hzy : z.q ≠ y.q := fun e => k1 ((List.getElem?_inj hkl h.nd).1 (by simp [hz, hj, e]))
          have hzb : z.q ≠ b := fun e => h.qb z hzm (by rw [e])
          rw [upd_ne hzx, upd_ne hzy, upd_ne hzb]; exact h.th k z hz
    · exact ((swapL_perm hil hjl).map _).nodup_iff.2 h.nd
    · exact fun z hz => h.qp z ((swapL_perm hil hjl).mem_iff.1 hz)
    · exact fun z hz => h.qb z ((swapL_perm hil hjl).mem_iff.1 hz)
  · refine ((Ext.mono (ext_upd _ _ _) ?_).trans' (Ext.mono (ext_upd _ _ _) ?_)).trans' (Ext.mono (ext_upd _ _ _) ?_)
    · rintro _ _ rfl; exact .inr (.inl rfl)
    · rintro _ _ rfl; exact .inr (.inr (List.mem_map_of_mem hym))
    · rintro _ _ rfl; exact .inr (.inr (List.mem_map_of_mem hxm))

theorem mkI_thing (q : Nat) : pureRun Tryz.prog (Instr.makeInterface 166 (ptrQ q)) = some (.iface 166 (ptrQ q)) := by kernel_rfl
theorem mkI_row (q : Nat) : pureRun Tryz.prog (Instr.makeInterface 168 (ptrQ q)) = some (.iface 168 (ptrQ q)) := by kernel_rfl
theorem as_thing (q : Nat) : pureRun Tryz.prog (Instr.typeAssert (.iface 166 (ptrQ q)) 20 166 false) = some (ptrQ q) := by kernel_rfl
theorem bs_thing (q : Nat) (K : Value → HPred) (H : Hp) : tot Tryz.prog (Instr.buildSlice 152 1 #[(0, ptrQ q)]) K H =
    K (.slice (some ⟨H.size, 0, none⟩) 1 1) (H.push (.cells #[ptrQ q] 166)) := by kernel_rfl

theorem row_pop {H : Hp} {p : Nat} {mv : Value} {L : List Thing} {x : Thing} {bk : Option Nat} (h : RowAt H p mv (L ++ [x]) bk) (hmax : L.length < 2 ^ 40)
    {K : Value → HPred} (hk : ∀ H', RowAt H' p mv L bk → H'[x.q]? = some (thingO x L.length) → Ext (rowS p (L ++ [x]) bk) H H' → K (.iface 166 (ptrQ x.q)) H') :
    callI Tryz.prog (.iface 168 (ptrQ p)) "Pop" [] K H := by
  obtain ⟨v0, h1, h2⟩ := h.sl
  rcases h2.is with ⟨_, h3, _⟩ | ⟨b, c, cap, hb, rfl, hbc, hcs, hn, hci⟩
  · simp at h3
  subst hb
  simp only [List.length_append, List.length_cons, List.length_nil, Nat.zero_add, Nat.mul_one, List.map_append, List.map_cons, List.map_nil] at h1 hn hci hcs
  have hxl : (L ++ [x])[L.length]? = some x := by simp
  have hcl : c[L.length]? = some (ptrQ x.q) := by
    rw [hci _ (by omega)]; simp
  have hlsz : L.length < c.size := by omega
  have tx := h.th L.length x hxl
  have hxm : x ∈ L ++ [x] := by simp
  have hxb : x.q ≠ b := fun e => h.qb x hxm (by rw [e])
  have hxp := h.qp x hxm
  have hbp : p ≠ b := fun e => h.bp (by rw [e])
  rw [callI_Pop]
  refine f238.call ?_
  have e0 : IntKind.i64.wrap (((L.length + 1 : Nat) : Int) - 1) = (L.length : Int) := by rw [wrap64_id (by omega) (by omega)]; omega
  have e1 : (0 + Int.toNat (L.length : Int) * 1) = L.length := by omega
  have r0 := fun (K : Value → HPred) => rd_blk (K := K) (o := 0) (v := .slice (some ⟨b, 0, none⟩) (L.length + 1) cap) h1 rfl
  have s1 := fun (C : HPred) => st_blk (C := C) (v := .pointer none) hbc hlsz rfl
  have h1' := (upd_ne (H := H) (x := .cells (c.setIfInBounds L.length (.pointer none)) 166 (0, 0)) hbp).trans h1
  have r1 := fun (K : Value → HPred) => rd_blk (K := K) (o := 0) (v := .slice (some ⟨b, 0, none⟩) (L.length + 1) cap) h1' rfl
  have s2 := fun (C : HPred) => st_blk (C := C) (v := .slice (some ⟨b, 0, none⟩) (L.length : Int).toNat cap) h1' (o := 0) (by simp) rfl
  have hx2 := mkI_thing x.q
  have hsl := slice_hi (P := Tryz.prog) (b := b) (o := 0) (n := L.length + 1) (cap := cap) (k := .i64) (h := (L.length : Int)) Tryz.underlying152 Tryz.type166 (Int.natCast_nonneg _) (by omega)
  unfold ptrQ at hx2
  simp only [f238.b, ptrQ, nilV_ptr, opt_some, r0, len_slice Tryz.underlying152, int_sub, e0, idxS_eq (i := (L.length : Int)) (len := L.length + 1) (Int.natCast_nonneg _) (by omega), e1, rd_blk hbc hcl, s1, r1,
    hsl, s2, hx2]
  refine hk _ ?_ ?_ ?_
  · refine ⟨⟨_, upd_self h1', ?_⟩, ?_, ?_, h.bp, fun z hz => h.qp z (List.mem_append_left _ hz), fun z hz => h.qb z (List.mem_append_left _ hz)⟩
    · refine ⟨by simp, .inr ⟨b, c.setIfInBounds L.length (.pointer none), cap, rfl, by simp, ?_, by simpa using hcs, by omega, fun k hk => ?_⟩⟩
      · rw [upd_ne (fun e => hbp e.symm)]; exact upd_self hbc
      · rw [Array.getElem?_setIfInBounds_ne (by omega), hci k (by omega), List.getElem?_append_left (by simpa using hk)]
    · intro i z hz
      have hzl := (List.getElem?_eq_some_iff.1 hz).1
      have hz' : (L ++ [x])[i]? = some z := by rw [List.getElem?_append_left hzl]; exact hz
      have hzm := List.mem_of_getElem? hz'
      rw [upd_ne (h.qp z hzm), upd_ne (fun e => h.qb z hzm (by rw [e]))]; exact h.th i z hz'
    · have := h.nd
      rw [List.map_append, List.nodup_append] at this
      exact this.1
  · rw [upd_ne hxp, upd_ne hxb]; exact tx
  · refine (Ext.mono (ext_upd _ _ _) ?_).trans' (Ext.mono (ext_upd _ _ _) ?_)
    · rintro _ _ rfl; exact .inr (.inl rfl)
    · rintro _ _ rfl; exact .inl rfl

theorem row_push {H : Hp} {p : Nat} {mv : Value} {L : List Thing} {x : Thing} {pl : Value} {bk : Option Nat} (h : RowAt H p mv L bk) (hmax : L.length < 2 ^ 40)
    (hx : H[x.q]? = some (.cells #[.int .i64 x.id, .int .i64 x.tm, pl] 165 (0, 0))) (hxn : ¬ rowS p L bk x.q)
    {K : Value → HPred} (hk : ∀ H' bk', RowAt H' p mv (L ++ [x]) bk' → Ext (rowS p (L ++ [x]) bk) H H' → (∀ b, bk' = some b → bk = some b ∨ H.size ≤ b) → K (.tuple #[]) H') :
    callI Tryz.prog (.iface 168 (ptrQ p)) "Push" [.iface 166 (ptrQ x.q)] K H := by
  obtain ⟨v0, h1, h2⟩ := h.sl
  have hxp : x.q ≠ p := fun e => hxn (.inl e)
  have hxb : bk ≠ some x.q := fun e => hxn (.inr (.inl e))
  have hxL : x.q ∉ L.map (·.q) := fun e => hxn (.inr (.inr e))
  have hv : ∃ a cap, v0 = .slice a L.length cap := by
    rcases h2.is with ⟨_, h3, h4⟩ | ⟨b, c, cap, _, h4, _⟩
    · exact ⟨none, 0, by rw [h4, h3]⟩
    · exact ⟨_, cap, h4⟩
  obtain ⟨a, cap, rfl⟩ := hv
  rw [callI_Push]
  refine f239.call ?_
  have r0 := fun (K : Value → HPred) => rd_blk (K := K) (o := 0) (v := .slice a L.length cap) h1 rfl
  have s1 := fun (C : HPred) => st_blk (C := C) (v := .int .i64 L.length) hx (o := 0 + 2) (by simp) rfl
  have h1' := (upd_ne (H := H) (x := .cells (#[.int .i64 x.id, .int .i64 x.tm, pl].setIfInBounds (0 + 2) (.int .i64 L.length)) 165 (0, 0)) (fun e => hxp e.symm)).trans h1
  have r1 := fun (K : Value → HPred) => rd_blk (K := K) (o := 0) (v := .slice a L.length cap) h1' rfl
  have ha := as_thing x.q
  have hb := bs_thing x.q
  unfold ptrQ at ha hb
  simp only [f239.b, ptrQ, ha, opt_some, nilV_ptr, r0, len_slice Tryz.underlying152, offV_ptr, s1, r1, hb]
  generalize hH1 : upd H x.q (.cells (#[.int .i64 x.id, .int .i64 x.tm, pl].setIfInBounds (0 + 2) (.int .i64 L.length)) 165 (0, 0)) = H1
  have tx1 : H1[x.q]? = some (thingO x L.length) := by rw [← hH1]; exact upd_self hx
  have ex1 : Ext (· = x.q) H H1 := by rw [← hH1]; exact ext_upd _ _ _
  rw [hH1] at h1'
  have row1 : RowAt H1 p mv L bk := h.ext ex1 fun b hb e => hxn (e ▸ hb)
  have ex2 := ext_push none' H1 (.cells #[.pointer (some ⟨x.q, 0, none⟩)] 166)
  generalize hH2 : H1.push (.cells #[.pointer (some ⟨x.q, 0, none⟩)] 166) = H2 at ex2
  have hl2 : Lies H2 (.slice (some ⟨H1.size, 0, none⟩) 1 1) 166 1 1 [ptrQ x.q] :=
    ⟨rfl, .inr ⟨H1.size, 0, _, 1, _, _, rfl, by rw [← hH2]; exact push_new _ _, by simp, fun i hi => by
      have : i = 0 := by omega
      subst this; rfl⟩⟩
  have row2 : RowAt H2 p mv L bk := row1.ext ex2 fun _ _ e => e
  obtain ⟨v2, g1, g2⟩ := row2.sl
  have hv2 : v2 = .slice a L.length cap := by
    have := (ex2.blk h1' id).symm.trans g1
    simp only [Option.some.injEq, Obj.cells.injEq, Array.mk.injEq, List.cons.injEq] at this
    exact this.1.1.symm
  subst hv2
  have tx2 : H2[x.q]? = some (thingO x L.length) := ex2.blk tx1 id
  refine append_own (sz := 1) (n := L.length) (k := 1) Tryz.underlying152 ⟨_, Tryz.underlying152, by intro q e; cases e⟩ Tryz.type166 rfl rfl rfl (Nat.le_refl _) (by decide) g2 hl2 (by simp [ptrQ, oneCell]) ?_ ?_
  · show (2 * (L.length + 1) + 192) * 8 ≤ 2 ^ 48
    omega
  intro v' H3 bk' ho ex3 hbk'
  have hpn : ¬ bk = some p := h.bp
  have h3 : H3[p]? = some (.cells #[.slice a L.length cap, mv] 154 (0, 0)) := ex3.blk g1 hpn
  have hv' : oneCell v' = true := by
    rcases ho.is with ⟨_, _, h4⟩ | ⟨_, _, _, _, h4, _⟩ <;> rw [h4] <;> rfl
  have s2 := fun (C : HPred) => st_blk (C := C) (v := v') h3 (o := 0) (by simp) hv'
  simp only [opt_some, s2]
  have hfr : ∀ b, bk' = some b → bk = some b ∨ H2.size ≤ b := by
    intro b hb
    rcases hbk' with e | ⟨b', e, hle⟩
    · exact .inl (e ▸ hb)
    · rw [hb] at e; cases e; exact .inr hle
  have hnot : ∀ b, b < H2.size → bk ≠ some b → bk' ≠ some b := fun b hb hn e => by
    rcases hfr b e with h5 | h5
    · exact hn h5
    · omega
  have hp2 : p < H2.size := blk_lt g1
  have hzin : ∀ z ∈ L ++ [x], z.q < H2.size ∧ z.q ≠ p ∧ bk ≠ some z.q := by
    intro z hz
    rcases List.mem_append.1 hz with hz | hz
    · obtain ⟨i, hi, rfl⟩ := List.getElem_of_mem hz
      exact ⟨blk_lt (row2.th i _ (List.getElem?_eq_getElem hi)), h.qp _ (List.getElem_mem hi), h.qb _ (List.getElem_mem hi)⟩
    · rw [List.mem_singleton.1 hz]; exact ⟨blk_lt tx2, hxp, hxb⟩
  refine hk _ bk' ⟨⟨v', upd_self h3, ?_⟩, ?_, ?_, hnot p hp2 h.bp, fun z hz => (hzin z hz).2.1, fun z hz => hnot _ (hzin z hz).1 (hzin z hz).2.2⟩ ?_ ?_
  · rw [List.length_append, List.map_append]
    exact ho.ext (ext_upd _ _ _) fun b hb e => by subst e; exact hnot _ hp2 h.bp hb
  · intro i z hz
    have hzm := List.mem_of_getElem? hz
    obtain ⟨z1, z2, z3⟩ := hzin z hzm
    rw [upd_ne z2]
    refine ex3.blk ?_ z3
    by_cases hi : i < L.length
    · rw [List.getElem?_append_left hi] at hz; exact row2.th i z hz
    · have hil : i = L.length := by
        have := (List.getElem?_eq_some_iff.1 hz).1
        simp at this; omega
      subst hil
      rw [List.getElem?_append_right (Nat.le_refl _)] at hz
      simp at hz
      subst hz
      exact tx2
  · rw [List.map_append, List.nodup_append]
    refine ⟨h.nd, by simp, ?_⟩
    intro u hu w hw e
    simp at hw
    subst hw; subst e
    exact hxL hu
  · have a1 : Ext (rowS p (L ++ [x]) bk) H H1 := ex1.mono fun b _ e => by subst e; exact .inr (.inr (by simp))
    have a3 : Ext (rowS p (L ++ [x]) bk) H2 H3 := ex3.mono fun b _ e => .inr (.inl e)
    have a4 : Ext (rowS p (L ++ [x]) bk) H3 (upd H3 p (.cells (#[.slice a L.length cap, mv].setIfInBounds 0 v') 154 (0, 0))) := (ext_upd _ _ _).mono fun b _ e => .inl e
    exact ((a1.then0 ex2).trans' a3).trans' a4
  · intro b hb
    rcases hfr b hb with h5 | h5
    · exact .inl h5
    · exact .inr (Nat.le_trans (Nat.le_trans ex1.size ex2.size) h5)

end Go.Proofs.YtnnheophehnioaaGreat
namespace Go.Proofs.YtnnheophehnioaaGreat
open Go.Sx Go.Proofs Go.Gm
set_option maxRecDepth 100000

theorem rowS_perm {p : Nat} {L L' : List Thing} {bk : Option Nat} (h : L.Perm L') : ∀ b, rowS p L bk b → rowS p L' bk b := by
  rintro b (h1 | h1 | h1)
  · exact .inl h1
  · exact .inr (.inl h1)
  · exact .inr (.inr ((h.map _).mem_iff.1 h1))
theorem getD_eq {L : List Thing} {i : Nat} (h : i < L.length) : L[i]? = some (L.getD i default) := by
  rw [List.getD_eq_getElem?_getD, List.getElem?_eq_getElem h]; rfl

theorem up_loop {p : Nat} {mv : Value} {bk : Option Nat} {R : Value → HPred} : ∀ (f : Nat) (L : List Thing) (j : Nat) (H : Hp), j < f → j < L.length → L.length < 2 ^ 40 → RowAt H p mv L bk →
    (∀ H', RowAt H' p mv (upL f L j) bk → Ext (rowS p L bk) H H' → R (.tuple #[]) H') →
    f118.at0 R (.iface 168 (ptrQ p)) (.int .i64 j) H := by
  intro f
  induction f with
  | zero => intro L j H h; omega
  | succ f ih =>
    intro L j H hf hj hmax hr hk
    refine f118.b0_ok ?_
    have ei : IntKind.i64.wrap (Int.tdiv (IntKind.i64.wrap ((j : Int) - 1)) 2) = (((j - 1) / 2 : Nat) : Int) := by
      rw [wrap64_id (a := (j : Int) - 1) (by omega) (by omega)]
      by_cases h0 : j = 0
      · subst h0; rfl
      · rw [Int.tdiv_eq_ediv_of_nonneg (by omega), wrap64_id (by omega) (by omega)]; omega
    have hij : (j - 1) / 2 < L.length := by omega
    simp only [upL] at hk
    by_cases hc : (j - 1) / 2 = j
    · have hc' : (((j - 1) / 2 : Nat) : Int) = (j : Int) := by rw [hc]
      rw [if_pos (.inl hc)] at hk
      simp only [f118.b0, int_sub, opt_some, int_quo _ _ _ _ _ _ (show (2 : Int) ≠ 0 by decide), ei, int_eql, decide_eq_true hc', grd_tf, pick_true, cnd_true]
      exact hk H hr (Ext.refl _ _)
    · have hc' : ¬ (((j - 1) / 2 : Nat) : Int) = (j : Int) := by omega
      simp only [f118.b0, int_sub, opt_some, int_quo _ _ _ _ _ _ (show (2 : Int) ≠ 0 by decide), ei, int_eql, decide_eq_false hc', grd_ff]
      refine row_less hr (getD_eq hj) (getD_eq hij) ?_
      by_cases hl : (L.getD j default).lt (L.getD ((j - 1) / 2) default) = true
      · rw [if_neg (by rintro (h | h) <;> first | exact hc h | exact h hl)] at hk
        simp only [hl, un_not, opt_some, Bool.not_true, pick_false, cnd_false]
        refine row_swap hr hc hij hj ?_
        intro H' hr' hx
        have hp := swapL_perm hij hj
        refine ih _ _ H' (by omega) (by rw [swapL_length]; exact hij) (by rw [swapL_length]; exact hmax) hr' ?_
        intro H'' hr'' hx'
        exact hk H'' hr'' (hx.trans' (hx'.mono fun b _ hb => rowS_perm hp b hb))
      · rw [if_pos (.inr hl)] at hk
        have hl' : (L.getD j default).lt (L.getD ((j - 1) / 2) default) = false := by simpa using hl
        simp only [hl', un_not, opt_some, Bool.not_false, pick_false, cnd_true]
        exact hk H hr (Ext.refl _ _)
theorem up_ok {p : Nat} {mv : Value} {bk : Option Nat} {K : Value → HPred} {f : Nat} {L : List Thing} {j : Nat} {H : Hp} (hf : j < f) (hj : j < L.length) (hmax : L.length < 2 ^ 40) (hr : RowAt H p mv L bk)
    (hk : ∀ H', RowAt H' p mv (upL f L j) bk → Ext (rowS p L bk) H H' → K (.tuple #[]) H') :
    callF Tryz.prog 118 [.iface 168 (ptrQ p), .int .i64 j] K H :=
  f118.call (up_loop f L j H hf hj hmax hr hk)

theorem down_stop {x : Value} {R : Value → HPred} {i0 i n m : Nat} {H : Hp} (h1 : n ≤ 2 * i + 1) (hi : i < m) (hmax : m < 2 ^ 40) (hk : R (.bool (decide (i0 < i))) H) :
    f117.at2 R x (.int .i64 i0) (.int .i64 n) (.int .i64 i) H := by
  refine f117.b2_ok ?_
  have e1 : IntKind.i64.wrap (IntKind.i64.wrap (2 * (i : Int)) + 1) = ((2 * i + 1 : Nat) : Int) := by
    rw [wrap64_id (a := 2 * (i : Int)) (by omega) (by omega), wrap64_id (by omega) (by omega)]; omega
  have h1' : ((2 * i + 1 : Nat) : Int) ≥ (n : Int) := by omega
  simp only [f117.b2, int_mul, int_add, opt_some, e1, int_geq, decide_eq_true h1', grd_tf, pick_true, cnd_true]
  refine f117.b11_ok ?_
  simp only [f117.b11, int_gtr, opt_some]
  have e : decide ((i : Int) > (i0 : Int)) = decide (i0 < i) := by simp
  rw [e]; exact hk
theorem down_loop {p : Nat} {mv : Value} {bk : Option Nat} {R : Value → HPred} {i0 : Nat} : ∀ (f : Nat) (L : List Thing) (i n : Nat) (H : Hp), n ≤ f + i → n ≤ L.length → i < L.length → L.length < 2 ^ 40 → RowAt H p mv L bk →
    (∀ H', RowAt H' p mv (downL f L i n).1 bk → Ext (rowS p L bk) H H' → R (.bool (decide (i0 < (downL f L i n).2))) H') →
    f117.at2 R (.iface 168 (ptrQ p)) (.int .i64 i0) (.int .i64 n) (.int .i64 i) H := by
  intro f
  induction f with
  | zero =>
    intro L i n H hf hn hi hmax hr hk
    exact down_stop (by omega) (by omega) hmax (hk H hr (Ext.refl _ _))
  | succ f ih =>
    intro L i n H hf hn hi hmax hr hk
    have e1 : IntKind.i64.wrap (IntKind.i64.wrap (2 * (i : Int)) + 1) = ((2 * i + 1 : Nat) : Int) := by
      rw [wrap64_id (a := 2 * (i : Int)) (by omega) (by omega), wrap64_id (by omega) (by omega)]; omega
    have e2 : IntKind.i64.wrap (((2 * i + 1 : Nat) : Int) + 1) = ((2 * i + 1 + 1 : Nat) : Int) := by
      rw [wrap64_id (by omega) (by omega)]; omega
    simp only [downL] at hk
    by_cases h1 : n ≤ 2 * i + 1
    · have h1' : ((2 * i + 1 : Nat) : Int) ≥ (n : Int) := by omega
      rw [if_pos h1] at hk
      exact down_stop h1 hi hmax (hk H hr (Ext.refl _ _))
    · have h1' : ¬ ((2 * i + 1 : Nat) : Int) ≥ (n : Int) := by omega
      refine f117.b2_ok ?_
      have h1n : ¬ ((2 * i + 1 : Nat) : Int) < 0 := by omega
      rw [if_neg h1] at hk
      have tail : ∀ j, j < n → i ≠ j → i < j →
          (∀ H', RowAt H' p mv (if ¬ (L.getD j default).lt (L.getD i default) = true then (L, i) else downL f (swapL L i j) j n).1 bk → Ext (rowS p L bk) H H' →
            R (.bool (decide (i0 < (if ¬ (L.getD j default).lt (L.getD i default) = true then (L, i) else downL f (swapL L i j) j n).2))) H') →
          f117.at8 R (.iface 168 (ptrQ p)) (.int .i64 i0) (.int .i64 n) (.int .i64 i) (.int .i64 j) H := by
        intro j hjn hij hlt hk
        refine f117.b8_ok ?_
        unfold f117.b8
        refine row_less hr (getD_eq (by omega)) (getD_eq hi) ?_
        by_cases hl : (L.getD j default).lt (L.getD i default) = true
        · rw [if_neg (by simpa using hl)] at hk
          simp only [hl, un_not, opt_some, Bool.not_true, cnd_false]
          refine row_swap hr hij hi (by omega) ?_
          intro H' hr' hx
          have hp := swapL_perm hi (show j < L.length by omega)
          refine ih _ _ n H' (by omega) (by rw [swapL_length]; exact hn) (by rw [swapL_length]; omega) (by rw [swapL_length]; exact hmax) hr' ?_
          intro H'' hr'' hx'
          exact hk H'' hr'' (hx.trans' (hx'.mono fun b _ hb => rowS_perm hp b hb))
        · rw [if_pos hl] at hk
          have hl' : (L.getD j default).lt (L.getD i default) = false := by simpa using hl
          simp only [hl', un_not, opt_some, Bool.not_false, cnd_true]
          refine f117.b11_ok ?_
          simp only [f117.b11, int_gtr, opt_some]
          have := hk H hr (Ext.refl _ _)
          have e : decide ((i : Int) > (i0 : Int)) = decide (i0 < i) := by simp
          rw [e]; exact this
      by_cases h2 : 2 * i + 1 + 1 < n
      · have h2' : ((2 * i + 1 + 1 : Nat) : Int) < (n : Int) := by omega
        simp only [f117.b2, int_mul, int_add, opt_some, e1, e2, int_geq, decide_eq_false h1', grd_ff, int_lss, decide_eq_false h1n, pick_false, cnd_false, decide_eq_true h2', grd_tt]
        refine row_less hr (getD_eq (by omega)) (getD_eq (by omega)) ?_
        by_cases hl : (L.getD (2 * i + 1 + 1) default).lt (L.getD (2 * i + 1) default) = true
        · have ej : (if 2 * i + 1 + 1 < n ∧ (L.getD (2 * i + 1 + 1) default).lt (L.getD (2 * i + 1) default) = true then 2 * i + 1 + 1 else 2 * i + 1) = 2 * i + 1 + 1 := if_pos ⟨h2, hl⟩
          rw [ej] at hk
          simp only [hl, pick_true, opt_some, cnd_true]
          exact tail _ h2 (by omega) (by omega) hk
        · have ej : (if 2 * i + 1 + 1 < n ∧ (L.getD (2 * i + 1 + 1) default).lt (L.getD (2 * i + 1) default) = true then 2 * i + 1 + 1 else 2 * i + 1) = 2 * i + 1 := if_neg (fun e => hl e.2)
          rw [ej] at hk
          have hl' : (L.getD (2 * i + 1 + 1) default).lt (L.getD (2 * i + 1) default) = false := by simpa using hl
          simp only [hl', pick_true, opt_some, cnd_false]
          exact tail _ (by omega) (by omega) (by omega) hk
      · have h2' : ¬ ((2 * i + 1 + 1 : Nat) : Int) < (n : Int) := by omega
        have ej : (if 2 * i + 1 + 1 < n ∧ (L.getD (2 * i + 1 + 1) default).lt (L.getD (2 * i + 1) default) = true then 2 * i + 1 + 1 else 2 * i + 1) = 2 * i + 1 := if_neg (fun e => h2 e.1)
        rw [ej] at hk
        simp only [f117.b2, int_mul, int_add, opt_some, e1, e2, int_geq, decide_eq_false h1', grd_ff, int_lss, decide_eq_false h1n, pick_false, cnd_false, decide_eq_false h2', grd_ft]
        exact tail _ (by omega) (by omega) (by omega) hk

theorem down_ok {p : Nat} {mv : Value} {bk : Option Nat} {K : Value → HPred} {f : Nat} {L : List Thing} {i n : Nat} {H : Hp} (hf : n ≤ f + i) (hn : n ≤ L.length) (hi : i < L.length) (hmax : L.length < 2 ^ 40) (hr : RowAt H p mv L bk)
    (hk : ∀ H', RowAt H' p mv (downL f L i n).1 bk → Ext (rowS p L bk) H H' → K (.bool (decide (i < (downL f L i n).2))) H') :
    callF Tryz.prog 117 [.iface 168 (ptrQ p), .int .i64 i, .int .i64 n] K H :=
  f117.call (down_loop f L i n H hf hn hi hmax hr hk)
theorem fix_ok {p : Nat} {mv : Value} {bk : Option Nat} {K : Value → HPred} {L : List Thing} {i : Nat} {H : Hp} (hi : i < L.length) (hmax : L.length < 2 ^ 40) (hr : RowAt H p mv L bk)
    (hk : ∀ H', RowAt H' p mv (fixL L i) bk → Ext (rowS p L bk) H H' → K (.tuple #[]) H') :
    callF Tryz.prog 102 [.iface 168 (ptrQ p), .int .i64 i] K H := by
  refine f102.call ?_
  unfold f102.b
  refine row_len hr ?_
  refine down_ok (f := L.length + 1) (by omega) (Nat.le_refl _) hi hmax hr ?_
  intro H' hr' hx
  obtain ⟨hp, hd2⟩ := downL_perm (L.length + 1) L i L.length hi (Nat.le_refl _)
  have hlen := hp.length_eq
  unfold fixL at hk
  by_cases hc : i < (downL (L.length + 1) L i L.length).2
  · simp only [hc, if_true] at hk
    simp only [decide_eq_true hc, un_not, opt_some, Bool.not_true, cnd_false]
    exact hk H' hr' hx
  · simp only [hc, if_false] at hk
    simp only [decide_eq_false hc, un_not, opt_some, Bool.not_false, cnd_true]
    refine up_ok (f := i + 1) (by omega) (by omega) (by omega) hr' ?_
    intro H'' hr'' hx'
    exact hk H'' hr'' (hx.trans' (hx'.mono fun b _ hb => rowS_perm hp b hb))
theorem remove_ok {p : Nat} {mv : Value} {bk : Option Nat} {K : Value → HPred} {L : List Thing} {i : Nat} {H : Hp} (hi : i < L.length) (hmax : L.length < 2 ^ 40) (hr : RowAt H p mv L bk)
    (hk : ∀ H', RowAt H' p mv (removeL L i).1 bk → H'[(removeL L i).2.q]? = some (thingO (removeL L i).2 (L.length - 1)) → Ext (rowS p L bk) H H' → K (.iface 166 (ptrQ (removeL L i).2.q)) H') :
    callF Tryz.prog 77 [.iface 168 (ptrQ p), .int .i64 i] K H := by
  refine f77.call ?_
  unfold f77.b
  refine row_len hr ?_
  have en : IntKind.i64.wrap ((L.length : Int) - 1) = ((L.length - 1 : Nat) : Int) := by rw [wrap64_id (by omega) (by omega)]; omega
  simp only [int_sub, opt_some, en, int_neq]
  have fin : ∀ (L1 : List Thing) (H1 : Hp), L1.Perm L → (removeL L i) = (L1.take (L.length - 1), L1.getD (L.length - 1) default) → RowAt H1 p mv L1 bk → Ext (rowS p L bk) H H1 →
      f77.at6 K (.iface 168 (ptrQ p)) H1 := by
    intro L1 H1 hp he hr1 hx1
    have hlen := hp.length_eq
    rw [he] at hk
    simp only at hk
    have hsplit : L1 = L1.take (L.length - 1) ++ [L1.getD (L.length - 1) default] := by
      have hd : L1.drop (L.length - 1) = [L1.getD (L.length - 1) default] := by
        rw [List.drop_eq_getElem_cons (by omega), List.drop_of_length_le (by omega), List.getD_eq_getElem?_getD, List.getElem?_eq_getElem (by omega)]; rfl
      rw [← hd, List.take_append_drop]
    refine f77.b6_ok ?_
    unfold f77.b6
    have htl : (L1.take (L.length - 1)).length = L.length - 1 := by simp; omega
    have hr1' := hr1
    rw [hsplit] at hr1'
    refine row_pop hr1' (by rw [htl]; omega) ?_
    intro H2 hr2 ht2 hx2
    rw [htl] at ht2
    refine hk H2 hr2 ht2 (hx1.trans' (hx2.mono fun b _ hb => ?_))
    rw [← hsplit] at hb
    exact rowS_perm hp b hb
  by_cases hc : L.length - 1 = i
  · have hc' : ((L.length - 1 : Nat) : Int) = (i : Int) := by omega
    simp only [decide_eq_true hc', Bool.not_true, cnd_false]
    exact fin L H (List.Perm.refl _) (by simp only [removeL, if_pos hc]) hr (Ext.refl _ _)
  · have hc' : ¬ ((L.length - 1 : Nat) : Int) = (i : Int) := by omega
    simp only [decide_eq_false hc', Bool.not_false, cnd_true]
    have hn1 : L.length - 1 < L.length := by omega
    refine row_swap hr (by omega) hi hn1 ?_
    intro H1 hr1 hx1
    have hps := swapL_perm hi hn1
    have hsl := swapL_length L i (L.length - 1)
    refine down_ok (f := L.length + 1) (by omega) (by omega) (by omega) (by omega) hr1 ?_
    intro H2 hr2 hx2
    obtain ⟨hp, hd2⟩ := downL_perm (L.length + 1) (swapL L i (L.length - 1)) i (L.length - 1) (by omega) (by omega)
    have hx12 := hx1.trans' (hx2.mono fun b _ hb => rowS_perm hps b hb)
    by_cases hd : i < (downL (L.length + 1) (swapL L i (L.length - 1)) i (L.length - 1)).2
    · simp only [decide_eq_true hd, un_not, opt_some, Bool.not_true, cnd_false]
      exact fin _ H2 (hp.trans hps) (by simp only [removeL, if_neg hc, if_pos hd]) hr2 hx12
    · simp only [decide_eq_false hd, un_not, opt_some, Bool.not_false, cnd_true]
      have hl2 := hp.length_eq
      refine up_ok (f := i + 1) (by omega) (by omega) (by omega) hr2 ?_
      intro H3 hr3 hx3
      have hpu := upL_perm (i + 1) (downL (L.length + 1) (swapL L i (L.length - 1)) i (L.length - 1)).1 i (by omega)
      exact fin _ H3 (hpu.trans (hp.trans hps)) (by simp only [removeL, if_neg hc, if_neg hd]) hr3 (hx12.trans' (hx3.mono fun b _ hb => rowS_perm (hp.trans hps) b hb))
theorem push_ok {p : Nat} {mv : Value} {bk : Option Nat} {K : Value → HPred} {L : List Thing} {x : Thing} {pl : Value} {H : Hp} (hmax : L.length < 2 ^ 39) (hr : RowAt H p mv L bk)
    (hx : H[x.q]? = some (.cells #[.int .i64 x.id, .int .i64 x.tm, pl] 165 (0, 0))) (hxn : ¬ rowS p L bk x.q)
    (hk : ∀ H' bk', RowAt H' p mv (pushL L x) bk' → Ext (rowS p (L ++ [x]) bk) H H' → (∀ b, bk' = some b → bk = some b ∨ H.size ≤ b) → K (.tuple #[]) H') :
    callF Tryz.prog 103 [.iface 168 (ptrQ p), .iface 166 (ptrQ x.q)] K H := by
  refine f103.call ?_
  unfold f103.b
  refine row_push hr (by omega) hx hxn ?_
  intro H1 bk' hr1 hx1 hb1
  refine row_len hr1 ?_
  have en : IntKind.i64.wrap (((L ++ [x]).length : Int) - 1) = (L.length : Int) := by
    simp only [List.length_append, List.length_cons, List.length_nil]
    rw [wrap64_id (by omega) (by omega)]; omega
  simp only [int_sub, opt_some, en]
  refine up_ok (f := L.length + 1) (by omega) (by simp) (by simp; omega) hr1 ?_
  intro H2 hr2 hx2
  refine hk H2 bk' hr2 ?_ hb1
  refine hx1.trans hx2 fun b hb => ?_
  rintro (h | h | h | h)
  · exact h
  · exact .inl h
  · rcases hb1 b h with h | h
    · exact .inr (.inl h)
    · omega
  · exact .inr (.inr h)

end Go.Proofs.YtnnheophehnioaaGreat
namespace Go.Proofs.YtnnheophehnioaaGreat
open Go.Sx Go.Proofs Go.Gm
set_option maxRecDepth 100000

/-- F, and what was made anew from H to H'. -/
def Grow (F : Nat → Prop) (H H' : Hp) : Nat → Prop := fun b => F b ∨ (H.size ≤ b ∧ b < H'.size)
structure TimIn (H : Hp) (p : Nat) (A : TL) (F : Nat → Prop) (L : List Thing) (bk : Option Nat) (bm : Nat) (es : Array MapEntry) (clk : Nat) (m : List (Int × Value)) : Prop where
  row : RowAt H p (.map (some bm)) L bk
  blk : H[bm]? = some (.map es clk)
  hol : Holds keyInt es m
  get : (L.map fun x => (x.id, ptrQ x.q)).Perm m
  ord : Ord L L.length
  prm : (L.map fun x => (x.id, x.tm)).Perm A
  nd : (A.map (·.1)).Nodup
  own : ∀ b, rowS p L bk b ∨ b = bm → F b
  out : ¬ rowS p L bk bm
  lt : ∀ b, F b → b < H.size
/-- At p lie Timers with the times A; F has their blocks. -/
def TimAt (H : Hp) (p : Nat) (A : TL) (F : Nat → Prop) : Prop := ∃ L bk bm es clk m, TimIn H p A F L bk bm es clk m
theorem TimAt.lt {H : Hp} {p : Nat} {A : TL} {F : Nat → Prop} (h : TimAt H p A F) : ∀ b, F b → b < H.size := by
  obtain ⟨L, bk, bm, es, clk, m, h⟩ := h; exact h.lt
theorem TimAt.ext {S : Nat → Prop} {H H' : Hp} {p : Nat} {A : TL} {F : Nat → Prop} (h : TimAt H p A F) (hx : Ext S H H') (hn : ∀ b, F b → ¬ S b) : TimAt H' p A F := by
  obtain ⟨L, bk, bm, es, clk, m, h⟩ := h
  exact ⟨L, bk, bm, es, clk, m, h.row.ext hx fun b hb => hn b (h.own b (.inl hb)), hx.blk h.blk (hn _ (h.own _ (.inr rfl))), h.hol, h.get, h.ord, h.prm, h.nd, h.own, h.out, fun b hb => Nat.lt_of_lt_of_le (h.lt b hb) hx.size⟩
theorem TimAt.perm {H : Hp} {p : Nat} {A B : TL} {F : Nat → Prop} (h : TimAt H p A F) (hp : A.Perm B) : TimAt H p B F := by
  obtain ⟨L, bk, bm, es, clk, m, h⟩ := h
  exact ⟨L, bk, bm, es, clk, m, h.row, h.blk, h.hol, h.get, h.ord, h.prm.trans hp, (hp.map _).nodup_iff.1 h.nd, h.own, h.out, h.lt⟩
theorem TimAt.nodup {H : Hp} {p : Nat} {A : TL} {F : Nat → Prop} (h : TimAt H p A F) : (A.map (·.1)).Nodup := by
  obtain ⟨L, bk, bm, es, clk, m, h⟩ := h; exact h.nd

theorem makeMap_eq (P : Program) (T : TypeId) (C : Value → HPred) (H : Hp) : tot P (Instr.makeMap T none) C H = C (.map (some H.size)) (H.push (.map #[] 0)) := rfl
theorem bld_timers (b : Option Nat) : pureRun Tryz.prog (Instr.build 154 #[(1, .map b)]) = some (.agg #[.slice none 0 0, .map b]) := by kernel_rfl
theorem bld_thing (a b : Int) : pureRun Tryz.prog (Instr.build 165 #[(0, .int .i64 a), (1, .int .i64 b)]) = some (.agg #[.int .i64 a, .int .i64 b, .int .i64 0]) := by kernel_rfl

/-- New. -/
theorem timers_new {H : Hp} {K : Value → HPred} (hk : ∀ H' p, H.size ≤ p → p < H'.size → Ext0 H H' → TimAt H' p [] (Grow none' H H') → K (ptrQ p) H') : callF Tryz.prog 25 [] K H := by
  refine f25.call ?_
  simp only [f25.b, makeMap_eq, bld_timers, opt_some, boxM_eq, Value.cells]
  have e : (H.push (Obj.map #[] 0)).size = H.size + 1 := by simp
  refine hk _ _ (by omega) (by simp only [Array.size_push]; omega) ((ext_push _ _ _).trans' (ext_push _ _ _)) ⟨[], none, H.size, #[], 0, [], ?_⟩
  rw [e]
  refine ⟨⟨⟨.slice none 0 0, ?_, OwnS.nil _ _ _⟩, by simp, by simp, by simp, by simp, by simp⟩, ?_, ⟨rfl, by simp⟩, by simp, fun k k0 kl => by simp at kl, by simp, by simp, ?_, ?_, ?_⟩
  · rw [← e, push_new]
  · rw [Array.getElem?_push, if_neg (by omega)]; simp
  · intro b hb
    rcases hb with (rfl | hb | hb) | rfl
    · exact .inr ⟨by omega, by simp only [Array.size_push]; omega⟩
    · cases hb
    · simp at hb
    · exact .inr ⟨by omega, by simp only [Array.size_push]; omega⟩
  · rintro (hb | hb | hb)
    · omega
    · cases hb
    · simp at hb
  · rintro b (hb | hb)
    · exact hb.elim
    · exact hb.2

theorem TimIn.len {H : Hp} {p : Nat} {A : TL} {F : Nat → Prop} {L : List Thing} {bk : Option Nat} {bm : Nat} {es : Array MapEntry} {clk : Nat} {m : List (Int × Value)} (h : TimIn H p A F L bk bm es clk m) : L.length = A.length := by
  have := h.prm.length_eq; simpa using this

/-- Len. -/
theorem timers_len {H : Hp} {p : Nat} {A : TL} {F : Nat → Prop} (h : TimAt H p A F) {K : Value → HPred} (hk : K (.int .i64 A.length) H) : callF Tryz.prog 75 [ptrQ p] K H := by
  obtain ⟨L, bk, bm, es, clk, m, h⟩ := h
  obtain ⟨a, cap, h1, _⟩ := h.row.slice
  refine f75.call ?_
  have r := fun K => rd_blk (K := K) (o := 0 + 0) (v := .slice a L.length cap) h1 rfl
  simp only [f75.b, ptrQ, ptr_eq_nil Tryz.underlying81, Option.isNone_some, cnd_false, nilV_ptr, offV_ptr, opt_some, r, len_slice Tryz.underlying152]
  rw [h.len]; exact hk

/-- Next. -/
theorem timers_next {H : Hp} {p : Nat} {A : TL} {F : Nat → Prop} (h : TimAt H p A F) {K : Value → HPred} (h0 : A = [] → K (.tuple #[.int .i64 0, .int .i64 0, .bool false]) H)
    (h1 : ∀ x, tmin A x → K (.tuple #[.int .i64 x.1, .int .i64 x.2, .bool true]) H) : callF Tryz.prog 36 [ptrQ p] K H := by
  refine f36.call ?_
  unfold f36.b
  refine timers_len h ?_
  obtain ⟨L, bk, bm, es, clk, m, h⟩ := h
  have hl := h.len
  by_cases he : A.length = 0
  · have he' : (A.length : Int) = 0 := by omega
    simp only [int_eql, opt_some, decide_eq_true he', cnd_true]
    exact h0 (List.eq_nil_of_length_eq_zero he)
  · have he' : ¬ (A.length : Int) = 0 := by omega
    have hx : L[0]? = some (el L 0) := by unfold el; rw [List.getD_eq_getElem?_getD, List.getElem?_eq_getElem (by omega)]; rfl
    obtain ⟨a, cap, hb, hs⟩ := h.row.slice
    obtain ⟨b, c, -, rfl, hc, hi, hv⟩ := hs 0 _ hx
    have ht := h.row.th 0 _ hx
    have r := fun K => rd_blk (K := K) (o := 0 + 0) (v := .slice (some ⟨b, 0, none⟩) L.length cap) hb rfl
    have e1 : (0 + Int.toNat (0 : Int) * 1) = 0 := by omega
    have r0 : ∀ K : Value → HPred, rd (cellP (.pointer (some ⟨b, 0, none⟩))) K H = K (ptrQ (el L 0).q) H := fun K => rd_blk hc hv
    have r1 : ∀ K : Value → HPred, rd (cellP (.pointer (some ⟨(el L 0).q, 0 + 0, none⟩))) K H = K (.int .i64 (el L 0).id) H := fun K => rd_blk (o := 0 + 0) ht rfl
    have r2 : ∀ K : Value → HPred, rd (cellP (.pointer (some ⟨(el L 0).q, 0 + 1, none⟩))) K H = K (.int .i64 (el L 0).tm) H := fun K => rd_blk (o := 0 + 1) ht rfl
    have hlp : (0 : Int) < (L.length : Int) := by omega
    simp only [int_eql, opt_some, decide_eq_false he', cnd_false, ptrQ, nilV_ptr, offV_ptr, r, idxS_eq (Int.le_refl 0) hlp, e1, r0, r1, r2]
    refine h1 ((el L 0).id, (el L 0).tm) ⟨h.prm.mem_iff.1 (List.mem_map.2 ⟨_, List.mem_of_getElem? hx, rfl⟩), fun y hy => ?_⟩
    obtain ⟨z, hz, rfl⟩ := List.mem_map.1 (h.prm.mem_iff.2 hy)
    obtain ⟨i, hi, rfl⟩ := List.getElem_of_mem hz
    have := ord_first h.ord i hi
    have hel : el L i = L[i] := by unfold el; rw [List.getD_eq_getElem?_getD, List.getElem?_eq_getElem hi]; rfl
    rw [hel, lt_iff] at this
    exact this

theorem mget_mem {m : List (Int × Value)} (h : (m.map (·.1)).Nodup) {id : Int} {v : Value} : mget m id = some v ↔ (id, v) ∈ m := by
  induction m with
  | nil => simp [mget]
  | cons a m ih =>
    simp only [List.map_cons, List.nodup_cons] at h
    unfold mget at *
    rw [List.find?_cons]
    by_cases he : a.1 = id
    · subst he
      simp only [decide_true]
      constructor
      · intro e; simp at e; subst e; simp
      · intro e
        rcases List.mem_cons.1 e with e | e
        · rw [← e]; simp
        · exact absurd (List.mem_map_of_mem (f := (·.1)) e) h.1
    · simp only [decide_eq_false he]
      rw [ih h.2]
      constructor
      · exact fun e => List.mem_cons_of_mem _ e
      · intro e
        rcases List.mem_cons.1 e with e | e
        · exact absurd (by rw [← e]) he
        · exact e
theorem mget_none {m : List (Int × Value)} {id : Int} : mget m id = none ↔ id ∉ m.map (·.1) := by
  unfold mget
  simp only [Option.map_eq_none_iff, List.find?_eq_none, decide_eq_true_eq, List.mem_map, not_exists, not_and]
theorem TimIn.ids {H : Hp} {p : Nat} {A : TL} {F : Nat → Prop} {L : List Thing} {bk : Option Nat} {bm : Nat} {es : Array MapEntry} {clk : Nat} {m : List (Int × Value)} (h : TimIn H p A F L bk bm es clk m) : (L.map (·.id)).Nodup := by
  have := (h.prm.map (·.1)).nodup_iff.2 h.nd
  rwa [List.map_map] at this
/-- Where a name stands. -/
theorem TimIn.find {H : Hp} {p : Nat} {A : TL} {F : Nat → Prop} {L : List Thing} {bk : Option Nat} {bm : Nat} {es : Array MapEntry} {clk : Nat} {m : List (Int × Value)} (h : TimIn H p A F L bk bm es clk m) (id : Int) :
    (tget A id = none ∧ id ∉ A.map (·.1) ∧ mget m id = none) ∨ ∃ i, i < L.length ∧ (el L i).id = id ∧ L[i]? = some (el L i) ∧ tget A id = some (el L i).tm ∧ id ∈ A.map (·.1) ∧ mget m id = some (ptrQ (el L i).q) := by
  have hm : id ∈ A.map (·.1) ↔ ∃ x ∈ L, x.id = id := by
    rw [← (h.prm.map (·.1)).mem_iff, List.map_map, List.mem_map]; rfl
  by_cases hc : id ∈ A.map (·.1)
  · right
    obtain ⟨x, hx, rfl⟩ := hm.1 hc
    obtain ⟨i, hi, rfl⟩ := List.getElem_of_mem hx
    have hel : el L i = L[i] := by unfold el; rw [List.getD_eq_getElem?_getD, List.getElem?_eq_getElem hi]; rfl
    refine ⟨i, hi, by rw [hel], by rw [hel, List.getElem?_eq_getElem hi], ?_, hc, ?_⟩
    · rw [hel, tget_some h.nd]
      exact h.prm.mem_iff.1 (List.mem_map.2 ⟨_, hx, rfl⟩)
    · rw [mget_mem h.hol.2, hel]
      exact h.get.mem_iff.1 (List.mem_map.2 ⟨_, hx, rfl⟩)
  · left
    refine ⟨tget_none.2 hc, hc, ?_⟩
    rw [mget_none, ← (h.get.map (·.1)).mem_iff, List.map_map, List.mem_map]
    rintro ⟨x, hx, rfl⟩
    exact hc (hm.2 ⟨x, hx, rfl⟩)

end Go.Proofs.YtnnheophehnioaaGreat
namespace Go.Proofs.YtnnheophehnioaaGreat
open Go.Sx Go.Proofs Go.Gm
set_option maxRecDepth 100000

theorem setIf_upd (H : Hp) (b : Nat) (x : Obj) : H.setIfInBounds b x = upd H b x := rfl
theorem el_of {L : List Thing} {i : Nat} (hi : i < L.length) : L[i]? = some (el L i) := by
  unfold el; rw [List.getD_eq_getElem?_getD, List.getElem?_eq_getElem hi]; rfl
theorem el_set {L : List Thing} {i k : Nat} {x : Thing} (hi : i < L.length) : el (L.set i x) k = if k = i then x else el L k := by
  unfold el; rw [List.getD_eq_getElem?_getD, List.getD_eq_getElem?_getD, List.getElem?_set]
  by_cases h : k = i
  · subst h; simp [hi]
  · rw [if_neg (fun e => h e.symm), if_neg h]
theorem map_set_same {α : Type} {L : List Thing} {i : Nat} {x : Thing} {g : Thing → α} (hi : i < L.length) (hg : g x = g (el L i)) : (L.set i x).map g = L.map g := by
  apply List.ext_getElem?
  intro k
  rw [List.getElem?_map, List.getElem?_map, List.getElem?_set]
  by_cases h : i = k
  · subst h; rw [if_pos rfl, if_pos hi, el_of hi]; simp [hg]
  · rw [if_neg h]
theorem map_set_tm {α : Type} {L : List Thing} {i : Nat} {g : Thing → α} (hi : i < L.length) (tm : Int) (hg : g ⟨(el L i).q, (el L i).id, tm⟩ = g (el L i)) : (L.set i ⟨(el L i).q, (el L i).id, tm⟩).map g = L.map g := map_set_same hi hg
/-- A time is written anew in its thing. -/
theorem RowAt.set {H : Hp} {p : Nat} {mv : Value} {L : List Thing} {bk : Option Nat} (h : RowAt H p mv L bk) {i : Nat} (hi : i < L.length) (tm : Int) :
    RowAt (upd H (el L i).q (thingO (⟨(el L i).q, (el L i).id, tm⟩ : Thing) i)) p mv (L.set i (⟨(el L i).q, (el L i).id, tm⟩ : Thing)) bk := by
  obtain ⟨v, h1, h2⟩ := h.sl
  have hx := el_of hi
  have hxm := List.mem_of_getElem? hx
  have hq : (L.set i (⟨(el L i).q, (el L i).id, tm⟩ : Thing)).map (·.q) = L.map (·.q) := map_set_tm hi tm rfl
  refine ⟨⟨v, by rw [upd_ne (fun e => h.qp _ hxm e.symm)]; exact h1, ?_⟩, ?_, by rw [hq]; exact h.nd, h.bp, ?_, ?_⟩
  · rw [List.length_set, map_set_tm (g := fun x => ptrQ x.q) hi tm rfl]
    exact h2.ext (ext_upd _ _ _) fun b hb e => h.qb _ hxm (by rw [hb, e])
  · intro j y hj
    rw [List.getElem?_set] at hj
    by_cases hji : i = j
    · subst hji
      rw [if_pos rfl, if_pos hi] at hj
      cases hj
      exact upd_self (h.th i _ hx)
    · rw [if_neg hji] at hj
      rw [upd_ne, h.th j y hj]
      intro e
      refine hji ?_
      have a1 : (L.map (·.q))[i]? = some (el L i).q := by rw [List.getElem?_map, hx]; rfl
      have a2 : (L.map (·.q))[j]? = some (el L i).q := by rw [List.getElem?_map, hj, ← e]; rfl
      exact (List.getElem?_inj (by simpa using hi) h.nd).1 (a1.trans a2.symm)
  · intro y hy
    have : y.q ∈ L.map (·.q) := by rw [← hq]; exact List.mem_map_of_mem hy
    obtain ⟨z, hz, e⟩ := List.mem_map.1 this
    rw [← e]; exact h.qp z hz
  · intro y hy
    have : y.q ∈ L.map (·.q) := by rw [← hq]; exact List.mem_map_of_mem hy
    obtain ⟨z, hz, e⟩ := List.mem_map.1 this
    rw [← e]; exact h.qb z hz
theorem tset_set {L : List Thing} (hn : (L.map (·.id)).Nodup) {i : Nat} (hi : i < L.length) (tm : Int) :
    (L.set i (⟨(el L i).q, (el L i).id, tm⟩ : Thing)).map (fun x => (x.id, x.tm)) = tset (L.map fun x => (x.id, x.tm)) (el L i).id tm := by
  have hx := el_of hi
  unfold tset
  rw [if_pos]
  · apply List.ext_getElem?
    intro k
    rw [List.getElem?_map, List.getElem?_map, List.getElem?_map, List.getElem?_set]
    by_cases h : i = k
    · subst h; rw [if_pos rfl, if_pos hi, hx]; simp
    · rw [if_neg h]
      cases hk : L[k]? with
      | none => rfl
      | some y =>
        simp only [Option.map_some]
        rw [if_neg]
        intro e
        refine h ?_
        have a1 : (L.map (·.id))[i]? = some (el L i).id := by rw [List.getElem?_map, hx]; rfl
        have a2 : (L.map (·.id))[k]? = some (el L i).id := by rw [List.getElem?_map, hk]; simp [e]
        exact (List.getElem?_inj (by simpa using hi) hn).1 (a1.trans a2.symm)
  · rw [List.map_map]
    exact List.mem_map.2 ⟨_, List.mem_of_getElem? hx, rfl⟩

/-- Set. -/
theorem timers_set {H : Hp} {p : Nat} {A : TL} {F : Nat → Prop} (h : TimAt H p A F) (hmax : A.length < 2 ^ 30) {id tm : Int} {K : Value → HPred}
    (h1 : (id ∈ A.map (·.1) ∨ A.length < 4096) → ∀ H', Ext F H H' → TimAt H' p (tset A id tm) (Grow F H H') → K (.bool true) H')
    (h0 : ¬ (id ∈ A.map (·.1) ∨ A.length < 4096) → K (.bool false) H) :
    callF Tryz.prog 71 [ptrQ p, .int .i64 id, .int .i64 tm] K H := by
  obtain ⟨L, bk, bm, es, clk, m, h⟩ := h
  have hl := h.len
  obtain ⟨a, cap, hb, -⟩ := h.row.slice
  refine f71.call ?_
  have r1 := fun K => rd_blk (K := K) (o := 0 + 1) (v := .map (some bm)) hb rfl
  have r0 := fun K => rd_blk (K := K) (o := 0 + 0) (v := .slice a L.length cap) hb rfl
  have lk : ∀ K : Value → HPred, rd (readRun Tryz.prog (Instr.lookup 150 (.map (some bm)) (.int .i64 id) false)) K H = K ((mget m id).getD (.pointer none)) H := fun K => rd_some (K := K) (lookup_map keyInt (k := id) (z := .pointer none) Tryz.underlying150 Tryz.underlying3 (by kernel_rfl) h.blk h.hol)
  have bt := fun a b => bld_thing a b
  rcases h.find id with ⟨hg, hn, hm⟩ | ⟨i, hi, hid, hx, hg, hin, hm⟩
  · rw [hm] at lk
    simp only [f71.b, ptrQ, ptr_eq_nil Tryz.underlying81, Option.isNone_some, cnd_false, nilV_ptr, offV_ptr, opt_some, r1]
    simp only [lk, Option.getD_none, ptr_ne_nil Tryz.underlying166, Option.isNone_none, Bool.not_true, cnd_false, r0, opt_some, len_slice Tryz.underlying152, int_geq]
    by_cases hf : A.length < 4096
    · have hf' : ¬ (L.length : Int) ≥ 4096 := by omega
      simp only [decide_eq_false hf', cnd_false]
      have mn : binV Tryz.prog .eql 150 (Go.Operand.tmp 41) (Go.Operand.const (Go.Value.map none)) (.map (some bm)) (.map none) = some (.bool false) := by kernel_rfl
      simp only [r1, mn, opt_some, cnd_false]
      refine f71.b12_ok ?_
      have hb' := push_old (x := .cells #[.int .i64 id, .int .i64 tm, .int .i64 0] 165) hb
      have r1' := fun K => rd_blk (K := K) (o := 0 + 1) (v := .map (some bm)) hb' rfl
      simp only [f71.b12, bt, opt_some, boxM_eq, Value.cells, nilV_ptr, offV_ptr, r1']
      refine update_map keyInt (k := id) Tryz.underlying150 Tryz.underlying3 (push_old h.blk) h.hol ?_
      intro es' clk' hh
      rw [setIf_upd]
      have hbm := blk_lt h.blk
      have hrow : RowAt (upd (H.push (.cells #[.int .i64 id, .int .i64 tm, .int .i64 0] 165)) bm (.map es' clk')) p (.map (some bm)) L bk :=
        (h.row.ext (ext_push none' _ _) fun _ _ hx => hx).ext (ext_upd _ _ _) fun b hb e => h.out (e ▸ hb)
      have hnew : (upd (H.push (.cells #[.int .i64 id, .int .i64 tm, .int .i64 0] 165)) bm (.map es' clk'))[H.size]? = some (.cells #[.int .i64 id, .int .i64 tm, .int .i64 0] 165) := by
        rw [upd_ne (by omega), push_new]
      have hx2 : Ext F H (upd (H.push (.cells #[.int .i64 id, .int .i64 tm, .int .i64 0] 165)) bm (.map es' clk')) :=
        (ext_push F _ _).trans' ((ext_upd _ _ _).mono fun b _ e => h.own b (.inr e))
      have hsz : (upd (H.push (.cells #[.int .i64 id, .int .i64 tm, .int .i64 0] 165)) bm (.map es' clk')).size = H.size + 1 := by rw [upd_size]; simp
      have hxn : ¬ rowS p L bk H.size := fun e => Nat.lt_irrefl _ (rowS_lt h.row _ e)
      have mr := mkI_row p
      have mt := mkI_thing H.size
      simp only [ptrQ] at mr mt
      simp only [mr, mt, opt_some]
      refine push_ok (x := ⟨H.size, id, tm⟩) (by omega) hrow hnew hxn ?_
      intro H3 bk' hr3 hx3 hbk'
      have hp := upL_perm (L.length + 1) (L ++ [⟨H.size, id, tm⟩]) L.length (by simp)
      have hx13 : Ext F H H3 := hx2.trans hx3 fun b hb e => by
        rcases e with e | e | e | e
        · exact e
        · exact h.own b (.inl (.inl e))
        · exact h.own b (.inl (.inr (.inl e)))
        · rw [List.map_append, List.mem_append] at e
          rcases e with e | e
          · exact h.own b (.inl (.inr (.inr e)))
          · simp at e; omega
      refine h1 (.inr hf) H3 hx13 ⟨_, bk', bm, es', clk', mput m id (ptrQ H.size), hr3, ?_, hh, ?_, push_ord h.ord, ?_, tset_fst h.nd, ?_, ?_, ?_⟩
      · refine hx3.blk ?_ ?_
        · exact upd_self (push_old h.blk)
        · rintro (e | e | e)
          · exact h.out (.inl e)
          · exact h.out (.inr (.inl e))
          · rw [List.map_append, List.mem_append] at e
            rcases e with e | e
            · exact h.out (.inr (.inr e))
            · simp at e; omega
      · unfold mput
        rw [if_neg (mget_none.1 hm)]
        refine (hp.map _).trans ?_
        rw [List.map_append]
        exact h.get.append_right _
      · unfold tset
        rw [if_neg hn]
        refine (hp.map _).trans ?_
        rw [List.map_append]
        exact h.prm.append_right _
      · have hs3 := hx3.size
        have hlt : ∀ b, bk' = some b → b < H3.size := fun b hb => rowS_lt hr3 b (.inr (.inl hb))
        rintro b ((e | e | e) | e)
        · exact .inl (h.own b (.inl (.inl e)))
        · rcases hbk' b e with e' | e'
          · exact .inl (h.own b (.inl (.inr (.inl e'))))
          · exact .inr ⟨by omega, hlt b e⟩
        · have : b ∈ (L ++ [(⟨H.size, id, tm⟩ : Thing)]).map (·.q) := ((hp.map (·.q)).mem_iff).1 e
          rw [List.map_append, List.mem_append] at this
          rcases this with e | e
          · exact .inl (h.own b (.inl (.inr (.inr e))))
          · simp at e; exact .inr ⟨by omega, by omega⟩
        · exact .inl (h.own b (.inr e))
      · rintro (e | e | e)
        · exact h.out (.inl e)
        · rcases hbk' _ e with e' | e'
          · exact h.out (.inr (.inl e'))
          · omega
        · have : bm ∈ (L ++ [(⟨H.size, id, tm⟩ : Thing)]).map (·.q) := ((hp.map (·.q)).mem_iff).1 e
          rw [List.map_append, List.mem_append] at this
          rcases this with e | e
          · exact h.out (.inr (.inr e))
          · simp at e; omega
      · rintro b (e | e)
        · exact Nat.lt_of_lt_of_le (h.lt b e) hx13.size
        · exact e.2
    · have hf' : (L.length : Int) ≥ 4096 := by omega
      simp only [decide_eq_true hf', cnd_true]
      exact h0 fun e => e.elim hn hf
  · subst hid
    rw [hm] at lk
    have ht := h.row.th i _ hx
    have hrow := h.row.set hi tm
    have s := fun C => st_blk (C := C) (o := 0 + 1) (v := .int .i64 tm) ht (by simp) rfl
    have ht' := upd_self (x := thingO (⟨(el L i).q, (el L i).id, tm⟩ : Thing) i) ht
    have r2 := fun K => rd_blk (K := K) (o := 0 + 2) (v := .int .i64 i) ht' rfl
    have mr := mkI_row p
    simp only [ptrQ] at mr
    simp only [f71.b, ptrQ, ptr_eq_nil Tryz.underlying81, Option.isNone_some, cnd_false, nilV_ptr, offV_ptr, opt_some, r1]
    simp only [lk, ptrQ, Option.getD_some, ptr_ne_nil Tryz.underlying166, Option.isNone_some, Bool.not_false, cnd_true, nilV_ptr, offV_ptr, opt_some, s, mr]
    show rd _ _ (upd H (el L i).q (thingO (⟨(el L i).q, (el L i).id, tm⟩ : Thing) i))
    simp only [r2]
    have hlen : (L.set i (⟨(el L i).q, (el L i).id, tm⟩ : Thing)).length = L.length := List.length_set ..
    refine fix_ok (by rw [hlen]; exact hi) (by rw [hlen]; omega) hrow ?_
    intro H2 hr2 hx2
    have hq : (L.set i (⟨(el L i).q, (el L i).id, tm⟩ : Thing)).map (·.q) = L.map (·.q) := map_set_tm hi tm rfl
    have hS : ∀ b, rowS p (L.set i (⟨(el L i).q, (el L i).id, tm⟩ : Thing)) bk b → rowS p L bk b := by
      intro b e; unfold rowS at *; rwa [hq] at e
    have hperm : (fixL (L.set i (⟨(el L i).q, (el L i).id, tm⟩ : Thing)) i).Perm (L.set i (⟨(el L i).q, (el L i).id, tm⟩ : Thing)) := by
      unfold fixL
      obtain ⟨hp, hd2⟩ := downL_perm ((L.set i (⟨(el L i).q, (el L i).id, tm⟩ : Thing)).length + 1) (L.set i (⟨(el L i).q, (el L i).id, tm⟩ : Thing)) i _ (by rw [hlen]; exact hi) (Nat.le_refl _)
      have := hp.length_eq
      simp only
      split
      · exact hp
      · exact (upL_perm _ _ _ (by omega)).trans hp
    have hS2 : ∀ b, rowS p (fixL (L.set i (⟨(el L i).q, (el L i).id, tm⟩ : Thing)) i) bk b → rowS p L bk b := fun b e => hS b (rowS_perm hperm b e)
    have hx12 : Ext F H H2 := ((ext_upd H (el L i).q _).mono fun b _ e => h.own b (.inl (.inr (.inr (by rw [e]; exact List.mem_map_of_mem (List.mem_of_getElem? hx)))))).trans' (hx2.mono fun b _ e => h.own b (.inl (hS b e)))
    refine h1 (.inl hin) H2 hx12 ⟨_, bk, bm, es, clk, m, hr2, ?_, h.hol, ?_, ?_, ?_, tset_fst h.nd, ?_, fun e => h.out (hS2 _ e), ?_⟩
    · refine hx2.blk ?_ fun e => h.out (hS _ e)
      rw [upd_ne]; exact h.blk
      intro e; exact h.out (.inr (.inr (by rw [e]; exact List.mem_map_of_mem (List.mem_of_getElem? hx))))
    · refine (hperm.map _).trans ?_
      rw [map_set_tm hi tm rfl]; exact h.get
    · refine fix_ord (by rw [hlen]; exact hi) ?_ ?_
      · intro k k0 kl ki kp
        rw [hlen] at kl
        unfold okAt
        rw [el_set hi, el_set hi, if_neg ki, if_neg kp]
        exact h.ord k k0 kl
      · intro k k0 kl kp i0
        rw [hlen] at kl
        have hpi : par i ≠ i := by unfold par; omega
        have hki : k ≠ i := by unfold par at kp; omega
        rw [el_set hi, el_set hi, if_neg hki, if_neg hpi]
        have a1 := h.ord k k0 kl
        have a2 := h.ord i i0 hi
        unfold okAt at a1 a2
        rw [kp] at a1
        exact nlt_trans a1 a2
    · refine (hperm.map _).trans ?_
      rw [tset_set h.ids hi]
      exact tset_perm _ _ h.prm
    · rintro b (e | e)
      · exact .inl (h.own b (.inl (hS2 b e)))
      · exact .inl (h.own b (.inr e))
    · rintro b (e | e)
      · exact Nat.lt_of_lt_of_le (h.lt b e) hx12.size
      · exact e.2

/-- Cancel. -/
theorem timers_cancel {H : Hp} {p : Nat} {A : TL} {F : Nat → Prop} (h : TimAt H p A F) (hmax : A.length < 2 ^ 30) {id : Int} {K : Value → HPred}
    (h1 : ∀ tm, tget A id = some tm → ∀ H', Ext F H H' → TimAt H' p (tdel A id) (Grow F H H') → K (.tuple #[.int .i64 tm, .bool true]) H')
    (h0 : tget A id = none → K (.tuple #[.int .i64 0, .bool false]) H) :
    callF Tryz.prog 38 [ptrQ p, .int .i64 id] K H := by
  obtain ⟨L, bk, bm, es, clk, m, h⟩ := h
  have hl := h.len
  obtain ⟨a, cap, hb, -⟩ := h.row.slice
  refine f38.call ?_
  have r1 := fun K => rd_blk (K := K) (o := 0 + 1) (v := .map (some bm)) hb rfl
  have lk : ∀ K : Value → HPred, rd (readRun Tryz.prog (Instr.lookup 150 (.map (some bm)) (.int .i64 id) false)) K H = K ((mget m id).getD (.pointer none)) H := fun K => rd_some (K := K) (lookup_map keyInt (k := id) (z := .pointer none) Tryz.underlying150 Tryz.underlying3 (by kernel_rfl) h.blk h.hol)
  have mr := mkI_row p
  simp only [ptrQ] at mr
  rcases h.find id with ⟨hg, hn, hm⟩ | ⟨i, hi, hid, hx, hg, hin, hm⟩
  · rw [hm] at lk
    simp only [f38.b, ptrQ, ptr_eq_nil Tryz.underlying81, Option.isNone_some, grd_ff, nilV_ptr, offV_ptr, opt_some, r1, lk, Option.getD_none,
      ptr_eq_nil Tryz.underlying166, Option.isNone_none, pick_false, cnd_true]
    exact h0 hg
  · subst hid
    rw [hm] at lk
    have ht := h.row.th i _ hx
    have r2 := fun K => rd_blk (K := K) (o := 0 + 2) (v := .int .i64 i) ht rfl
    simp only [f38.b, ptrQ, ptr_eq_nil Tryz.underlying81, Option.isNone_some, grd_ff, nilV_ptr, offV_ptr, opt_some, r1, lk, Option.getD_some,
      ptr_eq_nil Tryz.underlying166, pick_false, cnd_false, mr, r2]
    refine remove_ok hi (by omega) h.row ?_
    intro H2 hr2 ht2 hx2
    rw [removeL_at hi] at ht2
    have hrp := removeL_perm hi
    obtain ⟨a', cap', hb2, -⟩ := hr2.slice
    have r1' := fun K => rd_blk (K := K) (o := 0 + 1) (v := .map (some bm)) hb2 rfl
    have hm2 := hx2.blk h.blk h.out
    have hS : ∀ b, rowS p (removeL L i).1 bk b → rowS p L bk b := by
      rintro b (e | e | e)
      · exact .inl e
      · exact .inr (.inl e)
      · exact .inr (.inr ((hrp.map (·.q)).mem_iff.1 (List.mem_cons_of_mem _ e)))
    simp only [r1']
    refine delete_map keyInt (k := (el L i).id) Tryz.underlying150 Tryz.underlying3 hm2 h.hol ?_
    intro es' hh
    rw [setIf_upd]
    have ht3 : (upd H2 bm (.map es' clk))[(el L i).q]? = some (thingO (el L i) (L.length - 1)) := by
      rw [upd_ne]; exact ht2
      intro e; exact h.out (.inr (.inr (by rw [← e]; exact List.mem_map_of_mem (List.mem_of_getElem? hx))))
    have r3 := fun K => rd_blk (K := K) (o := 0 + 1) (v := .int .i64 (el L i).tm) ht3 rfl
    simp only [r3]
    have hx12 : Ext F H (upd H2 bm (.map es' clk)) := (hx2.mono fun b _ e => h.own b (.inl e)).trans' ((ext_upd _ _ _).mono fun b _ e => h.own b (.inr e))
    have hidn : (el L i).id ∉ (removeL L i).1.map (·.id) := by
      have := (hrp.map (·.id)).nodup_iff.2 h.ids
      simp only [List.map_cons, List.nodup_cons] at this
      exact this.1
    refine h1 _ hg _ hx12 ⟨_, bk, bm, es', clk, mdel m (el L i).id, hr2.ext (ext_upd _ _ _) fun b hb e => h.out (hS _ (e ▸ hb)), upd_self hm2, hh, ?_, remove_ord hi h.ord, ?_, tdel_fst h.nd, ?_, fun e => h.out (hS _ e), ?_⟩
    · have h2 := (hrp.map fun x => (x.id, ptrQ x.q)).trans h.get
      have h3 := h2.filter fun x => decide (x.1 ≠ (el L i).id)
      unfold mdel
      rw [List.map_cons, List.filter_cons] at h3
      simp only [ne_eq, not_true_eq_false, decide_false, Bool.false_eq_true, if_false] at h3
      rw [List.filter_eq_self.2] at h3
      · exact h3
      · intro y hy
        obtain ⟨z, hz, rfl⟩ := List.mem_map.1 hy
        simp only [decide_not, Bool.not_eq_true', decide_eq_false_iff_not]
        intro e; exact hidn (by rw [← e]; exact List.mem_map_of_mem hz)
    · have h2 := (hrp.map fun x => (x.id, x.tm)).trans h.prm
      have h3 := tdel_perm (el L i).id h2
      rw [List.map_cons, tdel_head] at h3
      · exact h3
      · rw [List.map_map]; exact hidn
    · rintro b (e | e)
      · exact .inl (h.own b (.inl (hS b e)))
      · exact .inl (h.own b (.inr e))
    · rintro b (e | e)
      · exact Nat.lt_of_lt_of_le (h.lt b e) hx12.size
      · exact e.2

end Go.Proofs.YtnnheophehnioaaGreat
namespace Go.Proofs.YtnnheophehnioaaGreat
open Go.Sx Go.Proofs Go.Gm
set_option maxRecDepth 100000

def stL' (s : St) : List Value := .int .i64 s.frame :: (s.cells.map (fun x => Value.int .i32 x) ++ [.int .u32 s.seed, .bool s.over, .int .i64 s.winner])
theorem stateA_list (s : St) : stateA s = (stL' s).toArray := rfl
theorem stL'_len {s : St} (h : s.cells.length = 16) : (stL' s).length = 20 := by simp [stL', h]
def statusL (c : Ct) : List Value := [.int .i64 c.p0, .int .i64 c.p1, .int .u32 c.seed, .int .i64 c.l0, .int .i64 c.l1, .int .i64 c.n0, .int .i64 c.n1, .bool c.over, .int .i64 c.winner, .int .i64 c.why, .bool c.opened]
def statusV (c : Ct) : Value := .agg (statusL c).toArray
def conL (c : Ct) (v0 v1 v2 v3 v4 : Value) : List Value :=
  [v0, .int .i64 c.cap, .int .i64 c.fuel] ++ (statusL c ++ ([v1, v2, v3] ++ (stL' c.st ++ [v4])))
def conO (c : Ct) (v0 v1 v2 v3 v4 : Value) : Obj := .cells (conL c v0 v1 v2 v3 v4).toArray 98 (0, 0)
def evL (e : Ev) : List Value := [.int .i64 e.kind, .int .i64 e.player, .int .i64 e.other, .int .i64 e.frame, .int .u16 e.inn, .int .i64 e.n]
def evV (e : Ev) : Value := .agg (evL e).toArray
def u16L (x : Int) : List Value := [.int .u16 x]
def pairL (x : Int × Int) : List Value := [.int .u16 x.1, .int .u16 x.2]
/-- A match at q. -/
def conS (q : Nat) (c : Ct) : SP :=
  SP.ex fun v0 => SP.ex fun v1 => SP.ex fun v2 => SP.ex fun v3 => SP.ex fun v4 => SP.grd (c.st.cells.length = 16)
    (blkS q (conO c v0 v1 v2 v3 v4) * (sliS v0 101 2 c.code.length (c.code.flatMap encI) * (sliS v1 51 1 c.in0.length (c.in0.flatMap u16L) * (sliS v2 51 1 c.in1.length (c.in1.flatMap u16L) *
      (sliS v3 228 2 c.pairs.length (c.pairs.flatMap pairL) * sliS v4 53 6 c.evs.length (c.evs.flatMap evL))))))
theorem conS_open {q : Nat} {c : Ct} {R : SP} {F : Nat → Prop} {H : Hp} (h : (conS q c * R).holds F H) : ∃ v0 v1 v2 v3 v4, c.st.cells.length = 16 ∧
    (blkS q (conO c v0 v1 v2 v3 v4) * (sliS v0 101 2 c.code.length (c.code.flatMap encI) * (sliS v1 51 1 c.in0.length (c.in0.flatMap u16L) * (sliS v2 51 1 c.in1.length (c.in1.flatMap u16L) *
      (sliS v3 228 2 c.pairs.length (c.pairs.flatMap pairL) * (sliS v4 53 6 c.evs.length (c.evs.flatMap evL) * R)))))).holds F H := by
  unfold conS at h
  simp only [SP.ex_star, SP.grd_star] at h
  obtain ⟨v0, v1, v2, v3, v4, h0, h⟩ := h
  exact ⟨v0, v1, v2, v3, v4, h0, by simpa only [SP.assoc] using h⟩
theorem conS_mk {q : Nat} {c : Ct} {R : SP} {F : Nat → Prop} {H : Hp} {v0 v1 v2 v3 v4 : Value} (h0 : c.st.cells.length = 16)
    (h : (blkS q (conO c v0 v1 v2 v3 v4) * (sliS v0 101 2 c.code.length (c.code.flatMap encI) * (sliS v1 51 1 c.in0.length (c.in0.flatMap u16L) * (sliS v2 51 1 c.in1.length (c.in1.flatMap u16L) *
      (sliS v3 228 2 c.pairs.length (c.pairs.flatMap pairL) * (sliS v4 53 6 c.evs.length (c.evs.flatMap evL) * R)))))).holds F H) : (conS q c * R).holds F H := by
  unfold conS
  simp only [SP.ex_star, SP.grd_star]
  exact ⟨v0, v1, v2, v3, v4, h0, by simpa only [SP.assoc] using h⟩
theorem conO_lt (c : Ct) (h : c.st.cells.length = 16) (v0 v1 v2 v3 v4 : Value) : (conL c v0 v1 v2 v3 v4).length = 38 := by
  simp [conL, statusL, stL', h]
theorem con_status (c : Ct) (v0 v1 v2 v3 v4 : Value) : (conL c v0 v1 v2 v3 v4).toArray.extract 3 (3 + 11) = (statusL c).toArray :=
  extract_app [v0, .int .i64 c.cap, .int .i64 c.fuel] (statusL c) _
theorem con_state {c : Ct} (h : c.st.cells.length = 16) (v0 v1 v2 v3 v4 : Value) : (conL c v0 v1 v2 v3 v4).toArray.extract 17 (17 + 20) = stateA c.st := by
  have e := extract_app ([v0, .int .i64 c.cap, .int .i64 c.fuel] ++ (statusL c ++ [v1, v2, v3])) (stL' c.st) [v4]
  rw [stL'_len h] at e
  have e2 : ([v0, .int .i64 c.cap, .int .i64 c.fuel] ++ (statusL c ++ [v1, v2, v3])) ++ (stL' c.st ++ [v4]) = conL c v0 v1 v2 v3 v4 := by simp [conL]
  rw [e2] at e
  exact e
theorem bs_get {q : Nat} {c : Ct} {R : SP} {F : Nat → Prop} {H : Hp} (h : (conS q c * R).holds F H) : ∃ v0 v1 v2 v3 v4, c.st.cells.length = 16 ∧ H[q]? = some (conO c v0 v1 v2 v3 v4) := by
  obtain ⟨v0, v1, v2, v3, v4, h0, h⟩ := conS_open h
  exact ⟨v0, v1, v2, v3, v4, h0, blk_get h⟩
theorem stateA_all {s : St} : (stateA s).toList.all oneCell = true := List.all_eq_true.2 stateA_one
theorem con_rd_state {c : Ct} (h : c.st.cells.length = 16) (v0 v1 v2 v3 v4 : Value) (T : TypeId) (fz : Nat × Nat) (K : Value → HPred) (H : Hp) :
    rdso (some (.cells (conL c v0 v1 v2 v3 v4).toArray T fz)) 17 20 K H = K (.agg (stateA c.st)) H :=
  rdso_at (by rw [List.size_toArray, conO_lt c h]; omega) (con_state h ..) T fz K H
theorem con_rd_status {c : Ct} (h : c.st.cells.length = 16) (v0 v1 v2 v3 v4 : Value) (T : TypeId) (fz : Nat × Nat) (K : Value → HPred) (H : Hp) :
    rdso (some (.cells (conL c v0 v1 v2 v3 v4).toArray T fz)) 3 11 K H = K (statusV c) H :=
  rdso_at (by rw [List.size_toArray, conO_lt c h]; omega) (con_status ..) T fz K H
theorem statusL_len (c : Ct) : (statusL c).length = 11 := by simp [statusL]
theorem statusL_all (c : Ct) : (statusL c).all oneCell = true := by simp [statusL, oneCell]
/-- The game's cells and those of the status. -/
theorem con_get (c : Ct) (v0 v1 v2 v3 v4 : Value) (i : Nat) (h : i < 17) : (conL c v0 v1 v2 v3 v4)[i]? = [v0, .int .i64 c.cap, .int .i64 c.fuel, .int .i64 c.p0, .int .i64 c.p1, .int .u32 c.seed, .int .i64 c.l0, .int .i64 c.l1, .int .i64 c.n0, .int .i64 c.n1, .bool c.over, .int .i64 c.winner, .int .i64 c.why, .bool c.opened, v1, v2, v3][i]? := by
  have e : conL c v0 v1 v2 v3 v4 = [v0, .int .i64 c.cap, .int .i64 c.fuel, .int .i64 c.p0, .int .i64 c.p1, .int .u32 c.seed, .int .i64 c.l0, .int .i64 c.l1, .int .i64 c.n0, .int .i64 c.n1, .bool c.over, .int .i64 c.winner, .int .i64 c.why, .bool c.opened, v1, v2, v3] ++ (stL' c.st ++ [v4]) := rfl
  rw [e, List.getElem?_append_left (by exact h)]
theorem con_get_st {c : Ct} (h0 : c.st.cells.length = 16) (v0 v1 v2 v3 v4 : Value) (i : Nat) (h : i < 20) : (conL c v0 v1 v2 v3 v4)[17 + i]? = (stL' c.st)[i]? := by
  have e : conL c v0 v1 v2 v3 v4 = [v0, .int .i64 c.cap, .int .i64 c.fuel, .int .i64 c.p0, .int .i64 c.p1, .int .u32 c.seed, .int .i64 c.l0, .int .i64 c.l1, .int .i64 c.n0, .int .i64 c.n1, .bool c.over, .int .i64 c.winner, .int .i64 c.why, .bool c.opened, v1, v2, v3] ++ (stL' c.st ++ [v4]) := rfl
  rw [e, List.getElem?_append_right (by simp), List.getElem?_append_left (by rw [stL'_len h0]; simpa using h)]
  simp
theorem con_get_37 {c : Ct} (h0 : c.st.cells.length = 16) (v0 v1 v2 v3 v4 : Value) : (conL c v0 v1 v2 v3 v4)[37]? = some v4 := by
  have e : conL c v0 v1 v2 v3 v4 = [v0, .int .i64 c.cap, .int .i64 c.fuel, .int .i64 c.p0, .int .i64 c.p1, .int .u32 c.seed, .int .i64 c.l0, .int .i64 c.l1, .int .i64 c.n0, .int .i64 c.n1, .bool c.over, .int .i64 c.winner, .int .i64 c.why, .bool c.opened, v1, v2, v3] ++ (stL' c.st ++ [v4]) := rfl
  rw [e, List.getElem?_append_right (by simp), List.getElem?_append_right (by rw [stL'_len h0]; simp), stL'_len h0]
  rfl
theorem con_get_over {c : Ct} (h0 : c.st.cells.length = 16) (v0 v1 v2 v3 v4 : Value) : (conL c v0 v1 v2 v3 v4)[35]? = some (.bool c.st.over) := by
  have := con_get_st h0 v0 v1 v2 v3 v4 18 (by omega)
  rw [show 17 + 18 = 35 from rfl] at this
  rw [this]
  have e := stateA_hi h0 1
  rw [stateA_list, List.getElem?_toArray] at e
  exact e
/-- State. -/
theorem state_ok {q : Nat} {c : Ct} {R : SP} {F : Nat → Prop} {H : Hp} (h : (conS q c * R).holds F H) {K : Value → HPred} (hk : ∀ H', Ext0 H H' → K (.agg (stateA c.st)) H') :
    callF Tryz.prog 50 [ptrQ q] K H := by
  obtain ⟨v0, v1, v2, v3, v4, h0, hb⟩ := bs_get h
  refine f50.call ?_
  have hb' := fun x => push_old (x := x) hb
  unfold conO at hb'
  simp only [f50.b, ptrQ, ptr_eq_nil Tryz.underlying30, Option.isNone_some, nilV_ptr, offV_ptr, opt_some, extV_tuple, List.getElem?_cons_zero, List.getElem?_cons_succ, List.getElem?_toArray, cnd_true, cnd_false, grd_tt, grd_tf, grd_ft, grd_ff, grd_u, pick_true, pick_false, un_not, Bool.not_true, Bool.not_false, Nat.add_zero, Nat.zero_add, Nat.reduceAdd, int_eql, int_neq, int_lss, int_leq, int_gtr, int_geq, rd_go, rdo_cells, rds_go, st_go, sto_cells, stc_ok, stA_go, stAo_all, stAo_allL, rdso_all, upd_push_top, one_int, one_bool, one_ptr, one_slice, one_map, one_func, one_iface, boxM_eq, newC_eq, Value.cells, push_get_new, push_size, upd_size, List.size_toArray, List.toList_toArray, List.length_cons, List.length_nil, List.all_cons, List.all_nil, Bool.and_self, Bool.and_true, hb', con_rd_state h0, List.size_toArray, stateA_size h0, List.length_cons, List.length_nil, stateA_all]
  exact hk _ (ext_push none' _ _)
/-- Status. -/
theorem status_ok {q : Nat} {c : Ct} {R : SP} {F : Nat → Prop} {H : Hp} (h : (conS q c * R).holds F H) {K : Value → HPred} (hk : ∀ H', Ext0 H H' → K (statusV c) H') :
    callF Tryz.prog 56 [ptrQ q] K H := by
  obtain ⟨v0, v1, v2, v3, v4, h0, hb⟩ := bs_get h
  refine f56.call ?_
  have hb' := fun x => push_old (x := x) hb
  unfold conO at hb'
  simp only [f56.b, ptrQ, ptr_eq_nil Tryz.underlying30, Option.isNone_some, nilV_ptr, offV_ptr, opt_some, extV_tuple, List.getElem?_cons_zero, List.getElem?_cons_succ, List.getElem?_toArray, cnd_true, cnd_false, grd_tt, grd_tf, grd_ft, grd_ff, grd_u, pick_true, pick_false, un_not, Bool.not_true, Bool.not_false, Nat.add_zero, Nat.zero_add, Nat.reduceAdd, int_eql, int_neq, int_lss, int_leq, int_gtr, int_geq, rd_go, rdo_cells, rds_go, st_go, sto_cells, stc_ok, stA_go, stAo_all, stAo_allL, rdso_all, upd_push_top, one_int, one_bool, one_ptr, one_slice, one_map, one_func, one_iface, boxM_eq, newC_eq, Value.cells, push_get_new, push_size, upd_size, List.size_toArray, List.toList_toArray, List.length_cons, List.length_nil, List.all_cons, List.all_nil, Bool.and_self, Bool.and_true, hb', con_rd_status h0, statusV, List.size_toArray, statusL_len, statusL_all, List.length_cons, List.length_nil]
  exact hk _ (ext_push none' _ _)
def endedP (c : Ct) : Bool := c.over || c.st.over
/-- ended. -/
theorem ended_ok {q : Nat} {c : Ct} {R : SP} {F : Nat → Prop} {H : Hp} (h : (conS q c * R).holds F H) {K : Value → HPred} (hk : K (.bool (endedP c)) H) :
    callF Tryz.prog 115 [ptrQ q] K H := by
  obtain ⟨v0, v1, v2, v3, v4, h0, hb⟩ := bs_get h
  unfold conO at hb
  refine f115.call ?_
  unfold endedP at hk
  have g := con_get c v0 v1 v2 v3 v4 10 (by omega)
  cases ho : c.over with
  | true =>
    rw [ho] at hk
    simp only [f115.b, ptrQ, nilV_ptr, offV_ptr, opt_some, extV_tuple, List.getElem?_cons_zero, List.getElem?_cons_succ, List.getElem?_toArray, cnd_true, cnd_false, grd_tt, grd_tf, grd_ft, grd_ff, grd_u, pick_true, pick_false, un_not, Bool.not_true, Bool.not_false, Nat.add_zero, Nat.zero_add, Nat.reduceAdd, int_eql, int_neq, int_lss, int_leq, int_gtr, int_geq, rd_go, rdo_cells, rds_go, st_go, sto_cells, stc_ok, stA_go, stAo_all, stAo_allL, rdso_all, upd_push_top, one_int, one_bool, one_ptr, one_slice, one_map, one_func, one_iface, boxM_eq, newC_eq, Value.cells, push_get_new, push_size, upd_size, List.size_toArray, List.toList_toArray, List.length_cons, List.length_nil, List.all_cons, List.all_nil, Bool.and_self, Bool.and_true, hb, g, ho]
    exact hk
  | false =>
    rw [ho] at hk
    simp only [f115.b, ptrQ, nilV_ptr, offV_ptr, opt_some, extV_tuple, List.getElem?_cons_zero, List.getElem?_cons_succ, List.getElem?_toArray, cnd_true, cnd_false, grd_tt, grd_tf, grd_ft, grd_ff, grd_u, pick_true, pick_false, un_not, Bool.not_true, Bool.not_false, Nat.add_zero, Nat.zero_add, Nat.reduceAdd, int_eql, int_neq, int_lss, int_leq, int_gtr, int_geq, rd_go, rdo_cells, rds_go, st_go, sto_cells, stc_ok, stA_go, stAo_all, stAo_allL, rdso_all, upd_push_top, one_int, one_bool, one_ptr, one_slice, one_map, one_func, one_iface, boxM_eq, newC_eq, Value.cells, push_get_new, push_size, upd_size, List.size_toArray, List.toList_toArray, List.length_cons, List.length_nil, List.all_cons, List.all_nil, Bool.and_self, Bool.and_true, hb, g, ho, con_get_over h0]
    exact hk

end Go.Proofs.YtnnheophehnioaaGreat
namespace Go.Proofs.YtnnheophehnioaaGreat
open Go.Sx Go.Proofs Go.Gm
set_option maxRecDepth 100000

theorem callV_fn (P : Program) (f : FuncId) (a b : Array Value) (args : List Value) (K : Value → HPred) : callV P (.func (.func f) a b) args K = callF P f (a.toList ++ args ++ b.toList) K := rfl
theorem callV_f (P : Program) (f : FuncId) (args : List Value) (K : Value → HPred) : callV P (.func (.func f) #[] #[]) args K = callF P f args K := by
  rw [callV_fn]; simp
def howL : List Value := [.nilFunc, .nilFunc, .nilFunc, fnV 132, fnV 133, fnV 134, fnV 135, fnV 136, fnV 137,
  fnV 138, fnV 139, fnV 140, fnV 141, fnV 142, fnV 143, fnV 144, fnV 145, fnV 146]
theorem howL_len : howL.length = 18 := by simp [howL]
theorem howL_all : howL.all oneCell = true := by simp [howL, fnV, oneCell]
theorem bld_how (a b c : FuncId) : pureRun Tryz.prog (Instr.build 182 #[(0, .func (.func a) #[] #[]), (1, .func (.func b) #[] #[]), (2, .func (.func c) #[] #[])]) = some (.agg #[.func (.func a) #[] #[], .func (.func b) #[] #[], .func (.func c) #[] #[]]) := by kernel_rfl
theorem bld_hows (a1 b1 c1 a2 b2 c2 a3 b3 c3 a4 b4 c4 a5 b5 c5 : Value) : pureRun Tryz.prog (Instr.build 183 #[(1, .agg #[a1, b1, c1]), (2, .agg #[a2, b2, c2]), (3, .agg #[a3, b3, c3]), (4, .agg #[a4, b4, c4]), (5, .agg #[a5, b5, c5])]) =
  some (.agg #[.nilFunc, .nilFunc, .nilFunc, a1, b1, c1, a2, b2, c2, a3, b3, c3, a4, b4, c4, a5, b5, c5]) := by kernel_rfl
/-- hows. -/
theorem hows_ok {K : Value → HPred} {H : Hp} (hk : ∀ x, K (.agg howL.toArray) (H.push x)) : callF Tryz.prog 87 [] K H := by
  refine f87.call ?_
  have e := howL_len
  have e2 := howL_all
  unfold howL fnV at e e2 hk
  simp only [f87.b, bld_how, bld_hows, nilV_ptr, offV_ptr, opt_some, extV_tuple, List.getElem?_cons_zero, List.getElem?_cons_succ, List.getElem?_toArray, cnd_true, cnd_false, grd_tt, grd_tf, grd_ft, grd_ff, grd_u, pick_true, pick_false, un_not, Bool.not_true, Bool.not_false, Nat.add_zero, Nat.zero_add, Nat.reduceAdd, int_eql, int_neq, int_lss, int_leq, int_gtr, int_geq, rd_go, rdo_cells, rds_go, st_go, sto_cells, stc_ok, stA_go, stAo_all, stAo_allL, rdso_all, upd_push_top, one_int, one_bool, one_ptr, one_slice, one_map, one_func, one_iface, boxM_eq, newC_eq, Value.cells, push_get_new, push_size, upd_size, List.size_toArray, List.toList_toArray, List.length_cons, List.length_nil, List.all_cons, List.all_nil, Bool.and_self, Bool.and_true, e2]
  exact hk _
theorem how_at (k : Nat) (h : k < 6) : pureRun Tryz.prog (Instr.index 183 (.agg howL.toArray) (.int .i64 k)) = some (.agg #[howL.getD (3 * k) undef, howL.getD (3 * k + 1) undef, howL.getD (3 * k + 2) undef]) := by
  obtain rfl | rfl | rfl | rfl | rfl | rfl : k = 0 ∨ k = 1 ∨ k = 2 ∨ k = 3 ∨ k = 4 ∨ k = 5 := by omega
  all_goals kernel_rfl
theorem how_may (a b c : Value) : pureRun Tryz.prog (Instr.field 182 (.agg #[a, b, c]) 0) = some a := by kernel_rfl
theorem how_does (a b c : Value) : pureRun Tryz.prog (Instr.field 182 (.agg #[a, b, c]) 1) = some b := by kernel_rfl
theorem bld_ev0 (k : Int) : pureRun Tryz.prog (Instr.build 53 #[(0, .int .i64 k)]) = some (evV ⟨k, 0, 0, 0, 0, 0⟩) := by kernel_rfl
theorem ev_eqO (a b : Ev) : eqO Tryz.prog 10000 53 (evV a) (evV b) = some ((a.kind == b.kind) && ((a.player == b.player) && ((a.other == b.other) && ((a.frame == b.frame) && ((a.inn == b.inn) && ((a.n == b.n) && true)))))) := by kernel_rfl
theorem ev_same (a b : Ev) : ((a.kind == b.kind) && ((a.player == b.player) && ((a.other == b.other) && ((a.frame == b.frame) && ((a.inn == b.inn) && ((a.n == b.n) && true)))))) = decide (a = b) := by
  obtain ⟨a1, a2, a3, a4, a5, a6⟩ := a
  obtain ⟨b1, b2, b3, b4, b5, b6⟩ := b
  by_cases h : (⟨a1, a2, a3, a4, a5, a6⟩ : Ev) = ⟨b1, b2, b3, b4, b5, b6⟩
  · cases h; simp
  · rw [decide_eq_false h]
    by_cases h1 : a1 = b1 <;> by_cases h2 : a2 = b2 <;> by_cases h3 : a3 = b3 <;> by_cases h4 : a4 = b4 <;> by_cases h5 : a5 = b5 <;> by_cases h6 : a6 = b6 <;> simp [*] at h ⊢
theorem ev_guard : Tryz.prog.eqGuardType Tryz.prog.depth 53 = false := by kernel_rfl
theorem ev_eql (ox oy : Operand) (a b : Ev) : binV Tryz.prog .eql 53 ox oy (evV a) (evV b) = some (.bool (decide (a = b))) := by
  have := agg_eql (ox := ox) (oy := oy) ev_guard (ev_eqO a b)
  rw [ev_same] at this; exact this
theorem ev_neq (ox oy : Operand) (a b : Ev) : binV Tryz.prog .neq 53 ox oy (evV a) (evV b) = some (.bool (!decide (a = b))) := by
  have := agg_neq (ox := ox) (oy := oy) ev_guard (ev_eqO a b)
  rw [ev_same] at this; exact this
theorem evL_all (e : Ev) : (evL e).all oneCell = true := by simp [evL, oneCell]
theorem evL_len (e : Ev) : (evL e).length = 6 := by simp [evL]
/-- Without the fields that an Open names. -/
theorem bare1_ok (e : Ev) {K : Value → HPred} {H : Hp} (hk : ∀ H', Ext0 H H' → K (evV ⟨e.kind, 0, 0, e.frame, e.inn, 0⟩) H') : callF Tryz.prog 134 [evV e] K H := by
  refine f134.call ?_
  have e2 := evL_all ⟨e.kind, 0, 0, e.frame, e.inn, 0⟩
  unfold evL at e2
  simp (disch := first | assumption | (simp only [List.size_toArray, List.toList_toArray, List.length_cons, List.length_nil, List.all_cons, List.all_nil, oneCell, Bool.and_self, Bool.and_true, Nat.reduceAdd]; done) | (simp only [push_size, upd_size]; done) | (simp only [push_size, upd_size]; omega) | omega) only [f134.b, evV, evL, nilV_ptr, offV_ptr, opt_some, extV_tuple, List.getElem?_cons_zero, List.getElem?_cons_succ, List.getElem?_toArray, cnd_true, cnd_false, grd_tt, grd_tf, grd_ft, grd_ff, grd_u, pick_true, pick_false, un_not, Bool.not_true, Bool.not_false, Nat.add_zero, Nat.zero_add, Nat.reduceAdd, int_eql, int_neq, int_lss, int_leq, int_gtr, int_geq, rd_go, rdo_cells, rds_go, st_go, sto_cells, stc_ok, stA_go, stAo_all, stAo_allL, rdso_all, upd_push_top, one_int, one_bool, one_ptr, one_slice, one_map, one_func, one_iface, boxM_eq, newC_eq, Value.cells, push_get_new, push_size, upd_size, List.size_toArray, List.toList_toArray, List.length_cons, List.length_nil, List.all_cons, List.all_nil, Bool.and_self, Bool.and_true, push_get_old, push_get_eq, upd_push_old, upd_push_eq, upd_get_self, upd_get_ne, List.setIfInBounds_toArray, List.set_cons_succ, List.set_cons_zero, e2]
  exact hk _ ((ext_push none' _ _).trans' (ext_push none' _ _))
/-- A block, the fields of an event. -/
theorem ev_rd {H : Hp} {b i : Nat} {e : Ev} {T : TypeId} {fz : Nat × Nat} {K : Value → HPred} (hb : H[b]? = some (.cells (evL e).toArray T fz)) : rd (cellP (.pointer (some ⟨b, i, none⟩))) K H = opt ((evL e)[i]?) K H := by
  rw [rd_go, hb, rdo_cells, List.getElem?_toArray]
section
variable {q : Nat} {c : Ct} {R : SP} {F : Nat → Prop} {H : Hp}
open Classical in
noncomputable def mayOpenP (c : Ct) (e : Ev) : Int := if c.opened then 15 else if openOk e then 0 else 1
/-- mayOpen. -/
theorem mayOpen_ok (h : (conS q c * R).holds F H) (e : Ev) {K : Value → HPred} (hk : ∀ x, K (.int .i64 (mayOpenP c e)) (H.push x)) :
    callF Tryz.prog 132 [ptrQ q, evV e] K H := by
  obtain ⟨v0, v1, v2, v3, v4, h0, hb⟩ := bs_get h
  refine f132.call ?_
  have hb' := fun x => push_old (x := x) hb
  unfold conO at hb'
  have g := con_get c v0 v1 v2 v3 v4 13 (by omega)
  unfold mayOpenP at hk
  cases ho : c.opened with
  | true =>
    rw [ho] at hk
    simp only [f132.b, evV, ptrQ, nilV_ptr, offV_ptr, opt_some, extV_tuple, List.getElem?_cons_zero, List.getElem?_cons_succ, List.getElem?_toArray, cnd_true, cnd_false, grd_tt, grd_tf, grd_ft, grd_ff, grd_u, pick_true, pick_false, un_not, Bool.not_true, Bool.not_false, Nat.add_zero, Nat.zero_add, Nat.reduceAdd, int_eql, int_neq, int_lss, int_leq, int_gtr, int_geq, rd_go, rdo_cells, rds_go, st_go, sto_cells, stc_ok, stA_go, stAo_all, stAo_allL, rdso_all, upd_push_top, one_int, one_bool, one_ptr, one_slice, one_map, one_func, one_iface, boxM_eq, newC_eq, Value.cells, push_get_new, push_size, upd_size, List.size_toArray, List.toList_toArray, List.length_cons, List.length_nil, List.all_cons, List.all_nil, Bool.and_self, Bool.and_true, hb', g, ho]
    exact hk _
  | false =>
    rw [ho] at hk
    simp only [Bool.false_eq_true, if_false] at hk
    have bad : ¬ openOk e → ∀ x, K (.int .i64 1) (H.push x) := fun h x => by have := hk x; rwa [if_neg h] at this
    simp only [f132.b, evV, ptrQ, nilV_ptr, offV_ptr, opt_some, extV_tuple, List.getElem?_cons_zero, List.getElem?_cons_succ, List.getElem?_toArray, cnd_true, cnd_false, grd_tt, grd_tf, grd_ft, grd_ff, grd_u, pick_true, pick_false, un_not, Bool.not_true, Bool.not_false, Nat.add_zero, Nat.zero_add, Nat.reduceAdd, int_eql, int_neq, int_lss, int_leq, int_gtr, int_geq, rd_go, rdo_cells, rds_go, st_go, sto_cells, stc_ok, stA_go, stAo_all, stAo_allL, rdso_all, upd_push_top, one_int, one_bool, one_ptr, one_slice, one_map, one_func, one_iface, boxM_eq, newC_eq, Value.cells, push_get_new, push_size, upd_size, List.size_toArray, List.toList_toArray, List.length_cons, List.length_nil, List.all_cons, List.all_nil, Bool.and_self, Bool.and_true, hb', g, ho]
    simp only [evL, nilV_ptr, offV_ptr, opt_some, extV_tuple, List.getElem?_cons_zero, List.getElem?_cons_succ, List.getElem?_toArray, cnd_true, cnd_false, grd_tt, grd_tf, grd_ft, grd_ff, grd_u, pick_true, pick_false, un_not, Bool.not_true, Bool.not_false, Nat.add_zero, Nat.zero_add, Nat.reduceAdd, int_eql, int_neq, int_lss, int_leq, int_gtr, int_geq, rd_go, rdo_cells, rds_go, st_go, sto_cells, stc_ok, stA_go, stAo_all, stAo_allL, rdso_all, upd_push_top, one_int, one_bool, one_ptr, one_slice, one_map, one_func, one_iface, boxM_eq, newC_eq, Value.cells, push_get_new, push_size, upd_size, List.size_toArray, List.toList_toArray, List.length_cons, List.length_nil, List.all_cons, List.all_nil, Bool.and_self, Bool.and_true]
    by_cases c1 : e.player < 1
    · simp only [decide_eq_true c1, nilV_ptr, offV_ptr, opt_some, extV_tuple, List.getElem?_cons_zero, List.getElem?_cons_succ, List.getElem?_toArray, cnd_true, cnd_false, grd_tt, grd_tf, grd_ft, grd_ff, grd_u, pick_true, pick_false, un_not, Bool.not_true, Bool.not_false, Nat.add_zero, Nat.zero_add, Nat.reduceAdd, int_eql, int_neq, int_lss, int_leq, int_gtr, int_geq, rd_go, rdo_cells, rds_go, st_go, sto_cells, stc_ok, stA_go, stAo_all, stAo_allL, rdso_all, upd_push_top, one_int, one_bool, one_ptr, one_slice, one_map, one_func, one_iface, boxM_eq, newC_eq, Value.cells, push_get_new, push_size, upd_size, List.size_toArray, List.toList_toArray, List.length_cons, List.length_nil, List.all_cons, List.all_nil, Bool.and_self, Bool.and_true]; exact bad (fun h => by unfold openOk at h; omega) _
    simp only [decide_eq_false c1, nilV_ptr, offV_ptr, opt_some, extV_tuple, List.getElem?_cons_zero, List.getElem?_cons_succ, List.getElem?_toArray, cnd_true, cnd_false, grd_tt, grd_tf, grd_ft, grd_ff, grd_u, pick_true, pick_false, un_not, Bool.not_true, Bool.not_false, Nat.add_zero, Nat.zero_add, Nat.reduceAdd, int_eql, int_neq, int_lss, int_leq, int_gtr, int_geq, rd_go, rdo_cells, rds_go, st_go, sto_cells, stc_ok, stA_go, stAo_all, stAo_allL, rdso_all, upd_push_top, one_int, one_bool, one_ptr, one_slice, one_map, one_func, one_iface, boxM_eq, newC_eq, Value.cells, push_get_new, push_size, upd_size, List.size_toArray, List.toList_toArray, List.length_cons, List.length_nil, List.all_cons, List.all_nil, Bool.and_self, Bool.and_true]
    by_cases c2 : e.other < 1
    · simp only [decide_eq_true c2, nilV_ptr, offV_ptr, opt_some, extV_tuple, List.getElem?_cons_zero, List.getElem?_cons_succ, List.getElem?_toArray, cnd_true, cnd_false, grd_tt, grd_tf, grd_ft, grd_ff, grd_u, pick_true, pick_false, un_not, Bool.not_true, Bool.not_false, Nat.add_zero, Nat.zero_add, Nat.reduceAdd, int_eql, int_neq, int_lss, int_leq, int_gtr, int_geq, rd_go, rdo_cells, rds_go, st_go, sto_cells, stc_ok, stA_go, stAo_all, stAo_allL, rdso_all, upd_push_top, one_int, one_bool, one_ptr, one_slice, one_map, one_func, one_iface, boxM_eq, newC_eq, Value.cells, push_get_new, push_size, upd_size, List.size_toArray, List.toList_toArray, List.length_cons, List.length_nil, List.all_cons, List.all_nil, Bool.and_self, Bool.and_true]; exact bad (fun h => by unfold openOk at h; omega) _
    simp only [decide_eq_false c2, nilV_ptr, offV_ptr, opt_some, extV_tuple, List.getElem?_cons_zero, List.getElem?_cons_succ, List.getElem?_toArray, cnd_true, cnd_false, grd_tt, grd_tf, grd_ft, grd_ff, grd_u, pick_true, pick_false, un_not, Bool.not_true, Bool.not_false, Nat.add_zero, Nat.zero_add, Nat.reduceAdd, int_eql, int_neq, int_lss, int_leq, int_gtr, int_geq, rd_go, rdo_cells, rds_go, st_go, sto_cells, stc_ok, stA_go, stAo_all, stAo_allL, rdso_all, upd_push_top, one_int, one_bool, one_ptr, one_slice, one_map, one_func, one_iface, boxM_eq, newC_eq, Value.cells, push_get_new, push_size, upd_size, List.size_toArray, List.toList_toArray, List.length_cons, List.length_nil, List.all_cons, List.all_nil, Bool.and_self, Bool.and_true]
    by_cases c3 : e.player = e.other
    · simp only [decide_eq_true c3, nilV_ptr, offV_ptr, opt_some, extV_tuple, List.getElem?_cons_zero, List.getElem?_cons_succ, List.getElem?_toArray, cnd_true, cnd_false, grd_tt, grd_tf, grd_ft, grd_ff, grd_u, pick_true, pick_false, un_not, Bool.not_true, Bool.not_false, Nat.add_zero, Nat.zero_add, Nat.reduceAdd, int_eql, int_neq, int_lss, int_leq, int_gtr, int_geq, rd_go, rdo_cells, rds_go, st_go, sto_cells, stc_ok, stA_go, stAo_all, stAo_allL, rdso_all, upd_push_top, one_int, one_bool, one_ptr, one_slice, one_map, one_func, one_iface, boxM_eq, newC_eq, Value.cells, push_get_new, push_size, upd_size, List.size_toArray, List.toList_toArray, List.length_cons, List.length_nil, List.all_cons, List.all_nil, Bool.and_self, Bool.and_true]; exact bad (fun h => by unfold openOk at h; omega) _
    simp only [decide_eq_false c3, nilV_ptr, offV_ptr, opt_some, extV_tuple, List.getElem?_cons_zero, List.getElem?_cons_succ, List.getElem?_toArray, cnd_true, cnd_false, grd_tt, grd_tf, grd_ft, grd_ff, grd_u, pick_true, pick_false, un_not, Bool.not_true, Bool.not_false, Nat.add_zero, Nat.zero_add, Nat.reduceAdd, int_eql, int_neq, int_lss, int_leq, int_gtr, int_geq, rd_go, rdo_cells, rds_go, st_go, sto_cells, stc_ok, stA_go, stAo_all, stAo_allL, rdso_all, upd_push_top, one_int, one_bool, one_ptr, one_slice, one_map, one_func, one_iface, boxM_eq, newC_eq, Value.cells, push_get_new, push_size, upd_size, List.size_toArray, List.toList_toArray, List.length_cons, List.length_nil, List.all_cons, List.all_nil, Bool.and_self, Bool.and_true]
    by_cases c4 : e.n < 0
    · simp only [decide_eq_true c4, nilV_ptr, offV_ptr, opt_some, extV_tuple, List.getElem?_cons_zero, List.getElem?_cons_succ, List.getElem?_toArray, cnd_true, cnd_false, grd_tt, grd_tf, grd_ft, grd_ff, grd_u, pick_true, pick_false, un_not, Bool.not_true, Bool.not_false, Nat.add_zero, Nat.zero_add, Nat.reduceAdd, int_eql, int_neq, int_lss, int_leq, int_gtr, int_geq, rd_go, rdo_cells, rds_go, st_go, sto_cells, stc_ok, stA_go, stAo_all, stAo_allL, rdso_all, upd_push_top, one_int, one_bool, one_ptr, one_slice, one_map, one_func, one_iface, boxM_eq, newC_eq, Value.cells, push_get_new, push_size, upd_size, List.size_toArray, List.toList_toArray, List.length_cons, List.length_nil, List.all_cons, List.all_nil, Bool.and_self, Bool.and_true]; exact bad (fun h => by unfold openOk at h; omega) _
    simp only [decide_eq_false c4, nilV_ptr, offV_ptr, opt_some, extV_tuple, List.getElem?_cons_zero, List.getElem?_cons_succ, List.getElem?_toArray, cnd_true, cnd_false, grd_tt, grd_tf, grd_ft, grd_ff, grd_u, pick_true, pick_false, un_not, Bool.not_true, Bool.not_false, Nat.add_zero, Nat.zero_add, Nat.reduceAdd, int_eql, int_neq, int_lss, int_leq, int_gtr, int_geq, rd_go, rdo_cells, rds_go, st_go, sto_cells, stc_ok, stA_go, stAo_all, stAo_allL, rdso_all, upd_push_top, one_int, one_bool, one_ptr, one_slice, one_map, one_func, one_iface, boxM_eq, newC_eq, Value.cells, push_get_new, push_size, upd_size, List.size_toArray, List.toList_toArray, List.length_cons, List.length_nil, List.all_cons, List.all_nil, Bool.and_self, Bool.and_true]
    by_cases c5 : e.n > 4294967295
    · simp only [decide_eq_true c5, nilV_ptr, offV_ptr, opt_some, extV_tuple, List.getElem?_cons_zero, List.getElem?_cons_succ, List.getElem?_toArray, cnd_true, cnd_false, grd_tt, grd_tf, grd_ft, grd_ff, grd_u, pick_true, pick_false, un_not, Bool.not_true, Bool.not_false, Nat.add_zero, Nat.zero_add, Nat.reduceAdd, int_eql, int_neq, int_lss, int_leq, int_gtr, int_geq, rd_go, rdo_cells, rds_go, st_go, sto_cells, stc_ok, stA_go, stAo_all, stAo_allL, rdso_all, upd_push_top, one_int, one_bool, one_ptr, one_slice, one_map, one_func, one_iface, boxM_eq, newC_eq, Value.cells, push_get_new, push_size, upd_size, List.size_toArray, List.toList_toArray, List.length_cons, List.length_nil, List.all_cons, List.all_nil, Bool.and_self, Bool.and_true]; exact bad (fun h => by unfold openOk at h; omega) _
    simp only [decide_eq_false c5, nilV_ptr, offV_ptr, opt_some, extV_tuple, List.getElem?_cons_zero, List.getElem?_cons_succ, List.getElem?_toArray, cnd_true, cnd_false, grd_tt, grd_tf, grd_ft, grd_ff, grd_u, pick_true, pick_false, un_not, Bool.not_true, Bool.not_false, Nat.add_zero, Nat.zero_add, Nat.reduceAdd, int_eql, int_neq, int_lss, int_leq, int_gtr, int_geq, rd_go, rdo_cells, rds_go, st_go, sto_cells, stc_ok, stA_go, stAo_all, stAo_allL, rdso_all, upd_push_top, one_int, one_bool, one_ptr, one_slice, one_map, one_func, one_iface, boxM_eq, newC_eq, Value.cells, push_get_new, push_size, upd_size, List.size_toArray, List.toList_toArray, List.length_cons, List.length_nil, List.all_cons, List.all_nil, Bool.and_self, Bool.and_true]
    have ok : openOk e := by unfold openOk; omega
    have := hk (Obj.cells (evL e).toArray 53)
    rw [if_pos ok] at this
    exact this
end

end Go.Proofs.YtnnheophehnioaaGreat
namespace Go.Proofs.YtnnheophehnioaaGreat
open Go.Sx Go.Proofs Go.Gm
set_option maxRecDepth 100000

section
variable {q : Nat} {c : Ct} {R : SP} {F : Nat → Prop} {H : Hp}
/-- May: by the kind's own two functions. -/
theorem may_gen (h : (conS q c * R).holds F H) {e : Ev} {k : Nat} (hk1 : 1 ≤ k) (hk5 : k < 6) (hkind : e.kind = k) {mf bf : FuncId} (hm : howL.getD (3 * k) undef = .func (.func mf) #[] #[]) (hb : howL.getD (3 * k + 2) undef = .func (.func bf) #[] #[])
    {be : Ev} (hbare : ∀ (K : Value → HPred) (H : Hp), (∀ H', Ext0 H H' → K (evV be) H') → callF Tryz.prog bf [evV e] K H) {K : Value → HPred} {r : Int}
    (hmay : ∀ H', Ext0 H H' → (∀ H'', Ext0 H' H'' → K (.int .i64 r) H'') → callF Tryz.prog mf [ptrQ q, evV e] K H')
    (hk : ∀ H', Ext0 H H' → K (.int .i64 (if be = ⟨k, 0, 0, 0, 0, 0⟩ then r else 3)) H') : callF Tryz.prog 61 [ptrQ q, evV e] K H := by
  refine f61.call ?_
  have c1 : ¬ e.kind < 1 := by omega
  have c2 : ¬ e.kind ≥ 6 := by omega
  have hidx := how_at k hk5
  rw [hm, hb] at hidx
  have e3 := evL_len e
  obtain ⟨y, hy⟩ : ∃ y, howL.getD (3 * k + 1) undef = .func (.func y) #[] #[] := by
    obtain rfl | rfl | rfl | rfl | rfl : k = 1 ∨ k = 2 ∨ k = 3 ∨ k = 4 ∨ k = 5 := by omega
    all_goals exact ⟨_, rfl⟩
  rw [hy] at hidx
  have gk : (evL e)[0]? = some (.int .i64 k) := by simp [evL, hkind]
  have c1' : ¬ (k : Int) < 1 := by omega
  have c2' : ¬ (k : Int) ≥ 6 := by omega
  simp (disch := first | assumption | (simp only [List.size_toArray, List.toList_toArray, List.length_cons, List.length_nil, List.all_cons, List.all_nil, oneCell, Bool.and_self, Bool.and_true, Nat.reduceAdd]; done) | (simp only [push_size, upd_size]; done) | (simp only [push_size, upd_size]; omega) | omega) only [f61.b, ptrQ, evV, ptr_eq_nil Tryz.underlying30, Option.isNone_some, nilV_ptr, offV_ptr, opt_some, extV_tuple, List.getElem?_cons_zero, List.getElem?_cons_succ, List.getElem?_toArray, cnd_true, cnd_false, grd_tt, grd_tf, grd_ft, grd_ff, grd_u, pick_true, pick_false, un_not, Bool.not_true, Bool.not_false, Nat.add_zero, Nat.zero_add, Nat.reduceAdd, int_eql, int_neq, int_lss, int_leq, int_gtr, int_geq, rd_go, rdo_cells, rds_go, st_go, sto_cells, stc_ok, stA_go, stAo_all, stAo_allL, rdso_all, upd_push_top, one_int, one_bool, one_ptr, one_slice, one_map, one_func, one_iface, boxM_eq, newC_eq, Value.cells, push_get_new, push_size, upd_size, List.size_toArray, List.toList_toArray, List.length_cons, List.length_nil, List.all_cons, List.all_nil, Bool.and_self, Bool.and_true, push_get_old, push_get_eq, upd_push_old, upd_push_eq, upd_get_self, upd_get_ne, gk, decide_eq_false c1', decide_eq_false c2']
  have tail : ∀ (G : Hp) (x y z : Value), Ext0 H G → G[H.size]? = some (.cells (evL e).toArray 53 (0, 0)) → ∀ H' b', Ext0 G H' → H'[b']? = some (.cells #[.func (.func mf) #[] #[], y, z] 182 (0, 0)) →
      (opt (binV Tryz.prog .neq 53 (Go.Operand.tmp 23) (Go.Operand.tmp 26) (evV be) (evV ⟨k, 0, 0, 0, 0, 0⟩)) fun v28 =>
  cnd v28
  (K (.int .i64 3))
  (opt (offV (.pointer (some ⟨b', 0, none⟩)) 0) fun v29 =>
  rd (cellP v29) fun v30 =>
  rd (cellsP (.pointer (some ⟨H.size, 0, none⟩)) 6) fun v31 =>
  callV Tryz.prog v30 [ptrQ q, v31] fun v32 =>
  K v32)) H' := by
    intro G x y z hxG hev H' b' hx hf
    have hev' := hx.blk hev
    have hkk := hk H' (hxG.trans' hx)
    rw [ev_neq]
    by_cases cb : be = ⟨k, 0, 0, 0, 0, 0⟩
    · rw [if_pos cb] at hkk
      simp (disch := first | assumption | (simp only [List.size_toArray, List.toList_toArray, List.length_cons, List.length_nil, List.all_cons, List.all_nil, oneCell, Bool.and_self, Bool.and_true, Nat.reduceAdd]; done) | (simp only [push_size, upd_size]; done) | (simp only [push_size, upd_size]; omega) | omega) only [decide_eq_true cb, nilV_ptr, offV_ptr, opt_some, extV_tuple, List.getElem?_cons_zero, List.getElem?_cons_succ, List.getElem?_toArray, cnd_true, cnd_false, grd_tt, grd_tf, grd_ft, grd_ff, grd_u, pick_true, pick_false, un_not, Bool.not_true, Bool.not_false, Nat.add_zero, Nat.zero_add, Nat.reduceAdd, int_eql, int_neq, int_lss, int_leq, int_gtr, int_geq, rd_go, rdo_cells, rds_go, st_go, sto_cells, stc_ok, stA_go, stAo_all, stAo_allL, rdso_all, upd_push_top, one_int, one_bool, one_ptr, one_slice, one_map, one_func, one_iface, boxM_eq, newC_eq, Value.cells, push_get_new, push_size, upd_size, List.size_toArray, List.toList_toArray, List.length_cons, List.length_nil, List.all_cons, List.all_nil, Bool.and_self, Bool.and_true, hf, hev', callV_f]
      refine hmay H' (hxG.trans' hx) fun H'' hx'' => ?_
      have := hk H'' ((hxG.trans' hx).trans' hx'')
      rwa [if_pos cb] at this
    · rw [if_neg cb] at hkk
      simp only [decide_eq_false cb, nilV_ptr, offV_ptr, opt_some, extV_tuple, List.getElem?_cons_zero, List.getElem?_cons_succ, List.getElem?_toArray, cnd_true, cnd_false, grd_tt, grd_tf, grd_ft, grd_ff, grd_u, pick_true, pick_false, un_not, Bool.not_true, Bool.not_false, Nat.add_zero, Nat.zero_add, Nat.reduceAdd, int_eql, int_neq, int_lss, int_leq, int_gtr, int_geq, rd_go, rdo_cells, rds_go, st_go, sto_cells, stc_ok, stA_go, stAo_all, stAo_allL, rdso_all, upd_push_top, one_int, one_bool, one_ptr, one_slice, one_map, one_func, one_iface, boxM_eq, newC_eq, Value.cells, push_get_new, push_size, upd_size, List.size_toArray, List.toList_toArray, List.length_cons, List.length_nil, List.all_cons, List.all_nil, Bool.and_self, Bool.and_true]
      exact hkk
  constructor
  · refine hows_ok fun x => ?_
    simp (disch := first | assumption | (simp only [List.size_toArray, List.toList_toArray, List.length_cons, List.length_nil, List.all_cons, List.all_nil, oneCell, Bool.and_self, Bool.and_true, Nat.reduceAdd]; done) | (simp only [push_size, upd_size]; done) | (simp only [push_size, upd_size]; omega) | omega) only [chk_eq, cellP_ptr, nilV_ptr, offV_ptr, opt_some, extV_tuple, List.getElem?_cons_zero, List.getElem?_cons_succ, List.getElem?_toArray, cnd_true, cnd_false, grd_tt, grd_tf, grd_ft, grd_ff, grd_u, pick_true, pick_false, un_not, Bool.not_true, Bool.not_false, Nat.add_zero, Nat.zero_add, Nat.reduceAdd, int_eql, int_neq, int_lss, int_leq, int_gtr, int_geq, rd_go, rdo_cells, rds_go, st_go, sto_cells, stc_ok, stA_go, stAo_all, stAo_allL, rdso_all, upd_push_top, one_int, one_bool, one_ptr, one_slice, one_map, one_func, one_iface, boxM_eq, newC_eq, Value.cells, push_get_new, push_size, upd_size, List.size_toArray, List.toList_toArray, List.length_cons, List.length_nil, List.all_cons, List.all_nil, Bool.and_self, Bool.and_true, push_get_old, push_get_eq, upd_push_old, upd_push_eq, upd_get_self, upd_get_ne, hidx, cellH, gk, Option.isSome_none, Bool.false_eq_true, if_false, true_and, callV_f, bld_ev0]
    refine hbare _ _ fun H' hx => ?_
    have hev := hx.blk (b := H.size) (o := .cells (evL e).toArray 53 (0, 0)) (by simp (disch := first | assumption | (simp only [List.size_toArray, List.toList_toArray, List.length_cons, List.length_nil, List.all_cons, List.all_nil, oneCell, Bool.and_self, Bool.and_true, Nat.reduceAdd]; done) | (simp only [push_size, upd_size]; done) | (simp only [push_size, upd_size]; omega) | omega) only [push_get_old, push_get_eq, upd_push_old, upd_push_eq, upd_get_self, upd_get_ne])
    refine ⟨by simp only [cellH, hev, gk, List.getElem?_toArray, Option.isSome_none, Bool.false_eq_true, if_false], ?_⟩
    refine tail _ undef (.func (.func y) #[] #[]) (.func (.func bf) #[] #[]) ((ext_push none' _ _).trans' ((ext_push none' _ _).trans' (ext_push none' _ _))) ?_ H' _ hx (hx.blk ?_)
    · simp (disch := first | assumption | (simp only [List.size_toArray, List.toList_toArray, List.length_cons, List.length_nil, List.all_cons, List.all_nil, oneCell, Bool.and_self, Bool.and_true, Nat.reduceAdd]; done) | (simp only [push_size, upd_size]; done) | (simp only [push_size, upd_size]; omega) | omega) only [push_get_old, push_get_eq, upd_push_old, upd_push_eq, upd_get_self, upd_get_ne]
    · simp (disch := first | assumption | (simp only [List.size_toArray, List.toList_toArray, List.length_cons, List.length_nil, List.all_cons, List.all_nil, oneCell, Bool.and_self, Bool.and_true, Nat.reduceAdd]; done) | (simp only [push_size, upd_size]; done) | (simp only [push_size, upd_size]; omega) | omega) only [push_get_old, push_get_eq, upd_push_old, upd_push_eq, upd_get_self, upd_get_ne]
  · refine ⟨by simp (disch := first | assumption | (simp only [List.size_toArray, List.toList_toArray, List.length_cons, List.length_nil, List.all_cons, List.all_nil, oneCell, Bool.and_self, Bool.and_true, Nat.reduceAdd]; done) | (simp only [push_size, upd_size]; done) | (simp only [push_size, upd_size]; omega) | omega) only [cellP_ptr, cellH, push_get_old, push_get_eq, upd_push_old, upd_push_eq, upd_get_self, upd_get_ne, gk, List.getElem?_toArray, Option.isSome_none, Bool.false_eq_true, if_false], ?_⟩
    refine hows_ok fun x => ?_
    simp (disch := first | assumption | (simp only [List.size_toArray, List.toList_toArray, List.length_cons, List.length_nil, List.all_cons, List.all_nil, oneCell, Bool.and_self, Bool.and_true, Nat.reduceAdd]; done) | (simp only [push_size, upd_size]; done) | (simp only [push_size, upd_size]; omega) | omega) only [chk_eq, cellP_ptr, nilV_ptr, offV_ptr, opt_some, extV_tuple, List.getElem?_cons_zero, List.getElem?_cons_succ, List.getElem?_toArray, cnd_true, cnd_false, grd_tt, grd_tf, grd_ft, grd_ff, grd_u, pick_true, pick_false, un_not, Bool.not_true, Bool.not_false, Nat.add_zero, Nat.zero_add, Nat.reduceAdd, int_eql, int_neq, int_lss, int_leq, int_gtr, int_geq, rd_go, rdo_cells, rds_go, st_go, sto_cells, stc_ok, stA_go, stAo_all, stAo_allL, rdso_all, upd_push_top, one_int, one_bool, one_ptr, one_slice, one_map, one_func, one_iface, boxM_eq, newC_eq, Value.cells, push_get_new, push_size, upd_size, List.size_toArray, List.toList_toArray, List.length_cons, List.length_nil, List.all_cons, List.all_nil, Bool.and_self, Bool.and_true, push_get_old, push_get_eq, upd_push_old, upd_push_eq, upd_get_self, upd_get_ne, hidx, cellH, gk, Option.isSome_none, Bool.false_eq_true, if_false, true_and, callV_f, bld_ev0]
    refine hbare _ _ fun H' hx => ?_
    have hev := hx.blk (b := H.size) (o := .cells (evL e).toArray 53 (0, 0)) (by simp (disch := first | assumption | (simp only [List.size_toArray, List.toList_toArray, List.length_cons, List.length_nil, List.all_cons, List.all_nil, oneCell, Bool.and_self, Bool.and_true, Nat.reduceAdd]; done) | (simp only [push_size, upd_size]; done) | (simp only [push_size, upd_size]; omega) | omega) only [push_get_old, push_get_eq, upd_push_old, upd_push_eq, upd_get_self, upd_get_ne])
    refine ⟨by simp only [cellH, hev, gk, List.getElem?_toArray, Option.isSome_none, Bool.false_eq_true, if_false], ?_⟩
    refine tail _ undef (.func (.func y) #[] #[]) (.func (.func bf) #[] #[]) ((ext_push none' _ _).trans' ((ext_push none' _ _).trans' (ext_push none' _ _))) ?_ H' _ hx (hx.blk ?_)
    · simp (disch := first | assumption | (simp only [List.size_toArray, List.toList_toArray, List.length_cons, List.length_nil, List.all_cons, List.all_nil, oneCell, Bool.and_self, Bool.and_true, Nat.reduceAdd]; done) | (simp only [push_size, upd_size]; done) | (simp only [push_size, upd_size]; omega) | omega) only [push_get_old, push_get_eq, upd_push_old, upd_push_eq, upd_get_self, upd_get_ne]
    · simp (disch := first | assumption | (simp only [List.size_toArray, List.toList_toArray, List.length_cons, List.length_nil, List.all_cons, List.all_nil, oneCell, Bool.and_self, Bool.and_true, Nat.reduceAdd]; done) | (simp only [push_size, upd_size]; done) | (simp only [push_size, upd_size]; omega) | omega) only [push_get_old, push_get_eq, upd_push_old, upd_push_eq, upd_get_self, upd_get_ne]
end

end Go.Proofs.YtnnheophehnioaaGreat
