/-
  Part 3 of the proof: contracts of the functions that the law reaches, and the rules they stand on. Own work (an AI agent). No conditions.
-/
import Derived.Test.YtnnheophehnioaaGreatTS2
import Derived.KernelRfl
import Derived.Test.YtnnheophehnioaaGreatProg
set_option linter.unusedSimpArgs false
set_option linter.unusedVariables false
namespace Go.Proofs.YtnnheophehnioaaGreat
open Go.Sx Go.Proofs
set_option maxRecDepth 100000
set_option linter.unusedVariables false
theorem mixed : Tryz.prog.follows .mixedOrders = true := by kernel_rfl
/-! f3: gauntlet/gauntletlaw23.TableShards -/
def f3.at10 (R : Value → HPred) (x0 x3 x5 x6 x7 x8 : Value) : HPred := At Tryz.prog 114 (RQ Tryz.prog Tryz.f3.results.toList R) (stk Tryz.f3 10) [0, 3, 5, 6, 7, 8] [x0, x3, x5, x6, x7, x8] []
def f3.at20 (R : Value → HPred) (x0 x3 x5 x6 x7 x8 x9 : Value) : HPred := At Tryz.prog 114 (RQ Tryz.prog Tryz.f3.results.toList R) (stk Tryz.f3 20) [0, 3, 5, 6, 7, 8, 9] [x0, x3, x5, x6, x7, x8, x9] []
def f3.at23 (R : Value → HPred) (x3 x5 x7 x13 x14 : Value) : HPred := At Tryz.prog 114 (RQ Tryz.prog Tryz.f3.results.toList R) (stk Tryz.f3 23) [3, 5, 7, 13, 14] [x3, x5, x7, x13, x14] []
def f3.cuts : List (Nat × List Nat) := [(10, [0, 3, 5, 6, 7, 8]), (20, [0, 3, 5, 6, 7, 8, 9]), (23, [3, 5, 7, 13, 14])]
def f3.plans : List (Nat × Plan) := [(25, (.step 0 [] (.step 1 [] (.step 3 [] (.step 4 [] (.step 5 [6] (.act 2 (.step 6 [] .done))))))))]
def f3.den (R : Value → HPred) (first : Bool) (k : List Item) (r : Regs) (ds : List Deferred) : HPred := Sx.den Tryz.prog 114 (RQ Tryz.prog Tryz.f3.results.toList R) f3.cuts f3.plans 1000 first k r ds
def f3.b10 (R : Value → HPred) (x0 x3 x5 x6 x7 x8 : Value) : HPred :=
  opt (pureRun Tryz.prog (bltN .len #[22] 3 #[false] [x0])) fun v1 =>
  opt (binV Tryz.prog .lss 3 (Go.Operand.tmp 30) (Go.Operand.tmp 32) x8 v1) fun v2 =>
  cnd v2
  (opt (idxS x0 x8 1) fun v3 =>
  rd (cellP v3) fun v4 =>
  opt (binV Tryz.prog .and 3 (Go.Operand.tmp 39) (Go.Operand.const (Go.Value.int Go.IntKind.i64 65535)) v4 (.int .i64 65535)) fun v5 =>
  callF Tryz.prog 9 [] fun v6 =>
  callF Tryz.prog 8 [v6] fun v7 =>
  opt (extV v7 0) fun v8 =>
  opt (extV v7 1) fun v9 =>
  callF Tryz.prog 10 [x3, v5, v8, (.int .i64 0)] fun v10 =>
  opt (binV Tryz.prog .eql 25 (Go.Operand.tmp 50) (Go.Operand.const (Go.Value.int Go.IntKind.i64 0)) v10 (.int .i64 0)) fun v11 =>
  rd (readRun Tryz.prog (Instr.lookup 29 x6 v5 false)) fun v12 =>
  opt (binV Tryz.prog .eql 3 (Go.Operand.tmp 54) (Go.Operand.const (Go.Value.int Go.IntKind.i64 0)) v12 (.int .i64 0)) fun v13 =>
  opt (binV Tryz.prog .neq 4 (Go.Operand.tmp 51) (Go.Operand.tmp 55) v11 v13) fun v14 =>
  grdK v14 false (fun c15 => c15 v10) fun v16 =>
  grdK v14 false (fun c17 => opt (binV Tryz.prog .neq 25 (Go.Operand.tmp 58) (Go.Operand.const (Go.Value.int Go.IntKind.i64 0)) v16 (.int .i64 0)) fun v18 =>
  c17 v18) fun v19 =>
  grdK v14 false (fun c20 => c20 v19) fun v21 =>
  grdK v21 true (fun c22 => c22 v10) fun v23 =>
  grdK v21 true (fun c24 => opt (binV Tryz.prog .neq 25 (Go.Operand.tmp 61) (Go.Operand.const (Go.Value.int Go.IntKind.i64 8)) v23 (.int .i64 8)) fun v25 =>
  c24 v25) fun v26 =>
  grdK v14 false (fun c27 => opt (pickV v21 v26 (.bool false)) fun v28 =>
  c27 v28) fun v29 =>
  opt (pickV v14 (.bool true) v29) fun v30 =>
  cnd v30
  (R (.bool false))
  (rd (readRun Tryz.prog (Instr.lookup 29 x6 v5 false)) fun v31 =>
  opt (binV Tryz.prog .eql 3 (Go.Operand.tmp 67) (Go.Operand.const (Go.Value.int Go.IntKind.i64 0)) v31 (.int .i64 0)) fun v32 =>
  cnd v32
  (opt (binV Tryz.prog .rem 3 (Go.Operand.tmp 69) (Go.Operand.const (Go.Value.int Go.IntKind.i64 4)) v5 (.int .i64 4)) fun v33 =>
  opt (idxA x5 v33 4 1) fun v34 =>
  rd (cellP v34) fun v35 =>
  opt (binV Tryz.prog .add 3 (Go.Operand.tmp 72) (Go.Operand.const (Go.Value.int Go.IntKind.i64 1)) v35 (.int .i64 1)) fun v36 =>
  opt (idxA x5 v33 4 1) fun v37 =>
  st v37 v36 <|
  opt (binV Tryz.prog .add 3 (Go.Operand.tmp 75) (Go.Operand.const (Go.Value.int Go.IntKind.i64 1)) x7 (.int .i64 1)) fun v38 =>
  f3.at20 R x0 x3 x5 x6 v38 x8 v5)
  (f3.at20 R x0 x3 x5 x6 x7 x8 v5)))
  (f3.at23 R x3 x5 x7 (.int .i64 0) (.int .i64 0))
theorem f3.b10_eq : (fun (R : Value → HPred) (x0 x3 x5 x6 x7 x8 : Value) (r : Regs) => f3.den R true (stk Tryz.f3 10) (over [0, 3, 5, 6, 7, 8] [x0, x3, x5, x6, x7, x8] r) []) = (fun (R : Value → HPred) (x0 x3 x5 x6 x7 x8 : Value) (_ : Regs) => f3.b10 R x0 x3 x5 x6 x7 x8) := by kernel_rfl
theorem f3.b10_ok {R : Value → HPred} {x0 x3 x5 x6 x7 x8 : Value} {H : Hp} (h : f3.b10 R x0 x3 x5 x6 x7 x8 H) : f3.at10 R x0 x3 x5 x6 x7 x8 H :=
  At.of_den mixed (f := 1000) (cuts := f3.cuts) (plans := f3.plans) fun r => Eq.mpr (congrFun (congrFun (congrFun (congrFun (congrFun (congrFun (congrFun (congrFun (congrFun (f3.b10_eq) R) x0) x3) x5) x6) x7) x8) r) H) h
def f3.b20 (R : Value → HPred) (x0 x3 x5 x6 x7 x8 x9 : Value) : HPred :=
  unitT Tryz.prog (Instr.mapUpdate 29 x6 x9 (.int .i64 1)) fun v1 =>
  opt (binV Tryz.prog .add 3 (Go.Operand.tmp 34) (Go.Operand.const (Go.Value.int Go.IntKind.i64 1)) x8 (.int .i64 1)) fun v2 =>
  f3.at10 R x0 x3 x5 x6 x7 v2
theorem f3.b20_eq : (fun (R : Value → HPred) (x0 x3 x5 x6 x7 x8 x9 : Value) (r : Regs) => f3.den R true (stk Tryz.f3 20) (over [0, 3, 5, 6, 7, 8, 9] [x0, x3, x5, x6, x7, x8, x9] r) []) = (fun (R : Value → HPred) (x0 x3 x5 x6 x7 x8 x9 : Value) (_ : Regs) => f3.b20 R x0 x3 x5 x6 x7 x8 x9) := by kernel_rfl
theorem f3.b20_ok {R : Value → HPred} {x0 x3 x5 x6 x7 x8 x9 : Value} {H : Hp} (h : f3.b20 R x0 x3 x5 x6 x7 x8 x9 H) : f3.at20 R x0 x3 x5 x6 x7 x8 x9 H :=
  At.of_den mixed (f := 1000) (cuts := f3.cuts) (plans := f3.plans) fun r => Eq.mpr (congrFun (congrFun (congrFun (congrFun (congrFun (congrFun (congrFun (congrFun (congrFun (congrFun (f3.b20_eq) R) x0) x3) x5) x6) x7) x8) x9) r) H) h
def f3.b23 (R : Value → HPred) (x3 x5 x7 x13 x14 : Value) : HPred :=
  opt (binV Tryz.prog .lss 3 (Go.Operand.tmp 79) (Go.Operand.const (Go.Value.int Go.IntKind.i64 4)) x14 (.int .i64 4)) fun v1 =>
  cnd v1
  (opt (idxA x5 x14 4 1) fun v2 =>
  rd (cellP v2) fun v3 =>
  callF Tryz.prog 11 [x3, x14] fun v4 =>
  chk (fun H => cellP v2 H = some v3) <|
  opt (binV Tryz.prog .neq 3 (Go.Operand.tmp 85) (Go.Operand.tmp 88) v4 v3) fun v5 =>
  cnd v5
  (R (.bool false))
  (callF Tryz.prog 11 [x3, x14] fun v6 =>
  opt (binV Tryz.prog .add 3 (Go.Operand.tmp 90) (Go.Operand.tmp 93) x13 v6) fun v7 =>
  opt (binV Tryz.prog .add 3 (Go.Operand.tmp 81) (Go.Operand.const (Go.Value.int Go.IntKind.i64 1)) x14 (.int .i64 1)) fun v8 =>
  f3.at23 R x3 x5 x7 v7 v8))
  (opt (binV Tryz.prog .eql 3 (Go.Operand.tmp 95) (Go.Operand.tmp 96) x13 x7) fun v9 =>
  grdK v9 true (fun c10 => c10 x3) fun v11 =>
  grdK v9 true (fun c12 => callF Tryz.prog 12 [v11] fun v13 =>
  c12 v13) fun v14 =>
  grdK v9 true (fun c15 => opt (pureRun Tryz.prog (bltN .len #[22] 3 #[false] [v14])) fun v16 =>
  c15 v16) fun v17 =>
  grdK v9 true (fun c18 => c18 x7) fun v19 =>
  grdK v9 true (fun c20 => opt (binV Tryz.prog .eql 3 (Go.Operand.tmp 101) (Go.Operand.tmp 102) v17 v19) fun v21 =>
  c20 v21) fun v22 =>
  opt (pickV v9 v22 (.bool false)) fun v23 =>
  grdK v23 true (fun c24 => c24 x3) fun v25 =>
  grdK v23 true (fun c26 => callF Tryz.prog 13 [v25, (.int .i64 1073741824)] fun v27 =>
  c26 v27) fun v28 =>
  grdK v23 true (fun c29 => opt (pureRun Tryz.prog (bltN .len #[40] 3 #[false] [v28])) fun v30 =>
  c29 v30) fun v31 =>
  grdK v23 true (fun c32 => opt (binV Tryz.prog .eql 3 (Go.Operand.tmp 108) (Go.Operand.const (Go.Value.int Go.IntKind.i64 0)) v31 (.int .i64 0)) fun v33 =>
  c32 v33) fun v34 =>
  opt (pickV v23 v34 (.bool false)) fun v35 =>
  grdK v35 true (fun c36 => callF Tryz.prog 6 [] fun v37 =>
  c36 v37) fun v38 =>
  opt (pickV v35 v38 (.bool false)) fun v39 =>
  R v39)
theorem f3.b23_eq : (fun (R : Value → HPred) (x3 x5 x7 x13 x14 : Value) (r : Regs) => f3.den R true (stk Tryz.f3 23) (over [3, 5, 7, 13, 14] [x3, x5, x7, x13, x14] r) []) = (fun (R : Value → HPred) (x3 x5 x7 x13 x14 : Value) (_ : Regs) => f3.b23 R x3 x5 x7 x13 x14) := by kernel_rfl
theorem f3.b23_ok {R : Value → HPred} {x3 x5 x7 x13 x14 : Value} {H : Hp} (h : f3.b23 R x3 x5 x7 x13 x14 H) : f3.at23 R x3 x5 x7 x13 x14 H :=
  At.of_den mixed (f := 1000) (cuts := f3.cuts) (plans := f3.plans) fun r => Eq.mpr (congrFun (congrFun (congrFun (congrFun (congrFun (congrFun (congrFun (congrFun (f3.b23_eq) R) x3) x5) x7) x13) x14) r) H) h
def f3.b (R : Value → HPred) (x0 : Value) : HPred :=
  opt (pureRun Tryz.prog (bltN .len #[22] 3 #[false] [x0])) fun v1 =>
  opt (binV Tryz.prog .gtr 3 (Go.Operand.tmp 16) (Go.Operand.const (Go.Value.int Go.IntKind.i64 60)) v1 (.int .i64 60)) fun v2 =>
  cnd v2
  (callF Tryz.prog 6 [] fun v3 =>
  R v3)
  (callF Tryz.prog 7 [(.int .i64 5)] fun v4 =>
  opt (extV v4 0) fun v5 =>
  opt (extV v4 1) fun v6 =>
  opt (binV Tryz.prog .neq 25 (Go.Operand.tmp 23) (Go.Operand.const (Go.Value.int Go.IntKind.i64 0)) v6 (.int .i64 0)) fun v7 =>
  grdK v7 false (fun c8 => c8 v5) fun v9 =>
  grdK v7 false (fun c10 => rd (binR Tryz.prog .eql 24 (Go.Operand.tmp 26) (Go.Operand.const (Go.Value.pointer none)) v9 (.pointer none)) fun v11 =>
  c10 v11) fun v12 =>
  opt (pickV v7 (.bool true) v12) fun v13 =>
  cnd v13
  (R (.bool false))
  (newC #[(.int .i64 0), (.int .i64 0), (.int .i64 0), (.int .i64 0)] 28 fun v14 =>
  tot Tryz.prog (Instr.makeMap 29 none) fun v15 =>
  f3.at10 R x0 v5 v14 v15 (.int .i64 0) (.int .i64 0)))
theorem f3.b_eq : (fun (R : Value → HPred) (x0 : Value) => f3.den R false (bodyOf Tryz.f3) (regsOf [x0]) []) = (fun (R : Value → HPred) (x0 : Value) => f3.b R x0) := by kernel_rfl
theorem f3.call {R : Value → HPred} {x0 : Value} {H : Hp} (h : f3.b R x0 H) : HC Tryz.prog 3 #[x0] R H :=
  HC.of_den mixed (cuts := f3.cuts) (plans := f3.plans) (args := [x0]) Tryz.func3 (by kernel_rfl) (fun w => Tryz.call3 _ w) (by kernel_rfl) (Eq.mpr (congrFun (congrFun (congrFun (f3.b_eq) R) x0) H) h)
/-! f6: gauntlet/gauntletlaw23.known -/
def f6.cuts : List (Nat × List Nat) := []
def f6.plans : List (Nat × Plan) := []
def f6.den (R : Value → HPred) (first : Bool) (k : List Item) (r : Regs) (ds : List Deferred) : HPred := Sx.den Tryz.prog 53 (RQ Tryz.prog Tryz.f6.results.toList R) f6.cuts f6.plans 1000 first k r ds
def f6.b (R : Value → HPred) : HPred :=
  callF Tryz.prog 14 [(.int .i64 5)] fun v1 =>
  opt (extV v1 0) fun v2 =>
  opt (extV v1 1) fun v3 =>
  opt (pureRun Tryz.prog (Op.unary .not v3)) fun v4 =>
  grdK v4 false (fun c5 => c5 v2) fun v6 =>
  grdK v4 false (fun c7 => opt (nilV v6) fun v8 =>
  c7 v8) fun v9 =>
  grdK v4 false (fun c10 => opt (offV v9 0) fun v11 =>
  c10 v11) fun v12 =>
  grdK v4 false (fun c13 => rd (cellP v12) fun v14 =>
  c13 v14) fun v15 =>
  grdK v4 false (fun c16 => rd (binR Tryz.prog .eql 24 (Go.Operand.tmp 14) (Go.Operand.const (Go.Value.pointer none)) v15 (.pointer none)) fun v17 =>
  c16 v17) fun v18 =>
  opt (pickV v4 (.bool true) v18) fun v19 =>
  grdK v19 false (fun c20 => c20 v2) fun v21 =>
  grdK v19 false (fun c22 => callF Tryz.prog 23 [v21, (.int .i64 3), (.bool true)] fun v23 =>
  c22 v23) fun v24 =>
  grdK v19 false (fun c25 => opt (pureRun Tryz.prog (Op.unary .not v24)) fun v26 =>
  c25 v26) fun v27 =>
  opt (pickV v19 (.bool true) v27) fun v28 =>
  cnd v28
  (R (.bool false))
  (opt (nilV v2) fun v29 =>
  opt (offV v29 2) fun v30 =>
  st v30 (.int .i64 4) <|
  callF Tryz.prog 24 [v2] fun v31 =>
  opt (pureRun Tryz.prog (Op.unary .not v31)) fun v32 =>
  cnd v32
  (R (.bool false))
  (opt (nilV v2) fun v33 =>
  opt (offV v33 2) fun v34 =>
  st v34 (.int .i64 5) <|
  opt (nilV v2) fun v35 =>
  opt (offV v35 0) fun v36 =>
  rd (cellP v36) fun v37 =>
  callF Tryz.prog 13 [v37, (.int .i64 5)] fun v38 =>
  opt (pureRun Tryz.prog (bltN .len #[40] 3 #[false] [v38])) fun v39 =>
  opt (binV Tryz.prog .eql 3 (Go.Operand.tmp 37) (Go.Operand.const (Go.Value.int Go.IntKind.i64 1)) v39 (.int .i64 1)) fun v40 =>
  grdK v40 true (fun c41 => c41 v38) fun v42 =>
  grdK v40 true (fun c43 => opt (idxS v42 (.int .i64 0) 2) fun v44 =>
  c43 v44) fun v45 =>
  grdK v40 true (fun c46 => opt (offV v45 0) fun v47 =>
  c46 v47) fun v48 =>
  grdK v40 true (fun c49 => rd (cellP v48) fun v50 =>
  c49 v50) fun v51 =>
  grdK v40 true (fun c52 => opt (binV Tryz.prog .eql 3 (Go.Operand.tmp 43) (Go.Operand.const (Go.Value.int Go.IntKind.i64 3)) v51 (.int .i64 3)) fun v53 =>
  c52 v53) fun v54 =>
  opt (pickV v40 v54 (.bool false)) fun v55 =>
  grdK v55 true (fun c56 => c56 v38) fun v57 =>
  grdK v55 true (fun c58 => opt (idxS v57 (.int .i64 0) 2) fun v59 =>
  c58 v59) fun v60 =>
  grdK v55 true (fun c61 => opt (offV v60 1) fun v62 =>
  c61 v62) fun v63 =>
  grdK v55 true (fun c64 => rd (cellP v63) fun v65 =>
  c64 v65) fun v66 =>
  grdK v55 true (fun c67 => opt (binV Tryz.prog .eql 3 (Go.Operand.tmp 50) (Go.Operand.const (Go.Value.int Go.IntKind.i64 9)) v66 (.int .i64 9)) fun v68 =>
  c67 v68) fun v69 =>
  opt (pickV v55 v69 (.bool false)) fun v70 =>
  R v70))
theorem f6.b_eq : (fun (R : Value → HPred) => f6.den R false (bodyOf Tryz.f6) (regsOf []) []) = (fun (R : Value → HPred) => f6.b R ) := by kernel_rfl
theorem f6.call {R : Value → HPred} {H : Hp} (h : f6.b R  H) : HC Tryz.prog 6 #[] R H :=
  HC.of_den mixed (cuts := f6.cuts) (plans := f6.plans) (args := []) Tryz.func6 (by kernel_rfl) (fun w => Tryz.call6 _ w) (by kernel_rfl) (Eq.mpr (congrFun (congrFun (f6.b_eq) R) H) h)
/-! f7: gauntlet/table.New -/
def f7.at5 (R : Value → HPred) (x4 x15 : Value) : HPred := At Tryz.prog 34 (RQ Tryz.prog Tryz.f7.results.toList R) (stk Tryz.f7 5) [4, 15] [x4, x15] []
def f7.cuts : List (Nat × List Nat) := [(5, [4, 15])]
def f7.plans : List (Nat × Plan) := [(7, (.step 0 [] (.step 1 [] (.step 2 [] (.step 3 [] (.step 6 [] (.step 7 [] (.step 11 [] (.step 12 [] (.fork 4 (.act 5 (.step 8 [] (.step 9 [] (.act 10 (.step 13 [] (.step 14 [] (.act 15 .done))))))) 5 (.act 4 (.step 8 [] (.step 9 [] (.act 10 (.step 13 [] (.step 14 [] (.act 15 .done)))))))))))))))))]
def f7.den (R : Value → HPred) (first : Bool) (k : List Item) (r : Regs) (ds : List Deferred) : HPred := Sx.den Tryz.prog 34 (RQ Tryz.prog Tryz.f7.results.toList R) f7.cuts f7.plans 1000 first k r ds
def f7.b5 (R : Value → HPred) (x4 x15 : Value) : HPred :=
  opt (binV Tryz.prog .lss 3 (Go.Operand.tmp 15) (Go.Operand.const (Go.Value.int Go.IntKind.i64 4)) x15 (.int .i64 4)) fun v1 =>
  cnd v1
  (opt (nilV x4) fun v2 =>
  opt (offV v2 4) fun v3 =>
  opt (nilV x4) fun v4 =>
  opt (offV v4 4) fun v5 =>
  frk
  (tot Tryz.prog (Instr.makeMap 80 none) fun v6 =>
  callF Tryz.prog 25 [] fun v7 =>
  opt (idxA v3 x15 4 4) fun v8 =>
  opt (offV v8 2) fun v9 =>
  st v9 v6 <|
  opt (idxA v5 x15 4 4) fun v10 =>
  opt (offV v10 3) fun v11 =>
  st v11 v7 <|
  opt (binV Tryz.prog .add 3 (Go.Operand.tmp 15) (Go.Operand.const (Go.Value.int Go.IntKind.i64 1)) x15 (.int .i64 1)) fun v12 =>
  f7.at5 R x4 v12)
  (callF Tryz.prog 25 [] fun v13 =>
  tot Tryz.prog (Instr.makeMap 80 none) fun v14 =>
  opt (idxA v3 x15 4 4) fun v15 =>
  opt (offV v15 2) fun v16 =>
  st v16 v14 <|
  opt (idxA v5 x15 4 4) fun v17 =>
  opt (offV v17 3) fun v18 =>
  st v18 v13 <|
  opt (binV Tryz.prog .add 3 (Go.Operand.tmp 15) (Go.Operand.const (Go.Value.int Go.IntKind.i64 1)) x15 (.int .i64 1)) fun v19 =>
  f7.at5 R x4 v19))
  (R (.tuple #[x4, (.int .i64 0)]))
theorem f7.b5_eq : (fun (R : Value → HPred) (x4 x15 : Value) (r : Regs) => f7.den R true (stk Tryz.f7 5) (over [4, 15] [x4, x15] r) []) = (fun (R : Value → HPred) (x4 x15 : Value) (_ : Regs) => f7.b5 R x4 x15) := by kernel_rfl
theorem f7.b5_ok {R : Value → HPred} {x4 x15 : Value} {H : Hp} (h : f7.b5 R x4 x15 H) : f7.at5 R x4 x15 H :=
  At.of_den mixed (f := 1000) (cuts := f7.cuts) (plans := f7.plans) fun r => Eq.mpr (congrFun (congrFun (congrFun (congrFun (congrFun (f7.b5_eq) R) x4) x15) r) H) h
def f7.b (R : Value → HPred) (x0 : Value) : HPred :=
  opt (binV Tryz.prog .lss 3 (Go.Operand.tmp 6) (Go.Operand.const (Go.Value.int Go.IntKind.i64 1)) x0 (.int .i64 1)) fun v1 =>
  grdK v1 false (fun c2 => c2 x0) fun v3 =>
  grdK v1 false (fun c4 => opt (binV Tryz.prog .gtr 3 (Go.Operand.tmp 9) (Go.Operand.const (Go.Value.int Go.IntKind.i64 1048576)) v3 (.int .i64 1048576)) fun v5 =>
  c4 v5) fun v6 =>
  opt (pickV v1 (.bool true) v6) fun v7 =>
  cnd v7
  (R (.tuple #[(.pointer none), (.int .i64 1)]))
  (opt (pureRun Tryz.prog (Instr.build 86 #[(0, x0)])) fun v8 =>
  boxM 86 v8 fun v9 =>
  f7.at5 R v9 (.int .i64 0))
theorem f7.b_eq : (fun (R : Value → HPred) (x0 : Value) => f7.den R false (bodyOf Tryz.f7) (regsOf [x0]) []) = (fun (R : Value → HPred) (x0 : Value) => f7.b R x0) := by kernel_rfl
theorem f7.call {R : Value → HPred} {x0 : Value} {H : Hp} (h : f7.b R x0 H) : HC Tryz.prog 7 #[x0] R H :=
  HC.of_den mixed (cuts := f7.cuts) (plans := f7.plans) (args := [x0]) Tryz.func7 (by kernel_rfl) (fun w => Tryz.call7 _ w) (by kernel_rfl) (Eq.mpr (congrFun (congrFun (congrFun (f7.b_eq) R) x0) H) h)
/-! f8: gauntlet/contest.New -/
def f8.cuts : List (Nat × List Nat) := []
def f8.plans : List (Nat × Plan) := [(4, (.step 0 [2, 3, 4] (.act 1 (.step 2 [] (.act 3 (.step 4 [] .done))))))]
def f8.den (R : Value → HPred) (first : Bool) (k : List Item) (r : Regs) (ds : List Deferred) : HPred := Sx.den Tryz.prog 23 (RQ Tryz.prog Tryz.f8.results.toList R) f8.cuts f8.plans 1000 first k r ds
def f8.b (R : Value → HPred) (x0 : Value) : HPred :=
  boxM 35 x0 fun v1 =>
  rd (cellsP v1 3) fun v2 =>
  callF Tryz.prog 26 [v2] fun v3 =>
  opt (binV Tryz.prog .neq 25 (Go.Operand.tmp 8) (Go.Operand.const (Go.Value.int Go.IntKind.i64 0)) v3 (.int .i64 0)) fun v4 =>
  cnd v4
  (R (.tuple #[(.pointer none), v3]))
  (rd (cellsP v1 3) fun v5 =>
  callF Tryz.prog 27 [(.int .u32 0)] fun v6 =>
  chk (fun H => cellsP v1 3 H = some v5) <|
  opt (pureRun Tryz.prog (Instr.build 98 #[(0, v5), (4, v6)])) fun v7 =>
  boxM 98 v7 fun v8 =>
  opt (offV v1 0) fun v9 =>
  rd (cellP v9) fun v10 =>
  callF Tryz.prog 28 [v10] fun v11 =>
  opt (nilV v8) fun v12 =>
  opt (offV v12 0) fun v13 =>
  opt (offV v13 0) fun v14 =>
  st v14 v11 <|
  R (.tuple #[v8, (.int .i64 0)]))
theorem f8.b_eq : (fun (R : Value → HPred) (x0 : Value) => f8.den R false (bodyOf Tryz.f8) (regsOf [x0]) []) = (fun (R : Value → HPred) (x0 : Value) => f8.b R x0) := by kernel_rfl
theorem f8.call {R : Value → HPred} {x0 : Value} {H : Hp} (h : f8.b R x0 H) : HC Tryz.prog 8 #[x0] R H :=
  HC.of_den mixed (cuts := f8.cuts) (plans := f8.plans) (args := [x0]) Tryz.func8 (by kernel_rfl) (fun w => Tryz.call8 _ w) (by kernel_rfl) (Eq.mpr (congrFun (congrFun (congrFun (f8.b_eq) R) x0) H) h)
/-! f9: gauntlet/gauntletlaw23.game -/
def f9.cuts : List (Nat × List Nat) := []
def f9.plans : List (Nat × Plan) := []
def f9.den (R : Value → HPred) (first : Bool) (k : List Item) (r : Regs) (ds : List Deferred) : HPred := Sx.den Tryz.prog 7 (RQ Tryz.prog Tryz.f9.results.toList R) f9.cuts f9.plans 1000 first k r ds
def f9.b (R : Value → HPred) : HPred :=
  newC #[(.slice none 0 0), (.int .i64 0), (.int .i64 0)] 35 fun v1 =>
  opt (pureRun Tryz.prog (Instr.build 101 #[(0, (.int .i64 2))])) fun v2 =>
  opt (pureRun Tryz.prog (Instr.build 101 #[(0, (.int .i64 16))])) fun v3 =>
  opt (pureRun Tryz.prog (Instr.build 101 #[(0, (.int .i64 4))])) fun v4 =>
  opt (pureRun Tryz.prog (Instr.build 101 #[(0, (.int .i64 3))])) fun v5 =>
  tot Tryz.prog (Instr.buildSlice 33 4 #[(0, v2), (1, v3), (2, v4), (3, v5)]) fun v6 =>
  opt (pureRun Tryz.prog (Instr.build 35 #[(0, v6), (1, (.int .i64 6)), (2, (.int .i64 9))])) fun v7 =>
  stA v1 3 v7 <|
  rd (cellsP v1 3) fun v8 => R v8
theorem f9.b_eq : (fun (R : Value → HPred) => f9.den R false (bodyOf Tryz.f9) (regsOf []) []) = (fun (R : Value → HPred) => f9.b R ) := by kernel_rfl
theorem f9.call {R : Value → HPred} {H : Hp} (h : f9.b R  H) : HC Tryz.prog 9 #[] R H :=
  HC.of_den mixed (cuts := f9.cuts) (plans := f9.plans) (args := []) Tryz.func9 (by kernel_rfl) (fun w => Tryz.call9 _ w) (by kernel_rfl) (Eq.mpr (congrFun (congrFun (f9.b_eq) R) H) h)
/-! f10: (*gauntlet/table.Table).Lay -/
def f10.cuts : List (Nat × List Nat) := []
def f10.plans : List (Nat × Plan) := []
def f10.den (R : Value → HPred) (first : Bool) (k : List Item) (r : Regs) (ds : List Deferred) : HPred := Sx.den Tryz.prog 56 (RQ Tryz.prog Tryz.f10.results.toList R) f10.cuts f10.plans 1000 first k r ds
def f10.b (R : Value → HPred) (x0 x1 x2 x3 : Value) : HPred :=
  rd (binR Tryz.prog .eql 24 (Go.Operand.tmp 10) (Go.Operand.const (Go.Value.pointer none)) x0 (.pointer none)) fun v1 =>
  grdK v1 false (fun c2 => c2 x1) fun v3 =>
  grdK v1 false (fun c4 => opt (binV Tryz.prog .lss 3 (Go.Operand.tmp 13) (Go.Operand.const (Go.Value.int Go.IntKind.i64 0)) v3 (.int .i64 0)) fun v5 =>
  c4 v5) fun v6 =>
  opt (pickV v1 (.bool true) v6) fun v7 =>
  grdK v7 false (fun c8 => c8 x2) fun v9 =>
  grdK v7 false (fun c10 => rd (binR Tryz.prog .eql 30 (Go.Operand.tmp 17) (Go.Operand.const (Go.Value.pointer none)) v9 (.pointer none)) fun v11 =>
  c10 v11) fun v12 =>
  opt (pickV v7 (.bool true) v12) fun v13 =>
  cnd v13
  (R (.int .i64 1))
  (opt (binV Tryz.prog .rem 3 (Go.Operand.tmp 21) (Go.Operand.const (Go.Value.int Go.IntKind.i64 4)) x1 (.int .i64 4)) fun v14 =>
  opt (nilV x0) fun v15 =>
  opt (offV v15 4) fun v16 =>
  opt (idxA v16 v14 4 4) fun v17 =>
  opt (nilV v17) fun v18 =>
  opt (offV v18 0) fun v19 =>
  callF Tryz.prog 29 [v19] fun v20 =>
  opt (nilV v17) fun v21 =>
  opt (offV v21 0) fun v22 =>
  opt (nilV v17) fun v23 =>
  opt (offV v23 2) fun v24 =>
  rd (cellP v24) fun v25 =>
  rd (readRun Tryz.prog (Instr.lookup 80 v25 x1 false)) fun v26 =>
  rd (binR Tryz.prog .neq 30 (Go.Operand.tmp 39) (Go.Operand.const (Go.Value.pointer none)) v26 (.pointer none)) fun v27 =>
  cnd v27
  (leaveH Tryz.prog (R (.int .i64 8)) ({ target := .fn (.func 30) #[], args := #[v22] } :: []))
  (callF Tryz.prog 31 [x0, (.int .i64 1)] fun v28 =>
  opt (pureRun Tryz.prog (Op.unary .not v28)) fun v29 =>
  cnd v29
  (leaveH Tryz.prog (R (.int .i64 17)) ({ target := .fn (.func 30) #[], args := #[v22] } :: []))
  (opt (nilV v17) fun v30 =>
  opt (offV v30 2) fun v31 =>
  rd (cellP v31) fun v32 =>
  unitT Tryz.prog (Instr.mapUpdate 80 v32 x1 x2) fun v33 =>
  callF Tryz.prog 32 [x0, v17, x1, x3] fun v34 =>
  leaveH Tryz.prog (R (.int .i64 0)) ({ target := .fn (.func 30) #[], args := #[v22] } :: []))))
theorem f10.b_eq : (fun (R : Value → HPred) (x0 x1 x2 x3 : Value) => f10.den R false (bodyOf Tryz.f10) (regsOf [x0, x1, x2, x3]) []) = (fun (R : Value → HPred) (x0 x1 x2 x3 : Value) => f10.b R x0 x1 x2 x3) := by kernel_rfl
theorem f10.call {R : Value → HPred} {x0 x1 x2 x3 : Value} {H : Hp} (h : f10.b R x0 x1 x2 x3 H) : HC Tryz.prog 10 #[x0, x1, x2, x3] R H :=
  HC.of_den mixed (cuts := f10.cuts) (plans := f10.plans) (args := [x0, x1, x2, x3]) Tryz.func10 (by kernel_rfl) (fun w => Tryz.call10 _ w) (by kernel_rfl) (Eq.mpr (congrFun (congrFun (congrFun (congrFun (congrFun (congrFun (f10.b_eq) R) x0) x1) x2) x3) H) h)
/-! f11: (*gauntlet/table.Table).Shard -/
def f11.cuts : List (Nat × List Nat) := []
def f11.plans : List (Nat × Plan) := []
def f11.den (R : Value → HPred) (first : Bool) (k : List Item) (r : Regs) (ds : List Deferred) : HPred := Sx.den Tryz.prog 33 (RQ Tryz.prog Tryz.f11.results.toList R) f11.cuts f11.plans 1000 first k r ds
def f11.b (R : Value → HPred) (x0 x1 : Value) : HPred :=
  rd (binR Tryz.prog .eql 24 (Go.Operand.tmp 6) (Go.Operand.const (Go.Value.pointer none)) x0 (.pointer none)) fun v1 =>
  grdK v1 false (fun c2 => c2 x1) fun v3 =>
  grdK v1 false (fun c4 => opt (binV Tryz.prog .lss 3 (Go.Operand.tmp 9) (Go.Operand.const (Go.Value.int Go.IntKind.i64 0)) v3 (.int .i64 0)) fun v5 =>
  c4 v5) fun v6 =>
  opt (pickV v1 (.bool true) v6) fun v7 =>
  grdK v7 false (fun c8 => c8 x1) fun v9 =>
  grdK v7 false (fun c10 => opt (binV Tryz.prog .geq 3 (Go.Operand.tmp 13) (Go.Operand.const (Go.Value.int Go.IntKind.i64 4)) v9 (.int .i64 4)) fun v11 =>
  c10 v11) fun v12 =>
  opt (pickV v7 (.bool true) v12) fun v13 =>
  cnd v13
  (R (.int .i64 0))
  (opt (nilV x0) fun v14 =>
  opt (offV v14 4) fun v15 =>
  opt (idxA v15 x1 4 4) fun v16 =>
  opt (nilV v16) fun v17 =>
  opt (offV v17 0) fun v18 =>
  callF Tryz.prog 29 [v18] fun v19 =>
  opt (nilV v16) fun v20 =>
  opt (offV v20 0) fun v21 =>
  opt (nilV v16) fun v22 =>
  opt (offV v22 2) fun v23 =>
  rd (cellP v23) fun v24 =>
  rd (readRun Tryz.prog (bltN .len #[80] 3 #[false] [v24])) fun v25 =>
  leaveH Tryz.prog (R v25) ({ target := .fn (.func 30) #[], args := #[v21] } :: []))
theorem f11.b_eq : (fun (R : Value → HPred) (x0 x1 : Value) => f11.den R false (bodyOf Tryz.f11) (regsOf [x0, x1]) []) = (fun (R : Value → HPred) (x0 x1 : Value) => f11.b R x0 x1) := by kernel_rfl
theorem f11.call {R : Value → HPred} {x0 x1 : Value} {H : Hp} (h : f11.b R x0 x1 H) : HC Tryz.prog 11 #[x0, x1] R H :=
  HC.of_den mixed (cuts := f11.cuts) (plans := f11.plans) (args := [x0, x1]) Tryz.func11 (by kernel_rfl) (fun w => Tryz.call11 _ w) (by kernel_rfl) (Eq.mpr (congrFun (congrFun (congrFun (congrFun (f11.b_eq) R) x0) x1) H) h)
/-! f12: (*gauntlet/table.Table).Keys -/
def f12.at5 (R : Value → HPred) (x0 x3 x8 : Value) : HPred := At Tryz.prog 35 (RQ Tryz.prog Tryz.f12.results.toList R) (stk Tryz.f12 5) [0, 3, 8] [x0, x3, x8] []
def f12.cuts : List (Nat × List Nat) := [(5, [0, 3, 8])]
def f12.plans : List (Nat × Plan) := []
def f12.den (R : Value → HPred) (first : Bool) (k : List Item) (r : Regs) (ds : List Deferred) : HPred := Sx.den Tryz.prog 35 (RQ Tryz.prog Tryz.f12.results.toList R) f12.cuts f12.plans 1000 first k r ds
def f12.b5 (R : Value → HPred) (x0 x3 x8 : Value) : HPred :=
  opt (binV Tryz.prog .lss 3 (Go.Operand.tmp 8) (Go.Operand.const (Go.Value.int Go.IntKind.i64 4)) x8 (.int .i64 4)) fun v1 =>
  cnd v1
  (opt (nilV x0) fun v2 =>
  opt (offV v2 4) fun v3 =>
  opt (idxA v3 x8 4 4) fun v4 =>
  opt (nilV v4) fun v5 =>
  opt (offV v5 0) fun v6 =>
  callF Tryz.prog 29 [v6] fun v7 =>
  opt (nilV v4) fun v8 =>
  opt (offV v8 2) fun v9 =>
  rd (cellP v9) fun v10 =>
  callF Tryz.prog 34 [v10] fun v11 =>
  callF Tryz.prog 33 [x3, v11] fun v12 =>
  opt (nilV v4) fun v13 =>
  opt (offV v13 0) fun v14 =>
  callF Tryz.prog 30 [v14] fun v15 =>
  opt (binV Tryz.prog .add 3 (Go.Operand.tmp 8) (Go.Operand.const (Go.Value.int Go.IntKind.i64 1)) x8 (.int .i64 1)) fun v16 =>
  f12.at5 R x0 v12 v16)
  (callF Tryz.prog 35 [x3] fun v17 =>
  R x3)
theorem f12.b5_eq : (fun (R : Value → HPred) (x0 x3 x8 : Value) (r : Regs) => f12.den R true (stk Tryz.f12 5) (over [0, 3, 8] [x0, x3, x8] r) []) = (fun (R : Value → HPred) (x0 x3 x8 : Value) (_ : Regs) => f12.b5 R x0 x3 x8) := by kernel_rfl
theorem f12.b5_ok {R : Value → HPred} {x0 x3 x8 : Value} {H : Hp} (h : f12.b5 R x0 x3 x8 H) : f12.at5 R x0 x3 x8 H :=
  At.of_den mixed (f := 1000) (cuts := f12.cuts) (plans := f12.plans) fun r => Eq.mpr (congrFun (congrFun (congrFun (congrFun (congrFun (congrFun (f12.b5_eq) R) x0) x3) x8) r) H) h
def f12.b (R : Value → HPred) (x0 : Value) : HPred :=
  rd (binR Tryz.prog .eql 24 (Go.Operand.tmp 6) (Go.Operand.const (Go.Value.pointer none)) x0 (.pointer none)) fun v1 =>
  cnd v1
  (R (.slice none 0 0))
  (f12.at5 R x0 (.slice none 0 0) (.int .i64 0))
theorem f12.b_eq : (fun (R : Value → HPred) (x0 : Value) => f12.den R false (bodyOf Tryz.f12) (regsOf [x0]) []) = (fun (R : Value → HPred) (x0 : Value) => f12.b R x0) := by kernel_rfl
theorem f12.call {R : Value → HPred} {x0 : Value} {H : Hp} (h : f12.b R x0 H) : HC Tryz.prog 12 #[x0] R H :=
  HC.of_den mixed (cuts := f12.cuts) (plans := f12.plans) (args := [x0]) Tryz.func12 (by kernel_rfl) (fun w => Tryz.call12 _ w) (by kernel_rfl) (Eq.mpr (congrFun (congrFun (congrFun (f12.b_eq) R) x0) H) h)
/-! f13: (*gauntlet/table.Table).Due -/
def f13.at5 (R : Value → HPred) (x0 x1 x5 x18 : Value) : HPred := At Tryz.prog 114 (RQ Tryz.prog Tryz.f13.results.toList R) (stk Tryz.f13 5) [0, 1, 5, 18] [x0, x1, x5, x18] []
def f13.at10 (R : Value → HPred) (x0 x1 x5 x6 x7 x8 x9 x10 x18 : Value) : HPred := At Tryz.prog 114 (RQ Tryz.prog Tryz.f13.results.toList R) (stk Tryz.f13 10) [0, 1, 5, 6, 7, 8, 9, 10, 18] [x0, x1, x5, x6, x7, x8, x9, x10, x18] []
def f13.at15 (R : Value → HPred) (x0 x1 x5 x6 x7 x18 x73 x74 x75 : Value) : HPred := At Tryz.prog 114 (RQ Tryz.prog Tryz.f13.results.toList R) (stk Tryz.f13 15) [0, 1, 5, 6, 7, 18, 73, 74, 75] [x0, x1, x5, x6, x7, x18, x73, x74, x75] []
def f13.at19 (R : Value → HPred) (x0 x1 x5 x6 x7 x18 x73 x74 x75 : Value) : HPred := At Tryz.prog 114 (RQ Tryz.prog Tryz.f13.results.toList R) (stk Tryz.f13 19) [0, 1, 5, 6, 7, 18, 73, 74, 75] [x0, x1, x5, x6, x7, x18, x73, x74, x75] []
def f13.at25 (R : Value → HPred) (x13 x98 x99 x100 : Value) : HPred := At Tryz.prog 114 (RQ Tryz.prog Tryz.f13.results.toList R) (stk Tryz.f13 25) [13, 98, 99, 100] [x13, x98, x99, x100] []
def f13.cuts : List (Nat × List Nat) := [(5, [0, 1, 5, 18]), (10, [0, 1, 5, 6, 7, 8, 9, 10, 18]), (15, [0, 1, 5, 6, 7, 18, 73, 74, 75]), (19, [0, 1, 5, 6, 7, 18, 73, 74, 75]), (25, [13, 98, 99, 100])]
def f13.plans : List (Nat × Plan) := []
def f13.den (R : Value → HPred) (first : Bool) (k : List Item) (r : Regs) (ds : List Deferred) : HPred := Sx.den Tryz.prog 114 (RQ Tryz.prog Tryz.f13.results.toList R) f13.cuts f13.plans 1000 first k r ds
def f13.b5 (R : Value → HPred) (x0 x1 x5 x18 : Value) : HPred :=
  opt (binV Tryz.prog .lss 3 (Go.Operand.tmp 18) (Go.Operand.const (Go.Value.int Go.IntKind.i64 4)) x18 (.int .i64 4)) fun v1 =>
  cnd v1
  (opt (nilV x0) fun v2 =>
  opt (offV v2 4) fun v3 =>
  opt (idxA v3 x18 4 4) fun v4 =>
  opt (nilV v4) fun v5 =>
  opt (offV v5 0) fun v6 =>
  callF Tryz.prog 29 [v6] fun v7 =>
  opt (nilV v4) fun v8 =>
  opt (offV v8 3) fun v9 =>
  rd (cellP v9) fun v10 =>
  callF Tryz.prog 36 [v10] fun v11 =>
  opt (extV v11 0) fun v12 =>
  opt (extV v11 1) fun v13 =>
  opt (extV v11 2) fun v14 =>
  f13.at10 R x0 x1 x5 x18 v4 v12 v13 v14 x18)
  (callF Tryz.prog 39 [x5, (.func (.func 40) #[] #[])] fun v15 =>
  opt (pureRun Tryz.prog (bltN .len #[110] 3 #[false] [x5])) fun v16 =>
  f13.at25 R (.slice none 0 0) x5 v16 (.int .i64 0))
theorem f13.b5_eq : (fun (R : Value → HPred) (x0 x1 x5 x18 : Value) (r : Regs) => f13.den R true (stk Tryz.f13 5) (over [0, 1, 5, 18] [x0, x1, x5, x18] r) []) = (fun (R : Value → HPred) (x0 x1 x5 x18 : Value) (_ : Regs) => f13.b5 R x0 x1 x5 x18) := by kernel_rfl
theorem f13.b5_ok {R : Value → HPred} {x0 x1 x5 x18 : Value} {H : Hp} (h : f13.b5 R x0 x1 x5 x18 H) : f13.at5 R x0 x1 x5 x18 H :=
  At.of_den mixed (f := 1000) (cuts := f13.cuts) (plans := f13.plans) fun r => Eq.mpr (congrFun (congrFun (congrFun (congrFun (congrFun (congrFun (congrFun (f13.b5_eq) R) x0) x1) x5) x18) r) H) h
def f13.b10 (R : Value → HPred) (x0 x1 x5 x6 x7 x8 x9 x10 x18 : Value) : HPred :=
  grdK x10 true (fun c1 => c1 x9) fun v2 =>
  grdK x10 true (fun c3 => c3 x1) fun v4 =>
  grdK x10 true (fun c5 => opt (binV Tryz.prog .leq 3 (Go.Operand.tmp 41) (Go.Operand.tmp 42) v2 v4) fun v6 =>
  c5 v6) fun v7 =>
  opt (pickV x10 v7 (.bool false)) fun v8 =>
  cnd v8
  (opt (nilV x7) fun v9 =>
  opt (offV v9 2) fun v10 =>
  rd (cellP v10) fun v11 =>
  rd (readRun Tryz.prog (Instr.lookup 80 v11 x8 false)) fun v12 =>
  callF Tryz.prog 37 [v12] fun v13 =>
  opt (pureRun Tryz.prog (Instr.build 115 #[(0, x9), (1, x8), (2, v13)])) fun v14 =>
  tot Tryz.prog (Instr.buildSlice 110 1 #[(0, v14)]) fun v15 =>
  blt Tryz.prog .append #[110, 110] 110 #[false, false] [x5, v15] fun v16 =>
  opt (nilV x7) fun v17 =>
  opt (offV v17 3) fun v18 =>
  rd (cellP v18) fun v19 =>
  callF Tryz.prog 38 [v19, x8] fun v20 =>
  opt (nilV x7) fun v21 =>
  opt (offV v21 3) fun v22 =>
  rd (cellP v22) fun v23 =>
  callF Tryz.prog 36 [v23] fun v24 =>
  opt (extV v24 0) fun v25 =>
  opt (extV v24 1) fun v26 =>
  opt (extV v24 2) fun v27 =>
  f13.at10 R x0 x1 v16 x6 x7 v25 v26 v27 x18)
  (opt (pureRun Tryz.prog (bltN .len #[110] 3 #[false] [x5])) fun v28 =>
  f13.at15 R x0 x1 x5 x6 x7 x18 x5 v28 (.int .i64 0))
theorem f13.b10_eq : (fun (R : Value → HPred) (x0 x1 x5 x6 x7 x8 x9 x10 x18 : Value) (r : Regs) => f13.den R true (stk Tryz.f13 10) (over [0, 1, 5, 6, 7, 8, 9, 10, 18] [x0, x1, x5, x6, x7, x8, x9, x10, x18] r) []) = (fun (R : Value → HPred) (x0 x1 x5 x6 x7 x8 x9 x10 x18 : Value) (_ : Regs) => f13.b10 R x0 x1 x5 x6 x7 x8 x9 x10 x18) := by kernel_rfl
theorem f13.b10_ok {R : Value → HPred} {x0 x1 x5 x6 x7 x8 x9 x10 x18 : Value} {H : Hp} (h : f13.b10 R x0 x1 x5 x6 x7 x8 x9 x10 x18 H) : f13.at10 R x0 x1 x5 x6 x7 x8 x9 x10 x18 H :=
  At.of_den mixed (f := 1000) (cuts := f13.cuts) (plans := f13.plans) fun r => Eq.mpr (congrFun (congrFun (congrFun (congrFun (congrFun (congrFun (congrFun (congrFun (congrFun (congrFun (congrFun (congrFun (f13.b10_eq) R) x0) x1) x5) x6) x7) x8) x9) x10) x18) r) H) h
def f13.b15 (R : Value → HPred) (x0 x1 x5 x6 x7 x18 x73 x74 x75 : Value) : HPred :=
  opt (binV Tryz.prog .lss 3 (Go.Operand.tmp 75) (Go.Operand.tmp 74) x75 x74) fun v1 =>
  cnd v1
  (opt (idxS x73 x75 3) fun v2 =>
  rd (cellsP v2 3) fun v3 =>
  newC #[(.int .i64 0), (.int .i64 0), (.int .i64 0)] 115 fun v4 =>
  stA v4 3 v3 <|
  opt (offV v4 1) fun v5 =>
  rd (cellP v5) fun v6 =>
  opt (binV Tryz.prog .rem 3 (Go.Operand.tmp 80) (Go.Operand.const (Go.Value.int Go.IntKind.i64 4)) v6 (.int .i64 4)) fun v7 =>
  opt (binV Tryz.prog .eql 3 (Go.Operand.tmp 81) (Go.Operand.tmp 82) v7 x6) fun v8 =>
  cnd v8
  (opt (offV v4 1) fun v9 =>
  rd (cellP v9) fun v10 =>
  callF Tryz.prog 32 [x0, x7, v10, x1] fun v11 =>
  f13.at19 R x0 x1 x5 x6 x7 x18 x73 x74 x75)
  (f13.at19 R x0 x1 x5 x6 x7 x18 x73 x74 x75))
  (opt (nilV x7) fun v12 =>
  opt (offV v12 0) fun v13 =>
  callF Tryz.prog 30 [v13] fun v14 =>
  opt (binV Tryz.prog .add 3 (Go.Operand.tmp 18) (Go.Operand.const (Go.Value.int Go.IntKind.i64 1)) x18 (.int .i64 1)) fun v15 =>
  f13.at5 R x0 x1 x5 v15)
theorem f13.b15_eq : (fun (R : Value → HPred) (x0 x1 x5 x6 x7 x18 x73 x74 x75 : Value) (r : Regs) => f13.den R true (stk Tryz.f13 15) (over [0, 1, 5, 6, 7, 18, 73, 74, 75] [x0, x1, x5, x6, x7, x18, x73, x74, x75] r) []) = (fun (R : Value → HPred) (x0 x1 x5 x6 x7 x18 x73 x74 x75 : Value) (_ : Regs) => f13.b15 R x0 x1 x5 x6 x7 x18 x73 x74 x75) := by kernel_rfl
theorem f13.b15_ok {R : Value → HPred} {x0 x1 x5 x6 x7 x18 x73 x74 x75 : Value} {H : Hp} (h : f13.b15 R x0 x1 x5 x6 x7 x18 x73 x74 x75 H) : f13.at15 R x0 x1 x5 x6 x7 x18 x73 x74 x75 H :=
  At.of_den mixed (f := 1000) (cuts := f13.cuts) (plans := f13.plans) fun r => Eq.mpr (congrFun (congrFun (congrFun (congrFun (congrFun (congrFun (congrFun (congrFun (congrFun (congrFun (congrFun (congrFun (f13.b15_eq) R) x0) x1) x5) x6) x7) x18) x73) x74) x75) r) H) h
def f13.b19 (R : Value → HPred) (x0 x1 x5 x6 x7 x18 x73 x74 x75 : Value) : HPred :=
  opt (binV Tryz.prog .add 3 (Go.Operand.tmp 75) (Go.Operand.const (Go.Value.int Go.IntKind.i64 1)) x75 (.int .i64 1)) fun v1 =>
  f13.at15 R x0 x1 x5 x6 x7 x18 x73 x74 v1
theorem f13.b19_eq : (fun (R : Value → HPred) (x0 x1 x5 x6 x7 x18 x73 x74 x75 : Value) (r : Regs) => f13.den R true (stk Tryz.f13 19) (over [0, 1, 5, 6, 7, 18, 73, 74, 75] [x0, x1, x5, x6, x7, x18, x73, x74, x75] r) []) = (fun (R : Value → HPred) (x0 x1 x5 x6 x7 x18 x73 x74 x75 : Value) (_ : Regs) => f13.b19 R x0 x1 x5 x6 x7 x18 x73 x74 x75) := by kernel_rfl
theorem f13.b19_ok {R : Value → HPred} {x0 x1 x5 x6 x7 x18 x73 x74 x75 : Value} {H : Hp} (h : f13.b19 R x0 x1 x5 x6 x7 x18 x73 x74 x75 H) : f13.at19 R x0 x1 x5 x6 x7 x18 x73 x74 x75 H :=
  At.of_den mixed (f := 1000) (cuts := f13.cuts) (plans := f13.plans) fun r => Eq.mpr (congrFun (congrFun (congrFun (congrFun (congrFun (congrFun (congrFun (congrFun (congrFun (congrFun (congrFun (congrFun (f13.b19_eq) R) x0) x1) x5) x6) x7) x18) x73) x74) x75) r) H) h
def f13.b25 (R : Value → HPred) (x13 x98 x99 x100 : Value) : HPred :=
  opt (binV Tryz.prog .lss 3 (Go.Operand.tmp 100) (Go.Operand.tmp 99) x100 x99) fun v1 =>
  cnd v1
  (opt (idxS x98 x100 3) fun v2 =>
  rd (cellsP v2 3) fun v3 =>
  newC #[(.int .i64 0), (.int .i64 0), (.int .i64 0)] 115 fun v4 =>
  stA v4 3 v3 <|
  opt (offV v4 1) fun v5 =>
  rd (cellP v5) fun v6 =>
  opt (offV v4 2) fun v7 =>
  rd (cellP v7) fun v8 =>
  opt (pureRun Tryz.prog (Instr.build 73 #[(0, v6), (1, v8)])) fun v9 =>
  tot Tryz.prog (Instr.buildSlice 40 1 #[(0, v9)]) fun v10 =>
  blt Tryz.prog .append #[40, 40] 40 #[false, false] [x13, v10] fun v11 =>
  opt (binV Tryz.prog .add 3 (Go.Operand.tmp 100) (Go.Operand.const (Go.Value.int Go.IntKind.i64 1)) x100 (.int .i64 1)) fun v12 =>
  f13.at25 R v11 x98 x99 v12)
  (R x13)
theorem f13.b25_eq : (fun (R : Value → HPred) (x13 x98 x99 x100 : Value) (r : Regs) => f13.den R true (stk Tryz.f13 25) (over [13, 98, 99, 100] [x13, x98, x99, x100] r) []) = (fun (R : Value → HPred) (x13 x98 x99 x100 : Value) (_ : Regs) => f13.b25 R x13 x98 x99 x100) := by kernel_rfl
theorem f13.b25_ok {R : Value → HPred} {x13 x98 x99 x100 : Value} {H : Hp} (h : f13.b25 R x13 x98 x99 x100 H) : f13.at25 R x13 x98 x99 x100 H :=
  At.of_den mixed (f := 1000) (cuts := f13.cuts) (plans := f13.plans) fun r => Eq.mpr (congrFun (congrFun (congrFun (congrFun (congrFun (congrFun (congrFun (f13.b25_eq) R) x13) x98) x99) x100) r) H) h
def f13.b (R : Value → HPred) (x0 x1 : Value) : HPred :=
  rd (binR Tryz.prog .eql 24 (Go.Operand.tmp 16) (Go.Operand.const (Go.Value.pointer none)) x0 (.pointer none)) fun v1 =>
  cnd v1
  (R (.slice none 0 0))
  (f13.at5 R x0 x1 (.slice none 0 0) (.int .i64 0))
theorem f13.b_eq : (fun (R : Value → HPred) (x0 x1 : Value) => f13.den R false (bodyOf Tryz.f13) (regsOf [x0, x1]) []) = (fun (R : Value → HPred) (x0 x1 : Value) => f13.b R x0 x1) := by kernel_rfl
theorem f13.call {R : Value → HPred} {x0 x1 : Value} {H : Hp} (h : f13.b R x0 x1 H) : HC Tryz.prog 13 #[x0, x1] R H :=
  HC.of_den mixed (cuts := f13.cuts) (plans := f13.plans) (args := [x0, x1]) Tryz.func13 (by kernel_rfl) (fun w => Tryz.call13 _ w) (by kernel_rfl) (Eq.mpr (congrFun (congrFun (congrFun (congrFun (f13.b_eq) R) x0) x1) H) h)
/-! f14: gauntlet/gauntletlaw23.start -/
def f14.cuts : List (Nat × List Nat) := []
def f14.plans : List (Nat × Plan) := []
def f14.den (R : Value → HPred) (first : Bool) (k : List Item) (r : Regs) (ds : List Deferred) : HPred := Sx.den Tryz.prog 32 (RQ Tryz.prog Tryz.f14.results.toList R) f14.cuts f14.plans 1000 first k r ds
def f14.b (R : Value → HPred) (x0 : Value) : HPred :=
  callF Tryz.prog 7 [x0] fun v1 =>
  opt (extV v1 0) fun v2 =>
  opt (extV v1 1) fun v3 =>
  callF Tryz.prog 43 [x0] fun v4 =>
  opt (extV v4 0) fun v5 =>
  opt (extV v4 1) fun v6 =>
  opt (pureRun Tryz.prog (Instr.build 49 #[(0, v2), (1, v5)])) fun v7 =>
  boxM 49 v7 fun v8 =>
  opt (binV Tryz.prog .eql 3 (Go.Operand.tmp 22) (Go.Operand.tmp 23) v3 v6) fun v9 =>
  grdK v9 true (fun c10 => c10 v2) fun v11 =>
  grdK v9 true (fun c12 => rd (binR Tryz.prog .eql 24 (Go.Operand.tmp 26) (Go.Operand.const (Go.Value.pointer none)) v11 (.pointer none)) fun v13 =>
  c12 v13) fun v14 =>
  grdK v9 true (fun c15 => c15 v6) fun v16 =>
  grdK v9 true (fun c17 => opt (binV Tryz.prog .neq 3 (Go.Operand.tmp 28) (Go.Operand.const (Go.Value.int Go.IntKind.i64 0)) v16 (.int .i64 0)) fun v18 =>
  c17 v18) fun v19 =>
  grdK v9 true (fun c20 => opt (binV Tryz.prog .eql 4 (Go.Operand.tmp 27) (Go.Operand.tmp 29) v14 v19) fun v21 =>
  c20 v21) fun v22 =>
  opt (pickV v9 v22 (.bool false)) fun v23 =>
  R (.tuple #[v8, v23])
theorem f14.b_eq : (fun (R : Value → HPred) (x0 : Value) => f14.den R false (bodyOf Tryz.f14) (regsOf [x0]) []) = (fun (R : Value → HPred) (x0 : Value) => f14.b R x0) := by kernel_rfl
theorem f14.call {R : Value → HPred} {x0 : Value} {H : Hp} (h : f14.b R x0 H) : HC Tryz.prog 14 #[x0] R H :=
  HC.of_den mixed (cuts := f14.cuts) (plans := f14.plans) (args := [x0]) Tryz.func14 (by kernel_rfl) (fun w => Tryz.call14 _ w) (by kernel_rfl) (Eq.mpr (congrFun (congrFun (congrFun (f14.b_eq) R) x0) H) h)
/-! f23: (*gauntlet/gauntletlaw23.pair).lay -/
def f23.at9 (R : Value → HPred) (x0 x1 x7 x9 : Value) : HPred := At Tryz.prog 62 (RQ Tryz.prog Tryz.f23.results.toList R) (stk Tryz.f23 9) [0, 1, 7, 9] [x0, x1, x7, x9] []
def f23.cuts : List (Nat × List Nat) := [(9, [0, 1, 7, 9])]
def f23.plans : List (Nat × Plan) := [(9, (.step 0 [] (.step 1 [] (.step 2 [] (.step 3 [10, 21, 22, 23] (.step 4 [] (.step 5 [] (.step 6 [] (.step 7 [] (.step 8 [] (.step 9 [10, 21, 22, 23] (.step 11 [] (.step 12 [] (.step 13 [] (.step 14 [21, 22, 23] (.step 15 [] (.step 16 [] (.step 17 [] (.step 18 [] (.step 19 [] (.step 20 [21, 22, 23] (.act 10 (.act 21 (.step 22 [] (.step 23 [] .done)))))))))))))))))))))))))]
def f23.den (R : Value → HPred) (first : Bool) (k : List Item) (r : Regs) (ds : List Deferred) : HPred := Sx.den Tryz.prog 62 (RQ Tryz.prog Tryz.f23.results.toList R) f23.cuts f23.plans 1000 first k r ds
def f23.b9 (R : Value → HPred) (x0 x1 x7 x9 : Value) : HPred :=
  opt (nilV x0) fun v1 =>
  opt (offV v1 0) fun v2 =>
  rd (cellP v2) fun v3 =>
  opt (nilV x0) fun v4 =>
  opt (offV v4 2) fun v5 =>
  rd (cellP v5) fun v6 =>
  opt (nilV x0) fun v7 =>
  opt (offV v7 1) fun v8 =>
  rd (cellP v8) fun v9 =>
  opt (nilV x0) fun v10 =>
  opt (offV v10 2) fun v11 =>
  rd (cellP v11) fun v12 =>
  callF Tryz.prog 10 [v3, x1, x7, v6] fun v13 =>
  chk (fun H => cellP v11 H = some v12) <|
  chk (fun H => cellP v8 H = some v9) <|
  callF Tryz.prog 65 [v9, x1, x9, v12] fun v14 =>
  opt (binV Tryz.prog .eql 3 (Go.Operand.tmp 49) (Go.Operand.tmp 60) v13 v14) fun v15 =>
  R v15
theorem f23.b9_eq : (fun (R : Value → HPred) (x0 x1 x7 x9 : Value) (r : Regs) => f23.den R true (stk Tryz.f23 9) (over [0, 1, 7, 9] [x0, x1, x7, x9] r) []) = (fun (R : Value → HPred) (x0 x1 x7 x9 : Value) (_ : Regs) => f23.b9 R x0 x1 x7 x9) := by kernel_rfl
theorem f23.b9_ok {R : Value → HPred} {x0 x1 x7 x9 : Value} {H : Hp} (h : f23.b9 R x0 x1 x7 x9 H) : f23.at9 R x0 x1 x7 x9 H :=
  At.of_den mixed (f := 1000) (cuts := f23.cuts) (plans := f23.plans) fun r => Eq.mpr (congrFun (congrFun (congrFun (congrFun (congrFun (congrFun (congrFun (f23.b9_eq) R) x0) x1) x7) x9) r) H) h
def f23.b (R : Value → HPred) (x0 x1 x2 : Value) : HPred :=
  callF Tryz.prog 9 [] fun v1 =>
  callF Tryz.prog 8 [v1] fun v2 =>
  opt (extV v2 0) fun v3 =>
  opt (extV v2 1) fun v4 =>
  callF Tryz.prog 9 [] fun v5 =>
  callF Tryz.prog 63 [v5] fun v6 =>
  opt (extV v6 0) fun v7 =>
  opt (extV v6 1) fun v8 =>
  opt (binV Tryz.prog .neq 25 (Go.Operand.tmp 22) (Go.Operand.const (Go.Value.int Go.IntKind.i64 0)) v4 (.int .i64 0)) fun v9 =>
  grdK v9 false (fun c10 => c10 v3) fun v11 =>
  grdK v9 false (fun c12 => rd (binR Tryz.prog .eql 30 (Go.Operand.tmp 25) (Go.Operand.const (Go.Value.pointer none)) v11 (.pointer none)) fun v13 =>
  c12 v13) fun v14 =>
  opt (pickV v9 (.bool true) v14) fun v15 =>
  cnd v15
  (R (.bool false))
  (cnd x2
  (opt (binV Tryz.prog .and 3 (Go.Operand.tmp 29) (Go.Operand.const (Go.Value.int Go.IntKind.i64 7)) x1 (.int .i64 7)) fun v16 =>
  opt (binV Tryz.prog .add 3 (Go.Operand.const (Go.Value.int Go.IntKind.i64 1)) (Go.Operand.tmp 30) (.int .i64 1) v16) fun v17 =>
  opt (pureRun Tryz.prog (Instr.build 53 #[(0, (.int .i64 1)), (1, v17), (2, (.int .i64 9)), (5, (.int .i64 5))])) fun v18 =>
  newC #[(.int .i64 0), (.int .i64 0), (.int .i64 0), (.int .i64 0), (.int .u16 0), (.int .i64 0)] 53 fun v19 =>
  stA v19 6 v18 <|
  rd (cellsP v19 6) fun v20 =>
  callF Tryz.prog 59 [v3, v20] fun v21 =>
  rd (cellsP v19 6) fun v22 =>
  callF Tryz.prog 64 [v7, v22] fun v23 =>
  f23.at9 R x0 x1 v3 v7)
  (f23.at9 R x0 x1 v3 v7))
theorem f23.b_eq : (fun (R : Value → HPred) (x0 x1 x2 : Value) => f23.den R false (bodyOf Tryz.f23) (regsOf [x0, x1, x2]) []) = (fun (R : Value → HPred) (x0 x1 x2 : Value) => f23.b R x0 x1 x2) := by kernel_rfl
theorem f23.call {R : Value → HPred} {x0 x1 x2 : Value} {H : Hp} (h : f23.b R x0 x1 x2 H) : HC Tryz.prog 23 #[x0, x1, x2] R H :=
  HC.of_den mixed (cuts := f23.cuts) (plans := f23.plans) (args := [x0, x1, x2]) Tryz.func23 (by kernel_rfl) (fun w => Tryz.call23 _ w) (by kernel_rfl) (Eq.mpr (congrFun (congrFun (congrFun (congrFun (congrFun (f23.b_eq) R) x0) x1) x2) H) h)
/-! f24: (*gauntlet/gauntletlaw23.pair).due -/
def f24.at5 (R : Value → HPred) (x3 x4 x5 : Value) : HPred := At Tryz.prog 44 (RQ Tryz.prog Tryz.f24.results.toList R) (stk Tryz.f24 5) [3, 4, 5] [x3, x4, x5] []
def f24.cuts : List (Nat × List Nat) := [(5, [3, 4, 5])]
def f24.plans : List (Nat × Plan) := [(1, (.step 0 [] (.step 1 [] (.step 2 [] (.step 3 [8, 17, 18, 19] (.step 4 [] (.step 5 [] (.step 6 [] (.step 7 [8, 17, 18, 19] (.step 9 [] (.step 10 [] (.step 11 [] (.step 12 [17, 18, 19] (.step 13 [] (.step 14 [] (.step 15 [] (.step 16 [17, 18, 19] (.act 8 (.act 17 (.step 18 [] (.step 19 [] .done))))))))))))))))))))), (7, (.step 0 [] (.step 1 [] (.step 2 [] (.step 3 [8] (.step 4 [] (.step 5 [] (.step 6 [] (.step 7 [8] (.step 8 [] .done))))))))))]
def f24.den (R : Value → HPred) (first : Bool) (k : List Item) (r : Regs) (ds : List Deferred) : HPred := Sx.den Tryz.prog 44 (RQ Tryz.prog Tryz.f24.results.toList R) f24.cuts f24.plans 1000 first k r ds
def f24.b5 (R : Value → HPred) (x3 x4 x5 : Value) : HPred :=
  opt (pureRun Tryz.prog (bltN .len #[40] 3 #[false] [x3])) fun v1 =>
  opt (binV Tryz.prog .lss 3 (Go.Operand.tmp 29) (Go.Operand.tmp 31) x5 v1) fun v2 =>
  cnd v2
  (opt (idxS x3 x5 2) fun v3 =>
  rd (cellsP v3 2) fun v4 =>
  opt (idxS x4 x5 2) fun v5 =>
  rd (cellsP v5 2) fun v6 =>
  opt (binV Tryz.prog .neq 73 (Go.Operand.tmp 38) (Go.Operand.tmp 42) v4 v6) fun v7 =>
  cnd v7
  (R (.bool false))
  (opt (binV Tryz.prog .add 3 (Go.Operand.tmp 33) (Go.Operand.const (Go.Value.int Go.IntKind.i64 1)) x5 (.int .i64 1)) fun v8 =>
  f24.at5 R x3 x4 v8))
  (R (.bool true))
theorem f24.b5_eq : (fun (R : Value → HPred) (x3 x4 x5 : Value) (r : Regs) => f24.den R true (stk Tryz.f24 5) (over [3, 4, 5] [x3, x4, x5] r) []) = (fun (R : Value → HPred) (x3 x4 x5 : Value) (_ : Regs) => f24.b5 R x3 x4 x5) := by kernel_rfl
theorem f24.b5_ok {R : Value → HPred} {x3 x4 x5 : Value} {H : Hp} (h : f24.b5 R x3 x4 x5 H) : f24.at5 R x3 x4 x5 H :=
  At.of_den mixed (f := 1000) (cuts := f24.cuts) (plans := f24.plans) fun r => Eq.mpr (congrFun (congrFun (congrFun (congrFun (congrFun (congrFun (f24.b5_eq) R) x3) x4) x5) r) H) h
def f24.b (R : Value → HPred) (x0 : Value) : HPred :=
  opt (nilV x0) fun v1 =>
  opt (offV v1 0) fun v2 =>
  rd (cellP v2) fun v3 =>
  opt (nilV x0) fun v4 =>
  opt (offV v4 2) fun v5 =>
  rd (cellP v5) fun v6 =>
  opt (nilV x0) fun v7 =>
  opt (offV v7 1) fun v8 =>
  rd (cellP v8) fun v9 =>
  opt (nilV x0) fun v10 =>
  opt (offV v10 2) fun v11 =>
  rd (cellP v11) fun v12 =>
  callF Tryz.prog 13 [v3, v6] fun v13 =>
  chk (fun H => cellP v11 H = some v12) <|
  chk (fun H => cellP v8 H = some v9) <|
  callF Tryz.prog 66 [v9, v12] fun v14 =>
  opt (pureRun Tryz.prog (bltN .len #[40] 3 #[false] [v13])) fun v15 =>
  opt (pureRun Tryz.prog (bltN .len #[147] 3 #[false] [v14])) fun v16 =>
  opt (binV Tryz.prog .neq 3 (Go.Operand.tmp 25) (Go.Operand.tmp 27) v15 v16) fun v17 =>
  cnd v17
  (R (.bool false))
  (f24.at5 R v13 v14 (.int .i64 0))
theorem f24.b_eq : (fun (R : Value → HPred) (x0 : Value) => f24.den R false (bodyOf Tryz.f24) (regsOf [x0]) []) = (fun (R : Value → HPred) (x0 : Value) => f24.b R x0) := by kernel_rfl
theorem f24.call {R : Value → HPred} {x0 : Value} {H : Hp} (h : f24.b R x0 H) : HC Tryz.prog 24 #[x0] R H :=
  HC.of_den mixed (cuts := f24.cuts) (plans := f24.plans) (args := [x0]) Tryz.func24 (by kernel_rfl) (fun w => Tryz.call24 _ w) (by kernel_rfl) (Eq.mpr (congrFun (congrFun (congrFun (f24.b_eq) R) x0) H) h)
/-! f25: gauntlet/timers.New -/
def f25.cuts : List (Nat × List Nat) := []
def f25.plans : List (Nat × Plan) := []
def f25.den (R : Value → HPred) (first : Bool) (k : List Item) (r : Regs) (ds : List Deferred) : HPred := Sx.den Tryz.prog 4 (RQ Tryz.prog Tryz.f25.results.toList R) f25.cuts f25.plans 1000 first k r ds
def f25.b (R : Value → HPred) : HPred :=
  tot Tryz.prog (Instr.makeMap 150 none) fun v1 =>
  opt (pureRun Tryz.prog (Instr.build 154 #[(1, v1)])) fun v2 =>
  boxM 154 v2 fun v3 =>
  R v3
theorem f25.b_eq : (fun (R : Value → HPred) => f25.den R false (bodyOf Tryz.f25) (regsOf []) []) = (fun (R : Value → HPred) => f25.b R ) := by kernel_rfl
theorem f25.call {R : Value → HPred} {H : Hp} (h : f25.b R  H) : HC Tryz.prog 25 #[] R H :=
  HC.of_den mixed (cuts := f25.cuts) (plans := f25.plans) (args := []) Tryz.func25 (by kernel_rfl) (fun w => Tryz.call25 _ w) (by kernel_rfl) (Eq.mpr (congrFun (congrFun (f25.b_eq) R) H) h)
/-! f26: gauntlet/vm.Check -/
def f26.cuts : List (Nat × List Nat) := []
def f26.plans : List (Nat × Plan) := []
def f26.den (R : Value → HPred) (first : Bool) (k : List Item) (r : Regs) (ds : List Deferred) : HPred := Sx.den Tryz.prog 32 (RQ Tryz.prog Tryz.f26.results.toList R) f26.cuts f26.plans 1000 first k r ds
def f26.b (R : Value → HPred) (x0 : Value) : HPred :=
  boxM 35 x0 fun v1 =>
  opt (offV v1 0) fun v2 =>
  rd (cellP v2) fun v3 =>
  callF Tryz.prog 67 [v3] fun v4 =>
  opt (extV v4 0) fun v5 =>
  opt (extV v4 1) fun v6 =>
  opt (binV Tryz.prog .neq 25 (Go.Operand.tmp 11) (Go.Operand.const (Go.Value.int Go.IntKind.i64 0)) v6 (.int .i64 0)) fun v7 =>
  cnd v7
  (R v6)
  (opt (offV v1 1) fun v8 =>
  rd (cellP v8) fun v9 =>
  opt (binV Tryz.prog .lss 3 (Go.Operand.tmp 15) (Go.Operand.const (Go.Value.int Go.IntKind.i64 1)) v9 (.int .i64 1)) fun v10 =>
  grdK v10 false (fun c11 => opt (offV v1 1) fun v12 =>
  c11 v12) fun v13 =>
  grdK v10 false (fun c14 => rd (cellP v13) fun v15 =>
  c14 v15) fun v16 =>
  grdK v10 false (fun c17 => opt (binV Tryz.prog .gtr 3 (Go.Operand.tmp 19) (Go.Operand.const (Go.Value.int Go.IntKind.i64 600)) v16 (.int .i64 600)) fun v18 =>
  c17 v18) fun v19 =>
  opt (pickV v10 (.bool true) v19) fun v20 =>
  grdK v20 false (fun c21 => opt (offV v1 2) fun v22 =>
  c21 v22) fun v23 =>
  grdK v20 false (fun c24 => rd (cellP v23) fun v25 =>
  c24 v25) fun v26 =>
  grdK v20 false (fun c27 => opt (binV Tryz.prog .lss 3 (Go.Operand.tmp 24) (Go.Operand.const (Go.Value.int Go.IntKind.i64 1)) v26 (.int .i64 1)) fun v28 =>
  c27 v28) fun v29 =>
  opt (pickV v20 (.bool true) v29) fun v30 =>
  grdK v30 false (fun c31 => opt (offV v1 2) fun v32 =>
  c31 v32) fun v33 =>
  grdK v30 false (fun c34 => rd (cellP v33) fun v35 =>
  c34 v35) fun v36 =>
  grdK v30 false (fun c37 => opt (binV Tryz.prog .gtr 3 (Go.Operand.tmp 29) (Go.Operand.const (Go.Value.int Go.IntKind.i64 2000)) v36 (.int .i64 2000)) fun v38 =>
  c37 v38) fun v39 =>
  opt (pickV v30 (.bool true) v39) fun v40 =>
  cnd v40
  (R (.int .i64 1))
  (R (.int .i64 0)))
theorem f26.b_eq : (fun (R : Value → HPred) (x0 : Value) => f26.den R false (bodyOf Tryz.f26) (regsOf [x0]) []) = (fun (R : Value → HPred) (x0 : Value) => f26.b R x0) := by kernel_rfl
theorem f26.call {R : Value → HPred} {x0 : Value} {H : Hp} (h : f26.b R x0 H) : HC Tryz.prog 26 #[x0] R H :=
  HC.of_den mixed (cuts := f26.cuts) (plans := f26.plans) (args := [x0]) Tryz.func26 (by kernel_rfl) (fun w => Tryz.call26 _ w) (by kernel_rfl) (Eq.mpr (congrFun (congrFun (congrFun (f26.b_eq) R) x0) H) h)
/-! f27: gauntlet/vm.Start -/
def f27.cuts : List (Nat × List Nat) := []
def f27.plans : List (Nat × Plan) := []
def f27.den (R : Value → HPred) (first : Bool) (k : List Item) (r : Regs) (ds : List Deferred) : HPred := Sx.den Tryz.prog 6 (RQ Tryz.prog Tryz.f27.results.toList R) f27.cuts f27.plans 1000 first k r ds
def f27.b (R : Value → HPred) (x0 : Value) : HPred :=
  newC #[(.int .i64 0), (.int .i32 0), (.int .i32 0), (.int .i32 0), (.int .i32 0), (.int .i32 0), (.int .i32 0), (.int .i32 0), (.int .i32 0), (.int .i32 0), (.int .i32 0), (.int .i32 0), (.int .i32 0), (.int .i32 0), (.int .i32 0), (.int .i32 0), (.int .i32 0), (.int .u32 0), (.bool false), (.int .i64 0)] 91 fun v1 =>
  opt (pureRun Tryz.prog (bltN .max #[60, 60] 60 #[true, false] [(.int .u32 1), x0])) fun v2 =>
  opt (pureRun Tryz.prog (Instr.build 91 #[(2, v2)])) fun v3 =>
  stA v1 20 v3 <|
  rd (cellsP v1 20) fun v4 => R v4
theorem f27.b_eq : (fun (R : Value → HPred) (x0 : Value) => f27.den R false (bodyOf Tryz.f27) (regsOf [x0]) []) = (fun (R : Value → HPred) (x0 : Value) => f27.b R x0) := by kernel_rfl
theorem f27.call {R : Value → HPred} {x0 : Value} {H : Hp} (h : f27.b R x0 H) : HC Tryz.prog 27 #[x0] R H :=
  HC.of_den mixed (cuts := f27.cuts) (plans := f27.plans) (args := [x0]) Tryz.func27 (by kernel_rfl) (fun w => Tryz.call27 _ w) (by kernel_rfl) (Eq.mpr (congrFun (congrFun (congrFun (f27.b_eq) R) x0) H) h)
/-! f28: slices.Clone[[]gauntlet/api.Ins,gauntlet/api.Ins] -/
def f28.cuts : List (Nat × List Nat) := []
def f28.plans : List (Nat × Plan) := []
def f28.den (R : Value → HPred) (first : Bool) (k : List Item) (r : Regs) (ds : List Deferred) : HPred := Sx.den Tryz.prog 8 (RQ Tryz.prog Tryz.f28.results.toList R) f28.cuts f28.plans 1000 first k r ds
def f28.b (R : Value → HPred) (x0 : Value) : HPred :=
  opt (binV Tryz.prog .eql 33 (Go.Operand.tmp 3) (Go.Operand.const (Go.Value.slice none 0 0)) x0 (.slice none 0 0)) fun v1 =>
  cnd v1
  (R (.slice none 0 0))
  (tot Tryz.prog (Instr.buildSlice 33 0 #[]) fun v2 =>
  blt Tryz.prog .append #[33, 33] 33 #[false, false] [v2, x0] fun v3 =>
  R v3)
theorem f28.b_eq : (fun (R : Value → HPred) (x0 : Value) => f28.den R false (bodyOf Tryz.f28) (regsOf [x0]) []) = (fun (R : Value → HPred) (x0 : Value) => f28.b R x0) := by kernel_rfl
theorem f28.call {R : Value → HPred} {x0 : Value} {H : Hp} (h : f28.b R x0 H) : HC Tryz.prog 28 #[x0] R H :=
  HC.of_den mixed (cuts := f28.cuts) (plans := f28.plans) (args := [x0]) Tryz.func28 (by kernel_rfl) (fun w => Tryz.call28 _ w) (by kernel_rfl) (Eq.mpr (congrFun (congrFun (congrFun (f28.b_eq) R) x0) H) h)
/-! f29: (*sync.Mutex).Lock -/
def f29.cuts : List (Nat × List Nat) := []
def f29.plans : List (Nat × Plan) := []
def f29.den (R : Value → HPred) (first : Bool) (k : List Item) (r : Regs) (ds : List Deferred) : HPred := Sx.den Tryz.prog 6 (RQ Tryz.prog Tryz.f29.results.toList R) f29.cuts f29.plans 1000 first k r ds
def f29.b (R : Value → HPred) (x0 : Value) : HPred :=
  opt (nilV x0) fun v1 =>
  opt (offV v1 0) fun v2 =>
  callF Tryz.prog 68 [v2] fun v3 =>
  R (.tuple #[])
theorem f29.b_eq : (fun (R : Value → HPred) (x0 : Value) => f29.den R false (bodyOf Tryz.f29) (regsOf [x0]) []) = (fun (R : Value → HPred) (x0 : Value) => f29.b R x0) := by kernel_rfl
theorem f29.call {R : Value → HPred} {x0 : Value} {H : Hp} (h : f29.b R x0 H) : HC Tryz.prog 29 #[x0] R H :=
  HC.of_den mixed (cuts := f29.cuts) (plans := f29.plans) (args := [x0]) Tryz.func29 (by kernel_rfl) (fun w => Tryz.call29 _ w) (by kernel_rfl) (Eq.mpr (congrFun (congrFun (congrFun (f29.b_eq) R) x0) H) h)
/-! f30: (*sync.Mutex).Unlock -/
def f30.cuts : List (Nat × List Nat) := []
def f30.plans : List (Nat × Plan) := []
def f30.den (R : Value → HPred) (first : Bool) (k : List Item) (r : Regs) (ds : List Deferred) : HPred := Sx.den Tryz.prog 6 (RQ Tryz.prog Tryz.f30.results.toList R) f30.cuts f30.plans 1000 first k r ds
def f30.b (R : Value → HPred) (x0 : Value) : HPred :=
  opt (nilV x0) fun v1 =>
  opt (offV v1 0) fun v2 =>
  callF Tryz.prog 69 [v2] fun v3 =>
  R (.tuple #[])
theorem f30.b_eq : (fun (R : Value → HPred) (x0 : Value) => f30.den R false (bodyOf Tryz.f30) (regsOf [x0]) []) = (fun (R : Value → HPred) (x0 : Value) => f30.b R x0) := by kernel_rfl
theorem f30.call {R : Value → HPred} {x0 : Value} {H : Hp} (h : f30.b R x0 H) : HC Tryz.prog 30 #[x0] R H :=
  HC.of_den mixed (cuts := f30.cuts) (plans := f30.plans) (args := [x0]) Tryz.func30 (by kernel_rfl) (fun w => Tryz.call30 _ w) (by kernel_rfl) (Eq.mpr (congrFun (congrFun (congrFun (f30.b_eq) R) x0) H) h)
/-! f31: (*gauntlet/table.Table).counts -/
def f31.cuts : List (Nat × List Nat) := []
def f31.plans : List (Nat × Plan) := []
def f31.den (R : Value → HPred) (first : Bool) (k : List Item) (r : Regs) (ds : List Deferred) : HPred := Sx.den Tryz.prog 27 (RQ Tryz.prog Tryz.f31.results.toList R) f31.cuts f31.plans 1000 first k r ds
def f31.b (R : Value → HPred) (x0 x1 : Value) : HPred :=
  opt (nilV x0) fun v1 =>
  opt (offV v1 1) fun v2 =>
  callF Tryz.prog 29 [v2] fun v3 =>
  opt (nilV x0) fun v4 =>
  opt (offV v4 1) fun v5 =>
  opt (nilV x0) fun v6 =>
  opt (offV v6 3) fun v7 =>
  rd (cellP v7) fun v8 =>
  opt (binV Tryz.prog .add 3 (Go.Operand.tmp 15) (Go.Operand.tmp 16) v8 x1) fun v9 =>
  opt (binV Tryz.prog .gtr 3 (Go.Operand.tmp 17) (Go.Operand.const (Go.Value.int Go.IntKind.i64 4096)) v9 (.int .i64 4096)) fun v10 =>
  cnd v10
  (leaveH Tryz.prog (R (.bool false)) ({ target := .fn (.func 30) #[], args := #[v5] } :: []))
  (opt (nilV x0) fun v11 =>
  opt (offV v11 3) fun v12 =>
  rd (cellP v12) fun v13 =>
  opt (binV Tryz.prog .add 3 (Go.Operand.tmp 22) (Go.Operand.tmp 23) v13 x1) fun v14 =>
  opt (nilV x0) fun v15 =>
  opt (offV v15 3) fun v16 =>
  st v16 v14 <|
  leaveH Tryz.prog (R (.bool true)) ({ target := .fn (.func 30) #[], args := #[v5] } :: []))
theorem f31.b_eq : (fun (R : Value → HPred) (x0 x1 : Value) => f31.den R false (bodyOf Tryz.f31) (regsOf [x0, x1]) []) = (fun (R : Value → HPred) (x0 x1 : Value) => f31.b R x0 x1) := by kernel_rfl
theorem f31.call {R : Value → HPred} {x0 x1 : Value} {H : Hp} (h : f31.b R x0 x1 H) : HC Tryz.prog 31 #[x0, x1] R H :=
  HC.of_den mixed (cuts := f31.cuts) (plans := f31.plans) (args := [x0, x1]) Tryz.func31 (by kernel_rfl) (fun w => Tryz.call31 _ w) (by kernel_rfl) (Eq.mpr (congrFun (congrFun (congrFun (congrFun (f31.b_eq) R) x0) x1) H) h)
/-! f32: (*gauntlet/table.Table).times -/
def f32.cuts : List (Nat × List Nat) := []
def f32.plans : List (Nat × Plan) := [(1, (.step 0 [] (.step 1 [] (.step 2 [] (.step 3 [11] (.step 4 [] (.step 5 [] (.step 6 [] (.step 7 [] (.step 8 [] (.step 9 [10, 11] (.step 10 [] (.act 11 .done)))))))))))))]
def f32.den (R : Value → HPred) (first : Bool) (k : List Item) (r : Regs) (ds : List Deferred) : HPred := Sx.den Tryz.prog 33 (RQ Tryz.prog Tryz.f32.results.toList R) f32.cuts f32.plans 1000 first k r ds
def f32.b (R : Value → HPred) (x0 x1 x2 x3 : Value) : HPred :=
  opt (nilV x1) fun v1 =>
  opt (offV v1 2) fun v2 =>
  rd (cellP v2) fun v3 =>
  rd (readRun Tryz.prog (Instr.lookup 80 v3 x2 false)) fun v4 =>
  callF Tryz.prog 70 [v4] fun v5 =>
  cnd v5
  (opt (nilV x1) fun v6 =>
  opt (offV v6 3) fun v7 =>
  rd (cellP v7) fun v8 =>
  opt (nilV x0) fun v9 =>
  opt (offV v9 0) fun v10 =>
  rd (cellP v10) fun v11 =>
  opt (binV Tryz.prog .add 3 (Go.Operand.tmp 20) (Go.Operand.tmp 24) x3 v11) fun v12 =>
  callF Tryz.prog 71 [v8, x2, v12] fun v13 =>
  R (.tuple #[]))
  (opt (nilV x1) fun v14 =>
  opt (offV v14 3) fun v15 =>
  rd (cellP v15) fun v16 =>
  callF Tryz.prog 38 [v16, x2] fun v17 =>
  R (.tuple #[]))
theorem f32.b_eq : (fun (R : Value → HPred) (x0 x1 x2 x3 : Value) => f32.den R false (bodyOf Tryz.f32) (regsOf [x0, x1, x2, x3]) []) = (fun (R : Value → HPred) (x0 x1 x2 x3 : Value) => f32.b R x0 x1 x2 x3) := by kernel_rfl
theorem f32.call {R : Value → HPred} {x0 x1 x2 x3 : Value} {H : Hp} (h : f32.b R x0 x1 x2 x3 H) : HC Tryz.prog 32 #[x0, x1, x2, x3] R H :=
  HC.of_den mixed (cuts := f32.cuts) (plans := f32.plans) (args := [x0, x1, x2, x3]) Tryz.func32 (by kernel_rfl) (fun w => Tryz.call32 _ w) (by kernel_rfl) (Eq.mpr (congrFun (congrFun (congrFun (congrFun (congrFun (congrFun (f32.b_eq) R) x0) x1) x2) x3) H) h)
/-! f34: maps.Keys[map[int]*gauntlet/contest.Contest,int,*gauntlet/contest.Contest] -/
def f34.cuts : List (Nat × List Nat) := []
def f34.plans : List (Nat × Plan) := []
def f34.den (R : Value → HPred) (first : Bool) (k : List Item) (r : Regs) (ds : List Deferred) : HPred := Sx.den Tryz.prog 4 (RQ Tryz.prog Tryz.f34.results.toList R) f34.cuts f34.plans 1000 first k r ds
def f34.b (R : Value → HPred) (x0 : Value) : HPred :=
  boxM 80 x0 fun v1 =>
  R (.func (Go.Fn.func 72) #[] #[v1])
theorem f34.b_eq : (fun (R : Value → HPred) (x0 : Value) => f34.den R false (bodyOf Tryz.f34) (regsOf [x0]) []) = (fun (R : Value → HPred) (x0 : Value) => f34.b R x0) := by kernel_rfl
theorem f34.call {R : Value → HPred} {x0 : Value} {H : Hp} (h : f34.b R x0 H) : HC Tryz.prog 34 #[x0] R H :=
  HC.of_den mixed (cuts := f34.cuts) (plans := f34.plans) (args := [x0]) Tryz.func34 (by kernel_rfl) (fun w => Tryz.call34 _ w) (by kernel_rfl) (Eq.mpr (congrFun (congrFun (congrFun (f34.b_eq) R) x0) H) h)
end Go.Proofs.YtnnheophehnioaaGreat
namespace Go.Proofs.YtnnheophehnioaaGreat
open Go.Sx Go.Proofs
set_option maxRecDepth 100000
set_option linter.unusedVariables false
/-! f36: (*gauntlet/timers.Timers).Next -/
def f36.cuts : List (Nat × List Nat) := []
def f36.plans : List (Nat × Plan) := [(3, (.step 0 [] (.step 1 [] (.step 2 [] (.step 3 [4, 5, 6, 7, 8, 18, 19, 20] (.step 4 [] (.step 5 [6, 7, 8, 18, 19, 20] (.step 6 [] (.step 7 [] (.step 8 [18, 19, 20] (.step 9 [] (.step 10 [] (.step 11 [] (.step 12 [13, 14, 15, 16, 17, 19, 20] (.step 13 [] (.step 14 [15, 16, 17, 19, 20] (.step 15 [] (.step 16 [] (.step 17 [19, 20] (.step 18 [] (.step 19 [] (.step 20 [] .done))))))))))))))))))))))]
def f36.den (R : Value → HPred) (first : Bool) (k : List Item) (r : Regs) (ds : List Deferred) : HPred := Sx.den Tryz.prog 26 (RQ Tryz.prog Tryz.f36.results.toList R) f36.cuts f36.plans 1000 first k r ds
def f36.b (R : Value → HPred) (x0 : Value) : HPred :=
  callF Tryz.prog 75 [x0] fun v1 =>
  opt (binV Tryz.prog .eql 3 (Go.Operand.tmp 6) (Go.Operand.const (Go.Value.int Go.IntKind.i64 0)) v1 (.int .i64 0)) fun v2 =>
  cnd v2
  (R (.tuple #[(.int .i64 0), (.int .i64 0), (.bool false)]))
  (opt (nilV x0) fun v3 =>
  opt (offV v3 0) fun v4 =>
  rd (cellP v4) fun v5 =>
  opt (idxS v5 (.int .i64 0) 1) fun v6 =>
  rd (cellP v6) fun v7 =>
  opt (nilV v7) fun v8 =>
  opt (offV v8 0) fun v9 =>
  rd (cellP v9) fun v10 =>
  opt (nilV x0) fun v11 =>
  opt (offV v11 0) fun v12 =>
  rd (cellP v12) fun v13 =>
  opt (idxS v13 (.int .i64 0) 1) fun v14 =>
  rd (cellP v14) fun v15 =>
  opt (nilV v15) fun v16 =>
  opt (offV v16 1) fun v17 =>
  rd (cellP v17) fun v18 =>
  R (.tuple #[v10, v18, (.bool true)]))
theorem f36.b_eq : (fun (R : Value → HPred) (x0 : Value) => f36.den R false (bodyOf Tryz.f36) (regsOf [x0]) []) = (fun (R : Value → HPred) (x0 : Value) => f36.b R x0) := by kernel_rfl
theorem f36.call {R : Value → HPred} {x0 : Value} {H : Hp} (h : f36.b R x0 H) : HC Tryz.prog 36 #[x0] R H :=
  HC.of_den mixed (cuts := f36.cuts) (plans := f36.plans) (args := [x0]) Tryz.func36 (by kernel_rfl) (fun w => Tryz.call36 _ w) (by kernel_rfl) (Eq.mpr (congrFun (congrFun (congrFun (f36.b_eq) R) x0) H) h)
/-! f37: gauntlet/table.late -/
def f37.cuts : List (Nat × List Nat) := []
def f37.plans : List (Nat × Plan) := []
def f37.den (R : Value → HPred) (first : Bool) (k : List Item) (r : Regs) (ds : List Deferred) : HPred := Sx.den Tryz.prog 17 (RQ Tryz.prog Tryz.f37.results.toList R) f37.cuts f37.plans 1000 first k r ds
def f37.b (R : Value → HPred) (x0 : Value) : HPred :=
  callF Tryz.prog 56 [x0] fun v1 =>
  newC #[(.int .i64 0), (.int .i64 0), (.int .u32 0), (.int .i64 0), (.int .i64 0), (.int .i64 0), (.int .i64 0), (.bool false), (.int .i64 0), (.int .i64 0), (.bool false)] 62 fun v2 =>
  stA v2 11 v1 <|
  opt (offV v2 0) fun v3 =>
  opt (idxA v3 (.int .i64 1) 2 1) fun v4 =>
  rd (cellP v4) fun v5 =>
  callF Tryz.prog 76 [x0, v5] fun v6 =>
  cnd v6
  (opt (offV v2 0) fun v7 =>
  opt (idxA v7 (.int .i64 1) 2 1) fun v8 =>
  rd (cellP v8) fun v9 =>
  R v9)
  (opt (offV v2 0) fun v10 =>
  opt (idxA v10 (.int .i64 0) 2 1) fun v11 =>
  rd (cellP v11) fun v12 =>
  R v12)
theorem f37.b_eq : (fun (R : Value → HPred) (x0 : Value) => f37.den R false (bodyOf Tryz.f37) (regsOf [x0]) []) = (fun (R : Value → HPred) (x0 : Value) => f37.b R x0) := by kernel_rfl
theorem f37.call {R : Value → HPred} {x0 : Value} {H : Hp} (h : f37.b R x0 H) : HC Tryz.prog 37 #[x0] R H :=
  HC.of_den mixed (cuts := f37.cuts) (plans := f37.plans) (args := [x0]) Tryz.func37 (by kernel_rfl) (fun w => Tryz.call37 _ w) (by kernel_rfl) (Eq.mpr (congrFun (congrFun (congrFun (f37.b_eq) R) x0) H) h)
/-! f38: (*gauntlet/timers.Timers).Cancel -/
def f38.cuts : List (Nat × List Nat) := []
def f38.plans : List (Nat × Plan) := [(4, (.step 0 [] (.step 1 [] (.step 2 [] (.step 3 [] (.step 4 [] (.step 5 [] (.step 6 [] (.step 7 [8] (.act 8 .done))))))))))]
def f38.den (R : Value → HPred) (first : Bool) (k : List Item) (r : Regs) (ds : List Deferred) : HPred := Sx.den Tryz.prog 42 (RQ Tryz.prog Tryz.f38.results.toList R) f38.cuts f38.plans 1000 first k r ds
def f38.b (R : Value → HPred) (x0 x1 : Value) : HPred :=
  rd (binR Tryz.prog .eql 81 (Go.Operand.tmp 7) (Go.Operand.const (Go.Value.pointer none)) x0 (.pointer none)) fun v1 =>
  grdK v1 false (fun c2 => c2 x0) fun v3 =>
  grdK v1 false (fun c4 => opt (nilV v3) fun v5 =>
  c4 v5) fun v6 =>
  grdK v1 false (fun c7 => opt (offV v6 1) fun v8 =>
  c7 v8) fun v9 =>
  grdK v1 false (fun c10 => rd (cellP v9) fun v11 =>
  c10 v11) fun v12 =>
  grdK v1 false (fun c13 => c13 x1) fun v14 =>
  grdK v1 false (fun c15 => rd (readRun Tryz.prog (Instr.lookup 150 v12 v14 false)) fun v16 =>
  c15 v16) fun v17 =>
  grdK v1 false (fun c18 => rd (binR Tryz.prog .eql 166 (Go.Operand.tmp 15) (Go.Operand.const (Go.Value.pointer none)) v17 (.pointer none)) fun v19 =>
  c18 v19) fun v20 =>
  opt (pickV v1 (.bool true) v20) fun v21 =>
  cnd v21
  (R (.tuple #[(.int .i64 0), (.bool false)]))
  (opt (nilV x0) fun v22 =>
  opt (offV v22 1) fun v23 =>
  rd (cellP v23) fun v24 =>
  rd (readRun Tryz.prog (Instr.lookup 150 v24 x1 false)) fun v25 =>
  opt (nilV x0) fun v26 =>
  opt (offV v26 0) fun v27 =>
  opt (pureRun Tryz.prog (Instr.makeInterface 168 v27)) fun v28 =>
  opt (nilV v25) fun v29 =>
  opt (offV v29 2) fun v30 =>
  rd (cellP v30) fun v31 =>
  callF Tryz.prog 77 [v28, v31] fun v32 =>
  opt (nilV x0) fun v33 =>
  opt (offV v33 1) fun v34 =>
  rd (cellP v34) fun v35 =>
  blt Tryz.prog .delete #[150, 3] 0 #[false, false] [v35, x1] fun v36 =>
  opt (nilV v25) fun v37 =>
  opt (offV v37 1) fun v38 =>
  rd (cellP v38) fun v39 =>
  R (.tuple #[v39, (.bool true)]))
theorem f38.b_eq : (fun (R : Value → HPred) (x0 x1 : Value) => f38.den R false (bodyOf Tryz.f38) (regsOf [x0, x1]) []) = (fun (R : Value → HPred) (x0 x1 : Value) => f38.b R x0 x1) := by kernel_rfl
theorem f38.call {R : Value → HPred} {x0 x1 : Value} {H : Hp} (h : f38.b R x0 x1 H) : HC Tryz.prog 38 #[x0, x1] R H :=
  HC.of_den mixed (cuts := f38.cuts) (plans := f38.plans) (args := [x0, x1]) Tryz.func38 (by kernel_rfl) (fun w => Tryz.call38 _ w) (by kernel_rfl) (Eq.mpr (congrFun (congrFun (congrFun (congrFun (f38.b_eq) R) x0) x1) H) h)
/-! f39: slices.SortFunc[[]gauntlet/table.due,gauntlet/table.due] -/
def f39.cuts : List (Nat × List Nat) := []
def f39.plans : List (Nat × Plan) := []
def f39.den (R : Value → HPred) (first : Bool) (k : List Item) (r : Regs) (ds : List Deferred) : HPred := Sx.den Tryz.prog 14 (RQ Tryz.prog Tryz.f39.results.toList R) f39.cuts f39.plans 1000 first k r ds
def f39.b (R : Value → HPred) (x0 x1 : Value) : HPred :=
  opt (pureRun Tryz.prog (bltN .len #[110] 3 #[false] [x0])) fun v1 =>
  opt (pureRun Tryz.prog (Go.convert 3 162 v1)) fun v2 =>
  callF Tryz.prog 74 [v2] fun v3 =>
  callF Tryz.prog 78 [x0, (.int .i64 0), v1, v3, x1] fun v4 =>
  R (.tuple #[])
theorem f39.b_eq : (fun (R : Value → HPred) (x0 x1 : Value) => f39.den R false (bodyOf Tryz.f39) (regsOf [x0, x1]) []) = (fun (R : Value → HPred) (x0 x1 : Value) => f39.b R x0 x1) := by kernel_rfl
theorem f39.call {R : Value → HPred} {x0 x1 : Value} {H : Hp} (h : f39.b R x0 x1 H) : HC Tryz.prog 39 #[x0, x1] R H :=
  HC.of_den mixed (cuts := f39.cuts) (plans := f39.plans) (args := [x0, x1]) Tryz.func39 (by kernel_rfl) (fun w => Tryz.call39 _ w) (by kernel_rfl) (Eq.mpr (congrFun (congrFun (congrFun (congrFun (f39.b_eq) R) x0) x1) H) h)
/-! f43: gauntlet/gauntletref23.New -/
def f43.cuts : List (Nat × List Nat) := []
def f43.plans : List (Nat × Plan) := []
def f43.den (R : Value → HPred) (first : Bool) (k : List Item) (r : Regs) (ds : List Deferred) : HPred := Sx.den Tryz.prog 13 (RQ Tryz.prog Tryz.f43.results.toList R) f43.cuts f43.plans 1000 first k r ds
def f43.b (R : Value → HPred) (x0 : Value) : HPred :=
  opt (binV Tryz.prog .lss 3 (Go.Operand.tmp 4) (Go.Operand.const (Go.Value.int Go.IntKind.i64 1)) x0 (.int .i64 1)) fun v1 =>
  grdK v1 false (fun c2 => c2 x0) fun v3 =>
  grdK v1 false (fun c4 => opt (binV Tryz.prog .gtr 3 (Go.Operand.tmp 7) (Go.Operand.const (Go.Value.int Go.IntKind.i64 1048576)) v3 (.int .i64 1048576)) fun v5 =>
  c4 v5) fun v6 =>
  opt (pickV v1 (.bool true) v6) fun v7 =>
  cnd v7
  (R (.tuple #[(.pointer none), (.int .i64 1)]))
  (opt (pureRun Tryz.prog (Instr.build 134 #[(0, x0)])) fun v8 =>
  boxM 134 v8 fun v9 =>
  R (.tuple #[v9, (.int .i64 0)]))
theorem f43.b_eq : (fun (R : Value → HPred) (x0 : Value) => f43.den R false (bodyOf Tryz.f43) (regsOf [x0]) []) = (fun (R : Value → HPred) (x0 : Value) => f43.b R x0) := by kernel_rfl
theorem f43.call {R : Value → HPred} {x0 : Value} {H : Hp} (h : f43.b R x0 H) : HC Tryz.prog 43 #[x0] R H :=
  HC.of_den mixed (cuts := f43.cuts) (plans := f43.plans) (args := [x0]) Tryz.func43 (by kernel_rfl) (fun w => Tryz.call43 _ w) (by kernel_rfl) (Eq.mpr (congrFun (congrFun (congrFun (f43.b_eq) R) x0) H) h)
/-! f45: (*gauntlet/gauntletref23.Table).Find -/
def f45.at2 (R : Value → HPred) (x0 x1 x5 : Value) : HPred := At Tryz.prog 33 (RQ Tryz.prog Tryz.f45.results.toList R) (stk Tryz.f45 2) [0, 1, 5] [x0, x1, x5] []
def f45.cuts : List (Nat × List Nat) := [(2, [0, 1, 5])]
def f45.plans : List (Nat × Plan) := []
def f45.den (R : Value → HPred) (first : Bool) (k : List Item) (r : Regs) (ds : List Deferred) : HPred := Sx.den Tryz.prog 33 (RQ Tryz.prog Tryz.f45.results.toList R) f45.cuts f45.plans 1000 first k r ds
def f45.b2 (R : Value → HPred) (x0 x1 x5 : Value) : HPred :=
  opt (nilV x0) fun v1 =>
  opt (offV v1 1) fun v2 =>
  rd (cellP v2) fun v3 =>
  opt (pureRun Tryz.prog (bltN .len #[129] 3 #[false] [v3])) fun v4 =>
  opt (binV Tryz.prog .lss 3 (Go.Operand.tmp 6) (Go.Operand.tmp 11) x5 v4) fun v5 =>
  cnd v5
  (opt (nilV x0) fun v6 =>
  opt (offV v6 1) fun v7 =>
  rd (cellP v7) fun v8 =>
  opt (idxS v8 x5 2) fun v9 =>
  opt (offV v9 0) fun v10 =>
  rd (cellP v10) fun v11 =>
  opt (binV Tryz.prog .eql 3 (Go.Operand.tmp 22) (Go.Operand.tmp 23) v11 x1) fun v12 =>
  cnd v12
  (opt (nilV x0) fun v13 =>
  opt (offV v13 1) fun v14 =>
  rd (cellP v14) fun v15 =>
  opt (idxS v15 x5 2) fun v16 =>
  opt (offV v16 1) fun v17 =>
  rd (cellP v17) fun v18 =>
  R v18)
  (opt (binV Tryz.prog .add 3 (Go.Operand.tmp 13) (Go.Operand.const (Go.Value.int Go.IntKind.i64 1)) x5 (.int .i64 1)) fun v19 =>
  f45.at2 R x0 x1 v19))
  (R (.pointer none))
theorem f45.b2_eq : (fun (R : Value → HPred) (x0 x1 x5 : Value) (r : Regs) => f45.den R true (stk Tryz.f45 2) (over [0, 1, 5] [x0, x1, x5] r) []) = (fun (R : Value → HPred) (x0 x1 x5 : Value) (_ : Regs) => f45.b2 R x0 x1 x5) := by kernel_rfl
theorem f45.b2_ok {R : Value → HPred} {x0 x1 x5 : Value} {H : Hp} (h : f45.b2 R x0 x1 x5 H) : f45.at2 R x0 x1 x5 H :=
  At.of_den mixed (f := 1000) (cuts := f45.cuts) (plans := f45.plans) fun r => Eq.mpr (congrFun (congrFun (congrFun (congrFun (congrFun (congrFun (f45.b2_eq) R) x0) x1) x5) r) H) h
def f45.b (R : Value → HPred) (x0 x1 : Value) : HPred :=
  f45.at2 R x0 x1 (.int .i64 0)
theorem f45.b_eq : (fun (R : Value → HPred) (x0 x1 : Value) => f45.den R false (bodyOf Tryz.f45) (regsOf [x0, x1]) []) = (fun (R : Value → HPred) (x0 x1 : Value) => f45.b R x0 x1) := by kernel_rfl
theorem f45.call {R : Value → HPred} {x0 x1 : Value} {H : Hp} (h : f45.b R x0 x1 H) : HC Tryz.prog 45 #[x0, x1] R H :=
  HC.of_den mixed (cuts := f45.cuts) (plans := f45.plans) (args := [x0, x1]) Tryz.func45 (by kernel_rfl) (fun w => Tryz.call45 _ w) (by kernel_rfl) (Eq.mpr (congrFun (congrFun (congrFun (congrFun (f45.b_eq) R) x0) x1) H) h)
/-! f47: (*gauntlet/gauntletref18.Contest).May -/
def f47.cuts : List (Nat × List Nat) := []
def f47.plans : List (Nat × Plan) := [(13, (.step 0 [5, 6, 7, 8, 9, 10, 11, 12] (.step 1 [] (.step 2 [] (.step 3 [] (.step 4 [5, 6, 7, 8, 9, 10, 11, 12] (.act 5 (.step 6 [] (.step 7 [] (.step 8 [] (.step 9 [] (.step 10 [] (.step 11 [] (.step 12 [] .done)))))))))))))), (18, (.step 0 [] (.step 1 [8, 9, 10, 11, 12, 13, 14, 15] (.step 2 [] (.step 3 [] (.step 4 [] (.step 5 [] (.step 6 [] (.step 7 [8, 9, 10, 11, 12, 13, 14, 15] (.step 8 [] (.step 9 [] (.step 10 [] (.step 11 [13, 14, 15] (.step 12 [] (.step 13 [] (.step 14 [] (.step 15 [] .done))))))))))))))))), (31, (.step 0 [] (.step 1 [2, 3, 4, 5, 6, 7, 8, 9, 10, 11, 12, 13] (.step 2 [] (.step 3 [] (.step 4 [] (.step 5 [11, 12, 13] (.step 6 [] (.step 7 [] (.step 8 [] (.step 9 [] (.step 10 [11, 12, 13] (.step 11 [] (.step 12 [] (.step 13 [] .done))))))))))))))), (33, (.step 0 [] (.step 1 [3, 4, 5, 6, 7, 8, 9, 10, 11, 12, 13, 14, 15, 16, 17, 18, 19] (.step 2 [] (.step 3 [] (.step 4 [] (.step 5 [] (.step 6 [] (.step 7 [] (.step 8 [] (.step 9 [] (.step 10 [13, 14, 17, 18, 19] (.step 11 [] (.step 12 [13, 14, 17, 18, 19] (.step 13 [] (.step 14 [17, 18, 19] (.step 15 [] (.step 16 [17, 18, 19] (.step 17 [] (.step 18 [] (.step 19 [] .done)))))))))))))))))))))]
def f47.den (R : Value → HPred) (first : Bool) (k : List Item) (r : Regs) (ds : List Deferred) : HPred := Sx.den Tryz.prog 183 (RQ Tryz.prog Tryz.f47.results.toList R) f47.cuts f47.plans 1000 first k r ds
def f47.b (R : Value → HPred) (x0 x1 : Value) : HPred :=
  boxM 53 x1 fun v1 =>
  rd (cellsP v1 6) fun v2 =>
  callF Tryz.prog 82 [v2] fun v3 =>
  opt (pureRun Tryz.prog (Op.unary .not v3)) fun v4 =>
  cnd v4
  (R (.int .i64 3))
  (opt (offV v1 0) fun v5 =>
  rd (cellP v5) fun v6 =>
  opt (binV Tryz.prog .eql 3 (Go.Operand.tmp 15) (Go.Operand.const (Go.Value.int Go.IntKind.i64 1)) v6 (.int .i64 1)) fun v7 =>
  cnd v7
  (opt (nilV x0) fun v8 =>
  opt (offV v8 11) fun v9 =>
  rd (cellP v9) fun v10 =>
  cnd v10
  (R (.int .i64 15))
  (opt (offV v1 1) fun v11 =>
  rd (cellP v11) fun v12 =>
  opt (binV Tryz.prog .lss 3 (Go.Operand.tmp 22) (Go.Operand.const (Go.Value.int Go.IntKind.i64 1)) v12 (.int .i64 1)) fun v13 =>
  grdK v13 false (fun c14 => opt (offV v1 2) fun v15 =>
  c14 v15) fun v16 =>
  grdK v13 false (fun c17 => rd (cellP v16) fun v18 =>
  c17 v18) fun v19 =>
  grdK v13 false (fun c20 => opt (binV Tryz.prog .lss 3 (Go.Operand.tmp 26) (Go.Operand.const (Go.Value.int Go.IntKind.i64 1)) v19 (.int .i64 1)) fun v21 =>
  c20 v21) fun v22 =>
  opt (pickV v13 (.bool true) v22) fun v23 =>
  grdK v23 false (fun c24 => opt (offV v1 1) fun v25 =>
  c24 v25) fun v26 =>
  grdK v23 false (fun c27 => rd (cellP v26) fun v28 =>
  c27 v28) fun v29 =>
  grdK v23 false (fun c30 => opt (offV v1 2) fun v31 =>
  c30 v31) fun v32 =>
  grdK v23 false (fun c33 => rd (cellP v32) fun v34 =>
  c33 v34) fun v35 =>
  grdK v23 false (fun c36 => opt (binV Tryz.prog .eql 3 (Go.Operand.tmp 31) (Go.Operand.tmp 33) v29 v35) fun v37 =>
  c36 v37) fun v38 =>
  opt (pickV v23 (.bool true) v38) fun v39 =>
  grdK v39 false (fun c40 => opt (offV v1 5) fun v41 =>
  c40 v41) fun v42 =>
  grdK v39 false (fun c43 => rd (cellP v42) fun v44 =>
  c43 v44) fun v45 =>
  grdK v39 false (fun c46 => opt (binV Tryz.prog .lss 3 (Go.Operand.tmp 38) (Go.Operand.const (Go.Value.int Go.IntKind.i64 0)) v45 (.int .i64 0)) fun v47 =>
  c46 v47) fun v48 =>
  opt (pickV v39 (.bool true) v48) fun v49 =>
  grdK v49 false (fun c50 => opt (offV v1 5) fun v51 =>
  c50 v51) fun v52 =>
  grdK v49 false (fun c53 => rd (cellP v52) fun v54 =>
  c53 v54) fun v55 =>
  grdK v49 false (fun c56 => opt (binV Tryz.prog .gtr 3 (Go.Operand.tmp 43) (Go.Operand.const (Go.Value.int Go.IntKind.i64 4294967295)) v55 (.int .i64 4294967295)) fun v57 =>
  c56 v57) fun v58 =>
  opt (pickV v49 (.bool true) v58) fun v59 =>
  cnd v59
  (R (.int .i64 1))
  (R (.int .i64 0))))
  (opt (nilV x0) fun v60 =>
  opt (offV v60 11) fun v61 =>
  rd (cellP v61) fun v62 =>
  opt (pureRun Tryz.prog (Op.unary .not v62)) fun v63 =>
  cnd v63
  (R (.int .i64 15))
  (callF Tryz.prog 51 [x0] fun v64 =>
  newC #[(.int .i64 0), (.int .i32 0), (.int .i32 0), (.int .i32 0), (.int .i32 0), (.int .i32 0), (.int .i32 0), (.int .i32 0), (.int .i32 0), (.int .i32 0), (.int .i32 0), (.int .i32 0), (.int .i32 0), (.int .i32 0), (.int .i32 0), (.int .i32 0), (.int .i32 0), (.int .u32 0), (.bool false), (.int .i64 0)] 91 fun v65 =>
  stA v65 20 v64 <|
  opt (offV v1 0) fun v66 =>
  rd (cellP v66) fun v67 =>
  opt (binV Tryz.prog .eql 3 (Go.Operand.tmp 54) (Go.Operand.const (Go.Value.int Go.IntKind.i64 5)) v67 (.int .i64 5)) fun v68 =>
  cnd v68
  (rd (cellsP v65 20) fun v69 =>
  opt (nilV x0) fun v70 =>
  opt (offV v70 0) fun v71 =>
  rd (cellsP v71 3) fun v72 =>
  callF Tryz.prog 81 [v69, v72] fun v73 =>
  opt (extV v73 0) fun v74 =>
  opt (extV v73 1) fun v75 =>
  opt (extV v73 2) fun v76 =>
  opt (nilV x0) fun v77 =>
  opt (offV v77 12) fun v78 =>
  rd (cellP v78) fun v79 =>
  cnd v79
  (R (.int .i64 12))
  (opt (pureRun Tryz.prog (Op.unary .not v76)) fun v80 =>
  cnd v80
  (R (.int .i64 15))
  (opt (offV v1 1) fun v81 =>
  rd (cellP v81) fun v82 =>
  opt (nilV x0) fun v83 =>
  opt (offV v83 6) fun v84 =>
  opt (idxA v84 v74 2 1) fun v85 =>
  rd (cellP v85) fun v86 =>
  opt (binV Tryz.prog .neq 3 (Go.Operand.tmp 76) (Go.Operand.tmp 82) v82 v86) fun v87 =>
  grdK v87 false (fun c => opt (offV v1 5) c) fun v88 =>
  grdK v87 false (fun c => rd (cellP v88) c) fun v89 =>
  grdK v87 false (fun c => c v75) fun v90 =>
  grdK v87 false (fun c => opt (binV Tryz.prog .neq 3 (Go.Operand.tmp 86) (Go.Operand.tmp 87) v89 v90) c) fun v91 =>
  opt (pickV v87 (.bool true) v91) fun v92 =>
  cnd v92
  (R (.int .i64 18))
  (R (.int .i64 0)))))
  (opt (nilV x0) fun v93 =>
  opt (offV v93 12) fun v94 =>
  rd (cellP v94) fun v95 =>
  grdK v95 false (fun c96 => opt (offV v65 18) fun v97 =>
  c96 v97) fun v98 =>
  grdK v95 false (fun c99 => rd (cellP v98) fun v100 =>
  c99 v100) fun v101 =>
  opt (pickV v95 (.bool true) v101) fun v102 =>
  cnd v102
  (R (.int .i64 12))
  (opt (offV v1 1) fun v103 =>
  rd (cellP v103) fun v104 =>
  callF Tryz.prog 83 [x0, v104] fun v105 =>
  opt (binV Tryz.prog .lss 3 (Go.Operand.tmp 102) (Go.Operand.const (Go.Value.int Go.IntKind.i64 0)) v105 (.int .i64 0)) fun v106 =>
  cnd v106
  (R (.int .i64 14))
  (opt (offV v1 0) fun v107 =>
  rd (cellP v107) fun v108 =>
  opt (binV Tryz.prog .eql 3 (Go.Operand.tmp 105) (Go.Operand.const (Go.Value.int Go.IntKind.i64 2)) v108 (.int .i64 2)) fun v109 =>
  grdK v109 true (fun c110 => c110 x0) fun v111 =>
  grdK v109 true (fun c112 => c112 v105) fun v113 =>
  grdK v109 true (fun c114 => opt (nilV v111) fun v115 =>
  c114 v115) fun v116 =>
  grdK v109 true (fun c117 => opt (offV v116 9) fun v118 =>
  c117 v118) fun v119 =>
  grdK v109 true (fun c120 => opt (idxA v119 v113 2 1) fun v121 =>
  c120 v121) fun v122 =>
  grdK v109 true (fun c123 => rd (cellP v122) fun v124 =>
  c123 v124) fun v125 =>
  grdK v109 true (fun c126 => opt (binV Tryz.prog .geq 3 (Go.Operand.tmp 113) (Go.Operand.const (Go.Value.int Go.IntKind.i64 100)) v125 (.int .i64 100)) fun v127 =>
  c126 v127) fun v128 =>
  opt (pickV v109 v128 (.bool false)) fun v129 =>
  cnd v129
  (R (.int .i64 17))
  (opt (offV v1 0) fun v130 =>
  rd (cellP v130) fun v131 =>
  opt (binV Tryz.prog .neq 3 (Go.Operand.tmp 117) (Go.Operand.const (Go.Value.int Go.IntKind.i64 3)) v131 (.int .i64 3)) fun v132 =>
  cnd v132
  (R (.int .i64 0))
  (opt (nilV x0) fun v133 =>
  opt (offV v133 4) fun v134 =>
  opt (idxA v134 v105 2 1) fun v135 =>
  rd (cellP v135) fun v136 =>
  opt (pureRun Tryz.prog (bltN .len #[93] 3 #[false] [v136])) fun v137 =>
  opt (offV v1 3) fun v138 =>
  rd (cellP v138) fun v139 =>
  opt (binV Tryz.prog .lss 3 (Go.Operand.tmp 128) (Go.Operand.const (Go.Value.int Go.IntKind.i64 0)) v139 (.int .i64 0)) fun v140 =>
  grdK v140 false (fun c => opt (offV v1 3) c) fun v141 =>
  grdK v140 false (fun c => rd (cellP v141) c) fun v142 =>
  grdK v140 false (fun c => c x0) fun v143 =>
  grdK v140 false (fun c => opt (nilV v143) c) fun v144 =>
  grdK v140 false (fun c => opt (offV v144 0) c) fun v145 =>
  grdK v140 false (fun c => opt (offV v145 1) c) fun v146 =>
  grdK v140 false (fun c => rd (cellP v146) c) fun v147 =>
  grdK v140 false (fun c => opt (binV Tryz.prog .geq 3 (Go.Operand.tmp 132) (Go.Operand.tmp 137) v142 v147) c) fun v148 =>
  opt (pickV v140 (.bool true) v148) fun v149 =>
  cnd v149
  (R (.int .i64 1))
  (opt (offV v1 3) fun v150 =>
  rd (cellP v150) fun v151 =>
  opt (binV Tryz.prog .lss 3 (Go.Operand.tmp 142) (Go.Operand.tmp 143) v151 v137) fun v152 =>
  grdK v152 true (fun c => c x0) fun v153 =>
  grdK v152 true (fun c => c v105) fun v154 =>
  grdK v152 true (fun c => opt (nilV v153) c) fun v155 =>
  grdK v152 true (fun c => opt (offV v155 4) c) fun v156 =>
  grdK v152 true (fun c => opt (idxA v156 v154 2 1) c) fun v157 =>
  grdK v152 true (fun c => rd (cellP v157) c) fun v158 =>
  grdK v152 true (fun c => opt (offV v1 3) c) fun v159 =>
  grdK v152 true (fun c => rd (cellP v159) c) fun v160 =>
  grdK v152 true (fun c => opt (idxS v158 v160 1) c) fun v161 =>
  grdK v152 true (fun c => rd (cellP v161) c) fun v162 =>
  grdK v152 true (fun c => opt (offV v1 4) c) fun v163 =>
  grdK v152 true (fun c => rd (cellP v163) c) fun v164 =>
  grdK v152 true (fun c => opt (binV Tryz.prog .eql 51 (Go.Operand.tmp 155) (Go.Operand.tmp 157) v162 v164) c) fun v165 =>
  opt (pickV v152 v165 (.bool false)) fun v166 =>
  cnd v166
  (R (.int .i64 8))
  (opt (offV v1 3) fun v167 =>
  rd (cellP v167) fun v168 =>
  opt (binV Tryz.prog .lss 3 (Go.Operand.tmp 162) (Go.Operand.tmp 163) v168 v137) fun v169 =>
  cnd v169
  (R (.int .i64 18))
  (opt (offV v1 3) fun v170 =>
  rd (cellP v170) fun v171 =>
  opt (binV Tryz.prog .gtr 3 (Go.Operand.tmp 167) (Go.Operand.tmp 168) v171 v137) fun v172 =>
  grdK v172 false (fun c173 => c173 v137) fun v174 =>
  grdK v172 false (fun c175 => c175 x0) fun v176 =>
  grdK v172 false (fun c177 => c177 v105) fun v178 =>
  grdK v172 false (fun c179 => opt (binV Tryz.prog .sub 3 (Go.Operand.const (Go.Value.int Go.IntKind.i64 1)) (Go.Operand.tmp 173) (.int .i64 1) v178) fun v180 =>
  c179 v180) fun v181 =>
  grdK v172 false (fun c182 => opt (nilV v176) fun v183 =>
  c182 v183) fun v184 =>
  grdK v172 false (fun c185 => opt (offV v184 4) fun v186 =>
  c185 v186) fun v187 =>
  grdK v172 false (fun c188 => opt (idxA v187 v181 2 1) fun v189 =>
  c188 v189) fun v190 =>
  grdK v172 false (fun c191 => rd (cellP v190) fun v192 =>
  c191 v192) fun v193 =>
  grdK v172 false (fun c194 => opt (pureRun Tryz.prog (bltN .len #[93] 3 #[false] [v193])) fun v195 =>
  c194 v195) fun v196 =>
  grdK v172 false (fun c197 => opt (binV Tryz.prog .add 3 (Go.Operand.tmp 179) (Go.Operand.const (Go.Value.int Go.IntKind.i64 8)) v196 (.int .i64 8)) fun v198 =>
  c197 v198) fun v199 =>
  grdK v172 false (fun c200 => opt (binV Tryz.prog .geq 3 (Go.Operand.tmp 171) (Go.Operand.tmp 180) v174 v199) fun v201 =>
  c200 v201) fun v202 =>
  opt (pickV v172 (.bool true) v202) fun v203 =>
  cnd v203
  (R (.int .i64 13))
  (R (.int .i64 0)))))))))))))
theorem f47.b_eq : (fun (R : Value → HPred) (x0 x1 : Value) => f47.den R false (bodyOf Tryz.f47) (regsOf [x0, x1]) []) = (fun (R : Value → HPred) (x0 x1 : Value) => f47.b R x0 x1) := by kernel_rfl
theorem f47.call {R : Value → HPred} {x0 x1 : Value} {H : Hp} (h : f47.b R x0 x1 H) : HC Tryz.prog 47 #[x0, x1] R H :=
  HC.of_den mixed (cuts := f47.cuts) (plans := f47.plans) (args := [x0, x1]) Tryz.func47 (by kernel_rfl) (fun w => Tryz.call47 _ w) (by kernel_rfl) (Eq.mpr (congrFun (congrFun (congrFun (congrFun (f47.b_eq) R) x0) x1) H) h)
/-! f50: (*gauntlet/contest.Contest).State -/
def f50.cuts : List (Nat × List Nat) := []
def f50.plans : List (Nat × Plan) := []
def f50.den (R : Value → HPred) (first : Bool) (k : List Item) (r : Regs) (ds : List Deferred) : HPred := Sx.den Tryz.prog 10 (RQ Tryz.prog Tryz.f50.results.toList R) f50.cuts f50.plans 1000 first k r ds
def f50.b (R : Value → HPred) (x0 : Value) : HPred :=
  newC #[(.int .i64 0), (.int .i32 0), (.int .i32 0), (.int .i32 0), (.int .i32 0), (.int .i32 0), (.int .i32 0), (.int .i32 0), (.int .i32 0), (.int .i32 0), (.int .i32 0), (.int .i32 0), (.int .i32 0), (.int .i32 0), (.int .i32 0), (.int .i32 0), (.int .i32 0), (.int .u32 0), (.bool false), (.int .i64 0)] 91 fun v1 =>
  rd (binR Tryz.prog .eql 30 (Go.Operand.tmp 3) (Go.Operand.const (Go.Value.pointer none)) x0 (.pointer none)) fun v2 =>
  cnd v2
  (opt (pureRun Tryz.prog (Instr.build 91 #[])) fun v3 =>
  stA v1 20 v3 <|
  rd (cellsP v1 20) fun v4 => R v4)
  (opt (nilV x0) fun v5 =>
  opt (offV v5 17) fun v6 =>
  rd (cellsP v6 20) fun v7 =>
  stA v1 20 v7 <|
  rd (cellsP v1 20) fun v8 => R v8)
theorem f50.b_eq : (fun (R : Value → HPred) (x0 : Value) => f50.den R false (bodyOf Tryz.f50) (regsOf [x0]) []) = (fun (R : Value → HPred) (x0 : Value) => f50.b R x0) := by kernel_rfl
theorem f50.call {R : Value → HPred} {x0 : Value} {H : Hp} (h : f50.b R x0 H) : HC Tryz.prog 50 #[x0] R H :=
  HC.of_den mixed (cuts := f50.cuts) (plans := f50.plans) (args := [x0]) Tryz.func50 (by kernel_rfl) (fun w => Tryz.call50 _ w) (by kernel_rfl) (Eq.mpr (congrFun (congrFun (congrFun (f50.b_eq) R) x0) H) h)
/-! f51: (*gauntlet/gauntletref18.Contest).State -/
def f51.cuts : List (Nat × List Nat) := []
def f51.plans : List (Nat × Plan) := [(1, (.step 0 [] (.step 1 [] (.step 2 [] (.step 3 [10, 11, 12, 13, 15, 16] (.step 4 [] (.step 5 [] (.step 6 [] (.step 7 [10, 11, 12, 13, 15, 16] (.step 8 [] (.fork 9 (.fork 10 (.step 11 [] (.step 12 [] (.step 13 [] (.act 14 (.act 15 (.step 16 [] .done)))))) 14 (.act 10 (.step 11 [] (.step 12 [] (.step 13 [] (.act 15 (.step 16 [] .done))))))) 14 (.act 9 (.act 10 (.step 11 [] (.step 12 [] (.step 13 [] (.act 15 (.step 16 [] .done))))))))))))))))))]
def f51.den (R : Value → HPred) (first : Bool) (k : List Item) (r : Regs) (ds : List Deferred) : HPred := Sx.den Tryz.prog 20 (RQ Tryz.prog Tryz.f51.results.toList R) f51.cuts f51.plans 1000 first k r ds
def f51.b (R : Value → HPred) (x0 : Value) : HPred :=
  newC #[(.int .i64 0), (.int .i32 0), (.int .i32 0), (.int .i32 0), (.int .i32 0), (.int .i32 0), (.int .i32 0), (.int .i32 0), (.int .i32 0), (.int .i32 0), (.int .i32 0), (.int .i32 0), (.int .i32 0), (.int .i32 0), (.int .i32 0), (.int .i32 0), (.int .i32 0), (.int .u32 0), (.bool false), (.int .i64 0)] 91 fun v1 =>
  opt (nilV x0) fun v2 =>
  opt (offV v2 0) fun v3 =>
  rd (cellsP v3 3) fun v4 =>
  opt (nilV x0) fun v5 =>
  opt (offV v5 8) fun v6 =>
  rd (cellP v6) fun v7 =>
  frk
  (callF Tryz.prog 86 [x0] fun v8 =>
  chk (fun H => cellP v6 H = some v7) <|
  chk (fun H => cellsP v3 3 H = some v4) <|
  frk
  (callF Tryz.prog 85 [v4, v7, v8] fun v9 =>
  opt (extV v9 0) fun v10 =>
  opt (extV v9 1) fun v11 =>
  newC #[(.int .i64 0), (.int .i32 0), (.int .i32 0), (.int .i32 0), (.int .i32 0), (.int .i32 0), (.int .i32 0), (.int .i32 0), (.int .i32 0), (.int .i32 0), (.int .i32 0), (.int .i32 0), (.int .i32 0), (.int .i32 0), (.int .i32 0), (.int .i32 0), (.int .i32 0), (.int .u32 0), (.bool false), (.int .i64 0)] 91 fun v12 =>
  chk (fun H => cellP v6 H = some v7) <|
  chk (fun H => cellsP v3 3 H = some v4) <|
  stA v12 20 v10 <|
  rd (cellsP v12 20) fun v13 =>
  stA v1 20 v13 <|
  rd (cellsP v1 20) fun v14 => R v14)
  (newC #[(.int .i64 0), (.int .i32 0), (.int .i32 0), (.int .i32 0), (.int .i32 0), (.int .i32 0), (.int .i32 0), (.int .i32 0), (.int .i32 0), (.int .i32 0), (.int .i32 0), (.int .i32 0), (.int .i32 0), (.int .i32 0), (.int .i32 0), (.int .i32 0), (.int .i32 0), (.int .u32 0), (.bool false), (.int .i64 0)] 91 fun v15 =>
  chk (fun H => cellP v6 H = some v7) <|
  chk (fun H => cellsP v3 3 H = some v4) <|
  callF Tryz.prog 85 [v4, v7, v8] fun v16 =>
  opt (extV v16 0) fun v17 =>
  opt (extV v16 1) fun v18 =>
  stA v15 20 v17 <|
  rd (cellsP v15 20) fun v19 =>
  stA v1 20 v19 <|
  rd (cellsP v1 20) fun v20 => R v20))
  (newC #[(.int .i64 0), (.int .i32 0), (.int .i32 0), (.int .i32 0), (.int .i32 0), (.int .i32 0), (.int .i32 0), (.int .i32 0), (.int .i32 0), (.int .i32 0), (.int .i32 0), (.int .i32 0), (.int .i32 0), (.int .i32 0), (.int .i32 0), (.int .i32 0), (.int .i32 0), (.int .u32 0), (.bool false), (.int .i64 0)] 91 fun v21 =>
  chk (fun H => cellP v6 H = some v7) <|
  chk (fun H => cellsP v3 3 H = some v4) <|
  callF Tryz.prog 86 [x0] fun v22 =>
  chk (fun H => cellP v6 H = some v7) <|
  chk (fun H => cellsP v3 3 H = some v4) <|
  callF Tryz.prog 85 [v4, v7, v22] fun v23 =>
  opt (extV v23 0) fun v24 =>
  opt (extV v23 1) fun v25 =>
  stA v21 20 v24 <|
  rd (cellsP v21 20) fun v26 =>
  stA v1 20 v26 <|
  rd (cellsP v1 20) fun v27 => R v27)
theorem f51.b_eq : (fun (R : Value → HPred) (x0 : Value) => f51.den R false (bodyOf Tryz.f51) (regsOf [x0]) []) = (fun (R : Value → HPred) (x0 : Value) => f51.b R x0) := by kernel_rfl
theorem f51.call {R : Value → HPred} {x0 : Value} {H : Hp} (h : f51.b R x0 H) : HC Tryz.prog 51 #[x0] R H :=
  HC.of_den mixed (cuts := f51.cuts) (plans := f51.plans) (args := [x0]) Tryz.func51 (by kernel_rfl) (fun w => Tryz.call51 _ w) (by kernel_rfl) (Eq.mpr (congrFun (congrFun (congrFun (f51.b_eq) R) x0) H) h)
/-! f56: (*gauntlet/contest.Contest).Status -/
def f56.cuts : List (Nat × List Nat) := []
def f56.plans : List (Nat × Plan) := []
def f56.den (R : Value → HPred) (first : Bool) (k : List Item) (r : Regs) (ds : List Deferred) : HPred := Sx.den Tryz.prog 10 (RQ Tryz.prog Tryz.f56.results.toList R) f56.cuts f56.plans 1000 first k r ds
def f56.b (R : Value → HPred) (x0 : Value) : HPred :=
  newC #[(.int .i64 0), (.int .i64 0), (.int .u32 0), (.int .i64 0), (.int .i64 0), (.int .i64 0), (.int .i64 0), (.bool false), (.int .i64 0), (.int .i64 0), (.bool false)] 62 fun v1 =>
  rd (binR Tryz.prog .eql 30 (Go.Operand.tmp 3) (Go.Operand.const (Go.Value.pointer none)) x0 (.pointer none)) fun v2 =>
  cnd v2
  (opt (pureRun Tryz.prog (Instr.build 62 #[])) fun v3 =>
  stA v1 11 v3 <|
  rd (cellsP v1 11) fun v4 => R v4)
  (opt (nilV x0) fun v5 =>
  opt (offV v5 3) fun v6 =>
  rd (cellsP v6 11) fun v7 =>
  stA v1 11 v7 <|
  rd (cellsP v1 11) fun v8 => R v8)
theorem f56.b_eq : (fun (R : Value → HPred) (x0 : Value) => f56.den R false (bodyOf Tryz.f56) (regsOf [x0]) []) = (fun (R : Value → HPred) (x0 : Value) => f56.b R x0) := by kernel_rfl
theorem f56.call {R : Value → HPred} {x0 : Value} {H : Hp} (h : f56.b R x0 H) : HC Tryz.prog 56 #[x0] R H :=
  HC.of_den mixed (cuts := f56.cuts) (plans := f56.plans) (args := [x0]) Tryz.func56 (by kernel_rfl) (fun w => Tryz.call56 _ w) (by kernel_rfl) (Eq.mpr (congrFun (congrFun (congrFun (f56.b_eq) R) x0) H) h)
/-! f59: (*gauntlet/contest.Contest).Apply -/
def f59.cuts : List (Nat × List Nat) := []
def f59.plans : List (Nat × Plan) := [(4, (.step 1 [] (.step 2 [3, 4, 7] (.step 5 [] (.step 6 [7] (.act 0 (.step 3 [] (.step 4 [] (.act 7 .done))))))))), (5, (.step 0 [] (.step 1 [] (.step 2 [] (.step 3 [] (.step 4 [7, 8, 9, 10] (.step 5 [6, 7, 8, 9, 10] (.act 6 (.act 7 (.step 8 [] (.step 9 [] (.act 10 .done))))))))))))]
def f59.den (R : Value → HPred) (first : Bool) (k : List Item) (r : Regs) (ds : List Deferred) : HPred := Sx.den Tryz.prog 30 (RQ Tryz.prog Tryz.f59.results.toList R) f59.cuts f59.plans 1000 first k r ds
def f59.b (R : Value → HPred) (x0 x1 : Value) : HPred :=
  boxM 53 x1 fun v1 =>
  rd (cellsP v1 6) fun v2 =>
  callF Tryz.prog 61 [x0, v2] fun v3 =>
  opt (binV Tryz.prog .neq 25 (Go.Operand.tmp 9) (Go.Operand.const (Go.Value.int Go.IntKind.i64 0)) v3 (.int .i64 0)) fun v4 =>
  cnd v4
  (R v3)
  (opt (offV v1 0) fun v5 =>
  rd (cellP v5) fun v6 =>
  rd (cellsP v1 6) fun v7 =>
  callF Tryz.prog 87 [] fun v8 =>
  chk (fun H => cellsP v1 6 H = some v7) <|
  chk (fun H => cellP v5 H = some v6) <|
  opt (pureRun Tryz.prog (Instr.index 183 v8 v6)) fun v9 =>
  opt (pureRun Tryz.prog (Instr.field 182 v9 1)) fun v10 =>
  callV Tryz.prog v10 [x0, v7] fun v11 =>
  opt (nilV x0) fun v12 =>
  opt (offV v12 37) fun v13 =>
  rd (cellP v13) fun v14 =>
  rd (cellsP v1 6) fun v15 =>
  tot Tryz.prog (Instr.buildSlice 96 1 #[(0, v15)]) fun v16 =>
  chk (fun H => cellP v13 H = some v14) <|
  blt Tryz.prog .append #[96, 96] 96 #[false, false] [v14, v16] fun v17 =>
  opt (nilV x0) fun v18 =>
  opt (offV v18 37) fun v19 =>
  st v19 v17 <|
  R (.int .i64 0))
theorem f59.b_eq : (fun (R : Value → HPred) (x0 x1 : Value) => f59.den R false (bodyOf Tryz.f59) (regsOf [x0, x1]) []) = (fun (R : Value → HPred) (x0 x1 : Value) => f59.b R x0 x1) := by kernel_rfl
theorem f59.call {R : Value → HPred} {x0 x1 : Value} {H : Hp} (h : f59.b R x0 x1 H) : HC Tryz.prog 59 #[x0, x1] R H :=
  HC.of_den mixed (cuts := f59.cuts) (plans := f59.plans) (args := [x0, x1]) Tryz.func59 (by kernel_rfl) (fun w => Tryz.call59 _ w) (by kernel_rfl) (Eq.mpr (congrFun (congrFun (congrFun (congrFun (f59.b_eq) R) x0) x1) H) h)
/-! f61: (*gauntlet/contest.Contest).May -/
def f61.cuts : List (Nat × List Nat) := []
def f61.plans : List (Nat × Plan) := [(5, (.step 1 [] (.step 2 [3, 5] (.fork 0 (.step 3 [] (.act 4 (.act 5 .done))) 4 (.act 0 (.step 3 [] (.act 5 .done))))))), (6, (.step 0 [] (.step 1 [3, 7] (.step 2 [3, 7] (.step 4 [] (.step 5 [6, 7] (.step 6 [] (.act 3 (.step 7 [] .done)))))))))]
def f61.den (R : Value → HPred) (first : Bool) (k : List Item) (r : Regs) (ds : List Deferred) : HPred := Sx.den Tryz.prog 33 (RQ Tryz.prog Tryz.f61.results.toList R) f61.cuts f61.plans 1000 first k r ds
def f61.b (R : Value → HPred) (x0 x1 : Value) : HPred :=
  boxM 53 x1 fun v1 =>
  rd (binR Tryz.prog .eql 30 (Go.Operand.tmp 6) (Go.Operand.const (Go.Value.pointer none)) x0 (.pointer none)) fun v2 =>
  cnd v2
  (R (.int .i64 1))
  (opt (offV v1 0) fun v3 =>
  rd (cellP v3) fun v4 =>
  opt (binV Tryz.prog .lss 3 (Go.Operand.tmp 9) (Go.Operand.const (Go.Value.int Go.IntKind.i64 1)) v4 (.int .i64 1)) fun v5 =>
  grdK v5 false (fun c6 => opt (offV v1 0) fun v7 =>
  c6 v7) fun v8 =>
  grdK v5 false (fun c9 => rd (cellP v8) fun v10 =>
  c9 v10) fun v11 =>
  grdK v5 false (fun c12 => opt (binV Tryz.prog .geq 3 (Go.Operand.tmp 13) (Go.Operand.const (Go.Value.int Go.IntKind.i64 6)) v11 (.int .i64 6)) fun v13 =>
  c12 v13) fun v14 =>
  opt (pickV v5 (.bool true) v14) fun v15 =>
  cnd v15
  (R (.int .i64 3))
  (opt (offV v1 0) fun v16 =>
  rd (cellP v16) fun v17 =>
  frk
  (callF Tryz.prog 87 [] fun v18 =>
  chk (fun H => cellP v16 H = some v17) <|
  opt (pureRun Tryz.prog (Instr.index 183 v18 v17)) fun v19 =>
  newC #[.nilFunc, .nilFunc, .nilFunc] 182 fun v20 =>
  chk (fun H => cellP v16 H = some v17) <|
  stA v20 3 v19 <|
  opt (offV v20 2) fun v21 =>
  rd (cellP v21) fun v22 =>
  rd (cellsP v1 6) fun v23 =>
  opt (offV v1 0) fun v24 =>
  rd (cellP v24) fun v25 =>
  opt (pureRun Tryz.prog (Instr.build 53 #[(0, v25)])) fun v26 =>
  callV Tryz.prog v22 [v23] fun v27 =>
  chk (fun H => cellP v24 H = some v25) <|
  opt (binV Tryz.prog .neq 53 (Go.Operand.tmp 23) (Go.Operand.tmp 26) v27 v26) fun v28 =>
  cnd v28
  (R (.int .i64 3))
  (opt (offV v20 0) fun v29 =>
  rd (cellP v29) fun v30 =>
  rd (cellsP v1 6) fun v31 =>
  callV Tryz.prog v30 [x0, v31] fun v32 =>
  R v32))
  (newC #[.nilFunc, .nilFunc, .nilFunc] 182 fun v33 =>
  chk (fun H => cellP v16 H = some v17) <|
  callF Tryz.prog 87 [] fun v34 =>
  chk (fun H => cellP v16 H = some v17) <|
  opt (pureRun Tryz.prog (Instr.index 183 v34 v17)) fun v35 =>
  stA v33 3 v35 <|
  opt (offV v33 2) fun v36 =>
  rd (cellP v36) fun v37 =>
  rd (cellsP v1 6) fun v38 =>
  opt (offV v1 0) fun v39 =>
  rd (cellP v39) fun v40 =>
  opt (pureRun Tryz.prog (Instr.build 53 #[(0, v40)])) fun v41 =>
  callV Tryz.prog v37 [v38] fun v42 =>
  chk (fun H => cellP v39 H = some v40) <|
  opt (binV Tryz.prog .neq 53 (Go.Operand.tmp 23) (Go.Operand.tmp 26) v42 v41) fun v43 =>
  cnd v43
  (R (.int .i64 3))
  (opt (offV v33 0) fun v44 =>
  rd (cellP v44) fun v45 =>
  rd (cellsP v1 6) fun v46 =>
  callV Tryz.prog v45 [x0, v46] fun v47 =>
  R v47))))
theorem f61.b_eq : (fun (R : Value → HPred) (x0 x1 : Value) => f61.den R false (bodyOf Tryz.f61) (regsOf [x0, x1]) []) = (fun (R : Value → HPred) (x0 x1 : Value) => f61.b R x0 x1) := by kernel_rfl
theorem f61.call {R : Value → HPred} {x0 x1 : Value} {H : Hp} (h : f61.b R x0 x1 H) : HC Tryz.prog 61 #[x0, x1] R H :=
  HC.of_den mixed (cuts := f61.cuts) (plans := f61.plans) (args := [x0, x1]) Tryz.func61 (by kernel_rfl) (fun w => Tryz.call61 _ w) (by kernel_rfl) (Eq.mpr (congrFun (congrFun (congrFun (congrFun (f61.b_eq) R) x0) x1) H) h)
/-! f63: gauntlet/gauntletref18.New -/
def f63.cuts : List (Nat × List Nat) := []
def f63.plans : List (Nat × Plan) := []
def f63.den (R : Value → HPred) (first : Bool) (k : List Item) (r : Regs) (ds : List Deferred) : HPred := Sx.den Tryz.prog 13 (RQ Tryz.prog Tryz.f63.results.toList R) f63.cuts f63.plans 1000 first k r ds
def f63.b (R : Value → HPred) (x0 : Value) : HPred :=
  boxM 35 x0 fun v1 =>
  rd (cellsP v1 3) fun v2 =>
  callF Tryz.prog 88 [v2] fun v3 =>
  opt (binV Tryz.prog .neq 3 (Go.Operand.tmp 7) (Go.Operand.const (Go.Value.int Go.IntKind.i64 0)) v3 (.int .i64 0)) fun v4 =>
  cnd v4
  (R (.tuple #[(.pointer none), v3]))
  (rd (cellsP v1 3) fun v5 =>
  opt (pureRun Tryz.prog (Instr.build 171 #[(0, v5)])) fun v6 =>
  boxM 171 v6 fun v7 =>
  R (.tuple #[v7, (.int .i64 0)]))
theorem f63.b_eq : (fun (R : Value → HPred) (x0 : Value) => f63.den R false (bodyOf Tryz.f63) (regsOf [x0]) []) = (fun (R : Value → HPred) (x0 : Value) => f63.b R x0) := by kernel_rfl
theorem f63.call {R : Value → HPred} {x0 : Value} {H : Hp} (h : f63.b R x0 H) : HC Tryz.prog 63 #[x0] R H :=
  HC.of_den mixed (cuts := f63.cuts) (plans := f63.plans) (args := [x0]) Tryz.func63 (by kernel_rfl) (fun w => Tryz.call63 _ w) (by kernel_rfl) (Eq.mpr (congrFun (congrFun (congrFun (f63.b_eq) R) x0) H) h)
/-! f64: (*gauntlet/gauntletref18.Contest).Apply -/
def f64.at17 (R : Value → HPred) : HPred := At Tryz.prog 104 (RQ Tryz.prog Tryz.f64.results.toList R) (stk Tryz.f64 17) [] [] []
def f64.cuts : List (Nat × List Nat) := [(17, [])]
def f64.plans : List (Nat × Plan) := [(4, (.step 0 [] (.step 1 [] (.step 2 [] (.step 3 [] (.step 4 [7, 8, 9, 10] (.step 5 [6, 7, 8, 9, 10] (.act 6 (.act 7 (.step 8 [] (.step 9 [] (.act 10 .done)))))))))))), (8, (.step 0 [] (.step 1 [] (.step 2 [] (.step 3 [] (.step 4 [7, 14, 15, 16, 17, 18, 19] (.step 5 [] (.step 6 [7, 14, 15, 16, 17, 18, 19] (.step 7 [] (.step 8 [] (.step 9 [10, 17, 18, 19] (.step 10 [] (.step 11 [] (.step 12 [] (.act 13 (.step 14 [] (.step 15 [] (.act 16 (.step 17 [] (.step 18 [] (.act 19 .done))))))))))))))))))))), (10, (.step 0 [] (.step 1 [] (.step 2 [] (.step 3 [] (.step 4 [] (.step 5 [6, 9, 10] (.step 6 [] (.step 7 [] (.step 8 [] (.step 9 [] (.act 10 .done)))))))))))), (12, (.step 0 [] (.step 1 [] (.step 2 [] (.step 3 [] (.step 4 [] (.step 5 [] (.step 6 [] (.step 7 [11, 14, 15] (.step 8 [] (.step 9 [10, 11, 14, 15] (.step 12 [] (.step 13 [] (.act 10 (.act 11 (.step 14 [] (.act 15 .done))))))))))))))))), (16, (.step 0 [] (.step 1 [] (.step 2 [] (.step 3 [] (.step 4 [] (.step 5 [12, 13, 14] (.step 6 [] (.step 7 [] (.act 8 (.step 9 [] (.step 10 [] (.act 11 (.step 12 [] (.step 13 [] (.act 14 .done))))))))))))))))]
def f64.den (R : Value → HPred) (first : Bool) (k : List Item) (r : Regs) (ds : List Deferred) : HPred := Sx.den Tryz.prog 104 (RQ Tryz.prog Tryz.f64.results.toList R) f64.cuts f64.plans 1000 first k r ds
def f64.b17 (R : Value → HPred) : HPred :=
  R (.int .i64 0)
theorem f64.b17_eq : (fun (R : Value → HPred) (r : Regs) => f64.den R true (stk Tryz.f64 17) (over [] [] r) []) = (fun (R : Value → HPred) (_ : Regs) => f64.b17 R ) := by kernel_rfl
theorem f64.b17_ok {R : Value → HPred} {H : Hp} (h : f64.b17 R  H) : f64.at17 R  H :=
  At.of_den mixed (f := 1000) (cuts := f64.cuts) (plans := f64.plans) fun r => Eq.mpr (congrFun (congrFun (congrFun (f64.b17_eq) R) r) H) h
def f64.b (R : Value → HPred) (x0 x1 : Value) : HPred :=
  boxM 53 x1 fun v1 =>
  rd (cellsP v1 6) fun v2 =>
  callF Tryz.prog 47 [x0, v2] fun v3 =>
  opt (binV Tryz.prog .neq 3 (Go.Operand.tmp 10) (Go.Operand.const (Go.Value.int Go.IntKind.i64 0)) v3 (.int .i64 0)) fun v4 =>
  cnd v4
  (R v3)
  (opt (nilV x0) fun v5 =>
  opt (offV v5 3) fun v6 =>
  rd (cellP v6) fun v7 =>
  rd (cellsP v1 6) fun v8 =>
  tot Tryz.prog (Instr.buildSlice 96 1 #[(0, v8)]) fun v9 =>
  chk (fun H => cellP v6 H = some v7) <|
  blt Tryz.prog .append #[96, 96] 96 #[false, false] [v7, v9] fun v10 =>
  opt (nilV x0) fun v11 =>
  opt (offV v11 3) fun v12 =>
  st v12 v10 <|
  opt (offV v1 1) fun v13 =>
  rd (cellP v13) fun v14 =>
  callF Tryz.prog 83 [x0, v14] fun v15 =>
  opt (offV v1 0) fun v16 =>
  rd (cellP v16) fun v17 =>
  opt (binV Tryz.prog .eql 3 (Go.Operand.tmp 28) (Go.Operand.const (Go.Value.int Go.IntKind.i64 1)) v17 (.int .i64 1)) fun v18 =>
  cnd v18
  (opt (offV v1 1) fun v19 =>
  rd (cellP v19) fun v20 =>
  opt (offV v1 2) fun v21 =>
  rd (cellP v21) fun v22 =>
  opt (pureRun Tryz.prog (Instr.build 59 #[(0, v20), (1, v22)])) fun v23 =>
  opt (offV v1 5) fun v24 =>
  rd (cellP v24) fun v25 =>
  opt (pureRun Tryz.prog (Go.convert 3 60 v25)) fun v26 =>
  opt (nilV x0) fun v27 =>
  opt (offV v27 11) fun v28 =>
  st v28 (.bool true) <|
  chk (fun H => cellP v24 H = some v25) <|
  chk (fun H => cellP v21 H = some v22) <|
  chk (fun H => cellP v19 H = some v20) <|
  opt (nilV x0) fun v29 =>
  opt (offV v29 6) fun v30 =>
  stA v30 2 v23 <|
  chk (fun H => cellP v24 H = some v25) <|
  opt (nilV x0) fun v31 =>
  opt (offV v31 8) fun v32 =>
  st v32 v26 <|
  f64.at17 R )
  (opt (binV Tryz.prog .eql 3 (Go.Operand.tmp 28) (Go.Operand.const (Go.Value.int Go.IntKind.i64 2)) v17 (.int .i64 2)) fun v33 =>
  cnd v33
  (opt (nilV x0) fun v34 =>
  opt (offV v34 9) fun v35 =>
  opt (idxA v35 v15 2 1) fun v36 =>
  rd (cellP v36) fun v37 =>
  opt (binV Tryz.prog .add 3 (Go.Operand.tmp 55) (Go.Operand.const (Go.Value.int Go.IntKind.i64 1)) v37 (.int .i64 1)) fun v38 =>
  opt (nilV x0) fun v39 =>
  opt (offV v39 9) fun v40 =>
  opt (idxA v40 v15 2 1) fun v41 =>
  st v41 v38 <|
  f64.at17 R )
  (opt (binV Tryz.prog .eql 3 (Go.Operand.tmp 28) (Go.Operand.const (Go.Value.int Go.IntKind.i64 3)) v17 (.int .i64 3)) fun v42 =>
  cnd v42
  (opt (nilV x0) fun v43 =>
  opt (offV v43 4) fun v44 =>
  opt (idxA v44 v15 2 1) fun v45 =>
  rd (cellP v45) fun v46 =>
  opt (offV v1 4) fun v47 =>
  rd (cellP v47) fun v48 =>
  opt (nilV x0) fun v49 =>
  opt (offV v49 4) fun v50 =>
  tot Tryz.prog (Instr.buildSlice 93 1 #[(0, v48)]) fun v51 =>
  chk (fun H => cellP v45 H = some v46) <|
  blt Tryz.prog .append #[93, 93] 93 #[false, false] [v46, v51] fun v52 =>
  opt (idxA v50 v15 2 1) fun v53 =>
  st v53 v52 <|
  f64.at17 R )
  (opt (binV Tryz.prog .eql 3 (Go.Operand.tmp 28) (Go.Operand.const (Go.Value.int Go.IntKind.i64 4)) v17 (.int .i64 4)) fun v54 =>
  cnd v54
  (opt (binV Tryz.prog .sub 3 (Go.Operand.const (Go.Value.int Go.IntKind.i64 1)) (Go.Operand.tmp 82) (.int .i64 1) v15) fun v55 =>
  opt (nilV x0) fun v56 =>
  opt (offV v56 12) fun v57 =>
  st v57 (.bool true) <|
  opt (nilV x0) fun v58 =>
  opt (offV v58 13) fun v59 =>
  st v59 v55 <|
  opt (nilV x0) fun v60 =>
  opt (offV v60 14) fun v61 =>
  st v61 (.int .i64 3) <|
  f64.at17 R )
  (opt (binV Tryz.prog .eql 3 (Go.Operand.tmp 28) (Go.Operand.const (Go.Value.int Go.IntKind.i64 5)) v17 (.int .i64 5)) fun v62 =>
  cnd v62
  (opt (offV v1 5) fun v63 =>
  rd (cellP v63) fun v64 =>
  opt (nilV x0) fun v65 =>
  opt (offV v65 12) fun v66 =>
  st v66 (.bool true) <|
  chk (fun H => cellP v63 H = some v64) <|
  opt (nilV x0) fun v67 =>
  opt (offV v67 13) fun v68 =>
  st v68 v15 <|
  chk (fun H => cellP v63 H = some v64) <|
  opt (nilV x0) fun v69 =>
  opt (offV v69 14) fun v70 =>
  st v70 v64 <|
  f64.at17 R )
  (f64.at17 R ))))))
theorem f64.b_eq : (fun (R : Value → HPred) (x0 x1 : Value) => f64.den R false (bodyOf Tryz.f64) (regsOf [x0, x1]) []) = (fun (R : Value → HPred) (x0 x1 : Value) => f64.b R x0 x1) := by kernel_rfl
theorem f64.call {R : Value → HPred} {x0 x1 : Value} {H : Hp} (h : f64.b R x0 x1 H) : HC Tryz.prog 64 #[x0, x1] R H :=
  HC.of_den mixed (cuts := f64.cuts) (plans := f64.plans) (args := [x0, x1]) Tryz.func64 (by kernel_rfl) (fun w => Tryz.call64 _ w) (by kernel_rfl) (Eq.mpr (congrFun (congrFun (congrFun (congrFun (f64.b_eq) R) x0) x1) H) h)
/-! f65: (*gauntlet/gauntletref23.Table).Lay -/
def f65.at8 (R : Value → HPred) (x0 x1 x2 x3 x9 : Value) : HPred := At Tryz.prog 77 (RQ Tryz.prog Tryz.f65.results.toList R) (stk Tryz.f65 8) [0, 1, 2, 3, 9] [x0, x1, x2, x3, x9] []
def f65.cuts : List (Nat × List Nat) := [(8, [0, 1, 2, 3, 9])]
def f65.plans : List (Nat × Plan) := []
def f65.den (R : Value → HPred) (first : Bool) (k : List Item) (r : Regs) (ds : List Deferred) : HPred := Sx.den Tryz.prog 77 (RQ Tryz.prog Tryz.f65.results.toList R) f65.cuts f65.plans 1000 first k r ds
def f65.b8 (R : Value → HPred) (x0 x1 x2 x3 x9 : Value) : HPred :=
  opt (nilV x0) fun v1 =>
  opt (offV v1 1) fun v2 =>
  rd (cellP v2) fun v3 =>
  opt (pureRun Tryz.prog (bltN .len #[129] 3 #[false] [v3])) fun v4 =>
  opt (binV Tryz.prog .lss 3 (Go.Operand.tmp 27) (Go.Operand.tmp 32) x9 v4) fun v5 =>
  grdK v5 true (fun c6 => c6 x0) fun v7 =>
  grdK v5 true (fun c8 => opt (nilV v7) fun v9 =>
  c8 v9) fun v10 =>
  grdK v5 true (fun c11 => opt (offV v10 1) fun v12 =>
  c11 v12) fun v13 =>
  grdK v5 true (fun c14 => rd (cellP v13) fun v15 =>
  c14 v15) fun v16 =>
  grdK v5 true (fun c17 => c17 x9) fun v18 =>
  grdK v5 true (fun c19 => opt (idxS v16 v18 2) fun v20 =>
  c19 v20) fun v21 =>
  grdK v5 true (fun c22 => opt (offV v21 0) fun v23 =>
  c22 v23) fun v24 =>
  grdK v5 true (fun c25 => rd (cellP v24) fun v26 =>
  c25 v26) fun v27 =>
  grdK v5 true (fun c28 => c28 x1) fun v29 =>
  grdK v5 true (fun c30 => opt (binV Tryz.prog .lss 3 (Go.Operand.tmp 42) (Go.Operand.tmp 43) v27 v29) fun v31 =>
  c30 v31) fun v32 =>
  opt (pickV v5 v32 (.bool false)) fun v33 =>
  cnd v33
  (opt (binV Tryz.prog .add 3 (Go.Operand.tmp 46) (Go.Operand.const (Go.Value.int Go.IntKind.i64 1)) x9 (.int .i64 1)) fun v34 =>
  f65.at8 R x0 x1 x2 x3 v34)
  (tot Tryz.prog (Instr.buildSlice 129 0 #[]) fun v35 =>
  opt (nilV x0) fun v36 =>
  opt (offV v36 1) fun v37 =>
  rd (cellP v37) fun v38 =>
  opt (pureRun Tryz.prog (Instr.sliceAt 129 v38 none (some x9) none)) fun v39 =>
  blt Tryz.prog .append #[129, 129] 129 #[false, false] [v35, v39] fun v40 =>
  opt (pureRun Tryz.prog (Instr.build 136 #[(0, x1), (1, x2)])) fun v41 =>
  tot Tryz.prog (Instr.buildSlice 129 1 #[(0, v41)]) fun v42 =>
  blt Tryz.prog .append #[129, 129] 129 #[false, false] [v40, v42] fun v43 =>
  opt (nilV x0) fun v44 =>
  opt (offV v44 1) fun v45 =>
  rd (cellP v45) fun v46 =>
  opt (pureRun Tryz.prog (Instr.sliceAt 129 v46 (some x9) none none)) fun v47 =>
  blt Tryz.prog .append #[129, 129] 129 #[false, false] [v43, v47] fun v48 =>
  opt (nilV x0) fun v49 =>
  opt (offV v49 1) fun v50 =>
  st v50 v48 <|
  callF Tryz.prog 84 [x0, x1, x2, x3] fun v51 =>
  R (.int .i64 0))
theorem f65.b8_eq : (fun (R : Value → HPred) (x0 x1 x2 x3 x9 : Value) (r : Regs) => f65.den R true (stk Tryz.f65 8) (over [0, 1, 2, 3, 9] [x0, x1, x2, x3, x9] r) []) = (fun (R : Value → HPred) (x0 x1 x2 x3 x9 : Value) (_ : Regs) => f65.b8 R x0 x1 x2 x3 x9) := by kernel_rfl
theorem f65.b8_ok {R : Value → HPred} {x0 x1 x2 x3 x9 : Value} {H : Hp} (h : f65.b8 R x0 x1 x2 x3 x9 H) : f65.at8 R x0 x1 x2 x3 x9 H :=
  At.of_den mixed (f := 1000) (cuts := f65.cuts) (plans := f65.plans) fun r => Eq.mpr (congrFun (congrFun (congrFun (congrFun (congrFun (congrFun (congrFun (congrFun (f65.b8_eq) R) x0) x1) x2) x3) x9) r) H) h
def f65.b (R : Value → HPred) (x0 x1 x2 x3 : Value) : HPred :=
  opt (binV Tryz.prog .lss 3 (Go.Operand.tmp 11) (Go.Operand.const (Go.Value.int Go.IntKind.i64 0)) x1 (.int .i64 0)) fun v1 =>
  grdK v1 false (fun c2 => c2 x2) fun v3 =>
  grdK v1 false (fun c4 => rd (binR Tryz.prog .eql 124 (Go.Operand.tmp 14) (Go.Operand.const (Go.Value.pointer none)) v3 (.pointer none)) fun v5 =>
  c4 v5) fun v6 =>
  opt (pickV v1 (.bool true) v6) fun v7 =>
  cnd v7
  (R (.int .i64 1))
  (callF Tryz.prog 45 [x0, x1] fun v8 =>
  rd (binR Tryz.prog .neq 124 (Go.Operand.tmp 19) (Go.Operand.const (Go.Value.pointer none)) v8 (.pointer none)) fun v9 =>
  cnd v9
  (R (.int .i64 8))
  (opt (nilV x0) fun v10 =>
  opt (offV v10 1) fun v11 =>
  rd (cellP v11) fun v12 =>
  opt (pureRun Tryz.prog (bltN .len #[129] 3 #[false] [v12])) fun v13 =>
  opt (binV Tryz.prog .geq 3 (Go.Operand.tmp 25) (Go.Operand.const (Go.Value.int Go.IntKind.i64 4096)) v13 (.int .i64 4096)) fun v14 =>
  cnd v14
  (R (.int .i64 17))
  (f65.at8 R x0 x1 x2 x3 (.int .i64 0))))
theorem f65.b_eq : (fun (R : Value → HPred) (x0 x1 x2 x3 : Value) => f65.den R false (bodyOf Tryz.f65) (regsOf [x0, x1, x2, x3]) []) = (fun (R : Value → HPred) (x0 x1 x2 x3 : Value) => f65.b R x0 x1 x2 x3) := by kernel_rfl
theorem f65.call {R : Value → HPred} {x0 x1 x2 x3 : Value} {H : Hp} (h : f65.b R x0 x1 x2 x3 H) : HC Tryz.prog 65 #[x0, x1, x2, x3] R H :=
  HC.of_den mixed (cuts := f65.cuts) (plans := f65.plans) (args := [x0, x1, x2, x3]) Tryz.func65 (by kernel_rfl) (fun w => Tryz.call65 _ w) (by kernel_rfl) (Eq.mpr (congrFun (congrFun (congrFun (congrFun (congrFun (congrFun (f65.b_eq) R) x0) x1) x2) x3) H) h)
/-! f66: (*gauntlet/gauntletref23.Table).Due -/
def f66.at4 (R : Value → HPred) (x0 x1 x5 x6 x7 : Value) : HPred := At Tryz.prog 65 (RQ Tryz.prog Tryz.f66.results.toList R) (stk Tryz.f66 4) [0, 1, 5, 6, 7] [x0, x1, x5, x6, x7] []
def f66.at10 (R : Value → HPred) (x0 x1 x5 x6 x7 x9 : Value) : HPred := At Tryz.prog 65 (RQ Tryz.prog Tryz.f66.results.toList R) (stk Tryz.f66 10) [0, 1, 5, 6, 7, 9] [x0, x1, x5, x6, x7, x9] []
def f66.cuts : List (Nat × List Nat) := [(4, [0, 1, 5, 6, 7]), (10, [0, 1, 5, 6, 7, 9])]
def f66.plans : List (Nat × Plan) := [(11, (.step 0 [] (.step 1 [] (.step 2 [] (.step 3 [] (.step 4 [] (.step 5 [] (.step 6 [13] (.step 7 [] (.step 8 [] (.step 9 [] (.step 10 [] (.step 11 [12, 13] (.step 12 [] (.act 13 .done)))))))))))))))]
def f66.den (R : Value → HPred) (first : Bool) (k : List Item) (r : Regs) (ds : List Deferred) : HPred := Sx.den Tryz.prog 65 (RQ Tryz.prog Tryz.f66.results.toList R) f66.cuts f66.plans 1000 first k r ds
def f66.b4 (R : Value → HPred) (x0 x1 x5 x6 x7 : Value) : HPred :=
  opt (pureRun Tryz.prog (bltN .len #[22] 3 #[false] [x6])) fun v1 =>
  opt (binV Tryz.prog .lss 3 (Go.Operand.tmp 15) (Go.Operand.tmp 17) x7 v1) fun v2 =>
  cnd v2
  (opt (idxS x6 x7 1) fun v3 =>
  rd (cellP v3) fun v4 =>
  callF Tryz.prog 45 [x0, v4] fun v5 =>
  opt (nilV v5) fun v6 =>
  opt (offV v6 6) fun v7 =>
  opt (idxA v7 (.int .i64 1) 2 1) fun v8 =>
  rd (cellP v8) fun v9 =>
  callF Tryz.prog 90 [v5, v9] fun v10 =>
  opt (pureRun Tryz.prog (Op.unary .not v10)) fun v11 =>
  cnd v11
  (opt (nilV v5) fun v12 =>
  opt (offV v12 6) fun v13 =>
  opt (idxA v13 (.int .i64 0) 2 1) fun v14 =>
  rd (cellP v14) fun v15 =>
  f66.at10 R x0 x1 x5 x6 x7 v15)
  (f66.at10 R x0 x1 x5 x6 x7 v9))
  (R x5)
theorem f66.b4_eq : (fun (R : Value → HPred) (x0 x1 x5 x6 x7 : Value) (r : Regs) => f66.den R true (stk Tryz.f66 4) (over [0, 1, 5, 6, 7] [x0, x1, x5, x6, x7] r) []) = (fun (R : Value → HPred) (x0 x1 x5 x6 x7 : Value) (_ : Regs) => f66.b4 R x0 x1 x5 x6 x7) := by kernel_rfl
theorem f66.b4_ok {R : Value → HPred} {x0 x1 x5 x6 x7 : Value} {H : Hp} (h : f66.b4 R x0 x1 x5 x6 x7 H) : f66.at4 R x0 x1 x5 x6 x7 H :=
  At.of_den mixed (f := 1000) (cuts := f66.cuts) (plans := f66.plans) fun r => Eq.mpr (congrFun (congrFun (congrFun (congrFun (congrFun (congrFun (congrFun (congrFun (f66.b4_eq) R) x0) x1) x5) x6) x7) r) H) h
def f66.b10 (R : Value → HPred) (x0 x1 x5 x6 x7 x9 : Value) : HPred :=
  opt (idxS x6 x7 1) fun v1 =>
  rd (cellP v1) fun v2 =>
  opt (pureRun Tryz.prog (Instr.build 149 #[(0, v2), (1, x9)])) fun v3 =>
  tot Tryz.prog (Instr.buildSlice 147 1 #[(0, v3)]) fun v4 =>
  blt Tryz.prog .append #[147, 147] 147 #[false, false] [x5, v4] fun v5 =>
  opt (nilV x0) fun v6 =>
  opt (offV v6 2) fun v7 =>
  opt (idxS x6 x7 1) fun v8 =>
  rd (cellP v8) fun v9 =>
  opt (nilV x0) fun v10 =>
  opt (offV v10 0) fun v11 =>
  rd (cellP v11) fun v12 =>
  opt (binV Tryz.prog .add 3 (Go.Operand.tmp 57) (Go.Operand.tmp 61) x1 v12) fun v13 =>
  callF Tryz.prog 91 [v7, v9, v13] fun v14 =>
  opt (binV Tryz.prog .add 3 (Go.Operand.tmp 19) (Go.Operand.const (Go.Value.int Go.IntKind.i64 1)) x7 (.int .i64 1)) fun v15 =>
  f66.at4 R x0 x1 v5 x6 v15
theorem f66.b10_eq : (fun (R : Value → HPred) (x0 x1 x5 x6 x7 x9 : Value) (r : Regs) => f66.den R true (stk Tryz.f66 10) (over [0, 1, 5, 6, 7, 9] [x0, x1, x5, x6, x7, x9] r) []) = (fun (R : Value → HPred) (x0 x1 x5 x6 x7 x9 : Value) (_ : Regs) => f66.b10 R x0 x1 x5 x6 x7 x9) := by kernel_rfl
theorem f66.b10_ok {R : Value → HPred} {x0 x1 x5 x6 x7 x9 : Value} {H : Hp} (h : f66.b10 R x0 x1 x5 x6 x7 x9 H) : f66.at10 R x0 x1 x5 x6 x7 x9 H :=
  At.of_den mixed (f := 1000) (cuts := f66.cuts) (plans := f66.plans) fun r => Eq.mpr (congrFun (congrFun (congrFun (congrFun (congrFun (congrFun (congrFun (congrFun (congrFun (f66.b10_eq) R) x0) x1) x5) x6) x7) x9) r) H) h
def f66.b (R : Value → HPred) (x0 x1 : Value) : HPred :=
  opt (nilV x0) fun v1 =>
  opt (offV v1 2) fun v2 =>
  callF Tryz.prog 89 [v2, x1] fun v3 =>
  f66.at4 R x0 x1 (.slice none 0 0) v3 (.int .i64 0)
theorem f66.b_eq : (fun (R : Value → HPred) (x0 x1 : Value) => f66.den R false (bodyOf Tryz.f66) (regsOf [x0, x1]) []) = (fun (R : Value → HPred) (x0 x1 : Value) => f66.b R x0 x1) := by kernel_rfl
theorem f66.call {R : Value → HPred} {x0 x1 : Value} {H : Hp} (h : f66.b R x0 x1 H) : HC Tryz.prog 66 #[x0, x1] R H :=
  HC.of_den mixed (cuts := f66.cuts) (plans := f66.plans) (args := [x0, x1]) Tryz.func66 (by kernel_rfl) (fun w => Tryz.call66 _ w) (by kernel_rfl) (Eq.mpr (congrFun (congrFun (congrFun (congrFun (f66.b_eq) R) x0) x1) H) h)
/-! f67: gauntlet/code.Check -/
def f67.at5 (R : Value → HPred) (x0 x4 x11 x12 x13 : Value) : HPred := At Tryz.prog 37 (RQ Tryz.prog Tryz.f67.results.toList R) (stk Tryz.f67 5) [0, 4, 11, 12, 13] [x0, x4, x11, x12, x13] []
def f67.cuts : List (Nat × List Nat) := [(5, [0, 4, 11, 12, 13])]
def f67.plans : List (Nat × Plan) := [(7, (.step 0 [] (.step 1 [2, 3, 4, 5, 6, 7, 8, 9, 10, 11, 12, 13, 14, 15, 16] (.act 2 (.step 3 [] (.step 4 [] (.step 5 [] (.step 6 [7, 8, 9, 14, 15, 16] (.step 7 [] (.step 8 [] (.step 9 [14, 15, 16] (.step 10 [] (.step 11 [14, 15, 16] (.step 12 [] (.step 13 [] (.act 14 (.step 15 [] (.step 16 [] .done))))))))))))))))))]
def f67.den (R : Value → HPred) (first : Bool) (k : List Item) (r : Regs) (ds : List Deferred) : HPred := Sx.den Tryz.prog 37 (RQ Tryz.prog Tryz.f67.results.toList R) f67.cuts f67.plans 1000 first k r ds
def f67.b5 (R : Value → HPred) (x0 x4 x11 x12 x13 : Value) : HPred :=
  opt (binV Tryz.prog .lss 3 (Go.Operand.tmp 13) (Go.Operand.tmp 12) x13 x12) fun v1 =>
  cnd v1
  (opt (idxS x11 x13 2) fun v2 =>
  rd (cellsP v2 2) fun v3 =>
  newC #[(.int .i64 0), (.int .i64 0)] 101 fun v4 =>
  stA v4 2 v3 <|
  opt (offV v4 0) fun v5 =>
  rd (cellP v5) fun v6 =>
  callF Tryz.prog 93 [v6] fun v7 =>
  opt (pureRun Tryz.prog (Op.unary .not v7)) fun v8 =>
  grdK v8 false (fun c => opt (offV v4 0) c) fun v9 =>
  grdK v8 false (fun c => rd (cellP v9) c) fun v10 =>
  grdK v8 false (fun c => opt (idxA x4 v10 23 3) c) fun v11 =>
  grdK v8 false (fun c => opt (offV v11 2) c) fun v12 =>
  grdK v8 false (fun c => rd (cellP v12) c) fun v13 =>
  grdK v8 false (fun c => opt (offV v4 1) c) fun v14 =>
  grdK v8 false (fun c => rd (cellP v14) c) fun v15 =>
  grdK v8 false (fun c => c x0) fun v16 =>
  grdK v8 false (fun c => opt (pureRun Tryz.prog (bltN .len #[33] 3 #[false] [v16])) c) fun v17 =>
  grdK v8 false (fun c18 => callV Tryz.prog v13 [v15, v17] fun v19 =>
  c18 v19) fun v20 =>
  grdK v8 false (fun c => opt (pureRun Tryz.prog (Op.unary .not v20)) c) fun v21 =>
  opt (pickV v8 (.bool true) v21) fun v22 =>
  cnd v22
  (R (.tuple #[x13, (.int .i64 3)]))
  (opt (binV Tryz.prog .add 3 (Go.Operand.tmp 13) (Go.Operand.const (Go.Value.int Go.IntKind.i64 1)) x13 (.int .i64 1)) fun v23 =>
  f67.at5 R x0 x4 x11 x12 v23))
  (R (.tuple #[(.int .i64 0), (.int .i64 0)]))
theorem f67.b5_eq : (fun (R : Value → HPred) (x0 x4 x11 x12 x13 : Value) (r : Regs) => f67.den R true (stk Tryz.f67 5) (over [0, 4, 11, 12, 13] [x0, x4, x11, x12, x13] r) []) = (fun (R : Value → HPred) (x0 x4 x11 x12 x13 : Value) (_ : Regs) => f67.b5 R x0 x4 x11 x12 x13) := by kernel_rfl
theorem f67.b5_ok {R : Value → HPred} {x0 x4 x11 x12 x13 : Value} {H : Hp} (h : f67.b5 R x0 x4 x11 x12 x13 H) : f67.at5 R x0 x4 x11 x12 x13 H :=
  At.of_den mixed (f := 1000) (cuts := f67.cuts) (plans := f67.plans) fun r => Eq.mpr (congrFun (congrFun (congrFun (congrFun (congrFun (congrFun (congrFun (congrFun (f67.b5_eq) R) x0) x4) x11) x12) x13) r) H) h
def f67.b (R : Value → HPred) (x0 : Value) : HPred :=
  opt (pureRun Tryz.prog (bltN .len #[33] 3 #[false] [x0])) fun v1 =>
  opt (binV Tryz.prog .gtr 3 (Go.Operand.tmp 8) (Go.Operand.const (Go.Value.int Go.IntKind.i64 256)) v1 (.int .i64 256)) fun v2 =>
  cnd v2
  (R (.tuple #[(.int .i64 0), (.int .i64 5)]))
  (callF Tryz.prog 92 [] fun v3 =>
  newC #[(.string ⟨#[]⟩), (.bool false), .nilFunc, (.string ⟨#[]⟩), (.bool false), .nilFunc, (.string ⟨#[]⟩), (.bool false), .nilFunc, (.string ⟨#[]⟩), (.bool false), .nilFunc, (.string ⟨#[]⟩), (.bool false), .nilFunc, (.string ⟨#[]⟩), (.bool false), .nilFunc, (.string ⟨#[]⟩), (.bool false), .nilFunc, (.string ⟨#[]⟩), (.bool false), .nilFunc, (.string ⟨#[]⟩), (.bool false), .nilFunc, (.string ⟨#[]⟩), (.bool false), .nilFunc, (.string ⟨#[]⟩), (.bool false), .nilFunc, (.string ⟨#[]⟩), (.bool false), .nilFunc, (.string ⟨#[]⟩), (.bool false), .nilFunc, (.string ⟨#[]⟩), (.bool false), .nilFunc, (.string ⟨#[]⟩), (.bool false), .nilFunc, (.string ⟨#[]⟩), (.bool false), .nilFunc, (.string ⟨#[]⟩), (.bool false), .nilFunc, (.string ⟨#[]⟩), (.bool false), .nilFunc, (.string ⟨#[]⟩), (.bool false), .nilFunc, (.string ⟨#[]⟩), (.bool false), .nilFunc, (.string ⟨#[]⟩), (.bool false), .nilFunc, (.string ⟨#[]⟩), (.bool false), .nilFunc, (.string ⟨#[]⟩), (.bool false), .nilFunc] 189 fun v4 =>
  stA v4 69 v3 <|
  opt (pureRun Tryz.prog (bltN .len #[33] 3 #[false] [x0])) fun v5 =>
  f67.at5 R x0 v4 x0 v5 (.int .i64 0))
theorem f67.b_eq : (fun (R : Value → HPred) (x0 : Value) => f67.den R false (bodyOf Tryz.f67) (regsOf [x0]) []) = (fun (R : Value → HPred) (x0 : Value) => f67.b R x0) := by kernel_rfl
theorem f67.call {R : Value → HPred} {x0 : Value} {H : Hp} (h : f67.b R x0 H) : HC Tryz.prog 67 #[x0] R H :=
  HC.of_den mixed (cuts := f67.cuts) (plans := f67.plans) (args := [x0]) Tryz.func67 (by kernel_rfl) (fun w => Tryz.call67 _ w) (by kernel_rfl) (Eq.mpr (congrFun (congrFun (congrFun (f67.b_eq) R) x0) H) h)
/-! f68: (*internal/sync.Mutex).Lock -/
def f68.cuts : List (Nat × List Nat) := []
def f68.plans : List (Nat × Plan) := []
def f68.den (R : Value → HPred) (first : Bool) (k : List Item) (r : Regs) (ds : List Deferred) : HPred := Sx.den Tryz.prog 13 (RQ Tryz.prog Tryz.f68.results.toList R) f68.cuts f68.plans 1000 first k r ds
def f68.b (R : Value → HPred) (x0 : Value) : HPred :=
  callF Tryz.prog 94 [] fun v1 =>
  opt (nilV x0) fun v2 =>
  opt (offV v2 0) fun v3 =>
  callF Tryz.prog 95 [v3, (.int .i32 0), (.int .i32 1)] fun v4 =>
  cnd v4
  (cnd (.bool true)
  (callF Tryz.prog 96 [] fun v5 =>
  tot Tryz.prog (Go.convert 191 195 x0) fun v6 =>
  callF Tryz.prog 97 [v6] fun v7 =>
  R (.tuple #[]))
  (R (.tuple #[])))
  (callF Tryz.prog 98 [x0] fun v8 =>
  R (.tuple #[]))
theorem f68.b_eq : (fun (R : Value → HPred) (x0 : Value) => f68.den R false (bodyOf Tryz.f68) (regsOf [x0]) []) = (fun (R : Value → HPred) (x0 : Value) => f68.b R x0) := by kernel_rfl
theorem f68.call {R : Value → HPred} {x0 : Value} {H : Hp} (h : f68.b R x0 H) : HC Tryz.prog 68 #[x0] R H :=
  HC.of_den mixed (cuts := f68.cuts) (plans := f68.plans) (args := [x0]) Tryz.func68 (by kernel_rfl) (fun w => Tryz.call68 _ w) (by kernel_rfl) (Eq.mpr (congrFun (congrFun (congrFun (f68.b_eq) R) x0) H) h)
end Go.Proofs.YtnnheophehnioaaGreat
namespace Go.Proofs.YtnnheophehnioaaGreat
open Go.Sx Go.Proofs
set_option maxRecDepth 100000
set_option linter.unusedVariables false
/-! f69: (*internal/sync.Mutex).Unlock -/
def f69.at3 (R : Value → HPred) (x0 : Value) : HPred := At Tryz.prog 21 (RQ Tryz.prog Tryz.f69.results.toList R) (stk Tryz.f69 3) [0] [x0] []
def f69.at6 (R : Value → HPred) : HPred := At Tryz.prog 21 (RQ Tryz.prog Tryz.f69.results.toList R) (stk Tryz.f69 6) [] [] []
def f69.cuts : List (Nat × List Nat) := [(3, [0]), (6, [])]
def f69.plans : List (Nat × Plan) := []
def f69.den (R : Value → HPred) (first : Bool) (k : List Item) (r : Regs) (ds : List Deferred) : HPred := Sx.den Tryz.prog 21 (RQ Tryz.prog Tryz.f69.results.toList R) f69.cuts f69.plans 1000 first k r ds
def f69.b3 (R : Value → HPred) (x0 : Value) : HPred :=
  opt (nilV x0) fun v1 =>
  opt (offV v1 0) fun v2 =>
  callF Tryz.prog 100 [v2, (.int .i32 (-1))] fun v3 =>
  opt (binV Tryz.prog .neq 21 (Go.Operand.tmp 15) (Go.Operand.const (Go.Value.int Go.IntKind.i32 0)) v3 (.int .i32 0)) fun v4 =>
  cnd v4
  (callF Tryz.prog 101 [x0, v3] fun v5 =>
  f69.at6 R )
  (f69.at6 R )
theorem f69.b3_eq : (fun (R : Value → HPred) (x0 : Value) (r : Regs) => f69.den R true (stk Tryz.f69 3) (over [0] [x0] r) []) = (fun (R : Value → HPred) (x0 : Value) (_ : Regs) => f69.b3 R x0) := by kernel_rfl
theorem f69.b3_ok {R : Value → HPred} {x0 : Value} {H : Hp} (h : f69.b3 R x0 H) : f69.at3 R x0 H :=
  At.of_den mixed (f := 1000) (cuts := f69.cuts) (plans := f69.plans) fun r => Eq.mpr (congrFun (congrFun (congrFun (congrFun (f69.b3_eq) R) x0) r) H) h
def f69.b6 (R : Value → HPred) : HPred :=
  callF Tryz.prog 96 [] fun v1 =>
  R (.tuple #[])
theorem f69.b6_eq : (fun (R : Value → HPred) (r : Regs) => f69.den R true (stk Tryz.f69 6) (over [] [] r) []) = (fun (R : Value → HPred) (_ : Regs) => f69.b6 R ) := by kernel_rfl
theorem f69.b6_ok {R : Value → HPred} {H : Hp} (h : f69.b6 R  H) : f69.at6 R  H :=
  At.of_den mixed (f := 1000) (cuts := f69.cuts) (plans := f69.plans) fun r => Eq.mpr (congrFun (congrFun (congrFun (f69.b6_eq) R) r) H) h
def f69.b (R : Value → HPred) (x0 : Value) : HPred :=
  cnd (.bool true)
  (opt (nilV x0) fun v1 =>
  opt (offV v1 0) fun v2 =>
  rd (cellP v2) fun v3 =>
  tot Tryz.prog (Go.convert 191 195 x0) fun v4 =>
  callF Tryz.prog 99 [v4] fun v5 =>
  callF Tryz.prog 94 [] fun v6 =>
  f69.at3 R x0)
  (f69.at3 R x0)
theorem f69.b_eq : (fun (R : Value → HPred) (x0 : Value) => f69.den R false (bodyOf Tryz.f69) (regsOf [x0]) []) = (fun (R : Value → HPred) (x0 : Value) => f69.b R x0) := by kernel_rfl
theorem f69.call {R : Value → HPred} {x0 : Value} {H : Hp} (h : f69.b R x0 H) : HC Tryz.prog 69 #[x0] R H :=
  HC.of_den mixed (cuts := f69.cuts) (plans := f69.plans) (args := [x0]) Tryz.func69 (by kernel_rfl) (fun w => Tryz.call69 _ w) (by kernel_rfl) (Eq.mpr (congrFun (congrFun (congrFun (f69.b_eq) R) x0) H) h)
/-! f70: gauntlet/table.played -/
def f70.cuts : List (Nat × List Nat) := []
def f70.plans : List (Nat × Plan) := []
def f70.den (R : Value → HPred) (first : Bool) (k : List Item) (r : Regs) (ds : List Deferred) : HPred := Sx.den Tryz.prog 19 (RQ Tryz.prog Tryz.f70.results.toList R) f70.cuts f70.plans 1000 first k r ds
def f70.b (R : Value → HPred) (x0 : Value) : HPred :=
  callF Tryz.prog 56 [x0] fun v1 =>
  newC #[(.int .i64 0), (.int .i64 0), (.int .u32 0), (.int .i64 0), (.int .i64 0), (.int .i64 0), (.int .i64 0), (.bool false), (.int .i64 0), (.int .i64 0), (.bool false)] 62 fun v2 =>
  stA v2 11 v1 <|
  opt (offV v2 10) fun v3 =>
  rd (cellP v3) fun v4 =>
  grdK v4 true (fun c5 => opt (offV v2 7) fun v6 =>
  c5 v6) fun v7 =>
  grdK v4 true (fun c8 => rd (cellP v7) fun v9 =>
  c8 v9) fun v10 =>
  grdK v4 true (fun c11 => opt (pureRun Tryz.prog (Op.unary .not v10)) fun v12 =>
  c11 v12) fun v13 =>
  opt (pickV v4 v13 (.bool false)) fun v14 =>
  grdK v14 true (fun c15 => c15 x0) fun v16 =>
  grdK v14 true (fun c17 => callF Tryz.prog 50 [v16] fun v18 =>
  c17 v18) fun v19 =>
  grdK v14 true (fun c20 => opt (pureRun Tryz.prog (Instr.field 91 v19 3)) fun v21 =>
  c20 v21) fun v22 =>
  grdK v14 true (fun c23 => opt (pureRun Tryz.prog (Op.unary .not v22)) fun v24 =>
  c23 v24) fun v25 =>
  opt (pickV v14 v25 (.bool false)) fun v26 =>
  R v26
theorem f70.b_eq : (fun (R : Value → HPred) (x0 : Value) => f70.den R false (bodyOf Tryz.f70) (regsOf [x0]) []) = (fun (R : Value → HPred) (x0 : Value) => f70.b R x0) := by kernel_rfl
theorem f70.call {R : Value → HPred} {x0 : Value} {H : Hp} (h : f70.b R x0 H) : HC Tryz.prog 70 #[x0] R H :=
  HC.of_den mixed (cuts := f70.cuts) (plans := f70.plans) (args := [x0]) Tryz.func70 (by kernel_rfl) (fun w => Tryz.call70 _ w) (by kernel_rfl) (Eq.mpr (congrFun (congrFun (congrFun (f70.b_eq) R) x0) H) h)
/-! f71: (*gauntlet/timers.Timers).Set -/
def f71.at12 (R : Value → HPred) (x0 x1 x2 : Value) : HPred := At Tryz.prog 64 (RQ Tryz.prog Tryz.f71.results.toList R) (stk Tryz.f71 12) [0, 1, 2] [x0, x1, x2] []
def f71.cuts : List (Nat × List Nat) := [(12, [0, 1, 2])]
def f71.plans : List (Nat × Plan) := [(6, (.step 0 [] (.step 1 [] (.step 2 [] (.step 3 [] (.step 4 [] (.step 5 [] (.step 6 [] (.step 7 [8] (.act 8 .done))))))))))]
def f71.den (R : Value → HPred) (first : Bool) (k : List Item) (r : Regs) (ds : List Deferred) : HPred := Sx.den Tryz.prog 64 (RQ Tryz.prog Tryz.f71.results.toList R) f71.cuts f71.plans 1000 first k r ds
def f71.b12 (R : Value → HPred) (x0 x1 x2 : Value) : HPred :=
  opt (pureRun Tryz.prog (Instr.build 165 #[(0, x1), (1, x2)])) fun v1 =>
  boxM 165 v1 fun v2 =>
  opt (nilV x0) fun v3 =>
  opt (offV v3 1) fun v4 =>
  rd (cellP v4) fun v5 =>
  unitT Tryz.prog (Instr.mapUpdate 150 v5 x1 v2) fun v6 =>
  opt (nilV x0) fun v7 =>
  opt (offV v7 0) fun v8 =>
  opt (pureRun Tryz.prog (Instr.makeInterface 168 v8)) fun v9 =>
  opt (pureRun Tryz.prog (Instr.makeInterface 166 v2)) fun v10 =>
  callF Tryz.prog 103 [v9, v10] fun v11 =>
  R (.bool true)
theorem f71.b12_eq : (fun (R : Value → HPred) (x0 x1 x2 : Value) (r : Regs) => f71.den R true (stk Tryz.f71 12) (over [0, 1, 2] [x0, x1, x2] r) []) = (fun (R : Value → HPred) (x0 x1 x2 : Value) (_ : Regs) => f71.b12 R x0 x1 x2) := by kernel_rfl
theorem f71.b12_ok {R : Value → HPred} {x0 x1 x2 : Value} {H : Hp} (h : f71.b12 R x0 x1 x2 H) : f71.at12 R x0 x1 x2 H :=
  At.of_den mixed (f := 1000) (cuts := f71.cuts) (plans := f71.plans) fun r => Eq.mpr (congrFun (congrFun (congrFun (congrFun (congrFun (congrFun (f71.b12_eq) R) x0) x1) x2) r) H) h
def f71.b (R : Value → HPred) (x0 x1 x2 : Value) : HPred :=
  rd (binR Tryz.prog .eql 81 (Go.Operand.tmp 9) (Go.Operand.const (Go.Value.pointer none)) x0 (.pointer none)) fun v1 =>
  cnd v1
  (R (.bool false))
  (opt (nilV x0) fun v2 =>
  opt (offV v2 1) fun v3 =>
  rd (cellP v3) fun v4 =>
  rd (readRun Tryz.prog (Instr.lookup 150 v4 x1 false)) fun v5 =>
  rd (binR Tryz.prog .neq 166 (Go.Operand.tmp 17) (Go.Operand.const (Go.Value.pointer none)) v5 (.pointer none)) fun v6 =>
  cnd v6
  (opt (nilV v5) fun v7 =>
  opt (offV v7 1) fun v8 =>
  st v8 x2 <|
  opt (nilV x0) fun v9 =>
  opt (offV v9 0) fun v10 =>
  opt (pureRun Tryz.prog (Instr.makeInterface 168 v10)) fun v11 =>
  opt (nilV v5) fun v12 =>
  opt (offV v12 2) fun v13 =>
  rd (cellP v13) fun v14 =>
  callF Tryz.prog 102 [v11, v14] fun v15 =>
  R (.bool true))
  (opt (nilV x0) fun v16 =>
  opt (offV v16 0) fun v17 =>
  rd (cellP v17) fun v18 =>
  opt (pureRun Tryz.prog (bltN .len #[152] 3 #[false] [v18])) fun v19 =>
  opt (binV Tryz.prog .geq 3 (Go.Operand.tmp 36) (Go.Operand.const (Go.Value.int Go.IntKind.i64 4096)) v19 (.int .i64 4096)) fun v20 =>
  cnd v20
  (R (.bool false))
  (opt (nilV x0) fun v21 =>
  opt (offV v21 1) fun v22 =>
  rd (cellP v22) fun v23 =>
  opt (binV Tryz.prog .eql 150 (Go.Operand.tmp 41) (Go.Operand.const (Go.Value.map none)) v23 (.map none)) fun v24 =>
  cnd v24
  (tot Tryz.prog (Instr.makeMap 150 none) fun v25 =>
  opt (nilV x0) fun v26 =>
  opt (offV v26 1) fun v27 =>
  st v27 v25 <|
  f71.at12 R x0 x1 x2)
  (f71.at12 R x0 x1 x2))))
theorem f71.b_eq : (fun (R : Value → HPred) (x0 x1 x2 : Value) => f71.den R false (bodyOf Tryz.f71) (regsOf [x0, x1, x2]) []) = (fun (R : Value → HPred) (x0 x1 x2 : Value) => f71.b R x0 x1 x2) := by kernel_rfl
theorem f71.call {R : Value → HPred} {x0 x1 x2 : Value} {H : Hp} (h : f71.b R x0 x1 x2 H) : HC Tryz.prog 71 #[x0, x1, x2] R H :=
  HC.of_den mixed (cuts := f71.cuts) (plans := f71.plans) (args := [x0, x1, x2]) Tryz.func71 (by kernel_rfl) (fun w => Tryz.call71 _ w) (by kernel_rfl) (Eq.mpr (congrFun (congrFun (congrFun (congrFun (congrFun (f71.b_eq) R) x0) x1) x2) H) h)
/-! f74: math/bits.Len -/
def f74.cuts : List (Nat × List Nat) := []
def f74.plans : List (Nat × Plan) := []
def f74.den (R : Value → HPred) (first : Bool) (k : List Item) (r : Regs) (ds : List Deferred) : HPred := Sx.den Tryz.prog 8 (RQ Tryz.prog Tryz.f74.results.toList R) f74.cuts f74.plans 1000 first k r ds
def f74.b (R : Value → HPred) (x0 : Value) : HPred :=
  cnd (.bool false)
  (opt (pureRun Tryz.prog (Go.convert 162 60 x0)) fun v1 =>
  callF Tryz.prog 113 [v1] fun v2 =>
  R v2)
  (callF Tryz.prog 114 [x0] fun v3 =>
  R v3)
theorem f74.b_eq : (fun (R : Value → HPred) (x0 : Value) => f74.den R false (bodyOf Tryz.f74) (regsOf [x0]) []) = (fun (R : Value → HPred) (x0 : Value) => f74.b R x0) := by kernel_rfl
theorem f74.call {R : Value → HPred} {x0 : Value} {H : Hp} (h : f74.b R x0 H) : HC Tryz.prog 74 #[x0] R H :=
  HC.of_den mixed (cuts := f74.cuts) (plans := f74.plans) (args := [x0]) Tryz.func74 (by kernel_rfl) (fun w => Tryz.call74 _ w) (by kernel_rfl) (Eq.mpr (congrFun (congrFun (congrFun (f74.b_eq) R) x0) H) h)
/-! f75: (*gauntlet/timers.Timers).Len -/
def f75.cuts : List (Nat × List Nat) := []
def f75.plans : List (Nat × Plan) := []
def f75.den (R : Value → HPred) (first : Bool) (k : List Item) (r : Regs) (ds : List Deferred) : HPred := Sx.den Tryz.prog 10 (RQ Tryz.prog Tryz.f75.results.toList R) f75.cuts f75.plans 1000 first k r ds
def f75.b (R : Value → HPred) (x0 : Value) : HPred :=
  rd (binR Tryz.prog .eql 81 (Go.Operand.tmp 3) (Go.Operand.const (Go.Value.pointer none)) x0 (.pointer none)) fun v1 =>
  cnd v1
  (R (.int .i64 0))
  (opt (nilV x0) fun v2 =>
  opt (offV v2 0) fun v3 =>
  rd (cellP v3) fun v4 =>
  opt (pureRun Tryz.prog (bltN .len #[152] 3 #[false] [v4])) fun v5 =>
  R v5)
theorem f75.b_eq : (fun (R : Value → HPred) (x0 : Value) => f75.den R false (bodyOf Tryz.f75) (regsOf [x0]) []) = (fun (R : Value → HPred) (x0 : Value) => f75.b R x0) := by kernel_rfl
theorem f75.call {R : Value → HPred} {x0 : Value} {H : Hp} (h : f75.b R x0 H) : HC Tryz.prog 75 #[x0] R H :=
  HC.of_den mixed (cuts := f75.cuts) (plans := f75.plans) (args := [x0]) Tryz.func75 (by kernel_rfl) (fun w => Tryz.call75 _ w) (by kernel_rfl) (Eq.mpr (congrFun (congrFun (congrFun (f75.b_eq) R) x0) H) h)
/-! f76: (*gauntlet/contest.Contest).Owes -/
def f76.cuts : List (Nat × List Nat) := []
def f76.plans : List (Nat × Plan) := [(4, (.step 0 [] (.step 1 [] (.step 2 [] (.step 3 [] (.step 4 [] (.step 5 [] (.step 6 [] (.step 7 [] (.step 8 [] (.step 9 [18, 19, 20] (.step 10 [] (.step 11 [] (.step 12 [] (.step 13 [] (.step 14 [] (.step 15 [] (.step 16 [] (.step 17 [18, 19, 20] (.step 18 [] (.step 19 [] (.step 20 [] .done))))))))))))))))))))))]
def f76.den (R : Value → HPred) (first : Bool) (k : List Item) (r : Regs) (ds : List Deferred) : HPred := Sx.den Tryz.prog 43 (RQ Tryz.prog Tryz.f76.results.toList R) f76.cuts f76.plans 1000 first k r ds
def f76.b (R : Value → HPred) (x0 x1 : Value) : HPred :=
  rd (binR Tryz.prog .eql 30 (Go.Operand.tmp 6) (Go.Operand.const (Go.Value.pointer none)) x0 (.pointer none)) fun v1 =>
  grdK v1 false (fun c2 => c2 x0) fun v3 =>
  grdK v1 false (fun c4 => opt (nilV v3) fun v5 =>
  c4 v5) fun v6 =>
  grdK v1 false (fun c7 => opt (offV v6 3) fun v8 =>
  c7 v8) fun v9 =>
  grdK v1 false (fun c10 => opt (offV v9 10) fun v11 =>
  c10 v11) fun v12 =>
  grdK v1 false (fun c13 => rd (cellP v12) fun v14 =>
  c13 v14) fun v15 =>
  grdK v1 false (fun c16 => opt (pureRun Tryz.prog (Op.unary .not v15)) fun v17 =>
  c16 v17) fun v18 =>
  opt (pickV v1 (.bool true) v18) fun v19 =>
  grdK v19 false (fun c20 => c20 x0) fun v21 =>
  grdK v19 false (fun c22 => callF Tryz.prog 115 [v21] fun v23 =>
  c22 v23) fun v24 =>
  opt (pickV v19 (.bool true) v24) fun v25 =>
  cnd v25
  (R (.bool false))
  (callF Tryz.prog 116 [x0, x1] fun v26 =>
  opt (binV Tryz.prog .geq 3 (Go.Operand.tmp 23) (Go.Operand.const (Go.Value.int Go.IntKind.i64 0)) v26 (.int .i64 0)) fun v27 =>
  grdK v27 true (fun c => c x0) fun v28 =>
  grdK v27 true (fun c => c v26) fun v29 =>
  grdK v27 true (fun c => opt (nilV v28) c) fun v30 =>
  grdK v27 true (fun c => opt (offV v30 3) c) fun v31 =>
  grdK v27 true (fun c => opt (offV v31 5) c) fun v32 =>
  grdK v27 true (fun c => opt (idxA v32 v29 2 1) c) fun v33 =>
  grdK v27 true (fun c => rd (cellP v33) c) fun v34 =>
  grdK v27 true (fun c => c x0) fun v35 =>
  grdK v27 true (fun c => c v26) fun v36 =>
  grdK v27 true (fun c => opt (binV Tryz.prog .sub 3 (Go.Operand.const (Go.Value.int Go.IntKind.i64 1)) (Go.Operand.tmp 34) (.int .i64 1) v36) c) fun v37 =>
  grdK v27 true (fun c => opt (nilV v35) c) fun v38 =>
  grdK v27 true (fun c => opt (offV v38 3) c) fun v39 =>
  grdK v27 true (fun c => opt (offV v39 5) c) fun v40 =>
  grdK v27 true (fun c => opt (idxA v40 v37 2 1) c) fun v41 =>
  grdK v27 true (fun c => rd (cellP v41) c) fun v42 =>
  grdK v27 true (fun c => opt (binV Tryz.prog .leq 3 (Go.Operand.tmp 32) (Go.Operand.tmp 40) v34 v42) c) fun v43 =>
  opt (pickV v27 v43 (.bool false)) fun v44 =>
  R v44)
theorem f76.b_eq : (fun (R : Value → HPred) (x0 x1 : Value) => f76.den R false (bodyOf Tryz.f76) (regsOf [x0, x1]) []) = (fun (R : Value → HPred) (x0 x1 : Value) => f76.b R x0 x1) := by kernel_rfl
theorem f76.call {R : Value → HPred} {x0 x1 : Value} {H : Hp} (h : f76.b R x0 x1 H) : HC Tryz.prog 76 #[x0, x1] R H :=
  HC.of_den mixed (cuts := f76.cuts) (plans := f76.plans) (args := [x0, x1]) Tryz.func76 (by kernel_rfl) (fun w => Tryz.call76 _ w) (by kernel_rfl) (Eq.mpr (congrFun (congrFun (congrFun (congrFun (f76.b_eq) R) x0) x1) H) h)
/-! f77: container/heap.Remove -/
def f77.at6 (R : Value → HPred) (x0 : Value) : HPred := At Tryz.prog 26 (RQ Tryz.prog Tryz.f77.results.toList R) (stk Tryz.f77 6) [0] [x0] []
def f77.cuts : List (Nat × List Nat) := [(6, [0])]
def f77.plans : List (Nat × Plan) := []
def f77.den (R : Value → HPred) (first : Bool) (k : List Item) (r : Regs) (ds : List Deferred) : HPred := Sx.den Tryz.prog 26 (RQ Tryz.prog Tryz.f77.results.toList R) f77.cuts f77.plans 1000 first k r ds
def f77.b6 (R : Value → HPred) (x0 : Value) : HPred :=
  callI Tryz.prog x0 "Pop" [] fun v1 =>
  R v1
theorem f77.b6_eq : (fun (R : Value → HPred) (x0 : Value) (r : Regs) => f77.den R true (stk Tryz.f77 6) (over [0] [x0] r) []) = (fun (R : Value → HPred) (x0 : Value) (_ : Regs) => f77.b6 R x0) := by kernel_rfl
theorem f77.b6_ok {R : Value → HPred} {x0 : Value} {H : Hp} (h : f77.b6 R x0 H) : f77.at6 R x0 H :=
  At.of_den mixed (f := 1000) (cuts := f77.cuts) (plans := f77.plans) fun r => Eq.mpr (congrFun (congrFun (congrFun (congrFun (f77.b6_eq) R) x0) r) H) h
def f77.b (R : Value → HPred) (x0 x1 : Value) : HPred :=
  callI Tryz.prog x0 "Len" [] fun v1 =>
  opt (binV Tryz.prog .sub 3 (Go.Operand.tmp 7) (Go.Operand.const (Go.Value.int Go.IntKind.i64 1)) v1 (.int .i64 1)) fun v2 =>
  opt (binV Tryz.prog .neq 3 (Go.Operand.tmp 9) (Go.Operand.tmp 10) v2 x1) fun v3 =>
  cnd v3
  (callI Tryz.prog x0 "Swap" [x1, v2] fun v4 =>
  callF Tryz.prog 117 [x0, x1, v2] fun v5 =>
  opt (pureRun Tryz.prog (Op.unary .not v5)) fun v6 =>
  cnd v6
  (callF Tryz.prog 118 [x0, x1] fun v7 =>
  f77.at6 R x0)
  (f77.at6 R x0))
  (f77.at6 R x0)
theorem f77.b_eq : (fun (R : Value → HPred) (x0 x1 : Value) => f77.den R false (bodyOf Tryz.f77) (regsOf [x0, x1]) []) = (fun (R : Value → HPred) (x0 x1 : Value) => f77.b R x0 x1) := by kernel_rfl
theorem f77.call {R : Value → HPred} {x0 x1 : Value} {H : Hp} (h : f77.b R x0 x1 H) : HC Tryz.prog 77 #[x0, x1] R H :=
  HC.of_den mixed (cuts := f77.cuts) (plans := f77.plans) (args := [x0, x1]) Tryz.func77 (by kernel_rfl) (fun w => Tryz.call77 _ w) (by kernel_rfl) (Eq.mpr (congrFun (congrFun (congrFun (congrFun (f77.b_eq) R) x0) x1) H) h)
/-! f78: slices.pdqsortCmpFunc[gauntlet/table.due] -/
def f78.at2 (R : Value → HPred) (x0 x1 x2 x3 x4 x10 x11 : Value) : HPred := At Tryz.prog 148 (RQ Tryz.prog Tryz.f78.results.toList R) (stk Tryz.f78 2) [0, 1, 2, 3, 4, 10, 11] [x0, x1, x2, x3, x4, x10, x11] []
def f78.at10 (R : Value → HPred) (x0 x1 x2 x3 x4 x10 x11 x12 : Value) : HPred := At Tryz.prog 148 (RQ Tryz.prog Tryz.f78.results.toList R) (stk Tryz.f78 10) [0, 1, 2, 3, 4, 10, 11, 12] [x0, x1, x2, x3, x4, x10, x11, x12] []
def f78.at15 (R : Value → HPred) (x0 x1 x2 x3 x4 x10 x11 x12 x13 x14 : Value) : HPred := At Tryz.prog 148 (RQ Tryz.prog Tryz.f78.results.toList R) (stk Tryz.f78 15) [0, 1, 2, 3, 4, 10, 11, 12, 13, 14] [x0, x1, x2, x3, x4, x10, x11, x12, x13, x14] []
def f78.at17 (R : Value → HPred) (x0 x1 x2 x3 x4 x10 x11 x12 x13 : Value) : HPred := At Tryz.prog 148 (RQ Tryz.prog Tryz.f78.results.toList R) (stk Tryz.f78 17) [0, 1, 2, 3, 4, 10, 11, 12, 13] [x0, x1, x2, x3, x4, x10, x11, x12, x13] []
def f78.cuts : List (Nat × List Nat) := [(2, [0, 1, 2, 3, 4, 10, 11]), (10, [0, 1, 2, 3, 4, 10, 11, 12]), (15, [0, 1, 2, 3, 4, 10, 11, 12, 13, 14]), (17, [0, 1, 2, 3, 4, 10, 11, 12, 13])]
def f78.plans : List (Nat × Plan) := [(17, (.step 0 [] (.step 1 [] (.step 2 [] (.step 3 [] (.step 4 [] (.step 5 [] (.step 6 [] (.step 7 [] (.step 8 [13, 14, 15, 16] (.step 9 [] (.step 10 [] (.step 11 [] (.step 12 [13, 14, 15, 16] (.act 13 (.step 14 [] (.step 15 [] (.step 16 [] .done))))))))))))))))))]
def f78.den (R : Value → HPred) (first : Bool) (k : List Item) (r : Regs) (ds : List Deferred) : HPred := Sx.den Tryz.prog 148 (RQ Tryz.prog Tryz.f78.results.toList R) f78.cuts f78.plans 1000 first k r ds
def f78.b2 (R : Value → HPred) (x0 x1 x2 x3 x4 x10 x11 : Value) : HPred :=
  opt (binV Tryz.prog .sub 3 (Go.Operand.tmp 21) (Go.Operand.tmp 22) x2 x1) fun v1 =>
  opt (binV Tryz.prog .leq 3 (Go.Operand.tmp 24) (Go.Operand.const (Go.Value.int Go.IntKind.i64 12)) v1 (.int .i64 12)) fun v2 =>
  cnd v2
  (callF Tryz.prog 119 [x0, x1, x2, x4] fun v3 =>
  R (.tuple #[]))
  (opt (binV Tryz.prog .eql 3 (Go.Operand.tmp 31) (Go.Operand.const (Go.Value.int Go.IntKind.i64 0)) x3 (.int .i64 0)) fun v4 =>
  cnd v4
  (callF Tryz.prog 120 [x0, x1, x2, x4] fun v5 =>
  R (.tuple #[]))
  (opt (pureRun Tryz.prog (Op.unary .not x10)) fun v6 =>
  cnd v6
  (callF Tryz.prog 121 [x0, x1, x2, x4] fun v7 =>
  opt (binV Tryz.prog .sub 3 (Go.Operand.tmp 45) (Go.Operand.const (Go.Value.int Go.IntKind.i64 1)) x3 (.int .i64 1)) fun v8 =>
  f78.at10 R x0 x1 x2 v8 x4 x10 x11 v1)
  (f78.at10 R x0 x1 x2 x3 x4 x10 x11 v1)))
theorem f78.b2_eq : (fun (R : Value → HPred) (x0 x1 x2 x3 x4 x10 x11 : Value) (r : Regs) => f78.den R true (stk Tryz.f78 2) (over [0, 1, 2, 3, 4, 10, 11] [x0, x1, x2, x3, x4, x10, x11] r) []) = (fun (R : Value → HPred) (x0 x1 x2 x3 x4 x10 x11 : Value) (_ : Regs) => f78.b2 R x0 x1 x2 x3 x4 x10 x11) := by kernel_rfl
theorem f78.b2_ok {R : Value → HPred} {x0 x1 x2 x3 x4 x10 x11 : Value} {H : Hp} (h : f78.b2 R x0 x1 x2 x3 x4 x10 x11 H) : f78.at2 R x0 x1 x2 x3 x4 x10 x11 H :=
  At.of_den mixed (f := 1000) (cuts := f78.cuts) (plans := f78.plans) fun r => Eq.mpr (congrFun (congrFun (congrFun (congrFun (congrFun (congrFun (congrFun (congrFun (congrFun (congrFun (f78.b2_eq) R) x0) x1) x2) x3) x4) x10) x11) r) H) h
def f78.b10 (R : Value → HPred) (x0 x1 x2 x3 x4 x10 x11 x12 : Value) : HPred :=
  callF Tryz.prog 122 [x0, x1, x2, x4] fun v1 =>
  opt (extV v1 0) fun v2 =>
  opt (extV v1 1) fun v3 =>
  opt (binV Tryz.prog .eql 201 (Go.Operand.tmp 55) (Go.Operand.const (Go.Value.int Go.IntKind.i64 2)) v3 (.int .i64 2)) fun v4 =>
  cnd v4
  (callF Tryz.prog 123 [x0, x1, x2, x4] fun v5 =>
  opt (binV Tryz.prog .sub 3 (Go.Operand.tmp 62) (Go.Operand.const (Go.Value.int Go.IntKind.i64 1)) x2 (.int .i64 1)) fun v6 =>
  opt (binV Tryz.prog .sub 3 (Go.Operand.tmp 64) (Go.Operand.tmp 65) v2 x1) fun v7 =>
  opt (binV Tryz.prog .sub 3 (Go.Operand.tmp 63) (Go.Operand.tmp 66) v6 v7) fun v8 =>
  f78.at15 R x0 x1 x2 x3 x4 x10 x11 x12 v8 (.int .i64 1))
  (f78.at15 R x0 x1 x2 x3 x4 x10 x11 x12 v2 v3)
theorem f78.b10_eq : (fun (R : Value → HPred) (x0 x1 x2 x3 x4 x10 x11 x12 : Value) (r : Regs) => f78.den R true (stk Tryz.f78 10) (over [0, 1, 2, 3, 4, 10, 11, 12] [x0, x1, x2, x3, x4, x10, x11, x12] r) []) = (fun (R : Value → HPred) (x0 x1 x2 x3 x4 x10 x11 x12 : Value) (_ : Regs) => f78.b10 R x0 x1 x2 x3 x4 x10 x11 x12) := by kernel_rfl
theorem f78.b10_ok {R : Value → HPred} {x0 x1 x2 x3 x4 x10 x11 x12 : Value} {H : Hp} (h : f78.b10 R x0 x1 x2 x3 x4 x10 x11 x12 H) : f78.at10 R x0 x1 x2 x3 x4 x10 x11 x12 H :=
  At.of_den mixed (f := 1000) (cuts := f78.cuts) (plans := f78.plans) fun r => Eq.mpr (congrFun (congrFun (congrFun (congrFun (congrFun (congrFun (congrFun (congrFun (congrFun (congrFun (congrFun (f78.b10_eq) R) x0) x1) x2) x3) x4) x10) x11) x12) r) H) h
def f78.b15 (R : Value → HPred) (x0 x1 x2 x3 x4 x10 x11 x12 x13 x14 : Value) : HPred :=
  grdK x10 true (fun c1 => c1 x11) fun v2 =>
  opt (pickV x10 v2 (.bool false)) fun v3 =>
  grdK v3 true (fun c4 => c4 x14) fun v5 =>
  grdK v3 true (fun c6 => opt (binV Tryz.prog .eql 201 (Go.Operand.tmp 73) (Go.Operand.const (Go.Value.int Go.IntKind.i64 1)) v5 (.int .i64 1)) fun v7 =>
  c6 v7) fun v8 =>
  opt (pickV v3 v8 (.bool false)) fun v9 =>
  cnd v9
  (callF Tryz.prog 124 [x0, x1, x2, x4] fun v10 =>
  cnd v10
  (R (.tuple #[]))
  (f78.at17 R x0 x1 x2 x3 x4 x10 x11 x12 x13))
  (f78.at17 R x0 x1 x2 x3 x4 x10 x11 x12 x13)
theorem f78.b15_eq : (fun (R : Value → HPred) (x0 x1 x2 x3 x4 x10 x11 x12 x13 x14 : Value) (r : Regs) => f78.den R true (stk Tryz.f78 15) (over [0, 1, 2, 3, 4, 10, 11, 12, 13, 14] [x0, x1, x2, x3, x4, x10, x11, x12, x13, x14] r) []) = (fun (R : Value → HPred) (x0 x1 x2 x3 x4 x10 x11 x12 x13 x14 : Value) (_ : Regs) => f78.b15 R x0 x1 x2 x3 x4 x10 x11 x12 x13 x14) := by kernel_rfl
theorem f78.b15_ok {R : Value → HPred} {x0 x1 x2 x3 x4 x10 x11 x12 x13 x14 : Value} {H : Hp} (h : f78.b15 R x0 x1 x2 x3 x4 x10 x11 x12 x13 x14 H) : f78.at15 R x0 x1 x2 x3 x4 x10 x11 x12 x13 x14 H :=
  At.of_den mixed (f := 1000) (cuts := f78.cuts) (plans := f78.plans) fun r => Eq.mpr (congrFun (congrFun (congrFun (congrFun (congrFun (congrFun (congrFun (congrFun (congrFun (congrFun (congrFun (congrFun (congrFun (f78.b15_eq) R) x0) x1) x2) x3) x4) x10) x11) x12) x13) x14) r) H) h
def f78.b17 (R : Value → HPred) (x0 x1 x2 x3 x4 x10 x11 x12 x13 : Value) : HPred :=
  opt (binV Tryz.prog .gtr 3 (Go.Operand.tmp 81) (Go.Operand.const (Go.Value.int Go.IntKind.i64 0)) x1 (.int .i64 0)) fun v1 =>
  grdK v1 true (fun c => c x4) fun v2 =>
  grdK v1 true (fun c => c x0) fun v3 =>
  grdK v1 true (fun c => c x1) fun v4 =>
  grdK v1 true (fun c => opt (binV Tryz.prog .sub 3 (Go.Operand.tmp 86) (Go.Operand.const (Go.Value.int Go.IntKind.i64 1)) v4 (.int .i64 1)) c) fun v5 =>
  grdK v1 true (fun c => opt (idxS v3 v5 3) c) fun v6 =>
  grdK v1 true (fun c => rd (cellsP v6 3) c) fun v7 =>
  grdK v1 true (fun c => c x0) fun v8 =>
  grdK v1 true (fun c => c x13) fun v9 =>
  grdK v1 true (fun c => opt (idxS v8 v9 3) c) fun v10 =>
  grdK v1 true (fun c => rd (cellsP v10 3) c) fun v11 =>
  grdK v1 true (fun c12 => callV Tryz.prog v2 [v7, v11] fun v13 =>
  c12 v13) fun v14 =>
  grdK v1 true (fun c => opt (binV Tryz.prog .lss 3 (Go.Operand.tmp 94) (Go.Operand.const (Go.Value.int Go.IntKind.i64 0)) v14 (.int .i64 0)) c) fun v15 =>
  grdK v1 true (fun c => opt (pureRun Tryz.prog (Op.unary .not v15)) c) fun v16 =>
  opt (pickV v1 v16 (.bool false)) fun v17 =>
  cnd v17
  (callF Tryz.prog 125 [x0, x1, x2, x13, x4] fun v18 =>
  f78.at2 R x0 v18 x2 x3 x4 x10 x11)
  (callF Tryz.prog 126 [x0, x1, x2, x13, x4] fun v19 =>
  opt (extV v19 0) fun v20 =>
  opt (extV v19 1) fun v21 =>
  opt (binV Tryz.prog .sub 3 (Go.Operand.tmp 115) (Go.Operand.tmp 116) v20 x1) fun v22 =>
  opt (binV Tryz.prog .sub 3 (Go.Operand.tmp 118) (Go.Operand.tmp 119) x2 v20) fun v23 =>
  opt (binV Tryz.prog .quo 3 (Go.Operand.tmp 121) (Go.Operand.const (Go.Value.int Go.IntKind.i64 8)) x12 (.int .i64 8)) fun v24 =>
  opt (binV Tryz.prog .lss 3 (Go.Operand.tmp 123) (Go.Operand.tmp 124) v22 v23) fun v25 =>
  cnd v25
  (opt (binV Tryz.prog .geq 3 (Go.Operand.tmp 126) (Go.Operand.tmp 127) v22 v24) fun v26 =>
  callF Tryz.prog 78 [x0, x1, v20, x3, x4] fun v27 =>
  opt (binV Tryz.prog .add 3 (Go.Operand.tmp 135) (Go.Operand.const (Go.Value.int Go.IntKind.i64 1)) v20 (.int .i64 1)) fun v28 =>
  f78.at2 R x0 v28 x2 x3 x4 v26 v21)
  (opt (binV Tryz.prog .geq 3 (Go.Operand.tmp 137) (Go.Operand.tmp 138) v23 v24) fun v29 =>
  opt (binV Tryz.prog .add 3 (Go.Operand.tmp 141) (Go.Operand.const (Go.Value.int Go.IntKind.i64 1)) v20 (.int .i64 1)) fun v30 =>
  callF Tryz.prog 78 [x0, v30, x2, x3, x4] fun v31 =>
  f78.at2 R x0 x1 v20 x3 x4 v29 v21))
theorem f78.b17_eq : (fun (R : Value → HPred) (x0 x1 x2 x3 x4 x10 x11 x12 x13 : Value) (r : Regs) => f78.den R true (stk Tryz.f78 17) (over [0, 1, 2, 3, 4, 10, 11, 12, 13] [x0, x1, x2, x3, x4, x10, x11, x12, x13] r) []) = (fun (R : Value → HPred) (x0 x1 x2 x3 x4 x10 x11 x12 x13 : Value) (_ : Regs) => f78.b17 R x0 x1 x2 x3 x4 x10 x11 x12 x13) := by kernel_rfl
theorem f78.b17_ok {R : Value → HPred} {x0 x1 x2 x3 x4 x10 x11 x12 x13 : Value} {H : Hp} (h : f78.b17 R x0 x1 x2 x3 x4 x10 x11 x12 x13 H) : f78.at17 R x0 x1 x2 x3 x4 x10 x11 x12 x13 H :=
  At.of_den mixed (f := 1000) (cuts := f78.cuts) (plans := f78.plans) fun r => Eq.mpr (congrFun (congrFun (congrFun (congrFun (congrFun (congrFun (congrFun (congrFun (congrFun (congrFun (congrFun (congrFun (f78.b17_eq) R) x0) x1) x2) x3) x4) x10) x11) x12) x13) r) H) h
def f78.b (R : Value → HPred) (x0 x1 x2 x3 x4 : Value) : HPred :=
  f78.at2 R x0 x1 x2 x3 x4 (.bool true) (.bool true)
theorem f78.b_eq : (fun (R : Value → HPred) (x0 x1 x2 x3 x4 : Value) => f78.den R false (bodyOf Tryz.f78) (regsOf [x0, x1, x2, x3, x4]) []) = (fun (R : Value → HPred) (x0 x1 x2 x3 x4 : Value) => f78.b R x0 x1 x2 x3 x4) := by kernel_rfl
theorem f78.call {R : Value → HPred} {x0 x1 x2 x3 x4 : Value} {H : Hp} (h : f78.b R x0 x1 x2 x3 x4 H) : HC Tryz.prog 78 #[x0, x1, x2, x3, x4] R H :=
  HC.of_den mixed (cuts := f78.cuts) (plans := f78.plans) (args := [x0, x1, x2, x3, x4]) Tryz.func78 (by kernel_rfl) (fun w => Tryz.call78 _ w) (by kernel_rfl) (Eq.mpr (congrFun (congrFun (congrFun (congrFun (congrFun (congrFun (congrFun (f78.b_eq) R) x0) x1) x2) x3) x4) H) h)
/-! f80: (*gauntlet/gauntletref6.Timers).Cancel -/
def f80.cuts : List (Nat × List Nat) := []
def f80.plans : List (Nat × Plan) := [(5, (.step 0 [] (.step 2 [] (.step 3 [] (.step 4 [] (.step 5 [7, 8, 16, 17, 18, 19] (.step 6 [] (.step 7 [] (.step 9 [] (.step 10 [] (.step 11 [] (.step 12 [15, 16, 17, 18, 19] (.step 13 [] (.step 14 [] (.step 15 [] (.act 1 (.act 8 (.act 16 (.step 17 [] (.step 18 [] (.act 19 .done)))))))))))))))))))))]
def f80.den (R : Value → HPred) (first : Bool) (k : List Item) (r : Regs) (ds : List Deferred) : HPred := Sx.den Tryz.prog 41 (RQ Tryz.prog Tryz.f80.results.toList R) f80.cuts f80.plans 1000 first k r ds
def f80.b (R : Value → HPred) (x0 x1 : Value) : HPred :=
  callF Tryz.prog 127 [x0, x1] fun v1 =>
  opt (binV Tryz.prog .lss 3 (Go.Operand.tmp 11) (Go.Operand.const (Go.Value.int Go.IntKind.i64 0)) v1 (.int .i64 0)) fun v2 =>
  cnd v2
  (R (.tuple #[(.int .i64 0), (.bool false)]))
  (opt (nilV x0) fun v3 =>
  opt (offV v3 0) fun v4 =>
  rd (cellP v4) fun v5 =>
  opt (idxS v5 v1 2) fun v6 =>
  opt (offV v6 1) fun v7 =>
  rd (cellP v7) fun v8 =>
  opt (nilV x0) fun v9 =>
  opt (offV v9 0) fun v10 =>
  rd (cellP v10) fun v11 =>
  opt (pureRun Tryz.prog (Instr.sliceAt 130 v11 none (some v1) none)) fun v12 =>
  opt (nilV x0) fun v13 =>
  opt (offV v13 0) fun v14 =>
  rd (cellP v14) fun v15 =>
  opt (binV Tryz.prog .add 3 (Go.Operand.tmp 34) (Go.Operand.const (Go.Value.int Go.IntKind.i64 1)) v1 (.int .i64 1)) fun v16 =>
  opt (pureRun Tryz.prog (Instr.sliceAt 130 v15 (some v16) none none)) fun v17 =>
  tot Tryz.prog (Instr.buildSlice 130 0 #[]) fun v18 =>
  chk (fun H => cellP v14 H = some v15) <|
  chk (fun H => cellP v10 H = some v11) <|
  blt Tryz.prog .append #[130, 130] 130 #[false, false] [v18, v12] fun v19 =>
  chk (fun H => cellP v14 H = some v15) <|
  blt Tryz.prog .append #[130, 130] 130 #[false, false] [v19, v17] fun v20 =>
  opt (nilV x0) fun v21 =>
  opt (offV v21 0) fun v22 =>
  st v22 v20 <|
  R (.tuple #[v8, (.bool true)]))
theorem f80.b_eq : (fun (R : Value → HPred) (x0 x1 : Value) => f80.den R false (bodyOf Tryz.f80) (regsOf [x0, x1]) []) = (fun (R : Value → HPred) (x0 x1 : Value) => f80.b R x0 x1) := by kernel_rfl
theorem f80.call {R : Value → HPred} {x0 x1 : Value} {H : Hp} (h : f80.b R x0 x1 H) : HC Tryz.prog 80 #[x0, x1] R H :=
  HC.of_den mixed (cuts := f80.cuts) (plans := f80.plans) (args := [x0, x1]) Tryz.func80 (by kernel_rfl) (fun w => Tryz.call80 _ w) (by kernel_rfl) (Eq.mpr (congrFun (congrFun (congrFun (congrFun (f80.b_eq) R) x0) x1) H) h)
/-! f82: gauntlet/gauntletref18.form -/
def f82.at8 (R : Value → HPred) (x1 x3 : Value) : HPred := At Tryz.prog 48 (RQ Tryz.prog Tryz.f82.results.toList R) (stk Tryz.f82 8) [1, 3] [x1, x3] []
def f82.at9 (R : Value → HPred) (x1 x3 x8 : Value) : HPred := At Tryz.prog 48 (RQ Tryz.prog Tryz.f82.results.toList R) (stk Tryz.f82 9) [1, 3, 8] [x1, x3, x8] []
def f82.at13 (R : Value → HPred) (x1 x3 : Value) : HPred := At Tryz.prog 48 (RQ Tryz.prog Tryz.f82.results.toList R) (stk Tryz.f82 13) [1, 3] [x1, x3] []
def f82.cuts : List (Nat × List Nat) := [(8, [1, 3]), (9, [1, 3, 8]), (13, [1, 3])]
def f82.plans : List (Nat × Plan) := [(5, (.step 0 [] (.step 1 [6, 7, 8, 9, 10, 11] (.step 2 [] (.step 3 [8, 9, 10, 11] (.step 4 [] (.step 5 [10, 11] (.step 6 [] (.act 7 (.step 8 [] (.act 9 (.step 10 [] (.act 11 .done))))))))))))), (10, (.step 0 [] (.step 1 [6, 7, 8, 9, 10, 11] (.step 2 [] (.step 3 [8, 9, 10, 11] (.step 4 [] (.step 5 [10, 11] (.step 6 [] (.act 7 (.step 8 [] (.act 9 (.step 10 [] (.act 11 .done))))))))))))), (12, (.step 0 [] (.step 1 [4, 5, 6, 7] (.step 2 [] (.step 3 [6, 7] (.step 4 [] (.act 5 (.step 6 [] (.act 7 .done)))))))))]
def f82.den (R : Value → HPred) (first : Bool) (k : List Item) (r : Regs) (ds : List Deferred) : HPred := Sx.den Tryz.prog 48 (RQ Tryz.prog Tryz.f82.results.toList R) f82.cuts f82.plans 1000 first k r ds
def f82.b8 (R : Value → HPred) (x1 x3 : Value) : HPred :=
  opt (offV x1 1) fun v1 =>
  rd (cellP v1) fun v2 =>
  opt (offV x3 1) fun v3 =>
  st v3 v2 <|
  f82.at13 R x1 x3
theorem f82.b8_eq : (fun (R : Value → HPred) (x1 x3 : Value) (r : Regs) => f82.den R true (stk Tryz.f82 8) (over [1, 3] [x1, x3] r) []) = (fun (R : Value → HPred) (x1 x3 : Value) (_ : Regs) => f82.b8 R x1 x3) := by kernel_rfl
theorem f82.b8_ok {R : Value → HPred} {x1 x3 : Value} {H : Hp} (h : f82.b8 R x1 x3 H) : f82.at8 R x1 x3 H :=
  At.of_den mixed (f := 1000) (cuts := f82.cuts) (plans := f82.plans) fun r => Eq.mpr (congrFun (congrFun (congrFun (congrFun (congrFun (f82.b8_eq) R) x1) x3) r) H) h
def f82.b9 (R : Value → HPred) (x1 x3 x8 : Value) : HPred :=
  opt (binV Tryz.prog .eql 3 (Go.Operand.tmp 8) (Go.Operand.const (Go.Value.int Go.IntKind.i64 3)) x8 (.int .i64 3)) fun v1 =>
  cnd v1
  (opt (offV x1 1) fun v2 =>
  rd (cellP v2) fun v3 =>
  opt (offV x1 3) fun v4 =>
  rd (cellP v4) fun v5 =>
  opt (offV x1 4) fun v6 =>
  rd (cellP v6) fun v7 =>
  opt (offV x3 1) fun v8 =>
  st v8 v3 <|
  chk (fun H => cellP v6 H = some v7) <|
  chk (fun H => cellP v4 H = some v5) <|
  opt (offV x3 3) fun v9 =>
  st v9 v5 <|
  chk (fun H => cellP v6 H = some v7) <|
  opt (offV x3 4) fun v10 =>
  st v10 v7 <|
  f82.at13 R x1 x3)
  (opt (binV Tryz.prog .eql 3 (Go.Operand.tmp 8) (Go.Operand.const (Go.Value.int Go.IntKind.i64 5)) x8 (.int .i64 5)) fun v11 =>
  cnd v11
  (opt (offV x1 1) fun v12 =>
  rd (cellP v12) fun v13 =>
  opt (offV x1 5) fun v14 =>
  rd (cellP v14) fun v15 =>
  opt (offV x3 1) fun v16 =>
  st v16 v13 <|
  chk (fun H => cellP v14 H = some v15) <|
  opt (offV x3 5) fun v17 =>
  st v17 v15 <|
  f82.at13 R x1 x3)
  (R (.bool false)))
theorem f82.b9_eq : (fun (R : Value → HPred) (x1 x3 x8 : Value) (r : Regs) => f82.den R true (stk Tryz.f82 9) (over [1, 3, 8] [x1, x3, x8] r) []) = (fun (R : Value → HPred) (x1 x3 x8 : Value) (_ : Regs) => f82.b9 R x1 x3 x8) := by kernel_rfl
theorem f82.b9_ok {R : Value → HPred} {x1 x3 x8 : Value} {H : Hp} (h : f82.b9 R x1 x3 x8 H) : f82.at9 R x1 x3 x8 H :=
  At.of_den mixed (f := 1000) (cuts := f82.cuts) (plans := f82.plans) fun r => Eq.mpr (congrFun (congrFun (congrFun (congrFun (congrFun (congrFun (f82.b9_eq) R) x1) x3) x8) r) H) h
def f82.b13 (R : Value → HPred) (x1 x3 : Value) : HPred :=
  rd (cellsP x3 6) fun v1 =>
  rd (cellsP x1 6) fun v2 =>
  opt (binV Tryz.prog .eql 53 (Go.Operand.tmp 45) (Go.Operand.tmp 46) v1 v2) fun v3 =>
  R v3
theorem f82.b13_eq : (fun (R : Value → HPred) (x1 x3 : Value) (r : Regs) => f82.den R true (stk Tryz.f82 13) (over [1, 3] [x1, x3] r) []) = (fun (R : Value → HPred) (x1 x3 : Value) (_ : Regs) => f82.b13 R x1 x3) := by kernel_rfl
theorem f82.b13_ok {R : Value → HPred} {x1 x3 : Value} {H : Hp} (h : f82.b13 R x1 x3 H) : f82.at13 R x1 x3 H :=
  At.of_den mixed (f := 1000) (cuts := f82.cuts) (plans := f82.plans) fun r => Eq.mpr (congrFun (congrFun (congrFun (congrFun (congrFun (f82.b13_eq) R) x1) x3) r) H) h
def f82.b (R : Value → HPred) (x0 : Value) : HPred :=
  boxM 53 x0 fun v1 =>
  opt (offV v1 0) fun v2 =>
  rd (cellP v2) fun v3 =>
  opt (pureRun Tryz.prog (Instr.build 53 #[(0, v3)])) fun v4 =>
  newC #[(.int .i64 0), (.int .i64 0), (.int .i64 0), (.int .i64 0), (.int .u16 0), (.int .i64 0)] 53 fun v5 =>
  stA v5 6 v4 <|
  opt (offV v1 0) fun v6 =>
  rd (cellP v6) fun v7 =>
  opt (binV Tryz.prog .eql 3 (Go.Operand.tmp 8) (Go.Operand.const (Go.Value.int Go.IntKind.i64 1)) v7 (.int .i64 1)) fun v8 =>
  cnd v8
  (opt (offV v1 1) fun v9 =>
  rd (cellP v9) fun v10 =>
  opt (offV v1 2) fun v11 =>
  rd (cellP v11) fun v12 =>
  opt (offV v1 5) fun v13 =>
  rd (cellP v13) fun v14 =>
  opt (offV v5 1) fun v15 =>
  st v15 v10 <|
  chk (fun H => cellP v13 H = some v14) <|
  chk (fun H => cellP v11 H = some v12) <|
  opt (offV v5 2) fun v16 =>
  st v16 v12 <|
  chk (fun H => cellP v13 H = some v14) <|
  opt (offV v5 5) fun v17 =>
  st v17 v14 <|
  f82.at13 R v1 v5)
  (opt (binV Tryz.prog .eql 3 (Go.Operand.tmp 8) (Go.Operand.const (Go.Value.int Go.IntKind.i64 2)) v7 (.int .i64 2)) fun v18 =>
  cnd v18
  (cnd v18
  (f82.at8 R v1 v5)
  (f82.at9 R v1 v5 v7))
  (opt (binV Tryz.prog .eql 3 (Go.Operand.tmp 8) (Go.Operand.const (Go.Value.int Go.IntKind.i64 4)) v7 (.int .i64 4)) fun v19 =>
  cnd v19
  (f82.at8 R v1 v5)
  (f82.at9 R v1 v5 v7)))
theorem f82.b_eq : (fun (R : Value → HPred) (x0 : Value) => f82.den R false (bodyOf Tryz.f82) (regsOf [x0]) []) = (fun (R : Value → HPred) (x0 : Value) => f82.b R x0) := by kernel_rfl
theorem f82.call {R : Value → HPred} {x0 : Value} {H : Hp} (h : f82.b R x0 H) : HC Tryz.prog 82 #[x0] R H :=
  HC.of_den mixed (cuts := f82.cuts) (plans := f82.plans) (args := [x0]) Tryz.func82 (by kernel_rfl) (fun w => Tryz.call82 _ w) (by kernel_rfl) (Eq.mpr (congrFun (congrFun (congrFun (f82.b_eq) R) x0) H) h)
/-! f83: (*gauntlet/gauntletref18.Contest).Seat -/
def f83.at2 (R : Value → HPred) (x0 x1 x5 : Value) : HPred := At Tryz.prog 25 (RQ Tryz.prog Tryz.f83.results.toList R) (stk Tryz.f83 2) [0, 1, 5] [x0, x1, x5] []
def f83.cuts : List (Nat × List Nat) := [(2, [0, 1, 5])]
def f83.plans : List (Nat × Plan) := []
def f83.den (R : Value → HPred) (first : Bool) (k : List Item) (r : Regs) (ds : List Deferred) : HPred := Sx.den Tryz.prog 25 (RQ Tryz.prog Tryz.f83.results.toList R) f83.cuts f83.plans 1000 first k r ds
def f83.b2 (R : Value → HPred) (x0 x1 x5 : Value) : HPred :=
  opt (nilV x0) fun v1 =>
  opt (offV v1 11) fun v2 =>
  rd (cellP v2) fun v3 =>
  grdK v3 true (fun c4 => c4 x5) fun v5 =>
  grdK v3 true (fun c6 => opt (binV Tryz.prog .lss 3 (Go.Operand.tmp 11) (Go.Operand.const (Go.Value.int Go.IntKind.i64 2)) v5 (.int .i64 2)) fun v7 =>
  c6 v7) fun v8 =>
  opt (pickV v3 v8 (.bool false)) fun v9 =>
  cnd v9
  (opt (nilV x0) fun v10 =>
  opt (offV v10 6) fun v11 =>
  opt (idxA v11 x5 2 1) fun v12 =>
  rd (cellP v12) fun v13 =>
  opt (binV Tryz.prog .eql 3 (Go.Operand.tmp 21) (Go.Operand.tmp 22) v13 x1) fun v14 =>
  cnd v14
  (R x5)
  (opt (binV Tryz.prog .add 3 (Go.Operand.tmp 14) (Go.Operand.const (Go.Value.int Go.IntKind.i64 1)) x5 (.int .i64 1)) fun v15 =>
  f83.at2 R x0 x1 v15))
  (R (.int .i64 (-1)))
theorem f83.b2_eq : (fun (R : Value → HPred) (x0 x1 x5 : Value) (r : Regs) => f83.den R true (stk Tryz.f83 2) (over [0, 1, 5] [x0, x1, x5] r) []) = (fun (R : Value → HPred) (x0 x1 x5 : Value) (_ : Regs) => f83.b2 R x0 x1 x5) := by kernel_rfl
theorem f83.b2_ok {R : Value → HPred} {x0 x1 x5 : Value} {H : Hp} (h : f83.b2 R x0 x1 x5 H) : f83.at2 R x0 x1 x5 H :=
  At.of_den mixed (f := 1000) (cuts := f83.cuts) (plans := f83.plans) fun r => Eq.mpr (congrFun (congrFun (congrFun (congrFun (congrFun (congrFun (f83.b2_eq) R) x0) x1) x5) r) H) h
def f83.b (R : Value → HPred) (x0 x1 : Value) : HPred :=
  f83.at2 R x0 x1 (.int .i64 0)
theorem f83.b_eq : (fun (R : Value → HPred) (x0 x1 : Value) => f83.den R false (bodyOf Tryz.f83) (regsOf [x0, x1]) []) = (fun (R : Value → HPred) (x0 x1 : Value) => f83.b R x0 x1) := by kernel_rfl
theorem f83.call {R : Value → HPred} {x0 x1 : Value} {H : Hp} (h : f83.b R x0 x1 H) : HC Tryz.prog 83 #[x0, x1] R H :=
  HC.of_den mixed (cuts := f83.cuts) (plans := f83.plans) (args := [x0, x1]) Tryz.func83 (by kernel_rfl) (fun w => Tryz.call83 _ w) (by kernel_rfl) (Eq.mpr (congrFun (congrFun (congrFun (congrFun (f83.b_eq) R) x0) x1) H) h)
/-! f84: (*gauntlet/gauntletref23.Table).time -/
def f84.cuts : List (Nat × List Nat) := []
def f84.plans : List (Nat × Plan) := [(1, (.step 0 [] (.step 1 [] (.step 2 [] (.step 3 [] (.step 4 [] (.step 5 [] (.step 6 [] (.step 7 [] (.step 8 [9, 10] (.step 9 [] (.act 10 .done))))))))))))]
def f84.den (R : Value → HPred) (first : Bool) (k : List Item) (r : Regs) (ds : List Deferred) : HPred := Sx.den Tryz.prog 26 (RQ Tryz.prog Tryz.f84.results.toList R) f84.cuts f84.plans 1000 first k r ds
def f84.b (R : Value → HPred) (x0 x1 x2 x3 : Value) : HPred :=
  callF Tryz.prog 128 [x2] fun v1 =>
  cnd v1
  (opt (nilV x0) fun v2 =>
  opt (offV v2 2) fun v3 =>
  opt (nilV x0) fun v4 =>
  opt (offV v4 0) fun v5 =>
  rd (cellP v5) fun v6 =>
  opt (binV Tryz.prog .add 3 (Go.Operand.tmp 14) (Go.Operand.tmp 18) x3 v6) fun v7 =>
  callF Tryz.prog 91 [v3, x1, v7] fun v8 =>
  R (.tuple #[]))
  (opt (nilV x0) fun v9 =>
  opt (offV v9 2) fun v10 =>
  callF Tryz.prog 80 [v10, x1] fun v11 =>
  R (.tuple #[]))
theorem f84.b_eq : (fun (R : Value → HPred) (x0 x1 x2 x3 : Value) => f84.den R false (bodyOf Tryz.f84) (regsOf [x0, x1, x2, x3]) []) = (fun (R : Value → HPred) (x0 x1 x2 x3 : Value) => f84.b R x0 x1 x2 x3) := by kernel_rfl
theorem f84.call {R : Value → HPred} {x0 x1 x2 x3 : Value} {H : Hp} (h : f84.b R x0 x1 x2 x3 H) : HC Tryz.prog 84 #[x0, x1, x2, x3] R H :=
  HC.of_den mixed (cuts := f84.cuts) (plans := f84.plans) (args := [x0, x1, x2, x3]) Tryz.func84 (by kernel_rfl) (fun w => Tryz.call84 _ w) (by kernel_rfl) (Eq.mpr (congrFun (congrFun (congrFun (congrFun (congrFun (congrFun (f84.b_eq) R) x0) x1) x2) x3) H) h)
/-! f85: gauntlet/gauntletref11.Play -/
def f85.cuts : List (Nat × List Nat) := []
def f85.plans : List (Nat × Plan) := []
def f85.den (R : Value → HPred) (first : Bool) (k : List Item) (r : Regs) (ds : List Deferred) : HPred := Sx.den Tryz.prog 27 (RQ Tryz.prog Tryz.f85.results.toList R) f85.cuts f85.plans 1000 first k r ds
def f85.b (R : Value → HPred) (x0 x1 x2 : Value) : HPred :=
  boxM 35 x0 fun v1 =>
  newC #[(.int .i64 0), (.int .i32 0), (.int .i32 0), (.int .i32 0), (.int .i32 0), (.int .i32 0), (.int .i32 0), (.int .i32 0), (.int .i32 0), (.int .i32 0), (.int .i32 0), (.int .i32 0), (.int .i32 0), (.int .i32 0), (.int .i32 0), (.int .i32 0), (.int .i32 0), (.int .u32 0), (.bool false), (.int .i64 0)] 91 fun v2 =>
  rd (cellsP v1 3) fun v3 =>
  callF Tryz.prog 129 [v3, x1, x2] fun v4 =>
  opt (extV v4 0) fun v5 =>
  opt (extV v4 1) fun v6 =>
  opt (binV Tryz.prog .neq 3 (Go.Operand.tmp 17) (Go.Operand.const (Go.Value.int Go.IntKind.i64 0)) v6 (.int .i64 0)) fun v7 =>
  cnd v7
  (opt (pureRun Tryz.prog (Instr.build 91 #[])) fun v8 =>
  stA v2 20 v8 <|
  rd (cellsP v2 20) fun v9 => R (.tuple #[v9, v6]))
  (opt (pureRun Tryz.prog (bltN .len #[224] 3 #[false] [v5])) fun v10 =>
  opt (binV Tryz.prog .sub 3 (Go.Operand.tmp 23) (Go.Operand.const (Go.Value.int Go.IntKind.i64 1)) v10 (.int .i64 1)) fun v11 =>
  opt (idxS v5 v11 20) fun v12 =>
  rd (cellsP v12 20) fun v13 =>
  stA v2 20 v13 <|
  rd (cellsP v2 20) fun v14 => R (.tuple #[v14, (.int .i64 0)]))
theorem f85.b_eq : (fun (R : Value → HPred) (x0 x1 x2 : Value) => f85.den R false (bodyOf Tryz.f85) (regsOf [x0, x1, x2]) []) = (fun (R : Value → HPred) (x0 x1 x2 : Value) => f85.b R x0 x1 x2) := by kernel_rfl
theorem f85.call {R : Value → HPred} {x0 x1 x2 : Value} {H : Hp} (h : f85.b R x0 x1 x2 H) : HC Tryz.prog 85 #[x0, x1, x2] R H :=
  HC.of_den mixed (cuts := f85.cuts) (plans := f85.plans) (args := [x0, x1, x2]) Tryz.func85 (by kernel_rfl) (fun w => Tryz.call85 _ w) (by kernel_rfl) (Eq.mpr (congrFun (congrFun (congrFun (congrFun (congrFun (f85.b_eq) R) x0) x1) x2) H) h)
/-! f86: (*gauntlet/gauntletref18.Contest).Pairs -/
def f86.at4 (R : Value → HPred) (x0 x3 x4 x5 : Value) : HPred := At Tryz.prog 69 (RQ Tryz.prog Tryz.f86.results.toList R) (stk Tryz.f86 4) [0, 3, 4, 5] [x0, x3, x4, x5] []
def f86.cuts : List (Nat × List Nat) := [(4, [0, 3, 4, 5])]
def f86.plans : List (Nat × Plan) := [(6, (.step 0 [] (.step 1 [] (.step 2 [] (.step 3 [] (.step 4 [6, 7, 16, 18] (.step 5 [] (.step 6 [] (.step 7 [16, 18] (.step 8 [] (.step 9 [] (.step 10 [] (.step 11 [] (.step 12 [14, 15, 16, 18] (.step 13 [] (.step 14 [] (.step 15 [16, 18] (.step 16 [] (.act 17 (.act 18 .done)))))))))))))))))))), (8, (.step 0 [] (.step 1 [] (.step 2 [] (.step 3 [6, 7, 8, 9, 10] (.step 4 [6, 7, 8, 9, 10] (.step 5 [6, 7, 8, 9, 10] (.act 6 (.step 7 [] (.step 8 [] (.step 9 [] (.act 10 .done))))))))))))]
def f86.den (R : Value → HPred) (first : Bool) (k : List Item) (r : Regs) (ds : List Deferred) : HPred := Sx.den Tryz.prog 69 (RQ Tryz.prog Tryz.f86.results.toList R) f86.cuts f86.plans 1000 first k r ds
def f86.b4 (R : Value → HPred) (x0 x3 x4 x5 : Value) : HPred :=
  opt (nilV x0) fun v1 =>
  opt (offV v1 4) fun v2 =>
  opt (idxA v2 (.int .i64 0) 2 1) fun v3 =>
  rd (cellP v3) fun v4 =>
  opt (pureRun Tryz.prog (bltN .len #[93] 3 #[false] [v4])) fun v5 =>
  opt (binV Tryz.prog .lss 3 (Go.Operand.tmp 12) (Go.Operand.tmp 18) x5 v5) fun v6 =>
  grdK v6 true (fun c7 => c7 x5) fun v8 =>
  grdK v6 true (fun c9 => c9 x0) fun v10 =>
  grdK v6 true (fun c11 => opt (nilV v10) fun v12 =>
  c11 v12) fun v13 =>
  grdK v6 true (fun c14 => opt (offV v13 4) fun v15 =>
  c14 v15) fun v16 =>
  grdK v6 true (fun c17 => opt (idxA v16 (.int .i64 1) 2 1) fun v18 =>
  c17 v18) fun v19 =>
  grdK v6 true (fun c20 => rd (cellP v19) fun v21 =>
  c20 v21) fun v22 =>
  grdK v6 true (fun c23 => opt (pureRun Tryz.prog (bltN .len #[93] 3 #[false] [v22])) fun v24 =>
  c23 v24) fun v25 =>
  grdK v6 true (fun c26 => opt (binV Tryz.prog .lss 3 (Go.Operand.tmp 21) (Go.Operand.tmp 27) v8 v25) fun v27 =>
  c26 v27) fun v28 =>
  opt (pickV v6 v28 (.bool false)) fun v29 =>
  grdK v29 true (fun c30 => opt (offV x4 18) fun v31 =>
  c30 v31) fun v32 =>
  grdK v29 true (fun c33 => rd (cellP v32) fun v34 =>
  c33 v34) fun v35 =>
  grdK v29 true (fun c36 => opt (pureRun Tryz.prog (Op.unary .not v35)) fun v37 =>
  c36 v37) fun v38 =>
  opt (pickV v29 v38 (.bool false)) fun v39 =>
  cnd v39
  (opt (nilV x0) fun v40 =>
  opt (offV v40 4) fun v41 =>
  opt (idxA v41 (.int .i64 0) 2 1) fun v42 =>
  rd (cellP v42) fun v43 =>
  opt (idxS v43 x5 1) fun v44 =>
  rd (cellP v44) fun v45 =>
  opt (nilV x0) fun v46 =>
  opt (offV v46 4) fun v47 =>
  opt (idxA v47 (.int .i64 1) 2 1) fun v48 =>
  rd (cellP v48) fun v49 =>
  opt (idxS v49 x5 1) fun v50 =>
  rd (cellP v50) fun v51 =>
  opt (pureRun Tryz.prog (Instr.build 228 #[(0, v45), (1, v51)])) fun v52 =>
  newC #[(.int .u16 0), (.int .u16 0)] 228 fun v53 =>
  chk (fun H => cellP v50 H = some v51) <|
  chk (fun H => cellP v48 H = some v49) <|
  chk (fun H => cellP v44 H = some v45) <|
  chk (fun H => cellP v42 H = some v43) <|
  stA v53 2 v52 <|
  rd (cellsP v53 2) fun v54 =>
  tot Tryz.prog (Instr.buildSlice 95 1 #[(0, v54)]) fun v55 =>
  blt Tryz.prog .append #[95, 95] 95 #[false, false] [x3, v55] fun v56 =>
  opt (nilV x0) fun v57 =>
  opt (offV v57 0) fun v58 =>
  rd (cellsP v58 3) fun v59 =>
  rd (cellsP x4 20) fun v60 =>
  rd (cellsP v53 2) fun v61 =>
  callF Tryz.prog 131 [v59, v60, v61] fun v62 =>
  opt (extV v62 0) fun v63 =>
  opt (extV v62 1) fun v64 =>
  stA x4 20 v63 <|
  opt (binV Tryz.prog .add 3 (Go.Operand.tmp 35) (Go.Operand.const (Go.Value.int Go.IntKind.i64 1)) x5 (.int .i64 1)) fun v65 =>
  f86.at4 R x0 v56 x4 v65)
  (R x3)
theorem f86.b4_eq : (fun (R : Value → HPred) (x0 x3 x4 x5 : Value) (r : Regs) => f86.den R true (stk Tryz.f86 4) (over [0, 3, 4, 5] [x0, x3, x4, x5] r) []) = (fun (R : Value → HPred) (x0 x3 x4 x5 : Value) (_ : Regs) => f86.b4 R x0 x3 x4 x5) := by kernel_rfl
theorem f86.b4_ok {R : Value → HPred} {x0 x3 x4 x5 : Value} {H : Hp} (h : f86.b4 R x0 x3 x4 x5 H) : f86.at4 R x0 x3 x4 x5 H :=
  At.of_den mixed (f := 1000) (cuts := f86.cuts) (plans := f86.plans) fun r => Eq.mpr (congrFun (congrFun (congrFun (congrFun (congrFun (congrFun (congrFun (f86.b4_eq) R) x0) x3) x4) x5) r) H) h
def f86.b (R : Value → HPred) (x0 : Value) : HPred :=
  opt (nilV x0) fun v1 =>
  opt (offV v1 8) fun v2 =>
  rd (cellP v2) fun v3 =>
  callF Tryz.prog 130 [v3] fun v4 =>
  newC #[(.int .i64 0), (.int .i32 0), (.int .i32 0), (.int .i32 0), (.int .i32 0), (.int .i32 0), (.int .i32 0), (.int .i32 0), (.int .i32 0), (.int .i32 0), (.int .i32 0), (.int .i32 0), (.int .i32 0), (.int .i32 0), (.int .i32 0), (.int .i32 0), (.int .i32 0), (.int .u32 0), (.bool false), (.int .i64 0)] 91 fun v5 =>
  stA v5 20 v4 <|
  f86.at4 R x0 (.slice none 0 0) v5 (.int .i64 0)
theorem f86.b_eq : (fun (R : Value → HPred) (x0 : Value) => f86.den R false (bodyOf Tryz.f86) (regsOf [x0]) []) = (fun (R : Value → HPred) (x0 : Value) => f86.b R x0) := by kernel_rfl
theorem f86.call {R : Value → HPred} {x0 : Value} {H : Hp} (h : f86.b R x0 H) : HC Tryz.prog 86 #[x0] R H :=
  HC.of_den mixed (cuts := f86.cuts) (plans := f86.plans) (args := [x0]) Tryz.func86 (by kernel_rfl) (fun w => Tryz.call86 _ w) (by kernel_rfl) (Eq.mpr (congrFun (congrFun (congrFun (f86.b_eq) R) x0) H) h)
/-! f87: gauntlet/contest.hows -/
def f87.cuts : List (Nat × List Nat) := []
def f87.plans : List (Nat × Plan) := []
def f87.den (R : Value → HPred) (first : Bool) (k : List Item) (r : Regs) (ds : List Deferred) : HPred := Sx.den Tryz.prog 7 (RQ Tryz.prog Tryz.f87.results.toList R) f87.cuts f87.plans 1000 first k r ds
def f87.b (R : Value → HPred) : HPred :=
  newC #[.nilFunc, .nilFunc, .nilFunc, .nilFunc, .nilFunc, .nilFunc, .nilFunc, .nilFunc, .nilFunc, .nilFunc, .nilFunc, .nilFunc, .nilFunc, .nilFunc, .nilFunc, .nilFunc, .nilFunc, .nilFunc] 183 fun v1 =>
  opt (pureRun Tryz.prog (Instr.build 182 #[(0, (.func (.func 132) #[] #[])), (1, (.func (.func 133) #[] #[])), (2, (.func (.func 134) #[] #[]))])) fun v2 =>
  opt (pureRun Tryz.prog (Instr.build 182 #[(0, (.func (.func 135) #[] #[])), (1, (.func (.func 136) #[] #[])), (2, (.func (.func 137) #[] #[]))])) fun v3 =>
  opt (pureRun Tryz.prog (Instr.build 182 #[(0, (.func (.func 138) #[] #[])), (1, (.func (.func 139) #[] #[])), (2, (.func (.func 140) #[] #[]))])) fun v4 =>
  opt (pureRun Tryz.prog (Instr.build 182 #[(0, (.func (.func 141) #[] #[])), (1, (.func (.func 142) #[] #[])), (2, (.func (.func 143) #[] #[]))])) fun v5 =>
  opt (pureRun Tryz.prog (Instr.build 182 #[(0, (.func (.func 144) #[] #[])), (1, (.func (.func 145) #[] #[])), (2, (.func (.func 146) #[] #[]))])) fun v6 =>
  opt (pureRun Tryz.prog (Instr.build 183 #[(1, v2), (2, v3), (3, v4), (4, v5), (5, v6)])) fun v7 =>
  stA v1 18 v7 <|
  rd (cellsP v1 18) fun v8 => R v8
theorem f87.b_eq : (fun (R : Value → HPred) => f87.den R false (bodyOf Tryz.f87) (regsOf []) []) = (fun (R : Value → HPred) => f87.b R ) := by kernel_rfl
theorem f87.call {R : Value → HPred} {H : Hp} (h : f87.b R  H) : HC Tryz.prog 87 #[] R H :=
  HC.of_den mixed (cuts := f87.cuts) (plans := f87.plans) (args := []) Tryz.func87 (by kernel_rfl) (fun w => Tryz.call87 _ w) (by kernel_rfl) (Eq.mpr (congrFun (congrFun (f87.b_eq) R) H) h)
/-! f88: gauntlet/gauntletref10.Check -/
def f88.cuts : List (Nat × List Nat) := []
def f88.plans : List (Nat × Plan) := []
def f88.den (R : Value → HPred) (first : Bool) (k : List Item) (r : Regs) (ds : List Deferred) : HPred := Sx.den Tryz.prog 32 (RQ Tryz.prog Tryz.f88.results.toList R) f88.cuts f88.plans 1000 first k r ds
def f88.b (R : Value → HPred) (x0 : Value) : HPred :=
  boxM 35 x0 fun v1 =>
  opt (offV v1 0) fun v2 =>
  rd (cellP v2) fun v3 =>
  callF Tryz.prog 147 [v3] fun v4 =>
  opt (extV v4 0) fun v5 =>
  opt (extV v4 1) fun v6 =>
  opt (binV Tryz.prog .neq 3 (Go.Operand.tmp 11) (Go.Operand.const (Go.Value.int Go.IntKind.i64 0)) v6 (.int .i64 0)) fun v7 =>
  cnd v7
  (R v6)
  (opt (offV v1 1) fun v8 =>
  rd (cellP v8) fun v9 =>
  opt (binV Tryz.prog .lss 3 (Go.Operand.tmp 15) (Go.Operand.const (Go.Value.int Go.IntKind.i64 1)) v9 (.int .i64 1)) fun v10 =>
  grdK v10 false (fun c11 => opt (offV v1 1) fun v12 =>
  c11 v12) fun v13 =>
  grdK v10 false (fun c14 => rd (cellP v13) fun v15 =>
  c14 v15) fun v16 =>
  grdK v10 false (fun c17 => opt (binV Tryz.prog .gtr 3 (Go.Operand.tmp 19) (Go.Operand.const (Go.Value.int Go.IntKind.i64 600)) v16 (.int .i64 600)) fun v18 =>
  c17 v18) fun v19 =>
  opt (pickV v10 (.bool true) v19) fun v20 =>
  grdK v20 false (fun c21 => opt (offV v1 2) fun v22 =>
  c21 v22) fun v23 =>
  grdK v20 false (fun c24 => rd (cellP v23) fun v25 =>
  c24 v25) fun v26 =>
  grdK v20 false (fun c27 => opt (binV Tryz.prog .lss 3 (Go.Operand.tmp 24) (Go.Operand.const (Go.Value.int Go.IntKind.i64 1)) v26 (.int .i64 1)) fun v28 =>
  c27 v28) fun v29 =>
  opt (pickV v20 (.bool true) v29) fun v30 =>
  grdK v30 false (fun c31 => opt (offV v1 2) fun v32 =>
  c31 v32) fun v33 =>
  grdK v30 false (fun c34 => rd (cellP v33) fun v35 =>
  c34 v35) fun v36 =>
  grdK v30 false (fun c37 => opt (binV Tryz.prog .gtr 3 (Go.Operand.tmp 29) (Go.Operand.const (Go.Value.int Go.IntKind.i64 2000)) v36 (.int .i64 2000)) fun v38 =>
  c37 v38) fun v39 =>
  opt (pickV v30 (.bool true) v39) fun v40 =>
  cnd v40
  (R (.int .i64 1))
  (R (.int .i64 0)))
theorem f88.b_eq : (fun (R : Value → HPred) (x0 : Value) => f88.den R false (bodyOf Tryz.f88) (regsOf [x0]) []) = (fun (R : Value → HPred) (x0 : Value) => f88.b R x0) := by kernel_rfl
theorem f88.call {R : Value → HPred} {x0 : Value} {H : Hp} (h : f88.b R x0 H) : HC Tryz.prog 88 #[x0] R H :=
  HC.of_den mixed (cuts := f88.cuts) (plans := f88.plans) (args := [x0]) Tryz.func88 (by kernel_rfl) (fun w => Tryz.call88 _ w) (by kernel_rfl) (Eq.mpr (congrFun (congrFun (congrFun (f88.b_eq) R) x0) H) h)
/-! f89: (*gauntlet/gauntletref6.Timers).Due -/
def f89.at2 (R : Value → HPred) (x0 x1 x5 : Value) : HPred := At Tryz.prog 30 (RQ Tryz.prog Tryz.f89.results.toList R) (stk Tryz.f89 2) [0, 1, 5] [x0, x1, x5] []
def f89.cuts : List (Nat × List Nat) := [(2, [0, 1, 5])]
def f89.plans : List (Nat × Plan) := []
def f89.den (R : Value → HPred) (first : Bool) (k : List Item) (r : Regs) (ds : List Deferred) : HPred := Sx.den Tryz.prog 30 (RQ Tryz.prog Tryz.f89.results.toList R) f89.cuts f89.plans 1000 first k r ds
def f89.b2 (R : Value → HPred) (x0 x1 x5 : Value) : HPred :=
  callF Tryz.prog 148 [x0] fun v1 =>
  opt (extV v1 0) fun v2 =>
  opt (extV v1 1) fun v3 =>
  opt (extV v1 2) fun v4 =>
  opt (pureRun Tryz.prog (Op.unary .not v4)) fun v5 =>
  grdK v5 false (fun c6 => c6 v3) fun v7 =>
  grdK v5 false (fun c8 => c8 x1) fun v9 =>
  grdK v5 false (fun c10 => opt (binV Tryz.prog .gtr 3 (Go.Operand.tmp 18) (Go.Operand.tmp 19) v7 v9) fun v11 =>
  c10 v11) fun v12 =>
  opt (pickV v5 (.bool true) v12) fun v13 =>
  cnd v13
  (R x5)
  (callF Tryz.prog 80 [x0, v2] fun v14 =>
  tot Tryz.prog (Instr.buildSlice 22 1 #[(0, v2)]) fun v15 =>
  blt Tryz.prog .append #[22, 22] 22 #[false, false] [x5, v15] fun v16 =>
  f89.at2 R x0 x1 v16)
theorem f89.b2_eq : (fun (R : Value → HPred) (x0 x1 x5 : Value) (r : Regs) => f89.den R true (stk Tryz.f89 2) (over [0, 1, 5] [x0, x1, x5] r) []) = (fun (R : Value → HPred) (x0 x1 x5 : Value) (_ : Regs) => f89.b2 R x0 x1 x5) := by kernel_rfl
theorem f89.b2_ok {R : Value → HPred} {x0 x1 x5 : Value} {H : Hp} (h : f89.b2 R x0 x1 x5 H) : f89.at2 R x0 x1 x5 H :=
  At.of_den mixed (f := 1000) (cuts := f89.cuts) (plans := f89.plans) fun r => Eq.mpr (congrFun (congrFun (congrFun (congrFun (congrFun (congrFun (f89.b2_eq) R) x0) x1) x5) r) H) h
def f89.b (R : Value → HPred) (x0 x1 : Value) : HPred :=
  f89.at2 R x0 x1 (.slice none 0 0)
theorem f89.b_eq : (fun (R : Value → HPred) (x0 x1 : Value) => f89.den R false (bodyOf Tryz.f89) (regsOf [x0, x1]) []) = (fun (R : Value → HPred) (x0 x1 : Value) => f89.b R x0 x1) := by kernel_rfl
theorem f89.call {R : Value → HPred} {x0 x1 : Value} {H : Hp} (h : f89.b R x0 x1 H) : HC Tryz.prog 89 #[x0, x1] R H :=
  HC.of_den mixed (cuts := f89.cuts) (plans := f89.plans) (args := [x0, x1]) Tryz.func89 (by kernel_rfl) (fun w => Tryz.call89 _ w) (by kernel_rfl) (Eq.mpr (congrFun (congrFun (congrFun (congrFun (f89.b_eq) R) x0) x1) H) h)
/-! f90: (*gauntlet/gauntletref18.Contest).Owes -/
def f90.cuts : List (Nat × List Nat) := []
def f90.plans : List (Nat × Plan) := [(2, (.step 0 [] (.step 1 [] (.step 2 [] (.step 3 [] (.step 4 [] (.step 5 [] (.step 6 [7, 8, 9, 10, 11, 12, 13, 14, 15, 16, 17, 18, 19, 20, 21, 22, 23, 24, 25, 26, 27, 28, 29, 30, 31, 32, 33] (.step 7 [] (.step 8 [] (.step 9 [] (.step 10 [] (.act 11 (.step 12 [] (.step 13 [] (.step 14 [] (.step 15 [] (.step 16 [] (.step 17 [] (.step 18 [] (.step 19 [] (.step 20 [] (.step 21 [22, 31, 32, 33] (.step 22 [] (.step 23 [] (.step 24 [] (.step 25 [] (.step 26 [] (.step 27 [] (.step 28 [] (.step 29 [30, 31, 32, 33] (.step 30 [] (.step 31 [] (.step 32 [] (.step 33 [] .done)))))))))))))))))))))))))))))))))))]
def f90.den (R : Value → HPred) (first : Bool) (k : List Item) (r : Regs) (ds : List Deferred) : HPred := Sx.den Tryz.prog 42 (RQ Tryz.prog Tryz.f90.results.toList R) f90.cuts f90.plans 1000 first k r ds
def f90.b (R : Value → HPred) (x0 x1 : Value) : HPred :=
  callF Tryz.prog 83 [x0, x1] fun v1 =>
  opt (binV Tryz.prog .geq 3 (Go.Operand.tmp 9) (Go.Operand.const (Go.Value.int Go.IntKind.i64 0)) v1 (.int .i64 0)) fun v2 =>
  grdK v2 true (fun c => c x0) fun v3 =>
  grdK v2 true (fun c => opt (nilV v3) c) fun v4 =>
  grdK v2 true (fun c => opt (offV v4 12) c) fun v5 =>
  grdK v2 true (fun c => rd (cellP v5) c) fun v6 =>
  grdK v2 true (fun c => opt (pureRun Tryz.prog (Op.unary .not v6)) c) fun v7 =>
  opt (pickV v2 v7 (.bool false)) fun v8 =>
  grdK v8 true (fun c => c x0) fun v9 =>
  grdK v8 true (fun c10 => callF Tryz.prog 51 [v9] fun v11 =>
  c10 v11) fun v12 =>
  grdK v8 true (fun c => opt (pureRun Tryz.prog (Instr.field 91 v12 3)) c) fun v13 =>
  grdK v8 true (fun c => opt (pureRun Tryz.prog (Op.unary .not v13)) c) fun v14 =>
  opt (pickV v8 v14 (.bool false)) fun v15 =>
  grdK v15 true (fun c => c x0) fun v16 =>
  grdK v15 true (fun c => c v1) fun v17 =>
  grdK v15 true (fun c => opt (nilV v16) c) fun v18 =>
  grdK v15 true (fun c => opt (offV v18 4) c) fun v19 =>
  grdK v15 true (fun c => opt (idxA v19 v17 2 1) c) fun v20 =>
  grdK v15 true (fun c => rd (cellP v20) c) fun v21 =>
  grdK v15 true (fun c => opt (pureRun Tryz.prog (bltN .len #[93] 3 #[false] [v21])) c) fun v22 =>
  grdK v15 true (fun c => c x0) fun v23 =>
  grdK v15 true (fun c => c v1) fun v24 =>
  grdK v15 true (fun c => opt (binV Tryz.prog .sub 3 (Go.Operand.const (Go.Value.int Go.IntKind.i64 1)) (Go.Operand.tmp 33) (.int .i64 1) v24) c) fun v25 =>
  grdK v15 true (fun c => opt (nilV v23) c) fun v26 =>
  grdK v15 true (fun c => opt (offV v26 4) c) fun v27 =>
  grdK v15 true (fun c => opt (idxA v27 v25 2 1) c) fun v28 =>
  grdK v15 true (fun c => rd (cellP v28) c) fun v29 =>
  grdK v15 true (fun c => opt (pureRun Tryz.prog (bltN .len #[93] 3 #[false] [v29])) c) fun v30 =>
  grdK v15 true (fun c => opt (binV Tryz.prog .leq 3 (Go.Operand.tmp 31) (Go.Operand.tmp 39) v22 v30) c) fun v31 =>
  opt (pickV v15 v31 (.bool false)) fun v32 =>
  R v32
theorem f90.b_eq : (fun (R : Value → HPred) (x0 x1 : Value) => f90.den R false (bodyOf Tryz.f90) (regsOf [x0, x1]) []) = (fun (R : Value → HPred) (x0 x1 : Value) => f90.b R x0 x1) := by kernel_rfl
theorem f90.call {R : Value → HPred} {x0 x1 : Value} {H : Hp} (h : f90.b R x0 x1 H) : HC Tryz.prog 90 #[x0, x1] R H :=
  HC.of_den mixed (cuts := f90.cuts) (plans := f90.plans) (args := [x0, x1]) Tryz.func90 (by kernel_rfl) (fun w => Tryz.call90 _ w) (by kernel_rfl) (Eq.mpr (congrFun (congrFun (congrFun (congrFun (f90.b_eq) R) x0) x1) H) h)
/-! f91: (*gauntlet/gauntletref6.Timers).Set -/
def f91.cuts : List (Nat × List Nat) := []
def f91.plans : List (Nat × Plan) := []
def f91.den (R : Value → HPred) (first : Bool) (k : List Item) (r : Regs) (ds : List Deferred) : HPred := Sx.den Tryz.prog 39 (RQ Tryz.prog Tryz.f91.results.toList R) f91.cuts f91.plans 1000 first k r ds
def f91.b (R : Value → HPred) (x0 x1 x2 : Value) : HPred :=
  callF Tryz.prog 127 [x0, x1] fun v1 =>
  opt (binV Tryz.prog .geq 3 (Go.Operand.tmp 11) (Go.Operand.const (Go.Value.int Go.IntKind.i64 0)) v1 (.int .i64 0)) fun v2 =>
  cnd v2
  (opt (nilV x0) fun v3 =>
  opt (offV v3 0) fun v4 =>
  rd (cellP v4) fun v5 =>
  opt (idxS v5 v1 2) fun v6 =>
  opt (offV v6 1) fun v7 =>
  st v7 x2 <|
  R (.bool true))
  (opt (nilV x0) fun v8 =>
  opt (offV v8 0) fun v9 =>
  rd (cellP v9) fun v10 =>
  opt (pureRun Tryz.prog (bltN .len #[130] 3 #[false] [v10])) fun v11 =>
  opt (binV Tryz.prog .geq 3 (Go.Operand.tmp 25) (Go.Operand.const (Go.Value.int Go.IntKind.i64 4096)) v11 (.int .i64 4096)) fun v12 =>
  cnd v12
  (R (.bool false))
  (opt (nilV x0) fun v13 =>
  opt (offV v13 0) fun v14 =>
  rd (cellP v14) fun v15 =>
  opt (pureRun Tryz.prog (Instr.build 222 #[(0, x1), (1, x2)])) fun v16 =>
  tot Tryz.prog (Instr.buildSlice 130 1 #[(0, v16)]) fun v17 =>
  blt Tryz.prog .append #[130, 130] 130 #[false, false] [v15, v17] fun v18 =>
  opt (nilV x0) fun v19 =>
  opt (offV v19 0) fun v20 =>
  st v20 v18 <|
  R (.bool true)))
theorem f91.b_eq : (fun (R : Value → HPred) (x0 x1 x2 : Value) => f91.den R false (bodyOf Tryz.f91) (regsOf [x0, x1, x2]) []) = (fun (R : Value → HPred) (x0 x1 x2 : Value) => f91.b R x0 x1 x2) := by kernel_rfl
theorem f91.call {R : Value → HPred} {x0 x1 x2 : Value} {H : Hp} (h : f91.b R x0 x1 x2 H) : HC Tryz.prog 91 #[x0, x1, x2] R H :=
  HC.of_den mixed (cuts := f91.cuts) (plans := f91.plans) (args := [x0, x1, x2]) Tryz.func91 (by kernel_rfl) (fun w => Tryz.call91 _ w) (by kernel_rfl) (Eq.mpr (congrFun (congrFun (congrFun (congrFun (congrFun (f91.b_eq) R) x0) x1) x2) H) h)
end Go.Proofs.YtnnheophehnioaaGreat
