/-
  Part 4 of the proof: contracts of the functions that the law reaches, and the rules they stand on. Own work (an AI agent). No conditions.
-/
import Derived.Test.YtnnheophehnioaaGreatTS3
import Derived.KernelRfl
import Derived.Test.YtnnheophehnioaaGreatProg
set_option linter.unusedSimpArgs false
set_option linter.unusedVariables false
namespace Go.Proofs.YtnnheophehnioaaGreat
open Go.Sx Go.Proofs
set_option maxRecDepth 100000
set_option linter.unusedVariables false
/-! f92: gauntlet/code.table -/
def f92.cuts : List (Nat × List Nat) := []
def f92.plans : List (Nat × Plan) := []
def f92.den (R : Value → HPred) (first : Bool) (k : List Item) (r : Regs) (ds : List Deferred) : HPred := Sx.den Tryz.prog 45 (RQ Tryz.prog Tryz.f92.results.toList R) f92.cuts f92.plans 1000 first k r ds
def f92.b (R : Value → HPred) : HPred :=
  newC #[(.string ⟨#[]⟩), (.bool false), .nilFunc, (.string ⟨#[]⟩), (.bool false), .nilFunc, (.string ⟨#[]⟩), (.bool false), .nilFunc, (.string ⟨#[]⟩), (.bool false), .nilFunc, (.string ⟨#[]⟩), (.bool false), .nilFunc, (.string ⟨#[]⟩), (.bool false), .nilFunc, (.string ⟨#[]⟩), (.bool false), .nilFunc, (.string ⟨#[]⟩), (.bool false), .nilFunc, (.string ⟨#[]⟩), (.bool false), .nilFunc, (.string ⟨#[]⟩), (.bool false), .nilFunc, (.string ⟨#[]⟩), (.bool false), .nilFunc, (.string ⟨#[]⟩), (.bool false), .nilFunc, (.string ⟨#[]⟩), (.bool false), .nilFunc, (.string ⟨#[]⟩), (.bool false), .nilFunc, (.string ⟨#[]⟩), (.bool false), .nilFunc, (.string ⟨#[]⟩), (.bool false), .nilFunc, (.string ⟨#[]⟩), (.bool false), .nilFunc, (.string ⟨#[]⟩), (.bool false), .nilFunc, (.string ⟨#[]⟩), (.bool false), .nilFunc, (.string ⟨#[]⟩), (.bool false), .nilFunc, (.string ⟨#[]⟩), (.bool false), .nilFunc, (.string ⟨#[]⟩), (.bool false), .nilFunc, (.string ⟨#[]⟩), (.bool false), .nilFunc] 189 fun v1 =>
  callF Tryz.prog 149 [(.int .i64 0)] fun v2 =>
  opt (pureRun Tryz.prog (Instr.build 188 #[(0, (.string { data := #[112, 117, 115, 104] })), (1, (.bool true)), (2, (.func (.func 150) #[] #[]))])) fun v3 =>
  callF Tryz.prog 149 [(.int .i64 15)] fun v4 =>
  opt (pureRun Tryz.prog (Instr.build 188 #[(0, (.string { data := #[108, 111, 97, 100] })), (1, (.bool true)), (2, v4)])) fun v5 =>
  callF Tryz.prog 149 [(.int .i64 15)] fun v6 =>
  opt (pureRun Tryz.prog (Instr.build 188 #[(0, (.string { data := #[115, 116, 111, 114, 101] })), (1, (.bool true)), (2, v6)])) fun v7 =>
  opt (pureRun Tryz.prog (Instr.build 188 #[(0, (.string { data := #[97, 100, 100] })), (1, (.bool false)), (2, v2)])) fun v8 =>
  opt (pureRun Tryz.prog (Instr.build 188 #[(0, (.string { data := #[115, 117, 98] })), (1, (.bool false)), (2, v2)])) fun v9 =>
  opt (pureRun Tryz.prog (Instr.build 188 #[(0, (.string { data := #[109, 117, 108] })), (1, (.bool false)), (2, v2)])) fun v10 =>
  opt (pureRun Tryz.prog (Instr.build 188 #[(0, (.string { data := #[100, 105, 118] })), (1, (.bool false)), (2, v2)])) fun v11 =>
  opt (pureRun Tryz.prog (Instr.build 188 #[(0, (.string { data := #[109, 105, 110] })), (1, (.bool false)), (2, v2)])) fun v12 =>
  opt (pureRun Tryz.prog (Instr.build 188 #[(0, (.string { data := #[109, 97, 120] })), (1, (.bool false)), (2, v2)])) fun v13 =>
  opt (pureRun Tryz.prog (Instr.build 188 #[(0, (.string { data := #[108, 101, 115, 115] })), (1, (.bool false)), (2, v2)])) fun v14 =>
  opt (pureRun Tryz.prog (Instr.build 188 #[(0, (.string { data := #[115, 97, 109, 101] })), (1, (.bool false)), (2, v2)])) fun v15 =>
  opt (pureRun Tryz.prog (Instr.build 188 #[(0, (.string { data := #[110, 111, 116] })), (1, (.bool false)), (2, v2)])) fun v16 =>
  opt (pureRun Tryz.prog (Instr.build 188 #[(0, (.string { data := #[100, 117, 112] })), (1, (.bool false)), (2, v2)])) fun v17 =>
  opt (pureRun Tryz.prog (Instr.build 188 #[(0, (.string { data := #[115, 119, 97, 112] })), (1, (.bool false)), (2, v2)])) fun v18 =>
  opt (pureRun Tryz.prog (Instr.build 188 #[(0, (.string { data := #[100, 114, 111, 112] })), (1, (.bool false)), (2, v2)])) fun v19 =>
  callF Tryz.prog 149 [(.int .i64 1)] fun v20 =>
  opt (pureRun Tryz.prog (Instr.build 188 #[(0, (.string { data := #[105, 110] })), (1, (.bool true)), (2, v20)])) fun v21 =>
  opt (pureRun Tryz.prog (Instr.build 188 #[(0, (.string { data := #[102, 114, 97, 109, 101] })), (1, (.bool false)), (2, v2)])) fun v22 =>
  opt (pureRun Tryz.prog (Instr.build 188 #[(0, (.string { data := #[106, 117, 109, 112] })), (1, (.bool true)), (2, (.func (.func 151) #[] #[]))])) fun v23 =>
  opt (pureRun Tryz.prog (Instr.build 188 #[(0, (.string { data := #[122, 101, 114, 111] })), (1, (.bool true)), (2, (.func (.func 151) #[] #[]))])) fun v24 =>
  callF Tryz.prog 149 [(.int .i64 2)] fun v25 =>
  opt (pureRun Tryz.prog (Instr.build 188 #[(0, (.string { data := #[119, 105, 110] })), (1, (.bool true)), (2, v25)])) fun v26 =>
  opt (pureRun Tryz.prog (Instr.build 188 #[(0, (.string { data := #[114, 97, 110, 100] })), (1, (.bool false)), (2, v2)])) fun v27 =>
  opt (pureRun Tryz.prog (Instr.build 188 #[(0, (.string { data := #[104, 97, 108, 116] })), (1, (.bool false)), (2, v2)])) fun v28 =>
  opt (pureRun Tryz.prog (Instr.build 189 #[(1, v3), (2, v5), (3, v7), (4, v8), (5, v9), (6, v10), (7, v11), (8, v12), (9, v13), (10, v14), (11, v15), (12, v16), (13, v17), (14, v18), (15, v19), (16, v21), (17, v22), (18, v23), (19, v24), (20, v26), (21, v27), (22, v28)])) fun v29 =>
  stA v1 69 v29 <|
  rd (cellsP v1 69) fun v30 => R v30
theorem f92.b_eq : (fun (R : Value → HPred) => f92.den R false (bodyOf Tryz.f92) (regsOf []) []) = (fun (R : Value → HPred) => f92.b R ) := by kernel_rfl
theorem f92.call {R : Value → HPred} {H : Hp} (h : f92.b R  H) : HC Tryz.prog 92 #[] R H :=
  HC.of_den mixed (cuts := f92.cuts) (plans := f92.plans) (args := []) Tryz.func92 (by kernel_rfl) (fun w => Tryz.call92 _ w) (by kernel_rfl) (Eq.mpr (congrFun (congrFun (f92.b_eq) R) H) h)
/-! f93: gauntlet/code.isOp -/
def f93.cuts : List (Nat × List Nat) := []
def f93.plans : List (Nat × Plan) := []
def f93.den (R : Value → HPred) (first : Bool) (k : List Item) (r : Regs) (ds : List Deferred) : HPred := Sx.den Tryz.prog 9 (RQ Tryz.prog Tryz.f93.results.toList R) f93.cuts f93.plans 1000 first k r ds
def f93.b (R : Value → HPred) (x0 : Value) : HPred :=
  opt (binV Tryz.prog .geq 3 (Go.Operand.tmp 3) (Go.Operand.const (Go.Value.int Go.IntKind.i64 1)) x0 (.int .i64 1)) fun v1 =>
  grdK v1 true (fun c2 => c2 x0) fun v3 =>
  grdK v1 true (fun c4 => opt (binV Tryz.prog .leq 3 (Go.Operand.tmp 6) (Go.Operand.const (Go.Value.int Go.IntKind.i64 22)) v3 (.int .i64 22)) fun v5 =>
  c4 v5) fun v6 =>
  opt (pickV v1 v6 (.bool false)) fun v7 =>
  R v7
theorem f93.b_eq : (fun (R : Value → HPred) (x0 : Value) => f93.den R false (bodyOf Tryz.f93) (regsOf [x0]) []) = (fun (R : Value → HPred) (x0 : Value) => f93.b R x0) := by kernel_rfl
theorem f93.call {R : Value → HPred} {x0 : Value} {H : Hp} (h : f93.b R x0 H) : HC Tryz.prog 93 #[x0] R H :=
  HC.of_den mixed (cuts := f93.cuts) (plans := f93.plans) (args := [x0]) Tryz.func93 (by kernel_rfl) (fun w => Tryz.call93 _ w) (by kernel_rfl) (Eq.mpr (congrFun (congrFun (congrFun (f93.b_eq) R) x0) H) h)
/-! f102: container/heap.Fix -/
def f102.cuts : List (Nat × List Nat) := []
def f102.plans : List (Nat × Plan) := []
def f102.den (R : Value → HPred) (first : Bool) (k : List Item) (r : Regs) (ds : List Deferred) : HPred := Sx.den Tryz.prog 13 (RQ Tryz.prog Tryz.f102.results.toList R) f102.cuts f102.plans 1000 first k r ds
def f102.b (R : Value → HPred) (x0 x1 : Value) : HPred :=
  callI Tryz.prog x0 "Len" [] fun v1 =>
  callF Tryz.prog 117 [x0, x1, v1] fun v2 =>
  opt (pureRun Tryz.prog (Op.unary .not v2)) fun v3 =>
  cnd v3
  (callF Tryz.prog 118 [x0, x1] fun v4 =>
  R (.tuple #[]))
  (R (.tuple #[]))
theorem f102.b_eq : (fun (R : Value → HPred) (x0 x1 : Value) => f102.den R false (bodyOf Tryz.f102) (regsOf [x0, x1]) []) = (fun (R : Value → HPred) (x0 x1 : Value) => f102.b R x0 x1) := by kernel_rfl
theorem f102.call {R : Value → HPred} {x0 x1 : Value} {H : Hp} (h : f102.b R x0 x1 H) : HC Tryz.prog 102 #[x0, x1] R H :=
  HC.of_den mixed (cuts := f102.cuts) (plans := f102.plans) (args := [x0, x1]) Tryz.func102 (by kernel_rfl) (fun w => Tryz.call102 _ w) (by kernel_rfl) (Eq.mpr (congrFun (congrFun (congrFun (congrFun (f102.b_eq) R) x0) x1) H) h)
/-! f103: container/heap.Push -/
def f103.cuts : List (Nat × List Nat) := []
def f103.plans : List (Nat × Plan) := []
def f103.den (R : Value → HPred) (first : Bool) (k : List Item) (r : Regs) (ds : List Deferred) : HPred := Sx.den Tryz.prog 12 (RQ Tryz.prog Tryz.f103.results.toList R) f103.cuts f103.plans 1000 first k r ds
def f103.b (R : Value → HPred) (x0 x1 : Value) : HPred :=
  callI Tryz.prog x0 "Push" [x1] fun v1 =>
  callI Tryz.prog x0 "Len" [] fun v2 =>
  opt (binV Tryz.prog .sub 3 (Go.Operand.tmp 9) (Go.Operand.const (Go.Value.int Go.IntKind.i64 1)) v2 (.int .i64 1)) fun v3 =>
  callF Tryz.prog 118 [x0, v3] fun v4 =>
  R (.tuple #[])
theorem f103.b_eq : (fun (R : Value → HPred) (x0 x1 : Value) => f103.den R false (bodyOf Tryz.f103) (regsOf [x0, x1]) []) = (fun (R : Value → HPred) (x0 x1 : Value) => f103.b R x0 x1) := by kernel_rfl
theorem f103.call {R : Value → HPred} {x0 x1 : Value} {H : Hp} (h : f103.b R x0 x1 H) : HC Tryz.prog 103 #[x0, x1] R H :=
  HC.of_den mixed (cuts := f103.cuts) (plans := f103.plans) (args := [x0, x1]) Tryz.func103 (by kernel_rfl) (fun w => Tryz.call103 _ w) (by kernel_rfl) (Eq.mpr (congrFun (congrFun (congrFun (congrFun (f103.b_eq) R) x0) x1) H) h)
/-! f114: math/bits.Len64 -/
def f114.at4 (R : Value → HPred) (x0 x2 : Value) : HPred := At Tryz.prog 25 (RQ Tryz.prog Tryz.f114.results.toList R) (stk Tryz.f114 4) [0, 2] [x0, x2] []
def f114.at7 (R : Value → HPred) (x0 x2 : Value) : HPred := At Tryz.prog 25 (RQ Tryz.prog Tryz.f114.results.toList R) (stk Tryz.f114 7) [0, 2] [x0, x2] []
def f114.at10 (R : Value → HPred) (x0 x2 : Value) : HPred := At Tryz.prog 25 (RQ Tryz.prog Tryz.f114.results.toList R) (stk Tryz.f114 10) [0, 2] [x0, x2] []
def f114.cuts : List (Nat × List Nat) := [(4, [0, 2]), (7, [0, 2]), (10, [0, 2])]
def f114.plans : List (Nat × Plan) := []
def f114.den (R : Value → HPred) (first : Bool) (k : List Item) (r : Regs) (ds : List Deferred) : HPred := Sx.den Tryz.prog 25 (RQ Tryz.prog Tryz.f114.results.toList R) f114.cuts f114.plans 1000 first k r ds
def f114.b4 (R : Value → HPred) (x0 x2 : Value) : HPred :=
  opt (binV Tryz.prog .geq 209 (Go.Operand.tmp 7) (Go.Operand.const (Go.Value.int Go.IntKind.u64 65536)) x0 (.int .u64 65536)) fun v1 =>
  cnd v1
  (opt (binV Tryz.prog .shr 209 (Go.Operand.tmp 9) (Go.Operand.const (Go.Value.int Go.IntKind.u64 16)) x0 (.int .u64 16)) fun v2 =>
  opt (binV Tryz.prog .add 3 (Go.Operand.tmp 11) (Go.Operand.const (Go.Value.int Go.IntKind.i64 16)) x2 (.int .i64 16)) fun v3 =>
  f114.at7 R v2 v3)
  (f114.at7 R x0 x2)
theorem f114.b4_eq : (fun (R : Value → HPred) (x0 x2 : Value) (r : Regs) => f114.den R true (stk Tryz.f114 4) (over [0, 2] [x0, x2] r) []) = (fun (R : Value → HPred) (x0 x2 : Value) (_ : Regs) => f114.b4 R x0 x2) := by kernel_rfl
theorem f114.b4_ok {R : Value → HPred} {x0 x2 : Value} {H : Hp} (h : f114.b4 R x0 x2 H) : f114.at4 R x0 x2 H :=
  At.of_den mixed (f := 1000) (cuts := f114.cuts) (plans := f114.plans) fun r => Eq.mpr (congrFun (congrFun (congrFun (congrFun (congrFun (f114.b4_eq) R) x0) x2) r) H) h
def f114.b7 (R : Value → HPred) (x0 x2 : Value) : HPred :=
  opt (binV Tryz.prog .geq 209 (Go.Operand.tmp 13) (Go.Operand.const (Go.Value.int Go.IntKind.u64 256)) x0 (.int .u64 256)) fun v1 =>
  cnd v1
  (opt (binV Tryz.prog .shr 209 (Go.Operand.tmp 15) (Go.Operand.const (Go.Value.int Go.IntKind.u64 8)) x0 (.int .u64 8)) fun v2 =>
  opt (binV Tryz.prog .add 3 (Go.Operand.tmp 17) (Go.Operand.const (Go.Value.int Go.IntKind.i64 8)) x2 (.int .i64 8)) fun v3 =>
  f114.at10 R v2 v3)
  (f114.at10 R x0 x2)
theorem f114.b7_eq : (fun (R : Value → HPred) (x0 x2 : Value) (r : Regs) => f114.den R true (stk Tryz.f114 7) (over [0, 2] [x0, x2] r) []) = (fun (R : Value → HPred) (x0 x2 : Value) (_ : Regs) => f114.b7 R x0 x2) := by kernel_rfl
theorem f114.b7_ok {R : Value → HPred} {x0 x2 : Value} {H : Hp} (h : f114.b7 R x0 x2 H) : f114.at7 R x0 x2 H :=
  At.of_den mixed (f := 1000) (cuts := f114.cuts) (plans := f114.plans) fun r => Eq.mpr (congrFun (congrFun (congrFun (congrFun (congrFun (f114.b7_eq) R) x0) x2) r) H) h
def f114.b10 (R : Value → HPred) (x0 x2 : Value) : HPred :=
  opt (pureRun Tryz.prog (Go.convert 209 5 x0)) fun v1 =>
  opt (pureRun Tryz.prog (Instr.index 9 (.string { data := #[0, 1, 2, 2, 3, 3, 3, 3, 4, 4, 4, 4, 4, 4, 4, 4, 5, 5, 5, 5, 5, 5, 5, 5, 5, 5, 5, 5, 5, 5, 5, 5, 6, 6, 6, 6, 6, 6, 6, 6, 6, 6, 6, 6, 6, 6, 6, 6, 6, 6, 6, 6, 6, 6, 6, 6, 6, 6, 6, 6, 6, 6, 6, 6, 7, 7, 7, 7, 7, 7, 7, 7, 7, 7, 7, 7, 7, 7, 7, 7, 7, 7, 7, 7, 7, 7, 7, 7, 7, 7, 7, 7, 7, 7, 7, 7, 7, 7, 7, 7, 7, 7, 7, 7, 7, 7, 7, 7, 7, 7, 7, 7, 7, 7, 7, 7, 7, 7, 7, 7, 7, 7, 7, 7, 7, 7, 7, 7, 8, 8, 8, 8, 8, 8, 8, 8, 8, 8, 8, 8, 8, 8, 8, 8, 8, 8, 8, 8, 8, 8, 8, 8, 8, 8, 8, 8, 8, 8, 8, 8, 8, 8, 8, 8, 8, 8, 8, 8, 8, 8, 8, 8, 8, 8, 8, 8, 8, 8, 8, 8, 8, 8, 8, 8, 8, 8, 8, 8, 8, 8, 8, 8, 8, 8, 8, 8, 8, 8, 8, 8, 8, 8, 8, 8, 8, 8, 8, 8, 8, 8, 8, 8, 8, 8, 8, 8, 8, 8, 8, 8, 8, 8, 8, 8, 8, 8, 8, 8, 8, 8, 8, 8, 8, 8, 8, 8, 8, 8, 8, 8, 8, 8, 8, 8, 8, 8, 8, 8, 8, 8, 8, 8, 8, 8, 8, 8] }) v1)) fun v2 =>
  opt (pureRun Tryz.prog (Go.convert 5 3 v2)) fun v3 =>
  opt (binV Tryz.prog .add 3 (Go.Operand.tmp 19) (Go.Operand.tmp 23) x2 v3) fun v4 =>
  R v4
theorem f114.b10_eq : (fun (R : Value → HPred) (x0 x2 : Value) (r : Regs) => f114.den R true (stk Tryz.f114 10) (over [0, 2] [x0, x2] r) []) = (fun (R : Value → HPred) (x0 x2 : Value) (_ : Regs) => f114.b10 R x0 x2) := by kernel_rfl
theorem f114.b10_ok {R : Value → HPred} {x0 x2 : Value} {H : Hp} (h : f114.b10 R x0 x2 H) : f114.at10 R x0 x2 H :=
  At.of_den mixed (f := 1000) (cuts := f114.cuts) (plans := f114.plans) fun r => Eq.mpr (congrFun (congrFun (congrFun (congrFun (congrFun (f114.b10_eq) R) x0) x2) r) H) h
def f114.b (R : Value → HPred) (x0 : Value) : HPred :=
  opt (binV Tryz.prog .geq 209 (Go.Operand.tmp 3) (Go.Operand.const (Go.Value.int Go.IntKind.u64 4294967296)) x0 (.int .u64 4294967296)) fun v1 =>
  cnd v1
  (opt (binV Tryz.prog .shr 209 (Go.Operand.tmp 5) (Go.Operand.const (Go.Value.int Go.IntKind.u64 32)) x0 (.int .u64 32)) fun v2 =>
  f114.at4 R v2 (.int .i64 32))
  (f114.at4 R x0 (.int .i64 0))
theorem f114.b_eq : (fun (R : Value → HPred) (x0 : Value) => f114.den R false (bodyOf Tryz.f114) (regsOf [x0]) []) = (fun (R : Value → HPred) (x0 : Value) => f114.b R x0) := by kernel_rfl
theorem f114.call {R : Value → HPred} {x0 : Value} {H : Hp} (h : f114.b R x0 H) : HC Tryz.prog 114 #[x0] R H :=
  HC.of_den mixed (cuts := f114.cuts) (plans := f114.plans) (args := [x0]) Tryz.func114 (by kernel_rfl) (fun w => Tryz.call114 _ w) (by kernel_rfl) (Eq.mpr (congrFun (congrFun (congrFun (f114.b_eq) R) x0) H) h)
/-! f115: (*gauntlet/contest.Contest).ended -/
def f115.cuts : List (Nat × List Nat) := []
def f115.plans : List (Nat × Plan) := []
def f115.den (R : Value → HPred) (first : Bool) (k : List Item) (r : Regs) (ds : List Deferred) : HPred := Sx.den Tryz.prog 15 (RQ Tryz.prog Tryz.f115.results.toList R) f115.cuts f115.plans 1000 first k r ds
def f115.b (R : Value → HPred) (x0 : Value) : HPred :=
  opt (nilV x0) fun v1 =>
  opt (offV v1 3) fun v2 =>
  opt (offV v2 7) fun v3 =>
  rd (cellP v3) fun v4 =>
  grdK v4 false (fun c5 => c5 x0) fun v6 =>
  grdK v4 false (fun c7 => opt (nilV v6) fun v8 =>
  c7 v8) fun v9 =>
  grdK v4 false (fun c10 => opt (offV v9 17) fun v11 =>
  c10 v11) fun v12 =>
  grdK v4 false (fun c13 => opt (offV v12 18) fun v14 =>
  c13 v14) fun v15 =>
  grdK v4 false (fun c16 => rd (cellP v15) fun v17 =>
  c16 v17) fun v18 =>
  opt (pickV v4 (.bool true) v18) fun v19 =>
  R v19
theorem f115.b_eq : (fun (R : Value → HPred) (x0 : Value) => f115.den R false (bodyOf Tryz.f115) (regsOf [x0]) []) = (fun (R : Value → HPred) (x0 : Value) => f115.b R x0) := by kernel_rfl
theorem f115.call {R : Value → HPred} {x0 : Value} {H : Hp} (h : f115.b R x0 H) : HC Tryz.prog 115 #[x0] R H :=
  HC.of_den mixed (cuts := f115.cuts) (plans := f115.plans) (args := [x0]) Tryz.func115 (by kernel_rfl) (fun w => Tryz.call115 _ w) (by kernel_rfl) (Eq.mpr (congrFun (congrFun (congrFun (f115.b_eq) R) x0) H) h)
/-! f116: (*gauntlet/contest.Contest).seat -/
def f116.cuts : List (Nat × List Nat) := []
def f116.plans : List (Nat × Plan) := []
def f116.den (R : Value → HPred) (first : Bool) (k : List Item) (r : Regs) (ds : List Deferred) : HPred := Sx.den Tryz.prog 12 (RQ Tryz.prog Tryz.f116.results.toList R) f116.cuts f116.plans 1000 first k r ds
def f116.b (R : Value → HPred) (x0 x1 : Value) : HPred :=
  opt (nilV x0) fun v1 =>
  opt (offV v1 3) fun v2 =>
  opt (offV v2 0) fun v3 =>
  opt (pureRun Tryz.prog (Instr.sliceAt 59 v3 none none none)) fun v4 =>
  callF Tryz.prog 164 [v4, x1] fun v5 =>
  R v5
theorem f116.b_eq : (fun (R : Value → HPred) (x0 x1 : Value) => f116.den R false (bodyOf Tryz.f116) (regsOf [x0, x1]) []) = (fun (R : Value → HPred) (x0 x1 : Value) => f116.b R x0 x1) := by kernel_rfl
theorem f116.call {R : Value → HPred} {x0 x1 : Value} {H : Hp} (h : f116.b R x0 x1 H) : HC Tryz.prog 116 #[x0, x1] R H :=
  HC.of_den mixed (cuts := f116.cuts) (plans := f116.plans) (args := [x0, x1]) Tryz.func116 (by kernel_rfl) (fun w => Tryz.call116 _ w) (by kernel_rfl) (Eq.mpr (congrFun (congrFun (congrFun (congrFun (f116.b_eq) R) x0) x1) H) h)
/-! f117: container/heap.down -/
def f117.at2 (R : Value → HPred) (x0 x1 x2 x7 : Value) : HPred := At Tryz.prog 48 (RQ Tryz.prog Tryz.f117.results.toList R) (stk Tryz.f117 2) [0, 1, 2, 7] [x0, x1, x2, x7] []
def f117.at8 (R : Value → HPred) (x0 x1 x2 x7 x9 : Value) : HPred := At Tryz.prog 48 (RQ Tryz.prog Tryz.f117.results.toList R) (stk Tryz.f117 8) [0, 1, 2, 7, 9] [x0, x1, x2, x7, x9] []
def f117.at11 (R : Value → HPred) (x1 x7 : Value) : HPred := At Tryz.prog 48 (RQ Tryz.prog Tryz.f117.results.toList R) (stk Tryz.f117 11) [1, 7] [x1, x7] []
def f117.cuts : List (Nat × List Nat) := [(2, [0, 1, 2, 7]), (8, [0, 1, 2, 7, 9]), (11, [1, 7])]
def f117.plans : List (Nat × Plan) := []
def f117.den (R : Value → HPred) (first : Bool) (k : List Item) (r : Regs) (ds : List Deferred) : HPred := Sx.den Tryz.prog 48 (RQ Tryz.prog Tryz.f117.results.toList R) f117.cuts f117.plans 1000 first k r ds
def f117.b2 (R : Value → HPred) (x0 x1 x2 x7 : Value) : HPred :=
  opt (binV Tryz.prog .mul 3 (Go.Operand.const (Go.Value.int Go.IntKind.i64 2)) (Go.Operand.tmp 12) (.int .i64 2) x7) fun v1 =>
  opt (binV Tryz.prog .add 3 (Go.Operand.tmp 13) (Go.Operand.const (Go.Value.int Go.IntKind.i64 1)) v1 (.int .i64 1)) fun v2 =>
  opt (binV Tryz.prog .geq 3 (Go.Operand.tmp 15) (Go.Operand.tmp 16) v2 x2) fun v3 =>
  grdK v3 false (fun c4 => c4 v2) fun v5 =>
  grdK v3 false (fun c6 => opt (binV Tryz.prog .lss 3 (Go.Operand.tmp 19) (Go.Operand.const (Go.Value.int Go.IntKind.i64 0)) v5 (.int .i64 0)) fun v7 =>
  c6 v7) fun v8 =>
  opt (pickV v3 (.bool true) v8) fun v9 =>
  cnd v9
  (f117.at11 R x1 x7)
  (opt (binV Tryz.prog .add 3 (Go.Operand.tmp 23) (Go.Operand.const (Go.Value.int Go.IntKind.i64 1)) v2 (.int .i64 1)) fun v10 =>
  opt (binV Tryz.prog .lss 3 (Go.Operand.tmp 25) (Go.Operand.tmp 26) v10 x2) fun v11 =>
  grdK v11 true (fun c12 => c12 x0) fun v13 =>
  grdK v11 true (fun c14 => c14 v10) fun v15 =>
  grdK v11 true (fun c16 => c16 v2) fun v17 =>
  grdK v11 true (fun c18 => callI Tryz.prog v13 "Less" [v15, v17] fun v19 =>
  c18 v19) fun v20 =>
  opt (pickV v11 v20 (.bool false)) fun v21 =>
  cnd v21
  (f117.at8 R x0 x1 x2 x7 v10)
  (f117.at8 R x0 x1 x2 x7 v2))
theorem f117.b2_eq : (fun (R : Value → HPred) (x0 x1 x2 x7 : Value) (r : Regs) => f117.den R true (stk Tryz.f117 2) (over [0, 1, 2, 7] [x0, x1, x2, x7] r) []) = (fun (R : Value → HPred) (x0 x1 x2 x7 : Value) (_ : Regs) => f117.b2 R x0 x1 x2 x7) := by kernel_rfl
theorem f117.b2_ok {R : Value → HPred} {x0 x1 x2 x7 : Value} {H : Hp} (h : f117.b2 R x0 x1 x2 x7 H) : f117.at2 R x0 x1 x2 x7 H :=
  At.of_den mixed (f := 1000) (cuts := f117.cuts) (plans := f117.plans) fun r => Eq.mpr (congrFun (congrFun (congrFun (congrFun (congrFun (congrFun (congrFun (f117.b2_eq) R) x0) x1) x2) x7) r) H) h
def f117.b8 (R : Value → HPred) (x0 x1 x2 x7 x9 : Value) : HPred :=
  callI Tryz.prog x0 "Less" [x9, x7] fun v1 =>
  opt (pureRun Tryz.prog (Op.unary .not v1)) fun v2 =>
  cnd v2
  (f117.at11 R x1 x7)
  (callI Tryz.prog x0 "Swap" [x7, x9] fun v3 =>
  f117.at2 R x0 x1 x2 x9)
theorem f117.b8_eq : (fun (R : Value → HPred) (x0 x1 x2 x7 x9 : Value) (r : Regs) => f117.den R true (stk Tryz.f117 8) (over [0, 1, 2, 7, 9] [x0, x1, x2, x7, x9] r) []) = (fun (R : Value → HPred) (x0 x1 x2 x7 x9 : Value) (_ : Regs) => f117.b8 R x0 x1 x2 x7 x9) := by kernel_rfl
theorem f117.b8_ok {R : Value → HPred} {x0 x1 x2 x7 x9 : Value} {H : Hp} (h : f117.b8 R x0 x1 x2 x7 x9 H) : f117.at8 R x0 x1 x2 x7 x9 H :=
  At.of_den mixed (f := 1000) (cuts := f117.cuts) (plans := f117.plans) fun r => Eq.mpr (congrFun (congrFun (congrFun (congrFun (congrFun (congrFun (congrFun (congrFun (f117.b8_eq) R) x0) x1) x2) x7) x9) r) H) h
def f117.b11 (R : Value → HPred) (x1 x7 : Value) : HPred :=
  opt (binV Tryz.prog .gtr 3 (Go.Operand.tmp 45) (Go.Operand.tmp 46) x7 x1) fun v1 =>
  R v1
theorem f117.b11_eq : (fun (R : Value → HPred) (x1 x7 : Value) (r : Regs) => f117.den R true (stk Tryz.f117 11) (over [1, 7] [x1, x7] r) []) = (fun (R : Value → HPred) (x1 x7 : Value) (_ : Regs) => f117.b11 R x1 x7) := by kernel_rfl
theorem f117.b11_ok {R : Value → HPred} {x1 x7 : Value} {H : Hp} (h : f117.b11 R x1 x7 H) : f117.at11 R x1 x7 H :=
  At.of_den mixed (f := 1000) (cuts := f117.cuts) (plans := f117.plans) fun r => Eq.mpr (congrFun (congrFun (congrFun (congrFun (congrFun (f117.b11_eq) R) x1) x7) r) H) h
def f117.b (R : Value → HPred) (x0 x1 x2 : Value) : HPred :=
  f117.at2 R x0 x1 x2 x1
theorem f117.b_eq : (fun (R : Value → HPred) (x0 x1 x2 : Value) => f117.den R false (bodyOf Tryz.f117) (regsOf [x0, x1, x2]) []) = (fun (R : Value → HPred) (x0 x1 x2 : Value) => f117.b R x0 x1 x2) := by kernel_rfl
theorem f117.call {R : Value → HPred} {x0 x1 x2 : Value} {H : Hp} (h : f117.b R x0 x1 x2 H) : HC Tryz.prog 117 #[x0, x1, x2] R H :=
  HC.of_den mixed (cuts := f117.cuts) (plans := f117.plans) (args := [x0, x1, x2]) Tryz.func117 (by kernel_rfl) (fun w => Tryz.call117 _ w) (by kernel_rfl) (Eq.mpr (congrFun (congrFun (congrFun (congrFun (congrFun (f117.b_eq) R) x0) x1) x2) H) h)
/-! f118: container/heap.up -/
def f118.at0 (R : Value → HPred) (x0 x1 : Value) : HPred := At Tryz.prog 23 (RQ Tryz.prog Tryz.f118.results.toList R) (stk Tryz.f118 0) [0, 1] [x0, x1] []
def f118.cuts : List (Nat × List Nat) := [(0, [0, 1])]
def f118.plans : List (Nat × Plan) := []
def f118.den (R : Value → HPred) (first : Bool) (k : List Item) (r : Regs) (ds : List Deferred) : HPred := Sx.den Tryz.prog 23 (RQ Tryz.prog Tryz.f118.results.toList R) f118.cuts f118.plans 1000 first k r ds
def f118.b0 (R : Value → HPred) (x0 x1 : Value) : HPred :=
  opt (binV Tryz.prog .sub 3 (Go.Operand.tmp 5) (Go.Operand.const (Go.Value.int Go.IntKind.i64 1)) x1 (.int .i64 1)) fun v1 =>
  opt (binV Tryz.prog .quo 3 (Go.Operand.tmp 6) (Go.Operand.const (Go.Value.int Go.IntKind.i64 2)) v1 (.int .i64 2)) fun v2 =>
  opt (binV Tryz.prog .eql 3 (Go.Operand.tmp 8) (Go.Operand.tmp 9) v2 x1) fun v3 =>
  grdK v3 false (fun c4 => c4 x0) fun v5 =>
  grdK v3 false (fun c6 => c6 x1) fun v7 =>
  grdK v3 false (fun c8 => c8 v2) fun v9 =>
  grdK v3 false (fun c10 => callI Tryz.prog v5 "Less" [v7, v9] fun v11 =>
  c10 v11) fun v12 =>
  grdK v3 false (fun c13 => opt (pureRun Tryz.prog (Op.unary .not v12)) fun v14 =>
  c13 v14) fun v15 =>
  opt (pickV v3 (.bool true) v15) fun v16 =>
  cnd v16
  (R (.tuple #[]))
  (callI Tryz.prog x0 "Swap" [v2, x1] fun v17 =>
  f118.at0 R x0 v2)
theorem f118.b0_eq : (fun (R : Value → HPred) (x0 x1 : Value) (r : Regs) => f118.den R true (stk Tryz.f118 0) (over [0, 1] [x0, x1] r) []) = (fun (R : Value → HPred) (x0 x1 : Value) (_ : Regs) => f118.b0 R x0 x1) := by kernel_rfl
theorem f118.b0_ok {R : Value → HPred} {x0 x1 : Value} {H : Hp} (h : f118.b0 R x0 x1 H) : f118.at0 R x0 x1 H :=
  At.of_den mixed (f := 1000) (cuts := f118.cuts) (plans := f118.plans) fun r => Eq.mpr (congrFun (congrFun (congrFun (congrFun (congrFun (f118.b0_eq) R) x0) x1) r) H) h
def f118.b (R : Value → HPred) (x0 x1 : Value) : HPred :=
  f118.at0 R x0 x1
theorem f118.b_eq : (fun (R : Value → HPred) (x0 x1 : Value) => f118.den R false (bodyOf Tryz.f118) (regsOf [x0, x1]) []) = (fun (R : Value → HPred) (x0 x1 : Value) => f118.b R x0 x1) := by kernel_rfl
theorem f118.call {R : Value → HPred} {x0 x1 : Value} {H : Hp} (h : f118.b R x0 x1 H) : HC Tryz.prog 118 #[x0, x1] R H :=
  HC.of_den mixed (cuts := f118.cuts) (plans := f118.plans) (args := [x0, x1]) Tryz.func118 (by kernel_rfl) (fun w => Tryz.call118 _ w) (by kernel_rfl) (Eq.mpr (congrFun (congrFun (congrFun (congrFun (f118.b_eq) R) x0) x1) H) h)
/-! f119: slices.insertionSortCmpFunc[gauntlet/table.due] -/
def f119.at1 (R : Value → HPred) (x0 x1 x2 x3 x8 : Value) : HPred := At Tryz.prog 53 (RQ Tryz.prog Tryz.f119.results.toList R) (stk Tryz.f119 1) [0, 1, 2, 3, 8] [x0, x1, x2, x3, x8] []
def f119.at4 (R : Value → HPred) (x0 x1 x2 x3 x8 x9 : Value) : HPred := At Tryz.prog 53 (RQ Tryz.prog Tryz.f119.results.toList R) (stk Tryz.f119 4) [0, 1, 2, 3, 8, 9] [x0, x1, x2, x3, x8, x9] []
def f119.cuts : List (Nat × List Nat) := [(1, [0, 1, 2, 3, 8]), (4, [0, 1, 2, 3, 8, 9])]
def f119.plans : List (Nat × Plan) := [(4, (.step 0 [] (.step 1 [] (.step 2 [] (.step 3 [] (.step 4 [] (.step 5 [] (.step 6 [] (.step 7 [] (.step 8 [14, 15, 16] (.step 9 [] (.step 10 [] (.step 11 [] (.step 12 [] (.step 13 [14, 15, 16] (.act 14 (.step 15 [] (.step 16 [] .done)))))))))))))))))), (6, (.step 0 [] (.step 1 [] (.step 2 [] (.step 3 [] (.step 4 [] (.step 5 [] (.step 6 [] (.step 7 [] (.step 8 [] (.step 9 [14, 15, 16, 17] (.step 10 [] (.step 11 [] (.step 12 [] (.step 13 [14, 15, 16, 17] (.step 14 [] (.act 15 (.step 16 [] (.act 17 .done)))))))))))))))))))]
def f119.den (R : Value → HPred) (first : Bool) (k : List Item) (r : Regs) (ds : List Deferred) : HPred := Sx.den Tryz.prog 53 (RQ Tryz.prog Tryz.f119.results.toList R) f119.cuts f119.plans 1000 first k r ds
def f119.b1 (R : Value → HPred) (x0 x1 x2 x3 x8 : Value) : HPred :=
  opt (binV Tryz.prog .lss 3 (Go.Operand.tmp 12) (Go.Operand.tmp 13) x8 x2) fun v1 =>
  cnd v1
  (f119.at4 R x0 x1 x2 x3 x8 x8)
  (R (.tuple #[]))
theorem f119.b1_eq : (fun (R : Value → HPred) (x0 x1 x2 x3 x8 : Value) (r : Regs) => f119.den R true (stk Tryz.f119 1) (over [0, 1, 2, 3, 8] [x0, x1, x2, x3, x8] r) []) = (fun (R : Value → HPred) (x0 x1 x2 x3 x8 : Value) (_ : Regs) => f119.b1 R x0 x1 x2 x3 x8) := by kernel_rfl
theorem f119.b1_ok {R : Value → HPred} {x0 x1 x2 x3 x8 : Value} {H : Hp} (h : f119.b1 R x0 x1 x2 x3 x8 H) : f119.at1 R x0 x1 x2 x3 x8 H :=
  At.of_den mixed (f := 1000) (cuts := f119.cuts) (plans := f119.plans) fun r => Eq.mpr (congrFun (congrFun (congrFun (congrFun (congrFun (congrFun (congrFun (congrFun (f119.b1_eq) R) x0) x1) x2) x3) x8) r) H) h
def f119.b4 (R : Value → HPred) (x0 x1 x2 x3 x8 x9 : Value) : HPred :=
  opt (binV Tryz.prog .gtr 3 (Go.Operand.tmp 18) (Go.Operand.tmp 19) x9 x1) fun v1 =>
  grdK v1 true (fun c => c x3) fun v2 =>
  grdK v1 true (fun c => c x0) fun v3 =>
  grdK v1 true (fun c => c x9) fun v4 =>
  grdK v1 true (fun c => opt (idxS v3 v4 3) c) fun v5 =>
  grdK v1 true (fun c => rd (cellsP v5 3) c) fun v6 =>
  grdK v1 true (fun c => c x0) fun v7 =>
  grdK v1 true (fun c => c x9) fun v8 =>
  grdK v1 true (fun c => opt (binV Tryz.prog .sub 3 (Go.Operand.tmp 28) (Go.Operand.const (Go.Value.int Go.IntKind.i64 1)) v8 (.int .i64 1)) c) fun v9 =>
  grdK v1 true (fun c => opt (idxS v7 v9 3) c) fun v10 =>
  grdK v1 true (fun c => rd (cellsP v10 3) c) fun v11 =>
  grdK v1 true (fun c12 => callV Tryz.prog v2 [v6, v11] fun v13 =>
  c12 v13) fun v14 =>
  grdK v1 true (fun c => opt (binV Tryz.prog .lss 3 (Go.Operand.tmp 32) (Go.Operand.const (Go.Value.int Go.IntKind.i64 0)) v14 (.int .i64 0)) c) fun v15 =>
  opt (pickV v1 v15 (.bool false)) fun v16 =>
  cnd v16
  (opt (binV Tryz.prog .sub 3 (Go.Operand.tmp 40) (Go.Operand.const (Go.Value.int Go.IntKind.i64 1)) x9 (.int .i64 1)) fun v17 =>
  opt (binV Tryz.prog .sub 3 (Go.Operand.tmp 43) (Go.Operand.const (Go.Value.int Go.IntKind.i64 1)) x9 (.int .i64 1)) fun v18 =>
  opt (idxS x0 v18 3) fun v19 =>
  rd (cellsP v19 3) fun v20 =>
  opt (idxS x0 x9 3) fun v21 =>
  rd (cellsP v21 3) fun v22 =>
  opt (idxS x0 x9 3) fun v23 =>
  stA v23 3 v20 <|
  opt (idxS x0 v17 3) fun v24 =>
  stA v24 3 v22 <|
  opt (binV Tryz.prog .sub 3 (Go.Operand.tmp 35) (Go.Operand.const (Go.Value.int Go.IntKind.i64 1)) x9 (.int .i64 1)) fun v25 =>
  f119.at4 R x0 x1 x2 x3 x8 v25)
  (opt (binV Tryz.prog .add 3 (Go.Operand.tmp 15) (Go.Operand.const (Go.Value.int Go.IntKind.i64 1)) x8 (.int .i64 1)) fun v26 =>
  f119.at1 R x0 x1 x2 x3 v26)
theorem f119.b4_eq : (fun (R : Value → HPred) (x0 x1 x2 x3 x8 x9 : Value) (r : Regs) => f119.den R true (stk Tryz.f119 4) (over [0, 1, 2, 3, 8, 9] [x0, x1, x2, x3, x8, x9] r) []) = (fun (R : Value → HPred) (x0 x1 x2 x3 x8 x9 : Value) (_ : Regs) => f119.b4 R x0 x1 x2 x3 x8 x9) := by kernel_rfl
theorem f119.b4_ok {R : Value → HPred} {x0 x1 x2 x3 x8 x9 : Value} {H : Hp} (h : f119.b4 R x0 x1 x2 x3 x8 x9 H) : f119.at4 R x0 x1 x2 x3 x8 x9 H :=
  At.of_den mixed (f := 1000) (cuts := f119.cuts) (plans := f119.plans) fun r => Eq.mpr (congrFun (congrFun (congrFun (congrFun (congrFun (congrFun (congrFun (congrFun (congrFun (f119.b4_eq) R) x0) x1) x2) x3) x8) x9) r) H) h
def f119.b (R : Value → HPred) (x0 x1 x2 x3 : Value) : HPred :=
  opt (binV Tryz.prog .add 3 (Go.Operand.tmp 10) (Go.Operand.const (Go.Value.int Go.IntKind.i64 1)) x1 (.int .i64 1)) fun v1 =>
  f119.at1 R x0 x1 x2 x3 v1
theorem f119.b_eq : (fun (R : Value → HPred) (x0 x1 x2 x3 : Value) => f119.den R false (bodyOf Tryz.f119) (regsOf [x0, x1, x2, x3]) []) = (fun (R : Value → HPred) (x0 x1 x2 x3 : Value) => f119.b R x0 x1 x2 x3) := by kernel_rfl
theorem f119.call {R : Value → HPred} {x0 x1 x2 x3 : Value} {H : Hp} (h : f119.b R x0 x1 x2 x3 H) : HC Tryz.prog 119 #[x0, x1, x2, x3] R H :=
  HC.of_den mixed (cuts := f119.cuts) (plans := f119.plans) (args := [x0, x1, x2, x3]) Tryz.func119 (by kernel_rfl) (fun w => Tryz.call119 _ w) (by kernel_rfl) (Eq.mpr (congrFun (congrFun (congrFun (congrFun (congrFun (congrFun (f119.b_eq) R) x0) x1) x2) x3) H) h)
/-! f127: (*gauntlet/gauntletref6.Timers).find -/
def f127.at2 (R : Value → HPred) (x0 x1 x5 : Value) : HPred := At Tryz.prog 26 (RQ Tryz.prog Tryz.f127.results.toList R) (stk Tryz.f127 2) [0, 1, 5] [x0, x1, x5] []
def f127.cuts : List (Nat × List Nat) := [(2, [0, 1, 5])]
def f127.plans : List (Nat × Plan) := []
def f127.den (R : Value → HPred) (first : Bool) (k : List Item) (r : Regs) (ds : List Deferred) : HPred := Sx.den Tryz.prog 26 (RQ Tryz.prog Tryz.f127.results.toList R) f127.cuts f127.plans 1000 first k r ds
def f127.b2 (R : Value → HPred) (x0 x1 x5 : Value) : HPred :=
  opt (nilV x0) fun v1 =>
  opt (offV v1 0) fun v2 =>
  rd (cellP v2) fun v3 =>
  opt (pureRun Tryz.prog (bltN .len #[130] 3 #[false] [v3])) fun v4 =>
  opt (binV Tryz.prog .lss 3 (Go.Operand.tmp 6) (Go.Operand.tmp 11) x5 v4) fun v5 =>
  cnd v5
  (opt (nilV x0) fun v6 =>
  opt (offV v6 0) fun v7 =>
  rd (cellP v7) fun v8 =>
  opt (idxS v8 x5 2) fun v9 =>
  opt (offV v9 0) fun v10 =>
  rd (cellP v10) fun v11 =>
  opt (binV Tryz.prog .eql 3 (Go.Operand.tmp 22) (Go.Operand.tmp 23) v11 x1) fun v12 =>
  cnd v12
  (R x5)
  (opt (binV Tryz.prog .add 3 (Go.Operand.tmp 13) (Go.Operand.const (Go.Value.int Go.IntKind.i64 1)) x5 (.int .i64 1)) fun v13 =>
  f127.at2 R x0 x1 v13))
  (R (.int .i64 (-1)))
theorem f127.b2_eq : (fun (R : Value → HPred) (x0 x1 x5 : Value) (r : Regs) => f127.den R true (stk Tryz.f127 2) (over [0, 1, 5] [x0, x1, x5] r) []) = (fun (R : Value → HPred) (x0 x1 x5 : Value) (_ : Regs) => f127.b2 R x0 x1 x5) := by kernel_rfl
theorem f127.b2_ok {R : Value → HPred} {x0 x1 x5 : Value} {H : Hp} (h : f127.b2 R x0 x1 x5 H) : f127.at2 R x0 x1 x5 H :=
  At.of_den mixed (f := 1000) (cuts := f127.cuts) (plans := f127.plans) fun r => Eq.mpr (congrFun (congrFun (congrFun (congrFun (congrFun (congrFun (f127.b2_eq) R) x0) x1) x5) r) H) h
def f127.b (R : Value → HPred) (x0 x1 : Value) : HPred :=
  f127.at2 R x0 x1 (.int .i64 0)
theorem f127.b_eq : (fun (R : Value → HPred) (x0 x1 : Value) => f127.den R false (bodyOf Tryz.f127) (regsOf [x0, x1]) []) = (fun (R : Value → HPred) (x0 x1 : Value) => f127.b R x0 x1) := by kernel_rfl
theorem f127.call {R : Value → HPred} {x0 x1 : Value} {H : Hp} (h : f127.b R x0 x1 H) : HC Tryz.prog 127 #[x0, x1] R H :=
  HC.of_den mixed (cuts := f127.cuts) (plans := f127.plans) (args := [x0, x1]) Tryz.func127 (by kernel_rfl) (fun w => Tryz.call127 _ w) (by kernel_rfl) (Eq.mpr (congrFun (congrFun (congrFun (congrFun (f127.b_eq) R) x0) x1) H) h)
/-! f128: gauntlet/gauntletref23.played -/
def f128.cuts : List (Nat × List Nat) := []
def f128.plans : List (Nat × Plan) := []
def f128.den (R : Value → HPred) (first : Bool) (k : List Item) (r : Regs) (ds : List Deferred) : HPred := Sx.den Tryz.prog 20 (RQ Tryz.prog Tryz.f128.results.toList R) f128.cuts f128.plans 1000 first k r ds
def f128.b (R : Value → HPred) (x0 : Value) : HPred :=
  opt (nilV x0) fun v1 =>
  opt (offV v1 11) fun v2 =>
  rd (cellP v2) fun v3 =>
  grdK v3 true (fun c4 => c4 x0) fun v5 =>
  grdK v3 true (fun c6 => opt (nilV v5) fun v7 =>
  c6 v7) fun v8 =>
  grdK v3 true (fun c9 => opt (offV v8 12) fun v10 =>
  c9 v10) fun v11 =>
  grdK v3 true (fun c12 => rd (cellP v11) fun v13 =>
  c12 v13) fun v14 =>
  grdK v3 true (fun c15 => opt (pureRun Tryz.prog (Op.unary .not v14)) fun v16 =>
  c15 v16) fun v17 =>
  opt (pickV v3 v17 (.bool false)) fun v18 =>
  grdK v18 true (fun c19 => c19 x0) fun v20 =>
  grdK v18 true (fun c21 => callF Tryz.prog 51 [v20] fun v22 =>
  c21 v22) fun v23 =>
  grdK v18 true (fun c24 => opt (pureRun Tryz.prog (Instr.field 91 v23 3)) fun v25 =>
  c24 v25) fun v26 =>
  grdK v18 true (fun c27 => opt (pureRun Tryz.prog (Op.unary .not v26)) fun v28 =>
  c27 v28) fun v29 =>
  opt (pickV v18 v29 (.bool false)) fun v30 =>
  R v30
theorem f128.b_eq : (fun (R : Value → HPred) (x0 : Value) => f128.den R false (bodyOf Tryz.f128) (regsOf [x0]) []) = (fun (R : Value → HPred) (x0 : Value) => f128.b R x0) := by kernel_rfl
theorem f128.call {R : Value → HPred} {x0 : Value} {H : Hp} (h : f128.b R x0 H) : HC Tryz.prog 128 #[x0] R H :=
  HC.of_den mixed (cuts := f128.cuts) (plans := f128.plans) (args := [x0]) Tryz.func128 (by kernel_rfl) (fun w => Tryz.call128 _ w) (by kernel_rfl) (Eq.mpr (congrFun (congrFun (congrFun (f128.b_eq) R) x0) H) h)
/-! f129: gauntlet/gauntletref11.States -/
def f129.at7 (R : Value → HPred) (x2 x3 x9 x10 x11 : Value) : HPred := At Tryz.prog 47 (RQ Tryz.prog Tryz.f129.results.toList R) (stk Tryz.f129 7) [2, 3, 9, 10, 11] [x2, x3, x9, x10, x11] []
def f129.cuts : List (Nat × List Nat) := [(7, [2, 3, 9, 10, 11])]
def f129.plans : List (Nat × Plan) := [(9, (.step 0 [6, 7, 8, 9, 10] (.step 1 [6, 7, 8, 9, 10] (.step 2 [] (.step 3 [] (.step 4 [] (.step 5 [6, 7, 8, 9, 10] (.act 6 (.step 7 [] (.step 8 [] (.step 9 [] (.act 10 .done))))))))))))]
def f129.den (R : Value → HPred) (first : Bool) (k : List Item) (r : Regs) (ds : List Deferred) : HPred := Sx.den Tryz.prog 47 (RQ Tryz.prog Tryz.f129.results.toList R) f129.cuts f129.plans 1000 first k r ds
def f129.b7 (R : Value → HPred) (x2 x3 x9 x10 x11 : Value) : HPred :=
  opt (pureRun Tryz.prog (bltN .len #[95] 3 #[false] [x2])) fun v1 =>
  opt (binV Tryz.prog .lss 3 (Go.Operand.tmp 21) (Go.Operand.tmp 23) x11 v1) fun v2 =>
  grdK v2 true (fun c3 => opt (offV x9 18) fun v4 =>
  c3 v4) fun v5 =>
  grdK v2 true (fun c6 => rd (cellP v5) fun v7 =>
  c6 v7) fun v8 =>
  grdK v2 true (fun c9 => opt (pureRun Tryz.prog (Op.unary .not v8)) fun v10 =>
  c9 v10) fun v11 =>
  opt (pickV v2 v11 (.bool false)) fun v12 =>
  cnd v12
  (rd (cellsP x3 3) fun v13 =>
  rd (cellsP x9 20) fun v14 =>
  opt (idxS x2 x11 2) fun v15 =>
  rd (cellsP v15 2) fun v16 =>
  callF Tryz.prog 131 [v13, v14, v16] fun v17 =>
  opt (extV v17 0) fun v18 =>
  opt (extV v17 1) fun v19 =>
  stA x9 20 v18 <|
  rd (cellsP x9 20) fun v20 =>
  tot Tryz.prog (Instr.buildSlice 224 1 #[(0, v20)]) fun v21 =>
  blt Tryz.prog .append #[224, 224] 224 #[false, false] [x10, v21] fun v22 =>
  opt (binV Tryz.prog .add 3 (Go.Operand.tmp 30) (Go.Operand.const (Go.Value.int Go.IntKind.i64 1)) x11 (.int .i64 1)) fun v23 =>
  f129.at7 R x2 x3 x9 v22 v23)
  (R (.tuple #[x10, (.int .i64 0)]))
theorem f129.b7_eq : (fun (R : Value → HPred) (x2 x3 x9 x10 x11 : Value) (r : Regs) => f129.den R true (stk Tryz.f129 7) (over [2, 3, 9, 10, 11] [x2, x3, x9, x10, x11] r) []) = (fun (R : Value → HPred) (x2 x3 x9 x10 x11 : Value) (_ : Regs) => f129.b7 R x2 x3 x9 x10 x11) := by kernel_rfl
theorem f129.b7_ok {R : Value → HPred} {x2 x3 x9 x10 x11 : Value} {H : Hp} (h : f129.b7 R x2 x3 x9 x10 x11 H) : f129.at7 R x2 x3 x9 x10 x11 H :=
  At.of_den mixed (f := 1000) (cuts := f129.cuts) (plans := f129.plans) fun r => Eq.mpr (congrFun (congrFun (congrFun (congrFun (congrFun (congrFun (congrFun (congrFun (f129.b7_eq) R) x2) x3) x9) x10) x11) r) H) h
def f129.b (R : Value → HPred) (x0 x1 x2 : Value) : HPred :=
  boxM 35 x0 fun v1 =>
  rd (cellsP v1 3) fun v2 =>
  callF Tryz.prog 88 [v2] fun v3 =>
  opt (binV Tryz.prog .neq 3 (Go.Operand.tmp 14) (Go.Operand.const (Go.Value.int Go.IntKind.i64 0)) v3 (.int .i64 0)) fun v4 =>
  cnd v4
  (R (.tuple #[(.slice none 0 0), v3]))
  (callF Tryz.prog 130 [x1] fun v5 =>
  newC #[(.int .i64 0), (.int .i32 0), (.int .i32 0), (.int .i32 0), (.int .i32 0), (.int .i32 0), (.int .i32 0), (.int .i32 0), (.int .i32 0), (.int .i32 0), (.int .i32 0), (.int .i32 0), (.int .i32 0), (.int .i32 0), (.int .i32 0), (.int .i32 0), (.int .i32 0), (.int .u32 0), (.bool false), (.int .i64 0)] 91 fun v6 =>
  stA v6 20 v5 <|
  rd (cellsP v6 20) fun v7 =>
  tot Tryz.prog (Instr.buildSlice 224 1 #[(0, v7)]) fun v8 =>
  f129.at7 R x2 v1 v6 v8 (.int .i64 0))
theorem f129.b_eq : (fun (R : Value → HPred) (x0 x1 x2 : Value) => f129.den R false (bodyOf Tryz.f129) (regsOf [x0, x1, x2]) []) = (fun (R : Value → HPred) (x0 x1 x2 : Value) => f129.b R x0 x1 x2) := by kernel_rfl
theorem f129.call {R : Value → HPred} {x0 x1 x2 : Value} {H : Hp} (h : f129.b R x0 x1 x2 H) : HC Tryz.prog 129 #[x0, x1, x2] R H :=
  HC.of_den mixed (cuts := f129.cuts) (plans := f129.plans) (args := [x0, x1, x2]) Tryz.func129 (by kernel_rfl) (fun w => Tryz.call129 _ w) (by kernel_rfl) (Eq.mpr (congrFun (congrFun (congrFun (congrFun (congrFun (f129.b_eq) R) x0) x1) x2) H) h)
/-! f130: gauntlet/gauntletref10.Start -/
def f130.at3 (R : Value → HPred) (x0 x2 : Value) : HPred := At Tryz.prog 7 (RQ Tryz.prog Tryz.f130.results.toList R) (stk Tryz.f130 3) [0, 2] [x0, x2] []
def f130.cuts : List (Nat × List Nat) := [(3, [0, 2])]
def f130.plans : List (Nat × Plan) := []
def f130.den (R : Value → HPred) (first : Bool) (k : List Item) (r : Regs) (ds : List Deferred) : HPred := Sx.den Tryz.prog 7 (RQ Tryz.prog Tryz.f130.results.toList R) f130.cuts f130.plans 1000 first k r ds
def f130.b3 (R : Value → HPred) (x0 x2 : Value) : HPred :=
  opt (pureRun Tryz.prog (Instr.build 91 #[(2, x0)])) fun v1 =>
  stA x2 20 v1 <|
  rd (cellsP x2 20) fun v2 => R v2
theorem f130.b3_eq : (fun (R : Value → HPred) (x0 x2 : Value) (r : Regs) => f130.den R true (stk Tryz.f130 3) (over [0, 2] [x0, x2] r) []) = (fun (R : Value → HPred) (x0 x2 : Value) (_ : Regs) => f130.b3 R x0 x2) := by kernel_rfl
theorem f130.b3_ok {R : Value → HPred} {x0 x2 : Value} {H : Hp} (h : f130.b3 R x0 x2 H) : f130.at3 R x0 x2 H :=
  At.of_den mixed (f := 1000) (cuts := f130.cuts) (plans := f130.plans) fun r => Eq.mpr (congrFun (congrFun (congrFun (congrFun (congrFun (f130.b3_eq) R) x0) x2) r) H) h
def f130.b (R : Value → HPred) (x0 : Value) : HPred :=
  newC #[(.int .i64 0), (.int .i32 0), (.int .i32 0), (.int .i32 0), (.int .i32 0), (.int .i32 0), (.int .i32 0), (.int .i32 0), (.int .i32 0), (.int .i32 0), (.int .i32 0), (.int .i32 0), (.int .i32 0), (.int .i32 0), (.int .i32 0), (.int .i32 0), (.int .i32 0), (.int .u32 0), (.bool false), (.int .i64 0)] 91 fun v1 =>
  opt (binV Tryz.prog .eql 60 (Go.Operand.tmp 3) (Go.Operand.const (Go.Value.int Go.IntKind.u32 0)) x0 (.int .u32 0)) fun v2 =>
  cnd v2
  (f130.at3 R (.int .u32 1) v1)
  (f130.at3 R x0 v1)
theorem f130.b_eq : (fun (R : Value → HPred) (x0 : Value) => f130.den R false (bodyOf Tryz.f130) (regsOf [x0]) []) = (fun (R : Value → HPred) (x0 : Value) => f130.b R x0) := by kernel_rfl
theorem f130.call {R : Value → HPred} {x0 : Value} {H : Hp} (h : f130.b R x0 H) : HC Tryz.prog 130 #[x0] R H :=
  HC.of_den mixed (cuts := f130.cuts) (plans := f130.plans) (args := [x0]) Tryz.func130 (by kernel_rfl) (fun w => Tryz.call130 _ w) (by kernel_rfl) (Eq.mpr (congrFun (congrFun (congrFun (f130.b_eq) R) x0) H) h)
/-! f132: (*gauntlet/contest.Contest).mayOpen -/
def f132.cuts : List (Nat × List Nat) := []
def f132.plans : List (Nat × Plan) := []
def f132.den (R : Value → HPred) (first : Bool) (k : List Item) (r : Regs) (ds : List Deferred) : HPred := Sx.den Tryz.prog 37 (RQ Tryz.prog Tryz.f132.results.toList R) f132.cuts f132.plans 1000 first k r ds
def f132.b (R : Value → HPred) (x0 x1 : Value) : HPred :=
  boxM 53 x1 fun v1 =>
  opt (nilV x0) fun v2 =>
  opt (offV v2 3) fun v3 =>
  opt (offV v3 10) fun v4 =>
  rd (cellP v4) fun v5 =>
  cnd v5
  (R (.int .i64 15))
  (opt (offV v1 1) fun v6 =>
  rd (cellP v6) fun v7 =>
  opt (binV Tryz.prog .lss 3 (Go.Operand.tmp 13) (Go.Operand.const (Go.Value.int Go.IntKind.i64 1)) v7 (.int .i64 1)) fun v8 =>
  grdK v8 false (fun c9 => opt (offV v1 2) fun v10 =>
  c9 v10) fun v11 =>
  grdK v8 false (fun c12 => rd (cellP v11) fun v13 =>
  c12 v13) fun v14 =>
  grdK v8 false (fun c15 => opt (binV Tryz.prog .lss 3 (Go.Operand.tmp 17) (Go.Operand.const (Go.Value.int Go.IntKind.i64 1)) v14 (.int .i64 1)) fun v16 =>
  c15 v16) fun v17 =>
  opt (pickV v8 (.bool true) v17) fun v18 =>
  grdK v18 false (fun c19 => opt (offV v1 1) fun v20 =>
  c19 v20) fun v21 =>
  grdK v18 false (fun c22 => rd (cellP v21) fun v23 =>
  c22 v23) fun v24 =>
  grdK v18 false (fun c25 => opt (offV v1 2) fun v26 =>
  c25 v26) fun v27 =>
  grdK v18 false (fun c28 => rd (cellP v27) fun v29 =>
  c28 v29) fun v30 =>
  grdK v18 false (fun c31 => opt (binV Tryz.prog .eql 3 (Go.Operand.tmp 22) (Go.Operand.tmp 24) v24 v30) fun v32 =>
  c31 v32) fun v33 =>
  opt (pickV v18 (.bool true) v33) fun v34 =>
  grdK v34 false (fun c35 => opt (offV v1 5) fun v36 =>
  c35 v36) fun v37 =>
  grdK v34 false (fun c38 => rd (cellP v37) fun v39 =>
  c38 v39) fun v40 =>
  grdK v34 false (fun c41 => opt (binV Tryz.prog .lss 3 (Go.Operand.tmp 29) (Go.Operand.const (Go.Value.int Go.IntKind.i64 0)) v40 (.int .i64 0)) fun v42 =>
  c41 v42) fun v43 =>
  opt (pickV v34 (.bool true) v43) fun v44 =>
  grdK v44 false (fun c45 => opt (offV v1 5) fun v46 =>
  c45 v46) fun v47 =>
  grdK v44 false (fun c48 => rd (cellP v47) fun v49 =>
  c48 v49) fun v50 =>
  grdK v44 false (fun c51 => opt (binV Tryz.prog .gtr 3 (Go.Operand.tmp 34) (Go.Operand.const (Go.Value.int Go.IntKind.i64 4294967295)) v50 (.int .i64 4294967295)) fun v52 =>
  c51 v52) fun v53 =>
  opt (pickV v44 (.bool true) v53) fun v54 =>
  cnd v54
  (R (.int .i64 1))
  (R (.int .i64 0)))
theorem f132.b_eq : (fun (R : Value → HPred) (x0 x1 : Value) => f132.den R false (bodyOf Tryz.f132) (regsOf [x0, x1]) []) = (fun (R : Value → HPred) (x0 x1 : Value) => f132.b R x0 x1) := by kernel_rfl
theorem f132.call {R : Value → HPred} {x0 x1 : Value} {H : Hp} (h : f132.b R x0 x1 H) : HC Tryz.prog 132 #[x0, x1] R H :=
  HC.of_den mixed (cuts := f132.cuts) (plans := f132.plans) (args := [x0, x1]) Tryz.func132 (by kernel_rfl) (fun w => Tryz.call132 _ w) (by kernel_rfl) (Eq.mpr (congrFun (congrFun (congrFun (congrFun (f132.b_eq) R) x0) x1) H) h)
/-! f133: (*gauntlet/contest.Contest).open -/
def f133.cuts : List (Nat × List Nat) := []
def f133.plans : List (Nat × Plan) := [(1, (.step 0 [] (.step 1 [] (.step 2 [] (.step 3 [] (.step 4 [7, 15, 16, 17, 18, 19, 20, 21, 22] (.step 5 [] (.step 6 [7, 15, 16, 17, 18, 19, 20, 21, 22] (.step 7 [] (.step 8 [] (.step 9 [10, 19, 20, 21, 22] (.step 10 [] (.step 11 [] (.step 12 [] (.step 13 [] (.act 14 (.step 15 [] (.step 16 [] (.step 17 [] (.act 18 (.step 19 [] (.step 20 [] (.step 21 [] (.act 22 .done))))))))))))))))))))))))]
def f133.den (R : Value → HPred) (first : Bool) (k : List Item) (r : Regs) (ds : List Deferred) : HPred := Sx.den Tryz.prog 33 (RQ Tryz.prog Tryz.f133.results.toList R) f133.cuts f133.plans 1000 first k r ds
def f133.b (R : Value → HPred) (x0 x1 : Value) : HPred :=
  boxM 53 x1 fun v1 =>
  opt (offV v1 1) fun v2 =>
  rd (cellP v2) fun v3 =>
  opt (offV v1 2) fun v4 =>
  rd (cellP v4) fun v5 =>
  opt (pureRun Tryz.prog (Instr.build 59 #[(0, v3), (1, v5)])) fun v6 =>
  opt (offV v1 5) fun v7 =>
  rd (cellP v7) fun v8 =>
  opt (pureRun Tryz.prog (Go.convert 3 60 v8)) fun v9 =>
  opt (nilV x0) fun v10 =>
  opt (offV v10 3) fun v11 =>
  opt (offV v11 10) fun v12 =>
  st v12 (.bool true) <|
  chk (fun H => cellP v7 H = some v8) <|
  chk (fun H => cellP v4 H = some v5) <|
  chk (fun H => cellP v2 H = some v3) <|
  opt (nilV x0) fun v13 =>
  opt (offV v13 3) fun v14 =>
  opt (offV v14 0) fun v15 =>
  stA v15 2 v6 <|
  chk (fun H => cellP v7 H = some v8) <|
  opt (nilV x0) fun v16 =>
  opt (offV v16 3) fun v17 =>
  opt (offV v17 2) fun v18 =>
  st v18 v9 <|
  opt (nilV x0) fun v19 =>
  opt (offV v19 3) fun v20 =>
  opt (offV v20 2) fun v21 =>
  rd (cellP v21) fun v22 =>
  callF Tryz.prog 27 [v22] fun v23 =>
  opt (nilV x0) fun v24 =>
  opt (offV v24 17) fun v25 =>
  stA v25 20 v23 <|
  R (.tuple #[])
theorem f133.b_eq : (fun (R : Value → HPred) (x0 x1 : Value) => f133.den R false (bodyOf Tryz.f133) (regsOf [x0, x1]) []) = (fun (R : Value → HPred) (x0 x1 : Value) => f133.b R x0 x1) := by kernel_rfl
theorem f133.call {R : Value → HPred} {x0 x1 : Value} {H : Hp} (h : f133.b R x0 x1 H) : HC Tryz.prog 133 #[x0, x1] R H :=
  HC.of_den mixed (cuts := f133.cuts) (plans := f133.plans) (args := [x0, x1]) Tryz.func133 (by kernel_rfl) (fun w => Tryz.call133 _ w) (by kernel_rfl) (Eq.mpr (congrFun (congrFun (congrFun (congrFun (f133.b_eq) R) x0) x1) H) h)
/-! f134: gauntlet/contest.hows$1 -/
def f134.cuts : List (Nat × List Nat) := []
def f134.plans : List (Nat × Plan) := []
def f134.den (R : Value → HPred) (first : Bool) (k : List Item) (r : Regs) (ds : List Deferred) : HPred := Sx.den Tryz.prog 7 (RQ Tryz.prog Tryz.f134.results.toList R) f134.cuts f134.plans 1000 first k r ds
def f134.b (R : Value → HPred) (x0 : Value) : HPred :=
  boxM 53 x0 fun v1 =>
  newC #[(.int .i64 0), (.int .i64 0), (.int .i64 0), (.int .i64 0), (.int .u16 0), (.int .i64 0)] 53 fun v2 =>
  opt (offV v1 1) fun v3 =>
  st v3 (.int .i64 0) <|
  opt (offV v1 2) fun v4 =>
  st v4 (.int .i64 0) <|
  opt (offV v1 5) fun v5 =>
  st v5 (.int .i64 0) <|
  rd (cellsP v1 6) fun v6 =>
  stA v2 6 v6 <|
  rd (cellsP v2 6) fun v7 => R v7
theorem f134.b_eq : (fun (R : Value → HPred) (x0 : Value) => f134.den R false (bodyOf Tryz.f134) (regsOf [x0]) []) = (fun (R : Value → HPred) (x0 : Value) => f134.b R x0) := by kernel_rfl
theorem f134.call {R : Value → HPred} {x0 : Value} {H : Hp} (h : f134.b R x0 H) : HC Tryz.prog 134 #[x0] R H :=
  HC.of_den mixed (cuts := f134.cuts) (plans := f134.plans) (args := [x0]) Tryz.func134 (by kernel_rfl) (fun w => Tryz.call134 _ w) (by kernel_rfl) (Eq.mpr (congrFun (congrFun (congrFun (f134.b_eq) R) x0) H) h)
/-! f147: gauntlet/gauntletref9.Check -/
def f147.at4 (R : Value → HPred) (x0 x4 : Value) : HPred := At Tryz.prog 23 (RQ Tryz.prog Tryz.f147.results.toList R) (stk Tryz.f147 4) [0, 4] [x0, x4] []
def f147.cuts : List (Nat × List Nat) := [(4, [0, 4])]
def f147.plans : List (Nat × Plan) := []
def f147.den (R : Value → HPred) (first : Bool) (k : List Item) (r : Regs) (ds : List Deferred) : HPred := Sx.den Tryz.prog 23 (RQ Tryz.prog Tryz.f147.results.toList R) f147.cuts f147.plans 1000 first k r ds
def f147.b4 (R : Value → HPred) (x0 x4 : Value) : HPred :=
  opt (pureRun Tryz.prog (bltN .len #[33] 3 #[false] [x0])) fun v1 =>
  opt (binV Tryz.prog .lss 3 (Go.Operand.tmp 8) (Go.Operand.tmp 10) x4 v1) fun v2 =>
  cnd v2
  (opt (idxS x0 x4 2) fun v3 =>
  rd (cellsP v3 2) fun v4 =>
  opt (pureRun Tryz.prog (bltN .len #[33] 3 #[false] [x0])) fun v5 =>
  callF Tryz.prog 173 [v4, v5] fun v6 =>
  opt (pureRun Tryz.prog (Op.unary .not v6)) fun v7 =>
  cnd v7
  (R (.tuple #[x4, (.int .i64 3)]))
  (opt (binV Tryz.prog .add 3 (Go.Operand.tmp 12) (Go.Operand.const (Go.Value.int Go.IntKind.i64 1)) x4 (.int .i64 1)) fun v8 =>
  f147.at4 R x0 v8))
  (R (.tuple #[(.int .i64 0), (.int .i64 0)]))
theorem f147.b4_eq : (fun (R : Value → HPred) (x0 x4 : Value) (r : Regs) => f147.den R true (stk Tryz.f147 4) (over [0, 4] [x0, x4] r) []) = (fun (R : Value → HPred) (x0 x4 : Value) (_ : Regs) => f147.b4 R x0 x4) := by kernel_rfl
theorem f147.b4_ok {R : Value → HPred} {x0 x4 : Value} {H : Hp} (h : f147.b4 R x0 x4 H) : f147.at4 R x0 x4 H :=
  At.of_den mixed (f := 1000) (cuts := f147.cuts) (plans := f147.plans) fun r => Eq.mpr (congrFun (congrFun (congrFun (congrFun (congrFun (f147.b4_eq) R) x0) x4) r) H) h
def f147.b (R : Value → HPred) (x0 : Value) : HPred :=
  opt (pureRun Tryz.prog (bltN .len #[33] 3 #[false] [x0])) fun v1 =>
  opt (binV Tryz.prog .gtr 3 (Go.Operand.tmp 6) (Go.Operand.const (Go.Value.int Go.IntKind.i64 256)) v1 (.int .i64 256)) fun v2 =>
  cnd v2
  (R (.tuple #[(.int .i64 0), (.int .i64 5)]))
  (f147.at4 R x0 (.int .i64 0))
theorem f147.b_eq : (fun (R : Value → HPred) (x0 : Value) => f147.den R false (bodyOf Tryz.f147) (regsOf [x0]) []) = (fun (R : Value → HPred) (x0 : Value) => f147.b R x0) := by kernel_rfl
theorem f147.call {R : Value → HPred} {x0 : Value} {H : Hp} (h : f147.b R x0 H) : HC Tryz.prog 147 #[x0] R H :=
  HC.of_den mixed (cuts := f147.cuts) (plans := f147.plans) (args := [x0]) Tryz.func147 (by kernel_rfl) (fun w => Tryz.call147 _ w) (by kernel_rfl) (Eq.mpr (congrFun (congrFun (congrFun (f147.b_eq) R) x0) H) h)
/-! f148: (*gauntlet/gauntletref6.Timers).Next -/
def f148.at5 (R : Value → HPred) (x0 x5 x6 : Value) : HPred := At Tryz.prog 76 (RQ Tryz.prog Tryz.f148.results.toList R) (stk Tryz.f148 5) [0, 5, 6] [x0, x5, x6] []
def f148.at6 (R : Value → HPred) (x0 x5 x6 : Value) : HPred := At Tryz.prog 76 (RQ Tryz.prog Tryz.f148.results.toList R) (stk Tryz.f148 6) [0, 5, 6] [x0, x5, x6] []
def f148.cuts : List (Nat × List Nat) := [(5, [0, 5, 6]), (6, [0, 5, 6])]
def f148.plans : List (Nat × Plan) := [(7, (.step 0 [] (.step 1 [] (.step 2 [] (.step 3 [5, 6, 7, 10, 11, 12, 13, 14, 15, 16, 17, 18, 19, 20, 21, 22, 23, 24, 25, 26, 27, 28, 29, 30, 31, 32, 33, 34, 35, 36] (.step 4 [] (.step 5 [] (.step 6 [] (.step 7 [10, 11, 12, 13, 14, 15, 16, 17, 18, 19, 20, 21, 22, 23, 24, 25, 26, 27, 28, 29, 30, 31, 32, 33, 34, 35, 36] (.step 8 [] (.step 9 [10, 11, 12, 13, 14, 15, 16, 17, 18, 19, 20, 21, 22, 23, 24, 25, 26, 27, 28, 29, 30, 31, 32, 33, 34, 35, 36] (.step 10 [] (.step 11 [] (.step 12 [] (.step 13 [] (.step 14 [] (.step 15 [17, 18, 19, 22, 23, 24, 25, 26, 27, 28, 29, 30, 31, 32, 33, 34, 35, 36] (.step 16 [] (.step 17 [] (.step 18 [] (.step 19 [22, 23, 24, 25, 26, 27, 28, 29, 30, 31, 32, 33, 34, 35, 36] (.step 20 [] (.step 21 [22, 23, 24, 25, 26, 27, 28, 29, 30, 31, 32, 33, 34, 35, 36] (.step 22 [] (.step 23 [] (.step 24 [] (.step 25 [] (.step 26 [] (.step 27 [29, 30, 31, 34, 35, 36] (.step 28 [] (.step 29 [] (.step 30 [] (.step 31 [34, 35, 36] (.step 32 [] (.step 33 [34, 35, 36] (.step 34 [] (.step 35 [] (.step 36 [] .done)))))))))))))))))))))))))))))))))))))), (9, (.step 0 [] (.step 1 [4, 5, 6] (.step 2 [] (.step 3 [5, 6] (.step 4 [] (.step 5 [] (.step 6 [] .done))))))))]
def f148.den (R : Value → HPred) (first : Bool) (k : List Item) (r : Regs) (ds : List Deferred) : HPred := Sx.den Tryz.prog 76 (RQ Tryz.prog Tryz.f148.results.toList R) f148.cuts f148.plans 1000 first k r ds
def f148.b5 (R : Value → HPred) (x0 x5 x6 : Value) : HPred :=
  opt (nilV x0) fun v1 =>
  opt (offV v1 0) fun v2 =>
  rd (cellP v2) fun v3 =>
  opt (pureRun Tryz.prog (bltN .len #[130] 3 #[false] [v3])) fun v4 =>
  opt (binV Tryz.prog .lss 3 (Go.Operand.tmp 19) (Go.Operand.tmp 24) x6 v4) fun v5 =>
  cnd v5
  (opt (nilV x0) fun v6 =>
  opt (offV v6 0) fun v7 =>
  rd (cellP v7) fun v8 =>
  opt (idxS v8 x6 2) fun v9 =>
  opt (offV v9 1) fun v10 =>
  rd (cellP v10) fun v11 =>
  opt (offV x5 1) fun v12 =>
  rd (cellP v12) fun v13 =>
  opt (binV Tryz.prog .lss 3 (Go.Operand.tmp 35) (Go.Operand.tmp 37) v11 v13) fun v14 =>
  grdK v14 false (fun c => c x0) fun v15 =>
  grdK v14 false (fun c => opt (nilV v15) c) fun v16 =>
  grdK v14 false (fun c => opt (offV v16 0) c) fun v17 =>
  grdK v14 false (fun c => rd (cellP v17) c) fun v18 =>
  grdK v14 false (fun c => c x6) fun v19 =>
  grdK v14 false (fun c => opt (idxS v18 v19 2) c) fun v20 =>
  grdK v14 false (fun c => opt (offV v20 1) c) fun v21 =>
  grdK v14 false (fun c => rd (cellP v21) c) fun v22 =>
  grdK v14 false (fun c => opt (offV x5 1) c) fun v23 =>
  grdK v14 false (fun c => rd (cellP v23) c) fun v24 =>
  grdK v14 false (fun c => opt (binV Tryz.prog .eql 3 (Go.Operand.tmp 47) (Go.Operand.tmp 49) v22 v24) c) fun v25 =>
  grdK v14 false (fun c => c v25) fun v26 =>
  grdK v26 true (fun c => c x0) fun v27 =>
  grdK v26 true (fun c => opt (nilV v27) c) fun v28 =>
  grdK v26 true (fun c => opt (offV v28 0) c) fun v29 =>
  grdK v26 true (fun c => rd (cellP v29) c) fun v30 =>
  grdK v26 true (fun c => c x6) fun v31 =>
  grdK v26 true (fun c => opt (idxS v30 v31 2) c) fun v32 =>
  grdK v26 true (fun c => opt (offV v32 0) c) fun v33 =>
  grdK v26 true (fun c => rd (cellP v33) c) fun v34 =>
  grdK v26 true (fun c => opt (offV x5 0) c) fun v35 =>
  grdK v26 true (fun c => rd (cellP v35) c) fun v36 =>
  grdK v26 true (fun c => opt (binV Tryz.prog .lss 3 (Go.Operand.tmp 59) (Go.Operand.tmp 61) v34 v36) c) fun v37 =>
  grdK v14 false (fun c => opt (pickV v26 v37 (.bool false)) c) fun v38 =>
  opt (pickV v14 (.bool true) v38) fun v39 =>
  cnd v39
  (opt (nilV x0) fun v40 =>
  opt (offV v40 0) fun v41 =>
  rd (cellP v41) fun v42 =>
  opt (idxS v42 x6 2) fun v43 =>
  rd (cellsP v43 2) fun v44 =>
  stA x5 2 v44 <|
  f148.at6 R x0 x5 x6)
  (f148.at6 R x0 x5 x6))
  (opt (offV x5 0) fun v45 =>
  rd (cellP v45) fun v46 =>
  opt (offV x5 1) fun v47 =>
  rd (cellP v47) fun v48 =>
  R (.tuple #[v46, v48, (.bool true)]))
theorem f148.b5_eq : (fun (R : Value → HPred) (x0 x5 x6 : Value) (r : Regs) => f148.den R true (stk Tryz.f148 5) (over [0, 5, 6] [x0, x5, x6] r) []) = (fun (R : Value → HPred) (x0 x5 x6 : Value) (_ : Regs) => f148.b5 R x0 x5 x6) := by kernel_rfl
theorem f148.b5_ok {R : Value → HPred} {x0 x5 x6 : Value} {H : Hp} (h : f148.b5 R x0 x5 x6 H) : f148.at5 R x0 x5 x6 H :=
  At.of_den mixed (f := 1000) (cuts := f148.cuts) (plans := f148.plans) fun r => Eq.mpr (congrFun (congrFun (congrFun (congrFun (congrFun (congrFun (f148.b5_eq) R) x0) x5) x6) r) H) h
def f148.b6 (R : Value → HPred) (x0 x5 x6 : Value) : HPred :=
  opt (binV Tryz.prog .add 3 (Go.Operand.tmp 26) (Go.Operand.const (Go.Value.int Go.IntKind.i64 1)) x6 (.int .i64 1)) fun v1 =>
  f148.at5 R x0 x5 v1
theorem f148.b6_eq : (fun (R : Value → HPred) (x0 x5 x6 : Value) (r : Regs) => f148.den R true (stk Tryz.f148 6) (over [0, 5, 6] [x0, x5, x6] r) []) = (fun (R : Value → HPred) (x0 x5 x6 : Value) (_ : Regs) => f148.b6 R x0 x5 x6) := by kernel_rfl
theorem f148.b6_ok {R : Value → HPred} {x0 x5 x6 : Value} {H : Hp} (h : f148.b6 R x0 x5 x6 H) : f148.at6 R x0 x5 x6 H :=
  At.of_den mixed (f := 1000) (cuts := f148.cuts) (plans := f148.plans) fun r => Eq.mpr (congrFun (congrFun (congrFun (congrFun (congrFun (congrFun (f148.b6_eq) R) x0) x5) x6) r) H) h
def f148.b (R : Value → HPred) (x0 : Value) : HPred :=
  opt (nilV x0) fun v1 =>
  opt (offV v1 0) fun v2 =>
  rd (cellP v2) fun v3 =>
  opt (pureRun Tryz.prog (bltN .len #[130] 3 #[false] [v3])) fun v4 =>
  opt (binV Tryz.prog .eql 3 (Go.Operand.tmp 11) (Go.Operand.const (Go.Value.int Go.IntKind.i64 0)) v4 (.int .i64 0)) fun v5 =>
  cnd v5
  (R (.tuple #[(.int .i64 0), (.int .i64 0), (.bool false)]))
  (opt (nilV x0) fun v6 =>
  opt (offV v6 0) fun v7 =>
  rd (cellP v7) fun v8 =>
  opt (idxS v8 (.int .i64 0) 2) fun v9 =>
  rd (cellsP v9 2) fun v10 =>
  newC #[(.int .i64 0), (.int .i64 0)] 222 fun v11 =>
  stA v11 2 v10 <|
  f148.at5 R x0 v11 (.int .i64 1))
theorem f148.b_eq : (fun (R : Value → HPred) (x0 : Value) => f148.den R false (bodyOf Tryz.f148) (regsOf [x0]) []) = (fun (R : Value → HPred) (x0 : Value) => f148.b R x0) := by kernel_rfl
theorem f148.call {R : Value → HPred} {x0 : Value} {H : Hp} (h : f148.b R x0 H) : HC Tryz.prog 148 #[x0] R H :=
  HC.of_den mixed (cuts := f148.cuts) (plans := f148.plans) (args := [x0]) Tryz.func148 (by kernel_rfl) (fun w => Tryz.call148 _ w) (by kernel_rfl) (Eq.mpr (congrFun (congrFun (congrFun (f148.b_eq) R) x0) H) h)
/-! f149: gauntlet/code.upTo -/
def f149.cuts : List (Nat × List Nat) := []
def f149.plans : List (Nat × Plan) := []
def f149.den (R : Value → HPred) (first : Bool) (k : List Item) (r : Regs) (ds : List Deferred) : HPred := Sx.den Tryz.prog 4 (RQ Tryz.prog Tryz.f149.results.toList R) f149.cuts f149.plans 1000 first k r ds
def f149.b (R : Value → HPred) (x0 : Value) : HPred :=
  boxM 3 x0 fun v1 =>
  R (.func (Go.Fn.func 174) #[] #[v1])
theorem f149.b_eq : (fun (R : Value → HPred) (x0 : Value) => f149.den R false (bodyOf Tryz.f149) (regsOf [x0]) []) = (fun (R : Value → HPred) (x0 : Value) => f149.b R x0) := by kernel_rfl
theorem f149.call {R : Value → HPred} {x0 : Value} {H : Hp} (h : f149.b R x0 H) : HC Tryz.prog 149 #[x0] R H :=
  HC.of_den mixed (cuts := f149.cuts) (plans := f149.plans) (args := [x0]) Tryz.func149 (by kernel_rfl) (fun w => Tryz.call149 _ w) (by kernel_rfl) (Eq.mpr (congrFun (congrFun (congrFun (f149.b_eq) R) x0) H) h)
/-! f150: gauntlet/code.number -/
def f150.cuts : List (Nat × List Nat) := []
def f150.plans : List (Nat × Plan) := []
def f150.den (R : Value → HPred) (first : Bool) (k : List Item) (r : Regs) (ds : List Deferred) : HPred := Sx.den Tryz.prog 11 (RQ Tryz.prog Tryz.f150.results.toList R) f150.cuts f150.plans 1000 first k r ds
def f150.b (R : Value → HPred) (x0 x1 : Value) : HPred :=
  opt (binV Tryz.prog .geq 3 (Go.Operand.tmp 5) (Go.Operand.const (Go.Value.int Go.IntKind.i64 (-2147483648))) x0 (.int .i64 (-2147483648))) fun v1 =>
  grdK v1 true (fun c2 => c2 x0) fun v3 =>
  grdK v1 true (fun c4 => opt (binV Tryz.prog .leq 3 (Go.Operand.tmp 8) (Go.Operand.const (Go.Value.int Go.IntKind.i64 2147483647)) v3 (.int .i64 2147483647)) fun v5 =>
  c4 v5) fun v6 =>
  opt (pickV v1 v6 (.bool false)) fun v7 =>
  R v7
theorem f150.b_eq : (fun (R : Value → HPred) (x0 x1 : Value) => f150.den R false (bodyOf Tryz.f150) (regsOf [x0, x1]) []) = (fun (R : Value → HPred) (x0 x1 : Value) => f150.b R x0 x1) := by kernel_rfl
theorem f150.call {R : Value → HPred} {x0 x1 : Value} {H : Hp} (h : f150.b R x0 x1 H) : HC Tryz.prog 150 #[x0, x1] R H :=
  HC.of_den mixed (cuts := f150.cuts) (plans := f150.plans) (args := [x0, x1]) Tryz.func150 (by kernel_rfl) (fun w => Tryz.call150 _ w) (by kernel_rfl) (Eq.mpr (congrFun (congrFun (congrFun (congrFun (f150.b_eq) R) x0) x1) H) h)
end Go.Proofs.YtnnheophehnioaaGreat
namespace Go.Proofs.YtnnheophehnioaaGreat
open Go.Sx Go.Proofs
set_option maxRecDepth 100000
set_option linter.unusedVariables false
/-! f151: gauntlet/code.place -/
def f151.cuts : List (Nat × List Nat) := []
def f151.plans : List (Nat × Plan) := []
def f151.den (R : Value → HPred) (first : Bool) (k : List Item) (r : Regs) (ds : List Deferred) : HPred := Sx.den Tryz.prog 12 (RQ Tryz.prog Tryz.f151.results.toList R) f151.cuts f151.plans 1000 first k r ds
def f151.b (R : Value → HPred) (x0 x1 : Value) : HPred :=
  opt (binV Tryz.prog .geq 3 (Go.Operand.tmp 5) (Go.Operand.const (Go.Value.int Go.IntKind.i64 0)) x0 (.int .i64 0)) fun v1 =>
  grdK v1 true (fun c2 => c2 x0) fun v3 =>
  grdK v1 true (fun c4 => c4 x1) fun v5 =>
  grdK v1 true (fun c6 => opt (binV Tryz.prog .leq 3 (Go.Operand.tmp 8) (Go.Operand.tmp 9) v3 v5) fun v7 =>
  c6 v7) fun v8 =>
  opt (pickV v1 v8 (.bool false)) fun v9 =>
  R v9
theorem f151.b_eq : (fun (R : Value → HPred) (x0 x1 : Value) => f151.den R false (bodyOf Tryz.f151) (regsOf [x0, x1]) []) = (fun (R : Value → HPred) (x0 x1 : Value) => f151.b R x0 x1) := by kernel_rfl
theorem f151.call {R : Value → HPred} {x0 x1 : Value} {H : Hp} (h : f151.b R x0 x1 H) : HC Tryz.prog 151 #[x0, x1] R H :=
  HC.of_den mixed (cuts := f151.cuts) (plans := f151.plans) (args := [x0, x1]) Tryz.func151 (by kernel_rfl) (fun w => Tryz.call151 _ w) (by kernel_rfl) (Eq.mpr (congrFun (congrFun (congrFun (congrFun (f151.b_eq) R) x0) x1) H) h)
/-! f164: slices.Index[[]int,int] -/
def f164.at2 (R : Value → HPred) (x0 x1 x7 x8 : Value) : HPred := At Tryz.prog 19 (RQ Tryz.prog Tryz.f164.results.toList R) (stk Tryz.f164 2) [0, 1, 7, 8] [x0, x1, x7, x8] []
def f164.cuts : List (Nat × List Nat) := [(2, [0, 1, 7, 8])]
def f164.plans : List (Nat × Plan) := []
def f164.den (R : Value → HPred) (first : Bool) (k : List Item) (r : Regs) (ds : List Deferred) : HPred := Sx.den Tryz.prog 19 (RQ Tryz.prog Tryz.f164.results.toList R) f164.cuts f164.plans 1000 first k r ds
def f164.b2 (R : Value → HPred) (x0 x1 x7 x8 : Value) : HPred :=
  opt (binV Tryz.prog .lss 3 (Go.Operand.tmp 8) (Go.Operand.tmp 7) x8 x7) fun v1 =>
  cnd v1
  (opt (idxS x0 x8 1) fun v2 =>
  rd (cellP v2) fun v3 =>
  opt (binV Tryz.prog .eql 3 (Go.Operand.tmp 11) (Go.Operand.tmp 15) x1 v3) fun v4 =>
  cnd v4
  (R x8)
  (opt (binV Tryz.prog .add 3 (Go.Operand.tmp 8) (Go.Operand.const (Go.Value.int Go.IntKind.i64 1)) x8 (.int .i64 1)) fun v5 =>
  f164.at2 R x0 x1 x7 v5))
  (R (.int .i64 (-1)))
theorem f164.b2_eq : (fun (R : Value → HPred) (x0 x1 x7 x8 : Value) (r : Regs) => f164.den R true (stk Tryz.f164 2) (over [0, 1, 7, 8] [x0, x1, x7, x8] r) []) = (fun (R : Value → HPred) (x0 x1 x7 x8 : Value) (_ : Regs) => f164.b2 R x0 x1 x7 x8) := by kernel_rfl
theorem f164.b2_ok {R : Value → HPred} {x0 x1 x7 x8 : Value} {H : Hp} (h : f164.b2 R x0 x1 x7 x8 H) : f164.at2 R x0 x1 x7 x8 H :=
  At.of_den mixed (f := 1000) (cuts := f164.cuts) (plans := f164.plans) fun r => Eq.mpr (congrFun (congrFun (congrFun (congrFun (congrFun (congrFun (congrFun (f164.b2_eq) R) x0) x1) x7) x8) r) H) h
def f164.b (R : Value → HPred) (x0 x1 : Value) : HPred :=
  opt (pureRun Tryz.prog (bltN .len #[22] 3 #[false] [x0])) fun v1 =>
  f164.at2 R x0 x1 v1 (.int .i64 0)
theorem f164.b_eq : (fun (R : Value → HPred) (x0 x1 : Value) => f164.den R false (bodyOf Tryz.f164) (regsOf [x0, x1]) []) = (fun (R : Value → HPred) (x0 x1 : Value) => f164.b R x0 x1) := by kernel_rfl
theorem f164.call {R : Value → HPred} {x0 x1 : Value} {H : Hp} (h : f164.b R x0 x1 H) : HC Tryz.prog 164 #[x0, x1] R H :=
  HC.of_den mixed (cuts := f164.cuts) (plans := f164.plans) (args := [x0, x1]) Tryz.func164 (by kernel_rfl) (fun w => Tryz.call164 _ w) (by kernel_rfl) (Eq.mpr (congrFun (congrFun (congrFun (congrFun (f164.b_eq) R) x0) x1) H) h)
/-! f173: gauntlet/gauntletref9.may -/
def f173.at6 (R : Value → HPred) (x2 : Value) : HPred := At Tryz.prog 73 (RQ Tryz.prog Tryz.f173.results.toList R) (stk Tryz.f173 6) [2] [x2] []
def f173.at7 (R : Value → HPred) (x1 x2 x6 : Value) : HPred := At Tryz.prog 73 (RQ Tryz.prog Tryz.f173.results.toList R) (stk Tryz.f173 7) [1, 2, 6] [x1, x2, x6] []
def f173.at11 (R : Value → HPred) (x1 x2 : Value) : HPred := At Tryz.prog 73 (RQ Tryz.prog Tryz.f173.results.toList R) (stk Tryz.f173 11) [1, 2] [x1, x2] []
def f173.at12 (R : Value → HPred) (x2 x6 : Value) : HPred := At Tryz.prog 73 (RQ Tryz.prog Tryz.f173.results.toList R) (stk Tryz.f173 12) [2, 6] [x2, x6] []
def f173.cuts : List (Nat × List Nat) := [(6, [2]), (7, [1, 2, 6]), (11, [1, 2]), (12, [2, 6])]
def f173.plans : List (Nat × Plan) := []
def f173.den (R : Value → HPred) (first : Bool) (k : List Item) (r : Regs) (ds : List Deferred) : HPred := Sx.den Tryz.prog 73 (RQ Tryz.prog Tryz.f173.results.toList R) f173.cuts f173.plans 1000 first k r ds
def f173.b6 (R : Value → HPred) (x2 : Value) : HPred :=
  opt (offV x2 1) fun v1 =>
  rd (cellP v1) fun v2 =>
  opt (binV Tryz.prog .geq 3 (Go.Operand.tmp 21) (Go.Operand.const (Go.Value.int Go.IntKind.i64 0)) v2 (.int .i64 0)) fun v3 =>
  grdK v3 true (fun c4 => opt (offV x2 1) fun v5 =>
  c4 v5) fun v6 =>
  grdK v3 true (fun c7 => rd (cellP v6) fun v8 =>
  c7 v8) fun v9 =>
  grdK v3 true (fun c10 => opt (binV Tryz.prog .lss 3 (Go.Operand.tmp 25) (Go.Operand.const (Go.Value.int Go.IntKind.i64 16)) v9 (.int .i64 16)) fun v11 =>
  c10 v11) fun v12 =>
  opt (pickV v3 v12 (.bool false)) fun v13 =>
  R v13
theorem f173.b6_eq : (fun (R : Value → HPred) (x2 : Value) (r : Regs) => f173.den R true (stk Tryz.f173 6) (over [2] [x2] r) []) = (fun (R : Value → HPred) (x2 : Value) (_ : Regs) => f173.b6 R x2) := by kernel_rfl
theorem f173.b6_ok {R : Value → HPred} {x2 : Value} {H : Hp} (h : f173.b6 R x2 H) : f173.at6 R x2 H :=
  At.of_den mixed (f := 1000) (cuts := f173.cuts) (plans := f173.plans) fun r => Eq.mpr (congrFun (congrFun (congrFun (congrFun (f173.b6_eq) R) x2) r) H) h
def f173.b7 (R : Value → HPred) (x1 x2 x6 : Value) : HPred :=
  opt (binV Tryz.prog .eql 3 (Go.Operand.tmp 6) (Go.Operand.const (Go.Value.int Go.IntKind.i64 16)) x6 (.int .i64 16)) fun v1 =>
  cnd v1
  (opt (offV x2 1) fun v2 =>
  rd (cellP v2) fun v3 =>
  opt (binV Tryz.prog .eql 3 (Go.Operand.tmp 31) (Go.Operand.const (Go.Value.int Go.IntKind.i64 0)) v3 (.int .i64 0)) fun v4 =>
  grdK v4 false (fun c5 => opt (offV x2 1) fun v6 =>
  c5 v6) fun v7 =>
  grdK v4 false (fun c8 => rd (cellP v7) fun v9 =>
  c8 v9) fun v10 =>
  grdK v4 false (fun c11 => opt (binV Tryz.prog .eql 3 (Go.Operand.tmp 35) (Go.Operand.const (Go.Value.int Go.IntKind.i64 1)) v10 (.int .i64 1)) fun v12 =>
  c11 v12) fun v13 =>
  opt (pickV v4 (.bool true) v13) fun v14 =>
  R v14)
  (opt (binV Tryz.prog .eql 3 (Go.Operand.tmp 6) (Go.Operand.const (Go.Value.int Go.IntKind.i64 18)) x6 (.int .i64 18)) fun v15 =>
  cnd v15
  (cnd v15
  (f173.at11 R x1 x2)
  (f173.at12 R x2 x6))
  (opt (binV Tryz.prog .eql 3 (Go.Operand.tmp 6) (Go.Operand.const (Go.Value.int Go.IntKind.i64 19)) x6 (.int .i64 19)) fun v16 =>
  cnd v16
  (f173.at11 R x1 x2)
  (f173.at12 R x2 x6)))
theorem f173.b7_eq : (fun (R : Value → HPred) (x1 x2 x6 : Value) (r : Regs) => f173.den R true (stk Tryz.f173 7) (over [1, 2, 6] [x1, x2, x6] r) []) = (fun (R : Value → HPred) (x1 x2 x6 : Value) (_ : Regs) => f173.b7 R x1 x2 x6) := by kernel_rfl
theorem f173.b7_ok {R : Value → HPred} {x1 x2 x6 : Value} {H : Hp} (h : f173.b7 R x1 x2 x6 H) : f173.at7 R x1 x2 x6 H :=
  At.of_den mixed (f := 1000) (cuts := f173.cuts) (plans := f173.plans) fun r => Eq.mpr (congrFun (congrFun (congrFun (congrFun (congrFun (congrFun (f173.b7_eq) R) x1) x2) x6) r) H) h
def f173.b11 (R : Value → HPred) (x1 x2 : Value) : HPred :=
  opt (offV x2 1) fun v1 =>
  rd (cellP v1) fun v2 =>
  opt (binV Tryz.prog .geq 3 (Go.Operand.tmp 42) (Go.Operand.const (Go.Value.int Go.IntKind.i64 0)) v2 (.int .i64 0)) fun v3 =>
  grdK v3 true (fun c4 => opt (offV x2 1) fun v5 =>
  c4 v5) fun v6 =>
  grdK v3 true (fun c7 => rd (cellP v6) fun v8 =>
  c7 v8) fun v9 =>
  grdK v3 true (fun c10 => c10 x1) fun v11 =>
  grdK v3 true (fun c12 => opt (binV Tryz.prog .leq 3 (Go.Operand.tmp 46) (Go.Operand.tmp 47) v9 v11) fun v13 =>
  c12 v13) fun v14 =>
  opt (pickV v3 v14 (.bool false)) fun v15 =>
  R v15
theorem f173.b11_eq : (fun (R : Value → HPred) (x1 x2 : Value) (r : Regs) => f173.den R true (stk Tryz.f173 11) (over [1, 2] [x1, x2] r) []) = (fun (R : Value → HPred) (x1 x2 : Value) (_ : Regs) => f173.b11 R x1 x2) := by kernel_rfl
theorem f173.b11_ok {R : Value → HPred} {x1 x2 : Value} {H : Hp} (h : f173.b11 R x1 x2 H) : f173.at11 R x1 x2 H :=
  At.of_den mixed (f := 1000) (cuts := f173.cuts) (plans := f173.plans) fun r => Eq.mpr (congrFun (congrFun (congrFun (congrFun (congrFun (f173.b11_eq) R) x1) x2) r) H) h
def f173.b12 (R : Value → HPred) (x2 x6 : Value) : HPred :=
  opt (binV Tryz.prog .eql 3 (Go.Operand.tmp 6) (Go.Operand.const (Go.Value.int Go.IntKind.i64 20)) x6 (.int .i64 20)) fun v1 =>
  cnd v1
  (opt (offV x2 1) fun v2 =>
  rd (cellP v2) fun v3 =>
  opt (binV Tryz.prog .geq 3 (Go.Operand.tmp 53) (Go.Operand.const (Go.Value.int Go.IntKind.i64 0)) v3 (.int .i64 0)) fun v4 =>
  grdK v4 true (fun c5 => opt (offV x2 1) fun v6 =>
  c5 v6) fun v7 =>
  grdK v4 true (fun c8 => rd (cellP v7) fun v9 =>
  c8 v9) fun v10 =>
  grdK v4 true (fun c11 => opt (binV Tryz.prog .leq 3 (Go.Operand.tmp 57) (Go.Operand.const (Go.Value.int Go.IntKind.i64 2)) v10 (.int .i64 2)) fun v12 =>
  c11 v12) fun v13 =>
  opt (pickV v4 v13 (.bool false)) fun v14 =>
  R v14)
  (opt (offV x2 0) fun v15 =>
  rd (cellP v15) fun v16 =>
  opt (binV Tryz.prog .geq 3 (Go.Operand.tmp 61) (Go.Operand.const (Go.Value.int Go.IntKind.i64 1)) v16 (.int .i64 1)) fun v17 =>
  grdK v17 true (fun c18 => opt (offV x2 0) fun v19 =>
  c18 v19) fun v20 =>
  grdK v17 true (fun c21 => rd (cellP v20) fun v22 =>
  c21 v22) fun v23 =>
  grdK v17 true (fun c24 => opt (binV Tryz.prog .leq 3 (Go.Operand.tmp 65) (Go.Operand.const (Go.Value.int Go.IntKind.i64 22)) v23 (.int .i64 22)) fun v25 =>
  c24 v25) fun v26 =>
  opt (pickV v17 v26 (.bool false)) fun v27 =>
  grdK v27 true (fun c28 => opt (offV x2 1) fun v29 =>
  c28 v29) fun v30 =>
  grdK v27 true (fun c31 => rd (cellP v30) fun v32 =>
  c31 v32) fun v33 =>
  grdK v27 true (fun c34 => opt (binV Tryz.prog .eql 3 (Go.Operand.tmp 70) (Go.Operand.const (Go.Value.int Go.IntKind.i64 0)) v33 (.int .i64 0)) fun v35 =>
  c34 v35) fun v36 =>
  opt (pickV v27 v36 (.bool false)) fun v37 =>
  R v37)
theorem f173.b12_eq : (fun (R : Value → HPred) (x2 x6 : Value) (r : Regs) => f173.den R true (stk Tryz.f173 12) (over [2, 6] [x2, x6] r) []) = (fun (R : Value → HPred) (x2 x6 : Value) (_ : Regs) => f173.b12 R x2 x6) := by kernel_rfl
theorem f173.b12_ok {R : Value → HPred} {x2 x6 : Value} {H : Hp} (h : f173.b12 R x2 x6 H) : f173.at12 R x2 x6 H :=
  At.of_den mixed (f := 1000) (cuts := f173.cuts) (plans := f173.plans) fun r => Eq.mpr (congrFun (congrFun (congrFun (congrFun (congrFun (f173.b12_eq) R) x2) x6) r) H) h
def f173.b (R : Value → HPred) (x0 x1 : Value) : HPred :=
  boxM 101 x0 fun v1 =>
  opt (offV v1 0) fun v2 =>
  rd (cellP v2) fun v3 =>
  opt (binV Tryz.prog .eql 3 (Go.Operand.tmp 6) (Go.Operand.const (Go.Value.int Go.IntKind.i64 1)) v3 (.int .i64 1)) fun v4 =>
  cnd v4
  (opt (offV v1 1) fun v5 =>
  rd (cellP v5) fun v6 =>
  opt (binV Tryz.prog .geq 3 (Go.Operand.tmp 10) (Go.Operand.const (Go.Value.int Go.IntKind.i64 (-2147483648))) v6 (.int .i64 (-2147483648))) fun v7 =>
  grdK v7 true (fun c8 => opt (offV v1 1) fun v9 =>
  c8 v9) fun v10 =>
  grdK v7 true (fun c11 => rd (cellP v10) fun v12 =>
  c11 v12) fun v13 =>
  grdK v7 true (fun c14 => opt (binV Tryz.prog .leq 3 (Go.Operand.tmp 14) (Go.Operand.const (Go.Value.int Go.IntKind.i64 2147483647)) v13 (.int .i64 2147483647)) fun v15 =>
  c14 v15) fun v16 =>
  opt (pickV v7 v16 (.bool false)) fun v17 =>
  R v17)
  (opt (binV Tryz.prog .eql 3 (Go.Operand.tmp 6) (Go.Operand.const (Go.Value.int Go.IntKind.i64 2)) v3 (.int .i64 2)) fun v18 =>
  cnd v18
  (cnd v18
  (f173.at6 R v1)
  (f173.at7 R x1 v1 v3))
  (opt (binV Tryz.prog .eql 3 (Go.Operand.tmp 6) (Go.Operand.const (Go.Value.int Go.IntKind.i64 3)) v3 (.int .i64 3)) fun v19 =>
  cnd v19
  (f173.at6 R v1)
  (f173.at7 R x1 v1 v3)))
theorem f173.b_eq : (fun (R : Value → HPred) (x0 x1 : Value) => f173.den R false (bodyOf Tryz.f173) (regsOf [x0, x1]) []) = (fun (R : Value → HPred) (x0 x1 : Value) => f173.b R x0 x1) := by kernel_rfl
theorem f173.call {R : Value → HPred} {x0 x1 : Value} {H : Hp} (h : f173.b R x0 x1 H) : HC Tryz.prog 173 #[x0, x1] R H :=
  HC.of_den mixed (cuts := f173.cuts) (plans := f173.plans) (args := [x0, x1]) Tryz.func173 (by kernel_rfl) (fun w => Tryz.call173 _ w) (by kernel_rfl) (Eq.mpr (congrFun (congrFun (congrFun (congrFun (f173.b_eq) R) x0) x1) H) h)
/-! f174: gauntlet/code.upTo$1 -/
def f174.cuts : List (Nat × List Nat) := []
def f174.plans : List (Nat × Plan) := []
def f174.den (R : Value → HPred) (first : Bool) (k : List Item) (r : Regs) (ds : List Deferred) : HPred := Sx.den Tryz.prog 13 (RQ Tryz.prog Tryz.f174.results.toList R) f174.cuts f174.plans 1000 first k r ds
def f174.b (R : Value → HPred) (x0 x1 x2 : Value) : HPred :=
  opt (binV Tryz.prog .geq 3 (Go.Operand.tmp 6) (Go.Operand.const (Go.Value.int Go.IntKind.i64 0)) x0 (.int .i64 0)) fun v1 =>
  grdK v1 true (fun c2 => c2 x0) fun v3 =>
  grdK v1 true (fun c4 => rd (cellP x2) fun v5 =>
  c4 v5) fun v6 =>
  grdK v1 true (fun c7 => opt (binV Tryz.prog .leq 3 (Go.Operand.tmp 9) (Go.Operand.tmp 10) v3 v6) fun v8 =>
  c7 v8) fun v9 =>
  opt (pickV v1 v9 (.bool false)) fun v10 =>
  R v10
theorem f174.b_eq : (fun (R : Value → HPred) (x0 x1 x2 : Value) => f174.den R false (bodyOf Tryz.f174) (regsOf [x0, x1, x2]) []) = (fun (R : Value → HPred) (x0 x1 x2 : Value) => f174.b R x0 x1 x2) := by kernel_rfl
theorem f174.call {R : Value → HPred} {x0 x1 x2 : Value} {H : Hp} (h : f174.b R x0 x1 x2 H) : HC Tryz.prog 174 #[x0, x1, x2] R H :=
  HC.of_den mixed (cuts := f174.cuts) (plans := f174.plans) (args := [x0, x1, x2]) Tryz.func174 (by kernel_rfl) (fun w => Tryz.call174 _ w) (by kernel_rfl) (Eq.mpr (congrFun (congrFun (congrFun (congrFun (congrFun (f174.b_eq) R) x0) x1) x2) H) h)
/-! f180: gauntlet/gauntletref10.truth -/
def f180.cuts : List (Nat × List Nat) := []
def f180.plans : List (Nat × Plan) := []
def f180.den (R : Value → HPred) (first : Bool) (k : List Item) (r : Regs) (ds : List Deferred) : HPred := Sx.den Tryz.prog 4 (RQ Tryz.prog Tryz.f180.results.toList R) f180.cuts f180.plans 1000 first k r ds
def f180.b (R : Value → HPred) (x0 : Value) : HPred :=
  cnd x0
  (R (.int .i32 65536))
  (R (.int .i32 0))
theorem f180.b_eq : (fun (R : Value → HPred) (x0 : Value) => f180.den R false (bodyOf Tryz.f180) (regsOf [x0]) []) = (fun (R : Value → HPred) (x0 : Value) => f180.b R x0) := by kernel_rfl
theorem f180.call {R : Value → HPred} {x0 : Value} {H : Hp} (h : f180.b R x0 H) : HC Tryz.prog 180 #[x0] R H :=
  HC.of_den mixed (cuts := f180.cuts) (plans := f180.plans) (args := [x0]) Tryz.func180 (by kernel_rfl) (fun w => Tryz.call180 _ w) (by kernel_rfl) (Eq.mpr (congrFun (congrFun (congrFun (f180.b_eq) R) x0) H) h)
/-! f181: gauntlet/gauntletref10.two -/
def f181.cuts : List (Nat × List Nat) := []
def f181.plans : List (Nat × Plan) := []
def f181.den (R : Value → HPred) (first : Bool) (k : List Item) (r : Regs) (ds : List Deferred) : HPred := Sx.den Tryz.prog 48 (RQ Tryz.prog Tryz.f181.results.toList R) f181.cuts f181.plans 1000 first k r ds
def f181.b (R : Value → HPred) (x0 x1 x2 : Value) : HPred :=
  opt (binV Tryz.prog .eql 3 (Go.Operand.tmp 7) (Go.Operand.const (Go.Value.int Go.IntKind.i64 4)) x0 (.int .i64 4)) fun v1 =>
  cnd v1
  (callF Tryz.prog 184 [x1, x2] fun v2 =>
  R v2)
  (opt (binV Tryz.prog .eql 3 (Go.Operand.tmp 7) (Go.Operand.const (Go.Value.int Go.IntKind.i64 5)) x0 (.int .i64 5)) fun v3 =>
  cnd v3
  (callF Tryz.prog 185 [x1, x2] fun v4 =>
  R v4)
  (opt (binV Tryz.prog .eql 3 (Go.Operand.tmp 7) (Go.Operand.const (Go.Value.int Go.IntKind.i64 6)) x0 (.int .i64 6)) fun v5 =>
  cnd v5
  (callF Tryz.prog 186 [x1, x2] fun v6 =>
  R v6)
  (opt (binV Tryz.prog .eql 3 (Go.Operand.tmp 7) (Go.Operand.const (Go.Value.int Go.IntKind.i64 7)) x0 (.int .i64 7)) fun v7 =>
  cnd v7
  (callF Tryz.prog 187 [x1, x2] fun v8 =>
  R v8)
  (opt (binV Tryz.prog .eql 3 (Go.Operand.tmp 7) (Go.Operand.const (Go.Value.int Go.IntKind.i64 8)) x0 (.int .i64 8)) fun v9 =>
  cnd v9
  (opt (pureRun Tryz.prog (bltN .min #[21, 21] 21 #[false, false] [x2, x1])) fun v10 =>
  R v10)
  (opt (binV Tryz.prog .eql 3 (Go.Operand.tmp 7) (Go.Operand.const (Go.Value.int Go.IntKind.i64 9)) x0 (.int .i64 9)) fun v11 =>
  cnd v11
  (opt (pureRun Tryz.prog (bltN .max #[21, 21] 21 #[false, false] [x2, x1])) fun v12 =>
  R v12)
  (opt (binV Tryz.prog .eql 3 (Go.Operand.tmp 7) (Go.Operand.const (Go.Value.int Go.IntKind.i64 10)) x0 (.int .i64 10)) fun v13 =>
  cnd v13
  (opt (binV Tryz.prog .lss 21 (Go.Operand.tmp 40) (Go.Operand.tmp 41) x1 x2) fun v14 =>
  callF Tryz.prog 180 [v14] fun v15 =>
  R v15)
  (opt (binV Tryz.prog .eql 21 (Go.Operand.tmp 44) (Go.Operand.tmp 45) x1 x2) fun v16 =>
  callF Tryz.prog 180 [v16] fun v17 =>
  R v17)))))))
theorem f181.b_eq : (fun (R : Value → HPred) (x0 x1 x2 : Value) => f181.den R false (bodyOf Tryz.f181) (regsOf [x0, x1, x2]) []) = (fun (R : Value → HPred) (x0 x1 x2 : Value) => f181.b R x0 x1 x2) := by kernel_rfl
theorem f181.call {R : Value → HPred} {x0 x1 x2 : Value} {H : Hp} (h : f181.b R x0 x1 x2 H) : HC Tryz.prog 181 #[x0, x1, x2] R H :=
  HC.of_den mixed (cuts := f181.cuts) (plans := f181.plans) (args := [x0, x1, x2]) Tryz.func181 (by kernel_rfl) (fun w => Tryz.call181 _ w) (by kernel_rfl) (Eq.mpr (congrFun (congrFun (congrFun (congrFun (congrFun (f181.b_eq) R) x0) x1) x2) H) h)
/-! f182: gauntlet/vm.isState -/
def f182.cuts : List (Nat × List Nat) := []
def f182.plans : List (Nat × Plan) := []
def f182.den (R : Value → HPred) (first : Bool) (k : List Item) (r : Regs) (ds : List Deferred) : HPred := Sx.den Tryz.prog 30 (RQ Tryz.prog Tryz.f182.results.toList R) f182.cuts f182.plans 1000 first k r ds
def f182.b (R : Value → HPred) (x0 : Value) : HPred :=
  boxM 91 x0 fun v1 =>
  opt (offV v1 0) fun v2 =>
  rd (cellP v2) fun v3 =>
  opt (binV Tryz.prog .geq 3 (Go.Operand.tmp 4) (Go.Operand.const (Go.Value.int Go.IntKind.i64 0)) v3 (.int .i64 0)) fun v4 =>
  grdK v4 true (fun c5 => opt (offV v1 0) fun v6 =>
  c5 v6) fun v7 =>
  grdK v4 true (fun c8 => rd (cellP v7) fun v9 =>
  c8 v9) fun v10 =>
  grdK v4 true (fun c11 => opt (binV Tryz.prog .leq 3 (Go.Operand.tmp 8) (Go.Operand.const (Go.Value.int Go.IntKind.i64 600)) v10 (.int .i64 600)) fun v12 =>
  c11 v12) fun v13 =>
  opt (pickV v4 v13 (.bool false)) fun v14 =>
  grdK v14 true (fun c15 => opt (offV v1 19) fun v16 =>
  c15 v16) fun v17 =>
  grdK v14 true (fun c18 => rd (cellP v17) fun v19 =>
  c18 v19) fun v20 =>
  grdK v14 true (fun c21 => opt (binV Tryz.prog .geq 3 (Go.Operand.tmp 13) (Go.Operand.const (Go.Value.int Go.IntKind.i64 0)) v20 (.int .i64 0)) fun v22 =>
  c21 v22) fun v23 =>
  opt (pickV v14 v23 (.bool false)) fun v24 =>
  grdK v24 true (fun c25 => opt (offV v1 19) fun v26 =>
  c25 v26) fun v27 =>
  grdK v24 true (fun c28 => rd (cellP v27) fun v29 =>
  c28 v29) fun v30 =>
  grdK v24 true (fun c31 => opt (binV Tryz.prog .leq 3 (Go.Operand.tmp 18) (Go.Operand.const (Go.Value.int Go.IntKind.i64 2)) v30 (.int .i64 2)) fun v32 =>
  c31 v32) fun v33 =>
  opt (pickV v24 v33 (.bool false)) fun v34 =>
  grdK v34 true (fun c35 => opt (offV v1 18) fun v36 =>
  c35 v36) fun v37 =>
  grdK v34 true (fun c38 => rd (cellP v37) fun v39 =>
  c38 v39) fun v40 =>
  grdK v34 true (fun c41 => c41 v40) fun v42 =>
  grdK v42 false (fun c43 => opt (offV v1 19) fun v44 =>
  c43 v44) fun v45 =>
  grdK v42 false (fun c46 => rd (cellP v45) fun v47 =>
  c46 v47) fun v48 =>
  grdK v42 false (fun c49 => opt (binV Tryz.prog .eql 3 (Go.Operand.tmp 26) (Go.Operand.const (Go.Value.int Go.IntKind.i64 0)) v48 (.int .i64 0)) fun v50 =>
  c49 v50) fun v51 =>
  grdK v34 true (fun c52 => opt (pickV v42 (.bool true) v51) fun v53 =>
  c52 v53) fun v54 =>
  opt (pickV v34 v54 (.bool false)) fun v55 =>
  R v55
theorem f182.b_eq : (fun (R : Value → HPred) (x0 : Value) => f182.den R false (bodyOf Tryz.f182) (regsOf [x0]) []) = (fun (R : Value → HPred) (x0 : Value) => f182.b R x0) := by kernel_rfl
theorem f182.call {R : Value → HPred} {x0 : Value} {H : Hp} (h : f182.b R x0 H) : HC Tryz.prog 182 #[x0] R H :=
  HC.of_den mixed (cuts := f182.cuts) (plans := f182.plans) (args := [x0]) Tryz.func182 (by kernel_rfl) (fun w => Tryz.call182 _ w) (by kernel_rfl) (Eq.mpr (congrFun (congrFun (congrFun (f182.b_eq) R) x0) H) h)
/-! f183: (*gauntlet/vm.machine).run -/
def f183.at3 (R : Value → HPred) (x0 x3 x5 x6 : Value) : HPred := At Tryz.prog 57 (RQ Tryz.prog Tryz.f183.results.toList R) (stk Tryz.f183 3) [0, 3, 5, 6] [x0, x3, x5, x6] []
def f183.cuts : List (Nat × List Nat) := [(3, [0, 3, 5, 6])]
def f183.plans : List (Nat × Plan) := [(3, (.step 0 [] (.step 1 [] (.step 2 [] (.step 3 [7, 8, 9, 10, 11, 12, 13, 14] (.step 4 [] (.step 5 [6, 7, 8, 9, 10, 11, 12, 13, 14] (.step 6 [] (.step 7 [] (.step 8 [] (.step 9 [] (.step 10 [] (.step 11 [] (.step 12 [13, 14] (.step 13 [] (.step 14 [] .done)))))))))))))))), (7, (.step 0 [] (.step 1 [6, 7, 9] (.step 2 [] (.step 3 [] (.step 4 [] (.step 5 [6, 7, 9] (.step 6 [] (.step 7 [9] (.act 8 (.act 9 .done))))))))))), (9, (.step 0 [] (.step 1 [2, 3, 7] (.step 2 [] (.step 3 [7] (.step 4 [] (.step 5 [] (.step 6 [7] (.act 7 .done)))))))))]
def f183.den (R : Value → HPred) (first : Bool) (k : List Item) (r : Regs) (ds : List Deferred) : HPred := Sx.den Tryz.prog 57 (RQ Tryz.prog Tryz.f183.results.toList R) f183.cuts f183.plans 1000 first k r ds
def f183.b3 (R : Value → HPred) (x0 x3 x5 x6 : Value) : HPred :=
  opt (nilV x0) fun v1 =>
  opt (offV v1 23) fun v2 =>
  rd (cellP v2) fun v3 =>
  opt (offV x3 0) fun v4 =>
  rd (cellP v4) fun v5 =>
  opt (pureRun Tryz.prog (bltN .len #[33] 3 #[false] [v5])) fun v6 =>
  opt (binV Tryz.prog .lss 3 (Go.Operand.tmp 14) (Go.Operand.tmp 17) v3 v6) fun v7 =>
  grdK v7 true (fun c => c x0) fun v8 =>
  grdK v7 true (fun c => opt (nilV v8) c) fun v9 =>
  grdK v7 true (fun c => opt (offV v9 24) c) fun v10 =>
  grdK v7 true (fun c => rd (cellP v10) c) fun v11 =>
  grdK v7 true (fun c => opt (pureRun Tryz.prog (Op.unary .not v11)) c) fun v12 =>
  opt (pickV v7 v12 (.bool false)) fun v13 =>
  cnd v13
  (opt (binV Tryz.prog .eql 3 (Go.Operand.tmp 28) (Go.Operand.const (Go.Value.int Go.IntKind.i64 0)) x6 (.int .i64 0)) fun v14 =>
  cnd v14
  (R (.int .i64 10))
  (opt (offV x3 0) fun v15 =>
  rd (cellP v15) fun v16 =>
  opt (nilV x0) fun v17 =>
  opt (offV v17 23) fun v18 =>
  rd (cellP v18) fun v19 =>
  opt (idxS v16 v19 2) fun v20 =>
  rd (cellsP v20 2) fun v21 =>
  newC #[(.int .i64 0), (.int .i64 0)] 101 fun v22 =>
  chk (fun H => cellsP v20 2 H = some v21) <|
  chk (fun H => cellP v18 H = some v19) <|
  chk (fun H => cellP v15 H = some v16) <|
  stA v22 2 v21 <|
  opt (nilV x0) fun v23 =>
  opt (offV v23 23) fun v24 =>
  rd (cellP v24) fun v25 =>
  opt (binV Tryz.prog .add 3 (Go.Operand.tmp 41) (Go.Operand.const (Go.Value.int Go.IntKind.i64 1)) v25 (.int .i64 1)) fun v26 =>
  opt (nilV x0) fun v27 =>
  opt (offV v27 23) fun v28 =>
  st v28 v26 <|
  opt (offV v22 0) fun v29 =>
  rd (cellP v29) fun v30 =>
  opt (idxA x5 v30 23 1) fun v31 =>
  rd (cellP v31) fun v32 =>
  opt (offV v22 1) fun v33 =>
  rd (cellP v33) fun v34 =>
  callV Tryz.prog v32 [x0, v34] fun v35 =>
  opt (nilV x0) fun v36 =>
  opt (offV v36 25) fun v37 =>
  rd (cellP v37) fun v38 =>
  cnd v38
  (R (.int .i64 11))
  (opt (binV Tryz.prog .sub 3 (Go.Operand.tmp 26) (Go.Operand.const (Go.Value.int Go.IntKind.i64 1)) x6 (.int .i64 1)) fun v39 =>
  f183.at3 R x0 x3 x5 v39)))
  (R (.int .i64 0))
theorem f183.b3_eq : (fun (R : Value → HPred) (x0 x3 x5 x6 : Value) (r : Regs) => f183.den R true (stk Tryz.f183 3) (over [0, 3, 5, 6] [x0, x3, x5, x6] r) []) = (fun (R : Value → HPred) (x0 x3 x5 x6 : Value) (_ : Regs) => f183.b3 R x0 x3 x5 x6) := by kernel_rfl
theorem f183.b3_ok {R : Value → HPred} {x0 x3 x5 x6 : Value} {H : Hp} (h : f183.b3 R x0 x3 x5 x6 H) : f183.at3 R x0 x3 x5 x6 H :=
  At.of_den mixed (f := 1000) (cuts := f183.cuts) (plans := f183.plans) fun r => Eq.mpr (congrFun (congrFun (congrFun (congrFun (congrFun (congrFun (congrFun (f183.b3_eq) R) x0) x3) x5) x6) r) H) h
def f183.b (R : Value → HPred) (x0 x1 : Value) : HPred :=
  boxM 35 x1 fun v1 =>
  callF Tryz.prog 188 [] fun v2 =>
  newC #[.nilFunc, .nilFunc, .nilFunc, .nilFunc, .nilFunc, .nilFunc, .nilFunc, .nilFunc, .nilFunc, .nilFunc, .nilFunc, .nilFunc, .nilFunc, .nilFunc, .nilFunc, .nilFunc, .nilFunc, .nilFunc, .nilFunc, .nilFunc, .nilFunc, .nilFunc, .nilFunc] 267 fun v3 =>
  stA v3 23 v2 <|
  opt (offV v1 2) fun v4 =>
  rd (cellP v4) fun v5 =>
  f183.at3 R x0 v1 v3 v5
theorem f183.b_eq : (fun (R : Value → HPred) (x0 x1 : Value) => f183.den R false (bodyOf Tryz.f183) (regsOf [x0, x1]) []) = (fun (R : Value → HPred) (x0 x1 : Value) => f183.b R x0 x1) := by kernel_rfl
theorem f183.call {R : Value → HPred} {x0 x1 : Value} {H : Hp} (h : f183.b R x0 x1 H) : HC Tryz.prog 183 #[x0, x1] R H :=
  HC.of_den mixed (cuts := f183.cuts) (plans := f183.plans) (args := [x0, x1]) Tryz.func183 (by kernel_rfl) (fun w => Tryz.call183 _ w) (by kernel_rfl) (Eq.mpr (congrFun (congrFun (congrFun (congrFun (f183.b_eq) R) x0) x1) H) h)
/-! f184: gauntlet/gauntletref8.Add -/
def f184.cuts : List (Nat × List Nat) := []
def f184.plans : List (Nat × Plan) := []
def f184.den (R : Value → HPred) (first : Bool) (k : List Item) (r : Regs) (ds : List Deferred) : HPred := Sx.den Tryz.prog 11 (RQ Tryz.prog Tryz.f184.results.toList R) f184.cuts f184.plans 1000 first k r ds
def f184.b (R : Value → HPred) (x0 x1 : Value) : HPred :=
  opt (pureRun Tryz.prog (Go.convert 21 2 x0)) fun v1 =>
  opt (pureRun Tryz.prog (Go.convert 21 2 x1)) fun v2 =>
  opt (binV Tryz.prog .add 2 (Go.Operand.tmp 6) (Go.Operand.tmp 8) v1 v2) fun v3 =>
  callF Tryz.prog 189 [v3] fun v4 =>
  R v4
theorem f184.b_eq : (fun (R : Value → HPred) (x0 x1 : Value) => f184.den R false (bodyOf Tryz.f184) (regsOf [x0, x1]) []) = (fun (R : Value → HPred) (x0 x1 : Value) => f184.b R x0 x1) := by kernel_rfl
theorem f184.call {R : Value → HPred} {x0 x1 : Value} {H : Hp} (h : f184.b R x0 x1 H) : HC Tryz.prog 184 #[x0, x1] R H :=
  HC.of_den mixed (cuts := f184.cuts) (plans := f184.plans) (args := [x0, x1]) Tryz.func184 (by kernel_rfl) (fun w => Tryz.call184 _ w) (by kernel_rfl) (Eq.mpr (congrFun (congrFun (congrFun (congrFun (f184.b_eq) R) x0) x1) H) h)
/-! f185: gauntlet/gauntletref8.Sub -/
def f185.cuts : List (Nat × List Nat) := []
def f185.plans : List (Nat × Plan) := []
def f185.den (R : Value → HPred) (first : Bool) (k : List Item) (r : Regs) (ds : List Deferred) : HPred := Sx.den Tryz.prog 11 (RQ Tryz.prog Tryz.f185.results.toList R) f185.cuts f185.plans 1000 first k r ds
def f185.b (R : Value → HPred) (x0 x1 : Value) : HPred :=
  opt (pureRun Tryz.prog (Go.convert 21 2 x0)) fun v1 =>
  opt (pureRun Tryz.prog (Go.convert 21 2 x1)) fun v2 =>
  opt (binV Tryz.prog .sub 2 (Go.Operand.tmp 6) (Go.Operand.tmp 8) v1 v2) fun v3 =>
  callF Tryz.prog 189 [v3] fun v4 =>
  R v4
theorem f185.b_eq : (fun (R : Value → HPred) (x0 x1 : Value) => f185.den R false (bodyOf Tryz.f185) (regsOf [x0, x1]) []) = (fun (R : Value → HPred) (x0 x1 : Value) => f185.b R x0 x1) := by kernel_rfl
theorem f185.call {R : Value → HPred} {x0 x1 : Value} {H : Hp} (h : f185.b R x0 x1 H) : HC Tryz.prog 185 #[x0, x1] R H :=
  HC.of_den mixed (cuts := f185.cuts) (plans := f185.plans) (args := [x0, x1]) Tryz.func185 (by kernel_rfl) (fun w => Tryz.call185 _ w) (by kernel_rfl) (Eq.mpr (congrFun (congrFun (congrFun (congrFun (f185.b_eq) R) x0) x1) H) h)
/-! f186: gauntlet/gauntletref8.Mul -/
def f186.cuts : List (Nat × List Nat) := []
def f186.plans : List (Nat × Plan) := []
def f186.den (R : Value → HPred) (first : Bool) (k : List Item) (r : Regs) (ds : List Deferred) : HPred := Sx.den Tryz.prog 12 (RQ Tryz.prog Tryz.f186.results.toList R) f186.cuts f186.plans 1000 first k r ds
def f186.b (R : Value → HPred) (x0 x1 : Value) : HPred :=
  opt (pureRun Tryz.prog (Go.convert 21 2 x0)) fun v1 =>
  opt (pureRun Tryz.prog (Go.convert 21 2 x1)) fun v2 =>
  opt (binV Tryz.prog .mul 2 (Go.Operand.tmp 6) (Go.Operand.tmp 8) v1 v2) fun v3 =>
  opt (binV Tryz.prog .shr 2 (Go.Operand.tmp 9) (Go.Operand.const (Go.Value.int Go.IntKind.u64 16)) v3 (.int .u64 16)) fun v4 =>
  callF Tryz.prog 189 [v4] fun v5 =>
  R v5
theorem f186.b_eq : (fun (R : Value → HPred) (x0 x1 : Value) => f186.den R false (bodyOf Tryz.f186) (regsOf [x0, x1]) []) = (fun (R : Value → HPred) (x0 x1 : Value) => f186.b R x0 x1) := by kernel_rfl
theorem f186.call {R : Value → HPred} {x0 x1 : Value} {H : Hp} (h : f186.b R x0 x1 H) : HC Tryz.prog 186 #[x0, x1] R H :=
  HC.of_den mixed (cuts := f186.cuts) (plans := f186.plans) (args := [x0, x1]) Tryz.func186 (by kernel_rfl) (fun w => Tryz.call186 _ w) (by kernel_rfl) (Eq.mpr (congrFun (congrFun (congrFun (congrFun (f186.b_eq) R) x0) x1) H) h)
/-! f187: gauntlet/gauntletref8.Div -/
def f187.cuts : List (Nat × List Nat) := []
def f187.plans : List (Nat × Plan) := []
def f187.den (R : Value → HPred) (first : Bool) (k : List Item) (r : Regs) (ds : List Deferred) : HPred := Sx.den Tryz.prog 18 (RQ Tryz.prog Tryz.f187.results.toList R) f187.cuts f187.plans 1000 first k r ds
def f187.b (R : Value → HPred) (x0 x1 : Value) : HPred :=
  opt (binV Tryz.prog .eql 21 (Go.Operand.tmp 5) (Go.Operand.const (Go.Value.int Go.IntKind.i32 0)) x1 (.int .i32 0)) fun v1 =>
  cnd v1
  (opt (binV Tryz.prog .gtr 21 (Go.Operand.tmp 7) (Go.Operand.const (Go.Value.int Go.IntKind.i32 0)) x0 (.int .i32 0)) fun v2 =>
  cnd v2
  (R (.int .i32 2147483647))
  (opt (binV Tryz.prog .lss 21 (Go.Operand.tmp 9) (Go.Operand.const (Go.Value.int Go.IntKind.i32 0)) x0 (.int .i32 0)) fun v3 =>
  cnd v3
  (R (.int .i32 (-2147483648)))
  (R (.int .i32 0))))
  (opt (pureRun Tryz.prog (Go.convert 21 2 x0)) fun v4 =>
  opt (binV Tryz.prog .mul 2 (Go.Operand.tmp 12) (Go.Operand.const (Go.Value.int Go.IntKind.i64 65536)) v4 (.int .i64 65536)) fun v5 =>
  opt (pureRun Tryz.prog (Go.convert 21 2 x1)) fun v6 =>
  opt (binV Tryz.prog .quo 2 (Go.Operand.tmp 13) (Go.Operand.tmp 15) v5 v6) fun v7 =>
  callF Tryz.prog 189 [v7] fun v8 =>
  R v8)
theorem f187.b_eq : (fun (R : Value → HPred) (x0 x1 : Value) => f187.den R false (bodyOf Tryz.f187) (regsOf [x0, x1]) []) = (fun (R : Value → HPred) (x0 x1 : Value) => f187.b R x0 x1) := by kernel_rfl
theorem f187.call {R : Value → HPred} {x0 x1 : Value} {H : Hp} (h : f187.b R x0 x1 H) : HC Tryz.prog 187 #[x0, x1] R H :=
  HC.of_den mixed (cuts := f187.cuts) (plans := f187.plans) (args := [x0, x1]) Tryz.func187 (by kernel_rfl) (fun w => Tryz.call187 _ w) (by kernel_rfl) (Eq.mpr (congrFun (congrFun (congrFun (congrFun (f187.b_eq) R) x0) x1) H) h)
/-! f188: gauntlet/vm.doers -/
def f188.cuts : List (Nat × List Nat) := []
def f188.plans : List (Nat × Plan) := []
def f188.den (R : Value → HPred) (first : Bool) (k : List Item) (r : Regs) (ds : List Deferred) : HPred := Sx.den Tryz.prog 10 (RQ Tryz.prog Tryz.f188.results.toList R) f188.cuts f188.plans 1000 first k r ds
def f188.b (R : Value → HPred) : HPred :=
  newC #[.nilFunc, .nilFunc, .nilFunc, .nilFunc, .nilFunc, .nilFunc, .nilFunc, .nilFunc, .nilFunc, .nilFunc, .nilFunc, .nilFunc, .nilFunc, .nilFunc, .nilFunc, .nilFunc, .nilFunc, .nilFunc, .nilFunc, .nilFunc, .nilFunc, .nilFunc, .nilFunc] 267 fun v1 =>
  callF Tryz.prog 193 [(.func (.func 194) #[] #[])] fun v2 =>
  callF Tryz.prog 193 [(.func (.func 195) #[] #[])] fun v3 =>
  callF Tryz.prog 193 [(.func (.func 196) #[] #[])] fun v4 =>
  callF Tryz.prog 193 [(.func (.func 197) #[] #[])] fun v5 =>
  callF Tryz.prog 193 [(.func (.func 198) #[] #[])] fun v6 =>
  callF Tryz.prog 193 [(.func (.func 199) #[] #[])] fun v7 =>
  callF Tryz.prog 193 [(.func (.func 200) #[] #[])] fun v8 =>
  callF Tryz.prog 193 [(.func (.func 201) #[] #[])] fun v9 =>
  opt (pureRun Tryz.prog (Instr.build 267 #[(1, (.func (.func 190) #[] #[])), (2, (.func (.func 191) #[] #[])), (3, (.func (.func 192) #[] #[])), (4, v2), (5, v3), (6, v4), (7, v5), (8, v6), (9, v7), (10, v8), (11, v9), (12, (.func (.func 202) #[] #[])), (13, (.func (.func 203) #[] #[])), (14, (.func (.func 204) #[] #[])), (15, (.func (.func 205) #[] #[])), (16, (.func (.func 206) #[] #[])), (17, (.func (.func 207) #[] #[])), (18, (.func (.func 208) #[] #[])), (19, (.func (.func 209) #[] #[])), (20, (.func (.func 210) #[] #[])), (21, (.func (.func 211) #[] #[])), (22, (.func (.func 212) #[] #[]))])) fun v10 =>
  stA v1 23 v10 <|
  rd (cellsP v1 23) fun v11 => R v11
theorem f188.b_eq : (fun (R : Value → HPred) => f188.den R false (bodyOf Tryz.f188) (regsOf []) []) = (fun (R : Value → HPred) => f188.b R ) := by kernel_rfl
theorem f188.call {R : Value → HPred} {H : Hp} (h : f188.b R  H) : HC Tryz.prog 188 #[] R H :=
  HC.of_den mixed (cuts := f188.cuts) (plans := f188.plans) (args := []) Tryz.func188 (by kernel_rfl) (fun w => Tryz.call188 _ w) (by kernel_rfl) (Eq.mpr (congrFun (congrFun (f188.b_eq) R) H) h)
/-! f189: gauntlet/gauntletref8.held -/
def f189.cuts : List (Nat × List Nat) := []
def f189.plans : List (Nat × Plan) := []
def f189.den (R : Value → HPred) (first : Bool) (k : List Item) (r : Regs) (ds : List Deferred) : HPred := Sx.den Tryz.prog 9 (RQ Tryz.prog Tryz.f189.results.toList R) f189.cuts f189.plans 1000 first k r ds
def f189.b (R : Value → HPred) (x0 : Value) : HPred :=
  opt (binV Tryz.prog .gtr 2 (Go.Operand.tmp 3) (Go.Operand.const (Go.Value.int Go.IntKind.i64 2147483647)) x0 (.int .i64 2147483647)) fun v1 =>
  cnd v1
  (R (.int .i32 2147483647))
  (opt (binV Tryz.prog .lss 2 (Go.Operand.tmp 5) (Go.Operand.const (Go.Value.int Go.IntKind.i64 (-2147483648))) x0 (.int .i64 (-2147483648))) fun v2 =>
  cnd v2
  (R (.int .i32 (-2147483648)))
  (opt (pureRun Tryz.prog (Go.convert 2 21 x0)) fun v3 =>
  R v3))
theorem f189.b_eq : (fun (R : Value → HPred) (x0 : Value) => f189.den R false (bodyOf Tryz.f189) (regsOf [x0]) []) = (fun (R : Value → HPred) (x0 : Value) => f189.b R x0) := by kernel_rfl
theorem f189.call {R : Value → HPred} {x0 : Value} {H : Hp} (h : f189.b R x0 H) : HC Tryz.prog 189 #[x0] R H :=
  HC.of_den mixed (cuts := f189.cuts) (plans := f189.plans) (args := [x0]) Tryz.func189 (by kernel_rfl) (fun w => Tryz.call189 _ w) (by kernel_rfl) (Eq.mpr (congrFun (congrFun (congrFun (f189.b_eq) R) x0) H) h)
/-! f190: (*gauntlet/vm.machine).number -/
def f190.cuts : List (Nat × List Nat) := []
def f190.plans : List (Nat × Plan) := []
def f190.den (R : Value → HPred) (first : Bool) (k : List Item) (r : Regs) (ds : List Deferred) : HPred := Sx.den Tryz.prog 9 (RQ Tryz.prog Tryz.f190.results.toList R) f190.cuts f190.plans 1000 first k r ds
def f190.b (R : Value → HPred) (x0 x1 : Value) : HPred :=
  opt (pureRun Tryz.prog (Go.convert 3 21 x1)) fun v1 =>
  tot Tryz.prog (Instr.buildSlice 250 1 #[(0, v1)]) fun v2 =>
  callF Tryz.prog 213 [x0, v2] fun v3 =>
  R (.tuple #[])
theorem f190.b_eq : (fun (R : Value → HPred) (x0 x1 : Value) => f190.den R false (bodyOf Tryz.f190) (regsOf [x0, x1]) []) = (fun (R : Value → HPred) (x0 x1 : Value) => f190.b R x0 x1) := by kernel_rfl
theorem f190.call {R : Value → HPred} {x0 x1 : Value} {H : Hp} (h : f190.b R x0 x1 H) : HC Tryz.prog 190 #[x0, x1] R H :=
  HC.of_den mixed (cuts := f190.cuts) (plans := f190.plans) (args := [x0, x1]) Tryz.func190 (by kernel_rfl) (fun w => Tryz.call190 _ w) (by kernel_rfl) (Eq.mpr (congrFun (congrFun (congrFun (congrFun (f190.b_eq) R) x0) x1) H) h)
/-! f191: (*gauntlet/vm.machine).load -/
def f191.cuts : List (Nat × List Nat) := []
def f191.plans : List (Nat × Plan) := []
def f191.den (R : Value → HPred) (first : Bool) (k : List Item) (r : Regs) (ds : List Deferred) : HPred := Sx.den Tryz.prog 14 (RQ Tryz.prog Tryz.f191.results.toList R) f191.cuts f191.plans 1000 first k r ds
def f191.b (R : Value → HPred) (x0 x1 : Value) : HPred :=
  opt (nilV x0) fun v1 =>
  opt (offV v1 0) fun v2 =>
  opt (offV v2 1) fun v3 =>
  opt (idxA v3 x1 16 1) fun v4 =>
  rd (cellP v4) fun v5 =>
  tot Tryz.prog (Instr.buildSlice 250 1 #[(0, v5)]) fun v6 =>
  callF Tryz.prog 213 [x0, v6] fun v7 =>
  R (.tuple #[])
theorem f191.b_eq : (fun (R : Value → HPred) (x0 x1 : Value) => f191.den R false (bodyOf Tryz.f191) (regsOf [x0, x1]) []) = (fun (R : Value → HPred) (x0 x1 : Value) => f191.b R x0 x1) := by kernel_rfl
theorem f191.call {R : Value → HPred} {x0 x1 : Value} {H : Hp} (h : f191.b R x0 x1 H) : HC Tryz.prog 191 #[x0, x1] R H :=
  HC.of_den mixed (cuts := f191.cuts) (plans := f191.plans) (args := [x0, x1]) Tryz.func191 (by kernel_rfl) (fun w => Tryz.call191 _ w) (by kernel_rfl) (Eq.mpr (congrFun (congrFun (congrFun (congrFun (f191.b_eq) R) x0) x1) H) h)
/-! f192: (*gauntlet/vm.machine).store -/
def f192.cuts : List (Nat × List Nat) := []
def f192.plans : List (Nat × Plan) := [(0, (.step 0 [] (.step 1 [] (.step 2 [] (.step 4 [] (.step 5 [] (.step 6 [] (.act 3 (.step 7 [] (.act 8 .done))))))))))]
def f192.den (R : Value → HPred) (first : Bool) (k : List Item) (r : Regs) (ds : List Deferred) : HPred := Sx.den Tryz.prog 12 (RQ Tryz.prog Tryz.f192.results.toList R) f192.cuts f192.plans 1000 first k r ds
def f192.b (R : Value → HPred) (x0 x1 : Value) : HPred :=
  opt (nilV x0) fun v1 =>
  opt (offV v1 0) fun v2 =>
  opt (offV v2 1) fun v3 =>
  callF Tryz.prog 214 [x0] fun v4 =>
  opt (idxA v3 x1 16 1) fun v5 =>
  st v5 v4 <|
  R (.tuple #[])
theorem f192.b_eq : (fun (R : Value → HPred) (x0 x1 : Value) => f192.den R false (bodyOf Tryz.f192) (regsOf [x0, x1]) []) = (fun (R : Value → HPred) (x0 x1 : Value) => f192.b R x0 x1) := by kernel_rfl
theorem f192.call {R : Value → HPred} {x0 x1 : Value} {H : Hp} (h : f192.b R x0 x1 H) : HC Tryz.prog 192 #[x0, x1] R H :=
  HC.of_den mixed (cuts := f192.cuts) (plans := f192.plans) (args := [x0, x1]) Tryz.func192 (by kernel_rfl) (fun w => Tryz.call192 _ w) (by kernel_rfl) (Eq.mpr (congrFun (congrFun (congrFun (congrFun (f192.b_eq) R) x0) x1) H) h)
/-! f193: gauntlet/vm.two -/
def f193.cuts : List (Nat × List Nat) := []
def f193.plans : List (Nat × Plan) := []
def f193.den (R : Value → HPred) (first : Bool) (k : List Item) (r : Regs) (ds : List Deferred) : HPred := Sx.den Tryz.prog 4 (RQ Tryz.prog Tryz.f193.results.toList R) f193.cuts f193.plans 1000 first k r ds
def f193.b (R : Value → HPred) (x0 : Value) : HPred :=
  boxM 265 x0 fun v1 =>
  R (.func (Go.Fn.func 215) #[] #[v1])
theorem f193.b_eq : (fun (R : Value → HPred) (x0 : Value) => f193.den R false (bodyOf Tryz.f193) (regsOf [x0]) []) = (fun (R : Value → HPred) (x0 : Value) => f193.b R x0) := by kernel_rfl
theorem f193.call {R : Value → HPred} {x0 : Value} {H : Hp} (h : f193.b R x0 H) : HC Tryz.prog 193 #[x0] R H :=
  HC.of_den mixed (cuts := f193.cuts) (plans := f193.plans) (args := [x0]) Tryz.func193 (by kernel_rfl) (fun w => Tryz.call193 _ w) (by kernel_rfl) (Eq.mpr (congrFun (congrFun (congrFun (f193.b_eq) R) x0) H) h)
/-! f194: gauntlet/fixed.Add -/
def f194.cuts : List (Nat × List Nat) := []
def f194.plans : List (Nat × Plan) := []
def f194.den (R : Value → HPred) (first : Bool) (k : List Item) (r : Regs) (ds : List Deferred) : HPred := Sx.den Tryz.prog 11 (RQ Tryz.prog Tryz.f194.results.toList R) f194.cuts f194.plans 1000 first k r ds
def f194.b (R : Value → HPred) (x0 x1 : Value) : HPred :=
  opt (pureRun Tryz.prog (Go.convert 21 2 x0)) fun v1 =>
  opt (pureRun Tryz.prog (Go.convert 21 2 x1)) fun v2 =>
  opt (binV Tryz.prog .add 2 (Go.Operand.tmp 6) (Go.Operand.tmp 8) v1 v2) fun v3 =>
  callF Tryz.prog 216 [v3] fun v4 =>
  R v4
theorem f194.b_eq : (fun (R : Value → HPred) (x0 x1 : Value) => f194.den R false (bodyOf Tryz.f194) (regsOf [x0, x1]) []) = (fun (R : Value → HPred) (x0 x1 : Value) => f194.b R x0 x1) := by kernel_rfl
theorem f194.call {R : Value → HPred} {x0 x1 : Value} {H : Hp} (h : f194.b R x0 x1 H) : HC Tryz.prog 194 #[x0, x1] R H :=
  HC.of_den mixed (cuts := f194.cuts) (plans := f194.plans) (args := [x0, x1]) Tryz.func194 (by kernel_rfl) (fun w => Tryz.call194 _ w) (by kernel_rfl) (Eq.mpr (congrFun (congrFun (congrFun (congrFun (f194.b_eq) R) x0) x1) H) h)
/-! f195: gauntlet/fixed.Sub -/
def f195.cuts : List (Nat × List Nat) := []
def f195.plans : List (Nat × Plan) := []
def f195.den (R : Value → HPred) (first : Bool) (k : List Item) (r : Regs) (ds : List Deferred) : HPred := Sx.den Tryz.prog 11 (RQ Tryz.prog Tryz.f195.results.toList R) f195.cuts f195.plans 1000 first k r ds
def f195.b (R : Value → HPred) (x0 x1 : Value) : HPred :=
  opt (pureRun Tryz.prog (Go.convert 21 2 x0)) fun v1 =>
  opt (pureRun Tryz.prog (Go.convert 21 2 x1)) fun v2 =>
  opt (binV Tryz.prog .sub 2 (Go.Operand.tmp 6) (Go.Operand.tmp 8) v1 v2) fun v3 =>
  callF Tryz.prog 216 [v3] fun v4 =>
  R v4
theorem f195.b_eq : (fun (R : Value → HPred) (x0 x1 : Value) => f195.den R false (bodyOf Tryz.f195) (regsOf [x0, x1]) []) = (fun (R : Value → HPred) (x0 x1 : Value) => f195.b R x0 x1) := by kernel_rfl
theorem f195.call {R : Value → HPred} {x0 x1 : Value} {H : Hp} (h : f195.b R x0 x1 H) : HC Tryz.prog 195 #[x0, x1] R H :=
  HC.of_den mixed (cuts := f195.cuts) (plans := f195.plans) (args := [x0, x1]) Tryz.func195 (by kernel_rfl) (fun w => Tryz.call195 _ w) (by kernel_rfl) (Eq.mpr (congrFun (congrFun (congrFun (congrFun (f195.b_eq) R) x0) x1) H) h)
/-! f196: gauntlet/fixed.Mul -/
def f196.cuts : List (Nat × List Nat) := []
def f196.plans : List (Nat × Plan) := []
def f196.den (R : Value → HPred) (first : Bool) (k : List Item) (r : Regs) (ds : List Deferred) : HPred := Sx.den Tryz.prog 12 (RQ Tryz.prog Tryz.f196.results.toList R) f196.cuts f196.plans 1000 first k r ds
def f196.b (R : Value → HPred) (x0 x1 : Value) : HPred :=
  opt (pureRun Tryz.prog (Go.convert 21 2 x0)) fun v1 =>
  opt (pureRun Tryz.prog (Go.convert 21 2 x1)) fun v2 =>
  opt (binV Tryz.prog .mul 2 (Go.Operand.tmp 6) (Go.Operand.tmp 8) v1 v2) fun v3 =>
  opt (binV Tryz.prog .shr 2 (Go.Operand.tmp 9) (Go.Operand.const (Go.Value.int Go.IntKind.u64 16)) v3 (.int .u64 16)) fun v4 =>
  callF Tryz.prog 216 [v4] fun v5 =>
  R v5
theorem f196.b_eq : (fun (R : Value → HPred) (x0 x1 : Value) => f196.den R false (bodyOf Tryz.f196) (regsOf [x0, x1]) []) = (fun (R : Value → HPred) (x0 x1 : Value) => f196.b R x0 x1) := by kernel_rfl
theorem f196.call {R : Value → HPred} {x0 x1 : Value} {H : Hp} (h : f196.b R x0 x1 H) : HC Tryz.prog 196 #[x0, x1] R H :=
  HC.of_den mixed (cuts := f196.cuts) (plans := f196.plans) (args := [x0, x1]) Tryz.func196 (by kernel_rfl) (fun w => Tryz.call196 _ w) (by kernel_rfl) (Eq.mpr (congrFun (congrFun (congrFun (congrFun (f196.b_eq) R) x0) x1) H) h)
/-! f197: gauntlet/fixed.Div -/
def f197.cuts : List (Nat × List Nat) := []
def f197.plans : List (Nat × Plan) := []
def f197.den (R : Value → HPred) (first : Bool) (k : List Item) (r : Regs) (ds : List Deferred) : HPred := Sx.den Tryz.prog 21 (RQ Tryz.prog Tryz.f197.results.toList R) f197.cuts f197.plans 1000 first k r ds
def f197.b (R : Value → HPred) (x0 x1 : Value) : HPred :=
  opt (binV Tryz.prog .neq 21 (Go.Operand.tmp 6) (Go.Operand.const (Go.Value.int Go.IntKind.i32 0)) x1 (.int .i32 0)) fun v1 =>
  cnd v1
  (opt (pureRun Tryz.prog (Go.convert 21 2 x0)) fun v2 =>
  opt (binV Tryz.prog .mul 2 (Go.Operand.tmp 9) (Go.Operand.const (Go.Value.int Go.IntKind.i64 65536)) v2 (.int .i64 65536)) fun v3 =>
  opt (pureRun Tryz.prog (Go.convert 21 2 x1)) fun v4 =>
  opt (binV Tryz.prog .quo 2 (Go.Operand.tmp 10) (Go.Operand.tmp 12) v3 v4) fun v5 =>
  callF Tryz.prog 216 [v5] fun v6 =>
  R v6)
  (opt (binV Tryz.prog .gtr 21 (Go.Operand.tmp 16) (Go.Operand.const (Go.Value.int Go.IntKind.i32 0)) x0 (.int .i32 0)) fun v7 =>
  cnd v7
  (R (.int .i32 2147483647))
  (opt (binV Tryz.prog .lss 21 (Go.Operand.tmp 19) (Go.Operand.const (Go.Value.int Go.IntKind.i32 0)) x0 (.int .i32 0)) fun v8 =>
  cnd v8
  (R (.int .i32 (-2147483648)))
  (R (.int .i32 0))))
theorem f197.b_eq : (fun (R : Value → HPred) (x0 x1 : Value) => f197.den R false (bodyOf Tryz.f197) (regsOf [x0, x1]) []) = (fun (R : Value → HPred) (x0 x1 : Value) => f197.b R x0 x1) := by kernel_rfl
theorem f197.call {R : Value → HPred} {x0 x1 : Value} {H : Hp} (h : f197.b R x0 x1 H) : HC Tryz.prog 197 #[x0, x1] R H :=
  HC.of_den mixed (cuts := f197.cuts) (plans := f197.plans) (args := [x0, x1]) Tryz.func197 (by kernel_rfl) (fun w => Tryz.call197 _ w) (by kernel_rfl) (Eq.mpr (congrFun (congrFun (congrFun (congrFun (f197.b_eq) R) x0) x1) H) h)
/-! f198: gauntlet/vm.least -/
def f198.cuts : List (Nat × List Nat) := []
def f198.plans : List (Nat × Plan) := []
def f198.den (R : Value → HPred) (first : Bool) (k : List Item) (r : Regs) (ds : List Deferred) : HPred := Sx.den Tryz.prog 8 (RQ Tryz.prog Tryz.f198.results.toList R) f198.cuts f198.plans 1000 first k r ds
def f198.b (R : Value → HPred) (x0 x1 : Value) : HPred :=
  opt (pureRun Tryz.prog (bltN .min #[21, 21] 21 #[false, false] [x0, x1])) fun v1 =>
  R v1
theorem f198.b_eq : (fun (R : Value → HPred) (x0 x1 : Value) => f198.den R false (bodyOf Tryz.f198) (regsOf [x0, x1]) []) = (fun (R : Value → HPred) (x0 x1 : Value) => f198.b R x0 x1) := by kernel_rfl
theorem f198.call {R : Value → HPred} {x0 x1 : Value} {H : Hp} (h : f198.b R x0 x1 H) : HC Tryz.prog 198 #[x0, x1] R H :=
  HC.of_den mixed (cuts := f198.cuts) (plans := f198.plans) (args := [x0, x1]) Tryz.func198 (by kernel_rfl) (fun w => Tryz.call198 _ w) (by kernel_rfl) (Eq.mpr (congrFun (congrFun (congrFun (congrFun (f198.b_eq) R) x0) x1) H) h)
/-! f199: gauntlet/vm.greatest -/
def f199.cuts : List (Nat × List Nat) := []
def f199.plans : List (Nat × Plan) := []
def f199.den (R : Value → HPred) (first : Bool) (k : List Item) (r : Regs) (ds : List Deferred) : HPred := Sx.den Tryz.prog 8 (RQ Tryz.prog Tryz.f199.results.toList R) f199.cuts f199.plans 1000 first k r ds
def f199.b (R : Value → HPred) (x0 x1 : Value) : HPred :=
  opt (pureRun Tryz.prog (bltN .max #[21, 21] 21 #[false, false] [x0, x1])) fun v1 =>
  R v1
theorem f199.b_eq : (fun (R : Value → HPred) (x0 x1 : Value) => f199.den R false (bodyOf Tryz.f199) (regsOf [x0, x1]) []) = (fun (R : Value → HPred) (x0 x1 : Value) => f199.b R x0 x1) := by kernel_rfl
theorem f199.call {R : Value → HPred} {x0 x1 : Value} {H : Hp} (h : f199.b R x0 x1 H) : HC Tryz.prog 199 #[x0, x1] R H :=
  HC.of_den mixed (cuts := f199.cuts) (plans := f199.plans) (args := [x0, x1]) Tryz.func199 (by kernel_rfl) (fun w => Tryz.call199 _ w) (by kernel_rfl) (Eq.mpr (congrFun (congrFun (congrFun (congrFun (f199.b_eq) R) x0) x1) H) h)
/-! f200: gauntlet/vm.less -/
def f200.cuts : List (Nat × List Nat) := []
def f200.plans : List (Nat × Plan) := []
def f200.den (R : Value → HPred) (first : Bool) (k : List Item) (r : Regs) (ds : List Deferred) : HPred := Sx.den Tryz.prog 9 (RQ Tryz.prog Tryz.f200.results.toList R) f200.cuts f200.plans 1000 first k r ds
def f200.b (R : Value → HPred) (x0 x1 : Value) : HPred :=
  opt (binV Tryz.prog .lss 21 (Go.Operand.tmp 5) (Go.Operand.tmp 6) x0 x1) fun v1 =>
  callF Tryz.prog 217 [v1] fun v2 =>
  R v2
theorem f200.b_eq : (fun (R : Value → HPred) (x0 x1 : Value) => f200.den R false (bodyOf Tryz.f200) (regsOf [x0, x1]) []) = (fun (R : Value → HPred) (x0 x1 : Value) => f200.b R x0 x1) := by kernel_rfl
theorem f200.call {R : Value → HPred} {x0 x1 : Value} {H : Hp} (h : f200.b R x0 x1 H) : HC Tryz.prog 200 #[x0, x1] R H :=
  HC.of_den mixed (cuts := f200.cuts) (plans := f200.plans) (args := [x0, x1]) Tryz.func200 (by kernel_rfl) (fun w => Tryz.call200 _ w) (by kernel_rfl) (Eq.mpr (congrFun (congrFun (congrFun (congrFun (f200.b_eq) R) x0) x1) H) h)
/-! f201: gauntlet/vm.same -/
def f201.cuts : List (Nat × List Nat) := []
def f201.plans : List (Nat × Plan) := []
def f201.den (R : Value → HPred) (first : Bool) (k : List Item) (r : Regs) (ds : List Deferred) : HPred := Sx.den Tryz.prog 9 (RQ Tryz.prog Tryz.f201.results.toList R) f201.cuts f201.plans 1000 first k r ds
def f201.b (R : Value → HPred) (x0 x1 : Value) : HPred :=
  opt (binV Tryz.prog .eql 21 (Go.Operand.tmp 5) (Go.Operand.tmp 6) x0 x1) fun v1 =>
  callF Tryz.prog 217 [v1] fun v2 =>
  R v2
theorem f201.b_eq : (fun (R : Value → HPred) (x0 x1 : Value) => f201.den R false (bodyOf Tryz.f201) (regsOf [x0, x1]) []) = (fun (R : Value → HPred) (x0 x1 : Value) => f201.b R x0 x1) := by kernel_rfl
theorem f201.call {R : Value → HPred} {x0 x1 : Value} {H : Hp} (h : f201.b R x0 x1 H) : HC Tryz.prog 201 #[x0, x1] R H :=
  HC.of_den mixed (cuts := f201.cuts) (plans := f201.plans) (args := [x0, x1]) Tryz.func201 (by kernel_rfl) (fun w => Tryz.call201 _ w) (by kernel_rfl) (Eq.mpr (congrFun (congrFun (congrFun (congrFun (f201.b_eq) R) x0) x1) H) h)
/-! f202: (*gauntlet/vm.machine).not -/
def f202.cuts : List (Nat × List Nat) := []
def f202.plans : List (Nat × Plan) := []
def f202.den (R : Value → HPred) (first : Bool) (k : List Item) (r : Regs) (ds : List Deferred) : HPred := Sx.den Tryz.prog 11 (RQ Tryz.prog Tryz.f202.results.toList R) f202.cuts f202.plans 1000 first k r ds
def f202.b (R : Value → HPred) (x0 x1 : Value) : HPred :=
  callF Tryz.prog 214 [x0] fun v1 =>
  opt (binV Tryz.prog .eql 21 (Go.Operand.tmp 6) (Go.Operand.const (Go.Value.int Go.IntKind.i32 0)) v1 (.int .i32 0)) fun v2 =>
  callF Tryz.prog 217 [v2] fun v3 =>
  tot Tryz.prog (Instr.buildSlice 250 1 #[(0, v3)]) fun v4 =>
  callF Tryz.prog 213 [x0, v4] fun v5 =>
  R (.tuple #[])
theorem f202.b_eq : (fun (R : Value → HPred) (x0 x1 : Value) => f202.den R false (bodyOf Tryz.f202) (regsOf [x0, x1]) []) = (fun (R : Value → HPred) (x0 x1 : Value) => f202.b R x0 x1) := by kernel_rfl
theorem f202.call {R : Value → HPred} {x0 x1 : Value} {H : Hp} (h : f202.b R x0 x1 H) : HC Tryz.prog 202 #[x0, x1] R H :=
  HC.of_den mixed (cuts := f202.cuts) (plans := f202.plans) (args := [x0, x1]) Tryz.func202 (by kernel_rfl) (fun w => Tryz.call202 _ w) (by kernel_rfl) (Eq.mpr (congrFun (congrFun (congrFun (congrFun (f202.b_eq) R) x0) x1) H) h)
/-! f203: (*gauntlet/vm.machine).dup -/
def f203.cuts : List (Nat × List Nat) := []
def f203.plans : List (Nat × Plan) := []
def f203.den (R : Value → HPred) (first : Bool) (k : List Item) (r : Regs) (ds : List Deferred) : HPred := Sx.den Tryz.prog 12 (RQ Tryz.prog Tryz.f203.results.toList R) f203.cuts f203.plans 1000 first k r ds
def f203.b (R : Value → HPred) (x0 x1 : Value) : HPred :=
  callF Tryz.prog 214 [x0] fun v1 =>
  tot Tryz.prog (Instr.buildSlice 250 2 #[(0, v1), (1, v1)]) fun v2 =>
  callF Tryz.prog 213 [x0, v2] fun v3 =>
  R (.tuple #[])
theorem f203.b_eq : (fun (R : Value → HPred) (x0 x1 : Value) => f203.den R false (bodyOf Tryz.f203) (regsOf [x0, x1]) []) = (fun (R : Value → HPred) (x0 x1 : Value) => f203.b R x0 x1) := by kernel_rfl
theorem f203.call {R : Value → HPred} {x0 x1 : Value} {H : Hp} (h : f203.b R x0 x1 H) : HC Tryz.prog 203 #[x0, x1] R H :=
  HC.of_den mixed (cuts := f203.cuts) (plans := f203.plans) (args := [x0, x1]) Tryz.func203 (by kernel_rfl) (fun w => Tryz.call203 _ w) (by kernel_rfl) (Eq.mpr (congrFun (congrFun (congrFun (congrFun (f203.b_eq) R) x0) x1) H) h)
/-! f204: (*gauntlet/vm.machine).swap -/
def f204.cuts : List (Nat × List Nat) := []
def f204.plans : List (Nat × Plan) := []
def f204.den (R : Value → HPred) (first : Bool) (k : List Item) (r : Regs) (ds : List Deferred) : HPred := Sx.den Tryz.prog 15 (RQ Tryz.prog Tryz.f204.results.toList R) f204.cuts f204.plans 1000 first k r ds
def f204.b (R : Value → HPred) (x0 x1 : Value) : HPred :=
  callF Tryz.prog 214 [x0] fun v1 =>
  callF Tryz.prog 214 [x0] fun v2 =>
  tot Tryz.prog (Instr.buildSlice 250 2 #[(0, v1), (1, v2)]) fun v3 =>
  callF Tryz.prog 213 [x0, v3] fun v4 =>
  R (.tuple #[])
theorem f204.b_eq : (fun (R : Value → HPred) (x0 x1 : Value) => f204.den R false (bodyOf Tryz.f204) (regsOf [x0, x1]) []) = (fun (R : Value → HPred) (x0 x1 : Value) => f204.b R x0 x1) := by kernel_rfl
theorem f204.call {R : Value → HPred} {x0 x1 : Value} {H : Hp} (h : f204.b R x0 x1 H) : HC Tryz.prog 204 #[x0, x1] R H :=
  HC.of_den mixed (cuts := f204.cuts) (plans := f204.plans) (args := [x0, x1]) Tryz.func204 (by kernel_rfl) (fun w => Tryz.call204 _ w) (by kernel_rfl) (Eq.mpr (congrFun (congrFun (congrFun (congrFun (f204.b_eq) R) x0) x1) H) h)
/-! f205: (*gauntlet/vm.machine).drop -/
def f205.cuts : List (Nat × List Nat) := []
def f205.plans : List (Nat × Plan) := []
def f205.den (R : Value → HPred) (first : Bool) (k : List Item) (r : Regs) (ds : List Deferred) : HPred := Sx.den Tryz.prog 6 (RQ Tryz.prog Tryz.f205.results.toList R) f205.cuts f205.plans 1000 first k r ds
def f205.b (R : Value → HPred) (x0 x1 : Value) : HPred :=
  callF Tryz.prog 214 [x0] fun v1 =>
  R (.tuple #[])
theorem f205.b_eq : (fun (R : Value → HPred) (x0 x1 : Value) => f205.den R false (bodyOf Tryz.f205) (regsOf [x0, x1]) []) = (fun (R : Value → HPred) (x0 x1 : Value) => f205.b R x0 x1) := by kernel_rfl
theorem f205.call {R : Value → HPred} {x0 x1 : Value} {H : Hp} (h : f205.b R x0 x1 H) : HC Tryz.prog 205 #[x0, x1] R H :=
  HC.of_den mixed (cuts := f205.cuts) (plans := f205.plans) (args := [x0, x1]) Tryz.func205 (by kernel_rfl) (fun w => Tryz.call205 _ w) (by kernel_rfl) (Eq.mpr (congrFun (congrFun (congrFun (congrFun (f205.b_eq) R) x0) x1) H) h)
/-! f206: (*gauntlet/vm.machine).input -/
def f206.cuts : List (Nat × List Nat) := []
def f206.plans : List (Nat × Plan) := []
def f206.den (R : Value → HPred) (first : Bool) (k : List Item) (r : Regs) (ds : List Deferred) : HPred := Sx.den Tryz.prog 14 (RQ Tryz.prog Tryz.f206.results.toList R) f206.cuts f206.plans 1000 first k r ds
def f206.b (R : Value → HPred) (x0 x1 : Value) : HPred :=
  opt (nilV x0) fun v1 =>
  opt (offV v1 20) fun v2 =>
  opt (idxA v2 x1 2 1) fun v3 =>
  rd (cellP v3) fun v4 =>
  opt (pureRun Tryz.prog (Go.convert 51 21 v4)) fun v5 =>
  tot Tryz.prog (Instr.buildSlice 250 1 #[(0, v5)]) fun v6 =>
  callF Tryz.prog 213 [x0, v6] fun v7 =>
  R (.tuple #[])
theorem f206.b_eq : (fun (R : Value → HPred) (x0 x1 : Value) => f206.den R false (bodyOf Tryz.f206) (regsOf [x0, x1]) []) = (fun (R : Value → HPred) (x0 x1 : Value) => f206.b R x0 x1) := by kernel_rfl
theorem f206.call {R : Value → HPred} {x0 x1 : Value} {H : Hp} (h : f206.b R x0 x1 H) : HC Tryz.prog 206 #[x0, x1] R H :=
  HC.of_den mixed (cuts := f206.cuts) (plans := f206.plans) (args := [x0, x1]) Tryz.func206 (by kernel_rfl) (fun w => Tryz.call206 _ w) (by kernel_rfl) (Eq.mpr (congrFun (congrFun (congrFun (congrFun (f206.b_eq) R) x0) x1) H) h)
/-! f207: (*gauntlet/vm.machine).frame -/
def f207.cuts : List (Nat × List Nat) := []
def f207.plans : List (Nat × Plan) := []
def f207.den (R : Value → HPred) (first : Bool) (k : List Item) (r : Regs) (ds : List Deferred) : HPred := Sx.den Tryz.prog 13 (RQ Tryz.prog Tryz.f207.results.toList R) f207.cuts f207.plans 1000 first k r ds
def f207.b (R : Value → HPred) (x0 x1 : Value) : HPred :=
  opt (nilV x0) fun v1 =>
  opt (offV v1 0) fun v2 =>
  opt (offV v2 0) fun v3 =>
  rd (cellP v3) fun v4 =>
  opt (pureRun Tryz.prog (Go.convert 3 21 v4)) fun v5 =>
  tot Tryz.prog (Instr.buildSlice 250 1 #[(0, v5)]) fun v6 =>
  callF Tryz.prog 213 [x0, v6] fun v7 =>
  R (.tuple #[])
theorem f207.b_eq : (fun (R : Value → HPred) (x0 x1 : Value) => f207.den R false (bodyOf Tryz.f207) (regsOf [x0, x1]) []) = (fun (R : Value → HPred) (x0 x1 : Value) => f207.b R x0 x1) := by kernel_rfl
theorem f207.call {R : Value → HPred} {x0 x1 : Value} {H : Hp} (h : f207.b R x0 x1 H) : HC Tryz.prog 207 #[x0, x1] R H :=
  HC.of_den mixed (cuts := f207.cuts) (plans := f207.plans) (args := [x0, x1]) Tryz.func207 (by kernel_rfl) (fun w => Tryz.call207 _ w) (by kernel_rfl) (Eq.mpr (congrFun (congrFun (congrFun (congrFun (f207.b_eq) R) x0) x1) H) h)
/-! f208: (*gauntlet/vm.machine).jump -/
def f208.cuts : List (Nat × List Nat) := []
def f208.plans : List (Nat × Plan) := []
def f208.den (R : Value → HPred) (first : Bool) (k : List Item) (r : Regs) (ds : List Deferred) : HPred := Sx.den Tryz.prog 8 (RQ Tryz.prog Tryz.f208.results.toList R) f208.cuts f208.plans 1000 first k r ds
def f208.b (R : Value → HPred) (x0 x1 : Value) : HPred :=
  opt (nilV x0) fun v1 =>
  opt (offV v1 23) fun v2 =>
  st v2 x1 <|
  R (.tuple #[])
theorem f208.b_eq : (fun (R : Value → HPred) (x0 x1 : Value) => f208.den R false (bodyOf Tryz.f208) (regsOf [x0, x1]) []) = (fun (R : Value → HPred) (x0 x1 : Value) => f208.b R x0 x1) := by kernel_rfl
theorem f208.call {R : Value → HPred} {x0 x1 : Value} {H : Hp} (h : f208.b R x0 x1 H) : HC Tryz.prog 208 #[x0, x1] R H :=
  HC.of_den mixed (cuts := f208.cuts) (plans := f208.plans) (args := [x0, x1]) Tryz.func208 (by kernel_rfl) (fun w => Tryz.call208 _ w) (by kernel_rfl) (Eq.mpr (congrFun (congrFun (congrFun (congrFun (f208.b_eq) R) x0) x1) H) h)
/-! f209: (*gauntlet/vm.machine).zero -/
def f209.cuts : List (Nat × List Nat) := []
def f209.plans : List (Nat × Plan) := []
def f209.den (R : Value → HPred) (first : Bool) (k : List Item) (r : Regs) (ds : List Deferred) : HPred := Sx.den Tryz.prog 11 (RQ Tryz.prog Tryz.f209.results.toList R) f209.cuts f209.plans 1000 first k r ds
def f209.b (R : Value → HPred) (x0 x1 : Value) : HPred :=
  callF Tryz.prog 214 [x0] fun v1 =>
  opt (binV Tryz.prog .eql 21 (Go.Operand.tmp 5) (Go.Operand.const (Go.Value.int Go.IntKind.i32 0)) v1 (.int .i32 0)) fun v2 =>
  cnd v2
  (opt (nilV x0) fun v3 =>
  opt (offV v3 23) fun v4 =>
  st v4 x1 <|
  R (.tuple #[]))
  (R (.tuple #[]))
theorem f209.b_eq : (fun (R : Value → HPred) (x0 x1 : Value) => f209.den R false (bodyOf Tryz.f209) (regsOf [x0, x1]) []) = (fun (R : Value → HPred) (x0 x1 : Value) => f209.b R x0 x1) := by kernel_rfl
theorem f209.call {R : Value → HPred} {x0 x1 : Value} {H : Hp} (h : f209.b R x0 x1 H) : HC Tryz.prog 209 #[x0, x1] R H :=
  HC.of_den mixed (cuts := f209.cuts) (plans := f209.plans) (args := [x0, x1]) Tryz.func209 (by kernel_rfl) (fun w => Tryz.call209 _ w) (by kernel_rfl) (Eq.mpr (congrFun (congrFun (congrFun (congrFun (f209.b_eq) R) x0) x1) H) h)
/-! f210: (*gauntlet/vm.machine).win -/
def f210.cuts : List (Nat × List Nat) := []
def f210.plans : List (Nat × Plan) := []
def f210.den (R : Value → HPred) (first : Bool) (k : List Item) (r : Regs) (ds : List Deferred) : HPred := Sx.den Tryz.prog 16 (RQ Tryz.prog Tryz.f210.results.toList R) f210.cuts f210.plans 1000 first k r ds
def f210.b (R : Value → HPred) (x0 x1 : Value) : HPred :=
  opt (nilV x0) fun v1 =>
  opt (offV v1 0) fun v2 =>
  opt (offV v2 18) fun v3 =>
  st v3 (.bool true) <|
  opt (nilV x0) fun v4 =>
  opt (offV v4 0) fun v5 =>
  opt (offV v5 19) fun v6 =>
  st v6 x1 <|
  opt (nilV x0) fun v7 =>
  opt (offV v7 24) fun v8 =>
  st v8 (.bool true) <|
  R (.tuple #[])
theorem f210.b_eq : (fun (R : Value → HPred) (x0 x1 : Value) => f210.den R false (bodyOf Tryz.f210) (regsOf [x0, x1]) []) = (fun (R : Value → HPred) (x0 x1 : Value) => f210.b R x0 x1) := by kernel_rfl
theorem f210.call {R : Value → HPred} {x0 x1 : Value} {H : Hp} (h : f210.b R x0 x1 H) : HC Tryz.prog 210 #[x0, x1] R H :=
  HC.of_den mixed (cuts := f210.cuts) (plans := f210.plans) (args := [x0, x1]) Tryz.func210 (by kernel_rfl) (fun w => Tryz.call210 _ w) (by kernel_rfl) (Eq.mpr (congrFun (congrFun (congrFun (congrFun (f210.b_eq) R) x0) x1) H) h)
end Go.Proofs.YtnnheophehnioaaGreat
namespace Go.Proofs.YtnnheophehnioaaGreat
open Go.Sx Go.Proofs
set_option maxRecDepth 100000
set_option linter.unusedVariables false
/-! f211: (*gauntlet/vm.machine).rand -/
def f211.cuts : List (Nat × List Nat) := []
def f211.plans : List (Nat × Plan) := []
def f211.den (R : Value → HPred) (first : Bool) (k : List Item) (r : Regs) (ds : List Deferred) : HPred := Sx.den Tryz.prog 33 (RQ Tryz.prog Tryz.f211.results.toList R) f211.cuts f211.plans 1000 first k r ds
def f211.b (R : Value → HPred) (x0 x1 : Value) : HPred :=
  opt (nilV x0) fun v1 =>
  opt (offV v1 0) fun v2 =>
  opt (offV v2 17) fun v3 =>
  rd (cellP v3) fun v4 =>
  opt (binV Tryz.prog .shl 60 (Go.Operand.tmp 11) (Go.Operand.const (Go.Value.int Go.IntKind.u64 13)) v4 (.int .u64 13)) fun v5 =>
  opt (binV Tryz.prog .xor 60 (Go.Operand.tmp 10) (Go.Operand.tmp 12) v4 v5) fun v6 =>
  opt (binV Tryz.prog .shr 60 (Go.Operand.tmp 15) (Go.Operand.const (Go.Value.int Go.IntKind.u64 17)) v6 (.int .u64 17)) fun v7 =>
  opt (binV Tryz.prog .xor 60 (Go.Operand.tmp 14) (Go.Operand.tmp 16) v6 v7) fun v8 =>
  opt (binV Tryz.prog .shl 60 (Go.Operand.tmp 19) (Go.Operand.const (Go.Value.int Go.IntKind.u64 5)) v8 (.int .u64 5)) fun v9 =>
  opt (binV Tryz.prog .xor 60 (Go.Operand.tmp 18) (Go.Operand.tmp 20) v8 v9) fun v10 =>
  opt (nilV x0) fun v11 =>
  opt (offV v11 0) fun v12 =>
  opt (offV v12 17) fun v13 =>
  st v13 v10 <|
  opt (binV Tryz.prog .rem 60 (Go.Operand.tmp 28) (Go.Operand.const (Go.Value.int Go.IntKind.u32 65536)) v10 (.int .u32 65536)) fun v14 =>
  opt (pureRun Tryz.prog (Go.convert 60 21 v14)) fun v15 =>
  tot Tryz.prog (Instr.buildSlice 250 1 #[(0, v15)]) fun v16 =>
  callF Tryz.prog 213 [x0, v16] fun v17 =>
  R (.tuple #[])
theorem f211.b_eq : (fun (R : Value → HPred) (x0 x1 : Value) => f211.den R false (bodyOf Tryz.f211) (regsOf [x0, x1]) []) = (fun (R : Value → HPred) (x0 x1 : Value) => f211.b R x0 x1) := by kernel_rfl
theorem f211.call {R : Value → HPred} {x0 x1 : Value} {H : Hp} (h : f211.b R x0 x1 H) : HC Tryz.prog 211 #[x0, x1] R H :=
  HC.of_den mixed (cuts := f211.cuts) (plans := f211.plans) (args := [x0, x1]) Tryz.func211 (by kernel_rfl) (fun w => Tryz.call211 _ w) (by kernel_rfl) (Eq.mpr (congrFun (congrFun (congrFun (congrFun (f211.b_eq) R) x0) x1) H) h)
/-! f212: (*gauntlet/vm.machine).halt -/
def f212.cuts : List (Nat × List Nat) := []
def f212.plans : List (Nat × Plan) := []
def f212.den (R : Value → HPred) (first : Bool) (k : List Item) (r : Regs) (ds : List Deferred) : HPred := Sx.den Tryz.prog 7 (RQ Tryz.prog Tryz.f212.results.toList R) f212.cuts f212.plans 1000 first k r ds
def f212.b (R : Value → HPred) (x0 x1 : Value) : HPred :=
  opt (nilV x0) fun v1 =>
  opt (offV v1 24) fun v2 =>
  st v2 (.bool true) <|
  R (.tuple #[])
theorem f212.b_eq : (fun (R : Value → HPred) (x0 x1 : Value) => f212.den R false (bodyOf Tryz.f212) (regsOf [x0, x1]) []) = (fun (R : Value → HPred) (x0 x1 : Value) => f212.b R x0 x1) := by kernel_rfl
theorem f212.call {R : Value → HPred} {x0 x1 : Value} {H : Hp} (h : f212.b R x0 x1 H) : HC Tryz.prog 212 #[x0, x1] R H :=
  HC.of_den mixed (cuts := f212.cuts) (plans := f212.plans) (args := [x0, x1]) Tryz.func212 (by kernel_rfl) (fun w => Tryz.call212 _ w) (by kernel_rfl) (Eq.mpr (congrFun (congrFun (congrFun (congrFun (f212.b_eq) R) x0) x1) H) h)
/-! f213: (*gauntlet/vm.machine).push -/
def f213.cuts : List (Nat × List Nat) := []
def f213.plans : List (Nat × Plan) := []
def f213.den (R : Value → HPred) (first : Bool) (k : List Item) (r : Regs) (ds : List Deferred) : HPred := Sx.den Tryz.prog 22 (RQ Tryz.prog Tryz.f213.results.toList R) f213.cuts f213.plans 1000 first k r ds
def f213.b (R : Value → HPred) (x0 x1 : Value) : HPred :=
  opt (nilV x0) fun v1 =>
  opt (offV v1 22) fun v2 =>
  rd (cellP v2) fun v3 =>
  blt Tryz.prog .append #[250, 250] 250 #[false, false] [v3, x1] fun v4 =>
  opt (nilV x0) fun v5 =>
  opt (offV v5 22) fun v6 =>
  st v6 v4 <|
  opt (nilV x0) fun v7 =>
  opt (offV v7 22) fun v8 =>
  rd (cellP v8) fun v9 =>
  opt (pureRun Tryz.prog (bltN .len #[250] 3 #[false] [v9])) fun v10 =>
  opt (binV Tryz.prog .gtr 3 (Go.Operand.tmp 17) (Go.Operand.const (Go.Value.int Go.IntKind.i64 32)) v10 (.int .i64 32)) fun v11 =>
  cnd v11
  (opt (nilV x0) fun v12 =>
  opt (offV v12 25) fun v13 =>
  st v13 (.bool true) <|
  R (.tuple #[]))
  (R (.tuple #[]))
theorem f213.b_eq : (fun (R : Value → HPred) (x0 x1 : Value) => f213.den R false (bodyOf Tryz.f213) (regsOf [x0, x1]) []) = (fun (R : Value → HPred) (x0 x1 : Value) => f213.b R x0 x1) := by kernel_rfl
theorem f213.call {R : Value → HPred} {x0 x1 : Value} {H : Hp} (h : f213.b R x0 x1 H) : HC Tryz.prog 213 #[x0, x1] R H :=
  HC.of_den mixed (cuts := f213.cuts) (plans := f213.plans) (args := [x0, x1]) Tryz.func213 (by kernel_rfl) (fun w => Tryz.call213 _ w) (by kernel_rfl) (Eq.mpr (congrFun (congrFun (congrFun (congrFun (f213.b_eq) R) x0) x1) H) h)
/-! f214: (*gauntlet/vm.machine).pop -/
def f214.cuts : List (Nat × List Nat) := []
def f214.plans : List (Nat × Plan) := []
def f214.den (R : Value → HPred) (first : Bool) (k : List Item) (r : Regs) (ds : List Deferred) : HPred := Sx.den Tryz.prog 33 (RQ Tryz.prog Tryz.f214.results.toList R) f214.cuts f214.plans 1000 first k r ds
def f214.b (R : Value → HPred) (x0 : Value) : HPred :=
  opt (nilV x0) fun v1 =>
  opt (offV v1 22) fun v2 =>
  rd (cellP v2) fun v3 =>
  opt (pureRun Tryz.prog (bltN .len #[250] 3 #[false] [v3])) fun v4 =>
  opt (binV Tryz.prog .sub 3 (Go.Operand.tmp 9) (Go.Operand.const (Go.Value.int Go.IntKind.i64 1)) v4 (.int .i64 1)) fun v5 =>
  opt (binV Tryz.prog .lss 3 (Go.Operand.tmp 11) (Go.Operand.const (Go.Value.int Go.IntKind.i64 0)) v5 (.int .i64 0)) fun v6 =>
  cnd v6
  (opt (nilV x0) fun v7 =>
  opt (offV v7 25) fun v8 =>
  st v8 (.bool true) <|
  R (.int .i32 0))
  (opt (nilV x0) fun v9 =>
  opt (offV v9 22) fun v10 =>
  rd (cellP v10) fun v11 =>
  opt (idxS v11 v5 1) fun v12 =>
  rd (cellP v12) fun v13 =>
  opt (nilV x0) fun v14 =>
  opt (offV v14 22) fun v15 =>
  rd (cellP v15) fun v16 =>
  opt (pureRun Tryz.prog (Instr.sliceAt 250 v16 none (some v5) none)) fun v17 =>
  opt (nilV x0) fun v18 =>
  opt (offV v18 22) fun v19 =>
  st v19 v17 <|
  R v13)
theorem f214.b_eq : (fun (R : Value → HPred) (x0 : Value) => f214.den R false (bodyOf Tryz.f214) (regsOf [x0]) []) = (fun (R : Value → HPred) (x0 : Value) => f214.b R x0) := by kernel_rfl
theorem f214.call {R : Value → HPred} {x0 : Value} {H : Hp} (h : f214.b R x0 H) : HC Tryz.prog 214 #[x0] R H :=
  HC.of_den mixed (cuts := f214.cuts) (plans := f214.plans) (args := [x0]) Tryz.func214 (by kernel_rfl) (fun w => Tryz.call214 _ w) (by kernel_rfl) (Eq.mpr (congrFun (congrFun (congrFun (f214.b_eq) R) x0) H) h)
/-! f215: gauntlet/vm.two$1 -/
def f215.cuts : List (Nat × List Nat) := []
def f215.plans : List (Nat × Plan) := []
def f215.den (R : Value → HPred) (first : Bool) (k : List Item) (r : Regs) (ds : List Deferred) : HPred := Sx.den Tryz.prog 18 (RQ Tryz.prog Tryz.f215.results.toList R) f215.cuts f215.plans 1000 first k r ds
def f215.b (R : Value → HPred) (x0 x1 x2 : Value) : HPred :=
  callF Tryz.prog 214 [x0] fun v1 =>
  callF Tryz.prog 214 [x0] fun v2 =>
  rd (cellP x2) fun v3 =>
  callV Tryz.prog v3 [v2, v1] fun v4 =>
  tot Tryz.prog (Instr.buildSlice 250 1 #[(0, v4)]) fun v5 =>
  callF Tryz.prog 213 [x0, v5] fun v6 =>
  R (.tuple #[])
theorem f215.b_eq : (fun (R : Value → HPred) (x0 x1 x2 : Value) => f215.den R false (bodyOf Tryz.f215) (regsOf [x0, x1, x2]) []) = (fun (R : Value → HPred) (x0 x1 x2 : Value) => f215.b R x0 x1 x2) := by kernel_rfl
theorem f215.call {R : Value → HPred} {x0 x1 x2 : Value} {H : Hp} (h : f215.b R x0 x1 x2 H) : HC Tryz.prog 215 #[x0, x1, x2] R H :=
  HC.of_den mixed (cuts := f215.cuts) (plans := f215.plans) (args := [x0, x1, x2]) Tryz.func215 (by kernel_rfl) (fun w => Tryz.call215 _ w) (by kernel_rfl) (Eq.mpr (congrFun (congrFun (congrFun (congrFun (congrFun (f215.b_eq) R) x0) x1) x2) H) h)
/-! f216: gauntlet/fixed.held -/
def f216.cuts : List (Nat × List Nat) := []
def f216.plans : List (Nat × Plan) := []
def f216.den (R : Value → HPred) (first : Bool) (k : List Item) (r : Regs) (ds : List Deferred) : HPred := Sx.den Tryz.prog 7 (RQ Tryz.prog Tryz.f216.results.toList R) f216.cuts f216.plans 1000 first k r ds
def f216.b (R : Value → HPred) (x0 : Value) : HPred :=
  opt (pureRun Tryz.prog (bltN .min #[2, 2] 2 #[true, false] [(.int .i64 2147483647), x0])) fun v1 =>
  opt (pureRun Tryz.prog (bltN .max #[2, 2] 2 #[true, false] [(.int .i64 (-2147483648)), v1])) fun v2 =>
  opt (pureRun Tryz.prog (Go.convert 2 21 v2)) fun v3 =>
  R v3
theorem f216.b_eq : (fun (R : Value → HPred) (x0 : Value) => f216.den R false (bodyOf Tryz.f216) (regsOf [x0]) []) = (fun (R : Value → HPred) (x0 : Value) => f216.b R x0) := by kernel_rfl
theorem f216.call {R : Value → HPred} {x0 : Value} {H : Hp} (h : f216.b R x0 H) : HC Tryz.prog 216 #[x0] R H :=
  HC.of_den mixed (cuts := f216.cuts) (plans := f216.plans) (args := [x0]) Tryz.func216 (by kernel_rfl) (fun w => Tryz.call216 _ w) (by kernel_rfl) (Eq.mpr (congrFun (congrFun (congrFun (f216.b_eq) R) x0) H) h)
/-! f217: gauntlet/vm.truth -/
def f217.cuts : List (Nat × List Nat) := []
def f217.plans : List (Nat × Plan) := []
def f217.den (R : Value → HPred) (first : Bool) (k : List Item) (r : Regs) (ds : List Deferred) : HPred := Sx.den Tryz.prog 4 (RQ Tryz.prog Tryz.f217.results.toList R) f217.cuts f217.plans 1000 first k r ds
def f217.b (R : Value → HPred) (x0 : Value) : HPred :=
  cnd x0
  (R (.int .i32 65536))
  (R (.int .i32 0))
theorem f217.b_eq : (fun (R : Value → HPred) (x0 : Value) => f217.den R false (bodyOf Tryz.f217) (regsOf [x0]) []) = (fun (R : Value → HPred) (x0 : Value) => f217.b R x0) := by kernel_rfl
theorem f217.call {R : Value → HPred} {x0 : Value} {H : Hp} (h : f217.b R x0 H) : HC Tryz.prog 217 #[x0] R H :=
  HC.of_den mixed (cuts := f217.cuts) (plans := f217.plans) (args := [x0]) Tryz.func217 (by kernel_rfl) (fun w => Tryz.call217 _ w) (by kernel_rfl) (Eq.mpr (congrFun (congrFun (congrFun (f217.b_eq) R) x0) H) h)
/-! f235: (gauntlet/timers.row).Len -/
def f235.cuts : List (Nat × List Nat) := []
def f235.plans : List (Nat × Plan) := []
def f235.den (R : Value → HPred) (first : Bool) (k : List Item) (r : Regs) (ds : List Deferred) : HPred := Sx.den Tryz.prog 5 (RQ Tryz.prog Tryz.f235.results.toList R) f235.cuts f235.plans 1000 first k r ds
def f235.b (R : Value → HPred) (x0 : Value) : HPred :=
  opt (pureRun Tryz.prog (bltN .len #[152] 3 #[false] [x0])) fun v1 =>
  R v1
theorem f235.b_eq : (fun (R : Value → HPred) (x0 : Value) => f235.den R false (bodyOf Tryz.f235) (regsOf [x0]) []) = (fun (R : Value → HPred) (x0 : Value) => f235.b R x0) := by kernel_rfl
theorem f235.call {R : Value → HPred} {x0 : Value} {H : Hp} (h : f235.b R x0 H) : HC Tryz.prog 235 #[x0] R H :=
  HC.of_den mixed (cuts := f235.cuts) (plans := f235.plans) (args := [x0]) Tryz.func235 (by kernel_rfl) (fun w => Tryz.call235 _ w) (by kernel_rfl) (Eq.mpr (congrFun (congrFun (congrFun (f235.b_eq) R) x0) H) h)
/-! f236: (gauntlet/timers.row).Less -/
def f236.cuts : List (Nat × List Nat) := []
def f236.plans : List (Nat × Plan) := [(1, (.step 0 [] (.step 1 [] (.step 2 [] (.step 3 [4, 5, 6, 14, 15, 16, 17, 18, 19, 20, 21, 22, 23, 24, 25, 26, 27, 28, 29, 30, 31, 32, 33, 34, 35, 36, 37, 38, 39, 40, 41, 42, 43, 44, 45, 46, 47, 48, 49] (.step 4 [] (.step 5 [] (.step 6 [14, 15, 16, 17, 18, 19, 20, 21, 22, 23, 24, 25, 26, 27, 28, 29, 30, 31, 32, 33, 34, 35, 36, 37, 38, 39, 40, 41, 42, 43, 44, 45, 46, 47, 48, 49] (.step 7 [] (.step 8 [] (.step 9 [] (.step 10 [11, 12, 13, 14, 15, 16, 17, 18, 19, 20, 21, 22, 23, 24, 25, 26, 27, 28, 29, 30, 31, 32, 33, 34, 35, 36, 37, 38, 39, 40, 41, 42, 43, 44, 45, 46, 47, 48, 49] (.step 11 [] (.step 12 [] (.step 13 [14, 15, 16, 17, 18, 19, 20, 21, 22, 23, 24, 25, 26, 27, 28, 29, 30, 31, 32, 33, 34, 35, 36, 37, 38, 39, 40, 41, 42, 43, 44, 45, 46, 47, 48, 49] (.step 14 [] (.step 15 [] (.step 16 [] (.step 17 [] (.step 18 [] (.step 19 [20, 21, 22, 30, 31, 32, 33, 34, 35, 36, 37, 38, 39, 40, 41, 42, 43, 44, 45, 46, 47, 48, 49] (.step 20 [] (.step 21 [] (.step 22 [30, 31, 32, 33, 34, 35, 36, 37, 38, 39, 40, 41, 42, 43, 44, 45, 46, 47, 48, 49] (.step 23 [] (.step 24 [] (.step 25 [] (.step 26 [27, 28, 29, 30, 31, 32, 33, 34, 35, 36, 37, 38, 39, 40, 41, 42, 43, 44, 45, 46, 47, 48, 49] (.step 27 [] (.step 28 [] (.step 29 [30, 31, 32, 33, 34, 35, 36, 37, 38, 39, 40, 41, 42, 43, 44, 45, 46, 47, 48, 49] (.step 30 [] (.step 31 [] (.step 32 [] (.step 33 [] (.step 34 [] (.step 35 [36, 37, 38, 46, 47, 48, 49] (.step 36 [] (.step 37 [] (.step 38 [46, 47, 48, 49] (.step 39 [] (.step 40 [] (.step 41 [] (.step 42 [43, 44, 45, 46, 47, 48, 49] (.step 43 [] (.step 44 [] (.step 45 [46, 47, 48, 49] (.step 46 [] (.step 47 [] (.step 48 [] (.step 49 [] .done)))))))))))))))))))))))))))))))))))))))))))))))))))]
def f236.den (R : Value → HPred) (first : Bool) (k : List Item) (r : Regs) (ds : List Deferred) : HPred := Sx.den Tryz.prog 56 (RQ Tryz.prog Tryz.f236.results.toList R) f236.cuts f236.plans 1000 first k r ds
def f236.b (R : Value → HPred) (x0 x1 x2 : Value) : HPred :=
  opt (idxS x0 x1 1) fun v1 =>
  rd (cellP v1) fun v2 =>
  opt (nilV v2) fun v3 =>
  opt (offV v3 1) fun v4 =>
  rd (cellP v4) fun v5 =>
  opt (idxS x0 x2 1) fun v6 =>
  rd (cellP v6) fun v7 =>
  opt (nilV v7) fun v8 =>
  opt (offV v8 1) fun v9 =>
  rd (cellP v9) fun v10 =>
  opt (binV Tryz.prog .lss 3 (Go.Operand.tmp 13) (Go.Operand.tmp 20) v5 v10) fun v11 =>
  grdK v11 false (fun c => c x0) fun v12 =>
  grdK v11 false (fun c => c x1) fun v13 =>
  grdK v11 false (fun c => opt (idxS v12 v13 1) c) fun v14 =>
  grdK v11 false (fun c => rd (cellP v14) c) fun v15 =>
  grdK v11 false (fun c => opt (nilV v15) c) fun v16 =>
  grdK v11 false (fun c => opt (offV v16 1) c) fun v17 =>
  grdK v11 false (fun c => rd (cellP v17) c) fun v18 =>
  grdK v11 false (fun c => c x0) fun v19 =>
  grdK v11 false (fun c => c x2) fun v20 =>
  grdK v11 false (fun c => opt (idxS v19 v20 1) c) fun v21 =>
  grdK v11 false (fun c => rd (cellP v21) c) fun v22 =>
  grdK v11 false (fun c => opt (nilV v22) c) fun v23 =>
  grdK v11 false (fun c => opt (offV v23 1) c) fun v24 =>
  grdK v11 false (fun c => rd (cellP v24) c) fun v25 =>
  grdK v11 false (fun c => opt (binV Tryz.prog .eql 3 (Go.Operand.tmp 29) (Go.Operand.tmp 36) v18 v25) c) fun v26 =>
  grdK v11 false (fun c => c v26) fun v27 =>
  grdK v27 true (fun c => c x0) fun v28 =>
  grdK v27 true (fun c => c x1) fun v29 =>
  grdK v27 true (fun c => opt (idxS v28 v29 1) c) fun v30 =>
  grdK v27 true (fun c => rd (cellP v30) c) fun v31 =>
  grdK v27 true (fun c => opt (nilV v31) c) fun v32 =>
  grdK v27 true (fun c => opt (offV v32 0) c) fun v33 =>
  grdK v27 true (fun c => rd (cellP v33) c) fun v34 =>
  grdK v27 true (fun c => c x0) fun v35 =>
  grdK v27 true (fun c => c x2) fun v36 =>
  grdK v27 true (fun c => opt (idxS v35 v36 1) c) fun v37 =>
  grdK v27 true (fun c => rd (cellP v37) c) fun v38 =>
  grdK v27 true (fun c => opt (nilV v38) c) fun v39 =>
  grdK v27 true (fun c => opt (offV v39 0) c) fun v40 =>
  grdK v27 true (fun c => rd (cellP v40) c) fun v41 =>
  grdK v27 true (fun c => opt (binV Tryz.prog .lss 3 (Go.Operand.tmp 45) (Go.Operand.tmp 52) v34 v41) c) fun v42 =>
  grdK v11 false (fun c => opt (pickV v27 v42 (.bool false)) c) fun v43 =>
  opt (pickV v11 (.bool true) v43) fun v44 =>
  R v44
theorem f236.b_eq : (fun (R : Value → HPred) (x0 x1 x2 : Value) => f236.den R false (bodyOf Tryz.f236) (regsOf [x0, x1, x2]) []) = (fun (R : Value → HPred) (x0 x1 x2 : Value) => f236.b R x0 x1 x2) := by kernel_rfl
theorem f236.call {R : Value → HPred} {x0 x1 x2 : Value} {H : Hp} (h : f236.b R x0 x1 x2 H) : HC Tryz.prog 236 #[x0, x1, x2] R H :=
  HC.of_den mixed (cuts := f236.cuts) (plans := f236.plans) (args := [x0, x1, x2]) Tryz.func236 (by kernel_rfl) (fun w => Tryz.call236 _ w) (by kernel_rfl) (Eq.mpr (congrFun (congrFun (congrFun (congrFun (congrFun (f236.b_eq) R) x0) x1) x2) H) h)
/-! f237: (gauntlet/timers.row).Swap -/
def f237.cuts : List (Nat × List Nat) := []
def f237.plans : List (Nat × Plan) := [(0, (.step 0 [] (.step 1 [] (.step 2 [] (.step 3 [] (.step 4 [] (.step 5 [] (.step 6 [] (.step 7 [12, 13, 14, 15] (.step 8 [] (.step 9 [] (.step 10 [] (.step 11 [12, 13, 14, 15] (.step 12 [] (.act 13 (.step 14 [] (.act 15 .done))))))))))))))))), (1, (.step 0 [] (.step 1 [] (.step 2 [] (.step 3 [10, 11, 12, 13, 14, 15] (.step 4 [] (.step 5 [] (.step 6 [] (.step 7 [10, 11, 12, 13, 14, 15] (.step 8 [] (.step 9 [] (.step 10 [] (.step 11 [] (.act 12 (.step 13 [] (.step 14 [] (.act 15 .done)))))))))))))))))]
def f237.den (R : Value → HPred) (first : Bool) (k : List Item) (r : Regs) (ds : List Deferred) : HPred := Sx.den Tryz.prog 34 (RQ Tryz.prog Tryz.f237.results.toList R) f237.cuts f237.plans 1000 first k r ds
def f237.b (R : Value → HPred) (x0 x1 x2 : Value) : HPred :=
  opt (idxS x0 x2 1) fun v1 =>
  rd (cellP v1) fun v2 =>
  opt (idxS x0 x1 1) fun v3 =>
  rd (cellP v3) fun v4 =>
  opt (idxS x0 x1 1) fun v5 =>
  st v5 v2 <|
  opt (idxS x0 x2 1) fun v6 =>
  st v6 v4 <|
  opt (idxS x0 x1 1) fun v7 =>
  rd (cellP v7) fun v8 =>
  opt (idxS x0 x2 1) fun v9 =>
  rd (cellP v9) fun v10 =>
  opt (nilV v8) fun v11 =>
  opt (offV v11 2) fun v12 =>
  st v12 x1 <|
  opt (nilV v10) fun v13 =>
  opt (offV v13 2) fun v14 =>
  st v14 x2 <|
  R (.tuple #[])
theorem f237.b_eq : (fun (R : Value → HPred) (x0 x1 x2 : Value) => f237.den R false (bodyOf Tryz.f237) (regsOf [x0, x1, x2]) []) = (fun (R : Value → HPred) (x0 x1 x2 : Value) => f237.b R x0 x1 x2) := by kernel_rfl
theorem f237.call {R : Value → HPred} {x0 x1 x2 : Value} {H : Hp} (h : f237.b R x0 x1 x2 H) : HC Tryz.prog 237 #[x0, x1, x2] R H :=
  HC.of_den mixed (cuts := f237.cuts) (plans := f237.plans) (args := [x0, x1, x2]) Tryz.func237 (by kernel_rfl) (fun w => Tryz.call237 _ w) (by kernel_rfl) (Eq.mpr (congrFun (congrFun (congrFun (congrFun (congrFun (f237.b_eq) R) x0) x1) x2) H) h)
/-! f238: (*gauntlet/timers.row).Pop -/
def f238.cuts : List (Nat × List Nat) := []
def f238.plans : List (Nat × Plan) := []
def f238.den (R : Value → HPred) (first : Bool) (k : List Item) (r : Regs) (ds : List Deferred) : HPred := Sx.den Tryz.prog 30 (RQ Tryz.prog Tryz.f238.results.toList R) f238.cuts f238.plans 1000 first k r ds
def f238.b (R : Value → HPred) (x0 : Value) : HPred :=
  opt (nilV x0) fun v1 =>
  rd (cellP v1) fun v2 =>
  opt (pureRun Tryz.prog (bltN .len #[152] 3 #[false] [v2])) fun v3 =>
  opt (binV Tryz.prog .sub 3 (Go.Operand.tmp 8) (Go.Operand.const (Go.Value.int Go.IntKind.i64 1)) v3 (.int .i64 1)) fun v4 =>
  opt (nilV x0) fun v5 =>
  rd (cellP v5) fun v6 =>
  opt (idxS v6 v4 1) fun v7 =>
  rd (cellP v7) fun v8 =>
  opt (nilV x0) fun v9 =>
  rd (cellP v9) fun v10 =>
  opt (idxS v10 v4 1) fun v11 =>
  st v11 (.pointer none) <|
  opt (nilV x0) fun v12 =>
  rd (cellP v12) fun v13 =>
  opt (pureRun Tryz.prog (Instr.sliceAt 152 v13 none (some v4) none)) fun v14 =>
  opt (nilV x0) fun v15 =>
  st v15 v14 <|
  opt (pureRun Tryz.prog (Instr.makeInterface 166 v8)) fun v16 =>
  R v16
theorem f238.b_eq : (fun (R : Value → HPred) (x0 : Value) => f238.den R false (bodyOf Tryz.f238) (regsOf [x0]) []) = (fun (R : Value → HPred) (x0 : Value) => f238.b R x0) := by kernel_rfl
theorem f238.call {R : Value → HPred} {x0 : Value} {H : Hp} (h : f238.b R x0 H) : HC Tryz.prog 238 #[x0] R H :=
  HC.of_den mixed (cuts := f238.cuts) (plans := f238.plans) (args := [x0]) Tryz.func238 (by kernel_rfl) (fun w => Tryz.call238 _ w) (by kernel_rfl) (Eq.mpr (congrFun (congrFun (congrFun (f238.b_eq) R) x0) H) h)
/-! f239: (*gauntlet/timers.row).Push -/
def f239.cuts : List (Nat × List Nat) := []
def f239.plans : List (Nat × Plan) := []
def f239.den (R : Value → HPred) (first : Bool) (k : List Item) (r : Regs) (ds : List Deferred) : HPred := Sx.den Tryz.prog 22 (RQ Tryz.prog Tryz.f239.results.toList R) f239.cuts f239.plans 1000 first k r ds
def f239.b (R : Value → HPred) (x0 x1 : Value) : HPred :=
  opt (pureRun Tryz.prog (Instr.typeAssert x1 20 166 false)) fun v1 =>
  opt (nilV x0) fun v2 =>
  rd (cellP v2) fun v3 =>
  opt (pureRun Tryz.prog (bltN .len #[152] 3 #[false] [v3])) fun v4 =>
  opt (nilV v1) fun v5 =>
  opt (offV v5 2) fun v6 =>
  st v6 v4 <|
  opt (nilV x0) fun v7 =>
  rd (cellP v7) fun v8 =>
  tot Tryz.prog (Instr.buildSlice 152 1 #[(0, v1)]) fun v9 =>
  blt Tryz.prog .append #[152, 152] 152 #[false, false] [v8, v9] fun v10 =>
  opt (nilV x0) fun v11 =>
  st v11 v10 <|
  R (.tuple #[])
theorem f239.b_eq : (fun (R : Value → HPred) (x0 x1 : Value) => f239.den R false (bodyOf Tryz.f239) (regsOf [x0, x1]) []) = (fun (R : Value → HPred) (x0 x1 : Value) => f239.b R x0 x1) := by kernel_rfl
theorem f239.call {R : Value → HPred} {x0 x1 : Value} {H : Hp} (h : f239.b R x0 x1 H) : HC Tryz.prog 239 #[x0, x1] R H :=
  HC.of_den mixed (cuts := f239.cuts) (plans := f239.plans) (args := [x0, x1]) Tryz.func239 (by kernel_rfl) (fun w => Tryz.call239 _ w) (by kernel_rfl) (Eq.mpr (congrFun (congrFun (congrFun (congrFun (f239.b_eq) R) x0) x1) H) h)
end Go.Proofs.YtnnheophehnioaaGreat
namespace Go.Proofs.YtnnheophehnioaaGreat
open Go.Sx Go.Proofs
set_option maxRecDepth 100000

theorem disable_ok {K : Value → HPred} {H : Hp} (h : K (.tuple #[]) H) : callF Tryz.prog 94 [] K H :=
  mark0_ok Tryz.func94 (by kernel_rfl) (by kernel_rfl) (by kernel_rfl) .disable (by kernel_rfl) h
theorem enable_ok {K : Value → HPred} {H : Hp} (h : K (.tuple #[]) H) : callF Tryz.prog 96 [] K H :=
  mark0_ok Tryz.func96 (by kernel_rfl) (by kernel_rfl) (by kernel_rfl) .enable (by kernel_rfl) h
theorem acquire_ok (a : Addr) {K : Value → HPred} {H : Hp} (h : K (.tuple #[]) H) : callF Tryz.prog 97 [.pointer (some a)] K H :=
  marked_ok Tryz.func97 (by kernel_rfl) (by kernel_rfl) (by kernel_rfl) .acquire (by kernel_rfl) a h
theorem release_ok (a : Addr) {K : Value → HPred} {H : Hp} (h : K (.tuple #[]) H) : callF Tryz.prog 99 [.pointer (some a)] K H :=
  marked_ok Tryz.func99 (by kernel_rfl) (by kernel_rfl) (by kernel_rfl) .releaseMerge (by kernel_rfl) a h
theorem cas32_ok {b o : Nat} {c : Array Value} {T : TypeId} {x y : Int} {K : Value → HPred} {H : Hp} (hc : H[b]? = some (.cells c T (0, 0))) (ho : c[o]? = some (.int .i32 x))
    (h : K (.bool true) (upd H b (.cells (c.setIfInBounds o (.int .i32 y)) T (0, 0)))) : callF Tryz.prog 95 [.pointer (some ⟨b, o, none⟩), .int .i32 x, .int .i32 y] K H :=
  cas_ok Tryz.func95 (by kernel_rfl) (by kernel_rfl) (by kernel_rfl) .i32 (by kernel_rfl) hc ho h
theorem add32_ok {b o : Nat} {c : Array Value} {T : TypeId} {x y : Int} {K : Value → HPred} {H : Hp} (hc : H[b]? = some (.cells c T (0, 0))) (ho : c[o]? = some (.int .i32 x))
    (h : K (.int .i32 (IntKind.i32.wrap (x + y))) (upd H b (.cells (c.setIfInBounds o (.int .i32 (IntKind.i32.wrap (x + y)))) T (0, 0)))) : callF Tryz.prog 100 [.pointer (some ⟨b, o, none⟩), .int .i32 y] K H :=
  Go.Sx.add_ok Tryz.func100 (by kernel_rfl) (by kernel_rfl) (by kernel_rfl) .i32 (by kernel_rfl) hc ho h
theorem size_mutex : (Tryz.prog.info? 77).map (·.size) = some 2 := by kernel_rfl
theorem conv_mutex {b o : Nat} {c : Array Value} {T : TypeId} {fz : Nat × Nat} {K : Value → HPred} {H : Hp} (hc : H[b]? = some (.cells c T fz)) (ho : o < c.size) (h : K (.pointer (some ⟨b, o, none⟩)) H) :
    tot Tryz.prog (convert 191 195 (.pointer (some ⟨b, o, none⟩))) K H := by
  obtain ⟨i, hi, hs⟩ := Option.map_eq_some_iff.1 size_mutex
  exact unsafe_ok Tryz.underlying191 Tryz.underlying195 hi (by omega) hc ho h
section
variable {b o : Nat} {c : Array Value} {T : TypeId} {H : Hp}
/-- Lock. -/
theorem lock_ok {K : Value → HPred} (hb : H[b]? = some (.cells c T (0, 0))) (ho : c[o]? = some (.int .i32 0)) (hk : K (.tuple #[]) (upd H b (.cells (c.setIfInBounds o (.int .i32 1)) T (0, 0)))) :
    callF Tryz.prog 29 [.pointer (some ⟨b, o, none⟩)] K H := by
  have hlt : o < c.size := (Array.getElem?_eq_some_iff.1 ho).1
  refine f29.call ?_
  simp only [f29.b, nilV_ptr, offV_ptr, opt_some, Nat.add_zero]
  refine f68.call ?_
  simp only [f68.b, nilV_ptr, offV_ptr, opt_some, Nat.add_zero]
  refine disable_ok ?_
  refine cas32_ok hb ho ?_
  simp only [cnd_true]
  refine enable_ok ?_
  refine conv_mutex (upd_self hb) (by simpa using hlt) ?_
  exact acquire_ok _ hk
theorem unlock_in {K : Value → HPred} (hb : H[b]? = some (.cells c T (0, 0))) (ho : c[o]? = some (.int .i32 1)) (hk : K (.tuple #[]) (upd H b (.cells (c.setIfInBounds o (.int .i32 0)) T (0, 0)))) :
    callF Tryz.prog 69 [.pointer (some ⟨b, o, none⟩)] K H := by
  have hlt : o < c.size := (Array.getElem?_eq_some_iff.1 ho).1
  refine f69.call ?_
  simp only [f69.b, nilV_ptr, offV_ptr, opt_some, Nat.add_zero, cnd_true]
  rw [rd_blk hb ho]
  refine conv_mutex hb hlt ?_
  refine release_ok _ ?_
  refine disable_ok ?_
  refine f69.b3_ok ?_
  simp only [f69.b3, nilV_ptr, offV_ptr, opt_some, Nat.add_zero]
  refine add32_ok hb ho ?_
  rw [show IntKind.i32.wrap (1 + -1) = 0 from rfl, int_neq]
  simp only [opt_some, decide_true, Bool.not_true, cnd_false]
  refine f69.b6_ok ?_
  simp only [f69.b6]
  exact enable_ok hk
/-- Unlock. -/
theorem unlock_ok {K : Value → HPred} (hb : H[b]? = some (.cells c T (0, 0))) (ho : c[o]? = some (.int .i32 1)) (hk : K (.tuple #[]) (upd H b (.cells (c.setIfInBounds o (.int .i32 0)) T (0, 0)))) :
    callF Tryz.prog 30 [.pointer (some ⟨b, o, none⟩)] K H := by
  refine f30.call ?_
  simp only [f30.b, nilV_ptr, offV_ptr, opt_some, Nat.add_zero]
  exact unlock_in hb ho hk
theorem unlockD_eq : (fun (R : HPred) (x0 : Value) => Sx.den Tryz.prog Tryz.f30.ntmps (fun r ds => match ds with | [] => retL Tryz.prog Tryz.f30.results.toList r [] fun _ => R | _ => bot) [] [] 1000 false (bodyOf Tryz.f30) (regsOf [x0]) []) =
    (fun (R : HPred) (x0 : Value) => opt (nilV x0) fun v1 => opt (offV v1 0) fun v2 => callF Tryz.prog 69 [v2] fun _ => R) := by kernel_rfl
/-- Unlock, deferred. -/
theorem unlockD_ok {R : HPred} (hb : H[b]? = some (.cells c T (0, 0))) (ho : c[o]? = some (.int .i32 1)) (hk : R (upd H b (.cells (c.setIfInBounds o (.int .i32 0)) T (0, 0)))) :
    HCD Tryz.prog 30 #[.pointer (some ⟨b, o, none⟩)] R H := by
  refine HCD.of_den mixed (args := [.pointer (some ⟨b, o, none⟩)]) Tryz.func30 (by kernel_rfl) (fun w => Tryz.call30 _ w) (by kernel_rfl) (cuts := []) (plans := []) ?_
  refine Eq.mpr (congrFun (congrFun (congrFun unlockD_eq R) _) H) ?_
  simp only [nilV_ptr, offV_ptr, opt_some, Nat.add_zero]
  exact unlock_in hb ho hk
theorem leave_unlock {R : HPred} (hb : H[b]? = some (.cells c T (0, 0))) (ho : c[o]? = some (.int .i32 1)) (hk : R (upd H b (.cells (c.setIfInBounds o (.int .i32 0)) T (0, 0)))) :
    leaveH Tryz.prog R ({ target := .fn (.func 30) #[], args := #[.pointer (some ⟨b, o, none⟩)] } :: []) H := by
  exact unlockD_ok hb ho hk
end

end Go.Proofs.YtnnheophehnioaaGreat
namespace Go.Sx
variable {P : Program}

def partO (P : Program) (t : TypeId) (cs : Array Value) (off : Nat) : Option Value := match layT P t with
  | some (true, n) => some (.agg (cs.extract off (off + n)))
  | some (false, _) => cs[off]?
  | none => none
def eqFields (P : Program) (rec : TypeId → Value → Value → Option Bool) (xs ys : Array Value) : List Field → Option Bool
  | [] => some true
  | f :: fs => match decide (f.name ≠ "_") with
    | false => eqFields P rec xs ys fs
    | true => match partO P f.type xs f.offset, partO P f.type ys f.offset with
      | some a, some b => match rec f.type a b, eqFields P rec xs ys fs with
        | some r, some s => some (r && s)
        | _, _ => none
      | _, _ => none
def eqElems (P : Program) (rec : TypeId → Value → Value → Option Bool) (elem : TypeId) (n : Nat) (xs ys : Array Value) : List Nat → Option Bool
  | [] => some true
  | i :: is => match partO P elem xs (i * n), partO P elem ys (i * n) with
    | some a, some b => match rec elem a b, eqElems P rec elem n xs ys is with
      | some r, some s => some (r && s)
      | _, _ => none
    | _, _ => none
def eqO (P : Program) : Nat → TypeId → Value → Value → Option Bool
  | 0, _, _, _ => none
  | d + 1, t, x, y => match P.underlying t, x, y with
    | some .bool, .bool a, .bool b => some (a == b)
    | some (.int _), .int k a, .int k' b => match decide (k = k') with
      | true => some (a == b)
      | false => none
    | some (.struct fields), .agg xs, .agg ys => match P.stoodInHeld t with
      | false => eqFields P (eqO P d) xs ys fields.toList
      | true => none
    | some (.array len elem), .agg xs, .agg ys => match P.info? elem with
      | some i => eqElems P (eqO P d) elem i.size xs ys (List.range' 0 len)
      | none => none
    | _, _, _ => none

theorem pureRun_bind {α β : Type} (s : Sem α) (f : α → Sem β) : pureRun P (s.bind f) = (pureRun P s).bind fun a => pureRun P (f a) := by
  induction s with
  | pure a => rfl
  | program k ih => exact ih P
  | mark m k ih => exact ih
  | _ => rfl
theorem pureRun_und {t : TypeId} {d : TypeDesc} (h : P.underlying t = some d) : pureRun P (underlying t) = some d := by
  have := run_und (P := P) h (fun d => Sem.pure d)
  rw [pureRun_bind] at this
  cases hp : pureRun P (underlying t) with
  | none => rw [hp] at this; cases this
  | some a => rw [hp] at this; exact this
theorem partO_ok {t : TypeId} {cs : Array Value} {off : Nat} {v : Value} (h : partO P t cs off = some v) : pureRun P (part t cs off) = some v := by
  unfold partO layT at h
  split at h
  · rename_i n hl
    split at hl
    · rename_i d i hd hi
      simp only [Option.some.injEq, Prod.mk.injEq] at hl
      obtain ⟨h1, rfl⟩ := hl
      cases h
      have ha : pureRun P (isAgg t) = some true := by
        unfold isAgg
        simp only [bindS]
        rw [pureRun_bind, pureRun_und hd]
        cases d <;> first | rfl | (simp [aggD] at h1)
      have hz := run_size (P := P) hi (fun n => Sem.pure n)
      rw [pureRun_bind] at hz
      have hz' : pureRun P (sizeOf t) = some i.size := by
        cases hp : pureRun P (sizeOf t) with
        | none => rw [hp] at hz; cases hz
        | some a => rw [hp] at hz; exact hz
      unfold part
      simp only [bindS]
      rw [pureRun_bind, ha]
      simp only [Option.bind_some, if_true]
      rw [pureRun_bind, hz']
      rfl
    · cases hl
  · rename_i n hl
    split at hl
    · rename_i d i hd hi
      simp only [Option.some.injEq, Prod.mk.injEq] at hl
      obtain ⟨h1, rfl⟩ := hl
      have ha : pureRun P (isAgg t) = some false := by
        unfold isAgg
        simp only [bindS]
        rw [pureRun_bind, pureRun_und hd]
        cases d <;> first | rfl | (simp [aggD] at h1)
      unfold part
      simp only [bindS]
      rw [pureRun_bind, ha]
      simp only [Option.bind_some, Bool.false_eq_true, if_false, h]
      rfl
    · cases hl
  · cases h
theorem eqFields_ok {d : Nat} {xs ys : Array Value} (hrec : ∀ t x y b, eqO P d t x y = some b → pureRun P (Op.equalIn d t x y) = some b) : ∀ (fs : List Field) (b : Bool),
    eqFields P (eqO P d) xs ys fs = some b → pureRun P (Op.eqFields d xs ys fs) = some b
  | [], b, h => h
  | f :: fs, b, h => by
    unfold eqFields at h
    unfold Op.eqFields
    by_cases hn : f.name ≠ "_"
    · rw [decide_eq_true hn] at h
      simp only at h
      rw [if_pos hn]
      cases h1 : partO P f.type xs f.offset with
      | none => rw [h1] at h; cases h
      | some x =>
        cases h2 : partO P f.type ys f.offset with
        | none => rw [h1, h2] at h; cases h
        | some y =>
          rw [h1, h2] at h
          simp only at h
          cases h3 : eqO P d f.type x y with
          | none => rw [h3] at h; cases h
          | some r =>
            cases h4 : eqFields P (eqO P d) xs ys fs with
            | none => rw [h3, h4] at h; cases h
            | some s =>
              rw [h3, h4] at h
              cases h
              simp only [bindS]
              rw [pureRun_bind, partO_ok h1]
              simp only [Option.bind_some]
              rw [pureRun_bind, partO_ok h2]
              simp only [Option.bind_some]
              rw [pureRun_bind, hrec _ _ _ _ h3]
              simp only [Option.bind_some]
              cases r
              · rfl
              · simp only [Bool.not_true, Bool.false_eq_true, if_false, Bool.true_and]
                exact eqFields_ok hrec fs s h4
    · rw [decide_eq_false hn] at h
      rw [if_neg hn]
      exact eqFields_ok hrec fs b h
theorem eqO_ok : ∀ (d : Nat) (t : TypeId) (x y : Value) (b : Bool), eqO P d t x y = some b → pureRun P (Op.equalIn d t x y) = some b := by
  intro d
  induction d with
  | zero => intro t x y b h; cases h
  | succ d ih =>
    intro t x y b h
    unfold eqO at h
    split at h
    · rename_i a c hu
      cases h
      unfold Op.equalIn
      simp only [bindS]
      rw [run_und hu]; rfl
    · rename_i k0 k a k' c hu
      by_cases hk : k = k'
      · subst hk
        simp only [decide_true, Option.some.injEq] at h
        subst h
        unfold Op.equalIn
        simp only [bindS]
        rw [run_und hu]
        simp only [if_true]
        rfl
      · rw [decide_eq_false hk] at h; cases h
    · rename_i fields xs ys hu
      cases hp : P.stoodInHeld t with
      | true => rw [hp] at h; cases h
      | false =>
        rw [hp] at h
        simp only at h
        have key := eqFields_ok (xs := xs) (ys := ys) ih fields.toList b h
        unfold Op.equalIn
        simp only [bindS]
        rw [run_und hu]
        simp only
        rw [pureRun_bind]
        show (pureRun P (Sem.program Sem.pure)).bind _ = _
        simp only [pureRun, Option.bind_some, hp, Bool.false_eq_true, if_false]
        rw [← Array.forIn_toList]
        generalize fields.toList = fs at key ⊢
        clear hu h
        rw [← key]
        clear key
        induction fs with
        | nil => rfl
        | cons f fs ihf =>
          simp only [List.forIn_cons, Op.eqFields]
          have := lawful
          split
          · simp only [bindS, assocS, pureRun_bind]
            cases pureRun P (part f.type xs f.offset) with
            | none => rfl
            | some x =>
              simp only [Option.bind_some]
              cases pureRun P (part f.type ys f.offset) with
              | none => rfl
              | some y =>
                simp only [Option.bind_some]
                cases pureRun P (Op.equalIn d f.type x y) with
                | none => rfl
                | some r =>
                  simp only [Option.bind_some]
                  cases r
                  · rfl
                  · simp only [Bool.not_true, Bool.false_eq_true, if_false]
                    rw [← ihf]
                    simp only [bindS, pureRun_bind]
                    rfl
          · rw [← ihf]
            simp only [bindS, pureRun_bind]
            rfl
    · rename_i len elem xs ys hu
      cases hi : P.info? elem with
      | none => rw [hi] at h; cases h
      | some i =>
        rw [hi] at h
        simp only at h
        unfold Op.equalIn
        simp only [bindS]
        rw [run_und hu]
        simp only
        rw [run_size hi]
        rw [Std.Legacy.Range.forIn_eq_forIn_range']
        have hr : List.range' ({ start := 0, stop := len, step := 1, step_pos := Nat.zero_lt_one } : Std.Legacy.Range).start ({ start := 0, stop := len, step := 1, step_pos := Nat.zero_lt_one } : Std.Legacy.Range).size ({ start := 0, stop := len, step := 1, step_pos := Nat.zero_lt_one } : Std.Legacy.Range).step = List.range' 0 len := by
          simp [Std.Legacy.Range.size]
        rw [hr]
        generalize List.range' 0 len = is at h
        clear hr
        induction is generalizing b with
        | nil => cases h; rfl
        | cons j js ihj =>
          unfold eqElems at h
          cases h1 : partO P elem xs (j * i.size) with
          | none => rw [h1] at h; cases h
          | some x =>
            cases h2 : partO P elem ys (j * i.size) with
            | none => rw [h1, h2] at h; cases h
            | some y =>
              rw [h1, h2] at h
              simp only at h
              cases h3 : eqO P d elem x y with
              | none => rw [h3] at h; cases h
              | some r =>
                cases h4 : eqElems P (eqO P d) elem i.size xs ys js with
                | none => rw [h3, h4] at h; cases h
                | some s =>
                  rw [h3, h4] at h
                  cases h
                  simp only [List.forIn_cons, bindS, assocS]
                  rw [pureRun_bind, partO_ok h1]
                  simp only [Option.bind_some]
                  rw [pureRun_bind, partO_ok h2]
                  simp only [Option.bind_some]
                  rw [pureRun_bind, ih _ _ _ _ h3]
                  simp only [Option.bind_some]
                  cases r
                  · rfl
                  · simp only [Bool.not_true, Bool.false_eq_true, if_false, Bool.true_and]
                    have := ihj s h4
                    rw [← this]
                    simp only [bindS, pureRun_bind]
                    rfl
    · cases h
theorem agg_eql {t : TypeId} {ox oy : Operand} {xs ys : Array Value} {b : Bool} (hm : P.eqGuardType P.depth t = false) (h : eqO P 10000 t (.agg xs) (.agg ys) = some b) :
    binV P .eql t ox oy (.agg xs) (.agg ys) = some (.bool b) := by
  unfold binV eqGuard
  simp only [bindS]
  rw [pureRun_bind]
  have h1 : ∀ (K : Unit → Option Value), (pureRun P (Sem.bind (program) fun p => if (!p.eqGuardType p.depth t) = true then (pure () : Sem Unit) else Sem.bind (Op.eqGuardIn Op.maxDepth t (.agg xs) (.agg ys)) fun r => if r = true then unsupported (.noEntry "binop/eql: two nil values of an interface type with methods, in a part of a struct or an array") else pure ())).bind K = K () := by
    intro K
    show (pureRun P (Sem.program _)).bind K = K ()
    simp only [program, Sem.bind, pureRun, hm, Bool.not_false, if_true]
    rfl
  refine (h1 _).trans ?_
  simp only [binOp, Op.equal, bindS]
  rw [pureRun_bind, show Op.maxDepth = 10000 from rfl, eqO_ok _ _ _ _ _ h]
  rfl
theorem agg_neq {t : TypeId} {ox oy : Operand} {xs ys : Array Value} {b : Bool} (hm : P.eqGuardType P.depth t = false) (h : eqO P 10000 t (.agg xs) (.agg ys) = some b) :
    binV P .neq t ox oy (.agg xs) (.agg ys) = some (.bool (!b)) := by
  unfold binV eqGuard
  simp only [bindS]
  rw [pureRun_bind]
  have h1 : ∀ (K : Unit → Option Value), (pureRun P (Sem.bind (program) fun p => if (!p.eqGuardType p.depth t) = true then (pure () : Sem Unit) else Sem.bind (Op.eqGuardIn Op.maxDepth t (.agg xs) (.agg ys)) fun r => if r = true then unsupported (.noEntry "binop/eql: two nil values of an interface type with methods, in a part of a struct or an array") else pure ())).bind K = K () := by
    intro K
    show (pureRun P (Sem.program _)).bind K = K ()
    simp only [program, Sem.bind, pureRun, hm, Bool.not_false, if_true]
    rfl
  refine (h1 _).trans ?_
  simp only [binOp, Op.equal, bindS]
  rw [pureRun_bind, show Op.maxDepth = 10000 from rfl, eqO_ok _ _ _ _ _ h]
  rfl

end Go.Sx
namespace Go.Gm
open Go.Sx

def R32 (a : Int) : Prop := -2147483648 ≤ a ∧ a ≤ 2147483647
def heldP (v : Int) : Int := if v > 2147483647 then 2147483647 else if v < -2147483648 then -2147483648 else v
theorem held_R32 (v : Int) : R32 (heldP v) := by unfold R32 heldP; split <;> (try split) <;> omega
def addP (a b : Int) : Int := heldP (a + b)
def subP (a b : Int) : Int := heldP (a - b)
def mulP (a b : Int) : Int := heldP (shrI .i64 (a * b) 16)
def divP (a b : Int) : Int := if b = 0 then (if a > 0 then 2147483647 else if a < 0 then -2147483648 else 0) else heldP ((a * 65536).tdiv b)
def truthP (b : Bool) : Int := if b then 65536 else 0
/-- What an op makes of b and a. -/
def twoP (op : Int) (b a : Int) : Int :=
  if op = 4 then addP b a else if op = 5 then subP b a else if op = 6 then mulP b a else if op = 7 then divP b a
  else if op = 8 then (if a < b then a else b) else if op = 9 then (if a > b then a else b) else if op = 10 then truthP (decide (b < a)) else truthP (decide (b = a))
theorem truth_R32 (b : Bool) : R32 (truthP b) := by cases b <;> exact ⟨by decide, by decide⟩
theorem div_R32 (a b : Int) : R32 (divP a b) := by
  unfold divP
  split
  · split
    · exact ⟨by decide, by decide⟩
    · split <;> exact ⟨by decide, by decide⟩
  · exact held_R32 _
theorem two_R32 {op b a : Int} (hb : R32 b) (ha : R32 a) : R32 (twoP op b a) := by
  unfold twoP
  repeat' split
  all_goals first | exact held_R32 _ | exact div_R32 _ _ | exact truth_R32 _ | assumption
theorem mul_64 {a b : Int} (ha : R32 a) (hb : R32 b) : -4611686018427387904 ≤ a * b ∧ a * b ≤ 4611686018427387904 := by
  unfold R32 at *
  have h1 : (a * b).natAbs ≤ 2147483648 * 2147483648 := by
    rw [Int.natAbs_mul]
    exact Nat.mul_le_mul (by omega) (by omega)
  omega
theorem div_64 {a b : Int} (ha : R32 a) : -140737488355328 ≤ (a * 65536).tdiv b ∧ (a * 65536).tdiv b ≤ 140737488355328 := by
  unfold R32 at *
  have h1 : ((a * 65536).tdiv b).natAbs ≤ 140737488355328 := by
    rw [Int.natAbs_tdiv]
    exact Nat.le_trans (Nat.div_le_self _ _) (by omega)
  omega

/-! ## The machine -/
structure MS where
  frame : Int
  cells : List Int
  seed : Int
  over : Bool
  winner : Int
  in0 : Int
  in1 : Int
  st : List Int
  at' : Int
  ended : Bool
  bad : Bool
def popP (m : MS) : Int × MS := match m.st with
  | [] => (0, { m with bad := true })
  | v :: s => (v, { m with st := s })
def pushP (l : List Int) (m : MS) : MS := { m with st := l.reverse ++ m.st, bad := m.bad || decide (m.st.length + l.length > 32) }
def seedP (s : Int) : Int :=
  let x := xorI .u32 s (shlI .u32 s 13)
  let y := xorI .u32 x (shrI .u32 x 17)
  xorI .u32 y (shlI .u32 y 5)
/-- What an instruction does; the program's way. -/
def stepP (op arg : Int) (m : MS) : MS :=
  if op = 1 then pushP [IntKind.i32.wrap arg] m
  else if op = 2 then pushP [m.cells.getD arg.toNat 0] m
  else if op = 3 then { (popP m).2 with cells := m.cells.set arg.toNat (popP m).1 }
  else if op = 12 then pushP [truthP (decide ((popP m).1 = 0))] (popP m).2
  else if op = 13 then pushP [(popP m).1, (popP m).1] (popP m).2
  else if op = 14 then pushP [(popP m).1, (popP (popP m).2).1] (popP (popP m).2).2
  else if op = 15 then (popP m).2
  else if op = 16 then pushP [IntKind.i32.wrap (if arg = 0 then m.in0 else m.in1)] m
  else if op = 17 then pushP [IntKind.i32.wrap m.frame] m
  else if op = 18 then { m with at' := arg }
  else if op = 19 then (if (popP m).1 = 0 then { (popP m).2 with at' := arg } else (popP m).2)
  else if op = 20 then { m with over := true, winner := arg, ended := true }
  else if op = 21 then pushP [IntKind.i32.wrap ((seedP m.seed).tmod 65536)] { m with seed := seedP m.seed }
  else if op = 22 then { m with ended := true }
  else pushP [twoP op (popP (popP m).2).1 (popP m).1] (popP (popP m).2).2
/-- May an instruction be that, in a program of so many? -/
def mayP (op arg n : Int) : Prop :=
  (op = 1 ∧ R32 arg) ∨ ((op = 2 ∨ op = 3) ∧ 0 ≤ arg ∧ arg < 16) ∨ (op = 16 ∧ 0 ≤ arg ∧ arg ≤ 1) ∨ ((op = 18 ∨ op = 19) ∧ 0 ≤ arg ∧ arg ≤ n) ∨ (op = 20 ∧ 0 ≤ arg ∧ arg ≤ 2) ∨
  (((4 ≤ op ∧ op ≤ 15) ∨ op = 17 ∨ op = 21 ∨ op = 22) ∧ arg = 0)
structure MS.ok (m : MS) : Prop where
  len : m.cells.length = 16
  cells : ∀ x ∈ m.cells, R32 x
  st : ∀ x ∈ m.st, R32 x
  in0 : 0 ≤ m.in0 ∧ m.in0 ≤ 65535
  in1 : 0 ≤ m.in1 ∧ m.in1 ≤ 65535

/-- A program's run; none: it failed. -/
def runP (code : List (Int × Int)) : Nat → MS → Option MS
  | f, m => if m.at' < code.length ∧ m.ended = false then
      match f with
      | 0 => none
      | f + 1 =>
        let x := code.getD m.at'.toNat (0, 0)
        let m1 := stepP x.1 x.2 { m with at' := m.at' + 1 }
        if m1.bad then none else runP code f m1
    else some m
theorem popP_at (m : MS) : (popP m).2.at' = m.at' := by unfold popP; cases m.st <;> rfl
theorem popP_len (m : MS) : (popP m).2.st.length = m.st.length - 1 := by
  unfold popP
  cases hs : m.st with
  | nil => simp [hs]
  | cons v s => simp
theorem popP_bad {m : MS} : (popP m).2.bad = true ∨ (popP m).2.bad = m.bad := by unfold popP; cases m.st <;> simp
/-- Where the machine is behind an instruction. -/
theorem step_at' (op arg : Int) (m : MS) : (stepP op arg m).at' = m.at' ∨ ((op = 18 ∨ op = 19) ∧ (stepP op arg m).at' = arg) := by
  have hp : ∀ (l : List Int) (m : MS), (pushP l m).at' = m.at' := fun _ _ => rfl
  unfold stepP
  by_cases h1 : op = 1
  · rw [if_pos h1]; exact .inl (by simp only [hp, popP_at])
  rw [if_neg h1]
  by_cases h2 : op = 2
  · rw [if_pos h2]; exact .inl (by simp only [hp, popP_at])
  rw [if_neg h2]
  by_cases h3 : op = 3
  · rw [if_pos h3]; exact .inl (popP_at m)
  rw [if_neg h3]
  by_cases h12 : op = 12
  · rw [if_pos h12]; exact .inl (by simp only [hp, popP_at])
  rw [if_neg h12]
  by_cases h13 : op = 13
  · rw [if_pos h13]; exact .inl (by simp only [hp, popP_at])
  rw [if_neg h13]
  by_cases h14 : op = 14
  · rw [if_pos h14]; exact .inl (by simp only [hp, popP_at])
  rw [if_neg h14]
  by_cases h15 : op = 15
  · rw [if_pos h15]; exact .inl (popP_at m)
  rw [if_neg h15]
  by_cases h16 : op = 16
  · rw [if_pos h16]; exact .inl (by simp only [hp, popP_at])
  rw [if_neg h16]
  by_cases h17 : op = 17
  · rw [if_pos h17]; exact .inl (by simp only [hp, popP_at])
  rw [if_neg h17]
  by_cases h18 : op = 18
  · rw [if_pos h18]; exact .inr ⟨.inl h18, rfl⟩
  rw [if_neg h18]
  by_cases h19 : op = 19
  · rw [if_pos h19]; split
    · exact .inr ⟨.inr h19, rfl⟩
    · exact .inl (popP_at m)
  rw [if_neg h19]
  by_cases h20 : op = 20
  · rw [if_pos h20]; exact .inl rfl
  rw [if_neg h20]
  by_cases h21 : op = 21
  · rw [if_pos h21]; exact .inl (by simp only [hp, popP_at])
  rw [if_neg h21]
  by_cases h22 : op = 22
  · rw [if_pos h22]; exact .inl rfl
  rw [if_neg h22]
  exact .inl (by simp only [hp, popP_at])
theorem step_at {op arg n : Int} {m : MS} (hm : mayP op arg n) (h0 : 0 ≤ m.at') (h1 : m.at' ≤ n) : 0 ≤ (stepP op arg m).at' ∧ (stepP op arg m).at' ≤ n := by
  rcases step_at' op arg m with e | ⟨ho, e⟩
  · rw [e]; exact ⟨h0, h1⟩
  · rw [e]; unfold mayP at hm; omega
theorem step_len {op arg : Int} {m : MS} (hl : m.st.length ≤ 32) : (stepP op arg m).bad = false → (stepP op arg m).st.length ≤ 32 := by
  have hp : ∀ (l : List Int) (m : MS), (pushP l m).bad = false → (pushP l m).st.length ≤ 32 := by
    intro l m h
    unfold pushP at h ⊢
    simp only [Bool.or_eq_false_iff, decide_eq_false_iff_not] at h
    simp only [List.length_append, List.length_reverse]
    omega
  have hl1 := popP_len m
  have hl2 : (popP m).2.st.length ≤ 32 := by omega
  unfold stepP
  by_cases h1 : op = 1
  · rw [if_pos h1]; exact hp _ _
  rw [if_neg h1]
  by_cases h2 : op = 2
  · rw [if_pos h2]; exact hp _ _
  rw [if_neg h2]
  by_cases h3 : op = 3
  · rw [if_pos h3]; exact fun _ => hl2
  rw [if_neg h3]
  by_cases h12 : op = 12
  · rw [if_pos h12]; exact hp _ _
  rw [if_neg h12]
  by_cases h13 : op = 13
  · rw [if_pos h13]; exact hp _ _
  rw [if_neg h13]
  by_cases h14 : op = 14
  · rw [if_pos h14]; exact hp _ _
  rw [if_neg h14]
  by_cases h15 : op = 15
  · rw [if_pos h15]; exact fun _ => hl2
  rw [if_neg h15]
  by_cases h16 : op = 16
  · rw [if_pos h16]; exact hp _ _
  rw [if_neg h16]
  by_cases h17 : op = 17
  · rw [if_pos h17]; exact hp _ _
  rw [if_neg h17]
  by_cases h18 : op = 18
  · rw [if_pos h18]; exact fun _ => hl
  rw [if_neg h18]
  by_cases h19 : op = 19
  · rw [if_pos h19]; split
    · exact fun _ => hl2
    · exact fun _ => hl2
  rw [if_neg h19]
  by_cases h20 : op = 20
  · rw [if_pos h20]; exact fun _ => hl
  rw [if_neg h20]
  by_cases h21 : op = 21
  · rw [if_pos h21]; exact hp _ _
  rw [if_neg h21]
  by_cases h22 : op = 22
  · rw [if_pos h22]; exact fun _ => hl
  rw [if_neg h22]
  exact hp _ _

/-! ## States -/
structure St where
  frame : Int
  cells : List Int
  seed : Int
  over : Bool
  winner : Int
structure St.ok (s : St) : Prop where
  len : s.cells.length = 16
  cells : ∀ x ∈ s.cells, R32 x
  seed : 0 ≤ s.seed ∧ s.seed ≤ 4294967295
def isP (s : St) : Prop := 0 ≤ s.frame ∧ s.frame ≤ 600 ∧ 0 ≤ s.winner ∧ s.winner ≤ 2 ∧ (s.over = true ∨ s.winner = 0)
def startP (seed : Int) : St := ⟨0, List.replicate 16 0, if seed = 0 then 1 else seed, false, 0⟩
def zeroP : St := ⟨0, List.replicate 16 0, 0, false, 0⟩
/-- A frame's machine. -/
def machP (s : St) (i0 i1 : Int) : MS := ⟨s.frame, s.cells, s.seed, s.over, s.winner, i0, i1, [], 0, false, false⟩
def MS.toSt (m : MS) : St := ⟨m.frame, m.cells, m.seed, m.over, m.winner⟩
/-- The end by the cap. -/
def capP (cap : Int) (s : St) : St :=
  if s.frame ≥ cap ∧ s.over = false then { s with over := true, winner := if s.cells.getD 0 0 > s.cells.getD 1 0 then 0 else if s.cells.getD 0 0 < s.cells.getD 1 0 then 1 else 2 } else s
def frameP (code : List (Int × Int)) (cap : Int) (fuel : Nat) (s : St) (i0 i1 : Int) : St :=
  let s1 := match runP code fuel (machP s i0 i1) with
    | some m => m.toSt
    | none => s
  capP cap { s1 with frame := s1.frame + 1 }

end Go.Gm
namespace Go.Gm

structure Ev where
  kind : Int
  player : Int
  other : Int
  frame : Int
  inn : Int
  n : Int
  deriving DecidableEq
/-- A match: its game; who plays, how it stands; what both did; the pairs, the state behind these; what happened. -/
structure Ct where
  code : List (Int × Int)
  cap : Int
  fuel : Int
  p0 : Int
  p1 : Int
  seed : Int
  l0 : Int
  l1 : Int
  n0 : Int
  n1 : Int
  over : Bool
  winner : Int
  why : Int
  opened : Bool
  in0 : List Int
  in1 : List Int
  pairs : List (Int × Int)
  st : St
  evs : List Ev
def Ct.new (code : List (Int × Int)) (cap fuel : Int) : Ct :=
  ⟨code, cap, fuel, 0, 0, 0, 0, 0, 0, 0, false, 0, 0, false, [], [], [], startP 0, []⟩
def Ct.openP (c : Ct) (e : Ev) : Ct :=
  { c with opened := true, p0 := e.player, p1 := e.other, seed := e.n, st := startP e.n }
def Ct.addEv (c : Ct) (e : Ev) : Ct := { c with evs := c.evs ++ [e] }
def openOk (e : Ev) : Prop := 1 ≤ e.player ∧ 1 ≤ e.other ∧ e.player ≠ e.other ∧ 0 ≤ e.n ∧ e.n ≤ 4294967295

end Go.Gm
namespace Go.Proofs.YtnnheophehnioaaGreat
open Go.Sx Go.Proofs Go.Gm
set_option maxRecDepth 100000

theorem cv_3264 (a : Int) : pureRun Tryz.prog (convert 21 2 (.int .i32 a)) = some (.int .i64 (IntKind.i64.wrap a)) := conv_int Tryz.underlying21 Tryz.underlying2
theorem cv_6432 (a : Int) : pureRun Tryz.prog (convert 2 21 (.int .i64 a)) = some (.int .i32 (IntKind.i32.wrap a)) := conv_int Tryz.underlying2 Tryz.underlying21
theorem w64_32 {a : Int} (h : R32 a) : IntKind.i64.wrap a = a := by unfold R32 at h; exact wrap64_id (by omega) (by omega)
section
variable {K : Value → HPred} {H : Hp} {a b v : Int}
theorem held_ok (hk : K (.int .i32 (heldP v)) H) : callF Tryz.prog 216 [.int .i64 v] K H := by
  refine f216.call ?_
  simp only [f216.b, int_min, int_max, opt_some, cv_6432]
  have : IntKind.i32.wrap (if (if v < 2147483647 then v else 2147483647) > -2147483648 then (if v < 2147483647 then v else 2147483647) else -2147483648) = heldP v := by
    unfold heldP
    repeat' split
    all_goals first | omega | (rw [wrap32_id (by omega) (by omega)]; done) | (rw [wrap32_id (by omega) (by omega)]; omega)
  rw [this]; exact hk
theorem rheld_ok (hk : K (.int .i32 (heldP v)) H) : callF Tryz.prog 189 [.int .i64 v] K H := by
  refine f189.call ?_
  unfold heldP at hk
  by_cases h1 : v > 2147483647
  · rw [if_pos h1] at hk
    simp only [f189.b, int_gtr, opt_some, decide_eq_true h1, cnd_true]; exact hk
  · rw [if_neg h1] at hk
    by_cases h2 : v < -2147483648
    · rw [if_pos h2] at hk
      simp only [f189.b, int_gtr, int_lss, opt_some, decide_eq_false h1, decide_eq_true h2, cnd_true, cnd_false]; exact hk
    · rw [if_neg h2] at hk
      simp only [f189.b, int_gtr, int_lss, opt_some, decide_eq_false h1, decide_eq_false h2, cnd_false, cv_6432]
      rw [wrap32_id (by omega) (by omega)]; exact hk
theorem add_ok (ha : R32 a) (hb : R32 b) (hk : K (.int .i32 (addP a b)) H) : callF Tryz.prog 194 [.int .i32 a, .int .i32 b] K H := by
  refine f194.call ?_
  have e : IntKind.i64.wrap (a + b) = a + b := by unfold R32 at *; exact wrap64_id (by omega) (by omega)
  simp only [f194.b, cv_3264, opt_some, w64_32 ha, w64_32 hb, int_add, e]
  exact held_ok hk
theorem radd_ok (ha : R32 a) (hb : R32 b) (hk : K (.int .i32 (addP a b)) H) : callF Tryz.prog 184 [.int .i32 a, .int .i32 b] K H := by
  refine f184.call ?_
  have e : IntKind.i64.wrap (a + b) = a + b := by unfold R32 at *; exact wrap64_id (by omega) (by omega)
  simp only [f184.b, cv_3264, opt_some, w64_32 ha, w64_32 hb, int_add, e]
  exact rheld_ok hk
theorem sub_ok (ha : R32 a) (hb : R32 b) (hk : K (.int .i32 (subP a b)) H) : callF Tryz.prog 195 [.int .i32 a, .int .i32 b] K H := by
  refine f195.call ?_
  have e : IntKind.i64.wrap (a - b) = a - b := by unfold R32 at *; exact wrap64_id (by omega) (by omega)
  simp only [f195.b, cv_3264, opt_some, w64_32 ha, w64_32 hb, int_sub, e]
  exact held_ok hk
theorem rsub_ok (ha : R32 a) (hb : R32 b) (hk : K (.int .i32 (subP a b)) H) : callF Tryz.prog 185 [.int .i32 a, .int .i32 b] K H := by
  refine f185.call ?_
  have e : IntKind.i64.wrap (a - b) = a - b := by unfold R32 at *; exact wrap64_id (by omega) (by omega)
  simp only [f185.b, cv_3264, opt_some, w64_32 ha, w64_32 hb, int_sub, e]
  exact rheld_ok hk
theorem mul_ok (ha : R32 a) (hb : R32 b) (hk : K (.int .i32 (mulP a b)) H) : callF Tryz.prog 196 [.int .i32 a, .int .i32 b] K H := by
  refine f196.call ?_
  have e : IntKind.i64.wrap (a * b) = a * b := by have := mul_64 ha hb; exact wrap64_id (by omega) (by omega)
  simp only [f196.b, cv_3264, opt_some, w64_32 ha, w64_32 hb, int_mul, e, int_shr _ _ _ _ _ _ _ (show (0 : Int) ≤ 16 by omega)]
  exact held_ok hk
theorem rmul_ok (ha : R32 a) (hb : R32 b) (hk : K (.int .i32 (mulP a b)) H) : callF Tryz.prog 186 [.int .i32 a, .int .i32 b] K H := by
  refine f186.call ?_
  have e : IntKind.i64.wrap (a * b) = a * b := by have := mul_64 ha hb; exact wrap64_id (by omega) (by omega)
  simp only [f186.b, cv_3264, opt_some, w64_32 ha, w64_32 hb, int_mul, e, int_shr _ _ _ _ _ _ _ (show (0 : Int) ≤ 16 by omega)]
  exact rheld_ok hk
theorem div_ok (ha : R32 a) (hb : R32 b) (hk : K (.int .i32 (divP a b)) H) : callF Tryz.prog 197 [.int .i32 a, .int .i32 b] K H := by
  refine f197.call ?_
  have e1 : IntKind.i64.wrap (a * 65536) = a * 65536 := by unfold R32 at *; exact wrap64_id (by omega) (by omega)
  have e2 : IntKind.i64.wrap ((a * 65536).tdiv b) = (a * 65536).tdiv b := by have := div_64 (b := b) ha; exact wrap64_id (by omega) (by omega)
  unfold divP at hk
  by_cases h0 : b = 0
  · rw [if_pos h0] at hk
    by_cases h1 : a > 0
    · rw [if_pos h1] at hk
      simp only [f197.b, int_neq, opt_some, decide_eq_true h0, Bool.not_true, cnd_false, int_gtr, decide_eq_true h1, cnd_true]; exact hk
    · rw [if_neg h1] at hk
      by_cases h2 : a < 0
      · rw [if_pos h2] at hk
        simp only [f197.b, int_neq, opt_some, decide_eq_true h0, Bool.not_true, cnd_false, int_gtr, decide_eq_false h1, int_lss, decide_eq_true h2, cnd_true]; exact hk
      · rw [if_neg h2] at hk
        simp only [f197.b, int_neq, opt_some, decide_eq_true h0, Bool.not_true, cnd_false, int_gtr, decide_eq_false h1, int_lss, decide_eq_false h2]; exact hk
  · rw [if_neg h0] at hk
    simp only [f197.b, int_neq, opt_some, decide_eq_false h0, Bool.not_false, cnd_true, cv_3264, w64_32 ha, w64_32 hb, int_mul, e1, int_quo _ _ _ _ _ _ h0, e2]
    exact held_ok hk
theorem rdiv_ok (ha : R32 a) (hb : R32 b) (hk : K (.int .i32 (divP a b)) H) : callF Tryz.prog 187 [.int .i32 a, .int .i32 b] K H := by
  refine f187.call ?_
  have e1 : IntKind.i64.wrap (a * 65536) = a * 65536 := by unfold R32 at *; exact wrap64_id (by omega) (by omega)
  have e2 : IntKind.i64.wrap ((a * 65536).tdiv b) = (a * 65536).tdiv b := by have := div_64 (b := b) ha; exact wrap64_id (by omega) (by omega)
  unfold divP at hk
  by_cases h0 : b = 0
  · rw [if_pos h0] at hk
    by_cases h1 : a > 0
    · rw [if_pos h1] at hk
      simp only [f187.b, int_eql, opt_some, decide_eq_true h0, cnd_false, int_gtr, decide_eq_true h1, cnd_true]; exact hk
    · rw [if_neg h1] at hk
      by_cases h2 : a < 0
      · rw [if_pos h2] at hk
        simp only [f187.b, int_eql, opt_some, decide_eq_true h0, cnd_false, int_gtr, decide_eq_false h1, int_lss, decide_eq_true h2, cnd_true]; exact hk
      · rw [if_neg h2] at hk
        simp only [f187.b, int_eql, opt_some, decide_eq_true h0, cnd_false, int_gtr, decide_eq_false h1, int_lss, decide_eq_false h2, cnd_true]; exact hk
  · rw [if_neg h0] at hk
    simp only [f187.b, int_eql, opt_some, decide_eq_false h0, cnd_false, cv_3264, w64_32 ha, w64_32 hb, int_mul, e1, int_quo _ _ _ _ _ _ h0, e2]
    exact rheld_ok hk

/-! ## The machine's functions of two numbers -/
theorem truth_ok {t : Bool} (hk : K (.int .i32 (truthP t)) H) : callF Tryz.prog 217 [.bool t] K H := by
  refine f217.call ?_
  cases t <;> exact hk
theorem rtruth_ok {t : Bool} (hk : K (.int .i32 (truthP t)) H) : callF Tryz.prog 180 [.bool t] K H := by
  refine f180.call ?_
  cases t <;> exact hk
/-- The function of an op of two numbers. -/
def binF (op : Int) : Nat := if op = 4 then 194 else if op = 5 then 195 else if op = 6 then 196 else if op = 7 then 197
  else if op = 8 then 198 else if op = 9 then 199 else if op = 10 then 200 else 201
theorem bin_ok {op : Int} (hb : R32 b) (ha : R32 a) (hk : K (.int .i32 (twoP op b a)) H) : callF Tryz.prog (binF op) [.int .i32 b, .int .i32 a] K H := by
  unfold binF
  unfold twoP at hk
  split
  · rename_i h; rw [if_pos h] at hk; exact add_ok hb ha hk
  rename_i h; rw [if_neg h] at hk; split
  · rename_i h; rw [if_pos h] at hk; exact sub_ok hb ha hk
  rename_i h; rw [if_neg h] at hk; split
  · rename_i h; rw [if_pos h] at hk; exact mul_ok hb ha hk
  rename_i h; rw [if_neg h] at hk; split
  · rename_i h; rw [if_pos h] at hk; exact div_ok hb ha hk
  rename_i h; rw [if_neg h] at hk; split
  · rename_i h; rw [if_pos h] at hk
    refine f198.call ?_
    simp only [f198.b, int_min, opt_some]; exact hk
  rename_i h; rw [if_neg h] at hk; split
  · rename_i h; rw [if_pos h] at hk
    refine f199.call ?_
    simp only [f199.b, int_max, opt_some]; exact hk
  rename_i h; rw [if_neg h] at hk; split
  · rename_i h; rw [if_pos h] at hk
    refine f200.call ?_
    simp only [f200.b, int_lss, opt_some]; exact truth_ok hk
  · rename_i h; rw [if_neg h] at hk
    refine f201.call ?_
    simp only [f201.b, int_eql, opt_some]; exact truth_ok hk
theorem rtwo_ok {op : Int} (hb : R32 b) (ha : R32 a) (hk : K (.int .i32 (twoP op b a)) H) : callF Tryz.prog 181 [.int .i64 op, .int .i32 b, .int .i32 a] K H := by
  refine f181.call ?_
  unfold f181.b
  unfold twoP at hk
  by_cases h4 : op = 4
  · rw [if_pos h4] at hk; simp only [int_eql, opt_some, decide_eq_true h4, cnd_true]; exact radd_ok hb ha hk
  rw [if_neg h4] at hk; simp only [int_eql, opt_some, decide_eq_false h4, cnd_false]
  by_cases h5 : op = 5
  · rw [if_pos h5] at hk; simp only [int_eql, opt_some, decide_eq_true h5, cnd_true]; exact rsub_ok hb ha hk
  rw [if_neg h5] at hk; simp only [int_eql, opt_some, decide_eq_false h5, cnd_false]
  by_cases h6 : op = 6
  · rw [if_pos h6] at hk; simp only [int_eql, opt_some, decide_eq_true h6, cnd_true]; exact rmul_ok hb ha hk
  rw [if_neg h6] at hk; simp only [int_eql, opt_some, decide_eq_false h6, cnd_false]
  by_cases h7 : op = 7
  · rw [if_pos h7] at hk; simp only [int_eql, opt_some, decide_eq_true h7, cnd_true]; exact rdiv_ok hb ha hk
  rw [if_neg h7] at hk; simp only [int_eql, opt_some, decide_eq_false h7, cnd_false]
  by_cases h8 : op = 8
  · rw [if_pos h8] at hk; simp only [int_eql, opt_some, decide_eq_true h8, cnd_true, int_min]
    have e : (if b < a then b else a) = (if a < b then a else b) := by split <;> split <;> omega
    rw [e]; exact hk
  rw [if_neg h8] at hk; simp only [int_eql, opt_some, decide_eq_false h8, cnd_false]
  by_cases h9 : op = 9
  · rw [if_pos h9] at hk; simp only [int_eql, opt_some, decide_eq_true h9, cnd_true, int_max]
    have e : (if b > a then b else a) = (if a > b then a else b) := by split <;> split <;> omega
    rw [e]; exact hk
  rw [if_neg h9] at hk; simp only [int_eql, opt_some, decide_eq_false h9, cnd_false]
  by_cases h10 : op = 10
  · rw [if_pos h10] at hk; simp only [int_eql, opt_some, decide_eq_true h10, cnd_true, int_lss]
    exact rtruth_ok hk
  rw [if_neg h10] at hk; simp only [int_eql, opt_some, decide_eq_false h10, cnd_false]
  exact rtruth_ok hk
end

end Go.Proofs.YtnnheophehnioaaGreat
namespace Go.Proofs.YtnnheophehnioaaGreat
open Go.Sx Go.Proofs Go.Gm
set_option maxRecDepth 100000

/-- A machine's cells; v is its stack's slice. -/
def machA (m : MS) (v : Value) : Array Value :=
  (.int .i64 m.frame :: (m.cells.map (fun x => Value.int .i32 x) ++ [.int .u32 m.seed, .bool m.over, .int .i64 m.winner, .int .u16 m.in0, .int .u16 m.in1, v, .int .i64 m.at', .bool m.ended, .bool m.bad])).toArray
theorem sixteen {α : Type} {l : List α} (h : l.length = 16) : ∃ a0 a1 a2 a3 a4 a5 a6 a7 a8 a9 aa ab ac ad ae af, l = [a0, a1, a2, a3, a4, a5, a6, a7, a8, a9, aa, ab, ac, ad, ae, af] := by
  match l, h with
  | [a0, a1, a2, a3, a4, a5, a6, a7, a8, a9, aa, ab, ac, ad, ae, af], _ => exact ⟨_, _, _, _, _, _, _, _, _, _, _, _, _, _, _, _, rfl⟩
section
variable {m : MS} {v : Value}
theorem machA_size (h : m.cells.length = 16) : (machA m v).size = 26 := by simp [machA, h]
theorem machA_cell (h : m.cells.length = 16) {i : Nat} (hi : i < 16) : (machA m v)[1 + i]? = some (.int .i32 (m.cells.getD i 0)) := by
  unfold machA
  rw [List.getElem?_toArray, Nat.add_comm, List.getElem?_cons_succ, List.getElem?_append_left (by simp; omega), List.getElem?_map, List.getD_eq_getElem?_getD, List.getElem?_eq_getElem (by omega)]
  rfl
theorem machA_hi (h : m.cells.length = 16) (k : Nat) : (machA m v)[17 + k]? = [Value.int .u32 m.seed, .bool m.over, .int .i64 m.winner, .int .u16 m.in0, .int .u16 m.in1, v, .int .i64 m.at', .bool m.ended, .bool m.bad][k]? := by
  unfold machA
  rw [List.getElem?_toArray, show 17 + k = (16 + k) + 1 by omega, List.getElem?_cons_succ, List.getElem?_append_right (by simp; omega)]
  simp [h]
theorem machA_0 : (machA m v)[0]? = some (.int .i64 m.frame) := rfl
theorem machA_setc (h : m.cells.length = 16) {i : Nat} (hi : i < 16) (x : Int) : (machA m v).setIfInBounds (1 + i) (.int .i32 x) = machA { m with cells := m.cells.set i x } v := by
  unfold machA
  apply Array.ext'
  rw [Array.toList_setIfInBounds]
  simp only []
  rw [Nat.add_comm, List.set_cons_succ, List.set_append_left _ _ (by simp; omega), List.map_set]
theorem machA_seth (h : m.cells.length = 16) (k : Nat) (w : Value) : (machA m v).setIfInBounds (17 + k) w =
    (.int .i64 m.frame :: (m.cells.map (fun x => Value.int .i32 x) ++ [Value.int .u32 m.seed, .bool m.over, .int .i64 m.winner, .int .u16 m.in0, .int .u16 m.in1, v, .int .i64 m.at', .bool m.ended, .bool m.bad].set k w)).toArray := by
  unfold machA
  apply Array.ext'
  rw [Array.toList_setIfInBounds]
  rw [show 17 + k = (16 + k) + 1 by omega, List.set_cons_succ, List.set_append_right _ _ (by simp; omega)]
  simp [h]
theorem machA_seed (h : m.cells.length = 16) (x : Int) : (machA m v).setIfInBounds 17 (.int .u32 x) = machA { m with seed := x } v := machA_seth h 0 _
theorem machA_over (h : m.cells.length = 16) (x : Bool) : (machA m v).setIfInBounds 18 (.bool x) = machA { m with over := x } v := machA_seth h 1 _
theorem machA_winner (h : m.cells.length = 16) (x : Int) : (machA m v).setIfInBounds 19 (.int .i64 x) = machA { m with winner := x } v := machA_seth h 2 _
theorem machA_stack (h : m.cells.length = 16) (w : Value) (s : List Int) : (machA m v).setIfInBounds 22 w = machA { m with st := s } w := machA_seth h 5 _
theorem machA_at (h : m.cells.length = 16) (x : Int) : (machA m v).setIfInBounds 23 (.int .i64 x) = machA { m with at' := x } v := machA_seth h 6 _
theorem machA_ended (h : m.cells.length = 16) (x : Bool) : (machA m v).setIfInBounds 24 (.bool x) = machA { m with ended := x } v := machA_seth h 7 _
theorem machA_bad (h : m.cells.length = 16) (x : Bool) : (machA m v).setIfInBounds 25 (.bool x) = machA { m with bad := x } v := machA_seth h 8 _
end
/-- What becomes of a structure at p that has one block of its own. -/
structure Own1 (H H' : Hp) (p : Nat) (bk bk' : Option Nat) : Prop where
  ext : Ext (fun b => b = p ∨ bk = some b) H H'
  bk : bk' = bk ∨ ∃ b, bk' = some b ∧ H.size ≤ b
theorem Own1.refl (H : Hp) (p : Nat) (bk : Option Nat) : Own1 H H p bk bk := ⟨Ext.refl _ _, .inl rfl⟩
theorem Own1.trans {H H1 H2 : Hp} {p : Nat} {bk bk1 bk2 : Option Nat} (h : Own1 H H1 p bk bk1) (h' : Own1 H1 H2 p bk1 bk2) : Own1 H H2 p bk bk2 := by
  refine ⟨h.ext.trans h'.ext fun b hb e => ?_, ?_⟩
  · rcases e with e | e | e
    · exact e
    · exact .inl e
    · rcases h.bk with e' | ⟨b', e', hb'⟩
      · exact .inr (by rw [← e']; exact e)
      · rw [e'] at e; cases e; omega
  · have := h.ext.size
    rcases h'.bk with e | ⟨b, e, hb⟩
    · rw [e]; exact h.bk
    · exact .inr ⟨b, e, by omega⟩
theorem Own1.of0 {H H' : Hp} {p : Nat} {bk : Option Nat} (h : Ext0 H H') : Own1 H H' p bk bk := ⟨h.to, .inl rfl⟩
theorem Own1.upd (H : Hp) (p : Nat) (bk : Option Nat) (x : Obj) : Own1 H (upd H p x) p bk bk := ⟨(ext_upd _ _ _).mono fun _ _ e => .inl e, .inl rfl⟩
/-- At p lies the machine m. -/
structure MAt (H : Hp) (p : Nat) (m : MS) (bk : Option Nat) : Prop where
  blk : ∃ v, H[p]? = some (.cells (machA m v) 264 (0, 0)) ∧ OwnS H v 21 1 m.st.length (m.st.reverse.map fun x => Value.int .i32 x) bk
  ok : m.ok
  ne : bk ≠ some p
theorem MAt.ext0 {H H' : Hp} {p : Nat} {m : MS} {bk : Option Nat} (h : MAt H p m bk) (hx : Ext0 H H') : MAt H' p m bk := by
  obtain ⟨v, h1, h2⟩ := h.blk
  exact ⟨⟨v, hx.blk h1, h2.ext hx fun _ _ e => e⟩, h.ok, h.ne⟩
/-- A field, other than the stack, is written. -/
theorem MAt.put {H : Hp} {p : Nat} {m m' : MS} {bk : Option Nat} (h : MAt H p m bk) (hs : m'.st = m.st) (ho : m'.ok) {K : HPred} {o : Nat} {w : Value} (hv : oneCell w = true) (hlt : o < 26)
    (he : ∀ v, (machA m v).setIfInBounds o w = machA m' v) (hk : ∀ H', MAt H' p m' bk → Own1 H H' p bk bk → K H') : st (.pointer (some ⟨p, o, none⟩)) w K H := by
  obtain ⟨v, h1, h2⟩ := h.blk
  rw [st_blk h1 (by rw [machA_size h.ok.len]; exact hlt) hv, he]
  refine hk _ ⟨⟨v, upd_self h1, ?_⟩, ho, h.ne⟩ (Own1.upd _ _ _ _)
  rw [hs]
  exact h2.ext (ext_upd _ _ _) fun b e e' => h.ne (by rw [e, e'])
theorem MAt.rd {H : Hp} {p : Nat} {m : MS} {bk : Option Nat} (h : MAt H p m bk) {o : Nat} {w : Value} (he : ∀ v, (machA m v)[o]? = some w) (K : Value → HPred) : rd (cellP (.pointer (some ⟨p, o, none⟩))) K H = K w H := by
  obtain ⟨v, h1, h2⟩ := h.blk
  exact rd_blk h1 (he v)
theorem pop_ok' {m : MS} (h : m.ok) : (popP m).2.ok ∧ R32 (popP m).1 := by
  unfold popP
  cases hs : m.st with
  | nil => exact ⟨⟨h.len, h.cells, by simp, h.in0, h.in1⟩, (⟨by decide, by decide⟩ : R32 0)⟩
  | cons v s =>
    have := h.st
    rw [hs] at this
    exact ⟨⟨h.len, h.cells, fun x hx => this x (List.mem_cons_of_mem _ hx), h.in0, h.in1⟩, this v (by simp)⟩
theorem push_ok' {m : MS} (h : m.ok) {l : List Int} (hl : ∀ x ∈ l, R32 x) : (pushP l m).ok := by
  refine ⟨h.len, h.cells, fun x hx => ?_, h.in0, h.in1⟩
  have : x ∈ l.reverse ++ m.st := hx
  rw [List.mem_append, List.mem_reverse] at this
  exact this.elim (hl x) (h.st x)

/-- pop. -/
theorem mpop_ok {H : Hp} {p : Nat} {m : MS} {bk : Option Nat} (h : MAt H p m bk) (hmax : m.st.length < 2 ^ 30) {K : Value → HPred} (hk : ∀ H', MAt H' p (popP m).2 bk → Own1 H H' p bk bk → K (.int .i32 (popP m).1) H') :
    callF Tryz.prog 214 [.pointer (some ⟨p, 0, none⟩)] K H := by
  refine f214.call ?_
  obtain ⟨hok, hr⟩ := pop_ok' h.ok
  obtain ⟨v, h1, h2⟩ := h.blk
  obtain ⟨a, cap, rfl, hcap⟩ := h2.shape
  have hl := h.ok.len
  have r := fun K => rd_blk (K := K) (o := 0 + 22) (v := .slice a m.st.length cap) h1 (machA_hi hl 5)
  have el : IntKind.i64.wrap ((m.st.length : Int) - 1) = (m.st.length : Int) - 1 := wrap64_id (by omega) (by omega)
  cases hs : m.st with
  | nil =>
    have hp : popP m = (0, { m with bad := true }) := by unfold popP; rw [hs]
    rw [hs] at r el
    have hlt : ((([] : List Int).length : Nat) : Int) - 1 < 0 := by simp
    simp only [f214.b, nilV_ptr, offV_ptr, opt_some, r, len_slice Tryz.underlying250, int_sub, el, int_lss, decide_eq_true hlt, cnd_true]
    rw [hp] at hk hok
    exact h.put (m' := { m with bad := true }) (o := 0 + 25) rfl hok rfl (by omega) (fun v => machA_bad hl true) hk
  | cons x s =>
    have hp : popP m = (x, { m with st := s }) := by unfold popP; rw [hs]
    have hlen : m.st.length = s.length + 1 := by rw [hs]; rfl
    have e1 : (m.st.length : Int) - 1 = (s.length : Int) := by omega
    have hlt : ¬ (m.st.length : Int) - 1 < 0 := by omega
    have hg : (m.st.reverse)[s.length]? = some x := by rw [hs]; simp
    rcases h2.is with ⟨_, h4, _⟩ | ⟨b, c, cap', hb, h4, h5, h6, h7, h8⟩
    · omega
    cases h4
    have hc : c[s.length]? = some (.int .i32 x) := by
      rw [h8 _ (by omega), List.getElem?_map, hg]; rfl
    have ix := idxS_eq (b := b) (o := 0) (len := m.st.length) (cap := cap) (size := 1) (k := .i64) (i := (s.length : Int)) (by omega) (by omega)
    have e0 : (0 + Int.toNat (s.length : Int) * 1) = s.length := by omega
    have rc := fun K => rd_blk (K := K) (o := s.length) h5 hc
    have sh := slice_hi (o := 0) (b := b) (n := m.st.length) (cap := cap) (k := .i64) (h := (s.length : Int)) Tryz.underlying250 Tryz.type21 (by omega) (by omega)
    have hsz : 0 + 22 < (machA m (.slice (some ⟨b, 0, none⟩) m.st.length cap)).size := by rw [machA_size hl]; omega
    have s1 := fun C => st_blk (C := C) (o := 0 + 22) (v := .slice (some ⟨b, 0, none⟩) (Int.toNat (s.length : Int)) cap) h1 hsz rfl
    rw [e1] at hlt el
    simp only [f214.b, nilV_ptr, offV_ptr, opt_some, r, len_slice Tryz.underlying250, int_sub, e1, el, int_lss, decide_eq_false hlt, cnd_false, ix, e0, rc, sh, s1]
    rw [hp] at hk hok
    refine hk _ ⟨⟨.slice (some ⟨b, 0, none⟩) s.length cap, ?_, ?_⟩, hok, h.ne⟩ (Own1.upd _ _ _ _)
    · rw [machA_stack hl _ s]; exact upd_self h1
    · refine ⟨by simp, .inr ⟨b, c, cap, hb, rfl, ?_, h6, by simp; omega, fun i hi => ?_⟩⟩
      · rw [upd_ne]; exact h5
        intro e; exact h.ne (by rw [hb, e])
      · simp at hi
        rw [h8 _ (by omega), List.getElem?_map, List.getElem?_map, hs, List.reverse_cons, List.getElem?_append_left (by simp; omega)]

/-- push. -/
theorem mpush_ok {H : Hp} {p : Nat} {m : MS} {bk : Option Nat} (h : MAt H p m bk) (hmax : m.st.length < 2 ^ 20) {l : List Int} (hl : ∀ x ∈ l, R32 x) (hll : l.length ≤ 2) {x : Value} {T : TypeId} (hx : Lies H x T 1 l.length (l.map fun x => Value.int .i32 x))
    {K : Value → HPred} (hk : ∀ H' bk', MAt H' p (pushP l m) bk' → Own1 H H' p bk bk' → K (.tuple #[]) H') :
    callF Tryz.prog 213 [.pointer (some ⟨p, 0, none⟩), x] K H := by
  refine f213.call ?_
  obtain ⟨v, h1, h2⟩ := h.blk
  have hc := h.ok.len
  have r := fun K => rd_blk (K := K) (o := 0 + 22) (v := v) h1 (machA_hi hc 5)
  simp only [f213.b, nilV_ptr, offV_ptr, opt_some, r]
  refine append_own Tryz.underlying250 ⟨_, Tryz.underlying250, by intro q e; cases e⟩ Tryz.type21 rfl rfl rfl (by decide) (by decide) h2 hx (by intro c hc; obtain ⟨a, _, rfl⟩ := List.mem_map.1 hc; rfl) ?_ ?_
  · show (2 * (m.st.length + l.length) + 192) * 4 ≤ 2 ^ 48
    omega
  intro v' H2 bk' ho2 hx2 hbk'
  have hp2 := hx2.blk h1 h.ne
  have hsz : 0 + 22 < (machA m v).size := by rw [machA_size hc]; omega
  have s1 := fun C => st_blk (C := C) (o := 0 + 22) (v := v') hp2 hsz ho2.one
  have hms := machA_stack (v := v) hc v' (l.reverse ++ m.st)
  have hp3 := upd_self (x := .cells ((machA m v).setIfInBounds (0 + 22) v') 264 (0, 0)) hp2
  rw [show (machA m v).setIfInBounds (0 + 22) v' = machA { m with st := l.reverse ++ m.st } v' from hms] at s1 hp3
  have hpsz := blk_lt h1
  have hne' : bk' ≠ some p := by
    rcases hbk' with e | ⟨b, e, hb⟩
    · rw [e]; exact h.ne
    · rw [e]; intro e'; cases e'; omega
  obtain ⟨a', cap', rfl, hcap'⟩ := ho2.shape
  have r3 := fun K => rd_blk (K := K) (o := 0 + 22) (v := .slice a' (m.st.length + l.length) cap') hp3 (machA_hi (m := { m with st := l.reverse ++ m.st }) hc 5)
  have hok : MS.ok { m with st := l.reverse ++ m.st } := (push_ok' h.ok hl : (pushP l m).ok).rec (fun a b c d e => ⟨a, b, c, d, e⟩)
  have m3 : MAt (upd H2 p (.cells (machA { m with st := l.reverse ++ m.st } (.slice a' (m.st.length + l.length) cap')) 264 (0, 0))) p { m with st := l.reverse ++ m.st } bk' := by
    refine ⟨⟨_, hp3, ?_⟩, hok, hne'⟩
    have e1 : (l.reverse ++ m.st).length = m.st.length + l.length := by simp; omega
    have e2 : (l.reverse ++ m.st).reverse.map (fun x => Value.int .i32 x) = (m.st.reverse.map fun x => Value.int .i32 x) ++ l.map fun x => Value.int .i32 x := by simp
    simp only [e1, e2]
    exact ho2.ext (ext_upd _ _ _) fun b e e' => hne' (by rw [e, e'])
  have ow : Own1 H (upd H2 p (.cells (machA { m with st := l.reverse ++ m.st } (.slice a' (m.st.length + l.length) cap')) 264 (0, 0))) p bk bk' :=
    ⟨(hx2.mono fun b _ e => .inr e).trans' ((ext_upd _ _ _).mono fun b _ e => .inl e), hbk'⟩
  simp only [s1, r3, len_slice Tryz.underlying250, opt_some, int_gtr]
  by_cases hb : m.st.length + l.length > 32
  · have hb' : ((m.st.length + l.length : Nat) : Int) > 32 := by omega
    simp only [decide_eq_true hb', cnd_true]
    have hpp : pushP l m = { m with st := l.reverse ++ m.st, bad := true } := by unfold pushP; rw [decide_eq_true hb, Bool.or_true]
    rw [hpp] at hk
    refine m3.put (m' := { m with st := l.reverse ++ m.st, bad := true }) (o := 0 + 25) rfl ⟨hok.len, hok.cells, hok.st, hok.in0, hok.in1⟩ rfl (by omega) (fun v => machA_bad hc true) ?_
    intro H' m4 o4
    exact hk H' bk' m4 (ow.trans o4)
  · have hb' : ¬ ((m.st.length + l.length : Nat) : Int) > 32 := by omega
    simp only [decide_eq_false hb', cnd_false]
    have hpp : pushP l m = { m with st := l.reverse ++ m.st } := by unfold pushP; rw [decide_eq_false hb, Bool.or_false]
    rw [hpp] at hk
    exact hk _ bk' m3 ow
theorem bs_i32 (a : Int) (K : Value → HPred) (H : Hp) : tot Tryz.prog (Instr.buildSlice 250 1 #[(0, .int .i32 a)]) K H =
    K (.slice (some ⟨H.size, 0, none⟩) 1 1) (H.push (.cells #[.int .i32 a] 21)) := by kernel_rfl
theorem bs_i32x2 (a b : Int) (K : Value → HPred) (H : Hp) : tot Tryz.prog (Instr.buildSlice 250 2 #[(0, .int .i32 a), (1, .int .i32 b)]) K H =
    K (.slice (some ⟨H.size, 0, none⟩) 2 2) (H.push (.cells #[.int .i32 a, .int .i32 b] 21)) := by kernel_rfl
theorem mpush1_ok {H : Hp} {p : Nat} {m : MS} {bk : Option Nat} (h : MAt H p m bk) (hmax : m.st.length < 2 ^ 20) {a : Int} (ha : R32 a)
    {K : Value → HPred} (hk : ∀ H' bk', MAt H' p (pushP [a] m) bk' → Own1 H H' p bk bk' → K (.tuple #[]) H') :
    tot Tryz.prog (Instr.buildSlice 250 1 #[(0, .int .i32 a)]) (fun v => callF Tryz.prog 213 [.pointer (some ⟨p, 0, none⟩), v] K) H := by
  rw [bs_i32]
  refine mpush_ok (l := [a]) (h.ext0 (ext_push _ _ _)) hmax (by simpa using ha) (by simp) (lies_new H #[.int .i32 a] 21 1 1 rfl) ?_
  intro H' bk' h1 h2
  exact hk H' bk' h1 ((Own1.of0 (ext_push _ _ _)).trans h2)
theorem mpush2_ok {H : Hp} {p : Nat} {m : MS} {bk : Option Nat} (h : MAt H p m bk) (hmax : m.st.length < 2 ^ 20) {a b : Int} (ha : R32 a) (hb : R32 b)
    {K : Value → HPred} (hk : ∀ H' bk', MAt H' p (pushP [a, b] m) bk' → Own1 H H' p bk bk' → K (.tuple #[]) H') :
    tot Tryz.prog (Instr.buildSlice 250 2 #[(0, .int .i32 a), (1, .int .i32 b)]) (fun v => callF Tryz.prog 213 [.pointer (some ⟨p, 0, none⟩), v] K) H := by
  rw [bs_i32x2]
  refine mpush_ok (l := [a, b]) (h.ext0 (ext_push _ _ _)) hmax (by intro x hx; simp at hx; rcases hx with rfl | rfl <;> assumption) (by simp) (lies_new H #[.int .i32 a, .int .i32 b] 21 1 2 rfl) ?_
  intro H' bk' h1 h2
  exact hk H' bk' h1 ((Own1.of0 (ext_push _ _ _)).trans h2)

end Go.Proofs.YtnnheophehnioaaGreat
