/-
  Part 2 of the proof: contracts of the functions that the law reaches, and the rules they stand on. Own work (an AI agent). No conditions.
-/
import Derived.Test.YtnnheophehnioaaGreatTS1
import Derived.Laws.StructEq
import Derived.Laws.LoneSync
set_option linter.unusedSimpArgs false
set_option linter.unusedVariables false
namespace Go.Sx
variable {P : Program} {f : FuncId} {fn : Func}

theorem semM_extern (hf : P.funcs[f]? = some fn) (hname : (fn.name == "runtime.NumGoroutine") = false) (hb : fn.body.isNone = true) (hn : Extern.findNext fn = none)
    {e : Array Value → Sem Value} (he : Extern.find fn = some e) (args : Array Value) (K : Next → Hp → Prop) (H : Hp) :
    semM P (callFunc f args) K H = semM P (e args) (fun v => K (.value v)) H := by
  unfold callFunc
  simp only [bindS]
  show semM P (Sem.bind program _) K H = _
  simp only [program, Sem.bind, semM, hf, hname, Bool.false_eq_true, if_false, hb, if_true]
  show semM P (Sem.bind (Sem.mark _ _) _) K H = _
  simp only [Sem.bind, semM, hn, he]
  rw [semM_bind]; rfl
theorem HC_extern (hf : P.funcs[f]? = some fn) (hname : (fn.name == "runtime.NumGoroutine") = false) (hb : fn.body.isNone = true) (hn : Extern.findNext fn = none)
    {e : Array Value → Sem Value} (he : Extern.find fn = some e) {args : List Value} {K : Value → HPred} {H : Hp} (h : semM P (e args.toArray) K H) : callF P f args K H := by
  refine .inr ?_
  rw [semM_extern hf hname hb hn he]
  exact h
theorem mark0_ok (hf : P.funcs[f]? = some fn) (hname : (fn.name == "runtime.NumGoroutine") = false) (hb : fn.body.isNone = true) (hn : Extern.findNext fn = none) (m : Mark)
    (he : Extern.find fn = some (fun _ => do mark m; pure Extern.Race.none_)) {K : Value → HPred} {H : Hp} (h : K (.tuple #[]) H) : callF P f [] K H :=
  HC_extern hf hname hb hn he h
theorem marked_ok (hf : P.funcs[f]? = some fn) (hname : (fn.name == "runtime.NumGoroutine") = false) (hb : fn.body.isNone = true) (hn : Extern.findNext fn = none) (m : Addr → Mark)
    (he : Extern.find fn = some (Extern.Race.marked m)) (a : Addr) {K : Value → HPred} {H : Hp} (h : K (.tuple #[]) H) : callF P f [.pointer (some a)] K H :=
  HC_extern hf hname hb hn he h
theorem cas_ok (hf : P.funcs[f]? = some fn) (hname : (fn.name == "runtime.NumGoroutine") = false) (hb : fn.body.isNone = true) (hn : Extern.findNext fn = none) (k : IntKind)
    (he : Extern.find fn = some (Extern.Atomic.casT (.int k))) {b o : Nat} {c : Array Value} {T : TypeId} {x y : Int} {K : Value → HPred} {H : Hp} (hc : H[b]? = some (.cells c T (0, 0))) (ho : c[o]? = some (.int k x))
    (h : K (.bool true) (upd H b (.cells (c.setIfInBounds o (.int k y)) T (0, 0)))) : callF P f [.pointer (some ⟨b, o, none⟩), .int k x, .int k y] K H := by
  refine HC_extern hf hname hb hn he ?_
  have h1 : cellH H ⟨b, o, none⟩ = some (.int k x) := by rw [cell_blk hc, ho]
  have h2 : frozenH H ⟨b, o, none⟩ = false := by simp [frozenH, hc]
  have hs : shapeH H b = some (T, c.size) := by simp [shapeH, hc]
  change semM P (do
    let a' ← asAddr (.pointer (some ⟨b, o, none⟩))
    if ← Extern.Atomic.touchesFrozen a' then unsupported (.unsafePointer "a write to bytes that a string shares")
    let eq ← match Extern.Atomic.T.int k, ← Extern.Atomic.read (.int k) a', Value.int k x with
      | _, .int _ x, .int _ y => pure (x == y)
      | .ptr, .pointer x, .pointer y => samePointer x y
      | .int _, .pointer (some _), .int _ 0 | .int _, .int _ 0, .pointer (some _) => pure false
      | .int _, .pointer (some _), _ | .int _, _, .pointer (some _) => unsupported .addressObserved
      | _, _, _ => stuck "atomic.CompareAndSwap: old is no T"
    if eq then store a' (.int k y) .atomic
    pure (Value.bool eq)) K H
  simp only [bindS, semM_bind, asAddr, pure, semM, Extern.Atomic.touchesFrozen, viewAt, shape, hs, Option.isSome_some, if_true, frozen, h2, Bool.false_eq_true, if_false, Extern.Atomic.read, load, h1, beq_self_eq_true, store, oneCell, setCell_upd hc]
  exact h
theorem add_ok (hf : P.funcs[f]? = some fn) (hname : (fn.name == "runtime.NumGoroutine") = false) (hb : fn.body.isNone = true) (hn : Extern.findNext fn = none) (k : IntKind)
    (he : Extern.find fn = some (Extern.Atomic.update (Op.intArith .add) k true)) {b o : Nat} {c : Array Value} {T : TypeId} {x y : Int} {K : Value → HPred} {H : Hp} (hc : H[b]? = some (.cells c T (0, 0))) (ho : c[o]? = some (.int k x))
    (h : K (.int k (k.wrap (x + y))) (upd H b (.cells (c.setIfInBounds o (.int k (k.wrap (x + y)))) T (0, 0)))) : callF P f [.pointer (some ⟨b, o, none⟩), .int k y] K H := by
  refine HC_extern hf hname hb hn he ?_
  have h1 : cellH H ⟨b, o, none⟩ = some (.int k x) := by rw [cell_blk hc, ho]
  have h2 : frozenH H ⟨b, o, none⟩ = false := by simp [frozenH, hc]
  change semM P (do
    let a' ← asAddr (.pointer (some ⟨b, o, none⟩))
    let old ← Extern.Atomic.read (.int k) a'
    let new ← Op.intArith .add k (← asInt old) (← asInt (.int k y))
    store a' new .atomic
    pure (if true = true then new else old)) K H
  simp only [bindS, semM_bind, asAddr, pure, semM, Extern.Atomic.read, load, h1, if_true, asInt, asIntOf, Op.intArith, store, oneCell, h2, setCell_upd hc]
  exact h
/-- A raw pointer of a pointer to cells: the same address. -/
theorem unsafe_ok {src dst t : TypeId} {i : TypeInfo} (hs : P.underlying src = some (.pointer t)) (hd : P.underlying dst = some .unsafePointer) (hi : P.info? t = some i) (hsz : i.size ≠ 0)
    {b o : Nat} {c : Array Value} {T : TypeId} {fz : Nat × Nat} {K : Value → HPred} {H : Hp} (hc : H[b]? = some (.cells c T fz)) (ho : o < c.size) (h : K (.pointer (some ⟨b, o, none⟩)) H) :
    tot P (convert src dst (.pointer (some ⟨b, o, none⟩))) K H := by
  have hsh : shapeH H b = some (T, c.size) := by simp [shapeH, hc]
  have hge : ¬ (o ≥ c.size) := by omega
  unfold tot convert
  simp only [bindS, semM_bind, sem_underlying, hs, hd, Conv.unsafePointer, Conv.seenAt, viewAt, shape, semM, hsh, Option.isSome_some, if_true, pure, cellsIn, sizeOf, typeInfo, program, hi, hge, decide_false, Bool.false_and, Bool.or_false, hsz]
  exact h

theorem HCD.of_den (hm : P.follows .mixedOrders = true) {f : FuncId} {fn : Func} {args : List Value} {R : HPred} {H : Hp} {cuts : List (Nat × List Nat)} {plans : List (Nat × Plan)}
    (hf : P.funcs[f]? = some fn) (hb : fn.body.isSome = true) (he : ∀ w, (callFunc f args.toArray).run P w = .ok (.enter f args.toArray) w) (hn : decide (args.length ≤ fn.ntmps) = true)
    (h : den P fn.ntmps (fun r ds => match ds with | [] => retL P fn.results.toList r [] fun _ => R | _ => bot) cuts plans 1000 false (bodyOf fn) (regsOf args) [] H) : HCD P f args.toArray R H := by
  obtain ⟨c, hc⟩ := Option.isSome_iff_exists.1 hb
  refine HCD.of_run hf hc he (by simpa using of_decide_eq_true hn) (fun i => by simpa using regsOf_get args i) ?_
  have := den_sound hm _ _ _ _ _ _ h
  unfold bodyOf at this
  rw [hc] at this
  exact this

end Go.Sx
