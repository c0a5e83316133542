/-
  Part 2 of the proof: contracts of the functions that the law reaches, and the rules they stand on. Own work (an AI agent). No conditions.
-/
import Derived.Test.YtnnheophehnioaaGreatTN1
import Derived.Laws.StructEq
import Derived.Laws.LoneSync
set_option linter.unusedSimpArgs false
set_option linter.unusedVariables false
namespace Go.Sx
variable {P : Program} {f : FuncId} {fn : Func}

theorem semM_extern (hf : P.funcs[f]? = some fn) (hname : (fn.name == "runtime.NumGoroutine") = false) (hb : fn.body.isNone = true) (hn : Extern.findNext fn = none)
    {e : Array Value → Sem Value} (he : Extern.find fn = some e) (args : Array Value) (K : Next → Hp → Prop) (H : Hp) :
    semM P (callFunc f args) K H = semM P (e args) (fun v => K (.value v)) H := by
  unfold callFunc
  simp only [bindS]
  show semM P (Sem.bind program _) K H = _
  simp only [program, Sem.bind, semM, hf, hname, Bool.false_eq_true, if_false, hb, if_true]
  show semM P (Sem.bind (Sem.mark _ _) _) K H = _
  simp only [Sem.bind, semM, hn, he]
  rw [semM_bind]; rfl
theorem HC_extern (hf : P.funcs[f]? = some fn) (hname : (fn.name == "runtime.NumGoroutine") = false) (hb : fn.body.isNone = true) (hn : Extern.findNext fn = none)
    {e : Array Value → Sem Value} (he : Extern.find fn = some e) {args : List Value} {K : Value → HPred} {H : Hp} (h : semM P (e args.toArray) K H) : callF P f args K H := by
  refine .inr ?_
  rw [semM_extern hf hname hb hn he]
  exact h
theorem mark0_ok (hf : P.funcs[f]? = some fn) (hname : (fn.name == "runtime.NumGoroutine") = false) (hb : fn.body.isNone = true) (hn : Extern.findNext fn = none) (m : Mark)
    (he : Extern.find fn = some (fun _ => do mark m; pure Extern.Race.none_)) {K : Value → HPred} {H : Hp} (h : K (.tuple #[]) H) : callF P f [] K H :=
  HC_extern hf hname hb hn he h
theorem marked_ok (hf : P.funcs[f]? = some fn) (hname : (fn.name == "runtime.NumGoroutine") = false) (hb : fn.body.isNone = true) (hn : Extern.findNext fn = none) (m : Addr → Mark)
    (he : Extern.find fn = some (Extern.Race.marked m)) (a : Addr) {K : Value → HPred} {H : Hp} (h : K (.tuple #[]) H) : callF P f [.pointer (some a)] K H :=
  HC_extern hf hname hb hn he h
theorem cas_ok (hf : P.funcs[f]? = some fn) (hname : (fn.name == "runtime.NumGoroutine") = false) (hb : fn.body.isNone = true) (hn : Extern.findNext fn = none) (k : IntKind)
    (he : Extern.find fn = some (Extern.Atomic.casT (.int k))) {b o : Nat} {c : Array Value} {T : TypeId} {x y : Int} {K : Value → HPred} {H : Hp} (hc : H[b]? = some (.cells c T (0, 0))) (ho : c[o]? = some (.int k x))
    (h : K (.bool true) (upd H b (.cells (c.setIfInBounds o (.int k y)) T (0, 0)))) : callF P f [.pointer (some ⟨b, o, none⟩), .int k x, .int k y] K H := by
  refine HC_extern hf hname hb hn he ?_
  have h1 : cellH H ⟨b, o, none⟩ = some (.int k x) := by rw [cell_blk hc, ho]
  have h2 : frozenH H ⟨b, o, none⟩ = false := by simp [frozenH, hc]
  have hs : shapeH H b = some (T, c.size) := by simp [shapeH, hc]
  change semM P (do
    let a' ← asAddr (.pointer (some ⟨b, o, none⟩))
    if ← Extern.Atomic.touchesFrozen a' then unsupported (.unsafePointer "a write to bytes that a string shares")
    let eq ← match Extern.Atomic.T.int k, ← Extern.Atomic.read (.int k) a', Value.int k x with
      | _, .int _ x, .int _ y => pure (x == y)
      | .ptr, .pointer x, .pointer y => samePointer x y
      | .int _, .pointer (some _), .int _ 0 | .int _, .int _ 0, .pointer (some _) => pure false
      | .int _, .pointer (some _), _ | .int _, _, .pointer (some _) => unsupported .addressObserved
      | _, _, _ => stuck "atomic.CompareAndSwap: old is no T"
    if eq then store a' (.int k y) .atomic
    pure (Value.bool eq)) K H
  simp only [bindS, semM_bind, asAddr, pure, semM, Extern.Atomic.touchesFrozen, viewAt, shape, hs, Option.isSome_some, if_true, frozen, h2, Bool.false_eq_true, if_false, Extern.Atomic.read, load, h1, beq_self_eq_true, store, oneCell, setCell_upd hc]
  exact h
theorem add_ok (hf : P.funcs[f]? = some fn) (hname : (fn.name == "runtime.NumGoroutine") = false) (hb : fn.body.isNone = true) (hn : Extern.findNext fn = none) (k : IntKind)
    (he : Extern.find fn = some (Extern.Atomic.update (Op.intArith .add) k true)) {b o : Nat} {c : Array Value} {T : TypeId} {x y : Int} {K : Value → HPred} {H : Hp} (hc : H[b]? = some (.cells c T (0, 0))) (ho : c[o]? = some (.int k x))
    (h : K (.int k (k.wrap (x + y))) (upd H b (.cells (c.setIfInBounds o (.int k (k.wrap (x + y)))) T (0, 0)))) : callF P f [.pointer (some ⟨b, o, none⟩), .int k y] K H := by
  refine HC_extern hf hname hb hn he ?_
  have h1 : cellH H ⟨b, o, none⟩ = some (.int k x) := by rw [cell_blk hc, ho]
  have h2 : frozenH H ⟨b, o, none⟩ = false := by simp [frozenH, hc]
  change semM P (do
    let a' ← asAddr (.pointer (some ⟨b, o, none⟩))
    let old ← Extern.Atomic.read (.int k) a'
    let new ← Op.intArith .add k (← asInt old) (← asInt (.int k y))
    store a' new .atomic
    pure (if true = true then new else old)) K H
  simp only [bindS, semM_bind, asAddr, pure, semM, Extern.Atomic.read, load, h1, if_true, asInt, asIntOf, Op.intArith, store, oneCell, h2, setCell_upd hc]
  exact h
/-- A raw pointer of a pointer to cells: the same address. -/
theorem unsafe_ok {src dst t : TypeId} {i : TypeInfo} (hs : P.underlying src = some (.pointer t)) (hd : P.underlying dst = some .unsafePointer) (hi : P.info? t = some i) (hsz : i.size ≠ 0)
    {b o : Nat} {c : Array Value} {T : TypeId} {fz : Nat × Nat} {K : Value → HPred} {H : Hp} (hc : H[b]? = some (.cells c T fz)) (ho : o < c.size) (h : K (.pointer (some ⟨b, o, none⟩)) H) :
    tot P (convert src dst (.pointer (some ⟨b, o, none⟩))) K H := by
  have hsh : shapeH H b = some (T, c.size) := by simp [shapeH, hc]
  have hge : ¬ (o ≥ c.size) := by omega
  unfold tot convert
  simp only [bindS, semM_bind, sem_underlying, hs, hd, Conv.unsafePointer, Conv.seenAt, viewAt, shape, semM, hsh, Option.isSome_some, if_true, pure, cellsIn, sizeOf, typeInfo, program, hi, hge, decide_false, Bool.false_and, Bool.or_false, hsz]
  exact h

theorem HCD.of_den (hm : P.follows .mixedOrders = true) {f : FuncId} {fn : Func} {args : List Value} {R : HPred} {H : Hp} {cuts : List (Nat × List Nat)} {plans : List (Nat × Plan)}
    (hf : P.funcs[f]? = some fn) (hb : fn.body.isSome = true) (he : ∀ w, (callFunc f args.toArray).run P w = .ok (.enter f args.toArray) w) (hn : decide (args.length ≤ fn.ntmps) = true)
    (h : den P fn.ntmps (fun r ds => match ds with | [] => retL P fn.results.toList r [] fun _ => R | _ => bot) cuts plans 1000 false (bodyOf fn) (regsOf args) [] H) : HCD P f args.toArray R H := by
  obtain ⟨c, hc⟩ := Option.isSome_iff_exists.1 hb
  refine HCD.of_run hf hc he (by simpa using of_decide_eq_true hn) (fun i => by simpa using regsOf_get args i) ?_
  have := den_sound hm _ _ _ _ _ _ h
  unfold bodyOf at this
  rw [hc] at this
  exact this

end Go.Sx
namespace Go.Sx
variable {P : Program}

def partO (P : Program) (t : TypeId) (cs : Array Value) (off : Nat) : Option Value := match layT P t with
  | some (true, n) => some (.agg (cs.extract off (off + n)))
  | some (false, _) => cs[off]?
  | none => none
def eqFields (P : Program) (rec : TypeId → Value → Value → Option Bool) (xs ys : Array Value) : List Field → Option Bool
  | [] => some true
  | f :: fs => match decide (f.name ≠ "_") with
    | false => eqFields P rec xs ys fs
    | true => match partO P f.type xs f.offset, partO P f.type ys f.offset with
      | some a, some b => match rec f.type a b, eqFields P rec xs ys fs with
        | some r, some s => some (r && s)
        | _, _ => none
      | _, _ => none
def eqElems (P : Program) (rec : TypeId → Value → Value → Option Bool) (elem : TypeId) (n : Nat) (xs ys : Array Value) : List Nat → Option Bool
  | [] => some true
  | i :: is => match partO P elem xs (i * n), partO P elem ys (i * n) with
    | some a, some b => match rec elem a b, eqElems P rec elem n xs ys is with
      | some r, some s => some (r && s)
      | _, _ => none
    | _, _ => none
def eqO (P : Program) : Nat → TypeId → Value → Value → Option Bool
  | 0, _, _, _ => none
  | d + 1, t, x, y => match P.underlying t, x, y with
    | some .bool, .bool a, .bool b => some (a == b)
    | some (.int _), .int k a, .int k' b => match decide (k = k') with
      | true => some (a == b)
      | false => none
    | some (.struct fields), .agg xs, .agg ys => match P.stoodInHeld t with
      | false => eqFields P (eqO P d) xs ys fields.toList
      | true => none
    | some (.array len elem), .agg xs, .agg ys => match P.info? elem with
      | some i => eqElems P (eqO P d) elem i.size xs ys (List.range' 0 len)
      | none => none
    | _, _, _ => none

theorem pureRun_bind {α β : Type} (s : Sem α) (f : α → Sem β) : pureRun P (s.bind f) = (pureRun P s).bind fun a => pureRun P (f a) := by
  induction s with
  | pure a => rfl
  | program k ih => exact ih P
  | mark m k ih => exact ih
  | _ => rfl
theorem pureRun_und {t : TypeId} {d : TypeDesc} (h : P.underlying t = some d) : pureRun P (underlying t) = some d := by
  have := run_und (P := P) h (fun d => Sem.pure d)
  rw [pureRun_bind] at this
  cases hp : pureRun P (underlying t) with
  | none => rw [hp] at this; cases this
  | some a => rw [hp] at this; exact this
theorem partO_ok {t : TypeId} {cs : Array Value} {off : Nat} {v : Value} (h : partO P t cs off = some v) : pureRun P (part t cs off) = some v := by
  unfold partO layT at h
  split at h
  · rename_i n hl
    split at hl
    · rename_i d i hd hi
      simp only [Option.some.injEq, Prod.mk.injEq] at hl
      obtain ⟨h1, rfl⟩ := hl
      cases h
      have ha : pureRun P (isAgg t) = some true := by
        unfold isAgg
        simp only [bindS]
        rw [pureRun_bind, pureRun_und hd]
        cases d <;> first | rfl | (simp [aggD] at h1)
      have hz := run_size (P := P) hi (fun n => Sem.pure n)
      rw [pureRun_bind] at hz
      have hz' : pureRun P (sizeOf t) = some i.size := by
        cases hp : pureRun P (sizeOf t) with
        | none => rw [hp] at hz; cases hz
        | some a => rw [hp] at hz; exact hz
      unfold part
      simp only [bindS]
      rw [pureRun_bind, ha]
      simp only [Option.bind_some, if_true]
      rw [pureRun_bind, hz']
      rfl
    · cases hl
  · rename_i n hl
    split at hl
    · rename_i d i hd hi
      simp only [Option.some.injEq, Prod.mk.injEq] at hl
      obtain ⟨h1, rfl⟩ := hl
      have ha : pureRun P (isAgg t) = some false := by
        unfold isAgg
        simp only [bindS]
        rw [pureRun_bind, pureRun_und hd]
        cases d <;> first | rfl | (simp [aggD] at h1)
      unfold part
      simp only [bindS]
      rw [pureRun_bind, ha]
      simp only [Option.bind_some, Bool.false_eq_true, if_false, h]
      rfl
    · cases hl
  · cases h
theorem eqFields_ok {d : Nat} {xs ys : Array Value} (hrec : ∀ t x y b, eqO P d t x y = some b → pureRun P (Op.equalIn d t x y) = some b) : ∀ (fs : List Field) (b : Bool),
    eqFields P (eqO P d) xs ys fs = some b → pureRun P (Op.eqFields d xs ys fs) = some b
  | [], b, h => h
  | f :: fs, b, h => by
    unfold eqFields at h
    unfold Op.eqFields
    by_cases hn : f.name ≠ "_"
    · rw [decide_eq_true hn] at h
      simp only at h
      rw [if_pos hn]
      cases h1 : partO P f.type xs f.offset with
      | none => rw [h1] at h; cases h
      | some x =>
        cases h2 : partO P f.type ys f.offset with
        | none => rw [h1, h2] at h; cases h
        | some y =>
          rw [h1, h2] at h
          simp only at h
          cases h3 : eqO P d f.type x y with
          | none => rw [h3] at h; cases h
          | some r =>
            cases h4 : eqFields P (eqO P d) xs ys fs with
            | none => rw [h3, h4] at h; cases h
            | some s =>
              rw [h3, h4] at h
              cases h
              simp only [bindS]
              rw [pureRun_bind, partO_ok h1]
              simp only [Option.bind_some]
              rw [pureRun_bind, partO_ok h2]
              simp only [Option.bind_some]
              rw [pureRun_bind, hrec _ _ _ _ h3]
              simp only [Option.bind_some]
              cases r
              · rfl
              · simp only [Bool.not_true, Bool.false_eq_true, if_false, Bool.true_and]
                exact eqFields_ok hrec fs s h4
    · rw [decide_eq_false hn] at h
      rw [if_neg hn]
      exact eqFields_ok hrec fs b h
theorem eqO_ok : ∀ (d : Nat) (t : TypeId) (x y : Value) (b : Bool), eqO P d t x y = some b → pureRun P (Op.equalIn d t x y) = some b := by
  intro d
  induction d with
  | zero => intro t x y b h; cases h
  | succ d ih =>
    intro t x y b h
    unfold eqO at h
    split at h
    · rename_i a c hu
      cases h
      unfold Op.equalIn
      simp only [bindS]
      rw [run_und hu]; rfl
    · rename_i k0 k a k' c hu
      by_cases hk : k = k'
      · subst hk
        simp only [decide_true, Option.some.injEq] at h
        subst h
        unfold Op.equalIn
        simp only [bindS]
        rw [run_und hu]
        simp only [if_true]
        rfl
      · rw [decide_eq_false hk] at h; cases h
    · rename_i fields xs ys hu
      cases hp : P.stoodInHeld t with
      | true => rw [hp] at h; cases h
      | false =>
        rw [hp] at h
        simp only at h
        have key := eqFields_ok (xs := xs) (ys := ys) ih fields.toList b h
        unfold Op.equalIn
        simp only [bindS]
        rw [run_und hu]
        simp only
        rw [pureRun_bind]
        show (pureRun P (Sem.program Sem.pure)).bind _ = _
        simp only [pureRun, Option.bind_some, hp, Bool.false_eq_true, if_false]
        rw [← Array.forIn_toList]
        generalize fields.toList = fs at key ⊢
        clear hu h
        rw [← key]
        clear key
        induction fs with
        | nil => rfl
        | cons f fs ihf =>
          simp only [List.forIn_cons, Op.eqFields]
          have := lawful
          split
          · simp only [bindS, assocS, pureRun_bind]
            cases pureRun P (part f.type xs f.offset) with
            | none => rfl
            | some x =>
              simp only [Option.bind_some]
              cases pureRun P (part f.type ys f.offset) with
              | none => rfl
              | some y =>
                simp only [Option.bind_some]
                cases pureRun P (Op.equalIn d f.type x y) with
                | none => rfl
                | some r =>
                  simp only [Option.bind_some]
                  cases r
                  · rfl
                  · simp only [Bool.not_true, Bool.false_eq_true, if_false]
                    rw [← ihf]
                    simp only [bindS, pureRun_bind]
                    rfl
          · rw [← ihf]
            simp only [bindS, pureRun_bind]
            rfl
    · rename_i len elem xs ys hu
      cases hi : P.info? elem with
      | none => rw [hi] at h; cases h
      | some i =>
        rw [hi] at h
        simp only at h
        unfold Op.equalIn
        simp only [bindS]
        rw [run_und hu]
        simp only
        rw [run_size hi]
        rw [Std.Legacy.Range.forIn_eq_forIn_range']
        have hr : List.range' ({ start := 0, stop := len, step := 1, step_pos := Nat.zero_lt_one } : Std.Legacy.Range).start ({ start := 0, stop := len, step := 1, step_pos := Nat.zero_lt_one } : Std.Legacy.Range).size ({ start := 0, stop := len, step := 1, step_pos := Nat.zero_lt_one } : Std.Legacy.Range).step = List.range' 0 len := by
          simp [Std.Legacy.Range.size]
        rw [hr]
        generalize List.range' 0 len = is at h
        clear hr
        induction is generalizing b with
        | nil => cases h; rfl
        | cons j js ihj =>
          unfold eqElems at h
          cases h1 : partO P elem xs (j * i.size) with
          | none => rw [h1] at h; cases h
          | some x =>
            cases h2 : partO P elem ys (j * i.size) with
            | none => rw [h1, h2] at h; cases h
            | some y =>
              rw [h1, h2] at h
              simp only at h
              cases h3 : eqO P d elem x y with
              | none => rw [h3] at h; cases h
              | some r =>
                cases h4 : eqElems P (eqO P d) elem i.size xs ys js with
                | none => rw [h3, h4] at h; cases h
                | some s =>
                  rw [h3, h4] at h
                  cases h
                  simp only [List.forIn_cons, bindS, assocS]
                  rw [pureRun_bind, partO_ok h1]
                  simp only [Option.bind_some]
                  rw [pureRun_bind, partO_ok h2]
                  simp only [Option.bind_some]
                  rw [pureRun_bind, ih _ _ _ _ h3]
                  simp only [Option.bind_some]
                  cases r
                  · rfl
                  · simp only [Bool.not_true, Bool.false_eq_true, if_false, Bool.true_and]
                    have := ihj s h4
                    rw [← this]
                    simp only [bindS, pureRun_bind]
                    rfl
    · cases h
theorem agg_eql {t : TypeId} {ox oy : Operand} {xs ys : Array Value} {b : Bool} (hm : P.eqGuardType P.depth t = false) (h : eqO P 10000 t (.agg xs) (.agg ys) = some b) :
    binV P .eql t ox oy (.agg xs) (.agg ys) = some (.bool b) := by
  unfold binV eqGuard
  simp only [bindS]
  rw [pureRun_bind]
  have h1 : ∀ (K : Unit → Option Value), (pureRun P (Sem.bind (program) fun p => if (!p.eqGuardType p.depth t) = true then (pure () : Sem Unit) else Sem.bind (Op.eqGuardIn Op.maxDepth t (.agg xs) (.agg ys)) fun r => if r = true then unsupported (.noEntry "binop/eql: two nil values of an interface type with methods, in a part of a struct or an array") else pure ())).bind K = K () := by
    intro K
    show (pureRun P (Sem.program _)).bind K = K ()
    simp only [program, Sem.bind, pureRun, hm, Bool.not_false, if_true]
    rfl
  refine (h1 _).trans ?_
  simp only [binOp, Op.equal, bindS]
  rw [pureRun_bind, show Op.maxDepth = 10000 from rfl, eqO_ok _ _ _ _ _ h]
  rfl
theorem agg_neq {t : TypeId} {ox oy : Operand} {xs ys : Array Value} {b : Bool} (hm : P.eqGuardType P.depth t = false) (h : eqO P 10000 t (.agg xs) (.agg ys) = some b) :
    binV P .neq t ox oy (.agg xs) (.agg ys) = some (.bool (!b)) := by
  unfold binV eqGuard
  simp only [bindS]
  rw [pureRun_bind]
  have h1 : ∀ (K : Unit → Option Value), (pureRun P (Sem.bind (program) fun p => if (!p.eqGuardType p.depth t) = true then (pure () : Sem Unit) else Sem.bind (Op.eqGuardIn Op.maxDepth t (.agg xs) (.agg ys)) fun r => if r = true then unsupported (.noEntry "binop/eql: two nil values of an interface type with methods, in a part of a struct or an array") else pure ())).bind K = K () := by
    intro K
    show (pureRun P (Sem.program _)).bind K = K ()
    simp only [program, Sem.bind, pureRun, hm, Bool.not_false, if_true]
    rfl
  refine (h1 _).trans ?_
  simp only [binOp, Op.equal, bindS]
  rw [pureRun_bind, show Op.maxDepth = 10000 from rfl, eqO_ok _ _ _ _ _ h]
  rfl

end Go.Sx
namespace Go.Gm
open Go.Sx

def R32 (a : Int) : Prop := -2147483648 ≤ a ∧ a ≤ 2147483647
def heldP (v : Int) : Int := if v > 2147483647 then 2147483647 else if v < -2147483648 then -2147483648 else v
theorem held_R32 (v : Int) : R32 (heldP v) := by unfold R32 heldP; split <;> (try split) <;> omega
def addP (a b : Int) : Int := heldP (a + b)
def subP (a b : Int) : Int := heldP (a - b)
def mulP (a b : Int) : Int := heldP (shrI .i64 (a * b) 16)
def divP (a b : Int) : Int := if b = 0 then (if a > 0 then 2147483647 else if a < 0 then -2147483648 else 0) else heldP ((a * 65536).tdiv b)
def truthP (b : Bool) : Int := if b then 65536 else 0
/-- What an op makes of b and a. -/
def twoP (op : Int) (b a : Int) : Int :=
  if op = 4 then addP b a else if op = 5 then subP b a else if op = 6 then mulP b a else if op = 7 then divP b a
  else if op = 8 then (if a < b then a else b) else if op = 9 then (if a > b then a else b) else if op = 10 then truthP (decide (b < a)) else truthP (decide (b = a))
theorem truth_R32 (b : Bool) : R32 (truthP b) := by cases b <;> exact ⟨by decide, by decide⟩
theorem div_R32 (a b : Int) : R32 (divP a b) := by
  unfold divP
  split
  · split
    · exact ⟨by decide, by decide⟩
    · split <;> exact ⟨by decide, by decide⟩
  · exact held_R32 _
theorem two_R32 {op b a : Int} (hb : R32 b) (ha : R32 a) : R32 (twoP op b a) := by
  unfold twoP
  repeat' split
  all_goals first | exact held_R32 _ | exact div_R32 _ _ | exact truth_R32 _ | assumption
theorem mul_64 {a b : Int} (ha : R32 a) (hb : R32 b) : -4611686018427387904 ≤ a * b ∧ a * b ≤ 4611686018427387904 := by
  unfold R32 at *
  have h1 : (a * b).natAbs ≤ 2147483648 * 2147483648 := by
    rw [Int.natAbs_mul]
    exact Nat.mul_le_mul (by omega) (by omega)
  omega
theorem div_64 {a b : Int} (ha : R32 a) : -140737488355328 ≤ (a * 65536).tdiv b ∧ (a * 65536).tdiv b ≤ 140737488355328 := by
  unfold R32 at *
  have h1 : ((a * 65536).tdiv b).natAbs ≤ 140737488355328 := by
    rw [Int.natAbs_tdiv]
    exact Nat.le_trans (Nat.div_le_self _ _) (by omega)
  omega

/-! ## The machine -/
structure MS where
  frame : Int
  cells : List Int
  seed : Int
  over : Bool
  winner : Int
  in0 : Int
  in1 : Int
  st : List Int
  at' : Int
  ended : Bool
  bad : Bool
def popP (m : MS) : Int × MS := match m.st with
  | [] => (0, { m with bad := true })
  | v :: s => (v, { m with st := s })
def pushP (l : List Int) (m : MS) : MS := { m with st := l.reverse ++ m.st, bad := m.bad || decide (m.st.length + l.length > 32) }
def seedP (s : Int) : Int :=
  let x := xorI .u32 s (shlI .u32 s 13)
  let y := xorI .u32 x (shrI .u32 x 17)
  xorI .u32 y (shlI .u32 y 5)
/-- What an instruction does; the program's way. -/
def stepP (op arg : Int) (m : MS) : MS :=
  if op = 1 then pushP [IntKind.i32.wrap arg] m
  else if op = 2 then pushP [m.cells.getD arg.toNat 0] m
  else if op = 3 then { (popP m).2 with cells := m.cells.set arg.toNat (popP m).1 }
  else if op = 12 then pushP [truthP (decide ((popP m).1 = 0))] (popP m).2
  else if op = 13 then pushP [(popP m).1, (popP m).1] (popP m).2
  else if op = 14 then pushP [(popP m).1, (popP (popP m).2).1] (popP (popP m).2).2
  else if op = 15 then (popP m).2
  else if op = 16 then pushP [IntKind.i32.wrap (if arg = 0 then m.in0 else m.in1)] m
  else if op = 17 then pushP [IntKind.i32.wrap m.frame] m
  else if op = 18 then { m with at' := arg }
  else if op = 19 then (if (popP m).1 = 0 then { (popP m).2 with at' := arg } else (popP m).2)
  else if op = 20 then { m with over := true, winner := arg, ended := true }
  else if op = 21 then pushP [IntKind.i32.wrap ((seedP m.seed).tmod 65536)] { m with seed := seedP m.seed }
  else if op = 22 then { m with ended := true }
  else pushP [twoP op (popP (popP m).2).1 (popP m).1] (popP (popP m).2).2
/-- May an instruction be that, in a program of so many? -/
def mayP (op arg n : Int) : Prop :=
  (op = 1 ∧ R32 arg) ∨ ((op = 2 ∨ op = 3) ∧ 0 ≤ arg ∧ arg < 16) ∨ (op = 16 ∧ 0 ≤ arg ∧ arg ≤ 1) ∨ ((op = 18 ∨ op = 19) ∧ 0 ≤ arg ∧ arg ≤ n) ∨ (op = 20 ∧ 0 ≤ arg ∧ arg ≤ 2) ∨
  (((4 ≤ op ∧ op ≤ 15) ∨ op = 17 ∨ op = 21 ∨ op = 22) ∧ arg = 0)
structure MS.ok (m : MS) : Prop where
  len : m.cells.length = 16
  cells : ∀ x ∈ m.cells, R32 x
  st : ∀ x ∈ m.st, R32 x
  in0 : 0 ≤ m.in0 ∧ m.in0 ≤ 65535
  in1 : 0 ≤ m.in1 ∧ m.in1 ≤ 65535

/-- A program's run; none: it failed. -/
def runP (code : List (Int × Int)) : Nat → MS → Option MS
  | f, m => if m.at' < code.length ∧ m.ended = false then
      match f with
      | 0 => none
      | f + 1 =>
        let x := code.getD m.at'.toNat (0, 0)
        let m1 := stepP x.1 x.2 { m with at' := m.at' + 1 }
        if m1.bad then none else runP code f m1
    else some m
theorem popP_at (m : MS) : (popP m).2.at' = m.at' := by unfold popP; cases m.st <;> rfl
theorem popP_len (m : MS) : (popP m).2.st.length = m.st.length - 1 := by
  unfold popP
  cases hs : m.st with
  | nil => simp [hs]
  | cons v s => simp
theorem popP_bad {m : MS} : (popP m).2.bad = true ∨ (popP m).2.bad = m.bad := by unfold popP; cases m.st <;> simp
/-- Where the machine is behind an instruction. -/
theorem step_at' (op arg : Int) (m : MS) : (stepP op arg m).at' = m.at' ∨ ((op = 18 ∨ op = 19) ∧ (stepP op arg m).at' = arg) := by
  have hp : ∀ (l : List Int) (m : MS), (pushP l m).at' = m.at' := fun _ _ => rfl
  unfold stepP
  by_cases h1 : op = 1
  · rw [if_pos h1]; exact .inl (by simp only [hp, popP_at])
  rw [if_neg h1]
  by_cases h2 : op = 2
  · rw [if_pos h2]; exact .inl (by simp only [hp, popP_at])
  rw [if_neg h2]
  by_cases h3 : op = 3
  · rw [if_pos h3]; exact .inl (popP_at m)
  rw [if_neg h3]
  by_cases h12 : op = 12
  · rw [if_pos h12]; exact .inl (by simp only [hp, popP_at])
  rw [if_neg h12]
  by_cases h13 : op = 13
  · rw [if_pos h13]; exact .inl (by simp only [hp, popP_at])
  rw [if_neg h13]
  by_cases h14 : op = 14
  · rw [if_pos h14]; exact .inl (by simp only [hp, popP_at])
  rw [if_neg h14]
  by_cases h15 : op = 15
  · rw [if_pos h15]; exact .inl (popP_at m)
  rw [if_neg h15]
  by_cases h16 : op = 16
  · rw [if_pos h16]; exact .inl (by simp only [hp, popP_at])
  rw [if_neg h16]
  by_cases h17 : op = 17
  · rw [if_pos h17]; exact .inl (by simp only [hp, popP_at])
  rw [if_neg h17]
  by_cases h18 : op = 18
  · rw [if_pos h18]; exact .inr ⟨.inl h18, rfl⟩
  rw [if_neg h18]
  by_cases h19 : op = 19
  · rw [if_pos h19]; split
    · exact .inr ⟨.inr h19, rfl⟩
    · exact .inl (popP_at m)
  rw [if_neg h19]
  by_cases h20 : op = 20
  · rw [if_pos h20]; exact .inl rfl
  rw [if_neg h20]
  by_cases h21 : op = 21
  · rw [if_pos h21]; exact .inl (by simp only [hp, popP_at])
  rw [if_neg h21]
  by_cases h22 : op = 22
  · rw [if_pos h22]; exact .inl rfl
  rw [if_neg h22]
  exact .inl (by simp only [hp, popP_at])
theorem step_at {op arg n : Int} {m : MS} (hm : mayP op arg n) (h0 : 0 ≤ m.at') (h1 : m.at' ≤ n) : 0 ≤ (stepP op arg m).at' ∧ (stepP op arg m).at' ≤ n := by
  rcases step_at' op arg m with e | ⟨ho, e⟩
  · rw [e]; exact ⟨h0, h1⟩
  · rw [e]; unfold mayP at hm; omega
theorem step_len {op arg : Int} {m : MS} (hl : m.st.length ≤ 32) : (stepP op arg m).bad = false → (stepP op arg m).st.length ≤ 32 := by
  have hp : ∀ (l : List Int) (m : MS), (pushP l m).bad = false → (pushP l m).st.length ≤ 32 := by
    intro l m h
    unfold pushP at h ⊢
    simp only [Bool.or_eq_false_iff, decide_eq_false_iff_not] at h
    simp only [List.length_append, List.length_reverse]
    omega
  have hl1 := popP_len m
  have hl2 : (popP m).2.st.length ≤ 32 := by omega
  unfold stepP
  by_cases h1 : op = 1
  · rw [if_pos h1]; exact hp _ _
  rw [if_neg h1]
  by_cases h2 : op = 2
  · rw [if_pos h2]; exact hp _ _
  rw [if_neg h2]
  by_cases h3 : op = 3
  · rw [if_pos h3]; exact fun _ => hl2
  rw [if_neg h3]
  by_cases h12 : op = 12
  · rw [if_pos h12]; exact hp _ _
  rw [if_neg h12]
  by_cases h13 : op = 13
  · rw [if_pos h13]; exact hp _ _
  rw [if_neg h13]
  by_cases h14 : op = 14
  · rw [if_pos h14]; exact hp _ _
  rw [if_neg h14]
  by_cases h15 : op = 15
  · rw [if_pos h15]; exact fun _ => hl2
  rw [if_neg h15]
  by_cases h16 : op = 16
  · rw [if_pos h16]; exact hp _ _
  rw [if_neg h16]
  by_cases h17 : op = 17
  · rw [if_pos h17]; exact hp _ _
  rw [if_neg h17]
  by_cases h18 : op = 18
  · rw [if_pos h18]; exact fun _ => hl
  rw [if_neg h18]
  by_cases h19 : op = 19
  · rw [if_pos h19]; split
    · exact fun _ => hl2
    · exact fun _ => hl2
  rw [if_neg h19]
  by_cases h20 : op = 20
  · rw [if_pos h20]; exact fun _ => hl
  rw [if_neg h20]
  by_cases h21 : op = 21
  · rw [if_pos h21]; exact hp _ _
  rw [if_neg h21]
  by_cases h22 : op = 22
  · rw [if_pos h22]; exact fun _ => hl
  rw [if_neg h22]
  exact hp _ _

/-! ## States -/
structure St where
  frame : Int
  cells : List Int
  seed : Int
  over : Bool
  winner : Int
structure St.ok (s : St) : Prop where
  len : s.cells.length = 16
  cells : ∀ x ∈ s.cells, R32 x
  seed : 0 ≤ s.seed ∧ s.seed ≤ 4294967295
def isP (s : St) : Prop := 0 ≤ s.frame ∧ s.frame ≤ 600 ∧ 0 ≤ s.winner ∧ s.winner ≤ 2 ∧ (s.over = true ∨ s.winner = 0)
def startP (seed : Int) : St := ⟨0, List.replicate 16 0, if seed = 0 then 1 else seed, false, 0⟩
def zeroP : St := ⟨0, List.replicate 16 0, 0, false, 0⟩
/-- A frame's machine. -/
def machP (s : St) (i0 i1 : Int) : MS := ⟨s.frame, s.cells, s.seed, s.over, s.winner, i0, i1, [], 0, false, false⟩
def MS.toSt (m : MS) : St := ⟨m.frame, m.cells, m.seed, m.over, m.winner⟩
/-- The end by the cap. -/
def capP (cap : Int) (s : St) : St :=
  if s.frame ≥ cap ∧ s.over = false then { s with over := true, winner := if s.cells.getD 0 0 > s.cells.getD 1 0 then 0 else if s.cells.getD 0 0 < s.cells.getD 1 0 then 1 else 2 } else s
def frameP (code : List (Int × Int)) (cap : Int) (fuel : Nat) (s : St) (i0 i1 : Int) : St :=
  let s1 := match runP code fuel (machP s i0 i1) with
    | some m => m.toSt
    | none => s
  capP cap { s1 with frame := s1.frame + 1 }

end Go.Gm
namespace Go.Gm

structure Ev where
  kind : Int
  player : Int
  other : Int
  frame : Int
  inn : Int
  n : Int
  deriving DecidableEq
/-- A match: its game; who plays, how it stands; what both did; the pairs, the state behind these; what happened. -/
structure Ct where
  code : List (Int × Int)
  cap : Int
  fuel : Int
  p0 : Int
  p1 : Int
  seed : Int
  l0 : Int
  l1 : Int
  n0 : Int
  n1 : Int
  over : Bool
  winner : Int
  why : Int
  opened : Bool
  in0 : List Int
  in1 : List Int
  pairs : List (Int × Int)
  st : St
  evs : List Ev
def Ct.new (code : List (Int × Int)) (cap fuel : Int) : Ct :=
  ⟨code, cap, fuel, 0, 0, 0, 0, 0, 0, 0, false, 0, 0, false, [], [], [], startP 0, []⟩
def Ct.openP (c : Ct) (e : Ev) : Ct :=
  { c with opened := true, p0 := e.player, p1 := e.other, seed := e.n, st := startP e.n }
def Ct.addEv (c : Ct) (e : Ev) : Ct := { c with evs := c.evs ++ [e] }
def openOk (e : Ev) : Prop := 1 ≤ e.player ∧ 1 ≤ e.other ∧ e.player ≠ e.other ∧ 0 ≤ e.n ∧ e.n ≤ 4294967295

end Go.Gm
