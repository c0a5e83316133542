/-
  Part 0 of the proof: contracts of the functions that the law reaches, and the rules they stand on. Own work (an AI agent). No conditions.
-/
import Derived.Orders
import Derived.Defers
set_option linter.unusedSimpArgs false
set_option linter.unusedVariables false
namespace Go.Sx

abbrev Hp := Array Obj

def oneCell : Value → Bool
  | .agg _ | .tuple _ => false
  | _ => true
def cellH (H : Hp) (a : Addr) : Option Value :=
  match H[a.block]? with
  | some (.cells c _ _) => if a.spot.isSome then none else c[a.off]?
  | _ => none
def shapeH (H : Hp) (r : Nat) : Option (TypeId × Nat) :=
  match H[r]? with
  | some (.cells c elem _) => some (elem, c.size)
  | _ => none
def frozenH (H : Hp) (a : Addr) : Bool :=
  match H[a.block]? with
  | some (.cells _ _ (lo, hi)) => lo ≤ a.off && a.off < hi
  | _ => false
def setCellH (H : Hp) (a : Addr) (v : Value) : Hp :=
  H.modify a.block fun
    | .cells c elem frozen => .cells (if a.spot.isSome then c else c.setIfInBounds a.off v) elem frozen
    | o => o
def freezeH (H : Hp) (a : Addr) (n : Nat) : Hp :=
  if n = 0 then H else
  H.modify a.block fun
    | .cells c elem (lo, hi) => .cells c elem (if lo == hi then (a.off, a.off + n) else (min lo a.off, max hi (a.off + n)))
    | o => o

theorem cell_eq (w : World) (a : Addr) : w.cell? a = cellH w.heap a := rfl
theorem shape_eq (w : World) (r : Nat) : w.shape? r = shapeH w.heap r := rfl
theorem frozen_eq (w : World) (a : Addr) : w.frozen? a = frozenH w.heap a := rfl
theorem setCell_eq (w : World) (a : Addr) (v : Value) : (w.setCell a v).heap = setCellH w.heap a v := rfl
theorem freeze_eq (w : World) (a : Addr) (n : Nat) : (w.freeze a n).heap = freezeH w.heap a n := by
  unfold World.freeze freezeH; split <;> rfl

/-- The streams and the tape are as they were. -/
structure Same (w w' : World) : Prop where
  os : w'.os = w.os
  tape : w'.tape = w.tape
  output : w'.output = w.output
theorem Same.refl (w : World) : Same w w := ⟨rfl, rfl, rfl⟩
theorem Same.trans {a b c : World} (h : Same a b) (k : Same b c) : Same a c := ⟨k.os.trans h.os, k.tape.trans h.tape, k.output.trans h.output⟩
theorem same_setCell (w : World) (a : Addr) (v : Value) : Same w (w.setCell a v) := ⟨rfl, rfl, rfl⟩
theorem same_freeze (w : World) (a : Addr) (n : Nat) : Same w (w.freeze a n) := by
  unfold World.freeze; split <;> exact ⟨rfl, rfl, rfl⟩

def semM (P : Program) {α : Type} : Sem α → (α → Hp → Prop) → Hp → Prop
  | .pure a, K, H => K a H
  | .load _ a k, K, H => match cellH H a with
    | some v => semM P (k v) K H
    | none => False
  | .store _ a v k, K, H => match oneCell v, cellH H a, frozenH H a with
    | true, some _, false => semM P k K (setCellH H a v)
    | _, _, _ => False
  | .new o k, K, H => semM P (k H.size) K (H.push o)
  | .shape r k, K, H => semM P (k (shapeH H r)) K H
  | .freeze a n k, K, H => semM P k K (freezeH H a n)
  | .frozen a k, K, H => semM P (k (frozenH H a)) K H
  | .getObj r k, K, H => match H[r]? with
    | some (.cells ..) => False
    | some o => semM P (k o) K H
    | none => False
  | .setObj r o k, K, H => match H[r]? with
    | some (.cells ..) => False
    | some _ => semM P k K (H.setIfInBounds r o)
    | none => False
  | .choose q k, K, H => match q.forced with
    | true => semM P (k 0) K H
    | false => ∀ t, semM P (k (q.cut t)) K H
  | .sys _ _, _, _ => False
  | .program k, K, H => semM P (k P) K H
  | .mark _ k, K, H => semM P k K H
  | .halt _, _, _ => False

theorem semM_sound {P : Program} {α : Type} (s : Sem α) : ∀ {K : α → Hp → Prop} {w : World}, semM P s K w.heap →
    ∃ a w', s.run P w = .ok a w' ∧ K a w'.heap ∧ Same w w' := by
  induction s with
  | pure a => exact fun h => ⟨a, _, rfl, h, .refl _⟩
  | load m a k ih =>
    intro K w h
    simp only [semM] at h
    simp only [Sem.run, cell_eq]
    split at h
    · rename_i v hv; simp only [hv]; exact ih v h
    · exact h.elim
  | store m a v k ih =>
    intro K w h
    simp only [semM] at h
    split at h
    · rename_i x ho hc hf
      obtain ⟨y, w', hr, hk, hs⟩ := ih (w := w.setCell a v) h
      refine ⟨y, w', ?_, hk, (same_setCell w a v).trans hs⟩
      cases v <;> first | (simp [oneCell] at ho; done) | (simp only [Sem.run, cell_eq, hc, frozen_eq, hf]; exact hr)
    · exact h.elim
  | new o k ih =>
    intro K w h
    obtain ⟨y, w', hr, hk, hs⟩ := ih w.heap.size (w := { w with heap := w.heap.push o }) h
    exact ⟨y, w', hr, hk, ⟨hs.os, hs.tape, hs.output⟩⟩
  | shape r k ih => exact fun h => ih _ h
  | freeze a n k ih =>
    intro K w h
    simp only [semM, ← freeze_eq] at h
    obtain ⟨y, w', hr, hk, hs⟩ := ih (w := w.freeze a n) h
    exact ⟨y, w', hr, hk, (same_freeze w a n).trans hs⟩
  | frozen a k ih => exact fun h => ih _ h
  | getObj r k ih =>
    intro K w h
    simp only [semM] at h
    simp only [Sem.run]
    split at h
    · exact h.elim
    · rename_i o hne ho
      rw [ho]
      cases o <;> first | exact ih _ h | exact absurd rfl (hne _ _ _)
    · exact h.elim
  | setObj r o k ih =>
    intro K w h
    simp only [semM] at h
    simp only [Sem.run]
    split at h
    · exact h.elim
    · rename_i o' hne ho
      rw [ho]
      obtain ⟨y, w', hr, hk, hs⟩ := ih (w := { w with heap := w.heap.setIfInBounds r o }) h
      refine ⟨y, w', ?_, hk, ⟨hs.os, hs.tape, hs.output⟩⟩
      cases o' <;> first | exact hr | exact absurd rfl (hne _ _ _)
    · exact h.elim
  | choose q k ih =>
    intro K w h
    simp only [semM] at h
    simp only [Sem.run]
    split at h
    · rename_i hq; simp only [hq, if_true]; exact ih _ h
    · rename_i hq
      simp only [hq, Bool.false_eq_true, if_false]
      obtain ⟨y, w', hr, hk, hs⟩ := ih _ (w := { w with drawn := w.drawn + 1 }) (h _)
      exact ⟨y, w', hr, hk, ⟨hs.os, hs.tape, hs.output⟩⟩
  | sys c k ih => exact fun h => h.elim
  | program k ih => exact fun h => ih _ h
  | mark m k ih => exact fun h => ih h
  | halt x => exact fun h => h.elim

theorem semM_bind {P : Program} {α β : Type} (s : Sem α) (f : α → Sem β) : ∀ {K : β → Hp → Prop} {H : Hp},
    semM P (s.bind f) K H = semM P s (fun a => semM P (f a) K) H := by
  induction s with
  | pure a => intro K H; rfl
  | load m a k ih => intro K H; simp only [Sem.bind, semM, ih]
  | store m a v k ih => intro K H; simp only [Sem.bind, semM, ih]
  | new o k ih => intro K H; simp only [Sem.bind, semM, ih]
  | shape r k ih => intro K H; simp only [Sem.bind, semM, ih]
  | freeze a n k ih => intro K H; simp only [Sem.bind, semM, ih]
  | frozen a k ih => intro K H; simp only [Sem.bind, semM, ih]
  | getObj r k ih => intro K H; simp only [Sem.bind, semM, ih]
  | setObj r o k ih => intro K H; simp only [Sem.bind, semM, ih]
  | choose q k ih => intro K H; simp only [Sem.bind, semM, ih]
  | sys c k ih => intro K H; simp only [Sem.bind, semM]
  | program k ih => intro K H; simp only [Sem.bind, semM, ih]
  | mark m k ih => intro K H; simp only [Sem.bind, semM, ih]
  | halt x => intro K H; rfl

theorem semM_mono {P : Program} {α : Type} (s : Sem α) : ∀ {K K' : α → Hp → Prop} {H : Hp}, (∀ a H, K a H → K' a H) → semM P s K H → semM P s K' H := by
  induction s with
  | pure a => exact fun h hk => h _ _ hk
  | load m a k ih => intro K K' H h hk; simp only [semM] at *; split <;> simp_all; exact ih _ h hk
  | store m a v k ih => intro K K' H h hk; simp only [semM] at *; split <;> simp_all; exact ih h hk
  | new o k ih => exact fun h hk => ih _ h hk
  | shape r k ih => exact fun h hk => ih _ h hk
  | freeze a n k ih => exact fun h hk => ih h hk
  | frozen a k ih => exact fun h hk => ih _ h hk
  | getObj r k ih => intro K K' H h hk; simp only [semM] at *; split <;> simp_all; exact ih _ h hk
  | setObj r o k ih => intro K K' H h hk; simp only [semM] at *; split <;> simp_all; exact ih h hk
  | choose q k ih =>
    intro K K' H h hk
    simp only [semM] at *
    split
    · simp_all; exact ih _ h hk
    · simp_all; exact fun t => ih _ h (hk t)
  | sys c k ih => exact fun h hk => hk.elim
  | program k ih => exact fun h hk => ih _ h hk
  | mark m k ih => exact fun h hk => ih h hk
  | halt x => exact fun h hk => hk.elim

/-! ## Calls -/

/-- A call of f, over any world whose heap is H: it returns v, and R holds of v and the heap behind. (A function without a body: what the model answers for it.) -/
def HC (P : Program) (f : FuncId) (args : Array Value) (R : Value → Hp → Prop) (H : Hp) : Prop :=
  ((∀ w, (callFunc f args).run P w = .ok (.enter f args) w) ∧
    ∀ w : World, w.heap = H → Calls P f args w fun e w' => ∃ v, e = .returned v ∧ R v w'.heap ∧ Same w w') ∨
  semM P (callFunc f args) (fun n H' => match n with | .value v => R v H' | _ => False) H
theorem HC.mono {P : Program} {f : FuncId} {args : Array Value} {R R' : Value → Hp → Prop} {H : Hp} (h : HC P f args R H)
    (hr : ∀ v H', R v H' → R' v H') : HC P f args R' H := by
  rcases h with ⟨he, h⟩ | h
  · exact .inl ⟨he, fun w hw => Calls.mono (h w hw) fun _ _ ⟨v, he, hk, hs⟩ => ⟨v, he, hr _ _ hk, hs⟩⟩
  · refine .inr (semM_mono _ (fun n H' hn => ?_) h)
    cases n <;> first | exact hr _ _ hn | exact hn
/-- As a deferred call. -/
def HCD (P : Program) (f : FuncId) (args : Array Value) (R : Hp → Prop) (H : Hp) : Prop :=
  (∀ w, (callFunc f args).run P w = .ok (.enter f args) w) ∧ ∀ w : World, w.heap = H → CallsD P f args .returning w fun e u w' => ∃ v, e = .returned v ∧ u = .returning ∧ R w'.heap ∧ Same w w'
theorem HCD.mono {P : Program} {f : FuncId} {args : Array Value} {R R' : Hp → Prop} {H : Hp} (h : HCD P f args R H)
    (hr : ∀ H', R H' → R' H') : HCD P f args R' H :=
  ⟨h.1, fun w hw => CallsD.mono (h.2 w hw) fun _ _ _ ⟨v, he, hu, hk, hs⟩ => ⟨v, he, hu, hr _ hk, hs⟩⟩

/-! ## Registers -/

abbrev Regs := Nat → Value
def ev (r : Regs) : Operand → Value
  | .tmp t => r t
  | .const v => v
  | .global g => .pointer (some ⟨g, 0, none⟩)
  | .func f => .func (.func f) #[] #[]
def put (r : Regs) (d : Option Tmp) (v : Value) : Regs :=
  match d with
  | some d => fun i => match Nat.beq i d with | true => v | false => r i
  | none => r
structure Agree (n : Nat) (tmps : Array Value) (r : Regs) : Prop where
  size : tmps.size = n
  get : ∀ i, tmps.getD i undef = r i
theorem Agree.ev {n : Nat} {a : Act} {r : Regs} (h : Agree n a.tmps r) : a.eval = ev r := by
  funext x
  cases x with
  | tmp t => exact h.get t
  | _ => rfl
def dstOk (n : Nat) : Option Tmp → Bool
  | some d => Nat.blt d n
  | none => true
theorem Agree.put {n : Nat} {a : Act} {r : Regs} (h : Agree n a.tmps r) {d : Option Tmp} (hd : dstOk n d = true) (v : Value) :
    Agree n (a.put d v).tmps (put r d v) := by
  cases d with
  | none => exact h
  | some d =>
    have hlt : d < n := by simpa [dstOk, Nat.blt_eq] using hd
    refine ⟨by simp [Act.put, h.size], fun i => ?_⟩
    have hg := h.get i
    by_cases e : i = d
    · subst e
      simp [Act.put, Sx.put, h.size, hlt]
    · have hb : Nat.beq i d = false := by
        cases hq : Nat.beq i d
        · rfl
        · exact absurd (Nat.eq_of_beq_eq_true hq) e
      simp only [Act.put, Sx.put, hb]
      rw [← hg]
      simp [Array.getElem?_setIfInBounds_ne (Ne.symm e)]
theorem Act.put_defers' (a : Act) (d : Option Tmp) (v : Value) : (a.put d v).defers = a.defers := by cases d <;> rfl
/-- What a guard's operation yielded. -/
def yieldR (ops : Array Oper) (r : Regs) (j : Nat) : Option Bool :=
  match (ops[j]?).bind (·.dst) with
  | some t => match r t with
    | .bool b => some b
    | _ => none
  | none => none
theorem Agree.yielded {n : Nat} {ops : Array Oper} {tmps : Array Value} {r : Regs} (h : Agree n tmps r) (j : Nat) : yielded ops tmps j = yieldR ops r j := by
  unfold Go.yielded yieldR
  cases (ops[j]?).bind (·.dst) with
  | none => rfl
  | some t =>
    have hg := h.get t
    simp only [Option.bind_some]
    rw [← hg]
    cases ht : tmps[t]? with
    | none => simp [ht, undef]
    | some v => simp [ht]; cases v <;> rfl

end Go.Sx
namespace Go.Sx

abbrev HPred := Hp → Prop
def bot : HPred := fun _ => False

/-! ## Trees that touch nothing; trees that only read -/
def pureRun (P : Program) {α : Type} : Sem α → Option α
  | .pure a => some a
  | .program k => pureRun P (k P)
  | .mark _ k => pureRun P k
  | _ => none
def readRun (P : Program) {α : Type} : Sem α → Hp → Option α
  | .pure a, _ => some a
  | .load _ a k, H => match cellH H a with
    | some v => readRun P (k v) H
    | none => none
  | .shape r k, H => readRun P (k (shapeH H r)) H
  | .frozen a k, H => readRun P (k (frozenH H a)) H
  | .getObj r k, H => match H[r]? with
    | some (.cells ..) => none
    | some o => readRun P (k o) H
    | none => none
  | .program k, H => readRun P (k P) H
  | .mark _ k, H => readRun P k H
  | _, _ => none
theorem pureRun_sound {P : Program} {α : Type} (s : Sem α) {K : α → Hp → Prop} {H : Hp} {a : α} (h : pureRun P s = some a) (hk : K a H) : semM P s K H := by
  induction s with
  | pure a => simp only [pureRun, Option.some.injEq] at h; subst h; exact hk
  | program k ih => exact ih _ h
  | mark m k ih => exact ih h
  | _ => simp [pureRun] at h
theorem readRun_sound {P : Program} {α : Type} (s : Sem α) {K : α → Hp → Prop} {H : Hp} {a : α} (h : readRun P s H = some a) (hk : K a H) : semM P s K H := by
  induction s with
  | pure a => simp only [readRun, Option.some.injEq] at h; subst h; exact hk
  | load m a k ih =>
    simp only [readRun] at h
    simp only [semM]
    cases hc : cellH H a with
    | none => rw [hc] at h; cases h
    | some v => rw [hc] at h; exact ih v h
  | shape r k ih => exact ih _ h
  | frozen a k ih => exact ih _ h
  | getObj r k ih =>
    simp only [readRun] at h
    simp only [semM]
    split at h
    · cases h
    · rename_i o hne ho
      try rw [ho]
      cases o <;> first | exact ih _ h | exact absurd rfl (hne _ _ _)
    · cases h
  | program k ih => exact ih _ h
  | mark m k ih => exact ih h
  | _ => simp [readRun] at h

/-! ## Words -/
/-- A value that hangs on values alone. -/
def opt (o : Option Value) (K : Value → HPred) : HPred := match o with
  | some v => K v
  | none => bot
/-- A value that is read. -/
def rd (f : Hp → Option Value) (K : Value → HPred) : HPred := fun H => match f H with
  | some v => K v H
  | none => False
def chk (I : HPred) (C : HPred) : HPred := fun H => I H ∧ C H
def st (x : Value) (v : Value) (C : HPred) : HPred := fun H => match x with
  | .pointer (some a) => match oneCell v, cellH H a, frozenH H a with
    | true, some _, false => C (setCellH H a v)
    | _, _, _ => False
  | _ => False
def stL (a : Addr) : List Value → Nat → HPred → HPred
  | [], _, C => C
  | v :: vs, i, C => st (.pointer (some (a.add i))) v (stL a vs (i + 1) C)
def stA (x : Value) (n : Nat) (v : Value) (C : HPred) : HPred := match x, v with
  | .pointer (some a), .agg cs => match Nat.beq cs.size n with
    | true => stL a cs.toList 0 C
    | false => bot
  | _, _ => bot
def pickV (c a b : Value) : Option Value := match c with
  | .bool true => some a
  | .bool false => some b
  | _ => none
def nilV (x : Value) : Option Value := match x with
  | .pointer (some a) => some (.pointer (some a))
  | _ => none
def offV (x : Value) (off : Nat) : Option Value := match x with
  | .pointer (some a) => some (.pointer (some (a.add off)))
  | _ => none
def idxA (x i : Value) (len size : Nat) : Option Value := match x, i with
  | .pointer (some a), .int _ i => match decide (0 ≤ i ∧ i < (len : Int)) with
    | true => some (.pointer (some (a.add (i.toNat * size))))
    | false => none
  | _, _ => none
def idxS (x i : Value) (size : Nat) : Option Value := match x, i with
  | .slice (some a) len _, .int _ i => match decide (0 ≤ i ∧ i < (len : Int)) with
    | true => some (.pointer (some (a.add (i.toNat * size))))
    | false => none
  | _, _ => none
def extV (v : Value) (i : Nat) : Option Value := match v with
  | .tuple vs => vs.toList[i]?
  | _ => none
def cellP (x : Value) (H : Hp) : Option Value := match x with
  | .pointer (some a) => cellH H a
  | _ => none
def cellsP (x : Value) (n : Nat) (H : Hp) : Option Value := match x with
  | .pointer (some a) => match a.spot, H[a.block]? with
    | none, some (.cells c _ _) => match Nat.ble (a.off + n) c.size with
      | true => some (.agg (c.extract a.off (a.off + n)))
      | false => none
    | _, _ => none
  | _ => none
def binV (P : Program) (op : BinOp) (T : TypeId) (ox oy : Operand) (x y : Value) : Option Value :=
  pureRun P ((eqGuard op T ox oy x y).bind fun _ => binOp op T x y)
def binR (P : Program) (op : BinOp) (T : TypeId) (ox oy : Operand) (x y : Value) (H : Hp) : Option Value :=
  readRun P ((eqGuard op T ox oy x y).bind fun _ => binOp op T x y) H
def cnd (c : Value) (A B : HPred) : HPred := match c with | .bool t => (match t with | true => A | false => B) | _ => bot
def grdB (g : Value) (want : Bool) : Bool := match g with | .bool b => b == want | _ => false
def grdK (g : Value) (want : Bool) (A : (Value → HPred) → HPred) (K : Value → HPred) : HPred := match grdB g want with
  | true => A K
  | false => K undef
def newC (cells : Array Value) (T : TypeId) (K : Value → HPred) : HPred := fun H =>
  K (.pointer (some ⟨H.size, 0, none⟩)) (H.push (.cells cells T))
def boxM (T : TypeId) (v : Value) (K : Value → HPred) : HPred := newC v.cells T K
def callF (P : Program) (f : FuncId) (args : List Value) (K : Value → HPred) : HPred := fun H => HC P f args.toArray K H
def callV (P : Program) (f : Value) (args : List Value) (K : Value → HPred) : HPred := match f with
  | .func (.func f) first captured => callF P f (first.toList ++ args ++ captured.toList) K
  | _ => bot
def callI (P : Program) (recv : Value) (name : String) (args : List Value) (K : Value → HPred) : HPred := match recv with
  | .iface t v => fun H => semM P (method (P.types.size + Made.depth) t v name) (fun p H' => HC P p.1 (p.2 :: args).toArray K H') H
  | _ => bot
def tot (P : Program) (s : Sem Value) (K : Value → HPred) : HPred := fun H => semM P s K H
def unitT (P : Program) (s : Sem Unit) (K : Value → HPred) : HPred := fun H => semM P s (fun _ => K undef) H
def aggD : TypeDesc → Bool
  | .struct _ => true
  | .array _ _ => true
  | _ => false
def layT (P : Program) (t : TypeId) : Option (Bool × Nat) :=
  match P.underlying t, P.info? t with
  | some d, some i => some (aggD d, i.size)
  | _, _ => none
def isConstO : Operand → Bool
  | .const _ => true
  | _ => false
def bltN (b : Builtin) (argTypes : Array TypeId) (type : TypeId) (consts : Array Bool) (args : List Value) : Sem Value :=
  (builtin b argTypes type consts args.toArray).bind fun
    | .value v => .pure v
    | _ => .halt (.stuck "")
def blt (P : Program) (b : Builtin) (argTypes : Array TypeId) (type : TypeId) (consts : Array Bool) (args : List Value) (K : Value → HPred) : HPred :=
  tot P (bltN b argTypes type consts args) K
def isPtrT (P : Program) (t : TypeId) : Bool := match P.underlying t with
  | some (.pointer _) => true
  | _ => false
def isMapT (P : Program) (t : TypeId) : Bool := match P.underlying t with
  | some (.map _ _) => true
  | _ => false
def isIntT (P : Program) (t : TypeId) : Bool := match P.underlying t with
  | some (.int _) => true
  | _ => false
def quietB : Builtin → Bool
  | .len => true
  | .cap => true
  | .min => true
  | .max => true
  | _ => false

/-- Quiet operations: what they yield. -/
inductive Cls where
  | same (v : Value)
  | val (o : Option Value)
  | get (f : Hp → Option Value)
  | act

def cls (P : Program) (ρ : Operand → Value) (type : TypeId) : Op → Cls
  | .move x | .assign x => .same (ρ x)
  | .pick c a b => .val (pickV (ρ c) (ρ a) (ρ b))
  | .load t x => match layT P t with
    | some (true, n) => .get (cellsP (ρ x) n)
    | some (false, _) => .get (cellP (ρ x))
    | none => .val none
  | .nilCheck x => .val (nilV (ρ x))
  | .fieldAddr s x f => match P.underlying s with
    | some (.struct fields) => match fields.toList[f]? with
      | some fd => match P.info? fd.type with
        | some i => match Nat.beq i.size 0 with
          | false => .val (offV (ρ x) fd.offset)
          | true => .val none
        | none => .val none
      | none => .val none
    | _ => .val none
  | .indexAddr t x i => match P.underlying t with
    | some (.array len elem) => match P.info? elem with
      | some e => .val (idxA (ρ x) (ρ i) len e.size)
      | none => .val none
    | some (.slice elem) => match P.info? elem with
      | some e => .val (idxS (ρ x) (ρ i) e.size)
      | none => .val none
    | _ => .val none
  | .extract x i => .val (extV (ρ x) i)
  | .makeFunc fn first captured => .same (.func fn (first.toList.map ρ).toArray (captured.toList.map ρ).toArray)
  | .binOp op t x y _ => match isPtrT P t with
    | false => .val (binV P op t x y (ρ x) (ρ y))
    | true => .get (binR P op t x y (ρ x) (ρ y))
  | .unOp op _ x => .val (pureRun P (Op.unary op (ρ x)))
  | .convert src dst x => match isIntT P src, isIntT P dst with
    | true, true => .val (pureRun P (convert src dst (ρ x)))
    | _, _ => .act
  | .build t parts => .val (pureRun P (Instr.build t (parts.toList.map fun (i, x) => (i, ρ x)).toArray))
  | .slice t x lo hi mx => .val (pureRun P (Instr.sliceAt t (ρ x) (lo.map ρ) (hi.map ρ) (mx.map ρ)))
  | .field t x f => .val (pureRun P (Instr.field t (ρ x) f))
  | .index t x i => .val (pureRun P (Instr.index t (ρ x) (ρ i)))
  | .lookup t x i ok => .get (readRun P (Instr.lookup t (ρ x) (ρ i) ok))
  | .makeInterface t x => .val (pureRun P (Instr.makeInterface t (ρ x)))
  | .typeAssert x t as ok => .val (pureRun P (Instr.typeAssert (ρ x) t as ok))
  | .call c => match c.callee with
    | .builtin b => match quietB b with
      | true => match (c.argTypes.toList).any (isMapT P) with
        | true => .get (readRun P (bltN b c.argTypes type (c.args.toList.map isConstO).toArray (c.args.toList.map ρ)))
        | false => .val (pureRun P (bltN b c.argTypes type (c.args.toList.map isConstO).toArray (c.args.toList.map ρ)))
      | false => .act
    | _ => .act
  | _ => .act

/-- Operations that act. -/
def actD (P : Program) (ρ : Operand → Value) (type : TypeId) (ds : List Deferred) (K : Value → List Deferred → HPred) : Op → HPred
  | .store t x v => match layT P t with
    | some (true, n) => stA (ρ x) n (ρ v) (K undef ds)
    | some (false, 1) => st (ρ x) (ρ v) (K undef ds)
    | _ => bot
  | .alloc t => match (P.info? t).bind (·.zero) with
    | some z => newC z.cells t fun v => K v ds
    | none => bot
  | .box t x => boxM t (ρ x) fun v => K v ds
  | .call c => match c.callee with
    | .value (.func f) => callF P f (c.args.toList.map ρ) fun v => K v ds
    | .value f => callV P (ρ f) (c.args.toList.map ρ) fun v => K v ds
    | .builtin b => blt P b c.argTypes type (c.args.toList.map isConstO).toArray (c.args.toList.map ρ) fun v => K v ds
    | .invoke recv name => callI P (ρ recv) name (c.args.toList.map ρ) fun v => K v ds
  | .defer c => match c.callee with
    | .value (.func f) => K undef ({ target := .fn (.func f) #[], args := (c.args.toList.map ρ).toArray } :: ds)
    | _ => bot
  | .convert src dst x => tot P (convert src dst (ρ x)) fun v => K v ds
  | .buildSlice t len parts => tot P (Instr.buildSlice t len (parts.toList.map fun (i, x) => (i, ρ x)).toArray) fun v => K v ds
  | .makeMap t r => tot P (Instr.makeMap t (r.map ρ)) fun v => K v ds
  | .makeSlice t l c => tot P (Instr.makeSlice t (ρ l) (ρ c)) fun v => K v ds
  | .mapUpdate t m k x | .insert t m k x => unitT P (Instr.mapUpdate t (ρ m) (ρ k) (ρ x)) fun v => K v ds
  | .mapEntry t m k => tot P (Instr.mapEntry t (ρ m) (ρ k)) fun v => K v ds
  | .entryStore t m s x => unitT P (Instr.entryStore t (ρ m) (ρ s) (ρ x)) fun v => K v ds
  | .range t x => tot P (Instr.range t (ρ x)) fun v => K v ds
  | .next it s => tot P (Instr.next (ρ it) s type) fun v => K v ds
  | .entry it => tot P (Instr.entry (ρ it)) fun v => K v ds
  | _ => bot

/-- What an operation does: its value and the deferred calls behind it. -/
def opD (P : Program) (ρ : Operand → Value) (type : TypeId) (ds : List Deferred) (K : Value → List Deferred → HPred) (op : Op) : HPred :=
  match cls P ρ type op with
  | .same v => K v ds
  | .val o => opt o fun v => K v ds
  | .get f => rd f fun v => K v ds
  | .act => actD P ρ type ds K op

end Go.Sx
namespace Go.Sx
variable {P : Program}

theorem sem_underlying (t : TypeId) (K : TypeDesc → HPred) (H : Hp) : semM P (underlying t) K H = match P.underlying t with | some d => K d H | none => False := by
  show semM P ((program).bind _) K H = _
  rw [semM_bind]; simp only [program, semM]
  cases P.underlying t <;> rfl
theorem sem_typeInfo (t : TypeId) (K : TypeInfo → HPred) (H : Hp) : semM P (typeInfo t) K H = match P.info? t with | some d => K d H | none => False := by
  show semM P ((program).bind _) K H = _
  rw [semM_bind]; simp only [program, semM]
  cases P.info? t <;> rfl
theorem sem_sizeOf (t : TypeId) (K : Nat → HPred) (H : Hp) : semM P (sizeOf t) K H = match P.info? t with | some d => K d.size H | none => False := by
  show semM P ((typeInfo t).bind _) K H = _
  rw [semM_bind, sem_typeInfo]; rfl
theorem sem_isAgg (t : TypeId) (K : Bool → HPred) (H : Hp) : semM P (isAgg t) K H =
    match P.underlying t with | some d => K (aggD d) H | none => False := by
  show semM P ((underlying t).bind _) K H = _
  rw [semM_bind, sem_underlying]
  cases P.underlying t with
  | none => rfl
  | some d => cases d <;> rfl
theorem sem_zeroValue (t : TypeId) (K : Value → HPred) (H : Hp) : semM P (zeroValue t) K H = match (P.info? t).bind (·.zero) with | some z => K z H | none => False := by
  show semM P ((typeInfo t).bind _) K H = _
  rw [semM_bind, sem_typeInfo]
  cases P.info? t with
  | none => rfl
  | some i => cases h : i.zero <;> simp [h, semM, unsupported, pure]
theorem bindS {α β : Type} (s : Sem α) (f : α → Sem β) : (s >>= f) = s.bind f := rfl
theorem opt_ok {o : Option Value} {K : Value → HPred} {H : Hp} (h : opt o K H) : ∃ v, o = some v ∧ K v H := by
  cases o with
  | none => exact h.elim
  | some v => exact ⟨v, rfl, h⟩
theorem rd_ok {f : Hp → Option Value} {K : Value → HPred} {H : Hp} (h : rd f K H) : ∃ v, f H = some v ∧ K v H := by
  unfold rd at h
  cases hf : f H with
  | none => rw [hf] at h; exact h.elim
  | some v => rw [hf] at h; exact ⟨v, rfl, h⟩
theorem cellP_ok {x v : Value} {H : Hp} (h : cellP x H = some v) : ∃ a, x = .pointer (some a) ∧ cellH H a = some v := by
  unfold cellP at h
  split at h
  · exact ⟨_, rfl, h⟩
  · cases h
theorem cellsP_ok {x v : Value} {n : Nat} {H : Hp} (h : cellsP x n H = some v) : ∃ a c T fz, x = .pointer (some a) ∧ a.spot = none ∧ H[a.block]? = some (.cells c T fz) ∧
    a.off + n ≤ c.size ∧ v = .agg (c.extract a.off (a.off + n)) := by
  unfold cellsP at h
  split at h
  · rename_i a
    split at h
    · rename_i c T fz hs hb
      cases hle : Nat.ble (a.off + n) c.size with
      | false => rw [hle] at h; cases h
      | true =>
        rw [hle] at h
        simp only [Option.some.injEq] at h
        exact ⟨a, c, T, fz, rfl, hs, hb, Nat.le_of_ble_eq_true hle, h.symm⟩
    · cases h
  · cases h
theorem loadCells_sound {a : Addr} {c : Array Value} {T : TypeId} {fz : Nat × Nat} {H : Hp} (hs : a.spot = none) (hb : H[a.block]? = some (.cells c T fz)) :
    ∀ (n i : Nat) (acc : Array Value) (K : Array Value → HPred), a.off + i + n ≤ c.size → K (acc ++ c.extract (a.off + i) (a.off + i + n)) H →
      semM P (loadCellsFrom a i n acc) K H := by
  intro n
  induction n with
  | zero =>
    intro i acc K _ h
    have he : acc ++ c.extract (a.off + i) (a.off + i + 0) = acc := by
      apply Array.ext'; simp [List.extract_eq_take_drop]
    rw [he] at h
    exact h
  | succ n ih =>
    intro i acc K hle h
    have hc : cellH H (a.add i) = some (c[a.off + i]'(by omega)) := by
      unfold cellH Addr.add
      by_cases h0 : i = 0
      · subst h0
        simp [hb, hs]
      · simp [h0, hb]
    show semM P ((load (a.add i)).bind _) _ H
    rw [semM_bind]
    simp only [load, semM, hc]
    refine ih (i + 1) _ K (by omega) ?_
    have he : acc.push (c[a.off + i]'(by omega)) ++ c.extract (a.off + (i + 1)) (a.off + (i + 1) + n) = acc ++ c.extract (a.off + i) (a.off + i + (n + 1)) := by
      apply Array.ext'
      simp only [Array.toList_append, Array.toList_push, Array.toList_extract, List.extract_eq_take_drop, List.append_assoc]
      congr 1
      rw [show a.off + i + (n + 1) - (a.off + i) = n + 1 from by omega, show a.off + (i + 1) + n - (a.off + (i + 1)) = n from by omega]
      rw [List.drop_eq_getElem_cons (i := a.off + i) (by simpa using by omega)]
      simp [Nat.add_assoc]
    rw [he]; exact h
theorem sureAddr_eq (a : Addr) : Instr.sureAddr (.pointer (some a)) = pure a := rfl
theorem loadAt_agg {t : TypeId} {n : Nat} {x v : Value} {K : Value → HPred} {H : Hp} (hl : layT P t = some (true, n))
    (h : cellsP x n H = some v) (hk : K v H) : semM P (Instr.loadAt t x) K H := by
  obtain ⟨a, c, T, fz, rfl, hs, hb, hle, rfl⟩ := cellsP_ok h
  unfold layT at hl
  split at hl
  · rename_i d i hd hi
    simp only [Option.some.injEq, Prod.mk.injEq] at hl
    show semM P ((Instr.sureAddr _).bind _) K H
    rw [sureAddr_eq, semM_bind]
    simp only [pure, semM, loadVar, bindS]
    rw [semM_bind, sem_isAgg, hd]
    simp only [hl.1, if_true]
    rw [semM_bind, sem_sizeOf, hi]
    simp only [hl.2, semM_bind]
    refine loadCells_sound hs hb n 0 #[] _ (by omega) ?_
    simpa [semM] using hk
  · simp at hl
theorem loadAt_one {t : TypeId} {n : Nat} {x v : Value} {K : Value → HPred} {H : Hp} (hl : layT P t = some (false, n))
    (h : cellP x H = some v) (hk : K v H) : semM P (Instr.loadAt t x) K H := by
  obtain ⟨a, rfl, hc⟩ := cellP_ok h
  unfold layT at hl
  split at hl
  · rename_i d i hd hi
    simp only [Option.some.injEq, Prod.mk.injEq] at hl
    show semM P ((Instr.sureAddr _).bind _) K H
    rw [sureAddr_eq, semM_bind]
    simp only [pure, semM, loadVar, bindS]
    rw [semM_bind, sem_isAgg, hd]
    simp only [hl.1, Bool.false_eq_true, if_false, load, semM, hc]
    exact hk
  · simp at hl
theorem stL_sound (a : Addr) : ∀ (vs : List Value) (i : Nat) (C : HPred) (H : Hp), stL a vs i C H → semM P (storeCells a vs i) (fun _ => C) H := by
  intro vs
  induction vs with
  | nil => intro i C H h; exact h
  | cons v vs ih =>
    intro i C H h
    show semM P ((store (a.add i) v).bind _) _ H
    rw [semM_bind]
    simp only [store, semM]
    simp only [stL, st] at h
    split at h
    · simp only [*]
    · exact h.elim
theorem storeVar_sound {t : TypeId} {a : Addr} {v : Value} {C : HPred} {H : Hp} {i : TypeInfo} (hi : P.info? t = some i) (hs : v.cells.size = i.size)
    (h : stL a v.cells.toList 0 C H) : semM P (storeVar t a v) (fun _ => C) H := by
  show semM P ((sizeOf t).bind _) _ H
  rw [semM_bind, sem_sizeOf, hi]
  simp only [hs, ne_eq, not_true_eq_false, if_false]
  exact stL_sound a _ 0 C H h
theorem st_ok {x v : Value} {C : HPred} {H : Hp} (h : st x v C H) : ∃ a c, x = .pointer (some a) ∧ oneCell v = true ∧ cellH H a = some c ∧ frozenH H a = false ∧ C (setCellH H a v) := by
  unfold st at h
  split at h
  · split at h
    · rename_i a _ _ _ c ho hc hf; exact ⟨a, c, rfl, ho, hc, hf, h⟩
    · exact h.elim
  · exact h.elim
theorem stA_ok {x : Value} {n : Nat} {v : Value} {C : HPred} {H : Hp} (h : stA x n v C H) : ∃ a cs, x = .pointer (some a) ∧ v = .agg cs ∧ cs.size = n ∧ stL a cs.toList 0 C H := by
  unfold stA at h
  cases x <;> first | exact h.elim | skip
  rename_i p
  cases p <;> first | exact h.elim | skip
  rename_i a
  cases v <;> first | exact h.elim | skip
  rename_i cs
  simp only at h
  cases hb : Nat.beq cs.size n with
  | true => rw [hb] at h; exact ⟨a, cs, rfl, rfl, Nat.eq_of_beq_eq_true hb, h⟩
  | false => rw [hb] at h; exact h.elim
theorem storeAt_agg {t : TypeId} {n : Nat} {x v : Value} {C : HPred} {H : Hp} (hl : layT P t = some (true, n))
    (h : stA x n v C H) : semM P (Instr.storeAt t x v) (fun _ => C) H := by
  obtain ⟨a, cs, rfl, rfl, hsz, h1⟩ := stA_ok h
  unfold layT at hl
  split at hl
  · rename_i d i hd hi
    simp only [Option.some.injEq, Prod.mk.injEq] at hl
    show semM P ((Instr.sureAddr _).bind _) _ H
    rw [sureAddr_eq]
    exact storeVar_sound hi (by rw [hl.2]; exact hsz) h1
  · simp at hl
theorem storeAt_one {t : TypeId} {x v : Value} {C : HPred} {H : Hp} (hl : layT P t = some (false, 1))
    (h : st x v C H) : semM P (Instr.storeAt t x v) (fun _ => C) H := by
  obtain ⟨a, c, rfl, ho, hcell, hf, h1⟩ := st_ok h
  unfold layT at hl
  split at hl
  · rename_i d i hd hi
    simp only [Option.some.injEq, Prod.mk.injEq] at hl
    show semM P ((Instr.sureAddr _).bind _) _ H
    rw [sureAddr_eq]
    have hc : v.cells = #[v] := by cases v <;> first | rfl | (simp [oneCell] at ho)
    refine storeVar_sound hi (by rw [hc, hl.2]; rfl) ?_
    rw [hc]
    show st (.pointer (some (a.add 0))) v C H
    rw [show a.add 0 = a from rfl]
    exact h
  · simp at hl
theorem idxA_ok {x i v : Value} {len size : Nat} (h : idxA x i len size = some v) : ∃ a k n, x = .pointer (some a) ∧ i = .int k n ∧ (0 ≤ n ∧ n < (len : Int)) ∧ v = .pointer (some (a.add (n.toNat * size))) := by
  unfold idxA at h
  split at h
  · rename_i a k n
    cases hd : decide (0 ≤ n ∧ n < (len : Int)) with
    | true => rw [hd] at h; simp only [Option.some.injEq] at h; exact ⟨a, k, n, rfl, rfl, of_decide_eq_true hd, h.symm⟩
    | false => rw [hd] at h; cases h
  · cases h
theorem idxS_ok {x i v : Value} {size : Nat} (h : idxS x i size = some v) : ∃ a len c k n, x = .slice (some a) len c ∧ i = .int k n ∧ (0 ≤ n ∧ n < (len : Int)) ∧ v = .pointer (some (a.add (n.toNat * size))) := by
  unfold idxS at h
  split at h
  · rename_i a len c k n
    cases hd : decide (0 ≤ n ∧ n < (len : Int)) with
    | true => rw [hd] at h; simp only [Option.some.injEq] at h; exact ⟨a, len, c, k, n, rfl, rfl, of_decide_eq_true hd, h.symm⟩
    | false => rw [hd] at h; cases h
  · cases h
theorem offV_ok {x v : Value} {off : Nat} (h : offV x off = some v) : ∃ a, x = .pointer (some a) ∧ v = .pointer (some (a.add off)) := by
  unfold offV at h
  split at h
  · simp only [Option.some.injEq] at h; exact ⟨_, rfl, h.symm⟩
  · cases h
theorem ext_ok {v x : Value} {i : Nat} {K : Value → HPred} {H : Hp} (h : extV v i = some x) (hk : K x H) : semM P (Instr.extract v i) K H := by
  unfold extV at h
  unfold Instr.extract
  split at h
  · rename_i vs
    have : vs[i]? = some x := by simpa using h
    simp only [this]; exact hk
  · cases h
theorem indexAt_arr {t elem : TypeId} {len : Nat} {e : TypeInfo} {x i v : Value} {K : Value → HPred} {H : Hp} (ht : P.underlying t = some (.array len elem))
    (he : P.info? elem = some e) (h : idxA x i len e.size = some v) (hk : K v H) : semM P (Instr.indexAt t x i) K H := by
  obtain ⟨a, k, n, rfl, rfl, hi, rfl⟩ := idxA_ok h
  unfold Instr.indexAt
  simp only [bindS, asIntOf, semM_bind, pure, semM, sem_underlying, ht, sureAddr_eq, hi, and_self, if_true, sem_sizeOf, he]
  exact hk
theorem indexAt_slc {t elem : TypeId} {e : TypeInfo} {x i v : Value} {K : Value → HPred} {H : Hp} (ht : P.underlying t = some (.slice elem))
    (he : P.info? elem = some e) (h : idxS x i e.size = some v) (hk : K v H) : semM P (Instr.indexAt t x i) K H := by
  obtain ⟨a, l, c, k, n, rfl, rfl, hi, rfl⟩ := idxS_ok h
  unfold Instr.indexAt
  simp only [bindS, asIntOf, semM_bind, pure, semM, sem_underlying, ht, hi, and_self, if_true, sem_sizeOf, he]
  exact hk
theorem fieldAt_ok {s : TypeId} {fields : Array Field} {f : Nat} {fd : Field} {i : TypeInfo} {x v : Value} {K : Value → HPred} {H : Hp}
    (hs : P.underlying s = some (.struct fields)) (hf : fields.toList[f]? = some fd) (hi : P.info? fd.type = some i) (h0 : Nat.beq i.size 0 = false)
    (h : offV x fd.offset = some v) (hk : K v H) : semM P (Instr.fieldAt s x f) K H := by
  obtain ⟨a, rfl, rfl⟩ := offV_ok h
  have hf' : fields[f]? = some fd := by simpa using hf
  have hz : ¬ i.size = 0 := fun e => by rw [e] at h0; exact absurd h0 (by decide)
  unfold Instr.fieldAt
  simp only [bindS, semM_bind, sem_underlying, hs, hf', sureAddr_eq, pure, semM, fieldPlace, sem_sizeOf, hi, hz, if_false]
  exact hk

/-! ## The whole of an operation -/
def valS (s : Sem Value) : Sem Next := do pure (.value (← s))
def skipS (s : Sem Unit) : Sem Next := do s; pure .skip
/-- What a tree of an operation comes to, by the walk's own word. -/
def NextOk (P : Program) (K : Value → List Deferred → HPred) (ds : List Deferred) (s : Sem Next) (w : World) : Prop :=
  ∃ n w', s.run P w = .ok n w' ∧ Same w w' ∧ (match n with
    | .value v => K v ds w'.heap
    | .skip => K undef ds w'.heap
    | .defer d => K undef (d :: ds) w'.heap
    | .enter f args => Calls P f args w' fun e w'' => ∃ v, e = .returned v ∧ K v ds w''.heap ∧ Same w' w''
    | _ => False)
theorem nextOk_val {K : Value → List Deferred → HPred} {ds : List Deferred} {s : Sem Value} {w : World}
    (h : semM P s (fun v => K v ds) w.heap) : NextOk P K ds (valS s) w := by
  have h' : semM P (valS s) (fun n => match n with | .value v => K v ds | _ => bot) w.heap := by
    show semM P (s.bind _) _ _
    rw [semM_bind]; exact h
  obtain ⟨n, w', hr, hk, hs⟩ := semM_sound _ h'
  refine ⟨n, w', hr, hs, ?_⟩
  cases n <;> first | exact hk | exact hk.elim
theorem nextOk_skip {K : Value → List Deferred → HPred} {ds : List Deferred} {s : Sem Unit} {w : World}
    (h : semM P s (fun _ => K undef ds) w.heap) : NextOk P K ds (skipS s) w := by
  have h' : semM P (skipS s) (fun n => match n with | .skip => K undef ds | _ => bot) w.heap := by
    show semM P (s.bind _) _ _
    rw [semM_bind]; exact h
  obtain ⟨n, w', hr, hk, hs⟩ := semM_sound _ h'
  refine ⟨n, w', hr, hs, ?_⟩
  cases n <;> first | exact hk | exact hk.elim
theorem nextOk_call {K : Value → List Deferred → HPred} {ds : List Deferred} {f : FuncId} {args : Array Value} {w : World}
    (h : HC P f args (fun v => K v ds) w.heap) : NextOk P K ds (callFunc f args) w := by
  rcases h with ⟨he, h⟩ | h
  · exact ⟨_, w, he w, .refl w, h w rfl⟩
  · obtain ⟨n, w', hr, hk, hs⟩ := semM_sound _ h
    refine ⟨n, w', hr, hs, ?_⟩
    cases n <;> first | exact hk | exact hk.elim
theorem nextOk_next {K : Value → List Deferred → HPred} {ds : List Deferred} {s : Sem Next} {w : World}
    (h : semM P s (fun n => match n with | .value v => K v ds | _ => bot) w.heap) : NextOk P K ds s w := by
  obtain ⟨n, w', hr, hk, hs⟩ := semM_sound _ h
  refine ⟨n, w', hr, hs, ?_⟩
  cases n <;> first | exact hk | exact hk.elim
theorem map_arr (args : Array Operand) (ρ : Operand → Value) : args.map ρ = (args.toList.map ρ).toArray := by
  apply Array.toList_inj.1; simp
theorem callV_ok {f : Value} {args : List Value} {K : Value → HPred} {H : Hp} (h : callV P f args K H) :
    ∃ g first captured, f = .func (.func g) first captured ∧ HC P g (first.toList ++ args ++ captured.toList).toArray K H := by
  cases f <;> first | exact h.elim | skip
  rename_i fn first captured
  cases fn <;> first | exact h.elim | exact ⟨_, _, _, rfl, h⟩
theorem nextOk_defer {K : Value → List Deferred → HPred} {ds : List Deferred} {s : Sem Next} {d : Deferred} {w : World}
    (hs : s = pure (.defer d)) (h : K undef (d :: ds) w.heap) : NextOk P K ds s w := by
  subst hs; exact ⟨_, w, rfl, .refl w, h⟩
theorem map_pairs (ps : Array (Nat × Operand)) (ρ : Operand → Value) :
    (ps.map fun (i, x) => (i, ρ x)) = (ps.toList.map fun (i, x) => (i, ρ x)).toArray := by
  apply Array.toList_inj.1; simp
theorem consts_eq (args : Array Operand) : (args.map fun | .const _ => true | _ => false) = (args.toList.map isConstO).toArray := by
  apply Array.toList_inj.1
  simp only [Array.toList_map]
  apply List.map_congr_left
  intro x _
  cases x <;> rfl
theorem nextOk_blt {K : Value → List Deferred → HPred} {ds : List Deferred} {b : Builtin} {argTypes : Array TypeId} {type : TypeId} {consts : Array Bool} {args : List Value} {w : World}
    (h : semM P (bltN b argTypes type consts args) (fun v => K v ds) w.heap) : NextOk P K ds (builtin b argTypes type consts args.toArray) w := by
  unfold bltN at h
  rw [semM_bind] at h
  refine nextOk_next (semM_mono _ (fun n H hn => ?_) h)
  cases n <;> first | exact hn | exact hn.elim
theorem builtin_eq {c : Call} {ρ : Operand → Value} {type : TypeId} {b : Builtin} (hc : c.callee = .builtin b) {dst pos after guard} :
    execOp ρ { dst := dst, op := .call c, type := type, pos := pos, after := after, guard := guard } =
      builtin b c.argTypes type (c.args.toList.map isConstO).toArray (c.args.toList.map ρ).toArray := by
  obtain ⟨callee, args, argTypes⟩ := c
  simp only at hc
  subst hc
  show ((resolve ρ ⟨_, args, argTypes⟩ type).bind fun d => invoke d.target d.args) = _
  unfold resolve
  rw [map_arr]
  show builtin b argTypes type (args.map fun | .const _ => true | _ => false) (args.toList.map ρ).toArray = _
  rw [consts_eq]
theorem cls_val_pure {K : Value → List Deferred → HPred} {ds : List Deferred} {s : Sem Value} {v : Value} {w : World}
    (h : pureRun P s = some v) (hk : K v ds w.heap) : NextOk P K ds (valS s) w := nextOk_val (pureRun_sound s h hk)
theorem cls_get_read {K : Value → List Deferred → HPred} {ds : List Deferred} {s : Sem Value} {v : Value} {w : World}
    (h : readRun P s w.heap = some v) (hk : K v ds w.heap) : NextOk P K ds (valS s) w := nextOk_val (readRun_sound s h hk)
set_option maxHeartbeats 1000000 in
theorem cls_val {ρ : Operand → Value} {o : Oper} {ds : List Deferred} {K : Value → List Deferred → HPred} {w : World} {x : Option Value} {v : Value}
    (hc : cls P ρ o.type o.op = .val x) (hx : x = some v) (hk : K v ds w.heap) : NextOk P K ds (execOp ρ o) w := by
  obtain ⟨dst, op, type, pos, after, guard⟩ := o
  simp only at hc
  cases op <;> simp only [cls] at hc <;> first | (cases hc; done) | skip
  case pick c a b =>
    cases hc
    show NextOk P K ds ((asBool (ρ c)).bind fun t => pure (.value (if t then ρ a else ρ b))) w
    cases hb : ρ c <;> rw [hb] at hx <;> first | (cases hx; done) | skip
    rename_i t
    cases t <;> cases hx <;> exact nextOk_val (s := pure _) hk
  case load t y =>
    split at hc <;> first | (cases hc; done) | (cases hc; cases hx)
  case nilCheck y =>
    cases hc
    unfold nilV at hx
    split at hx
    · rename_i a ha
      cases hx
      refine ⟨.value (ρ y), w, ?_, .refl w, by rw [ha]; exact hk⟩
      simp only [execOp, ha]; rfl
    · cases hx
  case fieldAddr s y f =>
    refine nextOk_val (s := Instr.fieldAt s (ρ y) f) ?_
    split at hc
    · rename_i fields hs
      split at hc
      · rename_i fd hf
        split at hc
        · rename_i i hi
          split at hc
          · rename_i h0; cases hc; exact fieldAt_ok hs hf hi h0 hx hk
          · cases hc; cases hx
        · cases hc; cases hx
      · cases hc; cases hx
    · cases hc; cases hx
  case indexAddr t y i =>
    refine nextOk_val (s := Instr.indexAt t (ρ y) (ρ i)) ?_
    split at hc
    · rename_i len elem ht
      split at hc
      · rename_i e he; cases hc; exact indexAt_arr ht he hx hk
      · cases hc; cases hx
    · rename_i elem ht
      split at hc
      · rename_i e he; cases hc; exact indexAt_slc ht he hx hk
      · cases hc; cases hx
    · cases hc; cases hx
  case extract y i => cases hc; exact nextOk_val (s := Instr.extract (ρ y) i) (ext_ok hx hk)
  case binOp op t y z yt =>
    split at hc
    · cases hc; exact cls_val_pure (s := do eqGuard op t y z (ρ y) (ρ z); binOp op t (ρ y) (ρ z)) hx hk
    · cases hc
  case unOp op t y => cases hc; exact cls_val_pure (s := Op.unary op (ρ y)) hx hk
  case convert src dst y =>
    split at hc
    · cases hc; exact cls_val_pure (s := convert src dst (ρ y)) hx hk
    · cases hc
  case build t parts =>
    cases hc
    refine nextOk_val (s := Instr.build t (parts.map fun (i, x) => (i, ρ x))) ?_
    rw [map_pairs]; exact pureRun_sound _ hx hk
  case slice t y lo hi mx => cases hc; exact cls_val_pure (s := Instr.sliceAt t (ρ y) (lo.map ρ) (hi.map ρ) (mx.map ρ)) hx hk
  case field t y f => cases hc; exact cls_val_pure (s := Instr.field t (ρ y) f) hx hk
  case index t y i => cases hc; exact cls_val_pure (s := Instr.index t (ρ y) (ρ i)) hx hk
  case makeInterface t y => cases hc; exact cls_val_pure (s := Instr.makeInterface t (ρ y)) hx hk
  case typeAssert y t as ok => cases hc; exact cls_val_pure (s := Instr.typeAssert (ρ y) t as ok) hx hk
  case call c =>
    split at hc
    · rename_i b hb
      rw [builtin_eq hb]
      split at hc
      · split at hc
        · cases hc
        · cases hc; exact nextOk_blt (pureRun_sound _ hx hk)
      · cases hc
    · cases hc
set_option maxHeartbeats 1000000 in
theorem cls_same {ρ : Operand → Value} {o : Oper} {ds : List Deferred} {K : Value → List Deferred → HPred} {w : World} {v : Value}
    (hc : cls P ρ o.type o.op = .same v) (hk : K v ds w.heap) : NextOk P K ds (execOp ρ o) w := by
  obtain ⟨dst, op, type, pos, after, guard⟩ := o
  simp only at hc
  cases op <;> simp only [cls] at hc <;> first | (cases hc; done) | skip
  case move y => cases hc; exact nextOk_val (s := pure (ρ y)) hk
  case assign y => cases hc; exact nextOk_val (s := pure (ρ y)) hk
  case makeFunc fn first captured =>
    cases hc
    refine nextOk_val (s := Instr.makeFunc fn (first.map ρ) (captured.map ρ)) ?_
    rw [map_arr, map_arr]; exact hk
  case load t x => split at hc <;> cases hc
  case fieldAddr s x f =>
    split at hc
    · split at hc
      · split at hc
        · split at hc <;> cases hc
        · cases hc
      · cases hc
    · cases hc
  case indexAddr t x i =>
    split at hc
    · split at hc <;> cases hc
    · split at hc <;> cases hc
    · cases hc
  case binOp op t x y yt => split at hc <;> cases hc
  case convert src dst x => split at hc <;> cases hc
  case call c =>
    split at hc
    · split at hc
      · split at hc <;> cases hc
      · cases hc
    · cases hc
set_option maxHeartbeats 1000000 in
theorem cls_get {ρ : Operand → Value} {o : Oper} {ds : List Deferred} {K : Value → List Deferred → HPred} {w : World} {f : Hp → Option Value} {v : Value}
    (hc : cls P ρ o.type o.op = .get f) (hx : f w.heap = some v) (hk : K v ds w.heap) : NextOk P K ds (execOp ρ o) w := by
  obtain ⟨dst, op, type, pos, after, guard⟩ := o
  simp only at hc
  cases op <;> simp only [cls] at hc <;> first | (cases hc; done) | skip
  case load t y =>
    refine nextOk_val (s := Instr.loadAt t (ρ y)) ?_
    split at hc
    · rename_i n hl; cases hc; exact loadAt_agg hl hx hk
    · rename_i n hl; cases hc; exact loadAt_one hl hx hk
    · cases hc
  case fieldAddr s y f =>
    split at hc
    · split at hc
      · split at hc
        · split at hc <;> cases hc
        · cases hc
      · cases hc
    · cases hc
  case indexAddr t y i =>
    split at hc
    · split at hc <;> cases hc
    · split at hc <;> cases hc
    · cases hc
  case binOp op t y z yt =>
    split at hc
    · cases hc
    · cases hc; exact cls_get_read (s := do eqGuard op t y z (ρ y) (ρ z); binOp op t (ρ y) (ρ z)) hx hk
  case convert src dst y => split at hc <;> cases hc
  case lookup t y i ok => cases hc; exact cls_get_read (s := Instr.lookup t (ρ y) (ρ i) ok) hx hk
  case call c =>
    split at hc
    · rename_i b hb
      rw [builtin_eq hb]
      split at hc
      · split at hc
        · cases hc; exact nextOk_blt (readRun_sound _ hx hk)
        · cases hc
      · cases hc
    · cases hc
theorem run_bindS {α β : Type} (s : Sem α) (f : α → Sem β) (w : World) {a : α} {w' : World} (h : s.run P w = .ok a w') : (s.bind f).run P w = (f a).run P w' := by
  have : ∀ {w a w'}, s.run P w = .ok a w' → (s.bind f).run P w = (f a).run P w' := by
    clear h a w w'
    induction s with
    | pure a => intro w a w' h; cases h; rfl
    | load m a k ih =>
      intro w x w' h
      simp only [Sem.run, Sem.bind] at *
      split
      · rename_i v hv; rw [hv] at h; exact ih _ h
      · rename_i hv
        rw [hv] at h
        split
        · rename_i v l hf; simp only [hf] at h; exact ih _ h
        · rename_i e hf; simp only [hf] at h; cases h
    | store m a v k ih =>
      intro w x w' h
      cases v <;> simp only [Sem.run, Sem.bind] at * <;> first | (cases h; done) | skip
      all_goals
        split
        · rename_i v hv
          rw [hv] at h
          simp only at h
          split
          · rename_i hf; simp only [hf, if_true] at h; cases h
          · rename_i hf; simp only [hf] at h; exact ih h
        · rename_i hv
          rw [hv] at h
          split
          · rename_i v l hf; simp only [hf] at h; exact ih h
          · rename_i e hf; simp only [hf] at h; cases h
    | new o k ih => intro w x w' h; exact ih _ h
    | shape r k ih => intro w x w' h; exact ih _ h
    | freeze a n k ih => intro w x w' h; exact ih h
    | frozen a k ih => intro w x w' h; exact ih _ h
    | getObj r k ih =>
      intro w x w' h
      simp only [Sem.run, Sem.bind] at *
      split at h
      · cases h
      · exact ih _ h
      · cases h
    | setObj r o k ih =>
      intro w x w' h
      simp only [Sem.run, Sem.bind] at *
      split at h
      · cases h
      · exact ih h
      · cases h
    | choose q k ih =>
      intro w x w' h
      simp only [Sem.run, Sem.bind] at *
      split at h
      · rename_i hq; simp only [hq, if_true]; exact ih _ h
      · rename_i hq; simp only [hq]; exact ih _ h
    | sys c k ih => intro w x w' h; exact ih _ h
    | program k ih => intro w x w' h; exact ih _ h
    | mark m k ih => intro w x w' h; exact ih h
    | halt x => intro w x w' h; cases h
  exact this h
theorem callI_ok {f : Value} {name : String} {args : List Value} {K : Value → HPred} {H : Hp} (h : callI P f name args K H) :
    ∃ t v, f = .iface t v ∧ semM P (method (P.types.size + Made.depth) t v name) (fun p H' => HC P p.1 (p.2 :: args).toArray K H') H := by
  cases f <;> first | exact h.elim | exact ⟨_, _, rfl, h⟩
theorem nextOk_invoke {K : Value → List Deferred → HPred} {ds : List Deferred} {x : Value} {name : String} {args : List Value} {t : TypeId} {v : Value} {w : World} (hx : x = .iface t v)
    (h : semM P (method (P.types.size + Made.depth) t v name) (fun p H' => HC P p.1 (p.2 :: args).toArray (fun v => K v ds) H') w.heap) :
    NextOk P K ds (invoke (.fn (.method name) #[]) (#[x] ++ args.toArray)) w := by
  subst hx
  obtain ⟨p, w', hr, hk, hs⟩ := semM_sound _ h
  have he : (invoke (.fn (.method name) #[]) (#[Value.iface t v] ++ args.toArray)).run P w = (callFunc p.1 (p.2 :: args).toArray).run P w' := by
    have h1 : (#[Value.iface t v] ++ args.toArray)[0]? = some (.iface t v) := by simp
    have h2 : (#[Value.iface t v] ++ args.toArray).extract 1 (#[Value.iface t v] ++ args.toArray).size = args.toArray := by
      apply Array.ext'; simp
    unfold invoke
    simp only [h1, h2]
    unfold callMethod
    simp only [bindS]
    show (Sem.bind program _).run P w = _
    simp only [program, Sem.bind, Sem.run]
    rw [run_bindS _ _ _ hr]
    show (callFunc p.1 (#[p.2] ++ args.toArray)).run P w' = _
    congr 2
    apply Array.ext'; simp
  obtain ⟨n, w'', h1, h2, h3⟩ := nextOk_call hk
  exact ⟨n, w'', by rw [he]; exact h1, hs.trans h2, h3⟩
set_option maxHeartbeats 1000000 in
theorem actD_sound {ρ : Operand → Value} (hρ : ∀ f, ρ (.func f) = .func (.func f) #[] #[]) {o : Oper} {ds : List Deferred} {K : Value → List Deferred → HPred} {w : World}
    (h : actD P ρ o.type ds K o.op w.heap) : NextOk P K ds (execOp ρ o) w := by
  obtain ⟨dst, op, type, pos, after, guard⟩ := o
  simp only at h
  cases op <;> simp only [actD] at h <;> first | exact h.elim | skip
  case store t x v =>
    refine nextOk_skip (s := Instr.storeAt t (ρ x) (ρ v)) ?_
    cases hl : layT P t with
    | none => rw [hl] at h; exact h.elim
    | some p =>
      rw [hl] at h
      obtain ⟨b, n⟩ := p
      cases b with
      | true => exact storeAt_agg hl h
      | false =>
        match n, hl, h with
        | 0, _, h => exact h.elim
        | 1, hl, h => exact storeAt_one hl h
        | n + 2, _, h => exact h.elim
  case alloc t =>
    refine nextOk_val (s := Instr.alloc t true (.tuple #[])) ?_
    cases hz : (P.info? t).bind (·.zero) with
    | none => rw [hz] at h; exact h.elim
    | some z =>
      rw [hz] at h
      unfold Instr.alloc
      simp only [bindS, semM_bind, sem_zeroValue, hz, newVar, newRow, newObj, semM, pure]
      exact h
  case box t x =>
    refine nextOk_val (s := Instr.box t (ρ x)) ?_
    unfold Instr.box
    simp only [bindS, semM_bind, newVar, newRow, newObj, semM, pure]
    exact h
  case call c =>
    cases hcal : c.callee with
    | value f =>
      rw [hcal] at h
      obtain ⟨callee, args, argTypes⟩ := c
      simp only at hcal
      subst hcal
      show NextOk P K ds ((resolve ρ ⟨_, args, argTypes⟩ type).bind fun d => invoke d.target d.args) w
      unfold resolve
      rw [map_arr]
      have key : ∀ v, callV P v (args.toList.map ρ) (fun v => K v ds) w.heap → NextOk P K ds ((Deferred.ofValue v (args.toList.map ρ).toArray).bind fun d => invoke d.target d.args) w := by
        intro v hv
        obtain ⟨g, first, captured, rfl, hc⟩ := callV_ok hv
        have : ((Deferred.ofValue (.func (.func g) first captured) (args.toList.map ρ).toArray).bind fun d => invoke d.target d.args) = callFunc g (first.toList ++ args.toList.map ρ ++ captured.toList).toArray := by
          show callFunc g (first ++ (args.toList.map ρ).toArray ++ captured) = _
          congr 1
          apply Array.toList_inj.1; simp
        rw [this]
        exact nextOk_call hc
      refine key (ρ f) ?_
      cases f with
      | func g =>
        rw [hρ]
        show callF P g ([] ++ args.toList.map ρ ++ []) _ _
        simpa using h
      | _ => exact h
    | invoke recv name =>
      rw [hcal] at h
      obtain ⟨callee, args, argTypes⟩ := c
      simp only at hcal
      subst hcal
      obtain ⟨t, v, hrv, h⟩ := callI_ok h
      show NextOk P K ds ((resolve ρ ⟨_, args, argTypes⟩ type).bind fun d => invoke d.target d.args) w
      unfold resolve
      rw [map_arr]
      have he : (invoke (.fn (.method name) #[]) (#[ρ recv] ++ (args.toList.map ρ).toArray)) =
          ((method (P.types.size + Made.depth) t v name).bind fun p => callFunc p.1 (p.2 :: args.toList.map ρ).toArray) ∨ True := .inr trivial
      clear he
      show NextOk P K ds (invoke (.fn (.method name) #[]) (#[ρ recv] ++ (args.toList.map ρ).toArray)) w
      exact nextOk_invoke hrv h
    | builtin b =>
      rw [hcal] at h
      rw [builtin_eq hcal]
      exact nextOk_blt h
  case defer c =>
    obtain ⟨callee, args, argTypes⟩ := c
    cases callee with
    | value f =>
      cases f <;> first | exact h.elim | skip
      rename_i g
      refine nextOk_defer (d := { target := .fn (.func g) #[], args := (args.toList.map ρ).toArray }) ?_ h
      show ((resolve ρ ⟨_, args, argTypes⟩ type).bind fun d => pure (Next.defer d)) = _
      unfold resolve
      simp only [hρ, Deferred.ofValue, map_arr, pure, Sem.bind]
      congr 3
      apply Array.toList_inj.1; simp
    | invoke recv name => exact h.elim
    | builtin b => exact h.elim
  case convert src dst x => exact nextOk_val (s := convert src dst (ρ x)) h
  case buildSlice t len parts =>
    refine nextOk_val (s := Instr.buildSlice t len (parts.map fun (i, x) => (i, ρ x))) ?_
    rw [map_pairs]; exact h
  case makeMap t r => exact nextOk_val (s := Instr.makeMap t (r.map ρ)) h
  case makeSlice t l c => exact nextOk_val (s := Instr.makeSlice t (ρ l) (ρ c)) h
  case mapUpdate t m k x => exact nextOk_skip (s := Instr.mapUpdate t (ρ m) (ρ k) (ρ x)) h
  case insert t m k x => exact nextOk_skip (s := Instr.mapUpdate t (ρ m) (ρ k) (ρ x)) h
  case mapEntry t m k => exact nextOk_val (s := Instr.mapEntry t (ρ m) (ρ k)) h
  case entryStore t m s x => exact nextOk_skip (s := Instr.entryStore t (ρ m) (ρ s) (ρ x)) h
  case range t x => exact nextOk_val (s := Instr.range t (ρ x)) h
  case next it s => exact nextOk_val (s := Instr.next (ρ it) s type) h
  case entry it => exact nextOk_val (s := Instr.entry (ρ it)) h
theorem opD_sound {ρ : Operand → Value} (hρ : ∀ f, ρ (.func f) = .func (.func f) #[] #[]) {o : Oper} {ds : List Deferred} {K : Value → List Deferred → HPred} {w : World}
    (h : opD P ρ o.type ds K o.op w.heap) : NextOk P K ds (execOp ρ o) w := by
  unfold opD at h
  cases hc : cls P ρ o.type o.op with
  | same v => rw [hc] at h; exact cls_same hc h
  | val x =>
    rw [hc] at h
    obtain ⟨v, hx, hk⟩ := opt_ok h
    exact cls_val hc hx hk
  | get f =>
    rw [hc] at h
    obtain ⟨v, hx, hk⟩ := rd_ok h
    exact cls_get hc hx hk
  | act =>
    rw [hc] at h
    exact actD_sound hρ h

end Go.Sx
namespace Go.Sx
variable {P : Program}

/-- From this stack, these registers, this heap the frame comes to its return with Q. -/
def Run (P : Program) (n : Nat) (Q : Regs → List Deferred → HPred) (k : List Item) (r : Regs) (ds : List Deferred) : HPred := fun H =>
  ∀ (w : World) (tmps : Array Value) (b : Frame) (cs : List Frame), w.heap = H → Agree n tmps r →
    ∃ (a' : Act) (w' : World) (todo : List Item) (r' : Regs), Steps P (lone (b.at ⟨tmps, ds⟩ k) cs w) (lone { b.at a' todo with mode := .returning } cs w') ∧
      Agree n a'.tmps r' ∧ Same w w' ∧ Q r' a'.defers w'.heap

theorem Run.step {n : Nat} {Q : Regs → List Deferred → HPred} {k k' : List Item} {r : Regs} {ds : List Deferred} {H : Hp}
    (hs : ∀ (b : Frame) (tmps : Array Value) (cs : List Frame) (w : World), Agree n tmps r → step P (lone (b.at ⟨tmps, ds⟩ k) cs w) = .next (lone (b.at ⟨tmps, ds⟩ k') cs w))
    (h : Run P n Q k' r ds H) : Run P n Q k r ds H := by
  intro w tmps b cs hw ha
  obtain ⟨a', w', todo, r', h1, h2⟩ := h w tmps b cs hw ha
  exact ⟨a', w', todo, r', .head (hs b tmps cs w ha) h1, h2⟩
theorem Run.ret {n : Nat} {Q : Regs → List Deferred → HPred} {k : List Item} {r : Regs} {ds : List Deferred} {H : Hp} (h : Q r ds H) :
    Run P n Q (.code .ret :: k) r ds H := fun w tmps _ _ hw ha =>
  ⟨⟨tmps, ds⟩, w, _, r, .one step_ret, ha, .refl w, hw ▸ h⟩
theorem Run.done {n : Nat} {Q : Regs → List Deferred → HPred} {r : Regs} {ds : List Deferred} {H : Hp} (h : Q r ds H) :
    Run P n Q [] r ds H := fun w tmps _ _ hw ha =>
  ⟨⟨tmps, ds⟩, w, _, r, .one step_end, ha, .refl w, hw ▸ h⟩
/-- A piece that the kit's own wp has shown to end in order. -/
theorem Run.of_wp {n : Nat} {Q : Regs → List Deferred → HPred} {c : Code} {k : List Item} {r : Regs} {ds : List Deferred} {H : Hp}
    (h : ∀ (w : World) (a : Act), w.heap = H → Agree n a.tmps r → a.defers = ds →
      c.wp P (fun e a' w' => e = .normal ∧ ∃ r', Agree n a'.tmps r' ∧ Same w w' ∧ Run P n Q k r' a'.defers w'.heap) a w) : Run P n Q (.code c :: k) r ds H := by
  intro w tmps b cs hw ha
  obtain ⟨e, a1, w1, ⟨rfl, r1, hag, hs, hrun⟩, harr⟩ := h w ⟨tmps, ds⟩ hw ha rfl b k cs
  obtain ⟨a', w', todo, r', h1, h2, h3, h4⟩ := hrun w1 a1.tmps b cs rfl hag
  exact ⟨a', w', todo, r', Steps.trans harr h1, h2, hs.trans h3, h4⟩

/-! ## Regions -/

def wantR (ops : Array Oper) (o : Oper) (r : Regs) : Bool :=
  match o.guard with
  | none => true
  | some (j, want) => match (ops[j]?).bind (·.dst) with
    | some t => grdB (r t) want
    | none => false
theorem want_eq {n : Nat} {ops : Array Oper} {o : Oper} {tmps : Array Value} {r : Regs} (h : Agree n tmps r) : Region.wanted o (yielded ops tmps) = wantR ops o r := by
  unfold Region.wanted wantR
  cases o.guard with
  | none => rfl
  | some p =>
    obtain ⟨j, want⟩ := p
    simp only [h.yielded j, yieldR]
    cases (ops[j]?).bind (·.dst) with
    | none => rfl
    | some t =>
      simp only
      unfold grdB
      cases r t <;> simp
def isDefer : Op → Bool
  | .defer _ => true
  | _ => false
theorem opD_ds {ρ : Operand → Value} {ty : TypeId} {ds : List Deferred} {K : Value → List Deferred → HPred} {op : Op} (h : isDefer op = false) :
    opD P ρ ty ds K op = opD P ρ ty ds (fun v _ => K v ds) op := by
  unfold opD
  cases cls P ρ ty op with
  | same v => rfl
  | val o => rfl
  | get f => rfl
  | act => cases op <;> first | rfl | (simp [isDefer] at h)
/-- One operation of a region. -/
def opR (P : Program) (n : Nat) (ops : Array Oper) (i : Nat) (r : Regs) (ds : List Deferred) (K : Regs → List Deferred → HPred) : HPred :=
  match ops[i]? with
  | none => bot
  | some o => match dstOk n o.dst with
    | false => bot
    | true => match o.guard with
      | none => opD P (ev r) o.type ds (fun v ds' => K (put r o.dst v) ds') o.op
      | some (j, want) => match isDefer o.op, (ops[j]?).bind (·.dst) with
        | false, some t => grdK (r t) want (fun C => opD P (ev r) o.type ds (fun v _ => C v) o.op) (fun v => K (put r o.dst v) ds)
        | _, _ => bot
/-- In text order. -/
def regD (P : Program) (n : Nat) (ops : Array Oper) : List Nat → Regs → List Deferred → (Regs → List Deferred → HPred) → HPred
  | [], r, ds, K => K r ds
  | i :: l, r, ds, K => opR P n ops i r ds fun r' ds' => regD P n ops l r' ds' K

/-- What the kit's words are told of an operation: the act and the world behind it. -/
def KA (n : Nat) (w : World) (K : Regs → List Deferred → HPred) : Act → World → Prop := fun a' w' => ∃ r', Agree n a'.tmps r' ∧ Same w w' ∧ K r' a'.defers w'.heap

theorem ev_func (r : Regs) (f : FuncId) : ev r (.func f) = .func (.func f) #[] #[] := rfl
theorem upon_of_nextOk {n : Nat} {o : Oper} {a : Act} {r : Regs} {w : World} {K : Regs → List Deferred → HPred} {Q : Exit → Act → World → Prop} {s : Sem Next}
    (ha : Agree n a.tmps r) (hd : dstOk n o.dst = true) (h : NextOk P (fun v ds' => K (put r o.dst v) ds') a.defers s w) :
    o.upon P a (KA n w K) Q (s.run P w) := by
  obtain ⟨nx, w', hr, hs, hk⟩ := h
  rw [hr]
  cases nx <;> first | exact hk.elim | skip
  case value v => exact ⟨put r o.dst v, ha.put hd v, hs, by rw [Act.put_defers']; exact hk⟩
  case skip => exact ⟨put r o.dst undef, ha.put hd undef, hs, by rw [Act.put_defers']; exact hk⟩
  case defer d => exact ⟨put r o.dst undef, (show Agree n ({ a with defers := d :: a.defers } : Act).tmps r from ha).put hd undef, hs, by rw [Act.put_defers']; exact hk⟩
  case enter f args =>
    refine Calls.mono hk ?_
    rintro e w'' ⟨v, rfl, hk', hs'⟩
    exact ⟨put r o.dst v, ha.put hd v, hs.trans hs', by rw [Act.put_defers']; exact hk'⟩
theorem opR_sound {n : Nat} {ops : Array Oper} {i : Nat} {a : Act} {r : Regs} {w : World} {K : Regs → List Deferred → HPred} {Q : Exit → Act → World → Prop}
    (ha : Agree n a.tmps r) (h : opR P n ops i r a.defers K w.heap) : wpOp P ops Q i (KA n w K) a w := by
  unfold opR at h
  unfold wpOp
  cases ho : ops[i]? with
  | none => rw [ho] at h; exact h.elim
  | some o =>
    rw [ho] at h
    simp only at h
    cases hd : dstOk n o.dst with
    | false => rw [hd] at h; exact h.elim
    | true =>
      rw [hd] at h
      simp only [want_eq ha]
      simp only at h
      have hev : a.eval = ev r := ha.ev
      cases hg : o.guard with
      | none =>
        rw [hg] at h
        have hwant : wantR ops o r = true := by unfold wantR; rw [hg]
        rw [if_pos hwant]
        refine .inl ?_
        unfold Oper.wp
        rw [hev]
        exact upon_of_nextOk ha hd (opD_sound (ev_func r) h)
      | some p =>
        obtain ⟨j, want⟩ := p
        rw [hg] at h
        simp only at h
        cases hde : isDefer o.op with
        | true => rw [hde] at h; exact h.elim
        | false =>
          rw [hde] at h
          rcases ht : (ops[j]?).bind (·.dst) with _ | t
          · rw [ht] at h; exact h.elim
          · rw [ht] at h
            have hwant : wantR ops o r = grdB (r t) want := by unfold wantR; rw [hg]; simp only [ht]
            simp only [grdK] at h
            cases hb : grdB (r t) want with
            | false =>
              rw [hb] at h hwant
              rw [if_neg (by rw [hwant]; decide)]
              exact ⟨put r o.dst undef, ha.put hd undef, .refl w, by rw [Act.put_defers']; exact h⟩
            | true =>
              rw [hb] at h hwant
              rw [if_pos hwant]
              refine .inl ?_
              unfold Oper.wp
              rw [hev]
              refine upon_of_nextOk (P := P) (K := K) (Q := Q) ha hd (opD_sound (ev_func r) ?_)
              rw [opD_ds hde]
              exact h
theorem wpOp_KA {n : Nat} {ops : Array Oper} {Q : Exit → Act → World → Prop} {i : Nat} {a : Act} {w w0 : World} {K : Regs → List Deferred → HPred} {K' : Act → World → Prop}
    (hs : Same w0 w) (h : wpOp P ops Q i (KA n w K) a w) (hk : ∀ a' w', KA n w0 K a' w' → K' a' w') : wpOp P ops Q i K' a w :=
  wpOp_mono (fun a' w' ⟨r', h1, h2, h3⟩ => hk a' w' ⟨r', h1, hs.trans h2, h3⟩) h
theorem regD_sound {n : Nat} {ops : Array Oper} {K : Regs → List Deferred → HPred} {Q : Exit → Act → World → Prop} {w0 : World}
    (hQ : ∀ a w, KA n w0 K a w → Q .normal a w) : ∀ (l : List Nat) (r : Regs) (a : Act) (w : World), Agree n a.tmps r → Same w0 w →
    regD P n ops l r a.defers K w.heap → wpOps P ops Q l a w := by
  intro l
  induction l with
  | nil => intro r a w ha hs h; exact hQ a w ⟨r, ha, hs, h⟩
  | cons i l ih =>
    intro r a w ha hs h
    rw [wpOps_cons]
    exact wpOp_KA hs (opR_sound ha h) fun a' w' ⟨r', h1, h2, h3⟩ => ih r' a' w' h1 h2 h3
theorem Run.region {n : Nat} {Q K : Regs → List Deferred → HPred} {id : Nat} {ops : Array Oper} {k : List Item} {r : Regs} {ds : List Deferred} {H : Hp}
    (hk : ∀ r ds H, K r ds H → Run P n Q k r ds H) (h : regD P n ops (List.range ops.size) r ds K H) : Run P n Q (.code (.region id ops false) :: k) r ds H := by
  refine Run.of_wp fun w a hw ha hds => ?_
  subst hw hds
  exact wp_region (regD_sound (K := K) (w0 := w) (fun a' w' ⟨r', h1, h2, h3⟩ => ⟨rfl, r', h1, h2, hk _ _ _ h3⟩) _ r a w ha (.refl w) h)

end Go.Sx
namespace Go.Sx
variable {P : Program}

/-! ## Monotony -/
theorem opt_mono {o : Option Value} {K K' : Value → HPred} {H : Hp} (hk : ∀ v H, K v H → K' v H) (h : opt o K H) : opt o K' H := by
  cases o <;> first | exact h | exact hk _ _ h
theorem rd_mono {f : Hp → Option Value} {K K' : Value → HPred} {H : Hp} (hk : ∀ v H, K v H → K' v H) (h : rd f K H) : rd f K' H := by
  unfold rd at *; split <;> simp_all
theorem st_mono {x v : Value} {C C' : HPred} {H : Hp} (hk : ∀ H, C H → C' H) (h : st x v C H) : st x v C' H := by
  obtain ⟨a, c, rfl, ho, hc, hf, h⟩ := st_ok h
  simp only [st, ho, hc, hf]; exact hk _ h
theorem stL_mono {a : Addr} {C C' : HPred} (hk : ∀ H, C H → C' H) : ∀ (vs : List Value) (i : Nat) (H : Hp), stL a vs i C H → stL a vs i C' H
  | [], _, _, h => hk _ h
  | _ :: vs, i, _, h => st_mono (fun H h => stL_mono hk vs (i + 1) H h) h
theorem stA_mono {x v : Value} {n : Nat} {C C' : HPred} {H : Hp} (hk : ∀ H, C H → C' H) (h : stA x n v C H) : stA x n v C' H := by
  obtain ⟨a, cs, rfl, rfl, hs, h⟩ := stA_ok h
  have hb : Nat.beq cs.size n = true := by rw [hs]; exact Nat.beq_refl n
  simp only [stA, hb]; exact stL_mono hk _ _ _ h
theorem callV_mono {f : Value} {args : List Value} {K K' : Value → HPred} {H : Hp} (hk : ∀ v H, K v H → K' v H) (h : callV P f args K H) : callV P f args K' H := by
  obtain ⟨g, first, captured, rfl, h⟩ := callV_ok h
  exact HC.mono h hk
theorem actD_mono {ρ : Operand → Value} {ty : TypeId} {ds : List Deferred} {K K' : Value → List Deferred → HPred} (hk : ∀ v ds H, K v ds H → K' v ds H) {op : Op} {H : Hp}
    (h : actD P ρ ty ds K op H) : actD P ρ ty ds K' op H := by
  cases op <;> simp only [actD] at * <;> first | exact h.elim | skip
  case store t x v =>
    cases hl : layT P t with
    | none => rw [hl] at h; exact h.elim
    | some p =>
      rw [hl] at h
      obtain ⟨b, n⟩ := p
      cases b with
      | true => exact stA_mono (hk _ _) h
      | false =>
        match n, h with
        | 0, h => exact h.elim
        | 1, h => exact st_mono (hk _ _) h
        | n + 2, h => exact h.elim
  case alloc t =>
    cases hz : (P.info? t).bind (·.zero) with
    | none => rw [hz] at h; exact h.elim
    | some z => rw [hz] at h; exact hk _ _ _ h
  case box t x => exact hk _ _ _ h
  case call c =>
    cases hcal : c.callee with
    | value f =>
      rw [hcal] at h
      cases f with
      | func g => exact HC.mono h fun v H => hk v ds H
      | _ => exact callV_mono (fun v H => hk v ds H) h
    | invoke recv name =>
      rw [hcal] at h
      obtain ⟨t, v, hrv, h⟩ := callI_ok h
      show callI P (ρ recv) name _ _ H
      rw [hrv]
      exact semM_mono _ (fun p H h => HC.mono h fun v H => hk v ds H) h
    | builtin b => rw [hcal] at h; exact semM_mono _ (fun v H => hk v ds H) h
  case defer c =>
    cases hcal : c.callee with
    | value f =>
      rw [hcal] at h
      cases f with
      | func g => exact hk _ _ _ h
      | _ => exact h.elim
    | _ => rw [hcal] at h; exact h.elim
  all_goals exact semM_mono _ (fun _ H => hk _ ds H) h
theorem opD_mono {ρ : Operand → Value} {ty : TypeId} {ds : List Deferred} {K K' : Value → List Deferred → HPred} (hk : ∀ v ds H, K v ds H → K' v ds H) {op : Op} {H : Hp}
    (h : opD P ρ ty ds K op H) : opD P ρ ty ds K' op H := by
  unfold opD at *
  cases hc : cls P ρ ty op with
  | same v => rw [hc] at h; exact hk v ds H h
  | val o => rw [hc] at h; exact opt_mono (fun v H => hk v ds H) h
  | get f => rw [hc] at h; exact rd_mono (fun v H => hk v ds H) h
  | act => rw [hc] at h; exact actD_mono hk h
theorem grdK_mono {g : Value} {want : Bool} {A A' : (Value → HPred) → HPred} {K K' : Value → HPred} {H : Hp} (ha : A K H → A' K' H) (hk : ∀ v H, K v H → K' v H)
    (h : grdK g want A K H) : grdK g want A' K' H := by
  unfold grdK at *
  cases hb : grdB g want with
  | true => rw [hb] at h; exact ha h
  | false => rw [hb] at h; exact hk _ _ h
theorem opR_mono {n : Nat} {ops : Array Oper} {i : Nat} {r : Regs} {ds : List Deferred} {K K' : Regs → List Deferred → HPred} (hk : ∀ r ds H, K r ds H → K' r ds H) {H : Hp}
    (h : opR P n ops i r ds K H) : opR P n ops i r ds K' H := by
  unfold opR at *
  cases ho : ops[i]? with
  | none => rw [ho] at h; exact h.elim
  | some o =>
    rw [ho] at h
    simp only at h ⊢
    cases hd : dstOk n o.dst with
    | false => rw [hd] at h; exact h.elim
    | true =>
      rw [hd] at h
      simp only at h ⊢
      cases hg : o.guard with
      | none => rw [hg] at h; exact opD_mono (fun v ds H => hk _ ds H) h
      | some p =>
        obtain ⟨j, want⟩ := p
        rw [hg] at h
        simp only at h ⊢
        cases hde : isDefer o.op with
        | true => rw [hde] at h; exact h.elim
        | false =>
          rw [hde] at h
          rcases ht : (ops[j]?).bind (·.dst) with _ | t
          · rw [ht] at h; exact h.elim
          · rw [ht] at h
            exact grdK_mono (fun h => opD_mono (fun v _ H => hk _ ds H) h) (fun v H => hk _ ds H) h

/-! ## Every order -/
/-- Does the operation leave the heap as it is? -/
def quiet (P : Program) (ops : Array Oper) (i : Nat) : Bool := match ops[i]? with
  | some o => match cls P (fun _ => undef) o.type o.op with
    | .act => false
    | _ => true
  | none => false
def mon (P : Program) (ops : Array Oper) (J : List (List Nat × HPred)) (i : Nat) (H : Hp) : Prop := quiet P ops i = false → ∀ m ∈ J, i ∉ m.1 → m.2 H
def rAny (P : Program) (n : Nat) (ops : Array Oper) (K : Regs → List Deferred → HPred) (J : List (List Nat × HPred)) : Nat → Array Bool → Regs → List Deferred → HPred
  | 0, listed, r, ds => fun H => Region.ready .any ops listed = [] ∧ K r ds H
  | f + 1, listed, r, ds => fun H => (Region.ready .any ops listed = [] → K r ds H) ∧
      ∀ i ∈ Region.ready .any ops listed, opR P n ops i r ds (fun r' ds' H' => mon P ops J i H' ∧ rAny P n ops K J f (listed.setIfInBounds i true) r' ds' H') H
theorem rAny_sound {n : Nat} {ops : Array Oper} {K : Regs → List Deferred → HPred} {Q : Exit → Act → World → Prop} {w0 : World}
    (hQ : ∀ a w, KA n w0 K a w → Q .normal a w) : ∀ (f : Nat) (listed : Array Bool) (r : Regs) (a : Act) (w : World), Agree n a.tmps r → Same w0 w →
    rAny P n ops K [] f listed r a.defers w.heap → wpAny P .any ops Q f listed a w := by
  intro f
  induction f with
  | zero => intro listed r a w ha hs h; exact ⟨h.1, hQ a w ⟨r, ha, hs, h.2⟩⟩
  | succ f ih =>
    intro listed r a w ha hs h
    refine ⟨fun h0 => hQ a w ⟨r, ha, hs, h.1 h0⟩, fun i hi => ?_⟩
    exact wpOp_KA hs (opR_sound ha (h.2 i hi)) fun a' w' ⟨r', h1, h2, h3⟩ => ih _ r' a' w' h1 h2 h3.2
theorem Run.regionDraw {n : Nat} {Q K : Regs → List Deferred → HPred} {id : Nat} {ops : Array Oper} {k : List Item} {r : Regs} {ds : List Deferred} {H : Hp}
    (hm : P.follows .mixedOrders = true) (hk : ∀ r ds H, K r ds H → Run P n Q k r ds H)
    (h : rAny P n ops K [] ops.size (Array.replicate ops.size false) r ds H) : Run P n Q (.code (.region id ops true) :: k) r ds H := by
  refine Run.of_wp fun w a hw ha hds => ?_
  subst hw hds
  exact wp_region_any hm (rAny_sound (K := K) (w0 := w) (fun a' w' ⟨r', h1, h2, h3⟩ => ⟨rfl, r', h1, h2, hk _ _ _ h3⟩) _ _ r a _ ha ⟨rfl, rfl, rfl⟩ h)

/-! ## What an operation looks at -/
theorem maps_congr {ρ ρ' : Operand → Value} {l : Array Operand} (h : ∀ x ∈ l, ρ x = ρ' x) : l.toList.map ρ = l.toList.map ρ' :=
  List.map_congr_left fun x hx => h x (by simpa using hx)
theorem pairs_congr {ρ ρ' : Operand → Value} {ps : Array (Nat × Operand)} (h : ∀ x ∈ (ps.toList.map (·.2)).toArray, ρ x = ρ' x) :
    (ps.toList.map fun (i, x) => (i, ρ x)) = ps.toList.map fun (i, x) => (i, ρ' x) :=
  List.map_congr_left fun p hp => by
    obtain ⟨i, x⟩ := p
    have := h x (by simp; exact ⟨i, by simpa using hp⟩)
    simp only [this]
theorem optM_congr {ρ ρ' : Operand → Value} {o : Option Operand} (h : ∀ x, o = some x → ρ x = ρ' x) : o.map ρ = o.map ρ' := by
  cases o with
  | none => rfl
  | some x => simp [h x rfl]
theorem cls_congr {ρ ρ' : Operand → Value} {ty : TypeId} {op : Op} (h : ∀ x ∈ op.operands, ρ x = ρ' x) : cls P ρ ty op = cls P ρ' ty op := by
  cases op <;> simp only [Op.operands] at h <;> simp only [cls]
  case build t ps => rw [pairs_congr h]
  case makeFunc fn first captured =>
    rw [maps_congr (l := first) fun x hx => h x (by simp [hx]), maps_congr (l := captured) fun x hx => h x (by simp [hx])]
  case slice t x lo hi mx =>
    rw [h x (by simp), optM_congr (o := lo) fun y hy => h y (by simp [hy]), optM_congr (o := hi) fun y hy => h y (by simp [hy]),
      optM_congr (o := mx) fun y hy => h y (by simp [hy])]
  case call c =>
    have : c.args.toList.map ρ = c.args.toList.map ρ' := maps_congr fun x hx => h x (by simp [Call.operands, hx])
    rw [this]
  all_goals (first | rfl | (simp_all; done))
theorem actD_congr {ρ ρ' : Operand → Value} {ty : TypeId} {ds : List Deferred} {K : Value → List Deferred → HPred} {op : Op} (h : ∀ x ∈ op.operands, ρ x = ρ' x) :
    actD P ρ ty ds K op = actD P ρ' ty ds K op := by
  cases op <;> simp only [Op.operands] at h <;> simp only [actD]
  case buildSlice t n ps => rw [pairs_congr h]
  case makeMap t r => rw [optM_congr (o := r) fun y hy => h y (by subst hy; simp)]
  case call c =>
    have : c.args.toList.map ρ = c.args.toList.map ρ' := maps_congr fun x hx => h x (by simp [Call.operands, hx])
    rw [this]
    cases hc : c.callee with
    | value f =>
      have hf : ρ f = ρ' f := h f (by simp [Call.operands, hc])
      cases f with
      | func g => rfl
      | _ => simp only [hf]
    | invoke recv name => have hf : ρ recv = ρ' recv := h recv (by simp [Call.operands, hc]); simp only [hf]
    | builtin b => rfl
  case defer c =>
    have : c.args.toList.map ρ = c.args.toList.map ρ' := maps_congr fun x hx => h x (by simp [Call.operands, hx])
    rw [this]
  all_goals (first | rfl | (simp_all; done))
theorem ev_put {r : Regs} {d : Option Tmp} {v : Value} {x : Operand} (h : ∀ t, d = some t → x ≠ .tmp t) : ev (put r d v) x = ev r x := by
  cases d with
  | none => rfl
  | some d =>
    cases x with
    | tmp t =>
      have hb : Nat.beq t d = false := by
        cases hb : Nat.beq t d
        · rfl
        · exact absurd (by rw [Nat.eq_of_beq_eq_true hb]) (h d rfl)
      simp only [ev, put, hb]
    | _ => rfl
theorem put_comm (r : Regs) {x y : Option Tmp} (v u : Value) (h : ∀ d, x = some d → y ≠ some d) : put (put r x v) y u = put (put r y u) x v := by
  cases x with
  | none => rfl
  | some d =>
    cases y with
    | none => rfl
    | some e =>
      funext i
      simp only [put]
      cases h1 : Nat.beq i e <;> cases h2 : Nat.beq i d <;> simp only
      exact absurd (by rw [← Nat.eq_of_beq_eq_true h1, ← Nat.eq_of_beq_eq_true h2]) (h d rfl)
theorem opD_put {ops : Array Oper} {o : Oper} {r : Regs} {d : Option Tmp} {v : Value} {ty : TypeId} {ds : List Deferred} {K : Value → List Deferred → HPred}
    (h : ∀ t, d = some t → t ∉ o.looksAt ops) : opD P (ev (put r d v)) ty ds K o.op = opD P (ev r) ty ds K o.op := by
  have hx : ∀ x ∈ o.op.operands, ev (put r d v) x = ev r x := fun x hx => ev_put fun t ht hxt => h t ht (by
    subst hxt
    exact List.mem_append_left _ (List.mem_filterMap.2 ⟨.tmp t, by simpa using hx, rfl⟩))
  unfold opD
  rw [cls_congr hx, actD_congr hx]
theorem guard_put {ops : Array Oper} {o : Oper} {r : Regs} {d : Option Tmp} {v : Value} {j : Nat} {want : Bool} {t : Tmp} (hg : o.guard = some (j, want)) (ht : (ops[j]?).bind (·.dst) = some t)
    (h : ∀ t, d = some t → t ∉ o.looksAt ops) : put r d v t = r t := by
  cases d with
  | none => rfl
  | some d =>
    have hb : Nat.beq t d = false := by
      cases hb : Nat.beq t d
      · rfl
      · exact absurd (by rw [← Nat.eq_of_beq_eq_true hb]; simp [Oper.looksAt, hg, ht]) (h d rfl)
    simp only [put, hb]
/-- An operation over registers that have one more value: the value may be put behind it. -/
theorem opR_put {n : Nat} {ops : Array Oper} {j : Nat} {oi oj : Oper} {v : Value} (hj : ops[j]? = some oj) (hap : oi.apart ops oj = true)
    {K : Regs → List Deferred → HPred} {r : Regs} {ds : List Deferred} {H : Hp} (h : opR P n ops j (put r oi.dst v) ds K H) :
    opR P n ops j r ds (fun r' ds' H' => (∃ u, r' = put r oj.dst u) ∧ K (put r' oi.dst v) ds' H') H := by
  obtain ⟨h1, h2, h3⟩ := Oper.apart_spec hap
  unfold opR at *
  rw [hj] at h ⊢
  simp only at h ⊢
  cases hd : dstOk n oj.dst with
  | false => rw [hd] at h; exact h.elim
  | true =>
    rw [hd] at h
    simp only at h ⊢
    cases hg : oj.guard with
    | none =>
      rw [hg] at h
      simp only at h ⊢
      rw [opD_put h1] at h
      refine opD_mono (fun u ds' H' hk => ⟨⟨u, rfl⟩, ?_⟩) h
      rw [← put_comm r v u h2]; exact hk
    | some p =>
      obtain ⟨g, want⟩ := p
      rw [hg] at h
      simp only at h ⊢
      cases hde : isDefer oj.op with
      | true => rw [hde] at h; exact h.elim
      | false =>
        rw [hde] at h
        rcases ht : (ops[g]?).bind (·.dst) with _ | t
        · rw [ht] at h; exact h.elim
        · rw [ht] at h
          simp only at h ⊢
          rw [guard_put hg ht h1] at h
          refine grdK_mono (fun h => ?_) (fun u H' hk => ⟨⟨u, rfl⟩, by rw [← put_comm r v u h2]; exact hk⟩) h
          rw [opD_put h1] at h
          refine opD_mono (fun u _ H' hk => ⟨⟨u, rfl⟩, ?_⟩) h
          rw [← put_comm r v u h2]; exact hk

/-! ## A quiet operation first -/
/-- Done at these registers the operation yields v wherever I holds. -/
def Yld (P : Program) (n : Nat) (ops : Array Oper) (i : Nat) (oi : Oper) (v : Value) (I : HPred) (r : Regs) : Prop :=
  ∀ (ds : List Deferred) (K : Regs → List Deferred → HPred) (H : Hp), I H → K (put r oi.dst v) ds H → opR P n ops i r ds K H
theorem Yld.keep {n : Nat} {ops : Array Oper} {i : Nat} {oi oj : Oper} {v u : Value} {I : HPred} {r : Regs} (hi : ops[i]? = some oi) (hap : oi.apart ops oj = true)
    (h : Yld P n ops i oi v I r) : Yld P n ops i oi v I (put r oj.dst u) := by
  obtain ⟨_, h2, h3⟩ := Oper.apart_spec hap
  intro ds K H hI hk
  have := h ds (fun r' ds' => K (put r' oj.dst u) ds') H hI (by rw [put_comm r v u h2]; exact hk)
  unfold opR at this ⊢
  rw [hi] at this ⊢
  simp only at this ⊢
  cases hd : dstOk n oi.dst with
  | false => rw [hd] at this; exact this.elim
  | true =>
    rw [hd] at this
    simp only at this ⊢
    cases hg : oi.guard with
    | none =>
      rw [hg] at this
      simp only at this ⊢
      rw [opD_put h3]
      refine opD_mono (fun x ds' H' hk' => ?_) this
      rw [← put_comm r x u h2]; exact hk'
    | some p =>
      obtain ⟨g, want⟩ := p
      rw [hg] at this
      simp only at this ⊢
      cases hde : isDefer oi.op with
      | true => rw [hde] at this; exact this.elim
      | false =>
        rw [hde] at this
        rcases ht : (ops[g]?).bind (·.dst) with _ | t
        · rw [ht] at this; exact this.elim
        · rw [ht] at this
          simp only at this ⊢
          rw [guard_put hg ht h3]
          refine grdK_mono (fun h => ?_) (fun x H' hk' => by rw [← put_comm r x u h2]; exact hk') this
          rw [opD_put h3]
          refine opD_mono (fun x _ H' hk' => ?_) h
          show K (put (put r oj.dst u) oi.dst x) ds H'
          rw [← put_comm r x u h2]; exact hk'
/-- All that a listed operation stands behind is listed. -/
def ClosedL (ops : Array Oper) (listed : Array Bool) : Prop :=
  ∀ (k : Nat) (ok : Oper), ops[k]? = some ok → listed.getD k false = true → ∀ e ∈ ok.after, Region.binds .any e = true → listed.getD e.on false = true
theorem ClosedL.push {ops : Array Oper} {listed : Array Bool} (h : ClosedL ops listed) {j : Nat} (hj : j ∈ Region.ready .any ops listed) : ClosedL ops (listed.setIfInBounds j true) := by
  obtain ⟨_, oj, hoj, hall⟩ := mem_ready.1 hj
  intro k ok hk hl e he hb
  by_cases hjk : j = k
  · subst hjk
    rw [hoj] at hk
    cases hk
    exact getD_set_true (hall e he hb)
  · rw [getD_set_ne false hjk] at hl
    exact getD_set_true (h k ok hk hl e he hb)
/-- D: some of what stands behind i. -/
def descOk (ops : Array Oper) (i : Nat) (D : List Nat) : Bool :=
  D.all fun j => match ops[j]? with
    | some oj => oj.after.toList.any fun e => Region.binds .any e && (Nat.beq e.on i || (D.any (Nat.beq e.on) && Nat.blt e.on j))
    | none => false
theorem desc_listed {ops : Array Oper} {i : Nat} {D : List Nat} {listed : Array Bool} (hd : descOk ops i D = true) (hc : ClosedL ops listed) :
    ∀ (j : Nat) (oj : Oper), j ∈ D → ops[j]? = some oj → (∀ e ∈ oj.after, Region.binds .any e = true → listed.getD e.on false = true) → listed.getD i false = true := by
  intro j
  induction j using Nat.strongRecOn with
  | _ j ih =>
    intro oj hj hoj hall
    have h1 := List.all_eq_true.1 hd j hj
    simp only [hoj] at h1
    obtain ⟨e, he, h2⟩ := List.any_eq_true.1 h1
    simp only [Bool.and_eq_true, Bool.or_eq_true] at h2
    obtain ⟨hb, h3⟩ := h2
    have hl := hall e (by simpa using he) hb
    rcases h3 with h3 | ⟨h3, h4⟩
    · rw [← Nat.eq_of_beq_eq_true h3]; exact hl
    · obtain ⟨d, hdm, hde⟩ := List.any_eq_true.1 h3
      have hed : e.on ∈ D := by rw [Nat.eq_of_beq_eq_true hde]; exact hdm
      have hlt : e.on < j := by simpa [Nat.blt_eq] using h4
      cases hoe : ops[e.on]? with
      | none =>
        have h5 := List.all_eq_true.1 hd e.on hed
        simp [hoe] at h5
      | some oe => exact ih e.on hlt oe hed hoe (hc e.on oe hoe hl)
theorem listed_false {listed : Array Bool} {i : Nat} (h : listed.getD i true = false) : listed.getD i false = false := by
  rcases Nat.lt_or_ge i listed.size with h' | h'
  · simp [h'] at h ⊢; exact h
  · simp [Array.getElem?_eq_none h'] at h
theorem cls_act {ρ ρ' : Operand → Value} {ty : TypeId} {op : Op} (h : cls P ρ ty op = .act) : cls P ρ' ty op = .act := by
  cases op <;> simp only [cls] at h ⊢ <;> first | (cases h; done) | skip
  case load t x => split at h <;> cases h
  case fieldAddr s x f =>
    split at h
    · split at h
      · split at h
        · split at h <;> cases h
        · cases h
      · cases h
    · cases h
  case indexAddr t x i =>
    split at h
    · split at h <;> cases h
    · split at h <;> cases h
    · cases h
  case binOp op t x y yt => split at h <;> cases h
  case convert src dst x =>
    split at h
    · cases h
    · rfl
  case call c =>
    split at h
    · rename_i b hb
      split at h
      · split at h <;> cases h
      · rfl
    · rfl
theorem quiet_same {n : Nat} {ops : Array Oper} {j : Nat} (hq : quiet P ops j = true) {K : Regs → List Deferred → HPred} {r : Regs} {ds : List Deferred} {H : Hp}
    (h : opR P n ops j r ds K H) : opR P n ops j r ds (fun r' ds' H' => H' = H ∧ K r' ds' H') H := by
  unfold quiet at hq
  unfold opR at *
  cases ho : ops[j]? with
  | none => rw [ho] at h; exact h.elim
  | some o =>
    rw [ho] at h hq
    simp only at h hq ⊢
    have key : ∀ {K : Value → List Deferred → HPred} {ds : List Deferred}, opD P (ev r) o.type ds K o.op H → opD P (ev r) o.type ds (fun v ds' H' => H' = H ∧ K v ds' H') o.op H := by
      intro K ds h
      unfold opD at *
      cases hc : cls P (ev r) o.type o.op with
      | same v => rw [hc] at h; exact ⟨rfl, h⟩
      | val x =>
        rw [hc] at h
        obtain ⟨v, rfl, hk⟩ := opt_ok h
        exact ⟨rfl, hk⟩
      | get f =>
        rw [hc] at h
        obtain ⟨v, hf, hk⟩ := rd_ok h
        simp only [rd, hf]
        exact ⟨trivial, hk⟩
      | act =>
        rw [cls_act hc] at hq
        cases hq
    cases hd : dstOk n o.dst with
    | false => rw [hd] at h; exact h.elim
    | true =>
      rw [hd] at h
      simp only at h ⊢
      cases hg : o.guard with
      | none => rw [hg] at h; exact key h
      | some p =>
        obtain ⟨g, want⟩ := p
        rw [hg] at h
        simp only at h ⊢
        cases hde : isDefer o.op with
        | true => rw [hde] at h; exact h.elim
        | false =>
          rw [hde] at h
          rcases ht : (ops[g]?).bind (·.dst) with _ | t
          · rw [ht] at h; exact h.elim
          · rw [ht] at h
            simp only [grdK] at h ⊢
            cases hb : grdB (r t) want with
            | false => rw [hb] at h; exact ⟨rfl, h⟩
            | true => rw [hb] at h; exact key h
theorem drop {n : Nat} {ops : Array Oper} {K : Regs → List Deferred → HPred} {m : List Nat × HPred} {J : List (List Nat × HPred)} : ∀ {f : Nat} {listed : Array Bool} {r : Regs} {ds : List Deferred} {H : Hp},
    rAny P n ops K (m :: J) f listed r ds H → rAny P n ops K J f listed r ds H := by
  intro f
  induction f with
  | zero => intro listed r ds H h; exact h
  | succ f ih =>
    intro listed r ds H h
    refine ⟨h.1, fun i hi => opR_mono (fun r' ds' H' h' => ⟨fun hq x hx => h'.1 hq x (List.mem_cons_of_mem _ hx), ih h'.2⟩) (h.2 i hi)⟩
theorem rAny_add {n : Nat} {ops : Array Oper} {K : Regs → List Deferred → HPred} {D : List Nat} {I : HPred} {J : List (List Nat × HPred)} (hI : ∀ H, I H) : ∀ {f : Nat} {listed : Array Bool} {r : Regs} {ds : List Deferred} {H : Hp},
    rAny P n ops K J f listed r ds H → rAny P n ops K ((D, I) :: J) f listed r ds H := by
  intro f
  induction f with
  | zero => intro listed r ds H h; exact h
  | succ f ih =>
    intro listed r ds H h
    refine ⟨h.1, fun i hi => opR_mono (fun r' ds' H' h' => ⟨fun hq x hx hn => ?_, ih h'.2⟩) (h.2 i hi)⟩
    rcases List.mem_cons.1 hx with rfl | hx
    · exact hI _
    · exact h'.1 hq x hx hn
/-- One quiet operation may be taken first: behind each other operation that can come ahead of it its I is asked. -/
theorem rAny_take {n : Nat} {ops : Array Oper} {K : Regs → List Deferred → HPred} {J : List (List Nat × HPred)} {i : Nat} {oi : Oper} {v : Value} {I : HPred} {D : List Nat}
    (hi : ops[i]? = some oi) (hq : quiet P ops i = true) (hD : descOk ops i D = true) :
    ∀ (f : Nat) (listed : Array Bool) (r : Regs) (ds : List Deferred) (H : Hp), ClosedL ops listed →
      (∀ j oj, ops[j]? = some oj → j ≠ i → listed.getD j true = false → (∀ e ∈ oj.after, Region.binds .any e = true → e.on ≠ i) → oi.apart ops oj = true) →
      i ∈ Region.ready .any ops listed → Yld P n ops i oi v I r → I H →
      rAny P n ops K ((D, I) :: J) f (listed.setIfInBounds i true) (put r oi.dst v) ds H → rAny P n ops K J (f + 1) listed r ds H := by
  have hmi : ∀ H, mon P ops J i H := fun H h => by rw [hq] at h; cases h
  intro f
  induction f with
  | zero =>
    intro listed r ds H _ _ hr hy hI h
    refine ⟨fun h0 => (by rw [h0] at hr; cases hr), fun j hj => ?_⟩
    by_cases hji : j = i
    · subst hji
      exact hy ds _ H hI ⟨hmi H, h.1, h.2⟩
    · have := ready_mono hj hji
      rw [h.1] at this
      cases this
  | succ f ih =>
    intro listed r ds H hcl hfree hr hy hI h
    refine ⟨fun h0 => (by rw [h0] at hr; cases hr), fun j hj => ?_⟩
    by_cases hji : j = i
    · subst hji
      exact hy ds _ H hI ⟨hmi H, drop h⟩
    · have h1 := h.2 j (ready_mono hj hji)
      obtain ⟨hjun, oj, hoj, hall⟩ := mem_ready.1 hj
      have hiun := (mem_ready.1 hr).1
      have hnot : ∀ e ∈ oj.after, Region.binds .any e = true → e.on ≠ i := fun e he hb heq => by
        have h2 := hall e he hb
        rw [heq, listed_false hiun] at h2
        cases h2
      have hjD : j ∉ D := fun hm => by
        have h2 := desc_listed hD hcl j oj hm hoj hall
        rw [listed_false hiun] at h2
        cases h2
      have hap := hfree j oj hoj hji hjun hnot
      have hfree' : ∀ k ok, ops[k]? = some ok → k ≠ i → (listed.setIfInBounds j true).getD k true = false →
          (∀ e ∈ ok.after, Region.binds .any e = true → e.on ≠ i) → oi.apart ops ok = true := fun k ok hk hki hun hno => by
        refine hfree k ok hk hki ?_ hno
        by_cases hjk : j = k
        · subst hjk; exact hjun
        · rw [getD_set_ne true hjk] at hun; exact hun
      cases hqj : quiet P ops j with
      | false =>
        refine opR_mono (fun r' ds' H' h3 => ?_) (opR_put hoj hap h1)
        obtain ⟨⟨u, rfl⟩, hmon, h4⟩ := h3
        have hI' : I H' := hmon hqj (D, I) List.mem_cons_self hjD
        refine ⟨fun hq m hm => hmon hq m (List.mem_cons_of_mem _ hm), ?_⟩
        refine ih (listed.setIfInBounds j true) _ ds' H' (hcl.push hj) hfree' (ready_mono hr (Ne.symm hji)) (hy.keep hi hap) hI' ?_
        rw [Array.setIfInBounds_comm _ _ hji]; exact h4
      | true =>
        refine opR_mono (fun r' ds' H' h3 => ?_) (quiet_same hqj (opR_put hoj hap h1))
        obtain ⟨rfl, ⟨u, rfl⟩, _, h4⟩ := h3
        refine ⟨fun hq => (by rw [hqj] at hq; cases hq), ?_⟩
        refine ih (listed.setIfInBounds j true) _ ds' H' (hcl.push hj) hfree' (ready_mono hr (Ne.symm hji)) (hy.keep hi hap) hI ?_
        rw [Array.setIfInBounds_comm _ _ hji]; exact h4

def frk (A B : HPred) : HPred := fun H => A H ∧ B H
/-! ## A plan of a region -/
def maskArr (k m : Nat) : Array Bool := ((List.range k).map (Nat.testBit m)).toArray
theorem maskArr_getD (k m i : Nat) (d : Bool) : (maskArr k m).getD i d = if i < k then Nat.testBit m i else d := by
  unfold maskArr
  simp only [Array.getD_eq_getD_getElem?, List.getElem?_toArray, List.getElem?_map]
  split <;> simp [*]
theorem maskArr_zero (k : Nat) : Array.replicate k false = maskArr k 0 := by
  apply Array.ext <;> simp [maskArr]
theorem maskArr_set {k m i : Nat} : (maskArr k m).setIfInBounds i true = maskArr k (m ||| 1 <<< i) := by
  apply Array.ext'
  simp only [maskArr, Array.toList_setIfInBounds]
  apply List.ext_getElem
  · simp
  · intro j h1 h2
    simp only [List.getElem_set, List.getElem_map, List.getElem_range, Nat.testBit_or, Nat.testBit_shiftLeft]
    by_cases hij : i = j
    · subst hij; simp
    · have : ¬ (j ≥ i ∧ Nat.testBit 1 (j - i) = true) := by
        rintro ⟨ha, hb⟩
        have : j - i = 0 := by
          rcases Nat.eq_zero_or_pos (j - i) with h | h
          · exact h
          · rw [Nat.testBit_one_eq_true_iff_self_eq_zero] at hb; exact hb
        omega
      simp [hij]
      intro ha hb
      exact absurd ⟨ha, hb⟩ this
def rdyM (ops : Array Oper) (m i : Nat) : Bool := match ops[i]? with
  | some o => !Nat.testBit m i && o.after.toList.all fun e => !Region.binds .any e || (Nat.blt e.on ops.size && Nat.testBit m e.on)
  | none => false
theorem mem_ready_mask {ops : Array Oper} {m i : Nat} : i ∈ Region.ready .any ops (maskArr ops.size m) ↔ rdyM ops m i = true := by
  rw [mem_ready]
  unfold rdyM
  cases ho : ops[i]? with
  | none => simp
  | some o =>
    have hlt : i < ops.size := (Array.getElem?_eq_some_iff.1 ho).1
    simp only [maskArr_getD, hlt, if_true, Option.some.injEq, exists_eq_left', Bool.and_eq_true, Bool.not_eq_true', List.all_eq_true, Array.mem_toList_iff, Bool.or_eq_true]
    constructor
    · rintro ⟨h0, h⟩
      refine ⟨h0, fun e he => ?_⟩
      cases hb : Region.binds .any e
      · exact .inl rfl
      · have := h e he hb
        split at this
        · rename_i hl; exact .inr ⟨by simpa [Nat.blt_eq] using hl, this⟩
        · cases this
    · rintro ⟨h0, h⟩
      refine ⟨h0, fun e he hb => ?_⟩
      rcases h e he with h | h
      · rw [hb] at h; cases h
      · have hl : e.on < ops.size := by simpa [Nat.blt_eq] using h.1
        simp [hl, h.2]
def readyM (ops : Array Oper) (m : Nat) : List Nat := (List.range ops.size).filter (rdyM ops m)
theorem ready_mask {ops : Array Oper} {m : Nat} {i : Nat} (h : i ∈ Region.ready .any ops (maskArr ops.size m)) : i ∈ readyM ops m := by
  have h1 := mem_ready_mask.1 h
  refine List.mem_filter.2 ⟨List.mem_range.2 ?_, h1⟩
  obtain ⟨_, o, ho, _⟩ := mem_ready.1 h
  exact (Array.getElem?_eq_some_iff.1 ho).1
def freeM (ops : Array Oper) (m i : Nat) : Bool := match ops[i]? with
  | some oi => (List.range ops.size).all fun j => Nat.beq j i || Nat.testBit m j || match ops[j]? with
    | some oj => oj.after.toList.any (fun e => Region.binds .any e && Nat.beq e.on i) || oi.apart ops oj
    | none => true
  | none => false
theorem freeM_spec {ops : Array Oper} {m i : Nat} {oi : Oper} (hi : ops[i]? = some oi) (h : freeM ops m i = true) (j : Nat) (oj : Oper) (hj : ops[j]? = some oj) (hne : j ≠ i)
    (hun : (maskArr ops.size m).getD j true = false) (hno : ∀ e ∈ oj.after, Region.binds .any e = true → e.on ≠ i) : oi.apart ops oj = true := by
  have hlt : j < ops.size := (Array.getElem?_eq_some_iff.1 hj).1
  unfold freeM at h
  rw [hi] at h
  have h1 := List.all_eq_true.1 h j (List.mem_range.2 hlt)
  rw [maskArr_getD, if_pos hlt] at hun
  have hb : Nat.beq j i = false := by
    cases hb : Nat.beq j i
    · rfl
    · exact absurd (Nat.eq_of_beq_eq_true hb) hne
  simp only [hb, hun, hj, Bool.false_or, Bool.or_eq_true] at h1
  rcases h1 with h1 | h1
  · obtain ⟨e, he, h2⟩ := List.any_eq_true.1 h1
    simp only [Bool.and_eq_true] at h2
    exact absurd (Nat.eq_of_beq_eq_true h2.2) (hno e (by simpa using he) h2.1)
  · exact h1

/-- In which order the operations are taken; with each one that reads, some of what stands behind it. -/
inductive Plan where
  | done
  | step (i : Nat) (D : List Nat) (p : Plan)
  | act (i : Nat) (p : Plan)
  | fork (i : Nat) (p : Plan) (j : Nat) (q : Plan)
def Plan.depth : Plan → Nat
  | .done => 0
  | .step _ _ p => p.depth + 1
  | .act _ p => p.depth + 1
  | .fork _ p _ q => Nat.max p.depth q.depth + 1
def chkJ : List (List Nat × HPred) → Nat → HPred → HPred
  | [], _, C => C
  | (D, I) :: J, i, C => match D.any (Nat.beq i) with
    | true => chkJ J i C
    | false => chk I (chkJ J i C)
theorem chkJ_ok {i : Nat} {C : HPred} {H : Hp} : ∀ {J : List (List Nat × HPred)}, chkJ J i C H → (∀ m ∈ J, i ∉ m.1 → m.2 H) ∧ C H
  | [], h => ⟨fun _ hm => (by cases hm), h⟩
  | (D, I) :: J, h => by
    simp only [chkJ] at h
    cases hd : D.any (Nat.beq i) with
    | true =>
      rw [hd] at h
      obtain ⟨h1, h2⟩ := chkJ_ok h
      refine ⟨fun m hm hn => ?_, h2⟩
      rcases List.mem_cons.1 hm with rfl | hm
      · obtain ⟨x, hx, hb⟩ := List.any_eq_true.1 hd
        exact absurd (by rw [Nat.eq_of_beq_eq_true hb]; exact hx) hn
      · exact h1 m hm hn
    | false =>
      rw [hd] at h
      obtain ⟨h1, h2⟩ := chkJ_ok h.2
      refine ⟨fun m hm hn => ?_, h2⟩
      rcases List.mem_cons.1 hm with rfl | hm
      · exact h.1
      · exact h1 m hm hn
def rCan (P : Program) (n : Nat) (ops : Array Oper) (K : Regs → List Deferred → HPred) : Plan → Nat → List (List Nat × HPred) → Regs → List Deferred → HPred
  | .done, m, _, r, ds => match readyM ops m with
    | [] => K r ds
    | _ => bot
  | .step i D p, m, J, r, ds => match rdyM ops m i && freeM ops m i && descOk ops i D && quiet P ops i with
    | false => bot
    | true => match ops[i]? with
      | none => bot
      | some o => match dstOk n o.dst with
        | false => bot
        | true => match o.guard with
          | none => match cls P (ev r) o.type o.op with
            | .same v => rCan P n ops K p (m ||| 1 <<< i) J (put r o.dst v) ds
            | .val x => opt x fun v => rCan P n ops K p (m ||| 1 <<< i) J (put r o.dst v) ds
            | .get f => rd f fun v => rCan P n ops K p (m ||| 1 <<< i) ((D, fun H => f H = some v) :: J) (put r o.dst v) ds
            | .act => bot
          | some (j, want) => match (ops[j]?).bind (·.dst) with
            | none => bot
            | some t => match cls P (ev r) o.type o.op with
              | .same v => grdK (r t) want (fun C => C v) fun v => rCan P n ops K p (m ||| 1 <<< i) J (put r o.dst v) ds
              | .val x => grdK (r t) want (fun C => opt x C) fun v => rCan P n ops K p (m ||| 1 <<< i) J (put r o.dst v) ds
              | .get f => grdK (r t) want (fun C => rd f C) fun v => rCan P n ops K p (m ||| 1 <<< i) ((D, fun H => grdB (r t) want = true → f H = some v) :: J) (put r o.dst v) ds
              | .act => bot
  | .act i p, m, J, r, ds => match readyM ops m with
    | [i'] => match Nat.beq i' i with
      | true => opR P n ops i r ds fun r' ds' => chkJ J i (rCan P n ops K p (m ||| 1 <<< i) J r' ds')
      | false => bot
    | _ => bot
  | .fork i p j q, m, J, r, ds => match readyM ops m with
    | [i', j'] => match Nat.beq i' i && Nat.beq j' j with
      | true => fun H => opR P n ops i r ds (fun r' ds' => chkJ J i (rCan P n ops K p (m ||| 1 <<< i) J r' ds')) H ∧
          opR P n ops j r ds (fun r' ds' => chkJ J j (rCan P n ops K q (m ||| 1 <<< j) J r' ds')) H
      | false => bot
    | _ => bot

theorem isDefer_quiet {ops : Array Oper} {i : Nat} {o : Oper} (ho : ops[i]? = some o) (hq : quiet P ops i = true) : isDefer o.op = false := by
  unfold quiet at hq
  rw [ho] at hq
  cases hop : o.op <;> first | rfl | skip
  simp [hop, cls] at hq
theorem rCan_sound {n : Nat} {ops : Array Oper} {K : Regs → List Deferred → HPred} : ∀ (p : Plan) (f m : Nat) (J : List (List Nat × HPred)) (r : Regs) (ds : List Deferred) (H : Hp),
    p.depth ≤ f → ClosedL ops (maskArr ops.size m) → rCan P n ops K p m J r ds H → rAny P n ops K J f (maskArr ops.size m) r ds H := by
  intro p
  induction p with
  | done =>
    intro f m J r ds H _ _ h
    simp only [rCan] at h
    have hn : Region.ready .any ops (maskArr ops.size m) = [] := by
      apply List.eq_nil_iff_forall_not_mem.2
      intro i hi
      have := ready_mask hi
      cases hr : readyM ops m with
      | nil => rw [hr] at this; cases this
      | cons a l => rw [hr] at h; exact h.elim
    have hk : K r ds H := by
      cases hr : readyM ops m with
      | nil => rw [hr] at h; exact h
      | cons a l => rw [hr] at h; exact h.elim
    cases f with
    | zero => exact ⟨hn, hk⟩
    | succ f => exact ⟨fun _ => hk, by rw [hn]; intro i hi; cases hi⟩
  | step i D p ih =>
    intro f m J r ds H hf hcl h
    obtain ⟨f, rfl⟩ : ∃ g, f = g + 1 := ⟨f - 1, by simp only [Plan.depth] at hf; omega⟩
    simp only [rCan] at h
    cases hc : (rdyM ops m i && freeM ops m i && descOk ops i D && quiet P ops i) with
    | false => rw [hc] at h; exact h.elim
    | true =>
      rw [hc] at h
      simp only [Bool.and_eq_true] at hc
      obtain ⟨⟨⟨hrd, hfr⟩, hD⟩, hq⟩ := hc
      simp only at h
      cases ho : ops[i]? with
      | none => rw [ho] at h; exact h.elim
      | some o =>
        rw [ho] at h
        simp only at h
        cases hd : dstOk n o.dst with
        | false => rw [hd] at h; exact h.elim
        | true =>
          rw [hd] at h
          simp only at h
          have hmem := mem_ready_mask.2 hrd
          have hcl' := hcl.push hmem
          rw [maskArr_set] at hcl'
          have hde := isDefer_quiet ho hq
          have fin : ∀ (v : Value) (I : HPred), Yld P n ops i o v I r → I H → rAny P n ops K ((D, I) :: J) f (maskArr ops.size (m ||| 1 <<< i)) (put r o.dst v) ds H →
              rAny P n ops K J (f + 1) (maskArr ops.size m) r ds H := by
            intro v I hy hI hr
            refine rAny_take ho hq hD f _ r ds H hcl (freeM_spec ho hfr) hmem hy hI ?_
            rw [maskArr_set]; exact hr
          have fin0 : ∀ (v : Value) (I : HPred), Yld P n ops i o v I r → (∀ H, I H) → rAny P n ops K J f (maskArr ops.size (m ||| 1 <<< i)) (put r o.dst v) ds H →
              rAny P n ops K J (f + 1) (maskArr ops.size m) r ds H := by
            intro v I hy hI hr
            refine fin v I hy (hI H) ?_
            exact rAny_add (I := I) hI hr
          have hdep : p.depth ≤ f := by simp only [Plan.depth] at hf; omega
          cases hg : o.guard with
          | none =>
            rw [hg] at h
            simp only at h
            have yv : ∀ {x : Option Value} {v : Value}, cls P (ev r) o.type o.op = .val x → x = some v → Yld P n ops i o v (fun _ => True) r := by
              intro x v hcv hx ds K H _ hk
              unfold opR
              simp only [ho, hd, hg]
              unfold opD
              rw [hcv, hx]; exact hk
            have yg : ∀ {f : Hp → Option Value} {v : Value}, cls P (ev r) o.type o.op = .get f → Yld P n ops i o v (fun H => f H = some v) r := by
              intro f v hcv ds K H hI hk
              unfold opR
              simp only [ho, hd, hg]
              unfold opD
              rw [hcv]
              simp only [rd, hI]; exact hk
            cases hcv : cls P (ev r) o.type o.op with
            | same v =>
              rw [hcv] at h
              refine fin0 v (fun _ => True) ?_ (fun _ => trivial) (ih f _ J _ ds H hdep hcl' h)
              intro ds K H _ hk
              unfold opR
              simp only [ho, hd, hg]
              unfold opD
              rw [hcv]; exact hk
            | val x =>
              rw [hcv] at h
              obtain ⟨v, hx, hk⟩ := opt_ok h
              exact fin0 v _ (yv hcv hx) (fun _ => trivial) (ih f _ J _ ds H hdep hcl' hk)
            | get g =>
              rw [hcv] at h
              obtain ⟨v, hx, hk⟩ := rd_ok h
              exact fin v _ (yg hcv) hx (ih f _ _ _ ds H hdep hcl' hk)
            | act => rw [hcv] at h; exact h.elim
          | some gw =>
            obtain ⟨j, want⟩ := gw
            rw [hg] at h
            simp only at h
            rcases ht : (ops[j]?).bind (·.dst) with _ | t
            · rw [ht] at h; exact h.elim
            · rw [ht] at h
              simp only at h
              cases hb : grdB (r t) want with
              | false =>
                have y : Yld P n ops i o undef (fun _ => True) r := by
                  intro ds K H _ hk
                  unfold opR
                  simp only [ho, hd, hg, hde, ht, grdK, hb]; exact hk
                cases hcv : cls P (ev r) o.type o.op with
                | same v =>
                  rw [hcv] at h
                  simp only [grdK, hb] at h
                  exact fin0 undef _ y (fun _ => trivial) (ih f _ J _ ds H hdep hcl' h)
                | val x =>
                  rw [hcv] at h
                  simp only [grdK, hb] at h
                  exact fin0 undef _ y (fun _ => trivial) (ih f _ J _ ds H hdep hcl' h)
                | get g =>
                  rw [hcv] at h
                  simp only [grdK, hb] at h
                  exact fin0 undef _ y (fun _ => trivial) (drop (ih f _ _ _ ds H hdep hcl' h))
                | act => rw [hcv] at h; exact h.elim
              | true =>
                cases hcv : cls P (ev r) o.type o.op with
                | same v =>
                  rw [hcv] at h
                  simp only [grdK, hb] at h
                  refine fin0 v (fun _ => True) ?_ (fun _ => trivial) (ih f _ J _ ds H hdep hcl' h)
                  intro ds K H _ hk
                  unfold opR
                  simp only [ho, hd, hg, hde, ht, grdK, hb]
                  unfold opD
                  rw [hcv]; exact hk
                | val x =>
                  rw [hcv] at h
                  simp only [grdK, hb] at h
                  obtain ⟨v, hx, hk⟩ := opt_ok h
                  refine fin0 v (fun _ => True) ?_ (fun _ => trivial) (ih f _ J _ ds H hdep hcl' hk)
                  intro ds K H _ hk
                  unfold opR
                  simp only [ho, hd, hg, hde, ht, grdK, hb]
                  unfold opD
                  rw [hcv, hx]; exact hk
                | get g =>
                  rw [hcv] at h
                  simp only [grdK, hb] at h
                  obtain ⟨v, hx, hk⟩ := rd_ok h
                  refine fin v (fun H => True → g H = some v) ?_ (fun _ => hx) (ih f _ _ _ ds H hdep hcl' hk)
                  intro ds K H hI hk
                  unfold opR
                  simp only [ho, hd, hg, hde, ht, grdK, hb]
                  unfold opD
                  rw [hcv]
                  simp only [rd, hI trivial]; exact hk
                | act => rw [hcv] at h; exact h.elim
  | act i p ih =>
    intro f m J r ds H hf hcl h
    obtain ⟨f, rfl⟩ : ∃ g, f = g + 1 := ⟨f - 1, by simp only [Plan.depth] at hf; omega⟩
    have hdep : p.depth ≤ f := by simp only [Plan.depth] at hf; omega
    simp only [rCan] at h
    rcases hr : readyM ops m with _ | ⟨i', _ | ⟨j', rest⟩⟩
    · rw [hr] at h; exact h.elim
    · rw [hr] at h
      simp only at h
      cases hb : Nat.beq i' i with
      | false => rw [hb] at h; exact h.elim
      | true =>
        rw [hb] at h
        have he : i' = i := Nat.eq_of_beq_eq_true hb
        subst he
        have hin : i' ∈ readyM ops m := by rw [hr]; exact List.mem_singleton.2 rfl
        have hmem := mem_ready_mask.2 (List.mem_filter.1 hin).2
        refine ⟨fun h0 => (by rw [h0] at hmem; cases hmem), fun j hj => ?_⟩
        have := ready_mask hj
        rw [hr] at this
        have := List.mem_singleton.1 this
        subst this
        have hcl' := hcl.push hj
        rw [maskArr_set] at hcl'
        refine opR_mono (fun r' ds' H' h' => ?_) h
        obtain ⟨h1, h2⟩ := chkJ_ok h'
        refine ⟨fun _ => h1, ?_⟩
        rw [maskArr_set]
        exact ih f _ J r' ds' H' hdep hcl' h2
    · rw [hr] at h; exact h.elim
  | fork i p j q ihp ihq =>
    intro f m J r ds H hf hcl h
    obtain ⟨f, rfl⟩ : ∃ g, f = g + 1 := ⟨f - 1, by simp only [Plan.depth] at hf; omega⟩
    have hdep : p.depth ≤ f ∧ q.depth ≤ f := by
      simp only [Plan.depth] at hf
      have h1 : p.depth ≤ Nat.max p.depth q.depth := Nat.le_max_left _ _
      have h2 : q.depth ≤ Nat.max p.depth q.depth := Nat.le_max_right _ _
      omega
    simp only [rCan] at h
    rcases hr : readyM ops m with _ | ⟨i', _ | ⟨j', _ | ⟨k', rest⟩⟩⟩
    · rw [hr] at h; exact h.elim
    · rw [hr] at h; exact h.elim
    · rw [hr] at h
      simp only at h
      cases hb : (Nat.beq i' i && Nat.beq j' j) with
      | false => rw [hb] at h; exact h.elim
      | true =>
        rw [hb] at h
        simp only [Bool.and_eq_true] at hb
        have he : i' = i := Nat.eq_of_beq_eq_true hb.1
        have he' : j' = j := Nat.eq_of_beq_eq_true hb.2
        subst he he'
        have hin : i' ∈ readyM ops m := by rw [hr]; exact List.mem_cons_self
        have hmem := mem_ready_mask.2 (List.mem_filter.1 hin).2
        refine ⟨fun h0 => (by rw [h0] at hmem; cases hmem), fun k hk => ?_⟩
        have hcl' := hcl.push hk
        rw [maskArr_set] at hcl'
        have hk' := ready_mask hk
        rw [hr] at hk'
        rcases List.mem_cons.1 hk' with rfl | hk'
        · refine opR_mono (fun r' ds' H' h' => ?_) h.1
          obtain ⟨h1, h2⟩ := chkJ_ok h'
          refine ⟨fun _ => h1, ?_⟩
          rw [maskArr_set]
          exact ihp f _ J r' ds' H' hdep.1 hcl' h2
        · have := List.mem_singleton.1 hk'
          subst this
          refine opR_mono (fun r' ds' H' h' => ?_) h.2
          obtain ⟨h1, h2⟩ := chkJ_ok h'
          refine ⟨fun _ => h1, ?_⟩
          rw [maskArr_set]
          exact ihq f _ J r' ds' H' hdep.2 hcl' h2
    · rw [hr] at h; exact h.elim
theorem closed_zero (ops : Array Oper) : ClosedL ops (maskArr ops.size 0) := by
  intro k ok _ hl
  rw [maskArr_getD] at hl
  split at hl <;> simp at hl
theorem Run.regionPlan {n : Nat} {Q K : Regs → List Deferred → HPred} {id : Nat} {ops : Array Oper} {k : List Item} {r : Regs} {ds : List Deferred} {H : Hp} {p : Plan}
    (hm : P.follows .mixedOrders = true) (hd : Nat.ble p.depth ops.size = true) (hk : ∀ r ds H, K r ds H → Run P n Q k r ds H)
    (h : rCan P n ops K p 0 [] r ds H) : Run P n Q (.code (.region id ops true) :: k) r ds H := by
  refine Run.regionDraw hm hk ?_
  rw [maskArr_zero]
  exact rCan_sound p _ _ _ _ _ _ (Nat.le_of_ble_eq_true hd) (closed_zero ops) h

end Go.Sx
namespace Go.Sx
variable {P : Program}

/-! ## The walk of a stack -/

/-- At this stack, these values in these registers: the frame comes to its return with Q. -/
def At (P : Program) (n : Nat) (Q : Regs → List Deferred → HPred) (k : List Item) (live : List Nat) (vals : List Value) (ds : List Deferred) : HPred := fun H =>
  ∀ r : Regs, live.map r = vals → Run P n Q k r ds H
def liveOf : List (Nat × List Nat) → Nat → Option (List Nat)
  | [], _ => none
  | (i, l) :: rest, id => match Nat.beq i id with
    | true => some l
    | false => liveOf rest id

def planOf : List (Nat × Plan) → Nat → Option Plan
  | [], _ => none
  | (i, p) :: rest, id => match Nat.beq i id with
    | true => some p
    | false => planOf rest id
/-- The walk: up to the cuts (numbers of regions, with the registers that live there). -/
def den (P : Program) (n : Nat) (Q : Regs → List Deferred → HPred) (cuts : List (Nat × List Nat)) (plans : List (Nat × Plan)) : Nat → Bool → List Item → Regs → List Deferred → HPred
  | 0, _, k, r, ds => Run P n Q k r ds
  | _ + 1, _, [], r, ds => Q r ds
  | f + 1, first, it :: k, r, ds => match it with
    | .code c => match c with
      | .skip => den P n Q cuts plans f first k r ds
      | .ret => Q r ds
      | .seq a b => den P n Q cuts plans f first (.code a :: .code b :: k) r ds
      | .cond c a b => cnd (ev r c) (den P n Q cuts plans f false (.code a :: k) r ds) (den P n Q cuts plans f false (.code b :: k) r ds)
      | .block id b => den P n Q cuts plans f first (.code b :: .inBlock id :: k) r ds
      | .loop b => den P n Q cuts plans f first (.code b :: .inLoop b :: k) r ds
      | .exit id => match exitTo id k with
        | some k' => den P n Q cuts plans f false k' r ds
        | none => bot
      | .region id ops draw => match first, liveOf cuts id with
        | false, some live => At P n Q (.code (.region id ops draw) :: k) live (live.map r) ds
        | _, _ => match draw with
          | false => regD P n ops (List.range ops.size) r ds fun r' ds' => den P n Q cuts plans f false k r' ds'
          | true => match planOf plans id with
            | some p => match Nat.ble p.depth ops.size with
              | true => rCan P n ops (fun r' ds' => den P n Q cuts plans f false k r' ds') p 0 [] r ds
              | false => bot
            | none => Run P n Q (.code (.region id ops true) :: k) r ds
      | c => Run P n Q (.code c :: k) r ds
    | .inBlock _ => den P n Q cuts plans f first k r ds
    | .inLoop b => den P n Q cuts plans f first (.code b :: .inLoop b :: k) r ds
    | it => Run P n Q (it :: k) r ds

theorem den_sound {n : Nat} {Q : Regs → List Deferred → HPred} {cuts : List (Nat × List Nat)} {plans : List (Nat × Plan)} (hm : P.follows .mixedOrders = true) : ∀ (f : Nat) (first : Bool) (k : List Item) (r : Regs) (ds : List Deferred) (H : Hp),
    den P n Q cuts plans f first k r ds H → Run P n Q k r ds H := by
  intro f
  induction f with
  | zero => exact fun _ _ _ _ _ h => h
  | succ f ih =>
    intro first k r ds H h
    cases k with
    | nil => exact Run.done h
    | cons it k =>
      cases it <;> simp only [den] at h <;> first | exact h | skip
      case code c =>
        cases c <;> simp only at h <;> first | exact h | skip
        case skip => exact .step (fun b tmps cs w _ => step_skip) (ih _ _ _ _ _ h)
        case ret => exact Run.ret h
        case seq a b => exact .step (fun _ tmps cs w _ => step_seq) (ih _ _ _ _ _ h)
        case block id b => exact .step (fun _ tmps cs w _ => step_block) (ih _ _ _ _ _ h)
        case loop b => exact .step (fun _ tmps cs w _ => step_loop) (ih _ _ _ _ _ h)
        case exit id =>
          cases he : exitTo id k with
          | none => rw [he] at h; exact h.elim
          | some k' => rw [he] at h; exact .step (fun _ tmps cs w _ => step_exit he) (ih _ _ _ _ _ h)
        case cond c a b =>
          cases hc : ev r c <;> rw [hc] at h <;> first | exact h.elim | skip
          rename_i t
          have key : den P n Q cuts plans f false (.code (if t then a else b) :: k) r ds H := by cases t <;> exact h
          exact .step (fun b' tmps cs w ha => step_cond (a := ⟨tmps, ds⟩) (by rw [Agree.ev (a := ⟨tmps, ds⟩) ha]; exact hc)) (ih _ _ _ _ _ key)
        case region id ops draw =>
          have hreg : ∀ draw, (match draw with
              | false => regD P n ops (List.range ops.size) r ds fun r' ds' => den P n Q cuts plans f false k r' ds'
              | true => match planOf plans id with
                | some p => match Nat.ble p.depth ops.size with
                  | true => rCan P n ops (fun r' ds' => den P n Q cuts plans f false k r' ds') p 0 [] r ds
                  | false => bot
                | none => Run P n Q (.code (.region id ops true) :: k) r ds) H → Run P n Q (.code (.region id ops draw) :: k) r ds H := by
            intro draw h
            cases draw with
            | true =>
              simp only at h
              cases hp : planOf plans id with
              | none => rw [hp] at h; exact h
              | some p =>
                rw [hp] at h
                simp only at h
                cases hd : Nat.ble p.depth ops.size with
                | false => rw [hd] at h; exact h.elim
                | true => rw [hd] at h; exact Run.regionPlan hm hd (fun r ds H => ih _ _ r ds H) h
            | false => exact Run.region (fun r ds H => ih _ _ r ds H) h
          cases first with
          | true => exact hreg _ h
          | false =>
            cases hl : liveOf cuts id with
            | none => rw [hl] at h; exact hreg _ h
            | some live => rw [hl] at h; exact h r rfl
      case inBlock id => exact .step (fun b tmps cs w _ => step_inBlock) (ih _ _ _ _ _ h)
      case inLoop b => exact .step (fun _ tmps cs w _ => step_inLoop) (ih _ _ _ _ _ h)

/-- From the values at a cut on: the registers are laid out as far as they live. -/
def over (live : List Nat) (vals : List Value) (r : Regs) : Regs := fun i =>
  match live, vals with
  | l :: live, v :: vals => match Nat.beq i l with
    | true => v
    | false => over live vals r i
  | _, _ => r i
theorem over_self : ∀ (live : List Nat) (r : Regs), over live (live.map r) r = r
  | [], r => by funext i; rfl
  | l :: live, r => by
    funext i
    simp only [List.map_cons, over]
    cases h : Nat.beq i l with
    | true => rw [Nat.eq_of_beq_eq_true h]
    | false => exact congrFun (over_self live r) i
theorem At.of_den (hm : P.follows .mixedOrders = true) {n : Nat} {Q : Regs → List Deferred → HPred} {cuts : List (Nat × List Nat)} {plans : List (Nat × Plan)} {f : Nat} {k : List Item} {live : List Nat} {vals : List Value} {ds : List Deferred} {H : Hp}
    (h : ∀ r : Regs, den P n Q cuts plans f true k (over live vals r) ds H) : At P n Q k live vals ds H := by
  intro r hr
  have := h r
  rw [← hr, over_self] at this
  exact den_sound hm f true k r ds H this

/-! ## A function -/

def tupleOf : List Value → Value
  | [v] => v
  | vs => .tuple vs.toArray
/-- The results are read, and R is asked of them. -/
def retL (P : Program) : List ResultVar → Regs → List Value → (Value → HPred) → HPred
  | [], _, acc, R => R (tupleOf acc.reverse)
  | .tmp t :: l, r, acc, R => retL P l r (r t :: acc) R
  | .cell a t :: l, r, acc, R => match layT P t with
    | some (true, n) => rd (cellsP (r a) n) fun v => retL P l r (v :: acc) R
    | some (false, _) => rd (cellP (r a)) fun v => retL P l r (v :: acc) R
    | none => bot
/-- The deferred calls, then the results. -/
def leaveH (P : Program) (C : HPred) : List Deferred → HPred
  | [] => C
  | d :: ds => match d.target with
    | .fn (.func f) cap => HCD P f (d.args ++ cap) (leaveH P C ds)
    | _ => bot
def RQ (P : Program) (rs : List ResultVar) (R : Value → HPred) : Regs → List Deferred → HPred := fun r ds => leaveH P (retL P rs r [] R) ds
/-- The stack before a region. -/
def findStk (id : Nat) : Code → List Item → Option (List Item)
  | .region id' ops d, k => match Nat.beq id' id with
    | true => some (.code (.region id' ops d) :: k)
    | false => none
  | .seq a b, k => match findStk id a (.code b :: k) with
    | some s => some s
    | none => findStk id b k
  | .cond _ a b, k => match findStk id a k with
    | some s => some s
    | none => findStk id b k
  | .block i b, k => findStk id b (.inBlock i :: k)
  | .loop b, k => findStk id b (.inLoop b :: k)
  | _, _ => none
def stk (fn : Func) (id : Nat) : List Item := match fn.body with
  | some c => match findStk id c [] with
    | some s => s
    | none => []
  | none => []
def bodyOf (fn : Func) : List Item := match fn.body with
  | some c => [.code c]
  | none => []
def regsOf (args : List Value) : Regs := fun i => over (List.range args.length) args (fun _ => undef) i

theorem lawful : LawfulMonad Sem := LawfulMonad.mk' Sem
  (id_map := fun x => by
    show x.bind (fun a => Sem.pure (id a)) = x
    induction x with
    | frozen a k ih => simp only [Sem.bind]; congr 1; funext b; exact ih b
    | _ => simp_all [Sem.bind])
  (pure_bind := fun x f => rfl)
  (bind_assoc := fun x f g => by
    show (x.bind f).bind g = x.bind fun a => (f a).bind g
    induction x with
    | frozen a k ih => simp only [Sem.bind]; congr 1; funext b; exact ih b
    | _ => simp_all [Sem.bind])
theorem loadCells_run {a : Addr} {c : Array Value} {T : TypeId} {fz : Nat × Nat} {w : World} (hs : a.spot = none) (hb : w.heap[a.block]? = some (.cells c T fz)) :
    ∀ (n i : Nat) (acc : Array Value), a.off + i + n ≤ c.size →
      (loadCellsFrom a i n acc).run P w = .ok (acc ++ c.extract (a.off + i) (a.off + i + n)) w := by
  intro n
  induction n with
  | zero =>
    intro i acc _
    have he : acc ++ c.extract (a.off + i) (a.off + i + 0) = acc := by
      apply Array.ext'; simp [List.extract_eq_take_drop]
    rw [he]; rfl
  | succ n ih =>
    intro i acc hle
    have hc : cellH w.heap (a.add i) = some (c[a.off + i]'(by omega)) := by
      unfold cellH Addr.add
      by_cases h0 : i = 0
      · subst h0
        simp [hb, hs]
      · simp [h0, hb]
    have hl : (load (a.add i)).run P w = .ok (c[a.off + i]'(by omega)) w := by simp only [load, Sem.run, cell_eq, hc]
    show ((load (a.add i)).bind _).run P w = _
    rw [run_bindS _ _ _ hl]
    have h1 := ih (i + 1) (acc.push (c[a.off + i]'(by omega))) (by omega)
    have he : acc.push (c[a.off + i]'(by omega)) ++ c.extract (a.off + (i + 1)) (a.off + (i + 1) + n) = acc ++ c.extract (a.off + i) (a.off + i + (n + 1)) := by
      apply Array.ext'
      simp only [Array.toList_append, Array.toList_push, Array.toList_extract, List.extract_eq_take_drop, List.append_assoc]
      congr 1
      rw [show a.off + i + (n + 1) - (a.off + i) = n + 1 from by omega, show a.off + (i + 1) + n - (a.off + (i + 1)) = n from by omega]
      rw [List.drop_eq_getElem_cons (i := a.off + i) (by simpa using by omega)]
      simp [Nat.add_assoc]
    rw [he] at h1
    exact h1
theorem isAgg_run {t : TypeId} {d : TypeDesc} (hd : P.underlying t = some d) (w : World) : (isAgg t).run P w = .ok (aggD d) w := by
  show ((underlying t).bind _).run P w = _
  have : (underlying t).run P w = .ok d w := by
    show ((program).bind _).run P w = _
    rw [run_bindS (a := P) (w' := w) _ _ _ rfl, hd]; rfl
  rw [run_bindS _ _ _ this]
  cases d <;> rfl
theorem sizeOf_run {t : TypeId} {i : TypeInfo} (hi : P.info? t = some i) (w : World) : (sizeOf t).run P w = .ok i.size w := by
  have : (typeInfo t).run P w = .ok i w := by
    show ((program).bind _).run P w = _
    rw [run_bindS (a := P) (w' := w) _ _ _ rfl, hi]; rfl
  show ((typeInfo t).bind _).run P w = _
  rw [run_bindS _ _ _ this]; rfl
def getT (b : Bool) (n : Nat) (x : Value) (H : Hp) : Option Value := match b with
  | true => cellsP x n H
  | false => cellP x H
theorem loadVar_run {t : TypeId} {b : Bool} {n : Nat} {x v : Value} {w : World} (hl : layT P t = some (b, n))
    (h : getT b n x w.heap = some v) : ∃ a, x = .pointer (some a) ∧ (loadVar t a).run P w = .ok v w := by
  unfold layT at hl
  split at hl
  · rename_i d i hd hi
    simp only [Option.some.injEq, Prod.mk.injEq] at hl
    obtain ⟨hb, hn⟩ := hl
    cases b with
    | true =>
      obtain ⟨a, c, T, fz, rfl, hs, hbl, hle, rfl⟩ := cellsP_ok h
      refine ⟨a, rfl, ?_⟩
      unfold loadVar
      simp only [bindS]
      rw [run_bindS _ _ _ (isAgg_run hd w), hb]
      simp only [if_true]
      rw [run_bindS _ _ _ (sizeOf_run hi w), hn]
      have h1 : (loadCells a n).run P w = .ok (c.extract a.off (a.off + n)) w := by
        have := loadCells_run (P := P) hs hbl n 0 #[] (by omega)
        simpa [loadCells] using this
      rw [run_bindS _ _ _ h1]
      simp [pure, Sem.run]
    | false =>
      obtain ⟨a, rfl, hc⟩ := cellP_ok h
      refine ⟨a, rfl, ?_⟩
      unfold loadVar
      simp only [bindS]
      rw [run_bindS _ _ _ (isAgg_run hd w), hb]
      simp only [Bool.false_eq_true, if_false, load, Sem.run, cell_eq, hc]
  · cases hl
def resF (tmps : Array Value) : ResultVar → Sem Value
  | .tmp t => pure (tmps.getD t undef)
  | .cell a t => do loadVar t (← asAddr (tmps.getD a undef))
theorem retL_list {tmps : Array Value} {n : Nat} {r : Regs} {R : Value → HPred} {w : World} (ha : Agree n tmps r) : ∀ (l : List ResultVar) (acc : List Value),
    retL P l r acc R w.heap → ∃ vs, (l.mapM (resF tmps)).run P w = .ok vs w ∧ R (tupleOf (acc.reverse ++ vs)) w.heap := by
  intro l
  induction l with
  | nil => intro acc h; exact ⟨[], rfl, by simpa [retL] using h⟩
  | cons x l ih =>
    intro acc h
    have key : ∀ v, (resF tmps x).run P w = .ok v w → retL P l r (v :: acc) R w.heap → ∃ vs, ((x :: l).mapM (resF tmps)).run P w = .ok vs w ∧ R (tupleOf (acc.reverse ++ vs)) w.heap := by
      intro v hv hk
      obtain ⟨vs, h1, h2⟩ := ih (v :: acc) hk
      refine ⟨v :: vs, ?_, by simpa using h2⟩
      have := lawful
      rw [List.mapM_cons]
      show ((resF tmps x).bind _).run P w = _
      rw [run_bindS _ _ _ hv]
      show ((l.mapM (resF tmps)).bind _).run P w = _
      rw [run_bindS _ _ _ h1]; rfl
    cases x with
    | tmp t => exact key (r t) (by simp only [resF, ha.get t]; rfl) h
    | cell a t =>
      simp only [retL] at h
      cases hl : layT P t with
      | none => rw [hl] at h; exact h.elim
      | some p =>
        rw [hl] at h
        obtain ⟨b, n⟩ := p
        have hp : ∃ v, getT b n (r a) w.heap = some v ∧ retL P l r (v :: acc) R w.heap := by
          cases b <;> exact rd_ok h
        obtain ⟨v, h1, h2⟩ := hp
        obtain ⟨ad, had, h3⟩ := loadVar_run hl h1
        refine key v ?_ h2
        simp only [resF, ha.get a, had]
        exact h3
theorem retL_sound {fn : Func} {tmps : Array Value} {n : Nat} {r : Regs} {R : Value → HPred} {w : World} (ha : Agree n tmps r)
    (h : retL P fn.results.toList r [] R w.heap) : ∃ v, (results fn tmps).run P w = .ok v w ∧ R v w.heap := by
  obtain ⟨vs, h1, h2⟩ := retL_list ha fn.results.toList [] h
  refine ⟨_, ?_, h2⟩
  have := lawful
  have he : ∀ F, (∀ x, F x = resF tmps x) → fn.results.mapM F = (List.toArray <$> fn.results.toList.mapM (resF tmps)) := by
    intro F hF
    rw [Array.mapM_eq_mapM_toList, show F = resF tmps from funext hF]
  unfold results
  simp only [bindS]
  rw [he _ (fun x => by cases x <;> rfl)]
  have h3 : (List.toArray <$> fn.results.toList.mapM (resF tmps)).run P w = .ok vs.toArray w := by
    show ((fn.results.toList.mapM (resF tmps)).bind _).run P w = _
    rw [run_bindS _ _ _ h1]; rfl
  rw [run_bindS _ _ _ h3]
  match vs with
  | [] => rfl
  | [v] => rfl
  | v :: v' :: vs => simp [tupleOf, pure, Sem.run]

theorem leave_sound {fn : Func} {n : Nat} {r : Regs} {R : Value → HPred} : ∀ (ds : List Deferred) (fr : Frame) (cs : List Frame) (w : World),
    fr.mode = .returning → fr.defers = ds → Agree n fr.tmps r → P.funcs[fr.fn]? = some fn → fr.kind = .normal → leaveH P (retL P fn.results.toList r [] R) ds w.heap →
    ∃ v w' fr', R v w'.heap ∧ Same w w' ∧ Steps P (lone fr cs w) (lone fr' cs w') ∧ fr'.fn = fr.fn ∧ fr'.leaving P w' (.returned v) := by
  intro ds
  induction ds with
  | nil =>
    intro fr cs w hm hd ha hf hk h
    obtain ⟨v, h1, h2⟩ := retL_sound ha h
    exact ⟨v, w, fr, h2, .refl w, .refl P _, rfl, hm, hd, hk, fn, hf, h1⟩
  | cons d ds ih =>
    intro fr cs w hm hd ha hf hk h
    simp only [leaveH] at h
    have htx : ∃ f cap, d.target = .fn (.func f) cap ∧ HCD P f (d.args ++ cap) (leaveH P (retL P fn.results.toList r [] R) ds) w.heap := by
      cases ht : d.target <;> rw [ht] at h <;> first | exact h.elim | skip
      rename_i g cap
      cases g <;> first | exact h.elim | exact ⟨_, _, rfl, h⟩
    · obtain ⟨f, cap, htar, h⟩ := htx
      obtain ⟨henter, hcall⟩ := h
      obtain ⟨e, u', w', frX, ⟨v, rfl, rfl, hR, hs⟩, hsteps, hkX, hgo⟩ := hcall w rfl { fr with defers := ds } cs hm
      have h1 := step_defer (P := P) (cs := cs) (w := w) (fr := fr) (by rw [hm]; simp) hd htar (by rw [htar]; exact henter w)
      have h2 := step_going_returned (P := P) (c := { { fr with defers := ds } with mode := .returning }) (cs := cs) hkX hgo
      obtain ⟨v', w'', fr', h3, h4, h5, h6, h7⟩ := ih { { { fr with defers := ds } with mode := .returning } with mode := settle .returning } cs w' rfl rfl ha hf hk hR
      exact ⟨v', w'', fr', h3, hs.trans h4, Steps.head h1 (Steps.trans (Steps.trans hsteps (.one h2)) h5), h6, h7⟩

/-- A call of f is what its code's walk says. -/
theorem HC.of_run {f : FuncId} {fn : Func} {c : Code} {args : Array Value} {R : Value → HPred} {H : Hp} {r : Regs}
    (hf : P.funcs[f]? = some fn) (hb : fn.body = some c) (he : ∀ w, (callFunc f args).run P w = .ok (.enter f args) w) (hn : args.size ≤ fn.ntmps)
    (hr : ∀ i, args.toList.getD i undef = r i) (h : Run P fn.ntmps (RQ P fn.results.toList R) [.code c] r [] H) : HC P f args R H := by
  refine .inl ⟨he, fun w hw cs => ?_⟩
  let b : Frame := { (default : Frame) with fn := f, kind := .normal }
  have henter : Frame.enter P f args .normal = b.at { tmps := args ++ Array.replicate (fn.ntmps - args.size) undef, defers := [] } [.code c] := by
    simp [Frame.enter, Frame.at, hf, hb, b]
  have hag : Agree fn.ntmps (args ++ Array.replicate (fn.ntmps - args.size) undef) r := by
    refine ⟨by simp; omega, fun i => ?_⟩
    rw [← hr i]
    simp only [Array.getD_eq_getD_getElem?, List.getD_eq_getElem?_getD, Array.getElem?_toList]
    by_cases hlt : i < args.size
    · rw [Array.getElem?_append_left hlt]
    · rw [Array.getElem?_append_right (by omega), Array.getElem?_replicate]
      have : args[i]? = none := by simp; omega
      rw [this]
      split <;> rfl
  obtain ⟨a', w', todo, r', h1, h2, h3, h4⟩ := h w _ b cs hw hag
  obtain ⟨v, w'', fr', g1, g2, g3, g4, g5⟩ := leave_sound a'.defers { b.at a' todo with mode := .returning } cs w' rfl rfl h2 hf rfl h4
  exact ⟨.returned v, w'', fr', ⟨v, rfl, g1, h3.trans g2⟩, by rw [henter]; exact Steps.trans h1 g3, g4, g5⟩
theorem over_ge : ∀ (live : List Nat) (vals : List Value) (r : Regs) (i : Nat), i ∉ live → over live vals r i = r i
  | [], _, _, _, _ => by unfold over; rfl
  | _ :: _, [], _, _, _ => by unfold over; rfl
  | l :: live, v :: vals, r, i, h => by
    have hne : Nat.beq i l = false := by
      cases hb : Nat.beq i l
      · rfl
      · exact absurd (List.mem_cons.2 (.inl (Nat.eq_of_beq_eq_true hb))) h
    simp only [over, hne]
    exact over_ge live vals r i fun hm => h (List.mem_cons_of_mem _ hm)
theorem over_range (args : List Value) (r : Regs) : ∀ (k i : Nat), over (List.range' k args.length) args r (k + i) = (args[i]?).getD (r (k + i)) := by
  induction args with
  | nil => intro k i; simp [over]
  | cons v args ih =>
    intro k i
    simp only [List.length_cons, List.range'_succ, over]
    cases i with
    | zero => simp
    | succ i =>
      have hb : Nat.beq (k + (i + 1)) k = false := by
        cases hb : Nat.beq (k + (i + 1)) k
        · rfl
        · have := Nat.eq_of_beq_eq_true hb; omega
      simp only [hb]
      have := ih (k + 1) i
      rw [show k + 1 + i = k + (i + 1) from by omega] at this
      simpa using this
theorem regsOf_get (args : List Value) (i : Nat) : args.getD i undef = regsOf args i := by
  have := over_range args (fun _ => undef) 0 i
  unfold regsOf
  rw [List.range_eq_range', List.getD_eq_getElem?_getD]
  simpa using this.symm
theorem HC.of_den (hm : P.follows .mixedOrders = true) {f : FuncId} {fn : Func} {args : List Value} {R : Value → HPred} {H : Hp} {cuts : List (Nat × List Nat)} {plans : List (Nat × Plan)}
    (hf : P.funcs[f]? = some fn) (hb : fn.body.isSome = true) (he : ∀ w, (callFunc f args.toArray).run P w = .ok (.enter f args.toArray) w) (hn : decide (args.length ≤ fn.ntmps) = true)
    (h : den P fn.ntmps (RQ P fn.results.toList R) cuts plans 1000 false (bodyOf fn) (regsOf args) [] H) : HC P f args.toArray R H := by
  obtain ⟨c, hc⟩ := Option.isSome_iff_exists.1 hb
  refine HC.of_run hf hc he (by simpa using of_decide_eq_true hn) (fun i => by simpa using regsOf_get args i) ?_
  have := den_sound hm _ _ _ _ _ _ h
  unfold bodyOf at this
  rw [hc] at this
  exact this
theorem HCD.of_run {f : FuncId} {fn : Func} {c : Code} {args : Array Value} {R : HPred} {H : Hp} {r : Regs}
    (hf : P.funcs[f]? = some fn) (hb : fn.body = some c) (he : ∀ w, (callFunc f args).run P w = .ok (.enter f args) w) (hn : args.size ≤ fn.ntmps)
    (hr : ∀ i, args.toList.getD i undef = r i)
    (h : Run P fn.ntmps (fun r ds => match ds with | [] => retL P fn.results.toList r [] fun _ => R | _ => bot) [.code c] r [] H) : HCD P f args R H := by
  refine ⟨he, fun w hw c0 cs hu => ?_⟩
  let b : Frame := { (default : Frame) with fn := f, kind := .deferred }
  have henter : Frame.enter P f args .deferred = b.at { tmps := args ++ Array.replicate (fn.ntmps - args.size) undef, defers := [] } [.code c] := by
    simp [Frame.enter, Frame.at, hf, hb, b]
  have hag : Agree fn.ntmps (args ++ Array.replicate (fn.ntmps - args.size) undef) r := by
    refine ⟨by simp; omega, fun i => ?_⟩
    rw [← hr i]
    simp only [Array.getD_eq_getD_getElem?, List.getD_eq_getElem?_getD, Array.getElem?_toList]
    by_cases hlt : i < args.size
    · rw [Array.getElem?_append_left hlt]
    · rw [Array.getElem?_append_right (by omega), Array.getElem?_replicate]
      have : args[i]? = none := by simp; omega
      rw [this]
      split <;> rfl
  obtain ⟨a', w', todo, r', h1, h2, h3, h4⟩ := h w _ b (c0 :: cs) hw hag
  have hc : ({ c0 with mode := .returning } : Frame) = c0 := by rw [← hu]
  cases hd : a'.defers with
  | cons d ds => rw [hd] at h4; exact h4.elim
  | nil =>
    rw [hd] at h4
    obtain ⟨v, g1, g2⟩ := retL_sound h2 h4
    exact ⟨.returned v, .returning, w', { b.at a' todo with mode := .returning }, ⟨v, rfl, rfl, g2, h3⟩, by rw [henter, hc]; exact h1, rfl, rfl, hd, fn, hf, g1⟩

end Go.Sx
namespace Go.Sx
variable {P : Program}

theorem opt_some (v : Value) (K : Value → HPred) : opt (some v) K = K v := rfl
theorem rd_some {f : Hp → Option Value} {K : Value → HPred} {H : Hp} {v : Value} (h : f H = some v) : rd f K H = K v H := by simp only [rd, h]
theorem cellP_ptr (a : Addr) (H : Hp) : cellP (.pointer (some a)) H = cellH H a := rfl
theorem rd_cell {K : Value → HPred} {H : Hp} {v : Value} {a : Addr} (h : cellH H a = some v) : rd (cellP (.pointer (some a))) K H = K v H := rd_some h
theorem add_mk (b o n : Nat) : Addr.add ⟨b, o, none⟩ n = ⟨b, o + n, none⟩ := by
  unfold Addr.add; split
  · subst_vars; rfl
  · rfl
theorem offV_ptr (b o n : Nat) : offV (.pointer (some ⟨b, o, none⟩)) n = some (.pointer (some ⟨b, o + n, none⟩)) := by
  simp only [offV, add_mk]
theorem nilV_ptr (a : Addr) : nilV (.pointer (some a)) = some (.pointer (some a)) := rfl
theorem idxA_eq {b o len size : Nat} {k : IntKind} {i : Int} (h0 : 0 ≤ i) (h1 : i < len) :
    idxA (.pointer (some ⟨b, o, none⟩)) (.int k i) len size = some (.pointer (some ⟨b, o + i.toNat * size, none⟩)) := by
  simp only [idxA, h0, h1, and_self, decide_true, add_mk]
theorem idxS_eq {b o len cap size : Nat} {k : IntKind} {i : Int} (h0 : 0 ≤ i) (h1 : i < len) :
    idxS (.slice (some ⟨b, o, none⟩) len cap) (.int k i) size = some (.pointer (some ⟨b, o + i.toNat * size, none⟩)) := by
  simp only [idxS, h0, h1, and_self, decide_true, add_mk]
theorem extV_tuple (vs : Array Value) (i : Nat) : extV (.tuple vs) i = vs.toList[i]? := rfl
theorem pick_true (a b : Value) : pickV (.bool true) a b = some a := rfl
theorem pick_false (a b : Value) : pickV (.bool false) a b = some b := rfl
theorem pick_dec {p : Prop} [Decidable p] (a b : Value) : pickV (.bool (decide p)) a b = some (if p then a else b) := by
  by_cases h : p <;> simp [h, pickV]
theorem cnd_true (A B : HPred) : cnd (.bool true) A B = A := rfl
theorem cnd_false (A B : HPred) : cnd (.bool false) A B = B := rfl
theorem cnd_pos {p : Prop} [Decidable p] {A B : HPred} (h : p) : cnd (.bool (decide p)) A B = A := by simp only [h, decide_true]; rfl
theorem cnd_neg {p : Prop} [Decidable p] {A B : HPred} (h : ¬p) : cnd (.bool (decide p)) A B = B := by simp only [h, decide_false]; rfl
theorem cnd_split {b : Bool} {A B : HPred} {H : Hp} (ht : b = true → A H) (hf : b = false → B H) : cnd (.bool b) A B H := by
  cases b
  · exact hf rfl
  · exact ht rfl
theorem grd_tt (A : (Value → HPred) → HPred) (K : Value → HPred) : grdK (.bool true) true A K = A K := rfl
theorem grd_tf (A : (Value → HPred) → HPred) (K : Value → HPred) : grdK (.bool true) false A K = K undef := rfl
theorem grd_ft (A : (Value → HPred) → HPred) (K : Value → HPred) : grdK (.bool false) true A K = K undef := rfl
theorem grd_ff (A : (Value → HPred) → HPred) (K : Value → HPred) : grdK (.bool false) false A K = A K := rfl
theorem grd_u (b : Bool) (A : (Value → HPred) → HPred) (K : Value → HPred) : grdK undef b A K = K undef := rfl
theorem chk_eq (I C : HPred) (H : Hp) : chk I C H = (I H ∧ C H) := rfl

/-! ## Numbers -/
theorem int_add (T : TypeId) (ox oy : Operand) (k : IntKind) (a b : Int) : binV P .add T ox oy (.int k a) (.int k b) = some (.int k (k.wrap (a + b))) := by
  simp [binV, eqGuard, Sem.bind, pureRun, binOp, Op.intArith, pure]
theorem int_sub (T : TypeId) (ox oy : Operand) (k : IntKind) (a b : Int) : binV P .sub T ox oy (.int k a) (.int k b) = some (.int k (k.wrap (a - b))) := by
  simp [binV, eqGuard, Sem.bind, pureRun, binOp, Op.intArith, pure]
theorem int_mul (T : TypeId) (ox oy : Operand) (k : IntKind) (a b : Int) : binV P .mul T ox oy (.int k a) (.int k b) = some (.int k (k.wrap (a * b))) := by
  simp [binV, eqGuard, Sem.bind, pureRun, binOp, Op.intArith, pure]
theorem int_eql (T : TypeId) (ox oy : Operand) (k : IntKind) (a b : Int) : binV P .eql T ox oy (.int k a) (.int k b) = some (.bool (decide (a = b))) := by
  simp [binV, eqGuard, Sem.bind, pureRun, binOp, Op.intCmp, pure]
  rfl
theorem int_neq (T : TypeId) (ox oy : Operand) (k : IntKind) (a b : Int) : binV P .neq T ox oy (.int k a) (.int k b) = some (.bool (!decide (a = b))) := by
  simp [binV, eqGuard, Sem.bind, pureRun, binOp, Op.intCmp, pure]
  rfl
theorem int_lss (T : TypeId) (ox oy : Operand) (k : IntKind) (a b : Int) : binV P .lss T ox oy (.int k a) (.int k b) = some (.bool (decide (a < b))) := by
  simp [binV, eqGuard, Sem.bind, pureRun, binOp, Op.intCmp, pure]
theorem int_leq (T : TypeId) (ox oy : Operand) (k : IntKind) (a b : Int) : binV P .leq T ox oy (.int k a) (.int k b) = some (.bool (decide (a ≤ b))) := by
  simp [binV, eqGuard, Sem.bind, pureRun, binOp, Op.intCmp, pure]
theorem int_gtr (T : TypeId) (ox oy : Operand) (k : IntKind) (a b : Int) : binV P .gtr T ox oy (.int k a) (.int k b) = some (.bool (decide (a > b))) := by
  simp [binV, eqGuard, Sem.bind, pureRun, binOp, Op.intCmp, pure]
theorem int_geq (T : TypeId) (ox oy : Operand) (k : IntKind) (a b : Int) : binV P .geq T ox oy (.int k a) (.int k b) = some (.bool (decide (a ≥ b))) := by
  simp [binV, eqGuard, Sem.bind, pureRun, binOp, Op.intCmp, pure]
theorem int_quo (T : TypeId) (ox oy : Operand) (k : IntKind) (a b : Int) (h : b ≠ 0) : binV P .quo T ox oy (.int k a) (.int k b) = some (.int k (k.wrap (a.tdiv b))) := by
  simp [binV, eqGuard, Sem.bind, pureRun, binOp, Op.intDiv, pure, h]
theorem int_rem (T : TypeId) (ox oy : Operand) (k : IntKind) (a b : Int) (h : b ≠ 0) : binV P .rem T ox oy (.int k a) (.int k b) = some (.int k (a.tmod b)) := by
  simp [binV, eqGuard, Sem.bind, pureRun, binOp, Op.intDiv, pure, h]
theorem wrap64_id {a : Int} (h0 : -9223372036854775808 ≤ a) (h1 : a ≤ 9223372036854775807) : IntKind.i64.wrap a = a := by
  simp only [IntKind.wrap, IntKind.bits, IntKind.signed]
  simp
  omega
theorem un_not (b : Bool) : pureRun P (Op.unary .not (.bool b)) = some (.bool (!b)) := rfl
theorem un_neg (k : IntKind) (a : Int) : pureRun P (Op.unary .neg (.int k a)) = some (.int k (k.wrap (0 - a))) := rfl

end Go.Sx
namespace Go.Sx
variable {P : Program}

/-- Of the blocks of H only those in S may have turned. -/
structure Ext (S : Nat → Prop) (H H' : Hp) : Prop where
  size : H.size ≤ H'.size
  keep : ∀ b, b < H.size → ¬ S b → H'[b]? = H[b]?
def none' : Nat → Prop := fun _ => False
abbrev Ext0 := Ext none'
theorem Ext.refl (S : Nat → Prop) (H : Hp) : Ext S H H := ⟨Nat.le_refl _, fun _ _ _ => rfl⟩
theorem Ext.mono {S S' : Nat → Prop} {H H' : Hp} (h : Ext S H H') (hs : ∀ b, b < H.size → S b → S' b) : Ext S' H H' :=
  ⟨h.size, fun b hb hn => h.keep b hb fun hx => hn (hs b hb hx)⟩
theorem Ext0.to {S : Nat → Prop} {H H' : Hp} (h : Ext0 H H') : Ext S H H' := h.mono fun _ _ hx => hx.elim
theorem Ext.trans {S S1 S2 : Nat → Prop} {H H1 H2 : Hp} (h1 : Ext S1 H H1) (h2 : Ext S2 H1 H2) (hs : ∀ b, b < H.size → S1 b ∨ S2 b → S b) : Ext S H H2 :=
  ⟨Nat.le_trans h1.size h2.size, fun b hb hn => by
    rw [h2.keep b (Nat.lt_of_lt_of_le hb h1.size) fun hx => hn (hs b hb (.inr hx)), h1.keep b hb fun hx => hn (hs b hb (.inl hx))]⟩
theorem Ext.trans' {S : Nat → Prop} {H H1 H2 : Hp} (h1 : Ext S H H1) (h2 : Ext S H1 H2) : Ext S H H2 := h1.trans h2 fun _ _ h => h.elim id id
theorem Ext.then0 {S : Nat → Prop} {H H1 H2 : Hp} (h1 : Ext S H H1) (h2 : Ext0 H1 H2) : Ext S H H2 := h1.trans' h2.to
theorem Ext0.then {S : Nat → Prop} {H H1 H2 : Hp} (h1 : Ext0 H H1) (h2 : Ext S H1 H2) : Ext S H H2 := h1.to.trans' h2
theorem blk_lt {H : Hp} {b : Nat} {o : Obj} (h : H[b]? = some o) : b < H.size := (Array.getElem?_eq_some_iff.1 h).1
theorem Ext.blk {S : Nat → Prop} {H H' : Hp} {b : Nat} {o : Obj} (h : Ext S H H') (hb : H[b]? = some o) (hn : ¬ S b) : H'[b]? = some o := by
  rw [h.keep b (blk_lt hb) hn]; exact hb
theorem Ext0.blk {H H' : Hp} {b : Nat} {o : Obj} (h : Ext0 H H') (hb : H[b]? = some o) : H'[b]? = some o := Ext.blk h hb id

/-! ## New blocks -/
theorem push_old {H : Hp} {b : Nat} {o x : Obj} (hb : H[b]? = some o) : (H.push x)[b]? = some o := by
  have := blk_lt hb
  rw [Array.getElem?_push, if_neg (by omega)]; exact hb
theorem push_new (H : Hp) (x : Obj) : (H.push x)[H.size]? = some x := by simp
theorem ext_push (S : Nat → Prop) (H : Hp) (x : Obj) : Ext S H (H.push x) :=
  ⟨by simp, fun b hb _ => by rw [Array.getElem?_push, if_neg (by omega)]⟩
theorem newC_eq (cells : Array Value) (T : TypeId) (K : Value → HPred) (H : Hp) : newC cells T K H = K (.pointer (some ⟨H.size, 0, none⟩)) (H.push (.cells cells T)) := rfl
theorem boxM_eq (T : TypeId) (v : Value) (K : Value → HPred) (H : Hp) : boxM T v K H = K (.pointer (some ⟨H.size, 0, none⟩)) (H.push (.cells v.cells T)) := rfl

/-! ## Cells -/
theorem cell_blk {H : Hp} {b o : Nat} {c : Array Value} {T : TypeId} {fz : Nat × Nat} (hb : H[b]? = some (.cells c T fz)) : cellH H ⟨b, o, none⟩ = c[o]? := by
  simp [cellH, hb]
theorem rd_blk {H : Hp} {b o : Nat} {c : Array Value} {T : TypeId} {fz : Nat × Nat} {v : Value} {K : Value → HPred} (hb : H[b]? = some (.cells c T fz)) (ho : c[o]? = some v) :
    rd (cellP (.pointer (some ⟨b, o, none⟩))) K H = K v H := rd_cell (by rw [cell_blk hb]; exact ho)
theorem rds_blk {H : Hp} {b o n : Nat} {c : Array Value} {T : TypeId} {fz : Nat × Nat} {K : Value → HPred} (hb : H[b]? = some (.cells c T fz)) (ho : o + n ≤ c.size) :
    rd (cellsP (.pointer (some ⟨b, o, none⟩)) n) K H = K (.agg (c.extract o (o + n))) H := by
  refine rd_some ?_
  have hle : Nat.ble (o + n) c.size = true := Nat.ble_eq_true_of_le ho
  simp [cellsP, hb, hle]
/-- A store into a block known whole. -/
theorem setCell_blk {H : Hp} {b o : Nat} {c : Array Value} {T : TypeId} {fz : Nat × Nat} {v : Value} (hb : H[b]? = some (.cells c T fz)) :
    (setCellH H ⟨b, o, none⟩ v)[b]? = some (.cells (c.setIfInBounds o v) T fz) := by
  have := blk_lt hb
  have he : H[b] = .cells c T fz := by
    have := Array.getElem?_eq_some_iff.1 hb
    exact this.2
  simp [setCellH, Array.getElem?_modify, hb]
theorem setCell_ne {H : Hp} {a : Addr} {v : Value} {b : Nat} (hn : b ≠ a.block) : (setCellH H a v)[b]? = H[b]? := by
  simp only [setCellH, Array.getElem?_modify]
  rw [if_neg (fun e => hn e.symm)]
theorem setCell_size (H : Hp) (a : Addr) (v : Value) : (setCellH H a v).size = H.size := by simp [setCellH]
theorem ext_set (H : Hp) (a : Addr) (v : Value) : Ext (· = a.block) H (setCellH H a v) :=
  ⟨by rw [setCell_size]; exact Nat.le_refl _, fun b _ hn => setCell_ne hn⟩
/-- A block turned whole. -/
def upd (H : Hp) (b : Nat) (x : Obj) : Hp := H.setIfInBounds b x
theorem upd_size (H : Hp) (b : Nat) (x : Obj) : (upd H b x).size = H.size := by simp [upd]
theorem upd_self {H : Hp} {b : Nat} {x y : Obj} (hb : H[b]? = some y) : (upd H b x)[b]? = some x := by
  have := blk_lt hb
  simp [upd, this]
theorem upd_ne {H : Hp} {b c : Nat} {x : Obj} (hn : c ≠ b) : (upd H b x)[c]? = H[c]? := by
  simp only [upd]; rw [Array.getElem?_setIfInBounds_ne (fun e => hn e.symm)]
theorem ext_upd (H : Hp) (b : Nat) (x : Obj) : Ext (· = b) H (upd H b x) :=
  ⟨by rw [upd_size]; exact Nat.le_refl _, fun c _ hn => upd_ne hn⟩
theorem upd_upd (H : Hp) (b : Nat) (x y : Obj) : upd (upd H b x) b y = upd H b y := by
  simp [upd]
theorem setCell_upd {H : Hp} {b o : Nat} {c : Array Value} {T : TypeId} {fz : Nat × Nat} {v : Value} (hb : H[b]? = some (.cells c T fz)) :
    setCellH H ⟨b, o, none⟩ v = upd H b (.cells (c.setIfInBounds o v) T fz) := by
  apply Array.ext_getElem?
  intro i
  by_cases h : i = b
  · subst h; rw [setCell_blk hb, upd_self hb]
  · rw [setCell_ne h, upd_ne h]
theorem st_blk {H : Hp} {b o : Nat} {c : Array Value} {T : TypeId} {v : Value} {C : HPred} (hb : H[b]? = some (.cells c T (0, 0))) (ho : o < c.size) (hv : oneCell v = true) :
    st (.pointer (some ⟨b, o, none⟩)) v C H = C (upd H b (.cells (c.setIfInBounds o v) T (0, 0))) := by
  have h1 : cellH H ⟨b, o, none⟩ = some (c[o]) := by rw [cell_blk hb]; simp [ho]
  have h2 : frozenH H ⟨b, o, none⟩ = false := by simp [frozenH, hb]
  simp only [st, hv, h1, h2, setCell_upd hb]

/-! ## Calls -/
theorem call_of {f : FuncId} {args : List Value} {R K : Value → HPred} {H : Hp} (h : HC P f args.toArray R H) (hk : ∀ v H', R v H' → K v H') : callF P f args K H := HC.mono h hk

/-! ## Pointers and nil -/
theorem run_underlying {T : TypeId} {d : TypeDesc} {α : Type} {f : TypeDesc → Sem α} {H : Hp} (hT : P.underlying T = some d) :
    readRun P ((underlying T).bind f) H = readRun P (f d) H := by
  show readRun P (Sem.bind ((program).bind _) f) H = _
  simp only [program, Sem.bind, readRun, hT]
  rfl
theorem assocS {α β γ : Type} (s : Sem α) (f : α → Sem β) (g : β → Sem γ) : (s.bind f).bind g = s.bind fun a => (f a).bind g := by
  have := lawful
  exact bind_assoc s f g
theorem eqIn_ptr_nil {T e : TypeId} {a : Option Addr} {H : Hp} (d : Nat) (hT : P.underlying T = some (.pointer e)) (g : Bool → Sem Value) :
    readRun P ((Op.equalIn (d + 1) T (.pointer a) (.pointer none)).bind g) H = readRun P (g a.isNone) H := by
  unfold Op.equalIn
  simp only [bindS, assocS]
  rw [run_underlying hT]
  cases a <;> rfl
theorem ptr_eq_nil {T e : TypeId} {ox oy : Operand} {a : Option Addr} {H : Hp} {K : Value → HPred} (hT : P.underlying T = some (.pointer e)) :
    rd (binR P .eql T ox oy (.pointer a) (.pointer none)) K H = K (.bool a.isNone) H :=
  rd_some (eqIn_ptr_nil 9999 hT fun b => pure (Value.bool b))
theorem ptr_ne_nil {T e : TypeId} {ox oy : Operand} {a : Option Addr} {H : Hp} {K : Value → HPred} (hT : P.underlying T = some (.pointer e)) :
    rd (binR P .neq T ox oy (.pointer a) (.pointer none)) K H = K (.bool (!a.isNone)) H :=
  rd_some (eqIn_ptr_nil 9999 hT fun b => pure (Value.bool (!b)))
theorem len_slice {T e : TypeId} {ty : TypeId} {cs : Array Bool} {a : Option Addr} {n c : Nat} (hT : P.underlying T = some (.slice e)) :
    pureRun P (bltN .len #[T] ty cs [.slice a n c]) = some (.int .i64 n) := by
  simp [bltN, builtin, Builtin.len_, Sem.bind, pureRun, pure, bind, underlying, program, hT, goInt]

end Go.Sx
namespace Go.Sx
variable {P : Program}

/-- A kind of keys. -/
structure KeyKind (κ : Type) [DecidableEq κ] where
  kv : κ → Value
  kd : TypeDesc
  same : ∀ a b, Instr.sameNow kd (kv a) (kv b) = some (decide (a = b))
  bits : ∀ n a, Instr.sameBits (n + 1) (kv a) (kv a) = true
  plain : ∀ (P : Program) (e : Bool) (n : Nat) (t : TypeId) (a : κ) (K : Unit → HPred) (H : Hp), P.underlying t = some kd → semM P (Instr.checkKey e (n + 1) t (kv a)) K H = K () H
  plainR : ∀ (P : Program) (e : Bool) (n : Nat) (t : TypeId) (a : κ) (H : Hp), P.underlying t = some kd → readRun P (Instr.checkKey e (n + 1) t (kv a)) H = some ()
def keyInt : KeyKind Int where
  kv := .int .i64
  kd := .int .i64
  same a b := by simp [Instr.sameNow]; rfl
  bits n a := by simp [Instr.sameBits]
  plain P e n t a K H ht := by
    unfold Instr.checkKey
    simp only [bindS]
    rw [semM_bind, sem_underlying, ht]; rfl
  plainR P e n t a H ht := by
    unfold Instr.checkKey
    simp only [bindS]
    rw [run_underlying ht]; rfl

section
variable {κ : Type} [DecidableEq κ] (kk : KeyKind κ)

/-- The entries of a map, in the order in which they lie. -/
def ents (es : Array MapEntry) : List (Value × Value) := es.toList.map fun e => (e.key, e.val)
/-- The map holds these keys with these values. -/
def Holds (es : Array MapEntry) (m : List (κ × Value)) : Prop := ents es = m.map (fun x => (kk.kv x.1, x.2)) ∧ (m.map (·.1)).Nodup
def mget (m : List (κ × Value)) (k : κ) : Option Value := (m.find? fun x => decide (x.1 = k)).map (·.2)
def mput (m : List (κ × Value)) (k : κ) (v : Value) : List (κ × Value) :=
  if k ∈ m.map (·.1) then m.map fun x => if x.1 = k then (x.1, v) else x else m ++ [(k, v)]
def mdel (m : List (κ × Value)) (k : κ) : List (κ × Value) := m.filter fun x => decide (x.1 ≠ k)

theorem findNow_eq : ∀ (es : List MapEntry) (m : List (κ × Value)) (k : κ) (i : Nat), es.map (fun e => (e.key, e.val)) = m.map (fun x => (kk.kv x.1, x.2)) →
    Instr.findNow kk.kd (kk.kv k) es i = some (match m.findIdx? (fun x => decide (x.1 = k)) with
      | some j => some (i + j, ((m[j]?).map (·.2)).getD undef)
      | none => none)
  | [], [], _, _, _ => rfl
  | [], _ :: _, _, _, h => by simp at h
  | _ :: _, [], _, _, h => by simp at h
  | e :: es, x :: m, k, i, h => by
    simp only [List.map_cons, List.cons.injEq, Prod.mk.injEq] at h
    obtain ⟨⟨h1, h2⟩, h3⟩ := h
    simp only [Instr.findNow, h1, kk.same]
    by_cases hk : k = x.1
    · subst hk
      simp [List.findIdx?_cons, h2]
    · have hk' : ¬ x.1 = k := fun e => hk e.symm
      simp only [hk, decide_false]
      rw [findNow_eq es m k (i + 1) h3]
      simp only [List.findIdx?_cons, hk', decide_false, Bool.false_eq_true, if_false]
      cases hf : m.findIdx? (fun x => decide (x.1 = k)) with
      | none => simp
      | some j => simp; omega
theorem mget_idx (m : List (κ × Value)) (k : κ) : mget m k = (m.findIdx? (fun x => decide (x.1 = k))).bind fun j => (m[j]?).map (·.2) := by
  unfold mget
  induction m with
  | nil => rfl
  | cons x m ih =>
    by_cases hk : x.1 = k
    · simp [List.findIdx?_cons, hk]
    · simp only [List.find?_cons, List.findIdx?_cons, hk, decide_false, Bool.false_eq_true, if_false, ih]
      cases m.findIdx? (fun x => decide (x.1 = k)) <;> simp
theorem findIdx_mem {m : List (κ × Value)} {k : κ} {j : Nat} (h : m.findIdx? (fun x => decide (x.1 = k)) = some j) : ∃ v, m[j]? = some (k, v) := by
  obtain ⟨hl, h1, _⟩ := List.findIdx?_eq_some_iff_getElem.1 h
  have : m[j].1 = k := by simpa using h1
  exact ⟨m[j].2, by rw [List.getElem?_eq_getElem hl]; congr 1; exact Prod.ext this rfl⟩

theorem lookup_map {T K E : TypeId} {b clk : Nat} {es : Array MapEntry} {m : List (κ × Value)} {k : κ} {z : Value} {H : Hp}
    (hT : P.underlying T = some (.map K E)) (hK : P.underlying K = some kk.kd) (hz : (P.info? E).bind (·.zero) = some z)
    (hb : H[b]? = some (.map es clk)) (hm : Holds kk es m) :
    readRun P (Instr.lookup T (.map (some b)) (kk.kv k) false) H = some ((mget m k).getD z) := by
  unfold Instr.lookup
  simp only [bindS]
  rw [run_underlying hT]
  show readRun P (Sem.bind (Sem.bind (getObj b) _) _) H = _
  rw [assocS]
  simp only [getObj, Sem.bind, readRun, hb]
  show readRun P (Sem.bind (Instr.checkKey es.isEmpty 10000 K (kk.kv k)) _) H = _
  have hrb : ∀ {α β : Type} (s : Sem α) (f : α → Sem β) (a : α), readRun P s H = some a → readRun P (s.bind f) H = readRun P (f a) H := by
    intro α β s f a h
    induction s with
    | pure x => simp only [readRun, Option.some.injEq] at h; subst h; rfl
    | load m' x k' ih =>
      simp only [readRun, Sem.bind] at h ⊢
      cases hc : cellH H x with
      | none => rw [hc] at h; cases h
      | some v => rw [hc] at h; exact ih v h
    | shape r k' ih => exact ih _ h
    | frozen x k' ih => exact ih _ h
    | getObj r k' ih =>
      simp only [readRun, Sem.bind] at h ⊢
      split at h
      · cases h
      · rename_i o hne ho; exact ih o h
      · cases h
    | program k' ih => exact ih _ h
    | mark m' k' ih => exact ih h
    | _ => simp [readRun] at h
  rw [hrb _ _ () (kk.plainR P _ 9999 K k H hK)]
  unfold Instr.findKey
  simp only [bindS, assocS]
  rw [run_underlying hK, findNow_eq kk es.toList m k 0 hm.1, mget_idx]
  cases hf : m.findIdx? (fun x => decide (x.1 = k)) with
  | none =>
    simp only [Option.bind_none, Option.getD_none]
    have hzr : readRun P (zeroValue E) H = some z := by
      unfold zeroValue
      simp only [bindS]
      show readRun P (Sem.bind (Sem.bind program _) _) H = _
      simp only [program, Sem.bind, readRun]
      cases hi : P.info? E with
      | none => rw [hi] at hz; cases hz
      | some i =>
        rw [hi] at hz
        simp only [Option.bind_some] at hz
        simp only [Sem.bind, pure, hz, readRun]
    show readRun P (Sem.bind (zeroValue E) _) H = _
    rw [hrb _ _ z hzr]; rfl
  | some j =>
    obtain ⟨v, hv⟩ := findIdx_mem hf
    simp only [hv, Option.map_some, Option.getD_some, Option.bind_some]
    rfl
theorem mput_find {m : List (κ × Value)} {k : κ} : (k ∈ m.map (·.1)) ↔ (m.findIdx? (fun x => decide (x.1 = k))).isSome := by
  rw [List.findIdx?_isSome]
  simp [List.any_eq_true]
theorem holds_put {es : Array MapEntry} {m : List (κ × Value)} {k : κ} {v : Value} {i : Nat} (hm : Holds kk es m) (hf : m.findIdx? (fun x => decide (x.1 = k)) = some i) :
    Holds kk (es.modify i fun e => { e with key := kk.kv k, val := v }) (mput m k v) := by
  have hin : k ∈ m.map (·.1) := mput_find.2 (by rw [hf]; rfl)
  obtain ⟨v0, hv0⟩ := findIdx_mem hf
  obtain ⟨h1, h2⟩ := hm
  unfold mput
  rw [if_pos hin]
  have hkeys : (m.map fun x => if x.1 = k then (x.1, v) else x).map (·.1) = m.map (·.1) := by
    rw [List.map_map]; apply List.map_congr_left; intro x _; simp only [Function.comp]; split <;> rfl
  refine ⟨?_, by rw [hkeys]; exact h2⟩
  have hlen : es.toList.length = m.length := by
    have := congrArg List.length h1
    simpa [ents] using this
  unfold ents
  apply List.ext_getElem?
  intro j
  simp only [Array.toList_modify, List.getElem?_map, List.getElem?_modify]
  have hj := congrArg (fun l => l[j]?) h1
  simp only [ents, List.getElem?_map] at hj
  cases hmj : m[j]? with
  | none =>
    rw [hmj] at hj
    cases he : es.toList[j]? with
    | none => simp
    | some e => rw [he] at hj; cases hj
  | some x =>
    rw [hmj] at hj
    cases he : es.toList[j]? with
    | none => rw [he] at hj; cases hj
    | some e =>
      rw [he] at hj
      simp only [Option.map_some, Option.some.injEq, Prod.mk.injEq] at hj
      by_cases hij : i = j
      · subst hij
        rw [hv0] at hmj
        cases hmj
        simp
      · have hxk : ¬ x.1 = k := by
          intro e
          have hli : i < (m.map (·.1)).length := by
            have := (List.getElem?_eq_some_iff.1 hv0).1; simpa using this
          have hlj : j < (m.map (·.1)).length := by
            have := (List.getElem?_eq_some_iff.1 hmj).1; simpa using this
          apply hij
          have a1 : (m.map (·.1))[i]? = some k := by simp [hv0]
          have a2 : (m.map (·.1))[j]? = some k := by simp [hmj, e]
          exact (List.getElem?_inj hli h2).1 (a1.trans a2.symm)
        simp [hij, hxk, hj.1, hj.2]
theorem holds_push {es : Array MapEntry} {m : List (κ × Value)} {k : κ} {v : Value} {born : Nat} (hm : Holds kk es m) (hf : m.findIdx? (fun x => decide (x.1 = k)) = none) :
    Holds kk (es.push { key := kk.kv k, val := v, born }) (mput m k v) := by
  have hin : ¬ k ∈ m.map (·.1) := fun h => by
    have := mput_find.1 h
    rw [hf] at this; cases this
  obtain ⟨h1, h2⟩ := hm
  unfold mput
  rw [if_neg hin]
  refine ⟨?_, ?_⟩
  · have : ents (es.push { key := kk.kv k, val := v, born }) = ents es ++ [(kk.kv k, v)] := by simp [ents]
    rw [this, h1]; simp
  · rw [List.map_append, List.nodup_append]
    refine ⟨h2, by simp, ?_⟩
    intro a ha b hb e
    simp only [List.map_cons, List.map_nil, List.mem_singleton] at hb
    subst hb; subst e
    exact hin ha
/-- A store of a key's value: the map's block is a map that holds it. -/
theorem update_map {T K E : TypeId} {b clk : Nat} {es : Array MapEntry} {m : List (κ × Value)} {k : κ} {v : Value} {H : Hp} {C : Value → HPred}
    (hT : P.underlying T = some (.map K E)) (hK : P.underlying K = some kk.kd) (hb : H[b]? = some (.map es clk)) (hm : Holds kk es m)
    (hc : ∀ es' clk', Holds kk es' (mput m k v) → C undef (H.setIfInBounds b (.map es' clk'))) :
    unitT P (Instr.mapUpdate T (.map (some b)) (kk.kv k) v) C H := by
  unfold unitT Instr.mapUpdate
  simp only [bindS, semM_bind, sem_underlying, hT]
  show semM P (getObj b) _ H
  simp only [getObj, semM, hb]
  rw [semM_bind]
  rw [kk.plain P _ 9999 K k _ H hK]
  rw [semM_bind]
  unfold Instr.findKey
  simp only [bindS, semM_bind, sem_underlying, hK]
  rw [findNow_eq kk es.toList m k 0 hm.1]
  cases hf : m.findIdx? (fun x => decide (x.1 = k)) with
  | none =>
    simp only [pure, semM, setObj, hb]
    exact hc _ _ (holds_push kk hm hf)
  | some j =>
    obtain ⟨v0, hv⟩ := findIdx_mem hf
    simp only [pure, semM, Nat.zero_add]
    rw [semM_bind]
    have hkey : ((es[j]?).map (·.key)).getD (kk.kv k) = kk.kv k := by
      have := congrArg (fun l => l[j]?) hm.1
      simp only [ents, List.getElem?_map, hv, Option.map_some] at this
      cases he : es[j]? with
      | none => rfl
      | some e =>
        have he' : es.toList[j]? = some e := by simpa using he
        rw [he'] at this
        simp only [Option.map_some, Option.some.injEq, Prod.mk.injEq] at this
        simp [this.1]
    rw [hkey]
    unfold Instr.keyThatStays
    rw [if_pos (kk.bits 9999 k)]
    simp only [pure, semM, setObj, hb]
    exact hc _ _ (holds_put kk hm hf)

theorem map_eraseIdx' {α β : Type} (f : α → β) : ∀ (l : List α) (i : Nat), (l.eraseIdx i).map f = (l.map f).eraseIdx i
  | [], _ => rfl
  | _ :: _, 0 => rfl
  | x :: l, i + 1 => by simp [map_eraseIdx' f l i]
theorem holds_del {es : Array MapEntry} {m : List (κ × Value)} {k : κ} {i : Nat} (hm : Holds kk es m) (hf : m.findIdx? (fun x => decide (x.1 = k)) = some i) :
    Holds kk (es.eraseIdxIfInBounds i) (mdel m k) := by
  obtain ⟨h1, h2⟩ := hm
  have key : ∀ (m : List (κ × Value)) (i : Nat), (m.map (·.1)).Nodup → m.findIdx? (fun x => decide (x.1 = k)) = some i → m.eraseIdx i = mdel m k := by
    intro m
    induction m with
    | nil => intro i _ h; cases h
    | cons x m ih =>
      intro i hn h
      simp only [List.map_cons, List.nodup_cons] at hn
      by_cases hk : x.1 = k
      · simp only [List.findIdx?_cons, hk, decide_true, if_true, Option.some.injEq] at h
        subst h
        simp only [List.eraseIdx_cons_zero]
        unfold mdel
        rw [List.filter_cons_of_neg (by simp [hk])]
        symm
        apply List.filter_eq_self.2
        intro y hy
        simp only [ne_eq, decide_not, Bool.not_eq_eq_eq_not, Bool.not_true, decide_eq_false_iff_not]
        intro e
        exact hn.1 (by rw [hk, ← e]; exact List.mem_map_of_mem hy)
      · simp only [List.findIdx?_cons, hk, decide_false, Bool.false_eq_true, if_false] at h
        cases hf : m.findIdx? (fun x => decide (x.1 = k)) with
        | none => rw [hf] at h; cases h
        | some j =>
          rw [hf] at h
          simp only [Option.map_some, Option.some.injEq] at h
          subst h
          rw [List.eraseIdx_cons_succ, ih j hn.2 hf]
          unfold mdel
          rw [List.filter_cons_of_pos (by simp [hk])]
  refine ⟨?_, ?_⟩
  · rw [← key m i h2 hf]
    have hes : ents (es.eraseIdxIfInBounds i) = (ents es).eraseIdx i := by
      unfold ents
      rw [← map_eraseIdx']
      congr 1
      unfold Array.eraseIdxIfInBounds
      split
      · simp
      · rename_i hlt
        rw [List.eraseIdx_of_length_le (by simpa using hlt)]
    rw [hes, h1, map_eraseIdx']
  · exact (List.Sublist.map _ List.filter_sublist).nodup h2
theorem mdel_none {m : List (κ × Value)} {k : κ} (hf : m.findIdx? (fun x => decide (x.1 = k)) = none) : mdel m k = m := by
  unfold mdel
  apply List.filter_eq_self.2
  intro x hx
  have := List.findIdx?_eq_none_iff.1 hf x hx
  simpa using this
theorem delete_map {T K E ty : TypeId} {cs : Array Bool} {tt : TypeId} {b clk : Nat} {es : Array MapEntry} {m : List (κ × Value)} {k : κ} {H : Hp} {C : Value → HPred}
    (hT : P.underlying T = some (.map K E)) (hK : P.underlying K = some kk.kd) (hb : H[b]? = some (.map es clk)) (hm : Holds kk es m)
    (hc : ∀ es', Holds kk es' (mdel m k) → C (.tuple #[]) (H.setIfInBounds b (.map es' clk))) :
    blt P .delete #[T, tt] ty cs [.map (some b), kk.kv k] C H := by
  unfold blt tot bltN builtin
  simp only [bindS, semM_bind]
  unfold Builtin.delete_
  simp only [bindS, List.getElem?_toArray, List.getElem?_cons_zero, List.getElem?_cons_succ, semM_bind]
  show semM P (underlying T) _ H
  rw [sem_underlying, hT]
  simp only []
  rw [semM_bind]
  simp only [getObj, semM, hb]
  rw [semM_bind, kk.plain P _ 9999 K k _ H hK, semM_bind]
  unfold Instr.findKey
  simp only [bindS, semM_bind, sem_underlying, hK]
  rw [findNow_eq kk es.toList m k 0 hm.1]
  cases hf : m.findIdx? (fun x => decide (x.1 = k)) with
  | none =>
    simp only [pure, semM]
    show semM P (Sem.setObj b (.map es clk) (Sem.pure (Value.tuple #[]))) C H
    simp only [semM, hb]
    exact hc _ (by rw [mdel_none hf]; exact hm)
  | some j =>
    simp only [pure, semM, Nat.zero_add]
    show semM P (Sem.setObj b (.map (es.eraseIdxIfInBounds j) clk) (Sem.pure (Value.tuple #[]))) C H
    simp only [semM, hb]
    exact hc _ (holds_del kk hm hf)
theorem len_map {T K E ty : TypeId} {cs : Array Bool} {b clk : Nat} {es : Array MapEntry} {m : List (κ × Value)} {H : Hp}
    (hT : P.underlying T = some (.map K E)) (hb : H[b]? = some (.map es clk)) (hm : Holds kk es m) :
    readRun P (bltN .len #[T] ty cs [.map (some b)]) H = some (.int .i64 m.length) := by
  have hl : es.size = m.length := by
    have := congrArg List.length hm.1
    simpa [ents] using this
  unfold bltN builtin
  simp only [bindS]
  rw [assocS]
  unfold Builtin.len_
  simp only [bindS]
  show readRun P (Sem.bind (Sem.bind (underlying T) _) _) H = _
  rw [assocS, run_underlying hT]
  show readRun P (Sem.bind (Sem.bind (getObj b) _) _) H = _
  simp only [getObj, Sem.bind, readRun, hb, pure, goInt, hl]
end

end Go.Sx
namespace Go.Sx
variable {P : Program}

/-- Cells laid over others from a place on. -/
def over' (c : Array Value) (o : Nat) : List Value → Array Value
  | [] => c
  | v :: vs => over' (c.setIfInBounds o v) (o + 1) vs
theorem over'_size : ∀ (vs : List Value) (c : Array Value) (o : Nat), (over' c o vs).size = c.size
  | [], _, _ => rfl
  | v :: vs, c, o => by rw [over', over'_size vs]; simp
theorem over'_get : ∀ (vs : List Value) (c : Array Value) (o i : Nat), o + vs.length ≤ c.size → (over' c o vs)[i]? = if o ≤ i ∧ i < o + vs.length then vs[i - o]? else c[i]?
  | [], c, o, i, _ => by
    simp only [over', List.length_nil, Nat.add_zero]
    rw [if_neg (by omega)]
  | v :: vs, c, o, i, h => by
    simp only [List.length_cons] at h
    rw [over', over'_get vs _ _ _ (by simp; omega)]
    simp only [List.length_cons]
    by_cases h1 : o + 1 ≤ i ∧ i < o + 1 + vs.length
    · rw [if_pos h1, if_pos (by omega)]
      obtain ⟨j, hj⟩ : ∃ j, i - o = j + 1 := ⟨i - o - 1, by omega⟩
      rw [hj, show i - (o + 1) = j from by omega]; simp
    · rw [if_neg h1]
      by_cases h2 : i = o
      · subst h2
        rw [if_pos (by omega)]
        simp [Array.getElem?_setIfInBounds_self]
        omega
      · rw [if_neg (by omega), Array.getElem?_setIfInBounds_ne (fun e => h2 e.symm)]
theorem storeCells_upd {b o : Nat} {T : TypeId} : ∀ (vs : List Value) (i : Nat) (c : Array Value) (K : Unit → HPred) (H : Hp), H[b]? = some (.cells c T (0, 0)) → o + i + vs.length ≤ c.size →
    (∀ v ∈ vs, oneCell v = true) → semM P (storeCells ⟨b, o, none⟩ vs i) K H = K () (match vs with | [] => H | _ => upd H b (.cells (over' c (o + i) vs) T (0, 0))) := by
  intro vs
  induction vs with
  | nil => intro i c K H _ _ _; rfl
  | cons v vs ih =>
    intro i c K H hb hle hone
    simp only [List.length_cons] at hle
    have hv := hone v List.mem_cons_self
    show semM P ((store (Addr.add ⟨b, o, none⟩ i) v).bind _) K H = _
    rw [semM_bind, add_mk]
    have h1 : cellH H ⟨b, o + i, none⟩ = some (c[o + i]'(by omega)) := by rw [cell_blk hb]; simp
    have h2 : frozenH H ⟨b, o + i, none⟩ = false := by simp [frozenH, hb]
    simp only [store, semM, hv, h1, h2, setCell_upd hb]
    have hb' : (upd H b (.cells (c.setIfInBounds (o + i) v) T (0, 0)))[b]? = some (.cells (c.setIfInBounds (o + i) v) T (0, 0)) := upd_self hb
    rw [ih (i + 1) _ K _ hb' (by simp; omega) (fun x hx => hone x (List.mem_cons_of_mem _ hx))]
    cases vs with
    | nil => rfl
    | cons w ws =>
      simp only [upd_upd]
      rfl

/-- A slice that has a block of its own, with n elements of sz cells each, the cells cs. -/
structure OwnS (H : Hp) (v : Value) (E : TypeId) (sz n : Nat) (cs : List Value) (bk : Option Nat) : Prop where
  len : cs.length = n * sz
  is : (bk = none ∧ n = 0 ∧ v = .slice none 0 0) ∨ ∃ b c cap, bk = some b ∧ v = .slice (some ⟨b, 0, none⟩) n cap ∧ H[b]? = some (.cells c E (0, 0)) ∧ c.size = cap * sz ∧ n ≤ cap ∧
    ∀ i, i < n * sz → c[i]? = cs[i]?
theorem OwnS.ext {S : Nat → Prop} {H H' : Hp} {v : Value} {E : TypeId} {sz n : Nat} {cs : List Value} {bk : Option Nat} (h : OwnS H v E sz n cs bk) (hx : Ext S H H') (hn : ∀ b, bk = some b → ¬ S b) :
    OwnS H' v E sz n cs bk := by
  refine ⟨h.len, ?_⟩
  rcases h.is with h1 | ⟨b, c, cap, rfl, h2, h3, h4⟩
  · exact .inl h1
  · exact .inr ⟨b, c, cap, rfl, h2, hx.blk h3 (hn b rfl), h4⟩
theorem OwnS.nil (H : Hp) (E : TypeId) (sz : Nat) : OwnS H (.slice none 0 0) E sz 0 [] none := ⟨by simp, .inl ⟨rfl, rfl, rfl⟩⟩
theorem OwnS.lt {H : Hp} {v : Value} {E : TypeId} {sz n : Nat} {cs : List Value} {b : Nat} (h : OwnS H v E sz n cs (some b)) : b < H.size := by
  rcases h.is with ⟨h1, _⟩ | ⟨b', c, cap, h1, _, h3, _⟩
  · cases h1
  · cases h1; exact blk_lt h3
/-- What lies in a slice of whatever make, to be read. -/
structure Lies (H : Hp) (v : Value) (E : TypeId) (sz n : Nat) (cs : List Value) : Prop where
  len : cs.length = n * sz
  is : (n = 0 ∧ ∃ cap, v = .slice none 0 cap) ∨ ∃ b o c cap T fz, v = .slice (some ⟨b, o, none⟩) n cap ∧ H[b]? = some (.cells c T fz) ∧ o + n * sz ≤ c.size ∧
    ∀ i, i < n * sz → c[o + i]? = cs[i]?
theorem OwnS.lies {H : Hp} {v : Value} {E : TypeId} {sz n : Nat} {cs : List Value} {bk : Option Nat} (h : OwnS H v E sz n cs bk) : Lies H v E sz n cs := by
  refine ⟨h.len, ?_⟩
  rcases h.is with ⟨_, h2, h3⟩ | ⟨b, c, cap, _, h2, h3, h4, h5, h6⟩
  · exact .inl ⟨h2, 0, h3⟩
  · refine .inr ⟨b, 0, c, cap, E, (0, 0), h2, h3, ?_, fun i hi => by rw [Nat.zero_add]; exact h6 i hi⟩
    rw [h4]; simpa using Nat.mul_le_mul_right sz h5
theorem lies_extract {c : Array Value} {cs : List Value} {o n : Nat} (hl : cs.length = n) (hle : o + n ≤ c.size) (h : ∀ i, i < n → c[o + i]? = cs[i]?) : (c.extract o (o + n)).toList = cs := by
  apply List.ext_getElem?
  intro i
  by_cases hi : i < n
  · rw [← h i hi, Array.getElem?_toList, Array.getElem?_extract, if_pos (by omega)]
  · rw [List.getElem?_eq_none (by simp; omega), List.getElem?_eq_none (by omega)]
theorem firstCells_lies {H : Hp} {v : Value} {E : TypeId} {sz n : Nat} {cs : List Value} {K : Array Value → HPred} (h : Lies H v E sz n cs) (hk : K cs.toArray H) :
    semM P (Builtin.firstCells sz n v) K H := by
  rcases h.is with ⟨h1, cap, rfl⟩ | ⟨b, o, c, cap, T, fz, rfl, hb, hle, hc⟩
  · have : cs = [] := List.eq_nil_of_length_eq_zero (by rw [h.len, h1]; simp)
    subst this; exact hk
  · show semM P (loadCellsFrom ⟨b, o, none⟩ 0 (n * sz) #[]) K H
    refine loadCells_sound (a := ⟨b, o, none⟩) rfl hb (n * sz) 0 #[] K (by simpa using hle) ?_
    have := lies_extract h.len hle hc
    have he : (#[] ++ c.extract (o + 0) (o + 0 + n * sz) : Array Value) = cs.toArray := by
      apply Array.ext'; simp only [Nat.add_zero, Array.toList_append, List.nil_append, this]
    rw [show ((⟨b, o, none⟩ : Addr).off + 0) = o + 0 from rfl, show ((⟨b, o, none⟩ : Addr).off + 0 + n * sz) = o + 0 + n * sz from rfl, he]
    exact hk
theorem grow_le (n : Nat) : ∀ (r c : Nat), c ≤ n → Builtin.growBy n r c ≤ n + (n + 768) / 4
  | 0, c, h => by simp only [Builtin.growBy]; omega
  | r + 1, c, h => by
    simp only [Builtin.growBy]
    split
    · omega
    · by_cases h1 : c + (c + 768) / 4 ≤ n
      · exact grow_le n r _ h1
      · have : ∀ r d, n ≤ d → d ≤ n + (n + 768) / 4 → Builtin.growBy n r d ≤ n + (n + 768) / 4 := by
          intro r d h2 h3
          cases r with
          | zero => exact h3
          | succ r => simp only [Builtin.growBy]; rw [if_pos h2]; exact h3
        exact this r _ (by omega) (by omega)
theorem nextcap_le (n c : Nat) (h : c < n) : Builtin.nextslicecap n c ≤ 2 * n + 192 := by
  unfold Builtin.nextslicecap
  split
  · omega
  · split
    · omega
    · have := grow_le n 4 c (by omega); omega

/-- append to a slice that is owned, of what lies in another one. -/
theorem append_own {sT xT E : TypeId} {i : TypeInfo} {z : Value} {ty : TypeId} {ks : Array Bool} {v x : Value} {sz n k : Nat} {cs new : List Value} {bk : Option Nat} {H : Hp} {K : Value → HPred} {T' : TypeId}
    (hT : P.underlying sT = some (.slice E)) (hX : ∃ d, P.underlying xT = some d ∧ ∀ q, d ≠ .int q) (hi : P.info? E = some i) (hsz : i.size = sz) (hz : i.zero = some z) (hzs : z.cells.size = sz) (h1 : 1 ≤ sz) (hby : 1 ≤ i.bytes)
    (ho : OwnS H v E sz n cs bk) (hx : Lies H x T' sz k new) (hone : ∀ c ∈ new, oneCell c = true) (hbig : (2 * (n + k) + 192) * i.bytes ≤ 2 ^ 48)
    (hk : ∀ v' H' bk', OwnS H' v' E sz (n + k) (cs ++ new) bk' → Ext (fun b => bk = some b) H H' → (bk' = bk ∨ ∃ b, bk' = some b ∧ H.size ≤ b) → K v' H') :
    blt P .append #[sT, xT] ty ks [v, x] K H := by
  obtain ⟨d, hX, hd⟩ := hX
  have hxl : ∀ (K : Nat → HPred), semM P (Builtin.lenOf x) K H = K k H := by
    intro K
    rcases hx.is with ⟨rfl, cap, rfl⟩ | ⟨b, o, c, cap, T, fz, rfl, _⟩ <;> rfl
  have hv : ∃ a cap, v = .slice a n cap ∧ ((a = none ∧ bk = none ∧ n = 0 ∧ cap = 0) ∨ ∃ b c, a = some ⟨b, 0, none⟩ ∧ bk = some b ∧ H[b]? = some (.cells c E (0, 0)) ∧ c.size = cap * sz ∧ n ≤ cap ∧ ∀ i, i < n * sz → c[i]? = cs[i]?) := by
    rcases ho.is with ⟨h2, h3, h4⟩ | ⟨b, c, cap, h2, h3, h4, h5, h6, h7⟩
    · exact ⟨none, 0, by rw [h4, h3], .inl ⟨rfl, h2, h3, rfl⟩⟩
    · exact ⟨_, cap, h3, .inr ⟨b, c, rfl, h2, h4, h5, h6, h7⟩⟩
  obtain ⟨a, cap, rfl, hmk⟩ := hv
  unfold blt tot bltN builtin
  simp only [bindS, semM_bind]
  unfold Builtin.append_
  simp only [bindS, List.getElem?_toArray, List.getElem?_cons_zero, List.getElem?_cons_succ, semM_bind]
  show semM P (underlying sT) _ H
  rw [sem_underlying, hT]
  simp only [semM_bind, sem_sizeOf, hi, hsz, sem_underlying, hX]
  have hq : ∀ q, d = .int q → False := hd
  simp only [pure, semM, Bool.false_eq_true, if_false, Bool.not_false, if_true]
  by_cases hcap : n + k ≤ cap
  · -- there is room
    rw [semM_bind, hxl, if_pos hcap, semM_bind]
    refine firstCells_lies hx ?_
    rcases hmk with ⟨rfl, rfl, rfl, rfl⟩ | ⟨b, c, rfl, rfl, hb, hcs, hn, hci⟩
    · have hk0 : k = 0 := by omega
      subst hk0
      have hnew : new = [] := List.eq_nil_of_length_eq_zero (by rw [hx.len]; simp)
      subst hnew
      have hcs0 : cs = [] := List.eq_nil_of_length_eq_zero (by rw [ho.len]; simp)
      subst hcs0
      exact hk _ H none (OwnS.nil H E sz) (Ext.refl _ H) (.inl rfl)
    · show semM P ((storeCells (Addr.add ⟨b, 0, none⟩ (n * sz)) new.toArray.toList).bind _) _ H
      have hle : 0 + n * sz + 0 + new.length ≤ c.size := by
        rw [hx.len, hcs]
        have : (n + k) * sz ≤ cap * sz := Nat.mul_le_mul_right sz hcap
        rw [Nat.add_mul] at this
        omega
      rw [semM_bind, add_mk, List.toList_toArray, storeCells_upd new 0 c _ H hb hle hone]
      have hadd : (n + k) * sz = n * sz + k * sz := Nat.add_mul _ _ _
      have hlen : (cs ++ new).length = (n + k) * sz := by rw [List.length_append, ho.len, hx.len, hadd]
      cases new with
      | nil =>
        have hk0 : k = 0 := by
          have := hx.len
          simp only [List.length_nil] at this
          rcases Nat.mul_eq_zero.1 this.symm with h | h
          · exact h
          · omega
        subst hk0
        refine hk _ H (some b) ⟨hlen, .inr ⟨b, c, cap, rfl, rfl, hb, hcs, by omega, fun i hi => ?_⟩⟩ (Ext.refl _ H) (.inl rfl)
        simp only [List.append_nil]
        exact hci i (by simpa using hi)
      | cons w ws =>
        refine hk _ _ (some b) ⟨hlen, .inr ⟨b, _, cap, rfl, rfl, upd_self hb, by rw [over'_size, hcs], hcap, fun i hi => ?_⟩⟩ ((ext_upd H b _).mono fun _ _ e => by rw [e]) (.inl rfl)
        rw [over'_get _ _ _ _ (by omega)]
        have hxl' : (w :: ws).length = k * sz := hx.len
        by_cases h2 : n * sz ≤ i
        · rw [if_pos (by omega), List.getElem?_append_right (by rw [ho.len]; exact h2), ho.len]
          congr 1; omega
        · rw [if_neg (by omega), List.getElem?_append_left (by rw [ho.len]; omega)]
          exact hci i (by omega)
  · -- a new block
    have hlt : cap < n + k := by omega
    have hnc := nextcap_le (n + k) cap hlt
    rw [semM_bind, hxl, if_neg hcap, semM_bind, sem_typeInfo, hi]
    simp only []
    rw [if_neg (by rintro ⟨_, h3 | h3⟩ <;> first | exact h3.elim | omega), semM_bind, sem_typeInfo, hi]
    simp only []
    have hle : Builtin.nextslicecap (n + k) cap * i.bytes ≤ 2 ^ 48 := Nat.le_trans (Nat.mul_le_mul_right _ hnc) hbig
    rw [if_neg (by omega), semM_bind]
    show semM P (choose _) _ H
    simp only [choose, semM, Question.forced]
    intro t
    have hge : n + k ≤ (Question.appendCap (n + k) cap E).cut t := by simp only [Question.cut]; omega
    generalize (Question.appendCap (n + k) cap E).cut t = nc at hge
    rw [semM_bind, sem_typeInfo, hi]
    simp only []
    rw [semM_bind]
    have hroom : ∀ (m : Nat) (K : Unit → HPred) (H : Hp), semM P (askRoom m) K H = K () H := by
      intro m K H
      unfold askRoom
      split <;> rfl
    rw [hroom, semM_bind]
    have hold : Lies H (.slice a n cap) E sz n cs := ho.lies
    refine firstCells_lies hold ?_
    rw [semM_bind]
    refine firstCells_lies hx ?_
    rw [semM_bind, sem_zeroValue, hi]
    simp only [Option.bind_some, hz]
    rw [semM_bind]
    show semM P ((newObj _).bind _) _ H
    rw [semM_bind]
    simp only [newObj, semM]
    have hadd : (n + k) * sz = n * sz + k * sz := Nat.add_mul _ _ _
    have hlen : (cs ++ new).length = (n + k) * sz := by rw [List.length_append, ho.len, hx.len, hadd]
    have hzc : (Builtin.zeroCells z.cells (nc - (n + k))).size = (nc - (n + k)) * sz := by simp [Builtin.zeroCells, hzs]
    refine hk _ _ (some H.size) ⟨hlen, .inr ⟨H.size, _, nc, rfl, rfl, push_new H _, ?_, hge, fun j hj => ?_⟩⟩ (ext_push _ H _) (.inr ⟨_, rfl, Nat.le_refl _⟩)
    · simp only [Array.size_append, List.size_toArray, ho.len, hx.len, hzc]
      rw [← Nat.add_mul, ← Nat.add_mul]; congr 1; omega
    · have hj' : j < (cs ++ new).length := by omega
      have e1 : (cs.toArray ++ new.toArray : Array Value) = (cs ++ new).toArray := by simp
      rw [e1, Array.getElem?_append_left (by simpa using hj')]
      simp

theorem slice_hi {T E : TypeId} {i : TypeInfo} {b o n cap : Nat} {k : IntKind} {h : Int} (hT : P.underlying T = some (.slice E)) (hi : P.info? E = some i) (h0 : 0 ≤ h) (h1 : h ≤ cap) :
    pureRun P (Instr.sliceAt T (.slice (some ⟨b, o, none⟩) n cap) none (some (.int k h)) none) = some (.slice (some ⟨b, o, none⟩) h.toNat cap) := by
  unfold Instr.sliceAt
  simp only [bindS]
  have hu : ∀ {α : Type} (f : TypeDesc → Sem α), pureRun P ((underlying T).bind f) = pureRun P (f (.slice E)) := by
    intro α f
    show pureRun P (Sem.bind ((program).bind _) f) = _
    simp only [program, Sem.bind, pureRun, hT]; rfl
  have hs : ∀ {α : Type} (f : Nat → Sem α), pureRun P ((sizeOf E).bind f) = pureRun P (f i.size) := by
    intro α f
    show pureRun P (Sem.bind ((typeInfo E).bind _) f) = _
    show pureRun P (Sem.bind (Sem.bind ((program).bind _) _) f) = _
    simp only [program, Sem.bind, pureRun, hi]; rfl
  rw [hu]
  unfold Instr.slice
  simp only [bindS]
  rw [hu]
  simp only [Instr.sliceBounds, Instr.sliceBound, asIntOf, bindS, pure, Sem.bind, h0, h1, and_self, if_true]
  rw [hs]
  simp only [pureRun, Nat.zero_mul, Nat.sub_zero, Option.map_some, add_mk, Nat.add_zero, ite_self]

end Go.Sx
namespace Go.Sx
variable {P : Program}

theorem run_und {T : TypeId} {d : TypeDesc} {α : Type} (hT : P.underlying T = some d) (f : TypeDesc → Sem α) : pureRun P ((underlying T).bind f) = pureRun P (f d) := by
  show pureRun P (Sem.bind ((program).bind _) f) = _
  simp only [program, Sem.bind, pureRun, hT]; rfl
theorem run_size {E : TypeId} {i : TypeInfo} {α : Type} (hi : P.info? E = some i) (f : Nat → Sem α) : pureRun P ((sizeOf E).bind f) = pureRun P (f i.size) := by
  show pureRun P (Sem.bind ((typeInfo E).bind _) f) = _
  show pureRun P (Sem.bind (Sem.bind ((program).bind _) _) f) = _
  simp only [program, Sem.bind, pureRun, hi]; rfl
/-- Where a slice of a slice begins. -/
def cutA (a : Option Addr) (cap l sz : Nat) : Option Addr := if cap = l then a else a.map (·.add (l * sz))
theorem slice_lohi {T E : TypeId} {i : TypeInfo} {a : Option Addr} {n cap : Nat} {k k' : IntKind} {l h : Int} (hT : P.underlying T = some (.slice E)) (hi : P.info? E = some i) (h0 : 0 ≤ l) (h1 : l ≤ h) (h2 : h ≤ cap) :
    pureRun P (Instr.sliceAt T (.slice a n cap) (some (.int k l)) (some (.int k' h)) none) = some (.slice (cutA a cap l.toNat i.size) (h.toNat - l.toNat) (cap - l.toNat)) := by
  have e1 : 0 ≤ h ∧ h ≤ cap := ⟨by omega, h2⟩
  have e2 : 0 ≤ l ∧ l ≤ h.toNat := ⟨h0, by omega⟩
  unfold Instr.sliceAt
  simp only [bindS]
  rw [run_und hT]
  unfold Instr.slice
  simp only [bindS]
  rw [run_und hT]
  simp only [Instr.sliceBounds, Instr.sliceBound, asIntOf, bindS, pure, Sem.bind, e1, e2, and_self, if_true]
  rw [run_size hi]
  rfl
theorem slice_lo {T E : TypeId} {i : TypeInfo} {a : Option Addr} {n cap : Nat} {k : IntKind} {l : Int} (hT : P.underlying T = some (.slice E)) (hi : P.info? E = some i) (h0 : 0 ≤ l) (h1 : l ≤ n) :
    pureRun P (Instr.sliceAt T (.slice a n cap) (some (.int k l)) none none) = some (.slice (cutA a cap l.toNat i.size) (n - l.toNat) (cap - l.toNat)) := by
  have e2 : 0 ≤ l ∧ l ≤ n := ⟨h0, h1⟩
  unfold Instr.sliceAt
  simp only [bindS]
  rw [run_und hT]
  unfold Instr.slice
  simp only [bindS]
  rw [run_und hT]
  simp only [Instr.sliceBounds, Instr.sliceBound, asIntOf, bindS, pure, Sem.bind, e2, and_self, if_true]
  rw [run_size hi]
  rfl
theorem slice_hi' {T E : TypeId} {i : TypeInfo} {a : Option Addr} {n cap : Nat} {k : IntKind} {h : Int} (hT : P.underlying T = some (.slice E)) (hi : P.info? E = some i) (h0 : 0 ≤ h) (h1 : h ≤ cap) :
    pureRun P (Instr.sliceAt T (.slice a n cap) none (some (.int k h)) none) = some (.slice (cutA a cap 0 i.size) (h.toNat - 0) (cap - 0)) := by
  have e2 : 0 ≤ h ∧ h ≤ cap := ⟨h0, h1⟩
  unfold Instr.sliceAt
  simp only [bindS]
  rw [run_und hT]
  unfold Instr.slice
  simp only [bindS]
  rw [run_und hT]
  simp only [Instr.sliceBounds, Instr.sliceBound, asIntOf, bindS, pure, Sem.bind, e2, and_self, if_true]
  rw [run_size hi]
  rfl
/-- A slice of what lies there. -/
theorem Lies.cut {H : Hp} {a : Option Addr} {E : TypeId} {sz n cap : Nat} {cs : List Value} (hl : Lies H (.slice a n cap) E sz n cs) {l h : Nat} (hcap : n ≤ cap) (h1 : l ≤ h) (h2 : h ≤ n) :
    Lies H (.slice (cutA a cap l sz) (h - l) (cap - l)) E sz (h - l) ((cs.drop (l * sz)).take ((h - l) * sz)) := by
  have hlen : ((cs.drop (l * sz)).take ((h - l) * sz)).length = (h - l) * sz := by
    have e : l * sz + (h - l) * sz = h * sz := by rw [← Nat.add_mul]; congr 1; omega
    have : h * sz ≤ n * sz := Nat.mul_le_mul_right _ h2
    rw [List.length_take, List.length_drop, hl.len]
    omega
  refine ⟨hlen, ?_⟩
  rcases hl.is with ⟨hn, cap', e⟩ | ⟨b, o, c, cap', T, fz, e, hb, hle, hc⟩
  · cases e
    left
    refine ⟨by omega, cap - l, ?_⟩
    unfold cutA
    split
    · rw [show h - l = 0 by omega]
    · rw [show h - l = 0 by omega]; rfl
  · cases e
    right
    have hsz : (h - l) * sz + l * sz ≤ n * sz := by
      rw [← Nat.add_mul]; exact Nat.mul_le_mul_right _ (by omega)
    unfold cutA
    split
    · refine ⟨b, o, c, cap - l, T, fz, rfl, hb, by omega, fun i hi => ?_⟩
      have : h - l = 0 := by omega
      rw [this, Nat.zero_mul] at hi; omega
    · refine ⟨b, o + l * sz, c, cap - l, T, fz, ?_, hb, by omega, fun i hi => ?_⟩
      · simp only [Option.map_some, add_mk]
      · rw [List.getElem?_take, if_pos hi, List.getElem?_drop, ← hc _ (by omega), Nat.add_assoc]

/-! ## Lists of elements -/
section
variable {α : Type} {enc : α → List Value} {sz : Nat}
theorem flat_len (he : ∀ x, (enc x).length = sz) : ∀ xs : List α, (xs.flatMap enc).length = xs.length * sz
  | [] => by simp
  | x :: xs => by rw [List.flatMap_cons, List.length_append, flat_len he xs, he, List.length_cons, Nat.succ_mul, Nat.add_comm]
theorem flat_get (he : ∀ x, (enc x).length = sz) : ∀ {xs : List α} {i j : Nat} {x : α}, xs[i]? = some x → j < sz → (xs.flatMap enc)[i * sz + j]? = (enc x)[j]?
  | [], _, _, _, h, _ => by simp at h
  | y :: xs, 0, j, x, h, hj => by
    simp at h; subst h
    rw [List.flatMap_cons, List.getElem?_append_left (by rw [he]; omega)]; simp
  | y :: xs, i + 1, j, x, h, hj => by
    rw [List.flatMap_cons, List.getElem?_append_right (by rw [he, Nat.succ_mul]; omega), he]
    rw [show (i + 1) * sz + j - sz = i * sz + j by rw [Nat.succ_mul]; omega]
    exact flat_get he (by simpa using h) hj
theorem flat_take (he : ∀ x, (enc x).length = sz) (xs : List α) (l h : Nat) : ((xs.flatMap enc).drop (l * sz)).take ((h - l) * sz) = (((xs.drop l).take (h - l)).flatMap enc) := by
  have hd : ∀ (l : Nat) (xs : List α), (xs.flatMap enc).drop (l * sz) = (xs.drop l).flatMap enc := by
    intro l
    induction l with
    | zero => intro xs; simp
    | succ l ih =>
      intro xs
      cases xs with
      | nil => simp
      | cons x xs =>
        rw [List.flatMap_cons, List.drop_append, List.drop_of_length_le (by rw [he, Nat.succ_mul]; omega), he, List.nil_append, show (l + 1) * sz - sz = l * sz by rw [Nat.succ_mul]; omega, ih]; rfl
  have ht : ∀ (l : Nat) (xs : List α), (xs.flatMap enc).take (l * sz) = (xs.take l).flatMap enc := by
    intro l
    induction l with
    | zero => intro xs; simp
    | succ l ih =>
      intro xs
      cases xs with
      | nil => simp
      | cons x xs =>
        rw [List.flatMap_cons, List.take_append, List.take_of_length_le (by rw [he, Nat.succ_mul]; omega), he, show (l + 1) * sz - sz = l * sz by rw [Nat.succ_mul]; omega, ih, List.take_succ_cons, List.flatMap_cons]
  rw [hd, ht]
/-- An element of a slice that has a block of its own. -/
theorem OwnS.at {H : Hp} {v : Value} {E : TypeId} {xs : List α} {bk : Option Nat} (he : ∀ x, (enc x).length = sz) (h : OwnS H v E sz xs.length (xs.flatMap enc) bk) {i : Nat} {x : α} (hi : xs[i]? = some x) :
    ∃ b c cap, bk = some b ∧ v = .slice (some ⟨b, 0, none⟩) xs.length cap ∧ H[b]? = some (.cells c E (0, 0)) ∧ c.size = cap * sz ∧ i < xs.length ∧ i * sz + sz ≤ c.size ∧ ∀ j, j < sz → c[i * sz + j]? = (enc x)[j]? := by
  have hil := (List.getElem?_eq_some_iff.1 hi).1
  rcases h.is with ⟨_, h2, _⟩ | ⟨b, c, cap, h1, h2, h3, h4, h5, h6⟩
  · omega
  · have hm : (i + 1) * sz ≤ xs.length * sz := Nat.mul_le_mul_right _ hil
    have hm2 : xs.length * sz ≤ cap * sz := Nat.mul_le_mul_right _ h5
    rw [Nat.succ_mul] at hm
    refine ⟨b, c, cap, h1, h2, h3, h4, hil, by omega, fun j hj => ?_⟩
    rw [h6 _ (by omega), flat_get he hi hj]
/-- An element of a slice of whatever make. -/
theorem Lies.at {H : Hp} {v : Value} {E : TypeId} {xs : List α} (he : ∀ x, (enc x).length = sz) (h : Lies H v E sz xs.length (xs.flatMap enc)) {i : Nat} {x : α} (hi : xs[i]? = some x) :
    ∃ b o c cap T fz, v = .slice (some ⟨b, o, none⟩) xs.length cap ∧ H[b]? = some (.cells c T fz) ∧ i < xs.length ∧ o + (i * sz + sz) ≤ c.size ∧ ∀ j, j < sz → c[o + (i * sz + j)]? = (enc x)[j]? := by
  have hil := (List.getElem?_eq_some_iff.1 hi).1
  rcases h.is with ⟨h2, _⟩ | ⟨b, o, c, cap, T, fz, h2, h3, h4, h6⟩
  · omega
  · have hm : (i + 1) * sz ≤ xs.length * sz := Nat.mul_le_mul_right _ hil
    rw [Nat.succ_mul] at hm
    refine ⟨b, o, c, cap, T, fz, h2, h3, hil, by omega, fun j hj => ?_⟩
    rw [h6 _ (by omega), flat_get he hi hj]
theorem flat_set (he : ∀ x, (enc x).length = sz) : ∀ {xs : List α} {i j : Nat} {x y : α} {w : Value}, xs[i]? = some x → j < sz → enc y = (enc x).set j w → (xs.flatMap enc).set (i * sz + j) w = (xs.set i y).flatMap enc
  | [], _, _, _, _, _, h, _, _ => by simp at h
  | z :: xs, 0, j, x, y, w, h, hj, hy => by
    simp at h; subst h
    simp only [List.flatMap_cons, List.set_cons_zero, Nat.zero_mul, Nat.zero_add]
    rw [List.set_append_left _ _ (by rw [he]; omega), hy]
  | z :: xs, i + 1, j, x, y, w, h, hj, hy => by
    simp only [List.flatMap_cons, List.set_cons_succ]
    rw [List.set_append_right _ _ (by rw [he, Nat.succ_mul]; omega), he, show (i + 1) * sz + j - sz = i * sz + j by rw [Nat.succ_mul]; omega, flat_set he (by simpa using h) hj hy]
/-- A cell of an element is written. -/
theorem OwnS.put {H : Hp} {E : TypeId} {n cap b : Nat} {c : Array Value} {cs : List Value} {w : Value} {k : Nat} (h : OwnS H (.slice (some ⟨b, 0, none⟩) n cap) E sz n cs (some b)) (hb : H[b]? = some (.cells c E (0, 0))) (hk : k < n * sz) :
    OwnS (upd H b (.cells (c.setIfInBounds k w) E (0, 0))) (.slice (some ⟨b, 0, none⟩) n cap) E sz n (cs.set k w) (some b) := by
  refine ⟨by rw [List.length_set]; exact h.len, ?_⟩
  rcases h.is with ⟨h1, _⟩ | ⟨b', c', cap', h1, h2, h3, h4, h5, h6⟩
  · cases h1
  · cases h1
    cases h2
    have : c' = c := by rw [hb] at h3; cases h3; rfl
    subst this
    refine .inr ⟨b, _, cap, rfl, rfl, upd_self hb, by simpa using h4, h5, fun i hi => ?_⟩
    have hm2 : n * sz ≤ cap * sz := Nat.mul_le_mul_right _ h5
    rw [Array.getElem?_setIfInBounds, List.getElem?_set]
    by_cases e : k = i
    · subst e
      have := h.len
      rw [if_pos rfl, if_pos rfl, if_pos (by omega), if_pos (by omega)]
    · rw [if_neg e, if_neg e, h6 i hi]
end
theorem lies_new (H : Hp) (ns : Array Value) (E : TypeId) (sz k : Nat) (hk : ns.size = k * sz) : Lies (H.push (.cells ns E)) (.slice (some ⟨H.size, 0, none⟩) k k) E sz k ns.toList :=
  ⟨by simpa using hk, .inr ⟨H.size, 0, ns, k, E, (0, 0), rfl, push_new _ _, by omega, fun i hi => by simp⟩⟩
theorem own_new (H : Hp) (ns : Array Value) (E : TypeId) (sz k : Nat) (hk : ns.size = k * sz) : OwnS (H.push (.cells ns E)) (.slice (some ⟨H.size, 0, none⟩) k k) E sz k ns.toList (some H.size) :=
  ⟨by simpa using hk, .inr ⟨H.size, ns, k, rfl, rfl, push_new _ _, hk, Nat.le_refl _, fun i hi => by simp⟩⟩
theorem OwnS.one {H : Hp} {v : Value} {E : TypeId} {sz n : Nat} {cs : List Value} {bk : Option Nat} (h : OwnS H v E sz n cs bk) : oneCell v = true := by
  rcases h.is with ⟨_, _, h4⟩ | ⟨_, _, _, _, h4, _⟩ <;> rw [h4] <;> rfl
theorem OwnS.shape {H : Hp} {v : Value} {E : TypeId} {sz n : Nat} {cs : List Value} {bk : Option Nat} (h : OwnS H v E sz n cs bk) : ∃ a cap, v = .slice a n cap ∧ n ≤ cap := by
  rcases h.is with ⟨_, h3, h4⟩ | ⟨b, c, cap, _, h4, _, _, h5, _⟩
  · exact ⟨none, 0, by rw [h4, h3], by omega⟩
  · exact ⟨_, cap, h4, h5⟩
/-- One more element, that was built just now. -/
theorem append_new {sT E : TypeId} {i : TypeInfo} {z : Value} {ty : TypeId} {ks : Array Bool} {v : Value} {sz n k : Nat} {cs : List Value} {ns : Array Value} {bk : Option Nat} {H : Hp} {K : Value → HPred}
    (hT : P.underlying sT = some (.slice E)) (hi : P.info? E = some i) (hsz : i.size = sz) (hz : i.zero = some z) (hzs : z.cells.size = sz) (h1 : 1 ≤ sz) (hby : 1 ≤ i.bytes)
    (ho : OwnS H v E sz n cs bk) (hk' : ns.size = k * sz) (hone : ∀ c ∈ ns.toList, oneCell c = true) (hbig : (2 * (n + k) + 192) * i.bytes ≤ 2 ^ 48)
    (hk : ∀ v' H' bk', OwnS H' v' E sz (n + k) (cs ++ ns.toList) bk' → Ext (fun b => bk = some b) H H' → (bk' = bk ∨ ∃ b, bk' = some b ∧ H.size ≤ b) → K v' H') :
    blt P .append #[sT, sT] ty ks [v, .slice (some ⟨H.size, 0, none⟩) k k] K (H.push (.cells ns E)) := by
  refine append_own hT ⟨_, hT, fun q e => by cases e⟩ hi hsz hz hzs h1 hby (ho.ext (ext_push none' _ _) fun _ _ e => e) (lies_new H ns E sz k hk') hone hbig ?_
  intro v' H' bk' h1 h2 h3
  refine hk v' H' bk' h1 ((ext_push _ _ _).trans' h2) ?_
  rcases h3 with h3 | ⟨b, e, h3⟩
  · exact .inl h3
  · exact .inr ⟨b, e, by simp at h3; omega⟩

end Go.Sx
namespace Go.Sx
variable {P : Program}

theorem int_min (x y : TypeId) (ty : TypeId) (cs : Array Bool) (k k' : IntKind) (a b : Int) : pureRun P (bltN .min #[x, y] ty cs [.int k a, .int k' b]) = some (.int k (if b < a then b else a)) := rfl
theorem int_max (x y : TypeId) (ty : TypeId) (cs : Array Bool) (k k' : IntKind) (a b : Int) : pureRun P (bltN .max #[x, y] ty cs [.int k a, .int k' b]) = some (.int k (if b > a then b else a)) := rfl
theorem conv_int {S T : TypeId} {k k' : IntKind} {d : TypeDesc} {a : Int} (hS : P.underlying S = some d) (hT : P.underlying T = some (.int k')) : pureRun P (convert S T (.int k a)) = some (.int k' (k'.wrap a)) := by
  unfold convert
  simp only [bindS]
  rw [run_und hS, run_und hT]
  rfl
def shlI (k : IntKind) (a y : Int) : Int := k.wrap (a * 2 ^ (min y.toNat k.bits))
def shrI (k : IntKind) (a y : Int) : Int := a.fdiv (2 ^ (min y.toNat k.bits))
def andI (k : IntKind) (a b : Int) : Int := k.wrap (BitVec.ofInt k.bits a &&& BitVec.ofInt k.bits b).toNat
def orI (k : IntKind) (a b : Int) : Int := k.wrap (BitVec.ofInt k.bits a ||| BitVec.ofInt k.bits b).toNat
def xorI (k : IntKind) (a b : Int) : Int := k.wrap (BitVec.ofInt k.bits a ^^^ BitVec.ofInt k.bits b).toNat
theorem int_shl (T : TypeId) (ox oy : Operand) (k k' : IntKind) (a b : Int) (h : 0 ≤ b) : binV P .shl T ox oy (.int k a) (.int k' b) = some (.int k (shlI k a b)) := by
  have h' : ¬ b < 0 := by omega
  simp [binV, eqGuard, Sem.bind, pureRun, binOp, Op.shift, pure, shlI, h']
theorem int_shr (T : TypeId) (ox oy : Operand) (k k' : IntKind) (a b : Int) (h : 0 ≤ b) : binV P .shr T ox oy (.int k a) (.int k' b) = some (.int k (shrI k a b)) := by
  have h' : ¬ b < 0 := by omega
  simp [binV, eqGuard, Sem.bind, pureRun, binOp, Op.shift, pure, shrI, h']
theorem int_and (T : TypeId) (ox oy : Operand) (k : IntKind) (a b : Int) : binV P .and T ox oy (.int k a) (.int k b) = some (.int k (andI k a b)) := by
  simp [binV, eqGuard, Sem.bind, pureRun, binOp, Op.intBits, pure, andI]
theorem int_or (T : TypeId) (ox oy : Operand) (k : IntKind) (a b : Int) : binV P .or T ox oy (.int k a) (.int k b) = some (.int k (orI k a b)) := by
  simp [binV, eqGuard, Sem.bind, pureRun, binOp, Op.intBits, pure, orI]
theorem int_xor (T : TypeId) (ox oy : Operand) (k : IntKind) (a b : Int) : binV P .xor T ox oy (.int k a) (.int k b) = some (.int k (xorI k a b)) := by
  simp [binV, eqGuard, Sem.bind, pureRun, binOp, Op.intBits, pure, xorI]
theorem wrap32_id {a : Int} (h0 : -2147483648 ≤ a) (h1 : a ≤ 2147483647) : IntKind.i32.wrap a = a := by
  simp only [IntKind.wrap, IntKind.bits, IntKind.signed]
  simp
  omega
theorem wrapu32_id {a : Int} (h0 : 0 ≤ a) (h1 : a ≤ 4294967295) : IntKind.u32.wrap a = a := by
  simp only [IntKind.wrap, IntKind.bits, IntKind.signed]
  simp
  omega
theorem wrapu16_id {a : Int} (h0 : 0 ≤ a) (h1 : a ≤ 65535) : IntKind.u16.wrap a = a := by
  simp only [IntKind.wrap, IntKind.bits, IntKind.signed]
  simp
  omega
theorem wrapu8_id {a : Int} (h0 : 0 ≤ a) (h1 : a ≤ 255) : IntKind.u8.wrap a = a := by
  simp only [IntKind.wrap, IntKind.bits, IntKind.signed]
  simp
  omega
theorem wrap32_in (a : Int) : -2147483648 ≤ IntKind.i32.wrap a ∧ IntKind.i32.wrap a ≤ 2147483647 := by
  simp only [IntKind.wrap, IntKind.bits, IntKind.signed]
  simp
  omega
theorem wrapu32_in (a : Int) : 0 ≤ IntKind.u32.wrap a ∧ IntKind.u32.wrap a ≤ 4294967295 := by
  simp only [IntKind.wrap, IntKind.bits, IntKind.signed]
  simp
  omega

end Go.Sx
namespace Go.Sx
variable {P : Program}

theorem upd_same {H : Hp} {b : Nat} {x : Obj} (hb : H[b]? = some x) : upd H b x = H := by
  apply Array.ext_getElem?
  intro i
  by_cases h : i = b
  · subst h; rw [upd_self hb, hb]
  · rw [upd_ne h]
theorem stL_blk {b o : Nat} {T : TypeId} {C : HPred} : ∀ (vs : List Value) (i : Nat) (c : Array Value) (H : Hp), H[b]? = some (.cells c T (0, 0)) → o + i + vs.length ≤ c.size → (∀ v ∈ vs, oneCell v = true) →
    stL ⟨b, o, none⟩ vs i C H = C (upd H b (.cells (over' c (o + i) vs) T (0, 0)))
  | [], i, c, H, hb, _, _ => by simp only [stL, over', upd_same hb]
  | v :: vs, i, c, H, hb, hle, hone => by
    simp only [List.length_cons] at hle
    simp only [stL, add_mk]
    rw [st_blk hb (by omega) (hone v List.mem_cons_self)]
    rw [stL_blk vs (i + 1) _ _ (upd_self hb) (by simp; omega) fun x hx => hone x (List.mem_cons_of_mem _ hx), upd_upd]
    rfl
theorem nat_beq (n : Nat) : Nat.beq n n = true := Nat.beq_refl n
/-- A structure is written, at any place. -/
theorem stA_at {b o n : Nat} {T : TypeId} {C : HPred} {c cs : Array Value} {H : Hp} (hb : H[b]? = some (.cells c T (0, 0))) (hn : cs.size = n) (hle : o + n ≤ c.size) (hone : ∀ v ∈ cs.toList, oneCell v = true) :
    stA (.pointer (some ⟨b, o, none⟩)) n (.agg cs) C H = C (upd H b (.cells (over' c o cs.toList) T (0, 0))) := by
  subst hn
  simp only [stA, nat_beq]
  rw [stL_blk cs.toList 0 c H hb (by simpa using hle) hone]
  rfl
theorem over'_all {c cs : Array Value} (h : cs.size = c.size) : over' c 0 cs.toList = cs := by
  apply Array.ext_getElem?
  intro i
  rw [over'_get _ _ _ _ (by simp; omega)]
  by_cases hi : i < cs.size
  · rw [if_pos (by simp; omega)]; simp
  · rw [if_neg (by simp; omega), Array.getElem?_eq_none (by omega), Array.getElem?_eq_none (by omega)]
/-- A structure is written over a whole variable. -/
theorem stA_all {b n : Nat} {T : TypeId} {C : HPred} {c cs : Array Value} {H : Hp} (hb : H[b]? = some (.cells c T (0, 0))) (hn : cs.size = n) (hle : c.size = n) (hone : ∀ v ∈ cs.toList, oneCell v = true) :
    stA (.pointer (some ⟨b, 0, none⟩)) n (.agg cs) C H = C (upd H b (.cells cs T (0, 0))) := by
  rw [stA_at hb hn (by omega) hone, over'_all (by omega)]
/-- A variable is read whole. -/
theorem rds_all {H : Hp} {b n : Nat} {c : Array Value} {T : TypeId} {fz : Nat × Nat} {K : Value → HPred} (hb : H[b]? = some (.cells c T fz)) (hn : c.size = n) :
    rd (cellsP (.pointer (some ⟨b, 0, none⟩)) n) K H = K (.agg c) H := by
  rw [rds_blk hb (by omega)]
  have : c.extract 0 (0 + n) = c := by rw [Nat.zero_add, ← hn]; exact Array.extract_size
  rw [this]
/-- Of an array (in a variable) an element is chosen. -/
theorem getD_of {l : List Int} {i : Nat} (h : i < l.length) : l[i]? = some (l.getD i 0) := by
  rw [List.getD_eq_getElem?_getD, List.getElem?_eq_getElem h]; rfl
theorem cells_blk {H : Hp} {b o n : Nat} {c : Array Value} {T : TypeId} {fz : Nat × Nat} (hb : H[b]? = some (.cells c T fz)) (ho : o + n ≤ c.size) :
    cellsP (.pointer (some ⟨b, o, none⟩)) n H = some (.agg (c.extract o (o + n))) := by
  have hle : Nat.ble (o + n) c.size = true := Nat.ble_eq_true_of_le ho
  simp [cellsP, hb, hle]
theorem cellP_blk {H : Hp} {b o : Nat} {c : Array Value} {T : TypeId} {fz : Nat × Nat} (hb : H[b]? = some (.cells c T fz)) : cellP (.pointer (some ⟨b, o, none⟩)) H = c[o]? := by
  rw [cellP_ptr, cell_blk hb]

end Go.Sx
