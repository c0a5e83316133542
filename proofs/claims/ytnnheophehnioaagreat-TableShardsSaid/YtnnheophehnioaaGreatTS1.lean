/-
  Part 1 of the proof: contracts of the functions that the law reaches, and the rules they stand on. Own work (an AI agent). No conditions.
-/
import Derived.Test.YtnnheophehnioaaGreatTS0
set_option linter.unusedSimpArgs false
set_option linter.unusedVariables false
namespace Go.Sx
variable {P : Program}

def rdo (x : Option Obj) (o : Nat) (K : Value → HPred) (H : Hp) : Prop := match x with
  | some (.cells c _ _) => opt c[o]? K H
  | _ => False
theorem rd_go (b o : Nat) (K : Value → HPred) (H : Hp) : rd (cellP (.pointer (some ⟨b, o, none⟩))) K H = rdo H[b]? o K H := by
  simp only [rd, cellP, cellH, rdo, opt]
  cases H[b]? with
  | none => rfl
  | some x => cases x <;> first | rfl | (simp only [Option.isSome_none, Bool.false_eq_true, if_false]; rename_i c _ _; cases c[o]? <;> rfl)
theorem rdo_cells (c : Array Value) (T : TypeId) (fz : Nat × Nat) (o : Nat) (K : Value → HPred) (H : Hp) : rdo (some (.cells c T fz)) o K H = opt c[o]? K H := rfl
def rdso (x : Option Obj) (o n : Nat) (K : Value → HPred) (H : Hp) : Prop := match x with
  | some (.cells c _ _) => if o + n ≤ c.size then K (.agg (c.extract o (o + n))) H else False
  | _ => False
theorem rds_go (b o n : Nat) (K : Value → HPred) (H : Hp) : rd (cellsP (.pointer (some ⟨b, o, none⟩)) n) K H = rdso H[b]? o n K H := by
  simp only [rd, cellsP, rdso]
  cases H[b]? with
  | none => rfl
  | some x =>
    cases x <;> first | rfl | skip
    rename_i c _ _
    by_cases h : o + n ≤ c.size
    · have hle : Nat.ble (o + n) c.size = true := Nat.ble_eq_true_of_le h
      simp [h, hle]
    · have hle : Nat.ble (o + n) c.size = false := by
        cases hb : Nat.ble (o + n) c.size
        · rfl
        · exact absurd (Nat.le_of_ble_eq_true hb) h
      simp [h, hle]
theorem rdso_cells (c : Array Value) (T : TypeId) (fz : Nat × Nat) (o n : Nat) (K : Value → HPred) (H : Hp) : rdso (some (.cells c T fz)) o n K H = if o + n ≤ c.size then K (.agg (c.extract o (o + n))) H else False := rfl
def sto (x : Option Obj) (b o : Nat) (v : Value) (C : HPred) (H : Hp) : Prop := match x with
  | some (.cells c T fz) => match oneCell v, c[o]?, (decide (fz.1 ≤ o) && decide (o < fz.2)) with
    | true, some _, false => C (upd H b (.cells (c.setIfInBounds o v) T fz))
    | _, _, _ => False
  | _ => False
theorem st_go (b o : Nat) (v : Value) (C : HPred) (H : Hp) : st (.pointer (some ⟨b, o, none⟩)) v C H = sto H[b]? b o v C H := by
  simp only [st, sto, cellH, frozenH]
  cases hb : H[b]? with
  | none => cases oneCell v <;> rfl
  | some x =>
    cases x <;> first | (cases oneCell v <;> rfl) | skip
    rename_i c T fz
    simp only [Option.isSome_none, Bool.false_eq_true, if_false, setCell_upd hb]
    cases oneCell v <;> cases c[o]? <;> rfl
def stc (t : Bool) (x : Option Value) (p : Prop) : Prop := match t, x with
  | true, some _ => p
  | _, _ => False
theorem stc_ok (x : Value) (p : Prop) : stc true (some x) p = p := rfl
theorem sto_cells (c : Array Value) (T : TypeId) (b o : Nat) (v : Value) (C : HPred) (H : Hp) :
    sto (some (.cells c T (0, 0))) b o v C H = stc (oneCell v) c[o]? (C (upd H b (.cells (c.setIfInBounds o v) T (0, 0)))) := by
  simp only [sto, stc, Nat.not_lt_zero, decide_false, Bool.and_false]
  cases oneCell v <;> cases c[o]? <;> rfl
def stA' := @stA
def stAo (x : Option Obj) (b o n : Nat) (cs : Array Value) (C : HPred) (H : Hp) : Prop := match x with
  | some (.cells c T fz) => if fz = (0, 0) ∧ cs.size = n ∧ o + n ≤ c.size ∧ cs.toList.all oneCell = true then C (upd H b (.cells (over' c o cs.toList) T (0, 0))) else stA' (.pointer (some ⟨b, o, none⟩)) n (.agg cs) C H
  | _ => stA' (.pointer (some ⟨b, o, none⟩)) n (.agg cs) C H
theorem stA_go (b o n : Nat) (cs : Array Value) (C : HPred) (H : Hp) : stA (.pointer (some ⟨b, o, none⟩)) n (.agg cs) C H = stAo H[b]? b o n cs C H := by
  unfold stAo
  split
  · rename_i c T fz hb
    split
    · rename_i h
      obtain ⟨rfl, h1, h2, h3⟩ := h
      exact stA_at hb h1 h2 (fun v hv => List.all_eq_true.1 h3 v hv)
    · rfl
  · rfl
theorem stAo_cells (c : Array Value) (T : TypeId) (b o n : Nat) (cs : Array Value) (C : HPred) (H : Hp) :
    stAo (some (.cells c T (0, 0))) b o n cs C H = if cs.size = n ∧ o + n ≤ c.size ∧ cs.toList.all oneCell = true then C (upd H b (.cells (over' c o cs.toList) T (0, 0))) else stA' (.pointer (some ⟨b, o, none⟩)) n (.agg cs) C H := by
  simp only [stAo, true_and]
theorem one_int (k : IntKind) (a : Int) : oneCell (.int k a) = true := rfl
theorem one_bool (a : Bool) : oneCell (.bool a) = true := rfl
theorem one_ptr (a : Option Addr) : oneCell (.pointer a) = true := rfl
theorem one_slice (a : Option Addr) (n c : Nat) : oneCell (.slice a n c) = true := rfl
theorem one_map (a : Option Nat) : oneCell (.map a) = true := rfl
theorem one_func (f : Fn) (a b : Array Value) : oneCell (.func f a b) = true := rfl
theorem one_iface (t : TypeId) (v : Value) : oneCell (.iface t v) = true := rfl
theorem upd_get (H : Hp) (b c : Nat) (x : Obj) : (upd H b x)[c]? = if c = b then (if b < H.size then some x else none) else H[c]? := by
  by_cases h : c = b
  · subst h
    simp only [if_true, upd]
    by_cases h2 : c < H.size
    · simp [h2]
    · simp [h2]
  · rw [if_neg h, upd_ne h]
theorem upd_get_self {H : Hp} {b : Nat} {x : Obj} (h : b < H.size) : (upd H b x)[b]? = some x := by rw [upd_get, if_pos rfl, if_pos h]
theorem upd_get_ne {H : Hp} {b c : Nat} {x : Obj} (h : c ≠ b) : (upd H b x)[c]? = H[c]? := upd_ne h
theorem push_get_new (H : Hp) (x : Obj) : (H.push x)[H.size]? = some x := push_new H x
theorem push_get_old {H : Hp} {b : Nat} {x : Obj} (h : b ≠ H.size) : (H.push x)[b]? = H[b]? := by rw [Array.getElem?_push, if_neg h]
theorem push_size (H : Hp) (x : Obj) : Array.size (H.push x) = H.size + 1 := Array.size_push _
theorem cnd_app (b : Bool) (A B : HPred) (H : Hp) : cnd (.bool b) A B H = if b = true then A H else B H := by cases b <;> rfl
theorem opt_app {v : Value} {K : Value → HPred} : opt (some v) K = K v := rfl

theorem stAo_all {c cs : Array Value} {T : TypeId} {b n : Nat} {C : HPred} {H : Hp} (h1 : cs.size = n) (h2 : c.size = n) (h3 : cs.toList.all oneCell = true) :
    stAo (some (.cells c T (0, 0))) b 0 n cs C H = C (upd H b (.cells cs T (0, 0))) := by
  rw [stAo_cells, if_pos ⟨h1, by omega, h3⟩, over'_all (by omega)]
theorem stAo_allL {c : Array Value} {l : List Value} {T : TypeId} {b n : Nat} {C : HPred} {H : Hp} (h1 : l.length = n) (h2 : c.size = n) (h3 : l.all oneCell = true) :
    stAo (some (.cells c T (0, 0))) b 0 n l.toArray C H = C (upd H b (.cells l.toArray T (0, 0))) := stAo_all (by simpa using h1) h2 h3
theorem rdso_all {c : Array Value} {T : TypeId} {fz : Nat × Nat} {n : Nat} {K : Value → HPred} {H : Hp} (h : c.size = n) : rdso (some (.cells c T fz)) 0 n K H = K (.agg c) H := by
  subst h
  rw [rdso_cells, if_pos (by omega)]
  congr 2
  apply Array.ext'
  simp [List.extract_eq_take_drop]
theorem rdso_at {c cs : Array Value} {o n : Nat} (h : o + n ≤ c.size) (e : c.extract o (o + n) = cs) (T : TypeId) (fz : Nat × Nat) (K : Value → HPred) (H : Hp) :
    rdso (some (.cells c T fz)) o n K H = K (.agg cs) H := by
  rw [rdso_cells, if_pos h, e]
theorem upd_push_top (H : Hp) (x y : Obj) : upd (H.push x) H.size y = H.push y := by
  apply Array.ext_getElem?
  intro i
  rw [upd_get, push_size]
  by_cases h : i = H.size
  · subst h; simp
  · rw [if_neg h, push_get_old h, push_get_old h]
theorem upd_push_eq {H : Hp} {b : Nat} {x y : Obj} (h : b = H.size) : upd (H.push x) b y = H.push y := by subst h; exact upd_push_top H x y
theorem push_get_eq {H : Hp} {b : Nat} {x : Obj} (h : b = H.size) : (H.push x)[b]? = some x := by subst h; exact push_get_new H x
theorem upd_push_old {H : Hp} {b : Nat} {x y : Obj} (h : b ≠ H.size) : upd (H.push x) b y = (upd H b y).push x := by
  apply Array.ext_getElem?
  intro i
  rw [upd_get, push_size]
  by_cases h1 : i = b
  · subst h1
    rw [if_pos rfl, push_get_old (by rw [upd_size]; exact h), upd_get, if_pos rfl]
    by_cases h2 : i < H.size
    · rw [if_pos h2, if_pos (by omega)]
    · rw [if_neg h2, if_neg (by omega)]
  · rw [if_neg h1]
    by_cases h2 : i = H.size
    · subst h2
      rw [push_get_new]
      have := push_get_new (upd H b y) x
      rw [upd_size] at this
      exact this.symm
    · rw [push_get_old h2, push_get_old (by rw [upd_size]; exact h2), upd_get, if_neg h1]
theorem over'_app : ∀ (vs l1 l2 l3 : List Value), vs.length = l2.length → over' (l1 ++ (l2 ++ l3)).toArray l1.length vs = (l1 ++ (vs ++ l3)).toArray
  | [], l1, l2, l3, h => by
    have : l2 = [] := List.eq_nil_of_length_eq_zero (by simpa using h.symm)
    subst this; rfl
  | v :: vs, l1, [], l3, h => by simp at h
  | v :: vs, l1, y :: l2, l3, h => by
    have ih := over'_app vs (l1 ++ [v]) l2 l3 (by simpa using h)
    have e : (l1 ++ (y :: l2 ++ l3)).toArray.setIfInBounds l1.length v = (l1 ++ [v] ++ (l2 ++ l3)).toArray := by
      apply Array.ext'; simp
    rw [over', e, show l1.length + 1 = (l1 ++ [v]).length by simp, ih]
    simp
theorem over'_app0 {vs l2 l3 : List Value} (h : vs.length = l2.length) : over' (l2 ++ l3).toArray 0 vs = (vs ++ l3).toArray := over'_app vs [] l2 l3 h
theorem extract_app (l1 l2 l3 : List Value) : (l1 ++ (l2 ++ l3)).toArray.extract l1.length (l1.length + l2.length) = l2.toArray := by
  apply Array.ext'
  simp [List.extract_eq_take_drop]
theorem extract_app0 (l2 l3 : List Value) : (l2 ++ l3).toArray.extract 0 l2.length = l2.toArray := by
  have := extract_app [] l2 l3
  rwa [List.nil_append, List.length_nil, Nat.zero_add] at this
theorem set_app (l1 l2 : List Value) (x y : Value) : (l1 ++ x :: l2).toArray.setIfInBounds l1.length y = (l1 ++ y :: l2).toArray := by
  apply Array.ext'; simp
theorem get_app (l1 l2 : List Value) (i : Nat) : (l1 ++ l2).toArray[l1.length + i]? = l2[i]? := by
  rw [List.getElem?_toArray, List.getElem?_append_right (by omega)]
  congr 1; omega

end Go.Sx
namespace Go.Sx
variable {P : Program}

/-- An assertion on a heap with the blocks that it owns. -/
structure SP where
  holds : (Nat → Prop) → Hp → Prop
  frame : ∀ {F : Nat → Prop} {H H' : Hp} {S : Nat → Prop}, holds F H → Ext S H H' → (∀ b, F b → ¬ S b) → holds F H'
  lt : ∀ {F : Nat → Prop} {H : Hp}, holds F H → ∀ b, F b → b < H.size
theorem SP.eq {A B : SP} (h : ∀ F H, A.holds F H ↔ B.holds F H) : A = B := by
  obtain ⟨a, a1, a2⟩ := A
  obtain ⟨b, b1, b2⟩ := B
  have : a = b := funext fun F => funext fun H => propext (h F H)
  subst this; rfl
/-- From F at H to F' at H': nothing but F has turned; nothing is owned that was not, or is new. -/
structure Gr (F : Nat → Prop) (H : Hp) (F' : Nat → Prop) (H' : Hp) : Prop where
  ext : Ext F H H'
  own : ∀ b, F' b → F b ∨ H.size ≤ b
theorem Gr.refl (F : Nat → Prop) (H : Hp) : Gr F H F H := ⟨Ext.refl _ _, fun _ h => .inl h⟩
theorem Gr.trans {F0 F1 F2 : Nat → Prop} {H0 H1 H2 : Hp} (h1 : Gr F0 H0 F1 H1) (h2 : Gr F1 H1 F2 H2) : Gr F0 H0 F2 H2 :=
  ⟨h1.ext.trans h2.ext fun b hb h => h.elim id fun h => (h1.own b h).elim id fun e => absurd hb (by omega),
   fun b hb => (h2.own b hb).elim (fun h => h1.own b h) fun e => .inr (Nat.le_trans h1.ext.size e)⟩
theorem Gr.sub {F F' : Nat → Prop} {H : Hp} (h : ∀ b, F' b → F b) : Gr F H F' H := ⟨Ext.refl _ _, fun b hb => .inl (h b hb)⟩
theorem Gr.of {F F' : Nat → Prop} {H H' : Hp} (h : Ext F H H') (hf : ∀ b, F' b → F b ∨ (H.size ≤ b ∧ b < H'.size)) : Gr F H F' H' := ⟨h, fun b hb => (hf b hb).imp id (·.1)⟩
theorem Gr.size {F F' : Nat → Prop} {H H' : Hp} (h : Gr F H F' H') : H.size ≤ H'.size := h.ext.size
/-- What lies outside is kept. -/
theorem Gr.blk {F F' : Nat → Prop} {H H' : Hp} (h : Gr F H F' H') {b : Nat} {o : Obj} (hb : H[b]? = some o) (hn : ¬ F b) : H'[b]? = some o := h.ext.blk hb hn

def SP.star (A B : SP) : SP where
  holds F H := ∃ F1 F2, A.holds F1 H ∧ B.holds F2 H ∧ (∀ b, F1 b → F2 b → False) ∧ F = fun b => F1 b ∨ F2 b
  frame := by
    rintro F H H' S ⟨F1, F2, h1, h2, hd, rfl⟩ hx hn
    exact ⟨F1, F2, A.frame h1 hx fun b hb => hn b (.inl hb), B.frame h2 hx fun b hb => hn b (.inr hb), hd, rfl⟩
  lt := by
    rintro F H ⟨F1, F2, h1, h2, hd, rfl⟩ b hb
    exact hb.elim (A.lt h1 b) (B.lt h2 b)
instance : Mul SP := ⟨SP.star⟩
theorem SP.star_def (A B : SP) (F : Nat → Prop) (H : Hp) : (A * B).holds F H ↔ ∃ F1 F2, A.holds F1 H ∧ B.holds F2 H ∧ (∀ b, F1 b → F2 b → False) ∧ F = fun b => F1 b ∨ F2 b := Iff.rfl
def SP.emp : SP where
  holds F _ := F = none'
  frame h _ _ := h
  lt := by rintro F H rfl b hb; exact hb.elim
theorem SP.comm (A B : SP) : A * B = B * A := by
  have key : ∀ (A B : SP) (F : Nat → Prop) (H : Hp), (A * B).holds F H → (B * A).holds F H := by
    rintro A B F H ⟨F1, F2, h1, h2, hd, rfl⟩
    exact ⟨F2, F1, h2, h1, fun b x y => hd b y x, funext fun b => propext Or.comm⟩
  exact SP.eq fun F H => ⟨key _ _ F H, key _ _ F H⟩
theorem SP.assoc (A B C : SP) : A * B * C = A * (B * C) := by
  refine SP.eq fun F H => ⟨?_, ?_⟩
  · rintro ⟨F12, F3, ⟨F1, F2, h1, h2, hd, rfl⟩, h3, hd', rfl⟩
    exact ⟨F1, _, h1, ⟨F2, F3, h2, h3, fun b x y => hd' b (.inr x) y, rfl⟩, fun b x y => y.elim (hd b x) (hd' b (.inl x)), funext fun b => propext or_assoc⟩
  · rintro ⟨F1, F23, h1, ⟨F2, F3, h2, h3, hd, rfl⟩, hd', rfl⟩
    exact ⟨_, F3, ⟨F1, F2, h1, h2, fun b x y => hd' b x (.inl y), rfl⟩, h3, fun b x y => x.elim (fun x => hd' b x (.inr y)) (fun x => hd b x y), funext fun b => propext or_assoc.symm⟩
instance : Std.Commutative (α := SP) (· * ·) := ⟨SP.comm⟩
instance : Std.Associative (α := SP) (· * ·) := ⟨SP.assoc⟩
theorem SP.emp_star (A : SP) : SP.emp * A = A := by
  refine SP.eq fun F H => ⟨?_, fun h => ⟨none', F, rfl, h, fun b x _ => x, funext fun b => propext ⟨.inr, fun h => h.elim (fun x => x.elim) id⟩⟩⟩
  rintro ⟨F1, F2, rfl, h2, -, rfl⟩
  have : (fun b => none' b ∨ F2 b) = F2 := funext fun b => propext ⟨fun h => h.elim (fun x => x.elim) id, .inr⟩
  rw [this]; exact h2
theorem SP.star_emp (A : SP) : A * SP.emp = A := by rw [SP.comm, SP.emp_star]
theorem SP.left {A B : SP} {F : Nat → Prop} {H : Hp} (h : (A * B).holds F H) : ∃ F1, A.holds F1 H ∧ Gr F H F1 H ∧ ∀ b, F1 b → F b := by
  obtain ⟨F1, F2, h1, h2, hd, rfl⟩ := h
  exact ⟨F1, h1, Gr.sub fun b hb => .inl hb, fun b hb => .inl hb⟩
theorem SP.right {A B : SP} {F : Nat → Prop} {H : Hp} (h : (A * B).holds F H) : ∃ F1, B.holds F1 H ∧ Gr F H F1 H ∧ ∀ b, F1 b → F b := by
  rw [SP.comm] at h; exact SP.left h
/-- A part turns, the rest stands. -/
theorem SP.focus {A R : SP} {F : Nat → Prop} {H : Hp} (h : (A * R).holds F H) : ∃ F1, A.holds F1 H ∧ (∀ b, F1 b → F b) ∧
    ∀ (B : SP) (F1' : Nat → Prop) (H' : Hp), B.holds F1' H' → Gr F1 H F1' H' → ∃ F', (B * R).holds F' H' ∧ Gr F H F' H' := by
  obtain ⟨F1, F2, h1, h2, hd, rfl⟩ := h
  refine ⟨F1, h1, fun b => .inl, fun B F1' H' hB hg => ⟨_, ⟨F1', F2, hB, R.frame h2 hg.ext fun b x y => hd b y x, ?_, rfl⟩, ?_⟩⟩
  · intro b x y
    rcases hg.own b x with e | e
    · exact hd b e y
    · have := R.lt h2 b y; omega
  · exact ⟨hg.ext.mono fun b _ hb => .inl hb, fun b hb => hb.elim (fun hb => (hg.own b hb).imp .inl id) fun hb => .inl (.inr hb)⟩
/-- Entailment. -/
def SP.le (A B : SP) : Prop := ∀ F H, A.holds F H → ∃ F', B.holds F' H ∧ ∀ b, F' b → F b
theorem SP.le.gr {A B : SP} (h : A.le B) {F : Nat → Prop} {H : Hp} (ha : A.holds F H) : ∃ F', B.holds F' H ∧ Gr F H F' H := by
  obtain ⟨F', h1, h2⟩ := h F H ha
  exact ⟨F', h1, Gr.sub h2⟩
def SP.ex {α : Type} (A : α → SP) : SP where
  holds F H := ∃ a, (A a).holds F H
  frame := by rintro F H H' S ⟨a, h⟩ hx hn; exact ⟨a, (A a).frame h hx hn⟩
  lt := by rintro F H ⟨a, h⟩; exact (A a).lt h
def SP.grd (φ : Prop) (A : SP) : SP where
  holds F H := φ ∧ A.holds F H
  frame := by rintro F H H' S ⟨p, h⟩ hx hn; exact ⟨p, A.frame h hx hn⟩
  lt := by rintro F H ⟨p, h⟩; exact A.lt h
theorem SP.ex_star {α : Type} (A : α → SP) (R : SP) : SP.ex A * R = SP.ex fun a => A a * R := by
  refine SP.eq fun F H => ⟨?_, ?_⟩
  · rintro ⟨F1, F2, ⟨a, h1⟩, h2, h3⟩; exact ⟨a, F1, F2, h1, h2, h3⟩
  · rintro ⟨a, F1, F2, h1, h2, h3⟩; exact ⟨F1, F2, ⟨a, h1⟩, h2, h3⟩
theorem SP.grd_star (φ : Prop) (A R : SP) : SP.grd φ A * R = SP.grd φ (A * R) := by
  refine SP.eq fun F H => ⟨?_, ?_⟩
  · rintro ⟨F1, F2, ⟨a, h1⟩, h2, h3⟩; exact ⟨a, F1, F2, h1, h2, h3⟩
  · rintro ⟨a, F1, F2, h1, h2, h3⟩; exact ⟨F1, F2, ⟨a, h1⟩, h2, h3⟩
theorem SP.ex_iff {α : Type} (A : α → SP) (F : Nat → Prop) (H : Hp) : (SP.ex A).holds F H ↔ ∃ a, (A a).holds F H := Iff.rfl
theorem SP.grd_iff (φ : Prop) (A : SP) (F : Nat → Prop) (H : Hp) : (SP.grd φ A).holds F H ↔ φ ∧ A.holds F H := Iff.rfl

/-! ## Blocks -/
def blkS (b : Nat) (o : Obj) : SP where
  holds F H := H[b]? = some o ∧ F = (· = b)
  frame := by rintro F H H' S ⟨h, rfl⟩ hx hn; exact ⟨hx.blk h (hn b rfl), rfl⟩
  lt := by rintro F H ⟨h, rfl⟩ x rfl; exact blk_lt h
theorem blk_get {b : Nat} {o : Obj} {R : SP} {F : Nat → Prop} {H : Hp} (h : (blkS b o * R).holds F H) : H[b]? = some o := by
  obtain ⟨F1, F2, ⟨h1, rfl⟩, _⟩ := h; exact h1
theorem blk_own {b : Nat} {o : Obj} {R : SP} {F : Nat → Prop} {H : Hp} (h : (blkS b o * R).holds F H) : F b := by
  obtain ⟨F1, F2, ⟨h1, rfl⟩, _, _, rfl⟩ := h; exact .inl rfl
theorem blk_set {b : Nat} {o : Obj} {R : SP} {F : Nat → Prop} {H : Hp} (h : (blkS b o * R).holds F H) (o' : Obj) :
    (blkS b o' * R).holds F (upd H b o') ∧ Gr F H F (upd H b o') := by
  obtain ⟨F1, F2, ⟨h1, rfl⟩, h2, hd, rfl⟩ := h
  exact ⟨⟨_, F2, ⟨upd_self h1, rfl⟩, R.frame h2 (ext_upd H b o') fun x hx e => hd x e hx, hd, rfl⟩, (ext_upd H b o').mono fun x _ e => .inl e, fun x hx => .inl hx⟩
theorem blk_new {A : SP} {F : Nat → Prop} {H : Hp} (h : A.holds F H) (o : Obj) : ∃ F', (blkS H.size o * A).holds F' (H.push o) ∧ Gr F H F' (H.push o) := by
  refine ⟨_, ⟨_, F, ⟨push_new H o, rfl⟩, A.frame h (ext_push none' H o) fun b _ e => e, fun b e hb => ?_, rfl⟩, ext_push F H o, ?_⟩
  · have := A.lt h b hb; omega
  · rintro b (e | e)
    · exact .inr (by omega)
    · exact .inl e
/-- A slice that has a block of its own. -/
def sliS (v : Value) (E : TypeId) (sz n : Nat) (cs : List Value) : SP where
  holds F H := ∃ bk, OwnS H v E sz n cs bk ∧ F = fun b => bk = some b
  frame := by rintro F H H' S ⟨bk, h, rfl⟩ hx hn; exact ⟨bk, h.ext hx fun b hb => hn b hb, rfl⟩
  lt := by rintro F H ⟨bk, h, rfl⟩ b rfl; exact h.lt
theorem sli_get {v : Value} {E : TypeId} {sz n : Nat} {cs : List Value} {R : SP} {F : Nat → Prop} {H : Hp} (h : (sliS v E sz n cs * R).holds F H) : ∃ bk, OwnS H v E sz n cs bk ∧ ∀ b, bk = some b → F b := by
  obtain ⟨F1, F2, ⟨bk, h1, rfl⟩, _, _, rfl⟩ := h
  exact ⟨bk, h1, fun b e => .inl e⟩
theorem sli_one {v : Value} {E : TypeId} {sz n : Nat} {cs : List Value} {R : SP} {F : Nat → Prop} {H : Hp} (h : (sliS v E sz n cs * R).holds F H) : oneCell v = true := by
  obtain ⟨bk, h1, _⟩ := sli_get h; exact h1.one
theorem sli_lies {v : Value} {E : TypeId} {sz n : Nat} {cs : List Value} {R : SP} {F : Nat → Prop} {H : Hp} (h : (sliS v E sz n cs * R).holds F H) : Lies H v E sz n cs := by
  obtain ⟨bk, h1, _⟩ := sli_get h; exact h1.lies
theorem sli_nil {R : SP} {F : Nat → Prop} {H : Hp} (h : R.holds F H) (E : TypeId) (sz : Nat) : (sliS (.slice none 0 0) E sz 0 [] * R).holds F H :=
  ⟨_, F, ⟨none, OwnS.nil H E sz, rfl⟩, h, fun b e => by simp at e, funext fun b => propext ⟨.inr, fun e => e.elim (fun e => by simp at e) id⟩⟩
theorem sli_emp (E : TypeId) (sz : Nat) : sliS (.slice none 0 0) E sz 0 [] = SP.emp := by
  have e : (fun b : Nat => (none : Option Nat) = some b) = none' := funext fun b => propext ⟨fun e => (by cases e), fun e => False.elim e⟩
  refine SP.eq fun F H => ⟨?_, ?_⟩
  · rintro ⟨bk, h, rfl⟩
    rcases h.is with ⟨rfl, _, _⟩ | ⟨b, c, cap, _, h2, _⟩
    · exact e
    · cases h2
  · intro hF
    have hF' : F = none' := hF
    subst hF'
    exact ⟨none, OwnS.nil H E sz, e.symm⟩
theorem sli_new {A : SP} {F : Nat → Prop} {H : Hp} (h : A.holds F H) (ns : Array Value) (E : TypeId) (sz k : Nat) (hk : ns.size = k * sz) :
    ∃ F', (sliS (.slice (some ⟨H.size, 0, none⟩) k k) E sz k ns.toList * A).holds F' (H.push (.cells ns E)) ∧ Gr F H F' (H.push (.cells ns E)) := by
  refine ⟨_, ⟨_, F, ⟨some H.size, own_new H ns E sz k hk, rfl⟩, A.frame h (ext_push none' H _) fun b _ e => e, fun b e hb => ?_, rfl⟩, ext_push F H _, ?_⟩
  · have := A.lt h b hb; cases e; omega
  · rintro b (e | e)
    · cases e; exact .inr (Nat.le_refl _)
    · exact .inl e
theorem append_sli {sT xT E : TypeId} {i : TypeInfo} {z : Value} {ty : TypeId} {ks : Array Bool} {v x : Value} {sz n k : Nat} {cs new : List Value} {R : SP} {F : Nat → Prop} {H : Hp} {K : Value → HPred} {T' : TypeId}
    (hT : P.underlying sT = some (.slice E)) (hX : ∃ d, P.underlying xT = some d ∧ ∀ q, d ≠ .int q) (hi : P.info? E = some i) (hsz : i.size = sz) (hz : i.zero = some z) (hzs : z.cells.size = sz) (h1 : 1 ≤ sz) (hby : 1 ≤ i.bytes)
    (h : (sliS v E sz n cs * R).holds F H) (hx : Lies H x T' sz k new) (hone : ∀ c ∈ new, oneCell c = true) (hbig : (2 * (n + k) + 192) * i.bytes ≤ 2 ^ 48)
    (hk : ∀ v' H' F', (sliS v' E sz (n + k) (cs ++ new) * R).holds F' H' → Gr F H F' H' → K v' H') :
    blt P .append #[sT, xT] ty ks [v, x] K H := by
  obtain ⟨F1, ⟨bk, ho, rfl⟩, -, back⟩ := SP.focus h
  refine append_own hT hX hi hsz hz hzs h1 hby ho hx hone hbig ?_
  intro v' H' bk' ho' hx' hb'
  obtain ⟨F', h', g⟩ := back (sliS v' E sz (n + k) (cs ++ new)) (fun b => bk' = some b) H' ⟨bk', ho', rfl⟩ ⟨hx', fun b e => by
    rcases hb' with e' | ⟨b', e', hb'⟩
    · exact .inl (e' ▸ e)
    · rw [e'] at e; cases e; exact .inr hb'⟩
  exact hk v' H' F' h' g
theorem append_sli_new {sT E : TypeId} {i : TypeInfo} {z : Value} {ty : TypeId} {ks : Array Bool} {v : Value} {sz n k : Nat} {cs : List Value} {ns : Array Value} {R : SP} {F : Nat → Prop} {H : Hp} {K : Value → HPred}
    (hT : P.underlying sT = some (.slice E)) (hi : P.info? E = some i) (hsz : i.size = sz) (hz : i.zero = some z) (hzs : z.cells.size = sz) (h1 : 1 ≤ sz) (hby : 1 ≤ i.bytes)
    (h : (sliS v E sz n cs * R).holds F H) (hk' : ns.size = k * sz) (hone : ns.toList.all oneCell = true) (hbig : (2 * (n + k) + 192) * i.bytes ≤ 2 ^ 48)
    (hk : ∀ v' H' F', (sliS v' E sz (n + k) (cs ++ ns.toList) * R).holds F' H' → Gr F H F' H' → K v' H') :
    blt P .append #[sT, sT] ty ks [v, .slice (some ⟨H.size, 0, none⟩) k k] K (H.push (.cells ns E)) := by
  obtain ⟨F1, ⟨bk, ho, rfl⟩, -, back⟩ := SP.focus h
  refine append_new hT hi hsz hz hzs h1 hby ho hk' (fun c hc => List.all_eq_true.1 hone c hc) hbig ?_
  intro v' H' bk' ho' hx' hb'
  obtain ⟨F', h', g⟩ := back (sliS v' E sz (n + k) (cs ++ ns.toList)) (fun b => bk' = some b) H' ⟨bk', ho', rfl⟩ ⟨hx', fun b e => by
    rcases hb' with e' | ⟨b', e', hb'⟩
    · exact .inl (e' ▸ e)
    · rw [e'] at e; cases e; exact .inr hb'⟩
  exact hk v' H' F' h' g
theorem SP.ext0 {A : SP} {F : Nat → Prop} {H H' : Hp} (h : A.holds F H) (hx : Ext0 H H') : A.holds F H' ∧ Gr F H F H' :=
  ⟨A.frame h hx fun _ _ e => e, hx.to, fun _ e => .inl e⟩
theorem SP.push {A : SP} {F : Nat → Prop} {H : Hp} (h : A.holds F H) (x : Obj) : A.holds F (H.push x) ∧ Gr F H F (H.push x) := SP.ext0 h (ext_push none' H x)
theorem SP.new_part {A B : SP} {F F1 : Nat → Prop} {H H' : Hp} (h : A.holds F H) (hx : Ext0 H H') (hB : B.holds F1 H') (hF : ∀ b, F1 b → H.size ≤ b) : ∃ F', (B * A).holds F' H' ∧ Gr F H F' H' := by
  refine ⟨_, ⟨F1, F, hB, A.frame h hx fun _ _ e => e, fun b x y => ?_, rfl⟩, hx.to, ?_⟩
  · have := A.lt h b y; have := hF b x; omega
  · rintro b (e | e)
    · exact .inr (hF b e)
    · exact .inl e

/-! ## Many -/
def stars : List SP → SP
  | [] => SP.emp
  | A :: l => A * stars l
theorem stars_append (l m : List SP) : stars (l ++ m) = stars l * stars m := by
  induction l with
  | nil => exact (SP.emp_star _).symm
  | cons A l ih => simp only [List.cons_append, stars, ih, SP.assoc]
theorem stars_perm {l m : List SP} (h : l.Perm m) : stars l = stars m := by
  induction h with
  | nil => rfl
  | cons A _ ih => simp only [stars, ih]
  | swap A B l => simp only [stars, ← SP.assoc, SP.comm A B]
  | trans _ _ a b => exact a.trans b
theorem stars_get {l : List SP} {i : Nat} {A : SP} (h : l[i]? = some A) : stars l = A * stars (l.eraseIdx i) := by
  induction l generalizing i with
  | nil => cases h
  | cons B l ih =>
    cases i with
    | zero => cases h; rfl
    | succ i =>
      simp only [List.getElem?_cons_succ] at h
      simp only [stars, List.eraseIdx_cons_succ, ih h, ← SP.assoc, SP.comm A B]
theorem stars_set {l : List SP} {i : Nat} {A : SP} (h : i < l.length) : stars (l.set i A) = A * stars (l.eraseIdx i) := by
  induction l generalizing i with
  | nil => simp at h
  | cons B l ih =>
    cases i with
    | zero => rfl
    | succ i =>
      simp only [List.set_cons_succ, stars, List.eraseIdx_cons_succ, ih (by simpa using h), ← SP.assoc, SP.comm A B]

end Go.Sx
