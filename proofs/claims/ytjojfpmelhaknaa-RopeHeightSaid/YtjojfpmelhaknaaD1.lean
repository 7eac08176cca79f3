/-
  A deterministic reading of the program's code: values and rows of an abstract memory, and how they stand to a world.
-/
import Derived.Calls
import Derived.Below
import Derived.Defers
import Derived.Recover
namespace Go.Proofs.Ytjojfpmelhaknaa.D
open Go.RowKit

/-- A row of cells: the size of its elements, and what the cells hold. -/
structure Row where
  sz : Nat
  cells : List Value

def getL : List (Nat × Row) → Nat → Option Row
  | [], _ => none
  | (k, r) :: t, o => if o = k then some r else getL t o
def setL : List (Nat × Row) → Nat → Row → List (Nat × Row)
  | [], o, r => [(o, r)]
  | (k, x) :: t, o, r => if o = k then (o, r) :: t else (k, x) :: setL t o r
def delL : List (Nat × Row) → Nat → List (Nat × Row)
  | [], _ => []
  | (k, x) :: t, o => if o = k then delL t o else (k, x) :: delL t o

/-- The abstract memory: rows by number, the next number, the first row that may be written now, and the first that was not handed over. -/
structure Mem where
  objs : List (Nat × Row)
  next : Nat
  lo : Nat
  ro : Nat

def Mem.get (m : Mem) (o : Nat) : Option Row := getL m.objs o
def Mem.set (m : Mem) (o : Nat) (r : Row) : Mem := { m with objs := setL m.objs o r }
def Mem.del (m : Mem) (o : Nat) : Mem := { m with objs := delL m.objs o }
def Mem.push (m : Mem) (r : Row) : Mem := { m with objs := (m.next, r) :: m.objs, next := m.next + 1 }
def Mem.floor (m : Mem) (n : Nat) : Mem := { m with lo := n }

theorem getL_setL (l : List (Nat × Row)) (o : Nat) (r : Row) (x : Nat) : getL (setL l o r) x = if x = o then some r else getL l x := by
  induction l with
  | nil => simp [setL, getL]
  | cons p t ih =>
    obtain ⟨k, y⟩ := p
    simp only [setL]
    by_cases h : o = k
    · subst h
      simp only [if_true, getL]
      split <;> simp_all
    · simp only [if_neg h, getL, ih]
      by_cases h1 : x = k
      · subst h1; simp [Ne.symm h]
      · simp [h1]
theorem getL_delL (l : List (Nat × Row)) (o x : Nat) : getL (delL l o) x = if x = o then none else getL l x := by
  induction l with
  | nil => simp [delL, getL]
  | cons p t ih =>
    obtain ⟨k, y⟩ := p
    simp only [delL]
    by_cases h : o = k
    · subst h
      simp only [if_true, getL, ih]
      split <;> simp_all
    · simp only [if_neg h, getL, ih]
      by_cases h1 : x = k
      · subst h1; simp [Ne.symm h]
      · simp [h1]
@[simp] theorem Mem.get_set (m : Mem) (o : Nat) (r : Row) (x : Nat) : (m.set o r).get x = if x = o then some r else m.get x := getL_setL _ _ _ _
@[simp] theorem Mem.get_del (m : Mem) (o x : Nat) : (m.del o).get x = if x = o then none else m.get x := getL_delL _ _ _
@[simp] theorem Mem.get_push (m : Mem) (r : Row) (x : Nat) : (m.push r).get x = if x = m.next then some r else m.get x := rfl
@[simp] theorem Mem.get_floor (m : Mem) (n x : Nat) : (m.floor n).get x = m.get x := rfl
@[simp] theorem Mem.next_set (m : Mem) (o : Nat) (r : Row) : (m.set o r).next = m.next := rfl
@[simp] theorem Mem.next_del (m : Mem) (o : Nat) : (m.del o).next = m.next := rfl
@[simp] theorem Mem.next_push (m : Mem) (r : Row) : (m.push r).next = m.next + 1 := rfl
@[simp] theorem Mem.next_floor (m : Mem) (n : Nat) : (m.floor n).next = m.next := rfl
@[simp] theorem Mem.ro_set (m : Mem) (o : Nat) (r : Row) : (m.set o r).ro = m.ro := rfl
@[simp] theorem Mem.ro_del (m : Mem) (o : Nat) : (m.del o).ro = m.ro := rfl
@[simp] theorem Mem.ro_push (m : Mem) (r : Row) : (m.push r).ro = m.ro := rfl
@[simp] theorem Mem.ro_floor (m : Mem) (n : Nat) : (m.floor n).ro = m.ro := rfl
@[simp] theorem Mem.lo_set (m : Mem) (o : Nat) (r : Row) : (m.set o r).lo = m.lo := rfl
@[simp] theorem Mem.lo_del (m : Mem) (o : Nat) : (m.del o).lo = m.lo := rfl
@[simp] theorem Mem.lo_push (m : Mem) (r : Row) : (m.push r).lo = m.lo := rfl
@[simp] theorem Mem.lo_floor (m : Mem) (n : Nat) : (m.floor n).lo = n := rfl

/-! ### Values -/
def base : Value → Bool
  | .bool _ | .int .. | .float .. | .complex .. | .string _ | .pointer none | .slice none 0 0 | .map none | .chan none | .nilFunc | .nilIface => true
  | _ => false

/-- Where a row lies: its block, the first cell, how many cells there are from it on, the size of an element. -/
structure Loc where
  b : Nat
  s : Nat
  z : Nat
  sz : Nat
abbrev Inj := Nat → Option Loc

/-- What is held where an operation was not wanted. -/
abbrev gone : Value := .chan (some 0)
def one : Value → Bool
  | .agg _ | .tuple _ | .chan (some _) => false
  | _ => true
theorem base_one {v : Value} (h : base v = true) : one v = true := by
  cases v with
  | chan r => cases r <;> simp_all [base, one]
  | _ => simp_all [base, one]
inductive VRel (ι : Inj) : Value → Value → Prop
  | unk (v : Value) : VRel ι (.tuple #[]) v
  | gone : VRel ι gone (.tuple #[])
  | base {v : Value} (h : base v = true) : VRel ι v v
  | ptr {o off : Nat} {g : Loc} (h : ι o = some g) : VRel ι (.pointer (some ⟨o, off, none⟩)) (.pointer (some ⟨g.b, g.s + off, none⟩))
  | slice {o off n c c' : Nat} {a : Addr} {g : Loc} (h : ι o = some g) (h1 : n ≤ c) (h2 : n ≤ c') (h3 : c = n → c' = n) (h4 : c' ≠ 0 → a = ⟨g.b, g.s + off, none⟩ ∧ off + c' * g.sz ≤ g.z) :
      VRel ι (.slice (some ⟨o, off, none⟩) n c) (.slice (some a) n c')
  | func {fn : Fn} {x y x' y' : Array Value} (h1 : x.size = x'.size) (h2 : ∀ (i : Nat) u v, x[i]? = some u → x'[i]? = some v → VRel ι u v) (h3 : y.size = y'.size) (h4 : ∀ (i : Nat) u v, y[i]? = some u → y'[i]? = some v → VRel ι u v) :
      VRel ι (.func fn x y) (.func fn x' y')
  | iface {t : TypeId} {u v : Value} (h : VRel ι u v) : VRel ι (.iface t u) (.iface t v)
  | agg {x x' : Array Value} (h1 : x.size = x'.size) (h2 : ∀ (i : Nat) u v, x[i]? = some u → x'[i]? = some v → VRel ι u v) (h3 : ∀ u ∈ x.toList, one u = true) : VRel ι (.agg x) (.agg x')
  | tuple {x x' : Array Value} (h1 : x.size = x'.size) (h2 : ∀ (i : Nat) u v, x[i]? = some u → x'[i]? = some v → VRel ι u v) : VRel ι (.tuple x) (.tuple x')

def Inj.le (ι ι' : Inj) : Prop := ∀ o g, ι o = some g → ι' o = some g
theorem Inj.le.refl (ι : Inj) : Inj.le ι ι := fun _ _ h => h
theorem Inj.le.trans {a b c : Inj} (h : Inj.le a b) (k : Inj.le b c) : Inj.le a c := fun o g x => k o g (h o g x)

theorem VRel.mono {ι ι' : Inj} (hl : Inj.le ι ι') {v v' : Value} (h : VRel ι v v') : VRel ι' v v' := by
  induction h with
  | unk v => exact .unk v
  | gone => exact .gone
  | base h => exact .base h
  | ptr h => exact .ptr (hl _ _ h)
  | slice h h1 h2 h3 h4 => exact .slice (hl _ _ h) h1 h2 h3 h4
  | func h1 _ h3 _ i2 i4 => exact .func h1 i2 h3 i4
  | iface _ ih => exact .iface ih
  | agg h1 _ h3 ih => exact .agg h1 ih h3
  | tuple h1 _ ih => exact .tuple h1 ih

theorem VRel.undef {ι : Inj} (v : Value) : VRel ι undef v := .unk v
theorem VRel.int {ι : Inj} (k : IntKind) (n : Int) : VRel ι (.int k n) (.int k n) := .base rfl
theorem VRel.bool {ι : Inj} (b : Bool) : VRel ι (.bool b) (.bool b) := .base rfl
theorem VRel.string {ι : Inj} (s : ByteArray) : VRel ι (.string s) (.string s) := .base rfl
theorem VRel.of_int {ι : Inj} {k : IntKind} {n : Int} {v : Value} (h : VRel ι (.int k n) v) : v = .int k n := by cases h; rfl
theorem VRel.of_gone {ι : Inj} {n : Nat} {v : Value} (h : VRel ι (.chan (some n)) v) : v = .tuple #[] := by
  cases h with
  | gone => rfl
  | base h => simp [D.base] at h
theorem VRel.of_bool {ι : Inj} {b : Bool} {v : Value} (h : VRel ι (.bool b) v) : v = .bool b := by cases h; rfl
theorem VRel.of_string {ι : Inj} {s : ByteArray} {v : Value} (h : VRel ι (.string s) v) : v = .string s := by cases h; rfl
theorem VRel.of_base {ι : Inj} {u v : Value} (hb : D.base u = true) (h : VRel ι u v) : v = u := by
  cases h <;> first | rfl | simp [D.base] at hb
theorem VRel.of_ptr {ι : Inj} {a : Addr} {v : Value} (h : VRel ι (.pointer (some a)) v) : ∃ o off g, a = ⟨o, off, none⟩ ∧ ι o = some g ∧ v = .pointer (some ⟨g.b, g.s + off, none⟩) := by
  cases h with
  | base h => simp [D.base] at h
  | ptr h => exact ⟨_, _, _, rfl, h, rfl⟩
theorem VRel.of_slice {ι : Inj} {a : Addr} {n c : Nat} {v : Value} (h : VRel ι (.slice (some a) n c) v) :
    ∃ o off g a' c', a = ⟨o, off, none⟩ ∧ ι o = some g ∧ v = .slice (some a') n c' ∧ n ≤ c ∧ n ≤ c' ∧ (c = n → c' = n) ∧ (c' ≠ 0 → a' = ⟨g.b, g.s + off, none⟩ ∧ off + c' * g.sz ≤ g.z) := by
  cases h with
  | base h => simp [D.base] at h
  | slice h h1 h2 h3 h4 => exact ⟨_, _, _, _, _, rfl, h, rfl, h1, h2, h3, h4⟩
theorem VRel.of_nilslice {ι : Inj} {n c : Nat} {v : Value} (h : VRel ι (.slice none n c) v) : n = 0 ∧ c = 0 ∧ v = .slice none 0 0 := by
  cases h with
  | base h =>
    have : n = 0 ∧ c = 0 := by
      unfold D.base at h
      split at h <;> simp_all
    obtain ⟨rfl, rfl⟩ := this
    exact ⟨rfl, rfl, rfl⟩
theorem VRel.of_agg {ι : Inj} {x : Array Value} {v : Value} (h : VRel ι (.agg x) v) : ∃ x', v = .agg x' ∧ x.size = x'.size ∧ (∀ (i : Nat) u v, x[i]? = some u → x'[i]? = some v → VRel ι u v) ∧ ∀ u ∈ x.toList, one u = true := by
  cases h with
  | base h => simp [D.base] at h
  | agg h1 h2 h3 => exact ⟨_, rfl, h1, h2, h3⟩
theorem VRel.of_tuple {ι : Inj} {x : Array Value} {v : Value} (hx : x ≠ #[]) (h : VRel ι (.tuple x) v) : ∃ x', v = .tuple x' ∧ x.size = x'.size ∧ ∀ (i : Nat) u v, x[i]? = some u → x'[i]? = some v → VRel ι u v := by
  cases h with
  | unk => exact absurd rfl hx
  | base h => simp [D.base] at h
  | tuple h1 h2 => exact ⟨_, rfl, h1, h2⟩
theorem VRel.of_func {ι : Inj} {fn : Fn} {x y : Array Value} {v : Value} (h : VRel ι (.func fn x y) v) : ∃ x' y', v = .func fn x' y' ∧ x.size = x'.size ∧ (∀ (i : Nat) u v, x[i]? = some u → x'[i]? = some v → VRel ι u v) ∧ y.size = y'.size ∧ ∀ (i : Nat) u v, y[i]? = some u → y'[i]? = some v → VRel ι u v := by
  cases h with
  | base h => simp [D.base] at h
  | func h1 h2 h3 h4 => exact ⟨_, _, rfl, h1, h2, h3, h4⟩
theorem VRel.of_iface {ι : Inj} {t : TypeId} {u v : Value} (h : VRel ι (.iface t u) v) : ∃ u', v = .iface t u' ∧ VRel ι u u' := by
  cases h with
  | base h => simp [D.base] at h
  | iface h => exact ⟨_, rfl, h⟩

/-- Lists of values. -/
def LRel (ι : Inj) (l l' : List Value) : Prop := l.length = l'.length ∧ ∀ (i : Nat) u v, l[i]? = some u → l'[i]? = some v → VRel ι u v
theorem LRel.mono {ι ι' : Inj} (hl : Inj.le ι ι') {l l' : List Value} (h : LRel ι l l') : LRel ι' l l' := ⟨h.1, fun i u v a b => (h.2 i u v a b).mono hl⟩
theorem LRel.nil {ι : Inj} : LRel ι [] [] := ⟨rfl, fun i u v h _ => by simp at h⟩
theorem LRel.cons {ι : Inj} {u v : Value} {l l' : List Value} (h : VRel ι u v) (t : LRel ι l l') : LRel ι (u :: l) (v :: l') :=
  ⟨by simp [t.1], fun i x y a b => by
    cases i with
    | zero => simp at a b; subst a b; exact h
    | succ i => simp at a b; exact t.2 i x y a b⟩
theorem LRel.cons_inv {ι : Inj} {u : Value} {l l' : List Value} (h : LRel ι (u :: l) l') : ∃ v t, l' = v :: t ∧ VRel ι u v ∧ LRel ι l t := by
  cases l' with
  | nil => simp [LRel] at h
  | cons v t => exact ⟨v, t, rfl, h.2 0 u v rfl rfl, by simpa using h.1, fun i x y a b => h.2 (i + 1) x y (by simpa using a) (by simpa using b)⟩
theorem LRel.nil_inv {ι : Inj} {l : List Value} (h : LRel ι [] l) : l = [] := List.eq_nil_of_length_eq_zero h.1.symm
theorem LRel.append {ι : Inj} {a a' b b' : List Value} (h : LRel ι a a') (k : LRel ι b b') : LRel ι (a ++ b) (a' ++ b') := by
  induction a generalizing a' with
  | nil => rw [LRel.nil_inv h]; exact k
  | cons u l ih => obtain ⟨v, t, rfl, hv, ht⟩ := h.cons_inv; exact LRel.cons hv (ih ht)
theorem LRel.get {ι : Inj} {l l' : List Value} (h : LRel ι l l') {i : Nat} {u : Value} (hu : l[i]? = some u) : ∃ v, l'[i]? = some v ∧ VRel ι u v := by
  have hi : i < l.length := (List.getElem?_eq_some_iff.1 hu).1
  have hi' : i < l'.length := h.1 ▸ hi
  exact ⟨l'[i], List.getElem?_eq_getElem hi', h.2 i u _ hu (List.getElem?_eq_getElem hi')⟩
theorem LRel.take {ι : Inj} {l l' : List Value} (h : LRel ι l l') (n : Nat) : LRel ι (l.take n) (l'.take n) :=
  ⟨by simp [h.1], fun i u v a b => by
    rw [List.getElem?_take] at a b
    split at a
    · rw [if_pos ‹_›] at b; exact h.2 i u v a b
    · cases a⟩
theorem LRel.drop {ι : Inj} {l l' : List Value} (h : LRel ι l l') (n : Nat) : LRel ι (l.drop n) (l'.drop n) :=
  ⟨by simp [h.1], fun i u v a b => by
    rw [List.getElem?_drop] at a b
    exact h.2 _ u v a b⟩
theorem LRel.base {ι : Inj} {l : List Value} (h : ∀ v ∈ l, D.base v = true) : LRel ι l l :=
  ⟨rfl, fun i u v a b => by
    rw [a] at b; cases b
    exact .base (h u (List.mem_of_getElem? a))⟩
theorem VRel.agg_l {ι : Inj} {l l' : List Value} (h : LRel ι l l') (h1 : ∀ u ∈ l, one u = true) : VRel ι (.agg l.toArray) (.agg l'.toArray) :=
  .agg (by simpa using h.1) (fun i u v a b => h.2 i u v (by simpa using a) (by simpa using b)) (by simpa using h1)
theorem VRel.tuple_l {ι : Inj} {l l' : List Value} (h : LRel ι l l') : VRel ι (.tuple l.toArray) (.tuple l'.toArray) :=
  .tuple (by simpa using h.1) (fun i u v a b => h.2 i u v (by simpa using a) (by simpa using b))
theorem lrel_of_arr {ι : Inj} {x x' : Array Value} (h1 : x.size = x'.size) (h2 : ∀ (i : Nat) u v, x[i]? = some u → x'[i]? = some v → VRel ι u v) : LRel ι x.toList x'.toList :=
  ⟨by simpa using h1, fun i u v a b => h2 i u v (by simpa using a) (by simpa using b)⟩
/-- What is known of a value: not a tuple. -/
def known : Value → Bool
  | .tuple _ | .chan (some _) => false
  | _ => true
theorem VRel.cells {ι : Inj} {u v : Value} (hk : known u = true) (h : VRel ι u v) : LRel ι u.cells.toList v.cells.toList := by
  cases h with
  | unk => simp [known] at hk
  | gone => simp [known] at hk
  | tuple => simp [known] at hk
  | base h => exact (by cases u <;> first | exact LRel.cons (.base h) .nil | simp [D.base] at h)
  | ptr h => exact LRel.cons (.ptr h) .nil
  | slice h h1 h2 h3 h4 => exact LRel.cons (.slice h h1 h2 h3 h4) .nil
  | func h1 h2 h3 h4 => exact LRel.cons (.func h1 h2 h3 h4) .nil
  | iface h => exact LRel.cons (.iface h) .nil
  | agg h1 h2 _ => exact lrel_of_arr h1 h2
theorem VRel.one {ι : Inj} {u v : Value} (hk : D.one u = true) (h : VRel ι u v) : D.one v = true := by
  cases h <;> simp_all [D.one]
theorem VRel.ones {ι : Inj} {u v : Value} (hk : known u = true) (h : VRel ι u v) : ∀ x ∈ u.cells.toList, D.one x = true := by
  cases h with
  | unk => simp [known] at hk
  | gone => simp [known] at hk
  | tuple => simp [known] at hk
  | agg h1 h2 h3 => exact h3
  | base h =>
    cases u with
    | chan r =>
      cases r with
      | none => intro x hx; simp [Value.cells] at hx; subst hx; rfl
      | some n => simp [D.base] at h
    | _ => first | (intro x hx; simp [Value.cells] at hx; subst hx; rfl) | simp [D.base] at h
  | ptr h => intro x hx; simp [Value.cells] at hx; subst hx; rfl
  | slice => intro x hx; simp [Value.cells] at hx; subst hx; rfl
  | func => intro x hx; simp [Value.cells] at hx; subst hx; rfl
  | iface => intro x hx; simp [Value.cells] at hx; subst hx; rfl
theorem LRel.ones {ι : Inj} {l l' : List Value} (h : LRel ι l l') (h1 : ∀ u ∈ l, D.one u = true) : ∀ u ∈ l', D.one u = true := by
  intro u hu
  obtain ⟨j, hj, rfl⟩ := List.mem_iff_getElem.1 hu
  have hj' : j < l.length := by rw [h.1]; exact hj
  have hone := h1 _ (List.getElem_mem hj')
  have hr := h.2 j _ _ (List.getElem?_eq_getElem hj') (List.getElem?_eq_getElem hj)
  exact hr.one hone


/-! ### Worlds -/
/-- What stays fixed: the program, the world in which the call began, the first number of a row that was made since. -/
structure Cx where
  P : Program
  w0 : World
  B : Nat
  lo : Nat

/-- None of so many cells is frozen. -/
def FzOk (fz : Nat × Nat) (n : Nat) : Prop := fz.1 = fz.2 ∨ n ≤ fz.1
theorem FzOk.free {fz : Nat × Nat} {n : Nat} (h : FzOk fz n) : ∀ i, i < n → ¬ (fz.1 ≤ i ∧ i < fz.2) := fun i hi => by rcases h with h | h <;> omega
/-- The size of a row of one variable, whose type is known. -/
def mark (t : TypeId) : Nat := 4294967296 + t
/-- The size of a row of bytes, whose type is known; what it counts as. -/
def C8 : Nat := 4294967295
def unit (n : Nat) : Nat := if n = 4294967295 then 1 else n
theorem unit_lt {n : Nat} (h : n < 4294967295) : unit n = n := by unfold unit; rw [if_neg (by omega)]
/-- A type of bytes. -/
def ByteT (P : Program) (e : TypeId) : Prop := P.underlying e = some (.int .u8) ∧ P.cellsOf e = 1
/-- A row of the abstract memory, as it lies in a world. -/
structure At (cx : Cx) (ι : Inj) (o : Nat) (r : Row) (g : Loc) (w : World) : Prop where
  ex : ∃ cs e fz, w.heap[g.b]? = some (.cells cs e fz) ∧ g.s + g.z = cs.size ∧ r.cells.length ≤ g.z ∧ unit r.sz = g.sz ∧
    (∀ (i : Nat) v, r.cells[i]? = some v → ∃ v', cs[g.s + i]? = some v' ∧ VRel ι v v') ∧
    (cx.lo ≤ o → cx.B ≤ g.b ∧ g.s + g.z = cs.size ∧ FzOk fz cs.size)
  ones : ∀ v ∈ r.cells, one v = true
  typ : ∀ t, r.sz = mark t → g.s = 0 ∧ ∃ cs fz, w.heap[g.b]? = some (.cells cs t fz) ∧ g.z = cs.size
  byt : r.sz = C8 → ∃ cs e fz, w.heap[g.b]? = some (.cells cs e fz) ∧ ByteT cx.P e
/-- What a row's size says of its block's type. -/
structure TyE (P : Program) (sz : Nat) (e : TypeId) : Prop where
  mrk : ∀ t, sz = mark t → e = t
  by8 : sz = C8 → ByteT P e

structure Rel (cx : Cx) (ι : Inj) (m : Mem) (w : World) : Prop where
  below : Below cx.B cx.w0 w
  base : cx.B ≤ w.heap.size
  lo : cx.lo ≤ m.lo
  lonext : cx.lo ≤ m.next
  tight : ∀ o g, ι o = some g → o < m.next
  lt : ∀ o g, ι o = some g → g.b < w.heap.size
  own : ∀ o o' g g', ι o = some g → ι o' = some g' → m.get o ≠ none → m.get o' ≠ none → cx.lo ≤ o → o ≠ o' → g.b ≠ g'.b
  obj : ∀ o g r, ι o = some g → m.get o = some r → At cx ι o r g w
  ro : m.ro = cx.lo

/-- A block that holds what it held; only what is marked of it may have turned. -/
def Same (x y : Option Obj) : Prop := x = y ∨ ∃ c e fz fz', x = some (.cells c e fz) ∧ y = some (.cells c e fz') ∧ (FzOk fz c.size → FzOk fz' c.size)
theorem Same.refl (x : Option Obj) : Same x x := .inl rfl
theorem Same.trans {x y z : Option Obj} (h : Same x y) (k : Same y z) : Same x z := by
  rcases h with rfl | ⟨c, e, fz, fz', rfl, rfl, h⟩
  · exact k
  · rcases k with k | ⟨c', e', f, f', h1, h2, k⟩
    · exact .inr ⟨c, e, fz, fz', rfl, k.symm, h⟩
    · cases h1
      exact .inr ⟨c, e, fz, f', rfl, h2, fun x => k (h x)⟩
/-- What a step leaves: the new places, the blocks that may have turned. -/
structure Post (cx : Cx) (ι : Inj) (m : Mem) (w : World) (ι' : Inj) (m' : Mem) (w' : World) : Prop where
  le : Inj.le ι ι'
  rel : Rel cx ι' m' w'
  lo : m'.lo = m.lo
  next : m.next ≤ m'.next
  size : w.heap.size ≤ w'.heap.size
  new : ∀ o g, ι' o = some g → ι o = none → m.next ≤ o ∧ (w.heap.size ≤ g.b ∨ ∃ o2 g2, ι o2 = some g2 ∧ g.b = g2.b ∧ m.lo ≤ o2 ∧ m.get o2 ≠ none)
  frame : ∀ b, b < w.heap.size → (∀ o g, ι o = some g → m.lo ≤ o → m.get o ≠ none → g.b ≠ b) → Same (w.heap[b]?) (w'.heap[b]?)
  dead : ∀ o, o < m.next → m.get o = none → m'.get o = none

theorem Post.refl {cx : Cx} {ι : Inj} {m : Mem} {w : World} (h : Rel cx ι m w) : Post cx ι m w ι m w :=
  ⟨.refl _, h, rfl, Nat.le_refl _, Nat.le_refl _, fun o g a b => (by rw [a] at b; cases b), fun _ _ _ => .inl rfl, fun _ _ h => h⟩

theorem Post.trans {cx : Cx} {ι ι1 ι2 : Inj} {m m1 m2 : Mem} {w w1 w2 : World} (h : Post cx ι m w ι1 m1 w1) (k : Post cx ι1 m1 w1 ι2 m2 w2) (hr : Rel cx ι m w) : Post cx ι m w ι2 m2 w2 where
  le := h.le.trans k.le
  rel := k.rel
  lo := k.lo.trans h.lo
  next := Nat.le_trans h.next k.next
  size := Nat.le_trans h.size k.size
  new := by
    intro o g h2 h0
    cases h1 : ι1 o with
    | some g1 =>
      have := k.le _ _ h1
      rw [h2] at this; cases this
      exact h.new o g h1 h0
    | none =>
      obtain ⟨hn, hb⟩ := k.new o g h2 h1
      refine ⟨Nat.le_trans h.next hn, ?_⟩
      rcases hb with hb | ⟨o2, g2, e1, e2, e3, e4⟩
      · exact .inl (Nat.le_trans h.size hb)
      · cases h02 : ι o2 with
        | some g3 =>
          have := h.le _ _ h02
          rw [e1] at this; cases this
          refine .inr ⟨o2, g2, h02, e2, h.lo ▸ e3, fun hd => e4 ?_⟩
          exact h.dead o2 (hr.tight o2 g2 h02) hd
        | none =>
          obtain ⟨_, hb⟩ := h.new o2 g2 e1 h02
          rw [e2]
          exact hb
  frame := by
    intro b hb hno
    refine (h.frame b hb hno).trans (k.frame b (Nat.lt_of_lt_of_le hb h.size) ?_)
    intro o g h1 hlo hne he
    cases h0 : ι o with
    | some g0 =>
      have := h.le _ _ h0
      rw [h1] at this; cases this
      exact hno o g h0 (h.lo ▸ hlo) (fun hd => hne (h.dead o (hr.tight o g h0) hd)) he
    | none =>
      obtain ⟨_, hb'⟩ := h.new o g h1 h0
      rcases hb' with hb' | ⟨o2, g2, e1, e2, e3, e4⟩
      · omega
      · exact hno o2 g2 e1 e3 e4 (e2 ▸ he)
  dead := fun o ho hd => k.dead o (Nat.lt_of_lt_of_le ho h.next) (h.dead o ho hd)
end Go.Proofs.Ytjojfpmelhaknaa.D
