/-
  The printed form, step by step: what simp may use; slices and what they hold.
-/
import Derived.Test.YtjojfpmelhaknaaD21
namespace Go.Proofs.Ytjojfpmelhaknaa.D
open Go.RowKit
set_option linter.unusedVariables false
set_option linter.unusedSimpArgs false

@[simp] theorem Mem.floor_floor (m : Mem) (a b : Nat) : (m.floor a).floor b = m.floor b := rfl
@[simp] theorem Mem.floor_lo (m : Mem) : m.floor m.lo = m := rfl
@[simp] theorem letK_eq {α : Type} (x : α) (k : α → Option Out) : letK x k = k x := rfl
@[simp] theorem br_bool (b : Bool) (t e : Option Out) : br (.bool b) t e = if b = true then t else e := rfl
@[simp] theorem retK_ret (v : Value) (m : Mem) (d : List Dfr) (kr kp : KV) : retK (some ⟨.ret, [v], m, d⟩) kr kp = kr v m := rfl
@[simp] theorem retK_panic (v : Value) (vs : List Value) (m : Mem) (d : List Dfr) (kr kp : KV) : retK (some ⟨.panic v, vs, m, d⟩) kr kp = kp v m := rfl
@[simp] theorem lpK_exit (id : Nat) (vs : List Value) (m : Mem) (d : List Dfr) (ke : Nat → List Value → Mem → List Dfr → Option Out) (kr : List Value → Mem → List Dfr → Option Out) (kp : Value → List Value → Mem → List Dfr → Option Out) : lpK (some ⟨.exit id, vs, m, d⟩) ke kr kp = ke id vs m d := rfl
@[simp] theorem lpK_ret (vs : List Value) (m : Mem) (d : List Dfr) (ke : Nat → List Value → Mem → List Dfr → Option Out) (kr : List Value → Mem → List Dfr → Option Out) (kp : Value → List Value → Mem → List Dfr → Option Out) : lpK (some ⟨.ret, vs, m, d⟩) ke kr kp = kr vs m d := rfl
@[simp] theorem lpK_panic (v : Value) (vs : List Value) (m : Mem) (d : List Dfr) (ke : Nat → List Value → Mem → List Dfr → Option Out) (kr : List Value → Mem → List Dfr → Option Out) (kp : Value → List Value → Mem → List Dfr → Option Out) : lpK (some ⟨.panic v, vs, m, d⟩) ke kr kp = kp v vs m d := rfl
@[simp] theorem cutK_normal (vs : List Value) (m : Mem) (d : List Dfr) (kn : List Value → Mem → List Dfr → Option Out) (ke : Nat → List Value → Mem → List Dfr → Option Out) (kr : List Value → Mem → List Dfr → Option Out) (kp : Value → List Value → Mem → List Dfr → Option Out) : cutK (some ⟨.normal, vs, m, d⟩) kn ke kr kp = kn vs m d := rfl
@[simp] theorem cutK_exit (id : Nat) (vs : List Value) (m : Mem) (d : List Dfr) (kn : List Value → Mem → List Dfr → Option Out) (ke : Nat → List Value → Mem → List Dfr → Option Out) (kr : List Value → Mem → List Dfr → Option Out) (kp : Value → List Value → Mem → List Dfr → Option Out) : cutK (some ⟨.exit id, vs, m, d⟩) kn ke kr kp = ke id vs m d := rfl
@[simp] theorem cutK_ret (vs : List Value) (m : Mem) (d : List Dfr) (kn : List Value → Mem → List Dfr → Option Out) (ke : Nat → List Value → Mem → List Dfr → Option Out) (kr : List Value → Mem → List Dfr → Option Out) (kp : Value → List Value → Mem → List Dfr → Option Out) : cutK (some ⟨.ret, vs, m, d⟩) kn ke kr kp = kr vs m d := rfl
@[simp] theorem lpN_exit (id : Nat) (vs : List Value) (m : Mem) (ke : Nat → List Value → Mem → Option Out) (kr : List Value → Mem → Option Out) (kp : Value → List Value → Mem → Option Out) : lpN (some ⟨.exit id, vs, m, []⟩) ke kr kp = ke id vs m := rfl
@[simp] theorem lpN_ret (vs : List Value) (m : Mem) (ke : Nat → List Value → Mem → Option Out) (kr : List Value → Mem → Option Out) (kp : Value → List Value → Mem → Option Out) : lpN (some ⟨.ret, vs, m, []⟩) ke kr kp = kr vs m := rfl
@[simp] theorem lpN_panic (v : Value) (vs : List Value) (m : Mem) (ke : Nat → List Value → Mem → Option Out) (kr : List Value → Mem → Option Out) (kp : Value → List Value → Mem → Option Out) : lpN (some ⟨.panic v, vs, m, []⟩) ke kr kp = kp v vs m := rfl
@[simp] theorem cutN_normal (vs : List Value) (m : Mem) (kn : List Value → Mem → Option Out) (ke : Nat → List Value → Mem → Option Out) (kr : List Value → Mem → Option Out) (kp : Value → List Value → Mem → Option Out) : cutN (some ⟨.normal, vs, m, []⟩) kn ke kr kp = kn vs m := rfl
@[simp] theorem cutN_exit (id : Nat) (vs : List Value) (m : Mem) (kn : List Value → Mem → Option Out) (ke : Nat → List Value → Mem → Option Out) (kr : List Value → Mem → Option Out) (kp : Value → List Value → Mem → Option Out) : cutN (some ⟨.exit id, vs, m, []⟩) kn ke kr kp = ke id vs m := rfl
@[simp] theorem cutN_ret (vs : List Value) (m : Mem) (kn : List Value → Mem → Option Out) (ke : Nat → List Value → Mem → Option Out) (kr : List Value → Mem → Option Out) (kp : Value → List Value → Mem → Option Out) : cutN (some ⟨.ret, vs, m, []⟩) kn ke kr kp = kr vs m := rfl
@[simp] theorem leaves_none (O : Orc) (fn : IFun) (env : Env) (m : Mem) : leaves O fn env [] none m = (resOf fn env m).bind fun v => some ⟨.ret, [v], m, []⟩ := rfl
@[simp] theorem leaves_some (O : Orc) (fn : IFun) (env : Env) (v : Value) (m : Mem) : leaves O fn env [] (some v) m = some ⟨.panic v, [], m, []⟩ := rfl
attribute [simp] resOf resL pack
@[simp] theorem put_some (env : Env) (d : Nat) (v : Value) (t : Nat) : put env (some d) v t = if t = d then v else env t := rfl
@[simp] theorem unpack_eq (keep : List Nat) (vals : List Value) (t : Nat) : unpack keep vals t = unpackI vals keep 0 t := rfl
@[simp] theorem unpackI_nil (vals : List Value) (i x : Nat) : unpackI vals [] i x = undef := rfl
@[simp] theorem unpackI_cons (vals : List Value) (t : Nat) (ts : List Nat) (i x : Nat) : unpackI vals (t :: ts) i x = if x = t then vals.getD i undef else unpackI vals ts (i + 1) x := rfl
@[simp] theorem getD_zero (v : Value) (l : List Value) (u : Value) : (v :: l).getD 0 u = v := rfl
@[simp] theorem getD_succ (v : Value) (l : List Value) (n : Nat) (u : Value) : (v :: l).getD (n + 1) u = l.getD n u := rfl
@[simp] theorem bool?_bool (b : Bool) : bool? (.bool b) = some b := rfl
@[simp] theorem int?_int (k : IntKind) (n : Int) : int? (.int k n) = some (k, n) := rfl
@[simp] theorem str?_str (s : ByteArray) : str? (.string s) = some s := rfl
@[simp] theorem slc?_nil' : slc? (.slice none 0 0) = some .nil := rfl
@[simp] theorem slc?_at' (o off n c : Nat) : slc? (.slice (some ⟨o, off, none⟩) n c) = some (.at_ o off n c) := rfl
@[simp] theorem aCheck_ptr (a : Addr) : aCheck (.pointer (some a)) = some (.pointer (some a)) := rfl
@[simp] theorem aFieldAddr_ptr (k o off : Nat) : aFieldAddr k (.pointer (some ⟨o, off, none⟩)) = some (.pointer (some ⟨o, off + k, none⟩)) := rfl
@[simp] theorem aLd_one (o off : Nat) (m : Mem) : aLd 1 false (.pointer (some ⟨o, off, none⟩)) m = (m.get o).bind fun r => r.cells[off]? := rfl
@[simp] theorem aExtract_tuple (i : Nat) (a : Value) (l : List Value) : aExtract i (.tuple (a :: l).toArray) = (a :: l)[i]? := by simp [aExtract, tup?]
@[simp] theorem aInt_int (k k' : IntKind) (n : Int) : aInt k (.int k' n) = some (.int k (k.wrap n)) := rfl
@[simp] theorem aSame_str (s : ByteArray) : aSame (.string s) = some (.string s) := rfl
@[simp] theorem aBin_add (k : IntKind) (a b : Int) : aBin .add (.int k a) (.int k b) = some (.int k (k.wrap (a + b))) := by simp [aBin, iBin]
@[simp] theorem aBin_sub (k : IntKind) (a b : Int) : aBin .sub (.int k a) (.int k b) = some (.int k (k.wrap (a - b))) := by simp [aBin, iBin]
@[simp] theorem aBin_mul (k : IntKind) (a b : Int) : aBin .mul (.int k a) (.int k b) = some (.int k (k.wrap (a * b))) := by simp [aBin, iBin]
@[simp] theorem aBin_quo (k : IntKind) (a b : Int) : aBin .quo (.int k a) (.int k b) = if b = 0 then none else some (.int k (k.wrap (a.tdiv b))) := by simp [aBin, iBin]
@[simp] theorem aBin_rem (k : IntKind) (a b : Int) : aBin .rem (.int k a) (.int k b) = if b = 0 then none else some (.int k (a.tmod b)) := by simp [aBin, iBin]
@[simp] theorem aBin_eql (k : IntKind) (a b : Int) : aBin .eql (.int k a) (.int k b) = some (.bool (decide (a = b))) := by simp [aBin, iBin]; rfl
@[simp] theorem aBin_neq (k : IntKind) (a b : Int) : aBin .neq (.int k a) (.int k b) = some (.bool (!decide (a = b))) := by simp [aBin, iBin]; rfl
@[simp] theorem aBin_lss (k : IntKind) (a b : Int) : aBin .lss (.int k a) (.int k b) = some (.bool (decide (a < b))) := by simp [aBin, iBin]
@[simp] theorem aBin_leq (k : IntKind) (a b : Int) : aBin .leq (.int k a) (.int k b) = some (.bool (decide (a ≤ b))) := by simp [aBin, iBin]
@[simp] theorem aBin_gtr (k : IntKind) (a b : Int) : aBin .gtr (.int k a) (.int k b) = some (.bool (decide (b < a))) := by simp [aBin, iBin]
@[simp] theorem aBin_geq (k : IntKind) (a b : Int) : aBin .geq (.int k a) (.int k b) = some (.bool (decide (b ≤ a))) := by simp [aBin, iBin]
@[simp] theorem aUn_not (b : Bool) : aUn .not (.bool b) = some (.bool !b) := rfl
@[simp] theorem aEqB_bool (n a b : Bool) : aEqB n (.bool a) (.bool b) = some (.bool (if n then !(a == b) else (a == b))) := rfl
@[simp] theorem aIsNil_pn (n : Bool) : aIsNil .ptr n (.pointer none) = some (.bool (if n then false else true)) := by cases n <;> rfl
@[simp] theorem aIsNil_ps (n : Bool) (a : Addr) : aIsNil .ptr n (.pointer (some a)) = some (.bool (if n then true else false)) := by cases n <;> rfl
@[simp] theorem fn?_func (f : FuncId) (a b : Array Value) : fn? (.func (.func f) a b) = some (f, a.toList, b.toList) := rfl
theorem wrap_i64 {n : Int} (h : -9223372036854775808 ≤ n) (h2 : n ≤ 9223372036854775807) : IntKind.wrap .i64 n = n := by
  have e1 : (IntKind.i64.signed && decide (n % (2 ^ IntKind.i64.bits : Int) ≥ (2 ^ (IntKind.i64.bits - 1) : Int))) = decide (n % 18446744073709551616 ≥ 9223372036854775808) := rfl
  unfold IntKind.wrap
  simp only [e1, decide_eq_true_eq]
  show (if n % 18446744073709551616 ≥ 9223372036854775808 then n % 18446744073709551616 - 18446744073709551616 else n % 18446744073709551616) = n
  split <;> omega
theorem wrap_u8 {n : Int} (h : 0 ≤ n) (h2 : n ≤ 255) : IntKind.wrap .u8 n = n := by
  have e1 : (IntKind.u8.signed && decide (n % (2 ^ IntKind.u8.bits : Int) ≥ (2 ^ (IntKind.u8.bits - 1) : Int))) = false := rfl
  unfold IntKind.wrap
  simp only [e1]
  show n % 256 = n
  omega

@[simp] theorem known_int (k : IntKind) (n : Int) : known (.int k n) = true := rfl
@[simp] theorem known_slice (a : Option Addr) (n c : Nat) : known (.slice a n c) = true := rfl
@[simp] theorem known_agg (a : Array Value) : known (.agg a) = true := rfl
@[simp] theorem known_bool (b : Bool) : known (.bool b) = true := rfl
@[simp] theorem known_ptr (a : Option Addr) : known (.pointer a) = true := rfl
@[simp] theorem known_str (a : ByteArray) : known (.string a) = true := rfl
@[simp] theorem cells_int (k : IntKind) (n : Int) : (Value.int k n).cells = #[.int k n] := rfl
@[simp] theorem cells_slice (a : Option Addr) (n c : Nat) : (Value.slice a n c).cells = #[.slice a n c] := rfl
@[simp] theorem cells_agg (a : Array Value) : (Value.agg a).cells = a := rfl
@[simp] theorem cells_bool (b : Bool) : (Value.bool b).cells = #[.bool b] := rfl
@[simp] theorem cells_ptr (a : Option Addr) : (Value.pointer a).cells = #[.pointer a] := rfl
@[simp] theorem cells_str (a : ByteArray) : (Value.string a).cells = #[.string a] := rfl
/-- A value that takes one cell. -/
def single (x : Value) : Prop := known x = true ∧ x.cells.toList = [x]
@[simp] theorem aSt_one {o off : Nat} {x : Value} {m : Mem} (h : single x) : aSt 1 (.pointer (some ⟨o, off, none⟩)) x m = m.st o off [x] := by
  have h1 : x.cells.size = 1 := by rw [← Array.length_toList, h.2]; rfl
  simp [aSt, h.1, h1, h.2, addr?]
@[simp] theorem single_int (k : IntKind) (n : Int) : single (.int k n) := ⟨rfl, rfl⟩
@[simp] theorem single_slice (a : Option Addr) (n c : Nat) : single (.slice a n c) := ⟨rfl, rfl⟩
@[simp] theorem single_bool (b : Bool) : single (.bool b) := ⟨rfl, rfl⟩
@[simp] theorem single_ptr (a : Option Addr) : single (.pointer a) := ⟨rfl, rfl⟩
@[simp] theorem single_str (a : ByteArray) : single (.string a) := ⟨rfl, rfl⟩
theorem st_one (m : Mem) (o off : Nat) (x : Value) : m.st o off [x] = (m.get o).bind fun r => if m.lo ≤ o then (if off + 1 ≤ r.cells.length then some (m.set o ⟨r.sz, putL r.cells off [x]⟩) else none) else none := rfl
theorem st_some {m : Mem} {o off : Nat} {x : Value} {r : Row} (h : m.get o = some r) (hl : m.lo ≤ o) (hc : off < r.cells.length) : m.st o off [x] = some (m.set o ⟨r.sz, putL r.cells off [x]⟩) := by
  unfold Mem.st
  rw [h]
  simp only [Option.bind_some, if_pos hl, List.length_singleton]
  rw [if_pos (by omega)]

/-! ### Slices -/
/-- A slice whose elements take so many cells each. -/
def Sl {α : Type} (m : Mem) (v : Value) (sz : Nat) (enc : α → List Value) (l : List α) : Prop :=
  (v = .slice none 0 0 ∧ l = []) ∨ ∃ o off c r, v = .slice (some ⟨o, off, none⟩) l.length c ∧ o < m.next ∧ m.get o = some r ∧ D.unit r.sz = sz ∧ off + l.length * sz ≤ r.cells.length ∧ ∀ (i : Nat) x, l[i]? = some x → ∀ j, j < sz → r.cells[off + i * sz + j]? = (enc x)[j]?
/-- Bytes. -/
def bE (c : Int) : List Value := [.int .u8 c]
abbrev By (m : Mem) (v : Value) (l : List Int) : Prop := Sl m v 1 bE l
/-- What was there is there as it was. -/
structure Ge (m m' : Mem) : Prop where
  lo : m'.lo = m.lo
  ro : m'.ro = m.ro
  next : m.next ≤ m'.next
  get : ∀ o, o < m.next → m'.get o = m.get o
theorem Ge.refl (m : Mem) : Ge m m := ⟨rfl, rfl, Nat.le_refl _, fun _ _ => rfl⟩
theorem Ge.trans {a b c : Mem} (h : Ge a b) (k : Ge b c) : Ge a c := ⟨k.lo.trans h.lo, k.ro.trans h.ro, Nat.le_trans h.next k.next, fun o ho => (k.get o (Nat.lt_of_lt_of_le ho h.next)).trans (h.get o ho)⟩
theorem Ge.push (m : Mem) (r : Row) : Ge m (m.push r) := ⟨rfl, rfl, Nat.le_succ _, fun o ho => by simp [Nat.ne_of_lt ho]⟩
section
variable {α : Type} {m m' : Mem} {v : Value} {sz : Nat} {enc : α → List Value} {l : List α}
theorem Sl.mono (h : Sl m v sz enc l) (hg : Ge m m') : Sl m' v sz enc l := by
  rcases h with ⟨rfl, rfl⟩ | ⟨o, off, c, r, h0, h1, h2, h3⟩
  · exact .inl ⟨rfl, rfl⟩
  · exact .inr ⟨o, off, c, r, h0, Nat.lt_of_lt_of_le h1 hg.next, (hg.get o h1).trans h2, h3⟩
theorem Sl.nil : Sl m (.slice none 0 0) sz enc ([] : List α) := .inl ⟨rfl, rfl⟩
theorem Sl.len (h : Sl m v sz enc l) : aLenL v = some (.int .i64 l.length) := by
  rcases h with ⟨rfl, rfl⟩ | ⟨o, off, c, r, rfl, _⟩ <;> rfl
theorem Sl.idx (h : Sl m v sz enc l) {i : Nat} {x : α} (hx : l[i]? = some x) (k : IntKind) :
    ∃ o off r, aIdx sz v (.int k i) = some (.pointer (some ⟨o, off, none⟩)) ∧ m.get o = some r ∧ ∀ j, j < sz → r.cells[off + j]? = (enc x)[j]? := by
  rcases h with ⟨rfl, rfl⟩ | ⟨o, off, c, r, rfl, _, h1, h2, h3, h4⟩
  · simp at hx
  · have hi : i < l.length := (List.getElem?_eq_some_iff.1 hx).1
    refine ⟨o, off + i * sz, r, ?_, h1, h4 i x hx⟩
    simp [aIdx, hi]
/-- A byte, read. -/
theorem Sl.byte {l : List Int} (h : By m v l) {i : Nat} {x : Int} (hx : l[i]? = some x) (k : IntKind) : ∃ o off, aIdx 1 v (.int k i) = some (.pointer (some ⟨o, off, none⟩)) ∧ ((m.get o).bind fun r => r.cells[off]?) = some (.int .u8 x) := by
  obtain ⟨o, off, r, a, b, c⟩ := Sl.idx h hx k
  exact ⟨o, off, a, by rw [b]; simpa [bE] using c 0 (by omega)⟩
theorem Sl.cut (h : Sl m v sz enc l) {a b : Nat} (ha : a ≤ b) (hb : b ≤ l.length) (lo hi : Option Value) (hlo : aLo lo b = some a) (hhi : aHi hi l.length = some b) : ∃ v', aCut sz v lo hi m = some v' ∧ Sl m v' sz enc ((l.take b).drop a) := by
  rcases h with ⟨rfl, rfl⟩ | ⟨o, off, c, r, rfl, h0, h1, h2, h3, h4⟩
  · simp at hb
    subst hb
    obtain rfl : a = 0 := by omega
    refine ⟨.slice none 0 0, ?_, by simpa using Sl.nil⟩
    simp at hhi
    simp [aCut, hhi, hlo]
  · refine ⟨_, by simp only [aCut, slc?_at', Option.bind_some, h1, h2, if_true, hhi, hlo]; rfl, .inr ⟨o, off + a * sz, if c = l.length ∧ b = l.length then b - a else b - a + 1, r, ?_, h0, h1, h2, ?_, ?_⟩⟩
    · rw [List.length_drop, List.length_take, Nat.min_eq_left hb]
    · rw [List.length_drop, List.length_take, Nat.min_eq_left hb]
      have : a * sz + (b - a) * sz = b * sz := by rw [← Nat.add_mul]; congr 1; omega
      have : b * sz ≤ l.length * sz := Nat.mul_le_mul_right _ hb
      omega
    · intro i x hx j hj
      rw [List.getElem?_drop, List.getElem?_take] at hx
      split at hx
      · have := h4 (a + i) x hx j hj
        rw [← this, Nat.add_mul]
        congr 1
        omega
      · cases hx
end
/-! ### Rows that are written -/
theorem setL_setL (l : List (Nat × Row)) (o : Nat) (r1 r2 : Row) : setL (setL l o r1) o r2 = setL l o r2 := by
  induction l with
  | nil => simp [setL]
  | cons p t ih =>
    obtain ⟨k, x⟩ := p
    simp only [setL]
    by_cases h : o = k
    · simp [h, setL]
    · simp [h, setL, ih]
@[simp] theorem Mem.set_set (m : Mem) (o : Nat) (r1 r2 : Row) : (m.set o r1).set o r2 = m.set o r2 := by
  simp only [Mem.set, setL_setL]
theorem aHi_none (n : Nat) : aHi none n = some n := rfl
theorem aLo_none (n : Nat) : aLo none n = some 0 := rfl
theorem aHi_int {k : IntKind} {a n : Nat} (h : a ≤ n) : aHi (some (.int k a)) n = some a := by
  simp [aHi, aBound, h]
theorem aLo_int {k : IntKind} {a n : Nat} (h : a ≤ n) : aLo (some (.int k a)) n = some a := by
  simp [aLo, aBound, h]
end Go.Proofs.Ytjojfpmelhaknaa.D
