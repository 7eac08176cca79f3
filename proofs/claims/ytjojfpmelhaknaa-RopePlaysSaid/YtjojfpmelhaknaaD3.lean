/-
  A deterministic reading of the program's code: the plain operations.
-/
import Derived.Test.YtjojfpmelhaknaaD2
namespace Go.Proofs.Ytjojfpmelhaknaa.D
open Go.RowKit
set_option linter.unusedVariables false
set_option linter.unusedSimpArgs false

abbrev Env := Nat → Value
/-- A constant without addresses. -/
def constOk : Value → Bool
  | .agg cs => cs.all base
  | v => base v
def aev (env : Env) : Operand → Value
  | .tmp t => env t
  | .const v => if constOk v then v else undef
  | .global _ => undef
  | .func f => .func (.func f) #[] #[]

structure ERel (ι : Inj) (N : Nat) (env : Env) (tmps : Array Value) : Prop where
  size : tmps.size = N
  at_ : ∀ t, VRel ι (env t) (tmps.getD t undef)

theorem ERel.mono {ι ι' : Inj} {N : Nat} {env : Env} {tmps : Array Value} (h : ERel ι N env tmps) (hl : Inj.le ι ι') : ERel ι' N env tmps := ⟨h.size, fun t => (h.at_ t).mono hl⟩
theorem constOk_rel {ι : Inj} {v : Value} (h : constOk v = true) : VRel ι v v := by
  cases v with
  | agg cs =>
    simp only [constOk, Array.all_eq_true] at h
    refine .agg rfl (fun i u v a b => ?_) ?_
    rotate_left
    · intro u hu
      simp only [Array.mem_toList_iff] at hu
      obtain ⟨i, hi, rfl⟩ := Array.mem_iff_getElem.1 hu
      exact base_one (h i hi)
    rw [a] at b; cases b
    obtain ⟨hi, rfl⟩ := Array.getElem?_eq_some_iff.1 a
    exact .base (h i hi)
  | _ => exact .base h
theorem ERel.ev {ι : Inj} {N : Nat} {env : Env} {a : Act} (h : ERel ι N env a.tmps) (x : Operand) : VRel ι (aev env x) (a.eval x) := by
  cases x with
  | tmp t => exact h.at_ t
  | const v =>
    simp only [aev, Act.eval]
    split
    · exact constOk_rel ‹_›
    · exact .unk _
  | global g => exact .unk _
  | func f => exact .func rfl (fun i u v a _ => by simp at a) rfl (fun i u v a _ => by simp at a)

/-! ### What the tables say of a type -/
theorem run_underlying {P : Program} {t : TypeId} {d : TypeDesc} (h : P.underlying t = some d) (w : World) : (underlying t).run P w = .ok d w := by
  simp [underlying, program, bind, Sem.bind, Sem.run, h, pure]
theorem run_typeInfo {P : Program} {t : TypeId} {i : TypeInfo} (h : P.info? t = some i) (w : World) : (typeInfo t).run P w = .ok i w := by
  simp [typeInfo, program, bind, Sem.bind, Sem.run, h, pure]
theorem run_sizeOf {P : Program} {t : TypeId} {i : TypeInfo} (h : P.info? t = some i) (w : World) : (sizeOf t).run P w = .ok i.size w := by
  unfold sizeOf
  rw [run_bind (run_typeInfo h w)]; rfl
theorem run_zeroValue {P : Program} {t : TypeId} {i : TypeInfo} {v : Value} (h : P.info? t = some i) (hz : i.zero = some v) (w : World) : (zeroValue t).run P w = .ok v w := by
  unfold zeroValue
  rw [run_bind (run_typeInfo h w)]; simp [hz, pure, Sem.run]
/-- Is it a struct or an array? -/
def aggT (P : Program) (t : TypeId) : Option Bool := (P.underlying t).map fun | .struct _ | .array _ _ => true | _ => false
theorem run_isAgg {P : Program} {t : TypeId} {b : Bool} (h : aggT P t = some b) (w : World) : (isAgg t).run P w = .ok b w := by
  unfold aggT at h
  cases hu : P.underlying t with
  | none => rw [hu] at h; cases h
  | some d =>
    rw [hu] at h
    unfold isAgg
    rw [run_bind (run_underlying hu w)]
    cases d <;> simp at h <;> subst h <;> rfl

structure TI where
  zero : List Value
  size : Nat
  bytes : Nat
  agg : Bool
  esz : Nat   -- the size of an array's element
  rsz : Nat   -- the size of a row of them, as it is kept
/-- A builder of strings: it is found again by its block's type. -/
def isBld (fs : Array Field) : Bool := match fs.toList with | [a, b] => a.name == "addr" && b.name == "buf" | _ => false
def esz0 (P : Program) (t : TypeId) : Nat := match P.underlying t with
  | some (.array _ e) => ((P.info? e).map (·.size)).getD 0
  | some (.struct fs) => if isBld fs = true then mark t else 0
  | _ => 0
theorem mark_inj {a b : TypeId} (h : mark a = mark b) : a = b := Nat.add_left_cancel h
theorem mark_ge (a : TypeId) : 4294967296 ≤ mark a := Nat.le_add_right _ _
def byteT (P : Program) (t : TypeId) : Bool := (match P.underlying t with | some (.int .u8) => true | _ => false) && P.cellsOf t == 1
theorem byteT_eq {P : Program} {t : TypeId} (h : byteT P t = true) : ByteT P t := by
  unfold byteT at h
  simp only [Bool.and_eq_true, beq_iff_eq] at h
  refine ⟨?_, h.2⟩
  have := h.1
  split at this
  · assumption
  · cases this
theorem byteT_size {P : Program} {t : TypeId} {i : TypeInfo} (h : byteT P t = true) (hi : P.info? t = some i) : i.size = 1 := by
  have := (byteT_eq h).2
  unfold Program.cellsOf at this
  rw [hi] at this
  exact this
/-- The rows of the type table that are used here. -/
def ti (P : Program) (t : TypeId) : Option TI :=
  match P.info? t, aggT P t with
  | some i, some g =>
    match i.zero with
    | some v => if constOk v && v.cells.size == i.size && v.cells.all one && decide (i.size < 4294967295) && decide (esz0 P t = mark t ∨ esz0 P t < 4294967295) then some ⟨v.cells.toList, i.size, i.bytes, g, esz0 P t, if byteT P t = true then C8 else i.size⟩ else none
    | none => none
  | _, _ => none
structure TIs (P : Program) (t : TypeId) (x : TI) : Prop where
  info : ∃ i v, P.info? t = some i ∧ i.zero = some v ∧ v.cells.toList = x.zero ∧ constOk v = true ∧ i.size = x.size ∧ i.bytes = x.bytes ∧ x.zero.length = x.size ∧ (∀ u ∈ x.zero, D.base u = true) ∧ (∀ u ∈ x.zero, one u = true)
  agg : aggT P t = some x.agg
  plain : ∀ t', x.rsz ≠ mark t'
  esz : TyE P x.esz t
  rsz : TyE P x.rsz t
  unit : unit x.rsz = x.size
theorem ti_spec {P : Program} {t : TypeId} {x : TI} (h : ti P t = some x) : TIs P t x := by
  unfold ti at h
  split at h
  · rename_i i g hi hg
    split at h
    · rename_i v hv
      split at h
      · rename_i hc
        simp only [Bool.and_eq_true, beq_iff_eq, Array.all_eq_true] at hc
        cases h
        obtain ⟨⟨hc, hp1⟩, hp2⟩ := hc
        simp only [decide_eq_true_eq] at hp1 hp2
        have hpl : ∀ t', (if byteT P t = true then C8 else i.size) ≠ mark t' := fun t' e => by
          have := mark_ge t'
          have hC : C8 = 4294967295 := rfl
          split at e <;> omega
        refine ⟨⟨i, v, hi, hv, rfl, hc.1.1, rfl, rfl, by simpa using hc.1.2, ?_, ?_⟩, hg, hpl, ⟨fun t' e => ?_, fun e => ?_⟩, ⟨fun t' e => absurd e (hpl t'), fun e => ?_⟩, ?_⟩
        rotate_left
        rotate_left
        · simp only at e
          rcases hp2 with h2 | h2
          · exact mark_inj (h2.symm.trans e)
          · have := mark_ge t'; omega
        · exfalso
          have hC : C8 = 4294967295 := rfl
          simp only at e
          rcases hp2 with h2 | h2
          · have := mark_ge t; omega
          · omega
        · have hC : C8 = 4294967295 := rfl
          simp only at e
          split at e
          · exact byteT_eq ‹_›
          · omega
        · simp only
          split
          · rename_i hb
            rw [byteT_size hb hi]; rfl
          · unfold unit
            rw [if_neg (by omega)]
        · intro u hu
          have hk := hc.1.1
          cases v with
          | agg cs =>
            simp only [constOk, Array.all_eq_true] at hk
            simp only [Value.cells, Array.mem_toList_iff] at hu
            obtain ⟨j, hj, rfl⟩ := Array.mem_iff_getElem.1 hu
            exact hk j hj
          | _ => simp [Value.cells] at hu; subst hu; exact hk
        · intro u hu
          simp only [Array.mem_toList_iff] at hu
          obtain ⟨j, hj, rfl⟩ := Array.mem_iff_getElem.1 hu
          exact hc.2 j hj
      · cases h
    · cases h
  · cases h

/-! ### Parts of values -/
def int? : Value → Option (IntKind × Int) | .int k n => some (k, n) | _ => none
def bool? : Value → Option Bool | .bool b => some b | _ => none
def str? : Value → Option ByteArray | .string s => some s | _ => none
def addr? : Value → Option (Nat × Nat) | .pointer (some ⟨o, off, none⟩) => some (o, off) | _ => none
def agg? : Value → Option (List Value) | .agg cs => some cs.toList | _ => none
def tup? : Value → Option (List Value) | .tuple cs => if cs.size = 0 then none else some cs.toList | _ => none
inductive SV where
  | nil
  | at_ (o off n c : Nat)
def slc? : Value → Option SV
  | .slice none 0 0 => some .nil
  | .slice (some ⟨o, off, none⟩) n c => some (.at_ o off n c)
  | _ => none
theorem int?_some {v : Value} {k : IntKind} {n : Int} (h : int? v = some (k, n)) : v = .int k n := by cases v <;> simp_all [int?]
theorem bool?_some {v : Value} {b : Bool} (h : bool? v = some b) : v = .bool b := by cases v <;> simp_all [bool?]
theorem str?_some {v : Value} {s : ByteArray} (h : str? v = some s) : v = .string s := by cases v <;> simp_all [str?]
theorem addr?_some {v : Value} {o off : Nat} (h : addr? v = some (o, off)) : v = .pointer (some ⟨o, off, none⟩) := by
  unfold addr? at h
  split at h
  · cases h; rfl
  · cases h
theorem agg?_some {v : Value} {l : List Value} (h : agg? v = some l) : v = .agg l.toArray := by
  cases v <;> simp_all [agg?]
  subst h; simp
theorem tup?_some {v : Value} {l : List Value} (h : tup? v = some l) : v = .tuple l.toArray ∧ l ≠ [] := by
  cases v <;> simp_all [tup?]
  obtain ⟨h1, h2⟩ := h
  subst h2
  exact ⟨by simp, fun e => h1 (by simpa using e)⟩
theorem slc?_nil {v : Value} (h : slc? v = some .nil) : v = .slice none 0 0 := by
  unfold slc? at h
  split at h <;> first | rfl | cases h
theorem slc?_at {v : Value} {o off n c : Nat} (h : slc? v = some (.at_ o off n c)) : v = .slice (some ⟨o, off, none⟩) n c := by
  unfold slc? at h
  split at h
  · cases h
  · cases h; rfl
  · cases h

/-- A row's cells from a place on. -/
def Mem.at_ (m : Mem) (o off n : Nat) : Option (List Value) := (m.get o).bind fun r => if off + n ≤ r.cells.length then some ((r.cells.drop off).take n) else none
theorem load_sound {cx : Cx} {ι : Inj} {m : Mem} {w : World} (h : Rel cx ι m w) {o off n : Nat} {g : Loc} {l : List Value} (ho : ι o = some g) (hl : m.at_ o off n = some l) :
    ∃ l', (loadCells ⟨g.b, g.s + off, none⟩ n).run cx.P w = .ok l'.toArray w ∧ LRel ι l l' ∧ l.length = n ∧ ∀ u ∈ l, one u = true := by
  unfold Mem.at_ at hl
  cases hr : m.get o with
  | none => rw [hr] at hl; cases hl
  | some r =>
    simp only [hr, Option.bind_some] at hl
    split at hl
    · rename_i hle
      cases hl
      obtain ⟨cs, e, fz, h1, h2, h3, h4, h5, h6⟩ := (h.obj o g r ho hr).ex
      refine ⟨_, run_loadCells h1 n (by omega), ⟨by simp; omega, ?_⟩, by simp; omega, fun u hu => (h.obj o g r ho hr).ones u (List.mem_of_mem_drop (List.mem_of_mem_take hu))⟩
      intro i u v hu hv
      rw [List.getElem?_take] at hu hv
      split at hu
      · rw [if_pos ‹_›] at hv
        rw [List.getElem?_drop] at hu hv
        obtain ⟨v', p, q⟩ := h5 _ u hu
        have : cs.toList[g.s + off + i]? = cs[g.s + (off + i)]? := by rw [Array.getElem?_toList, Nat.add_assoc]
        rw [this, p] at hv
        cases hv; exact q
      · cases hu
    · cases hl

/-! ### Integers and strings -/
def iBin (op : BinOp) (k : IntKind) (a b : Int) : Option Value :=
  match op with
  | .add => some (.int k (k.wrap (a + b)))
  | .sub => some (.int k (k.wrap (a - b)))
  | .mul => some (.int k (k.wrap (a * b)))
  | .quo => if b = 0 then none else some (.int k (k.wrap (a.tdiv b)))
  | .rem => if b = 0 then none else some (.int k (a.tmod b))
  | .and => some (.int k (k.wrap (BitVec.ofInt k.bits a &&& BitVec.ofInt k.bits b).toNat))
  | .or => some (.int k (k.wrap (BitVec.ofInt k.bits a ||| BitVec.ofInt k.bits b).toNat))
  | .xor => some (.int k (k.wrap (BitVec.ofInt k.bits a ^^^ BitVec.ofInt k.bits b).toNat))
  | .andNot => some (.int k (k.wrap (BitVec.ofInt k.bits a &&& ~~~BitVec.ofInt k.bits b).toNat))
  | .eql => some (.bool (a == b))
  | .neq => some (.bool (a != b))
  | .lss => some (.bool (a < b))
  | .leq => some (.bool (a ≤ b))
  | .gtr => some (.bool (a > b))
  | .geq => some (.bool (a ≥ b))
  | _ => none
def sBin (op : BinOp) (x y : ByteArray) : Option Value :=
  match op with
  | .add => if x.size + y.size ≤ 4611686018427387904 then some (.string (x ++ y)) else none
  | .eql => some (.bool (x.toList == y.toList))
  | .neq => some (.bool !(x.toList == y.toList))
  | .lss => some (.bool (Op.bytesLess x.toList y.toList))
  | .leq => some (.bool (Op.bytesLess x.toList y.toList || x.toList == y.toList))
  | .gtr => some (.bool !(Op.bytesLess x.toList y.toList || x.toList == y.toList))
  | .geq => some (.bool !(Op.bytesLess x.toList y.toList))
  | _ => none
def shB (op : BinOp) (k : IntKind) (x y : Int) : Option Value :=
  if y < 0 then none else
  match op with
  | .shl => some (.int k (k.wrap (x * 2 ^ (min y.toNat k.bits))))
  | .shr => some (.int k (x.fdiv (2 ^ (min y.toNat k.bits))))
  | _ => none
def aBin (op : BinOp) (u v : Value) : Option Value :=
  match u, v with
  | .int k a, .int k' b => if op = .shl ∨ op = .shr then shB op k a b else if k = k' then iBin op k a b else none
  | .string x, .string y => sBin op x y
  | _, _ => none
def aUn (op : UnOp) (u : Value) : Option Value :=
  match op, u with
  | .neg, .int k n => some (.int k (k.wrap (0 - n)))
  | .xor, .int k n => some (.int k (k.wrap (BitVec.ofInt k.bits (if k.signed then -1 else k.max) ^^^ BitVec.ofInt k.bits n).toNat))
  | .not, .bool b => some (.bool !b)
  | _, _ => none
theorem eqGuard_plain {op : BinOp} {t : TypeId} {x y : Operand} {a b : Value} (P : Program) (w : World) (h : ∀ c, a ≠ .agg c) (h2 : a ≠ .nilIface) : (eqGuard op t x y a b).run P w = .ok () w := by
  unfold eqGuard
  cases op <;> simp [bind, Sem.bind, Sem.run, pure] <;> cases a <;> simp_all [Sem.run]
theorem aBin_sound {op : BinOp} {t : TypeId} {x y : Operand} {u v r : Value} (P : Program) (w : World) (h : aBin op u v = some r) : (do eqGuard op t x y u v; binOp op t u v : Sem Value).run P w = .ok r w ∧ base r = true := by
  unfold aBin at h
  split at h
  · rename_i k a k' b
    rw [run_bind (eqGuard_plain P w (by simp) (by simp))]
    split at h
    · rename_i ho
      unfold shB at h
      split at h
      · cases h
      · rename_i hy
        rcases ho with rfl | rfl <;> simp at h <;> subst h <;> simp [binOp, Op.shift, hy, Sem.run, pure, D.base]
    · rename_i ho
      split at h
      · subst_vars
        unfold iBin at h
        split at h <;> first
          | (simp at h; subst h; simp [binOp, Op.intArith, Op.intBits, Op.intCmp, Sem.run, pure, D.base]; done)
          | (split at h
             · cases h
             · rename_i hb; simp at h; subst h; simp [binOp, Op.intDiv, hb, Sem.run, pure, D.base]; done)
          | cases h
      · cases h
  · rename_i a b
    rw [run_bind (eqGuard_plain P w (by simp) (by simp))]
    by_cases ha : op = .add
    · subst ha
      simp only [sBin] at h
      split at h
      · rename_i hb
        cases h
        have : ¬ (((a.size + b.size : Nat) : Int) > IntKind.i64.max) := by
          have : IntKind.i64.max = 9223372036854775807 := by decide
          omega
        refine ⟨?_, rfl⟩
        simp only [binOp, Op.stringOp]
        rw [if_neg this]
        rfl
      · cases h
    unfold sBin at h
    split at h <;> first
      | exact absurd rfl ha
      | (simp at h; subst h; simp [binOp, Op.stringOp, Sem.run, pure, D.base]; done)
      | cases h
  · cases h
theorem aUn_sound {op : UnOp} {u r : Value} (P : Program) (w : World) (h : aUn op u = some r) : (Op.unary op u).run P w = .ok r w ∧ base r = true := by
  unfold aUn at h
  split at h <;> first
    | (simp at h; subst h; simp [Op.unary, Op.intArith, Op.intBits, Sem.run, pure, D.base]; done)
    | cases h
end Go.Proofs.Ytjojfpmelhaknaa.D
