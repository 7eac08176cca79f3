/-
  The second reading: texts, slices and what simp may use.
-/
import Derived.Test.YtjojfpmelhaknaaV6
import Derived.Test.YtjojfpmelhaknaaF1
namespace Go.Proofs.Ytjojfpmelhaknaa.D
open Go.RowKit
set_option linter.unusedVariables false
set_option linter.unusedSimpArgs false

/-! ### Texts -/
def S (l : List UInt8) : Value := .string ⟨l.toArray⟩
theorem S_of (s : ByteArray) : (.string s : Value) = S s.data.toList := rfl
theorem S_toList (l : List UInt8) : (ByteArray.mk l.toArray).toList = l := by
  rw [ByteArray.toList_eq]
theorem S_size (l : List UInt8) : (ByteArray.mk l.toArray).size = l.length := by simp [ByteArray.size]
@[simp] theorem S_inj (a b : List UInt8) : (S a = S b) = (a = b) := by
  apply propext
  constructor
  · intro h
    unfold S at h
    injection h with h
    injection h with h
    simpa using h
  · rintro rfl; rfl
@[simp] theorem base_S (l : List UInt8) : base (S l) = true := rfl
@[simp] theorem known_S (l : List UInt8) : known (S l) = true := rfl
@[simp] theorem cells_S (l : List UInt8) : (S l).cells = #[S l] := rfl
@[simp] theorem single_S (l : List UInt8) : single (S l) := ⟨rfl, rfl⟩
@[simp] theorem str?_S (l : List UInt8) : str? (S l) = some ⟨l.toArray⟩ := rfl
@[simp] theorem fz?_S (l : List UInt8) : fz? (S l) = none := rfl
@[simp] theorem fp?_S (l : List UInt8) : fp? (S l) = none := rfl
@[simp] theorem aSame_S (l : List UInt8) : aSame (S l) = some (S l) := rfl
@[simp] theorem aLenS_S (l : List UInt8) : aLenS (S l) = some (.int .i64 l.length) := by simp [aLenS, S_size]
@[simp] theorem aByte_S (l : List UInt8) (k : IntKind) (i : Int) : aByte (S l) (.int k i) = if 0 ≤ i then (l[i.toNat]?).map fun b => .int .u8 b.toNat else none := by
  simp only [aByte, str?_S, Option.bind_some, int?_int]
  have : ∀ n : Nat, (ByteArray.mk l.toArray)[n]? = l[n]? := fun n => by
    by_cases h : n < l.length
    · rw [getElem?_pos (ByteArray.mk l.toArray) n (by rw [S_size]; exact h), List.getElem?_eq_getElem h]
      rfl
    · rw [getElem?_neg (ByteArray.mk l.toArray) n (by rw [S_size]; exact h), List.getElem?_eq_none (by omega)]
  rw [this]
attribute [simp] aHi_none aLo_none
theorem aBound_int' (k : IntKind) (i : Int) (n : Nat) : aBound (.int k i) n = if 0 ≤ i ∧ i ≤ n then some i.toNat else none := by
  simp only [aBound, int?_int, Option.bind_some]
  by_cases h1 : 0 ≤ i
  · by_cases h2 : i ≤ n
    · simp [h1, h2]
    · simp [h1, h2]
  · simp [h1]
@[simp] theorem aHi_int' (k : IntKind) (i : Int) (n : Nat) : aHi (some (.int k i)) n = if 0 ≤ i ∧ i ≤ n then some i.toNat else none := aBound_int' k i n
@[simp] theorem aLo_int' (k : IntKind) (i : Int) (n : Nat) : aLo (some (.int k i)) n = if 0 ≤ i ∧ i ≤ n then some i.toNat else none := aBound_int' k i n
@[simp] theorem aCutStr_S (l : List UInt8) (lo hi : Option Value) : aCutStr (S l) lo hi = (aHi hi l.length).bind fun h => (aLo lo h).bind fun a => some (S ((l.take h).drop a)) := by
  simp only [aCutStr, str?_S, Option.bind_some, S_size]
  cases hh : aHi hi l.length with
  | none => rfl
  | some h =>
    simp only [Option.bind_some]
    cases ha : aLo lo h with
    | none => rfl
    | some a =>
      simp only [Option.bind_some, Option.some.injEq]
      unfold S
      congr 1
      have hle := hi_le hh
      apply ByteArray.ext
      simp only [ByteArray.data_extract]
      apply Array.ext'
      simp [List.drop_take]
@[simp] theorem aBin_addS (a b : List UInt8) : aBin .add (S a) (S b) = if a.length + b.length ≤ 4611686018427387904 then some (S (a ++ b)) else none := by
  simp only [aBin, sBin, S, S_size]
  split
  · congr 2
  · rfl
theorem beq_dec (a b : List UInt8) : (a == b) = decide (a = b) := by
  by_cases h : a = b
  · subst h; simp
  · rw [decide_eq_false h]; simpa using h
@[simp] theorem aBin_eqlS (a b : List UInt8) : aBin .eql (S a) (S b) = some (.bool (decide (a = b))) := by
  simp only [aBin, sBin, S, S_toList, beq_dec]
@[simp] theorem aBin_neqS (a b : List UInt8) : aBin .neq (S a) (S b) = some (.bool (!decide (a = b))) := by
  simp only [aBin, sBin, S, S_toList, beq_dec]
@[simp] theorem cellEq_S (a b : List UInt8) : cellEq .str (S a) (S b) = some (decide (a = b)) := by
  simp only [cellEq, S, S_toList, beq_dec]
@[simp] theorem cellEq_int (k : IntKind) (a b : Int) : cellEq .int (.int k a) (.int k b) = some (decide (a = b)) := by simp [cellEq]; rfl
@[simp] theorem cellEq_bool (a b : Bool) : cellEq .bool (.bool a) (.bool b) = some (a == b) := rfl
@[simp] theorem eqL_nil : eqL [] [] [] = some true := rfl
@[simp] theorem eqL_cons (k : CK) (ks : List CK) (a b : Value) (s t : List Value) : eqL (k :: ks) (a :: s) (b :: t) = (cellEq k a b).bind fun r => (eqL ks s t).map (r && ·) := rfl
@[simp] theorem agg?_agg (l : Array Value) : agg? (.agg l) = some l.toList := rfl
@[simp] theorem aEqS_agg (n : Bool) (ks : List CK) (a b : List Value) : aEqS n ks (.agg a.toArray) (.agg b.toArray) = (eqL ks a b).map fun r => .bool (if n then !r else r) := by simp [aEqS]
/-- A byte, a number, a text: as the cells of an element. -/
def eb (b : UInt8) : List Value := [.int .u8 b.toNat]
def ei (n : Int) : List Value := [.int .i64 n]
def es (l : List UInt8) : List Value := [S l]
@[simp] theorem eb_len (b : UInt8) : (eb b).length = 1 := rfl
@[simp] theorem ei_len (b : Int) : (ei b).length = 1 := rfl
@[simp] theorem es_len (b : List UInt8) : (es b).length = 1 := rfl
@[simp] theorem eb_0 (b : UInt8) : (eb b)[0]? = some (.int .u8 b.toNat) := rfl
@[simp] theorem ei_0 (b : Int) : (ei b)[0]? = some (.int .i64 b) := rfl
@[simp] theorem es_0 (b : List UInt8) : (es b)[0]? = some (S b) := rfl
theorem eb_flat (l : List UInt8) : (l.map eb).flatten = l.map fun b => .int .u8 b.toNat := by
  induction l with
  | nil => rfl
  | cons a t ih => simp [eb, ih]
theorem u8s_eb (l : List UInt8) : u8s (l.map fun b => Value.int .u8 b.toNat) = some (l.map fun b => (b.toNat : Int)) := by
  induction l with
  | nil => rfl
  | cons a t ih => simp [u8s, ih]
theorem strOf_eb (l : List UInt8) : (.string (strOf (l.map fun b => (b.toNat : Int))) : Value) = S l := by
  unfold strOf S
  have : ((fun n : Int => UInt8.ofNat n.toNat) ∘ fun b : UInt8 => (b.toNat : Int)) = id := by
    funext b
    simp
  simp [this]

theorem or_u8 (a b : UInt8) : aBin .or (.int .u8 a.toNat) (.int .u8 b.toNat) = some (.int .u8 (a ||| b).toNat) := by
  have h3 := (a ||| b).toNat_lt
  have e : (BitVec.ofInt IntKind.u8.bits (a.toNat : Int) ||| BitVec.ofInt IntKind.u8.bits (b.toNat : Int)).toNat = (a ||| b).toNat := by
    show (BitVec.ofInt 8 (a.toNat : Int) ||| BitVec.ofInt 8 (b.toNat : Int)).toNat = _
    rw [BitVec.ofInt_natCast, BitVec.ofInt_natCast]
    simp
  simp only [aBin, iBin]
  rw [if_neg (by decide), if_pos trivial]
  simp only [e]
  rw [wrap_u8 (by omega) (by omega)]
theorem and_u8 (a b : UInt8) : aBin .and (.int .u8 a.toNat) (.int .u8 b.toNat) = some (.int .u8 (a &&& b).toNat) := by
  have h3 := (a &&& b).toNat_lt
  have e : (BitVec.ofInt IntKind.u8.bits (a.toNat : Int) &&& BitVec.ofInt IntKind.u8.bits (b.toNat : Int)).toNat = (a &&& b).toNat := by
    show (BitVec.ofInt 8 (a.toNat : Int) &&& BitVec.ofInt 8 (b.toNat : Int)).toNat = _
    rw [BitVec.ofInt_natCast, BitVec.ofInt_natCast]
    simp
  simp only [aBin, iBin]
  rw [if_neg (by decide), if_pos trivial]
  simp only [e]
  rw [wrap_u8 (by omega) (by omega)]
theorem andNot_u8 (a b : UInt8) : aBin .andNot (.int .u8 a.toNat) (.int .u8 b.toNat) = some (.int .u8 (a &&& ~~~ b).toNat) := by
  have h3 := (a &&& ~~~ b).toNat_lt
  have e : (BitVec.ofInt IntKind.u8.bits (a.toNat : Int) &&& ~~~ BitVec.ofInt IntKind.u8.bits (b.toNat : Int)).toNat = (a &&& ~~~ b).toNat := by
    show (BitVec.ofInt 8 (a.toNat : Int) &&& ~~~ BitVec.ofInt 8 (b.toNat : Int)).toNat = _
    rw [BitVec.ofInt_natCast, BitVec.ofInt_natCast]
    simp
  simp only [aBin, iBin]
  rw [if_neg (by decide), if_pos trivial]
  simp only [e]
  rw [wrap_u8 (by omega) (by omega)]

/-! ### Slices that are fixed -/
/-- Is it other than nil? is its capacity its length? the size of an element, the elements. -/
def sq (nn tt : Bool) (sz : Nat) (els : List (List Value)) : Value := if els = [] ∧ nn = false then .slice none 0 0 else fz sz tt els
theorem sq_cases (nn tt : Bool) (sz : Nat) (els : List (List Value)) : (sq nn tt sz els = .slice none 0 0 ∧ els = [] ∧ nn = false) ∨ sq nn tt sz els = fz sz tt els := by
  unfold sq
  split
  · rename_i h; exact .inl ⟨rfl, h⟩
  · exact .inr rfl
@[simp] theorem known_sq (nn tt : Bool) (sz : Nat) (els : List (List Value)) : known (sq nn tt sz els) = true := by rcases sq_cases nn tt sz els with ⟨h, _⟩ | h <;> rw [h] <;> rfl
@[simp] theorem cells_sq (nn tt : Bool) (sz : Nat) (els : List (List Value)) : (sq nn tt sz els).cells = #[sq nn tt sz els] := by rcases sq_cases nn tt sz els with ⟨h, _⟩ | h <;> rw [h] <;> rfl
@[simp] theorem single_sq (nn tt : Bool) (sz : Nat) (els : List (List Value)) : single (sq nn tt sz els) := ⟨known_sq _ _ _ _, by rw [cells_sq]⟩
@[simp] theorem single_fz (sz : Nat) (tt : Bool) (els : List (List Value)) : single (fz sz tt els) := ⟨rfl, rfl⟩
@[simp] theorem single_fp (cells : List Value) (off : Nat) : single (fp cells off) := ⟨rfl, rfl⟩
@[simp] theorem single_func (f : Fn) (a b : Array Value) : single (.func f a b) := ⟨rfl, rfl⟩
@[simp] theorem single_nilf : single .nilFunc := ⟨rfl, rfl⟩
@[simp] theorem vLenL_nil : vLenL (.slice none 0 0) = some (.int .i64 0) := rfl
@[simp] theorem vLenL_at (o off n c : Nat) : vLenL (.slice (some ⟨o, off, none⟩) n c) = some (.int .i64 n) := rfl
@[simp] theorem vLenL_fz (sz : Nat) (tt : Bool) (els : List (List Value)) : vLenL (fz sz tt els) = some (.int .i64 els.length) := by simp [vLenL]
@[simp] theorem vLenL_sq (nn tt : Bool) (sz : Nat) (els : List (List Value)) : vLenL (sq nn tt sz els) = some (.int .i64 els.length) := by
  rcases sq_cases nn tt sz els with ⟨h, e, _⟩ | h
  · rw [h, e]; rfl
  · rw [h]; simp
@[simp] theorem vIdx_fz (sz : Nat) (tt : Bool) (els : List (List Value)) (k : IntKind) (i : Int) : vIdx sz (fz sz tt els) (.int k i) = if 0 ≤ i then (els[i.toNat]?).map fun e => fp e 0 else none := by simp [vIdx]
@[simp] theorem vIdx_sq (sz : Nat) (nn tt : Bool) (els : List (List Value)) (k : IntKind) (i : Int) : vIdx sz (sq nn tt sz els) (.int k i) = if 0 ≤ i then (els[i.toNat]?).map fun e => fp e 0 else none := by
  rcases sq_cases nn tt sz els with ⟨h, e, _⟩ | h
  · rw [h, e]; simp [vIdx, aIdx]
  · rw [h]; simp
@[simp] theorem vIdx_at (sz o off n c : Nat) (k : IntKind) (i : Int) : vIdx sz (.slice (some ⟨o, off, none⟩) n c) (.int k i) = if 0 ≤ i then (if i < n then some (.pointer (some ⟨o, off + i.toNat * sz, none⟩)) else none) else none := by simp [vIdx, aIdx]
@[simp] theorem vLd_fp1 (cells : List Value) (off : Nat) (m : Mem) : vLd 1 false (fp cells off) m = cells[off]? := by simp [vLd, aPart]
@[simp] theorem vLd_fpn (n : Nat) (cells : List Value) (off : Nat) (m : Mem) : vLd n true (fp cells off) m = if off + n ≤ cells.length then some (.agg ((cells.drop off).take n).toArray) else none := by simp [vLd, aPart]
@[simp] theorem vLd_ptr1 (o off : Nat) (m : Mem) : vLd 1 false (.pointer (some ⟨o, off, none⟩)) m = (m.get o).bind fun r => r.cells[off]? := rfl
@[simp] theorem vLd_ptrn (n o off : Nat) (m : Mem) : vLd n true (.pointer (some ⟨o, off, none⟩)) m = ((m.get o).bind fun r => if off + n ≤ r.cells.length then some ((r.cells.drop off).take n) else none).bind fun l => some (.agg l.toArray) := rfl
@[simp] theorem vFieldAddr_fp (k : Nat) (cells : List Value) (off : Nat) : vFieldAddr k (fp cells off) = some (fp cells (off + k)) := by simp [vFieldAddr]
@[simp] theorem vFieldAddr_ptr (k o off : Nat) : vFieldAddr k (.pointer (some ⟨o, off, none⟩)) = some (.pointer (some ⟨o, off + k, none⟩)) := rfl
@[simp] theorem vCheck_fp (cells : List Value) (off : Nat) : vCheck (fp cells off) = some (fp cells off) := by simp [vCheck]
@[simp] theorem vCheck_ptr (a : Addr) : vCheck (.pointer (some a)) = some (.pointer (some a)) := rfl
@[simp] theorem vCheck_func (f : FuncId) (a b : Array Value) : vCheck (.func (.func f) a b) = some (.func (.func f) a b) := rfl
@[simp] theorem vIsNil_ptr (n : Bool) (a : Option Addr) : vIsNil .ptr n (.pointer a) = some (.bool (if n then a.isSome else a.isNone)) := by cases a <;> cases n <;> rfl
@[simp] theorem vIsNil_fp (n : Bool) (cells : List Value) (off : Nat) : vIsNil .ptr n (fp cells off) = some (.bool n) := by cases n <;> simp [vIsNil, vNil]
@[simp] theorem vIsNil_slice (n : Bool) (a : Option Addr) (l c : Nat) : vIsNil .slc n (.slice a l c) = some (.bool (if n then a.isSome else a.isNone)) := by cases a <;> cases n <;> rfl
@[simp] theorem vIsNil_fz (n : Bool) (sz : Nat) (tt : Bool) (els : List (List Value)) : vIsNil .slc n (fz sz tt els) = some (.bool n) := by cases n <;> simp [vIsNil, vNil]
@[simp] theorem vIsNil_sq (n : Bool) (nn tt : Bool) (sz : Nat) (els : List (List Value)) : vIsNil .slc n (sq nn tt sz els) = some (.bool (if n then !(decide (els = []) && !nn) else (decide (els = []) && !nn))) := by
  rcases sq_cases nn tt sz els with ⟨h, e, e2⟩ | h
  · rw [h, e, e2]; cases n <;> rfl
  · have : ¬ (els = [] ∧ nn = false) := by
      intro hh
      unfold sq at h
      rw [if_pos hh] at h
      cases h
    rw [h, vIsNil_fz]
    have e : (decide (els = []) && !nn) = false := by
      by_cases h1 : els = []
      · cases nn <;> simp_all
      · simp [h1]
    rw [e]; cases n <;> rfl
@[simp] theorem vIsNil_ifc (n : Bool) : vIsNil .ifc n .nilIface = some (.bool (if n then false else true)) := by cases n <;> rfl
@[simp] theorem vIsNil_fnil (n : Bool) : vIsNil .fn n .nilFunc = some (.bool (if n then false else true)) := by cases n <;> rfl
@[simp] theorem vIsNil_fn (n : Bool) (f : Fn) (a b : Array Value) : vIsNil .fn n (.func f a b) = some (.bool n) := by cases n <;> rfl
@[simp] theorem vCut_sq (sz : Nat) (nn tt : Bool) (els : List (List Value)) (lo hi : Option Value) (m : Mem) : vCut sz (sq nn tt sz els) lo hi m =
    (aHi hi els.length).bind fun h => (aLo lo h).bind fun l => some (sq (nn || !decide (els = [])) (tt && h == els.length) sz ((els.take h).drop l)) := by
  rcases sq_cases nn tt sz els with ⟨h, e, e2⟩ | h
  · rw [h, e, e2]
    simp only [vCut, fz?_slice, aCut, slc?_nil', Option.bind_some, List.length_nil]
    congr 1
    funext x
    congr 1
    funext y
    simp [sq]
  · have hne : ¬ (els = [] ∧ nn = false) := by
      intro hh
      unfold sq at h
      rw [if_pos hh] at h
      cases h
    rw [h]
    simp only [vCut, fz?_fz, if_true]
    congr 1
    funext x
    congr 1
    funext y
    have e : (nn || !decide (els = [])) = true := by
      by_cases h1 : els = []
      · cases nn <;> simp_all
      · simp [h1]
    rw [e]
    simp [sq]
@[simp] theorem vCut_fz (sz : Nat) (tt : Bool) (els : List (List Value)) (lo hi : Option Value) (m : Mem) : vCut sz (fz sz tt els) lo hi m =
    (aHi hi els.length).bind fun h => (aLo lo h).bind fun l => some (fz sz (tt && h == els.length) ((els.take h).drop l)) := by simp [vCut]
@[simp] theorem vStr_sq (nn tt : Bool) (l : List UInt8) (m : Mem) : vStr (sq nn tt 1 (l.map eb)) m = some (S l) := by
  rcases sq_cases nn tt 1 (l.map eb) with ⟨h, e, _⟩ | h
  · rw [h]
    have : l = [] := by simpa using e
    subst this
    rfl
  · rw [h]
    simp only [vStr, fz?_fz, if_true, eb_flat, u8s_eb, Option.bind_some, strOf_eb]
@[simp] theorem vStr_nil (m : Mem) : vStr (.slice none 0 0) m = some (S []) := rfl
theorem vStr_at {m : Mem} {o off n c : Nat} {r : Row} {l : List UInt8} (h : m.get o = some r) (hl : (r.cells.drop off).take n = l.map fun b => .int .u8 b.toNat) (hn : off + n ≤ r.cells.length) : vStr (.slice (some ⟨o, off, none⟩) n c) m = some (S l) := by
  simp only [vStr, fz?_slice, aStr, slc?_at', Option.bind_some, Mem.at_, h, if_pos hn, hl, u8s_eb, strOf_eb]
@[simp] theorem aBytes_S (l : List UInt8) (m : Mem) : aBytes (S l) m = some (.slice (some ⟨m.next, 0, none⟩) l.length (l.length + 1), m.push ⟨4294967295, l.map fun b => .int .u8 b.toNat⟩) := by
  simp [aBytes, S_size, C8]
@[simp] theorem panV_iface {t : TypeId} (h : tagged t = false) (v : Value) (k : Value → Option Out) : panV (.iface t v) k = k (.iface t v) := by simp [panV, h]
@[simp] theorem isTag_iface (t : TypeId) (v : Value) : isTag (.iface t v) = tagged t := rfl
@[simp] theorem leavesV_none (O : Orc) (fn : IFun) (env : Env) (m : Mem) : leavesV O fn env [] none m = (resOfV fn env m).bind fun v => some ⟨.ret, [v], m, []⟩ := rfl
@[simp] theorem leavesV_some (O : Orc) (fn : IFun) (env : Env) (v : Value) (m : Mem) : leavesV O fn env [] (some v) m = some ⟨.panic v, [], m, []⟩ := rfl
attribute [simp] resOfV resLV

/-! ### What is fixed at the end of a call -/
@[simp] theorem close_ret (m m' : Mem) (vals : List Value) : close m ⟨.ret, vals, m', []⟩ = some ⟨.ret, vals.map (frz FUEL m.next m'), m, []⟩ := rfl
@[simp] theorem close_panic (m m' : Mem) (v : Value) : close m ⟨.panic v, [], m', []⟩ = some ⟨.panic (frz FUEL m.next m' v), [], m, []⟩ := rfl
/-- A value without live places. -/
def Cl (v : Value) : Prop := ∀ (k n : Nat) (m : Mem), frz (k + 6) n m v = v
theorem Cl.frz {v : Value} (h : Cl v) (n : Nat) (m : Mem) : frz FUEL n m v = v := h 18 n m
theorem frz_base {v : Value} (h : base v = true) (k n : Nat) (m : Mem) : frz (k + 1) n m v = v := by
  cases v with
  | pointer a => cases a with | none => rfl | some a => simp [base] at h
  | slice a n c => cases a with | none => simp only [frz]; rw [if_pos h] | some a => simp [base] at h
  | agg => simp [base] at h
  | tuple => simp [base] at h
  | iface => simp [base] at h
  | func => simp [base] at h
  | chan r => cases r with | none => rfl | some a => simp [base] at h
  | map r => cases r with | none => rfl | some a => simp [base] at h
  | _ => rfl
@[simp] theorem frz_int (k n : Nat) (m : Mem) (kk : IntKind) (i : Int) : frz (k + 1) n m (.int kk i) = .int kk i := rfl
@[simp] theorem frz_bool (k n : Nat) (m : Mem) (b : Bool) : frz (k + 1) n m (.bool b) = .bool b := rfl
@[simp] theorem frz_S (k n : Nat) (m : Mem) (l : List UInt8) : frz (k + 1) n m (S l) = S l := rfl
@[simp] theorem frz_nils (k n : Nat) (m : Mem) : frz (k + 1) n m (.slice none 0 0) = .slice none 0 0 := rfl
@[simp] theorem frz_nilp (k n : Nat) (m : Mem) : frz (k + 1) n m (.pointer none) = .pointer none := rfl
@[simp] theorem frz_nilf (k n : Nat) (m : Mem) : frz (k + 1) n m .nilFunc = .nilFunc := rfl
@[simp] theorem frz_nili (k n : Nat) (m : Mem) : frz (k + 1) n m .nilIface = .nilIface := rfl
@[simp] theorem frz_fz (k n : Nat) (m : Mem) (sz : Nat) (tt : Bool) (els : List (List Value)) : frz (k + 1) n m (fz sz tt els) = fz sz tt els := rfl
@[simp] theorem frz_fp (k n : Nat) (m : Mem) (cells : List Value) (off : Nat) : frz (k + 1) n m (fp cells off) = fp cells off := rfl
@[simp] theorem frz_sq (k n : Nat) (m : Mem) (nn tt : Bool) (sz : Nat) (els : List (List Value)) : frz (k + 1) n m (sq nn tt sz els) = sq nn tt sz els := by
  rcases sq_cases nn tt sz els with ⟨h, _⟩ | h <;> rw [h] <;> rfl
@[simp] theorem frz_undef (k n : Nat) (m : Mem) : frz (k + 1) n m (.tuple #[]) = .tuple #[] := rfl
@[simp] theorem frz_agg (k n : Nat) (m : Mem) (l : List Value) : frz (k + 1) n m (.agg l.toArray) = .agg (l.map (frz k n m)).toArray := by simp [frz]
@[simp] theorem frz_tuple (k n : Nat) (m : Mem) (a : Value) (l : List Value) : frz (k + 1) n m (.tuple (a :: l).toArray) = .tuple ((a :: l).map (frz k n m)).toArray := by simp [frz]
@[simp] theorem frz_iface {t : TypeId} (h : tagged t = false) (k n : Nat) (m : Mem) (v : Value) : frz (k + 1) n m (.iface t v) = .iface t (frz k n m v) := by simp [frz, h]
theorem frz_slice {k n0 : Nat} {m : Mem} {o off n c : Nat} {r : Row} (h0 : n0 ≤ o) (hr : m.get o = some r) (hle : off + n * unit r.sz ≤ r.cells.length) :
    frz (k + 1) n0 m (.slice (some ⟨o, off, none⟩) n c) = fz (unit r.sz) (c == n) (chunk (unit r.sz) n ((r.cells.map (frz k 0 m)).drop off)) := by
  have : ¬ o < n0 := by omega
  simp only [frz, if_neg this, hr, if_pos hle]
/-! ### What has no live places -/
theorem clo_base {v : Value} (h : base v = true) (k : Nat) : clo (k + 1) v = true := by cases v <;> first | exact h | simp [base] at h
@[simp] theorem clo_int (k : Nat) (kk : IntKind) (i : Int) : clo (k + 1) (.int kk i) = true := rfl
@[simp] theorem clo_bool (k : Nat) (b : Bool) : clo (k + 1) (.bool b) = true := rfl
@[simp] theorem clo_S (k : Nat) (l : List UInt8) : clo (k + 1) (S l) = true := rfl
@[simp] theorem clo_nils (k : Nat) : clo (k + 1) (.slice none 0 0) = true := rfl
@[simp] theorem clo_nilp (k : Nat) : clo (k + 1) (.pointer none) = true := rfl
@[simp] theorem clo_nilf (k : Nat) : clo (k + 1) .nilFunc = true := rfl
@[simp] theorem clo_nili (k : Nat) : clo (k + 1) .nilIface = true := rfl
@[simp] theorem clo_fz (k sz : Nat) (tt : Bool) (els : List (List Value)) : clo (k + 1) (fz sz tt els) = true := rfl
@[simp] theorem clo_fp (k off : Nat) (cells : List Value) : clo (k + 1) (fp cells off) = true := rfl
@[simp] theorem clo_sq (k : Nat) (nn tt : Bool) (sz : Nat) (els : List (List Value)) : clo (k + 1) (sq nn tt sz els) = true := by rcases sq_cases nn tt sz els with ⟨h, _⟩ | h <;> rw [h] <;> rfl
@[simp] theorem clo_agg (k : Nat) (l : List Value) : clo (k + 1) (.agg l.toArray) = l.all (clo k) := rfl
@[simp] theorem clo_iface (k : Nat) (t : TypeId) (v : Value) : clo (k + 1) (.iface t v) = (tagged t || clo k v) := rfl
@[simp] theorem clo_func (k : Nat) (f : Fn) (a b : List Value) : clo (k + 1) (.func f a.toArray b.toArray) = (a.all (clo k) && b.all (clo k)) := rfl
attribute [simp] FUEL
/-- A slice of one element; one of several. -/
theorem vLit_one {v z : Value} (h : single v) (hc : clo FUEL v = true) (m : Mem) : vLit 1 1 [z] [(0, v)] m = some (fz 1 true [[v]], m) := by
  obtain ⟨h1, h2⟩ := h
  have h3 : v.cells.size = 1 := by rw [← Array.length_toList, h2]; rfl
  simp only [FUEL] at hc
  simp [vLit, unit, zerosL, fillL, h1, h2, h3, putL, chunk, hc]
@[simp] theorem vLit_byte (n : Int) (z : Value) (m : Mem) : vLit 4294967295 1 [z] [(0, .int .u8 n)] m = some (fz 1 true [[.int .u8 n]], m) := by
  obtain ⟨h1, h2⟩ := single_int .u8 n
  have h3 : (Value.int .u8 n).cells.size = 1 := by rw [← Array.length_toList, h2]; rfl
  simp [vLit, unit, zerosL, fillL, h1, h2, h3, putL, chunk]
@[simp] theorem vLit_S (l : List UInt8) (z : Value) (m : Mem) : vLit 1 1 [z] [(0, S l)] m = some (fz 1 true [[S l]], m) := vLit_one (single_S _) rfl m
@[simp] theorem vLit_int (k : IntKind) (n : Int) (z : Value) (m : Mem) : vLit 1 1 [z] [(0, .int k n)] m = some (fz 1 true [[.int k n]], m) := vLit_one (single_int _ _) rfl m
theorem vLit_agg {sz : Nat} {z l : List Value} (hz : z.length = sz) (hl : l.length = sz) (hs : sz ≤ 16777216) (hc : l.all (clo FUEL) = true) (m : Mem) : vLit sz 1 z [(0, .agg l.toArray)] m = some (fz sz true [l], m) := by
  have h0 : (zerosL z 1).length = sz := by simp [zerosL, hz]
  have hp : putL (zerosL z 1) 0 l = l := by
    apply List.ext_getElem?
    intro i
    rw [putL_get _ _ _ _ (by omega)]
    split
    · simp
    · rw [List.getElem?_eq_none (by omega), List.getElem?_eq_none (by omega)]
  simp only [vLit, unit_lt (show sz < 4294967295 by omega), Nat.one_mul, if_pos hs, fillL, Nat.lt_one_iff, if_true, known_agg, cells_agg, List.size_toArray, hl, Nat.zero_mul, Nat.zero_add, h0, Nat.le_refl, and_self, hp, Option.bind_some, beq_self_eq_true, hc, Bool.and_self, chunk]
  rw [List.take_of_length_le (by omega)]
/-- All that lies in cells stays. -/
def Cls (els : List (List Value)) : Prop := ∀ e ∈ els, ∀ v ∈ e, ∀ (k : Nat) (m : Mem), frz (k + 6) 0 m v = v
theorem Cls.map {α : Type} {enc : α → List Value} {l : List α} (h : ∀ x, ∀ v ∈ enc x, ∀ (k : Nat) (m : Mem), frz (k + 6) 0 m v = v) : Cls (l.map enc) := by
  intro e he v hv
  obtain ⟨x, _, rfl⟩ := List.mem_map.1 he
  exact h x v hv
theorem Cls.eb (l : List UInt8) : Cls (l.map eb) := .map fun x v hv k m => by simp [D.eb] at hv; subst hv; rfl
theorem Cls.ei (l : List Int) : Cls (l.map ei) := .map fun x v hv k m => by simp [D.ei] at hv; subst hv; rfl
theorem Cls.es (l : List (List UInt8)) : Cls (l.map es) := .map fun x v hv k m => by simp [D.es] at hv; subst hv; rfl

/-! ### A slice that is being built -/
/-- It is nil, or its row is its own to its end. -/
structure Own (m : Mem) (v : Value) (sz : Nat) (els : List (List Value)) : Prop where
  lo : m.lo ≤ m.next
  un : unit sz = sz
  lens : ∀ e ∈ els, e.length = sz
  at_ : (v = .slice none 0 0 ∧ els = []) ∨ ∃ o c, els ≠ [] ∧ v = .slice (some ⟨o, 0, none⟩) els.length c ∧ c ≠ els.length ∧ m.get o = some ⟨sz, els.flatten⟩ ∧ m.lo ≤ o ∧ o < m.next
theorem Own.nil {m : Mem} {sz : Nat} (h : m.lo ≤ m.next) (hu : unit sz = sz := by decide) : Own m (.slice none 0 0) sz [] := ⟨h, hu, by simp, .inl ⟨rfl, rfl⟩⟩
section
variable {m : Mem} {v : Value} {sz : Nat} {els : List (List Value)}
theorem Own.len (h : Own m v sz els) : vLenL v = some (.int .i64 els.length) := by
  rcases h.at_ with ⟨rfl, rfl⟩ | ⟨o, c, _, rfl, _⟩ <;> rfl
theorem Own.single (h : Own m v sz els) : single v := by
  rcases h.at_ with ⟨rfl, rfl⟩ | ⟨o, c, _, rfl, _⟩ <;> exact single_slice _ _ _
theorem Own.frz (h : Own m v sz els) (hc : Cls els) {k n0 : Nat} (h0 : n0 ≤ m.lo) : frz (k + 7) n0 m v = sq false false sz els := by
  rcases h.at_ with ⟨rfl, rfl⟩ | ⟨o, c, hne, rfl, hcn, hg, hlo, _⟩
  · rfl
  · have hle : 0 + els.length * sz ≤ els.flatten.length := by rw [vflat_len h.lens]; omega
    rw [frz_slice (by omega) hg (by simpa only [h.un] using hle)]
    simp only [h.un]
    have e : els.flatten.map (D.frz (k + 6) 0 m) = els.flatten := by
      conv => rhs; rw [← List.map_id els.flatten]
      apply List.map_congr_left
      intro v hv
      obtain ⟨e, he, hv⟩ := List.mem_flatten.1 hv
      exact hc e he v hv k m
    simp only [e, List.drop_zero, chunk_flat h.lens]
    have : (c == els.length) = false := by simpa using hcn
    rw [this]
    unfold sq
    rw [if_neg]
    exact fun hh => hne hh.1
/-- What was there, but for a slice's own row. -/
structure Kept (m : Mem) (v : Value) (m' : Mem) : Prop where
  lo : m'.lo = m.lo
  ro : m'.ro = m.ro
  next : m.next ≤ m'.next
  get : ∀ o, o < m.next → (∀ n c, v ≠ .slice (some ⟨o, 0, none⟩) n c) → m'.get o = m.get o
/-- More is appended. -/
theorem Own.apps (h : Own m v sz els) {l : List Value} {xs : List (List Value)} {str : Bool} {y : Value} (hs : vSrc str sz y m = some (xs.length, l)) (hl : xs.flatten = l) (hx : ∀ e ∈ xs, e.length = sz) (hne : xs ≠ []) {b : Nat} (hb : (els.length + xs.length) * b ≤ 274877906944) (hb2 : els.length + xs.length ≤ 1099511627776) :
    ∃ v' m', vApp str sz b v y m = some (v', m') ∧ Own m' v' sz (els ++ xs) ∧ Kept m v m' ∧ ∃ n c, v' = .slice (some ⟨m.next, 0, none⟩) n c := by
  have hk : xs.length ≠ 0 := fun e => hne (List.eq_nil_of_length_eq_zero e)
  have hlens : ∀ e ∈ els ++ xs, e.length = sz := fun e he => by rcases List.mem_append.1 he with he | he; exact h.lens e he; exact hx e he
  have hnex : els ++ xs ≠ [] := by simp [hne]
  unfold vApp
  rw [h.un, hs]
  simp only [Option.bind_some]
  rcases h.at_ with ⟨rfl, rfl⟩ | ⟨o, c, hn0, rfl, hcn, hg, hlo, hon⟩
  · simp only [fz?_slice, slc?_nil', Option.bind_some, if_neg hk]
    simp only [List.length_nil, Nat.zero_add] at hb hb2
    rw [if_pos ⟨hb, hb2⟩]
    refine ⟨_, _, rfl, ⟨Nat.le_succ_of_le h.lo, h.un, hlens, .inr ⟨m.next, xs.length + 1, hnex, by simp, by simp, by simp [hl], h.lo, by simp⟩⟩, ⟨rfl, rfl, by simp, fun q hq _ => by rw [Mem.get_push, if_neg (by omega)]⟩, _, _, rfl⟩
  · simp only [fz?_slice, slc?_at', Option.bind_some, if_neg hk]
    rw [if_pos ⟨hb, hb2⟩, if_neg hcn, hg]
    simp only [Option.bind_some]
    rw [if_pos ⟨hlo, trivial, by rw [vflat_len h.lens]; omega⟩]
    refine ⟨_, _, rfl, ⟨Nat.le_succ_of_le h.lo, h.un, hlens, .inr ⟨m.next, els.length + xs.length + 1, hnex, by simp, by simp, by simp [hl, List.flatten_append], h.lo, by simp⟩⟩, ⟨rfl, rfl, by simp, fun q hq hv => ?_⟩, _, _, rfl⟩
    rw [Mem.get_push, Mem.next_del, if_neg (by omega), Mem.get_del, if_neg (fun e => ?_)]
    subst e
    exact hv _ _ rfl
theorem Own.app (h : Own m v sz els) {tt : Bool} {xs : List (List Value)} (hx : ∀ e ∈ xs, e.length = sz) (hne : xs ≠ []) {b : Nat} (hb : (els.length + xs.length) * b ≤ 274877906944) (hb2 : els.length + xs.length ≤ 1099511627776) :
    ∃ v' m', vApp false sz b v (fz sz tt xs) m = some (v', m') ∧ Own m' v' sz (els ++ xs) ∧ Kept m v m' :=
  let ⟨v', m', a, b, c, _⟩ := h.apps (y := fz sz tt xs) (by simp [vSrc]) rfl hx hne hb hb2
  ⟨v', m', a, b, c⟩
/-- One more. -/
theorem Own.app1 (h : Own m v sz els) {tt : Bool} {x : List Value} (hx : x.length = sz) {b : Nat} (hb : (els.length + 1) * b ≤ 274877906944) (hb2 : els.length + 1 ≤ 1099511627776) :
    ∃ v' m', vApp false sz b v (fz sz tt [x]) m = some (v', m') ∧ Own m' v' sz (els ++ [x]) ∧ Kept m v m' := h.app (by simpa using hx) (by simp) hb hb2
/-- All of a fixed slice, which may be none. -/
theorem Own.appq (h : Own m v sz els) {nn tt : Bool} {xs : List (List Value)} (hx : ∀ e ∈ xs, e.length = sz) {b : Nat} (hb : (els.length + xs.length) * b ≤ 274877906944) (hb2 : els.length + xs.length ≤ 1099511627776) :
    ∃ v' m', vApp false sz b v (sq nn tt sz xs) m = some (v', m') ∧ Own m' v' sz (els ++ xs) ∧ Kept m v m' := by
  have hs : vSrc false sz (sq nn tt sz xs) m = some (xs.length, xs.flatten) := by
    rcases sq_cases nn tt sz xs with ⟨e, e2, _⟩ | e
    · rw [e, e2]; rfl
    · rw [e]; simp [vSrc]
  by_cases hne : xs = []
  · subst hne
    refine ⟨v, m, ?_, by simpa using h, rfl, rfl, Nat.le_refl _, fun _ _ _ => rfl⟩
    unfold vApp
    rw [h.un, hs]
    simp only [Option.bind_some, List.length_nil]
    rcases h.at_ with ⟨rfl, rfl⟩ | ⟨o, c, hn0, rfl, hcn, hg, hlo, hon⟩ <;> simp
  · obtain ⟨v', m', a, b, c, _⟩ := h.apps hs rfl hx hne hb hb2
    exact ⟨v', m', a, b, c⟩
/-- Bytes, as a text. -/
theorem Own.str {l : List UInt8} (h : Own m v 1 (l.map eb)) : vStr v m = some (S l) := by
  rcases h.at_ with ⟨rfl, e⟩ | ⟨o, c, hn0, rfl, hcn, hg, hlo, hon⟩
  · have : l = [] := by simpa using e
    subst this; rfl
  · rw [List.length_map]
    refine vStr_at hg ?_ ?_
    · simp only [List.drop_zero, eb_flat]
      rw [List.take_of_length_le (by simp)]
    · simp [eb_flat]
theorem Own.idx (h : Own m v sz els) {i : Nat} {e : List Value} (he : els[i]? = some e) (k : IntKind) : ∃ o off, vIdx sz v (.int k i) = some (.pointer (some ⟨o, off, none⟩)) ∧ m.get o = some ⟨sz, els.flatten⟩ ∧ off = i * sz ∧ m.lo ≤ o := by
  have hi : i < els.length := (List.getElem?_eq_some_iff.1 he).1
  rcases h.at_ with ⟨rfl, rfl⟩ | ⟨o, c, hn0, rfl, hcn, hg, hlo, hon⟩
  · simp at hi
  · exact ⟨o, i * sz, by simp [hi], hg, rfl, hlo⟩
end

/-! ### Bytes that are being gathered -/
def u8l (l : List UInt8) : List Value := l.map fun b => .int .u8 b.toNat
@[simp] theorem u8l_len (l : List UInt8) : (u8l l).length = l.length := by simp [u8l]
theorem u8l_app (a b : List UInt8) : u8l (a ++ b) = u8l a ++ u8l b := by simp [u8l]
/-- None, or a row of its own to its end. -/
structure OwnB (m : Mem) (v : Value) (l : List UInt8) : Prop where
  lo : m.lo ≤ m.next
  at_ : (v = .slice none 0 0 ∧ l = []) ∨ ∃ o c, l ≠ [] ∧ v = .slice (some ⟨o, 0, none⟩) l.length c ∧ c ≠ l.length ∧ m.get o = some ⟨4294967295, u8l l⟩ ∧ m.lo ≤ o ∧ o < m.next
theorem OwnB.nil {m : Mem} (h : m.lo ≤ m.next) : OwnB m (.slice none 0 0) [] := ⟨h, .inl ⟨rfl, rfl⟩⟩
section
variable {m : Mem} {v : Value} {l : List UInt8}
theorem OwnB.len (h : OwnB m v l) : vLenL v = some (.int .i64 l.length) := by
  rcases h.at_ with ⟨rfl, rfl⟩ | ⟨o, c, _, rfl, _⟩ <;> rfl
theorem OwnB.single (h : OwnB m v l) : single v := by
  rcases h.at_ with ⟨rfl, rfl⟩ | ⟨o, c, _, rfl, _⟩ <;> exact single_slice _ _ _
theorem OwnB.app (h : OwnB m v l) {x : List UInt8} {str : Bool} {y : Value} (hs : vSrc str 1 y m = some (x.length, u8l x)) {b : Nat} (hb : (l.length + x.length) * b ≤ 274877906944) (hb2 : l.length + x.length ≤ 1099511627776) :
    ∃ v' m', vApp str 4294967295 b v y m = some (v', m') ∧ OwnB m' v' (l ++ x) ∧ Kept m v m' ∧ (x = [] → v' = v ∧ m' = m) ∧ (x ≠ [] → ∃ n c, v' = .slice (some ⟨m.next, 0, none⟩) n c) := by
  unfold vApp
  rw [show unit 4294967295 = 1 from rfl, hs]
  simp only [Option.bind_some]
  by_cases hx : x = []
  · subst hx
    refine ⟨v, m, ?_, by simpa using h, ⟨rfl, rfl, Nat.le_refl _, fun _ _ _ => rfl⟩, fun _ => ⟨rfl, rfl⟩, fun h => absurd rfl h⟩
    rcases h.at_ with ⟨rfl, rfl⟩ | ⟨o, c, hn0, rfl, hcn, hg, hlo, hon⟩ <;> simp
  · have hk : x.length ≠ 0 := fun e => hx (List.eq_nil_of_length_eq_zero e)
    have hnex : l ++ x ≠ [] := by simp [hx]
    rcases h.at_ with ⟨rfl, rfl⟩ | ⟨o, c, hn0, rfl, hcn, hg, hlo, hon⟩
    · simp only [fz?_slice, slc?_nil', Option.bind_some, if_neg hk]
      simp only [List.length_nil, Nat.zero_add] at hb hb2
      rw [if_pos ⟨hb, hb2⟩]
      refine ⟨_, _, rfl, ⟨Nat.le_succ_of_le h.lo, .inr ⟨m.next, x.length + 1, hnex, by simp, by simp, by simp, h.lo, by simp⟩⟩, ⟨rfl, rfl, by simp, fun q hq _ => by rw [Mem.get_push, if_neg (by omega)]⟩, fun e => absurd e hx, fun _ => ⟨_, _, rfl⟩⟩
    · simp only [fz?_slice, slc?_at', Option.bind_some, if_neg hk]
      rw [if_pos ⟨hb, hb2⟩, if_neg hcn, hg]
      simp only [Option.bind_some]
      rw [if_pos ⟨hlo, trivial, by simp⟩]
      refine ⟨_, _, rfl, ⟨Nat.le_succ_of_le h.lo, .inr ⟨m.next, l.length + x.length + 1, hnex, by simp, by simp, by simp [u8l_app], h.lo, by simp⟩⟩, ⟨rfl, rfl, by simp, fun q hq hv => ?_⟩, fun e => absurd e hx, fun _ => ⟨_, _, rfl⟩⟩
      rw [Mem.get_push, Mem.next_del, if_neg (by omega), Mem.get_del, if_neg (fun e => ?_)]
      subst e
      exact hv _ _ rfl
/-- A text is added; one byte is. -/
theorem vSrc_text (x : List UInt8) (hx : x.length ≤ 1099511627776) (m : Mem) : vSrc true 1 (S x) m = some (x.length, u8l x) := by
  have : aSrc true 1 (S x) m = some ((⟨x.toArray⟩ : ByteArray).size, (⟨x.toArray⟩ : ByteArray).data.toList.map fun b => .int .u8 b.toNat) := by
    simp [aSrc, S, str?]
  unfold vSrc
  simp only
  rw [this]
  simp [u8l, ByteArray.size]
theorem vSrc_one (b : UInt8) (m : Mem) : vSrc false 1 (fz 1 true [[.int .u8 b.toNat]]) m = some ([b].length, u8l [b]) := by
  simp [vSrc, u8l]
/-- Bytes, as a text; as the text that they become, once for all. -/
theorem OwnB.str (h : OwnB m v l) : vStr v m = some (S l) := by
  rcases h.at_ with ⟨rfl, rfl⟩ | ⟨o, c, hn0, rfl, hcn, hg, hlo, hon⟩
  · rfl
  · refine vStr_at hg ?_ ?_
    · simp [u8l]
      rw [List.take_of_length_le (by simp)]
    · simp
theorem OwnB.ustr (h : OwnB m v l) (hl : l.length ≤ 9223372036854775807) : ∃ p, aSData v = some p ∧ ((v = .slice none 0 0 ∧ l = [] ∧ aUStr p (.int .i64 l.length) m = some (S l, m)) ∨ ∃ o, (∃ n c, v = .slice (some ⟨o, 0, none⟩) n c) ∧ aUStr p (.int .i64 l.length) m = some (S l, m.del o)) := by
  rcases h.at_ with ⟨rfl, rfl⟩ | ⟨o, c, hn0, rfl, hcn, hg, hlo, hon⟩
  · exact ⟨_, rfl, .inl ⟨rfl, rfl, rfl⟩⟩
  · have hne : l.length ≠ 0 := fun e => hn0 (List.eq_nil_of_length_eq_zero e)
    refine ⟨.pointer (some ⟨o, 0, none⟩), by simp [aSData, hne], .inr ⟨o, ⟨_, _, rfl⟩, ?_⟩⟩
    have h2 : m.at_ o 0 l.length = some (u8l l) := by
      simp [Mem.at_, hg]
      rw [List.take_of_length_le (by simp)]
    have h3 : u8s (u8l l) = some (l.map fun b => (b.toNat : Int)) := u8s_eb l
    have h4 : strOf (l.map fun b => (b.toNat : Int)) = ⟨l.toArray⟩ := by have := strOf_eb l; unfold S at this; injection this
    have hz : ¬ ((l.length : Int) = 0) := by omega
    simp only [aUStr, int?, Option.bind_some, if_true, if_neg hz]
    rw [if_pos ⟨by omega, by omega⟩]
    simp only [addr?, Option.bind_some, hg]
    rw [if_pos ⟨rfl, hlo⟩]
    simp only [Int.toNat_natCast, h2, Option.bind_some, h3, h4]
    rfl
end
end Go.Proofs.Ytjojfpmelhaknaa.D
