/-
  A deterministic reading of the program's code: the plain operations, read out of the program's.
-/
import Derived.Test.YtjojfpmelhaknaaD10
namespace Go.Proofs.Ytjojfpmelhaknaa.D
open Go.RowKit
set_option linter.unusedVariables false
set_option linter.unusedSimpArgs false

inductive POp where
  | move (x : Operand)
  | pick (c a b : Operand)
  | new (sz : Nat) (z : List Value)
  | box (sz : Nat) (x : Operand)
  | build (places : List (Nat × Nat)) (zero : List Value) (parts : List (Nat × Operand))
  | lit (sz len : Nat) (zero : List Value) (parts : List (Nat × Operand))
  | load (n : Nat) (agg : Bool) (a : Operand)
  | store (n : Nat) (a x : Operand)
  | nilCheck (x : Operand)
  | bin (op : BinOp) (x y : Operand)
  | un (op : UnOp) (x : Operand)
  | eqB (neg : Bool) (x y : Operand)
  | isNil (k : NK) (neg : Bool) (x : Operand)
  | eqS (neg : Bool) (ks : List CK) (x y : Operand)
  | toInt (k : IntKind) (x : Operand)
  | same (x : Operand)
  | toBytes (x : Operand)
  | mark (x : Operand)
  | toStr (x : Operand)
  | iface (t : TypeId) (x : Operand)
  | func (fn : Fn) (first captured : List Operand)
  | make (sz bytes : Nat) (z : List Value) (len cap : Operand)
  | cutStr (x : Operand) (lo hi : Option Operand)
  | cut (sz : Nat) (x : Operand) (lo hi : Option Operand)
  | cut3 (sz : Nat) (x : Operand) (lo hi mx : Option Operand)
  | cutArr (n sz : Nat) (x : Operand) (lo hi : Option Operand)
  | fieldAddr (off : Nat) (x : Operand)
  | field (agg : Bool) (n off : Nat) (x : Operand)
  | idx (sz : Nat) (x i : Operand)
  | idxArr (n sz : Nat) (x i : Operand)
  | byte (x i : Operand)
  | elem (agg : Bool) (n sz : Nat) (x i : Operand)
  | extract (i : Nat) (x : Operand)
  | assert (t : TypeId) (ok : Bool) (z : Value) (x : Operand)
  | len (str : Bool) (x : Operand)
  | app (str : Bool) (sz bytes : Nat) (x y : Operand)
  | mm (mx : Bool) (xs : List Operand)
  | eqP (neg : Bool) (x y : Operand)
  | toUns (x : Operand)
  | fromUns (u n : Nat) (x : Operand)
  | sdata (x : Operand)
  | ustr (x n : Operand)

/-- A pointer's check. -/
def aCheck (x : Value) : Option Value := match x with | .pointer (some _) => some x | .func (.func _) _ _ => some x | _ => none
def aInt (k : IntKind) (x : Value) : Option Value := (int? x).bind fun (_, n) => some (.int k (k.wrap n))
def aSame (x : Value) : Option Value := (str? x).bind fun s => some (.string s)

def only (m : Mem) (x : Option Value) : Option (Value × Mem) := x.bind fun v => some (v, m)
def aop (p : POp) (ρ : Operand → Value) (m : Mem) : Option (Value × Mem) :=
  match p with
  | .move x => some (ρ x, m)
  | .pick c a b => (bool? (ρ c)).bind fun t => some (if t then ρ a else ρ b, m)
  | .new sz z => aNew sz z m
  | .box sz x => aBox sz (ρ x) m
  | .build ps z parts => only m (aBuild ps z (parts.map fun p => (p.1, ρ p.2)))
  | .lit sz n z parts => aLit sz n z (parts.map fun p => (p.1, ρ p.2)) m
  | .load n g a => aLoad n g (ρ a) m
  | .store n a x => aStore n (ρ a) (ρ x) m
  | .nilCheck x => only m (aCheck (ρ x))
  | .bin op x y => only m (aBin op (ρ x) (ρ y))
  | .un op x => only m (aUn op (ρ x))
  | .eqB neg x y => only m (aEqB neg (ρ x) (ρ y))
  | .isNil k neg x => only m (aIsNil k neg (ρ x))
  | .eqS neg ks x y => only m (aEqS neg ks (ρ x) (ρ y))
  | .toInt k x => only m (aInt k (ρ x))
  | .same x => only m (aSame (ρ x))
  | .toBytes x => aBytes (ρ x) m
  | .mark x => only m (aMark (ρ x) m)
  | .toStr x => only m (aStr (ρ x) m)
  | .iface t x => some (.iface t (ρ x), m)
  | .func fn f c => some (.func fn (f.map ρ).toArray (c.map ρ).toArray, m)
  | .make sz b z l c => aMake sz b z (ρ l) (ρ c) m
  | .cutStr x lo hi => only m (aCutStr (ρ x) (lo.map ρ) (hi.map ρ))
  | .cut sz x lo hi => only m (aCut sz (ρ x) (lo.map ρ) (hi.map ρ) m)
  | .cut3 sz x lo hi mx => only m (aCut3 sz (ρ x) (lo.map ρ) (hi.map ρ) (mx.map ρ) m)
  | .cutArr n sz x lo hi => only m (aCutArr n sz (ρ x) (lo.map ρ) (hi.map ρ) m)
  | .fieldAddr off x => only m (aFieldAddr off (ρ x))
  | .field g n off x => only m (aField g n off (ρ x))
  | .idx sz x i => only m (aIdx sz (ρ x) (ρ i))
  | .idxArr n sz x i => only m (aIdxArr n sz (ρ x) (ρ i))
  | .byte x i => only m (aByte (ρ x) (ρ i))
  | .elem g n sz x i => only m (aElem g n sz (ρ x) (ρ i))
  | .extract i x => only m (aExtract i (ρ x))
  | .assert t ok z x => only m (aAssert t ok z (ρ x))
  | .len s x => only m (match s with | true => aLenS (ρ x) | false => aLenL (ρ x))
  | .app s sz b x y => aApp s sz b (ρ x) (ρ y) m
  | .mm mx xs => only m (aMax mx (xs.map ρ))
  | .eqP neg x y => only m (aEqP neg (ρ x) (ρ y))
  | .toUns x => only m (aToUns (ρ x) m)
  | .fromUns u n x => only m (aFromUns u n (ρ x) m)
  | .sdata x => only m (aSData (ρ x))
  | .ustr x n => aUStr (ρ x) (ρ n) m

def isNilO : NK → Operand → Bool
  | .ptr, .const (.pointer none) => true
  | .slc, .const (.slice none 0 0) => true
  | .fn, .const .nilFunc => true
  | .ifc, .const .nilIface => true
  | _, _ => false
theorem isNilO_eq {k : NK} {x : Operand} (h : isNilO k x = true) : x = .const (nilOf k) := by
  unfold isNilO at h
  split at h <;> first | rfl | cases h
def isU8 (P : Program) (e : TypeId) : Bool := match P.underlying e with | some (.int .u8) => true | _ => false
def compileP (P : Program) (ty : TypeId) : Op → Option POp
  | .move x => some (.move x)
  | .assign x => some (.move x)
  | .pick c a b => some (.pick c a b)
  | .alloc t => (ti P t).map fun x => .new x.esz x.zero
  | .box t x => (ti P t).map fun y => .box y.esz x
  | .build t parts => (bi P t).map fun b => .build b.places b.zero parts.toList
  | .buildSlice t n parts => match P.underlying t with | some (.slice e) => (ti P e).map fun x => .lit x.rsz n x.zero parts.toList | _ => none
  | .load t a => (ti P t).map fun x => .load x.size x.agg a
  | .store t a v => (ti P t).map fun x => .store x.size a v
  | .nilCheck x => some (.nilCheck x)
  | .binOp op t x y _ => match P.underlying t with
    | some (.int _) | some .string => some (.bin op x y)
    | some .bool => match op with | .eql => some (.eqB false x y) | .neq => some (.eqB true x y) | _ => none
    | some (.struct _) => match eqShape P 100 t, ti P t with
      | some ks, some i => if P.eqGuardType P.depth t = false ∧ i.size = ks.length then (match op with | .eql => some (.eqS false ks x y) | .neq => some (.eqS true ks x y) | _ => none) else none
      | _, _ => none
    | _ => match nk P t with
      | some k => if isNilO k y then (match op with | .eql => some (.isNil k false x) | .neq => some (.isNil k true x) | _ => none)
        else match P.underlying t with
          | some (.pointer te) => if (P.info? te).isSome then (match op with | .eql => some (.eqP false x y) | .neq => some (.eqP true x y) | _ => none) else none
          | _ => none
      | none => none
  | .unOp op _ x => some (.un op x)
  | .convert s d x => match P.underlying s, P.underlying d with
    | some (.int _), some (.int k) => some (.toInt k x)
    | some .string, some .string => some (.same x)
    | some .string, some (.slice e) => if byteT P e then some (.toBytes x) else none
    | some (.slice e), some .string => if isU8 P e then some (.toStr x) else none
    | some (.slice e), some (.slice _) => if s = d ∧ isU8 P e = true then some (.mark x) else none
    | some (.pointer t), some .unsafePointer => match P.info? t with | some i => if i.size ≠ 0 then some (.toUns x) else none | none => none
    | some .unsafePointer, some (.pointer u) => match P.info? u with | some i => if i.size ≠ 0 then some (.fromUns u i.size x) else none | none => none
    | _, _ => none
  | .makeInterface t x => if plainT P t then some (.iface t x) else none
  | .makeFunc fn f c => some (.func fn f.toList c.toList)
  | .makeSlice t l c => match P.underlying t with | some (.slice e) => (ti P e).map fun x => .make x.rsz x.bytes x.zero l c | _ => none
  | .slice t x lo hi mx => match P.underlying t with
    | some .string => if mx.isNone then some (.cutStr x lo hi) else none
    | some (.slice e) => if mx.isNone then (ti P e).map fun y => .cut y.size x lo hi else if hi.isSome then (ti P e).map fun y => .cut3 y.size x lo hi mx else none
    | some (.array n e) => if mx.isNone then (ti P e).map fun y => .cutArr n y.size x lo hi else none
    | _ => none
  | .fieldAddr t x j => match P.underlying t with
    | some (.struct fs) => (fs[j]?).bind fun f => (ti P f.type).bind fun y => if y.size ≠ 0 then some (.fieldAddr f.offset x) else none
    | _ => none
  | .field t x j => match P.underlying t with
    | some (.struct fs) => (fs[j]?).bind fun f => (ti P f.type).bind fun y => some (.field y.agg y.size f.offset x)
    | _ => none
  | .indexAddr t x i => match P.underlying t with
    | some (.slice e) => (ti P e).map fun y => .idx y.size x i
    | some (.array n e) => (ti P e).map fun y => .idxArr n y.size x i
    | _ => none
  | .index t x i => match P.underlying t with
    | some .string => some (.byte x i)
    | some (.array n e) => (ti P e).map fun y => .elem y.agg n y.size x i
    | _ => none
  | .extract x i => some (.extract i x)
  | .typeAssert x _ t ok => match P.info? t with
    | some i => match i.zero with
      | some z => if constOk z && plainT P t then some (.assert t ok z x) else none
      | none => none
    | none => none
  | .call { callee := .builtin .len, args := as, argTypes := ts } => match as.toList, ts.toList with
    | [x], [t] => match P.underlying t with | some .string => some (.len true x) | some (.slice _) => some (.len false x) | _ => none
    | _, _ => none
  | .call { callee := .builtin .append, args := as, argTypes := ts } => match as.toList, ts.toList with
    | [x, y], [t, u] => match P.underlying t, P.underlying u with
      | some (.slice e), some .string => (ti P e).map fun z => .app true z.rsz z.bytes x y
      | some (.slice e), some (.slice _) => (ti P e).map fun z => .app false z.rsz z.bytes x y
      | _, _ => none
    | _, _ => none
  | .call { callee := .builtin .max, args := as, argTypes := _ } => some (.mm true as.toList)
  | .call { callee := .builtin .min, args := as, argTypes := _ } => some (.mm false as.toList)
  | .call { callee := .builtin .unsafeSliceData, args := as, argTypes := _ } => match as.toList with | [x] => some (.sdata x) | _ => none
  | .call { callee := .builtin .unsafeString, args := as, argTypes := ts } => match as.toList, ts.toList with
    | [x, n], [t, u] => match P.underlying t with | some (.pointer e) => if isU8 P e then some (.ustr x n) else none | _ => none
    | _, _ => none
  | _ => none

def Sounds (cx : Cx) (ι : Inj) (m : Mem) (w : World) (s : Sem Next) (v : Value) (m' : Mem) : Prop :=
  ∃ ι' nx v' w', s.run cx.P w = .ok nx w' ∧ (nx = .value v' ∨ nx = .skip ∧ v' = undef) ∧ Post cx ι m w ι' m' w' ∧ VRel ι' v v'
theorem Sounds.of {cx : Cx} {ι : Inj} {m m' : Mem} {w : World} {s : Sem Value} {v : Value} (h : Sound cx ι m w s v m') : Sounds cx ι m w (do pure (.value (← s))) v m' := by
  obtain ⟨ι', v', w', a, b, c⟩ := h
  exact ⟨ι', _, v', w', by rw [run_bind a]; rfl, .inl rfl, b, c⟩
theorem Sounds.val {cx : Cx} {ι : Inj} {m : Mem} {w : World} {v v' : Value} (h : Rel cx ι m w) (hv : VRel ι v v') : Sounds cx ι m w (pure (.value v')) v m :=
  ⟨ι, _, v', w, rfl, .inl rfl, .refl h, hv⟩
theorem Sound.congr {cx : Cx} {ι : Inj} {m m' : Mem} {w : World} {s t : Sem Value} {v : Value} (h : Sound cx ι m w s v m') (e : t.run cx.P w = s.run cx.P w) : Sound cx ι m w t v m' := by
  obtain ⟨ι', v', w', a, b, c⟩ := h
  exact ⟨ι', v', w', e.trans a, b, c⟩
theorem only_some {m m' : Mem} {x : Option Value} {v : Value} (h : only m x = some (v, m')) : x = some v ∧ m' = m := by
  cases x with
  | none => cases h
  | some u => cases h; exact ⟨rfl, rfl⟩
theorem orel {ι : Inj} {N : Nat} {env : Env} {a : Act} (h : ERel ι N env a.tmps) (x : Option Operand) : ORel ι (x.map (aev env)) (x.map a.eval) := by
  cases x with
  | none => exact .none
  | some x => exact .some (h.ev x)
theorem lrel {ι : Inj} {N : Nat} {env : Env} {a : Act} (h : ERel ι N env a.tmps) (xs : List Operand) : LRel ι (xs.map (aev env)) (xs.map a.eval) := by
  induction xs with
  | nil => exact .nil
  | cons x t ih => exact .cons (h.ev x) ih
theorem prel {ι : Inj} {N : Nat} {env : Env} {a : Act} (h : ERel ι N env a.tmps) (ps : List (Nat × Operand)) :
    (ps.map fun p => (p.1, aev env p.2)).length = (ps.map fun p => (p.1, a.eval p.2)).length ∧
    ∀ (i : Nat) p p', (ps.map fun p => (p.1, aev env p.2))[i]? = some p → (ps.map fun p => (p.1, a.eval p.2))[i]? = some p' → p.1 = p'.1 ∧ VRel ι p.2 p'.2 := by
  refine ⟨by simp, fun i p p' a b => ?_⟩
  rw [List.getElem?_map] at a b
  cases hq : ps[i]? with
  | none => rw [hq] at a; cases a
  | some q => rw [hq] at a b; cases a; cases b; exact ⟨rfl, h.ev _⟩

theorem aop_sound {cx : Cx} {ι : Inj} {m m' : Mem} {w : World} {N : Nat} {env : Env} {a : Act} {o : Oper} {p : POp} {v : Value} (h : Rel cx ι m w) (he : ERel ι N env a.tmps) (hc : compileP cx.P o.type o.op = some p) (hv : aop p (aev env) m = some (v, m')) :
    Sounds cx ι m w (execOp a.eval o) v m' := by
  obtain ⟨dst, op, type, pos, after, guard⟩ := o
  simp only at hc
  unfold compileP at hc
  unfold execOp
  split at hc
  · cases hc; cases hv; exact Sounds.val h (he.ev _)
  · cases hc; cases hv; exact Sounds.val h (he.ev _)
  · rename_i c x y
    cases hc
    simp only [aop] at hv
    cases hb : bool? (aev env c) with
    | none => rw [hb] at hv; cases hv
    | some b =>
      rw [hb] at hv
      cases hv
      have := bool?_some hb
      have hcv := he.ev c
      rw [this] at hcv
      have := hcv.of_bool
      refine ⟨ι, _, if b then a.eval x else a.eval y, w, ?_, .inl rfl, .refl h, ?_⟩
      · simp only
        rw [this, run_bind (a := b) (w1 := w) rfl]; rfl
      · cases b <;> exact he.ev _
  · rename_i t
    cases ht : ti cx.P t with
    | none => rw [ht] at hc; cases hc
    | some x => rw [ht] at hc; cases hc; exact Sounds.of (aNew_sound h (ti_spec ht) hv)
  · rename_i t x
    cases ht : ti cx.P t with
    | none => rw [ht] at hc; cases hc
    | some y => rw [ht] at hc; cases hc; exact Sounds.of (aBox_sound h (he.ev x) t (ti_spec ht).esz hv)
  · rename_i t parts
    cases hb : bi cx.P t with
    | none => rw [hb] at hc; cases hc
    | some b =>
      rw [hb] at hc; cases hc
      replace hv := only_some hv
      obtain ⟨hv, rfl⟩ := hv
      obtain ⟨p1, p2⟩ := prel he parts.toList
      have := aBuild_sound h hb p1 p2 hv
      refine Sounds.of (this.congr ?_)
      congr 2
      apply Array.ext'
      simp
  · rename_i t n parts
    split at hc
    · rename_i e hu
      cases ht : ti cx.P e with
      | none => rw [ht] at hc; cases hc
      | some x =>
        rw [ht] at hc; cases hc
        obtain ⟨p1, p2⟩ := prel he parts.toList
        refine Sounds.of ((aLit_sound h hu (ti_spec ht) p1 p2 hv).congr ?_)
        congr 2
        apply Array.ext'
        simp
    · cases hc
  · rename_i t x
    cases ht : ti cx.P t with
    | none => rw [ht] at hc; cases hc
    | some y => rw [ht] at hc; cases hc; exact Sounds.of (aLoad_sound h (he.ev x) (ti_spec ht) hv)
  · rename_i t x y
    cases ht : ti cx.P t with
    | none => rw [ht] at hc; cases hc
    | some z =>
      rw [ht] at hc; cases hc
      obtain ⟨w', r1, r2, rfl⟩ := aStore_sound h (he.ev x) (he.ev y) (ti_spec ht) hv
      exact ⟨ι, .skip, undef, w', by simp only; rw [run_bind r1]; rfl, .inr ⟨rfl, rfl⟩, r2, .unk _⟩
  · rename_i x
    cases hc
    replace hv := only_some hv
    obtain ⟨hv, rfl⟩ := hv
    unfold aCheck at hv
    have hr := he.ev x
    split at hv
    · rename_i q heq
      cases hv
      rw [heq] at hr
      obtain ⟨o', off, g, rfl, ho, e⟩ := hr.of_ptr
      refine ⟨ι, _, a.eval x, w, ?_, .inl rfl, .refl h, he.ev x⟩
      simp only [e]; rfl
    · rename_i f q1 q2 heq
      cases hv
      rw [heq] at hr
      obtain ⟨x', y', e, _⟩ := hr.of_func
      refine ⟨ι, _, a.eval x, w, ?_, .inl rfl, .refl h, he.ev x⟩
      simp only [e]; rfl
    · cases hv
  · rename_i op' t x y yt
    split at hc
    · cases hc
      replace hv := only_some hv
      obtain ⟨hv, rfl⟩ := hv
      have hx := he.ev x
      have hy := he.ev y
      have hbase : D.base (aev env x) = true ∧ D.base (aev env y) = true := by
        unfold aBin at hv
        split at hv
        · rename_i h1 h2; rw [h1, h2]; exact ⟨rfl, rfl⟩
        · rename_i h1 h2; rw [h1, h2]; exact ⟨rfl, rfl⟩
        · cases hv
      obtain ⟨r1, r2⟩ := aBin_sound (t := t) (x := x) (y := y) cx.P w hv
      rw [← hx.of_base hbase.1, ← hy.of_base hbase.2] at r1
      exact Sounds.of (Sound.pure h r1 (.base r2))
    · cases hc
      replace hv := only_some hv
      obtain ⟨hv, rfl⟩ := hv
      have hx := he.ev x
      have hy := he.ev y
      have hbase : D.base (aev env x) = true ∧ D.base (aev env y) = true := by
        unfold aBin at hv
        split at hv
        · rename_i h1 h2; rw [h1, h2]; exact ⟨rfl, rfl⟩
        · rename_i h1 h2; rw [h1, h2]; exact ⟨rfl, rfl⟩
        · cases hv
      obtain ⟨r1, r2⟩ := aBin_sound (t := t) (x := x) (y := y) cx.P w hv
      rw [← hx.of_base hbase.1, ← hy.of_base hbase.2] at r1
      exact Sounds.of (Sound.pure h r1 (.base r2))
    · rename_i hu
      split at hc
      · cases hc
        replace hv := only_some hv
        obtain ⟨hv, rfl⟩ := hv
        exact Sounds.of (aEqB_sound (neg := false) (x := x) (y := y) h (he.ev x) (he.ev y) hu hv)
      · cases hc
        replace hv := only_some hv
        obtain ⟨hv, rfl⟩ := hv
        exact Sounds.of (aEqB_sound (neg := true) (x := x) (y := y) h (he.ev x) (he.ev y) hu hv)
      · cases hc
    · rename_i fs hu
      split at hc
      · rename_i ks i hks hi
        split at hc
        · rename_i hce
          split at hc
          · cases hc
            replace hv := only_some hv
            obtain ⟨hv, rfl⟩ := hv
            exact Sounds.of (aEqS_sound (neg := false) (x := x) (y := y) h (he.ev x) (he.ev y) hu hks hce.1 hi hce.2 hv)
          · cases hc
            replace hv := only_some hv
            obtain ⟨hv, rfl⟩ := hv
            exact Sounds.of (aEqS_sound (neg := true) (x := x) (y := y) h (he.ev x) (he.ev y) hu hks hce.1 hi hce.2 hv)
          · cases hc
        · cases hc
      · cases hc
    · split at hc
      · rename_i k hk
        split at hc
        · rename_i hn
          have := isNilO_eq hn
          subst this
          split at hc
          · cases hc
            replace hv := only_some hv
            obtain ⟨hv, rfl⟩ := hv
            exact Sounds.of (aIsNil_sound (neg := false) (x := x) h (he.ev x) hk hv)
          · cases hc
            replace hv := only_some hv
            obtain ⟨hv, rfl⟩ := hv
            exact Sounds.of (aIsNil_sound (neg := true) (x := x) h (he.ev x) hk hv)
          · cases hc
        · split at hc
          · rename_i te hu
            split at hc
            · rename_i hi
              obtain ⟨j, hj⟩ := Option.isSome_iff_exists.1 hi
              split at hc
              · cases hc
                replace hv := only_some hv
                obtain ⟨hv, rfl⟩ := hv
                exact Sounds.of (aEqP_sound (neg := false) (a := x) (b := y) h (he.ev x) (he.ev y) hu hj hv)
              · cases hc
                replace hv := only_some hv
                obtain ⟨hv, rfl⟩ := hv
                exact Sounds.of (aEqP_sound (neg := true) (a := x) (b := y) h (he.ev x) (he.ev y) hu hj hv)
              · cases hc
            · cases hc
          · cases hc
      · cases hc
  · rename_i op' t x
    cases hc
    replace hv := only_some hv
    obtain ⟨hv, rfl⟩ := hv
    have hx := he.ev x
    have hbase : D.base (aev env x) = true := by
      unfold aUn at hv
      split at hv <;> first | (rename_i h1; rw [h1]; rfl) | cases hv
    obtain ⟨r1, r2⟩ := aUn_sound cx.P w hv
    rw [← hx.of_base hbase] at r1
    exact Sounds.of (Sound.pure h r1 (.base r2))
  · rename_i s d x
    have hx := he.ev x
    split at hc
    · rename_i k0 k hs hd
      cases hc
      replace hv := only_some hv
      obtain ⟨hv, rfl⟩ := hv
      unfold aInt at hv
      cases hi : int? (aev env x) with
      | none => rw [hi] at hv; cases hv
      | some q =>
        obtain ⟨k', n⟩ := q
        rw [hi] at hv
        cases hv
        rw [int?_some hi] at hx
        have e := hx.of_int
        refine Sounds.of (Sound.pure h ?_ (.int _ _))
        unfold convert
        rw [run_bind (run_underlying hs w), run_bind (run_underlying hd w), e]
        rfl
    · rename_i hs hd
      cases hc
      replace hv := only_some hv
      obtain ⟨hv, rfl⟩ := hv
      unfold aSame at hv
      cases hi : str? (aev env x) with
      | none => rw [hi] at hv; cases hv
      | some q =>
        rw [hi] at hv
        cases hv
        rw [str?_some hi] at hx
        have e := hx.of_string
        refine Sounds.of (Sound.pure h ?_ (.string _))
        unfold convert
        rw [run_bind (run_underlying hs w), run_bind (run_underlying hd w), e]
        rfl
    · rename_i e hs hd
      split at hc
      · rename_i hu
        cases hc
        exact Sounds.of (aBytes_sound h hx hs hd (byteT_eq hu) hv)
      · cases hc
    · rename_i e hs hd
      split at hc
      · rename_i hu
        cases hc
        replace hv := only_some hv
        obtain ⟨hv, rfl⟩ := hv
        have he8 : cx.P.underlying e = some (.int .u8) := by
          unfold isU8 at hu
          split at hu
          · assumption
          · cases hu
        exact Sounds.of (aStr_sound h hx hs he8 hd hv)
      · cases hc
    · rename_i e e' hs hd
      split at hc
      · rename_i hu
        obtain ⟨rfl, hu⟩ := hu
        cases hc
        replace hv := only_some hv
        obtain ⟨hv, rfl⟩ := hv
        have he8 : cx.P.underlying e = some (.int .u8) := by
          unfold isU8 at hu
          split at hu
          · assumption
          · cases hu
        exact Sounds.of (aMark_sound h hx hs he8 hv)
      · cases hc
    · rename_i t' hs hd
      split at hc
      · rename_i i hi
        split at hc
        · rename_i hz
          cases hc
          replace hv := only_some hv
          obtain ⟨hv, rfl⟩ := hv
          exact Sounds.of (aToUns_sound h hx hs hd hi hz hv)
        · cases hc
      · cases hc
    · rename_i u hs hd
      split at hc
      · rename_i i hi
        split at hc
        · rename_i hz
          cases hc
          replace hv := only_some hv
          obtain ⟨hv, rfl⟩ := hv
          exact Sounds.of (aFromUns_sound (n := u) h hx hs hd hi hz hv)
        · cases hc
      · cases hc
    · cases hc
  · rename_i t x
    split at hc
    · rename_i hp
      cases hc
      cases hv
      refine Sounds.of (Sound.pure h ?_ (.iface (he.ev x)))
      unfold plainT at hp
      unfold Instr.makeInterface
      cases hu : cx.P.underlying t with
      | none => rw [hu] at hp; cases hp
      | some d =>
        rw [hu] at hp
        rw [run_bind (run_underlying hu w)]
        cases d <;> first | rfl | cases hp
    · cases hc
  · rename_i fn f c
    cases hc
    cases hv
    refine Sounds.of (Sound.pure (v' := .func fn (f.map a.eval) (c.map a.eval)) h rfl ?_)
    have h1 := lrel he f.toList
    have h2 := lrel he c.toList
    refine .func (by simp) (fun i u v p q => h1.2 i u v (by simpa using p) (by simpa using q)) (by simp) (fun i u v p q => h2.2 i u v (by simpa using p) (by simpa using q))
  · rename_i t l c
    split at hc
    · rename_i e hu
      cases ht : ti cx.P e with
      | none => rw [ht] at hc; cases hc
      | some x => rw [ht] at hc; cases hc; exact Sounds.of (aMake_sound h (he.ev l) (he.ev c) hu (ti_spec ht) hv)
    · cases hc
  · rename_i t x lo hi mx
    split at hc
    · rename_i hu
      split at hc
      · rename_i hm
        cases hc
        replace hv := only_some hv
        obtain ⟨hv, rfl⟩ := hv
        obtain rfl : mx = none := by simpa using hm
        exact Sounds.of (aCutStr_sound h (he.ev x) (orel he lo) (orel he hi) hu hv)
      · cases hc
    · rename_i e hu
      split at hc
      · rename_i hm
        obtain rfl : mx = none := by simpa using hm
        cases ht : ti cx.P e with
        | none => rw [ht] at hc; cases hc
        | some y =>
          rw [ht] at hc; cases hc
          replace hv := only_some hv
          obtain ⟨hv, rfl⟩ := hv
          exact Sounds.of (aCut_sound h (he.ev x) (orel he lo) (orel he hi) hu (ti_spec ht) hv)
      · rename_i hm
        split at hc
        · rename_i hh
          cases ht : ti cx.P e with
          | none => rw [ht] at hc; cases hc
          | some y =>
            rw [ht] at hc; cases hc
            replace hv := only_some hv
            obtain ⟨hv, rfl⟩ := hv
            exact Sounds.of (aCut3_sound h (he.ev x) (orel he lo) (orel he hi) (orel he mx) (by cases mx <;> simp_all) (by cases hi <;> simp_all) hu (ti_spec ht) hv)
        · cases hc
    · rename_i n e hu
      split at hc
      · rename_i hm
        obtain rfl : mx = none := by simpa using hm
        cases ht : ti cx.P e with
        | none => rw [ht] at hc; cases hc
        | some y =>
          rw [ht] at hc; cases hc
          replace hv := only_some hv
          obtain ⟨hv, rfl⟩ := hv
          exact Sounds.of (aCutArr_sound h (he.ev x) (orel he lo) (orel he hi) hu (ti_spec ht) hv)
      · cases hc
    · cases hc
  · rename_i t x j
    split at hc
    · rename_i fs hu
      cases hf : fs[j]? with
      | none => rw [hf] at hc; cases hc
      | some f =>
        rw [hf] at hc
        simp only [Option.bind_some] at hc
        cases ht : ti cx.P f.type with
        | none => rw [ht] at hc; cases hc
        | some y =>
          rw [ht] at hc
          simp only [Option.bind_some] at hc
          split at hc
          · rename_i hz
            cases hc
            replace hv := only_some hv
            obtain ⟨hv, rfl⟩ := hv
            exact Sounds.of (aFieldAddr_sound h (he.ev x) hu hf (ti_spec ht) hz hv)
          · cases hc
    · cases hc
  · rename_i t x j
    split at hc
    · rename_i fs hu
      cases hf : fs[j]? with
      | none => rw [hf] at hc; cases hc
      | some f =>
        rw [hf] at hc
        simp only [Option.bind_some] at hc
        cases ht : ti cx.P f.type with
        | none => rw [ht] at hc; cases hc
        | some y =>
          rw [ht] at hc
          cases hc
          replace hv := only_some hv
          obtain ⟨hv, rfl⟩ := hv
          exact Sounds.of (aField_sound h (he.ev x) hu hf (ti_spec ht) hv)
    · cases hc
  · rename_i t x i
    split at hc
    · rename_i e hu
      cases ht : ti cx.P e with
      | none => rw [ht] at hc; cases hc
      | some y =>
        rw [ht] at hc; cases hc
        replace hv := only_some hv
        obtain ⟨hv, rfl⟩ := hv
        exact Sounds.of (aIdx_sound h (he.ev x) (he.ev i) hu (ti_spec ht) hv)
    · rename_i n e hu
      cases ht : ti cx.P e with
      | none => rw [ht] at hc; cases hc
      | some y =>
        rw [ht] at hc; cases hc
        replace hv := only_some hv
        obtain ⟨hv, rfl⟩ := hv
        exact Sounds.of (aIdxArr_sound h (he.ev x) (he.ev i) hu (ti_spec ht) hv)
    · cases hc
  · rename_i t x i
    split at hc
    · rename_i hu
      cases hc
      replace hv := only_some hv
      obtain ⟨hv, rfl⟩ := hv
      exact Sounds.of (aByte_sound h (he.ev x) (he.ev i) hu hv)
    · rename_i n e hu
      cases ht : ti cx.P e with
      | none => rw [ht] at hc; cases hc
      | some y =>
        rw [ht] at hc; cases hc
        replace hv := only_some hv
        obtain ⟨hv, rfl⟩ := hv
        exact Sounds.of (aElem_sound h (he.ev x) (he.ev i) hu (ti_spec ht) hv)
    · cases hc
  · rename_i x i
    cases hc
    replace hv := only_some hv
    obtain ⟨hv, rfl⟩ := hv
    exact Sounds.of (aExtract_sound h (he.ev x) hv)
  · rename_i x xt t ok
    split at hc
    · rename_i i hi
      split at hc
      · rename_i z hz
        split at hc
        · rename_i hcc
          simp only [Bool.and_eq_true] at hcc
          cases hc
          replace hv := only_some hv
          obtain ⟨hv, rfl⟩ := hv
          exact Sounds.of (aAssert_sound h (he.ev x) hi hz hcc.1 hcc.2 hv)
        · cases hc
      · cases hc
    · cases hc
  · rename_i as ts
    split at hc
    · rename_i x t h1 h2
      have e1 : as = #[x] := by rw [← Array.toArray_toList (xs := as), h1]
      have e2 : ts = #[t] := by rw [← Array.toArray_toList (xs := ts), h2]
      subst e1 e2
      split at hc
      · rename_i hu
        cases hc
        replace hv := only_some hv
        obtain ⟨hv, rfl⟩ := hv
        refine Sounds.of ((aLenS_sound (ty := type) h (he.ev x) hu hv).congr ?_)
        show Sem.run _ (Builtin.len_ _ _ (Array.map a.eval #[x])) _ = _
        rw [List.map_toArray]; rfl
      · rename_i e hu
        cases hc
        replace hv := only_some hv
        obtain ⟨hv, rfl⟩ := hv
        refine Sounds.of ((aLenL_sound (ty := type) h (he.ev x) hu hv).congr ?_)
        show Sem.run _ (Builtin.len_ _ _ (Array.map a.eval #[x])) _ = _
        rw [List.map_toArray]; rfl
      · cases hc
    · cases hc
  · rename_i as ts
    split at hc
    · rename_i x y t u h1 h2
      have e1 : as = #[x, y] := by rw [← Array.toArray_toList (xs := as), h1]
      have e2 : ts = #[t, u] := by rw [← Array.toArray_toList (xs := ts), h2]
      subst e1 e2
      split at hc
      · rename_i e hu1 hu2
        cases ht : ti cx.P e with
        | none => rw [ht] at hc; cases hc
        | some z =>
          rw [ht] at hc; cases hc
          refine Sounds.of ((aApp_sound (ty := type) (tx := u) (str := true) h (he.ev x) (he.ev y) hu1 (ti_spec ht) (fun _ => hu2) (fun h => by cases h) hv).congr ?_)
          show Sem.run _ (Builtin.append_ _ _ (Array.map a.eval #[x, y])) _ = _
          rw [List.map_toArray]; rfl
      · rename_i e e' hu1 hu2
        cases ht : ti cx.P e with
        | none => rw [ht] at hc; cases hc
        | some z =>
          rw [ht] at hc; cases hc
          refine Sounds.of ((aApp_sound (ty := type) (tx := u) (str := false) h (he.ev x) (he.ev y) hu1 (ti_spec ht) (fun h => by cases h) (fun _ => ⟨_, hu2⟩) hv).congr ?_)
          show Sem.run _ (Builtin.append_ _ _ (Array.map a.eval #[x, y])) _ = _
          rw [List.map_toArray]; rfl
      · cases hc
    · cases hc
  · rename_i as ts
    cases hc
    replace hv := only_some hv
    obtain ⟨hv, rfl⟩ := hv
    have := aMax_sound h (lrel he as.toList) ts type hv
    simp only [if_true] at this
    refine Sounds.of (this.congr ?_)
    congr 2
    apply Array.ext'
    simp
  · rename_i as ts
    cases hc
    replace hv := only_some hv
    obtain ⟨hv, rfl⟩ := hv
    have := aMax_sound h (lrel he as.toList) ts type hv
    simp only [Bool.false_eq_true, if_false] at this
    refine Sounds.of (this.congr ?_)
    congr 2
    apply Array.ext'
    simp
  · rename_i as ts
    split at hc
    · rename_i x h1
      have e1 : as = #[x] := by rw [← Array.toArray_toList (xs := as), h1]
      subst e1
      cases hc
      replace hv := only_some hv
      obtain ⟨hv, rfl⟩ := hv
      refine Sounds.of ((aSData_sound (ts := ts) (ty := type) h (he.ev x) hv).congr ?_)
      show Sem.run _ (Builtin.unsafeSliceData_ _ _ (Array.map a.eval #[x])) _ = _
      rw [List.map_toArray]; rfl
    · cases hc
  · rename_i as ts
    split at hc
    · rename_i x n t u h1 h2
      have e1 : as = #[x, n] := by rw [← Array.toArray_toList (xs := as), h1]
      have e2 : ts = #[t, u] := by rw [← Array.toArray_toList (xs := ts), h2]
      subst e1 e2
      split at hc
      · rename_i e hu
        split at hc
        · rename_i h8
          cases hc
          have he8 : cx.P.underlying e = some (.int .u8) := by
            unfold isU8 at h8
            split at h8
            · assumption
            · cases h8
          refine Sounds.of ((aUStr_sound (it := u) (ty := type) h (he.ev x) (he.ev n) hu he8 hv).congr ?_)
          show Sem.run _ (Builtin.unsafeString_ _ _ (Array.map a.eval #[x, n])) _ = _
          rw [List.map_toArray]; rfl
        · cases hc
      · cases hc
    · cases hc
  · cases hc
end Go.Proofs.Ytjojfpmelhaknaa.D
