/-
  The second reading: how its values stand to those of the first.
-/
import Derived.Test.YtjojfpmelhaknaaV1
namespace Go.Proofs.Ytjojfpmelhaknaa.D
open Go.RowKit
set_option linter.unusedVariables false
set_option linter.unusedSimpArgs false

abbrev Pin := Nat → Option Row
abbrev Im := Nat → Option Nat
def Im.le (ι ι' : Im) : Prop := ∀ o q, ι o = some q → ι' o = some q
def Pin.le (Φ Φ' : Pin) : Prop := ∀ q r, Φ q = some r → Φ' q = some r
theorem Im.le.refl (ι : Im) : Im.le ι ι := fun _ _ h => h
theorem Im.le.trans {a b c : Im} (h : Im.le a b) (k : Im.le b c) : Im.le a c := fun o q x => k o q (h o q x)
theorem Pin.le.refl (Φ : Pin) : Pin.le Φ Φ := fun _ _ h => h
theorem Pin.le.trans {a b c : Pin} (h : Pin.le a b) (k : Pin.le b c) : Pin.le a c := fun o q x => k o q (h o q x)

/-- Values without live places. -/
inductive FR (Φ : Pin) : Value → Value → Prop
  | unk (d : Value) : FR Φ (.tuple #[]) d
  | base {v : Value} (h : base v = true) : FR Φ v v
  | fz {v : Value} {q off c n sz : Nat} {tt : Bool} {els : List (List Value)} {r : Row} (hv : fz? v = some (sz, tt, els)) (hq : Φ q = some r) (hn : n = els.length) (hs : unit r.sz = sz) (ht : tt = true → c = n)
      (hl : ∀ e ∈ els, e.length = sz) (hb : off + n * sz ≤ r.cells.length)
      (hel : ∀ (i : Nat) e (j : Nat) x y, els[i]? = some e → e[j]? = some x → r.cells[off + i * sz + j]? = some y → FR Φ x y) : FR Φ v (.slice (some ⟨q, off, none⟩) n c)
  | fp {v : Value} {q b off : Nat} {cells : List Value} {r : Row} (hv : fp? v = some (cells, off)) (hq : Φ q = some r) (hb : b + cells.length ≤ r.cells.length)
      (hel : ∀ (i : Nat) x y, cells[i]? = some x → r.cells[b + i]? = some y → FR Φ x y) : FR Φ v (.pointer (some ⟨q, b + off, none⟩))
  | func {fn : Fn} {x y x' y' : Array Value} (h1 : x.size = x'.size) (h2 : ∀ (i : Nat) u v, x[i]? = some u → x'[i]? = some v → FR Φ u v) (h3 : y.size = y'.size) (h4 : ∀ (i : Nat) u v, y[i]? = some u → y'[i]? = some v → FR Φ u v) :
      FR Φ (.func fn x y) (.func fn x' y')
  | iface {t : TypeId} {u v : Value} (ht : tagged t = false) (h : FR Φ u v) : FR Φ (.iface t u) (.iface t v)
  | agg {x x' : Array Value} (h1 : x.size = x'.size) (h2 : ∀ (i : Nat) u v, x[i]? = some u → x'[i]? = some v → FR Φ u v) : FR Φ (.agg x) (.agg x')
  | tuple {x x' : Array Value} (h1 : x.size = x'.size) (h2 : ∀ (i : Nat) u v, x[i]? = some u → x'[i]? = some v → FR Φ u v) : FR Φ (.tuple x) (.tuple x')
inductive R (ι : Im) (Φ : Pin) : Value → Value → Prop
  | unk (d : Value) : R ι Φ (.tuple #[]) d
  | gone : R ι Φ gone gone
  | base {v : Value} (h : base v = true) : R ι Φ v v
  | fro {v d : Value} (ht : isTag v = true) (h : FR Φ v d) : R ι Φ v d
  | ptr {o off q : Nat} (h : ι o = some q) : R ι Φ (.pointer (some ⟨o, off, none⟩)) (.pointer (some ⟨q, off, none⟩))
  | slice {o off n c q : Nat} (h : ι o = some q) : R ι Φ (.slice (some ⟨o, off, none⟩) n c) (.slice (some ⟨q, off, none⟩) n c)
  | func {fn : Fn} {x y x' y' : Array Value} (h1 : x.size = x'.size) (h2 : ∀ (i : Nat) u v, x[i]? = some u → x'[i]? = some v → R ι Φ u v) (h3 : y.size = y'.size) (h4 : ∀ (i : Nat) u v, y[i]? = some u → y'[i]? = some v → R ι Φ u v) :
      R ι Φ (.func fn x y) (.func fn x' y')
  | iface {t : TypeId} {u v : Value} (ht : tagged t = false) (h : R ι Φ u v) : R ι Φ (.iface t u) (.iface t v)
  | agg {x x' : Array Value} (h1 : x.size = x'.size) (h2 : ∀ (i : Nat) u v, x[i]? = some u → x'[i]? = some v → R ι Φ u v) : R ι Φ (.agg x) (.agg x')
  | tuple {x x' : Array Value} (h1 : x.size = x'.size) (h2 : ∀ (i : Nat) u v, x[i]? = some u → x'[i]? = some v → R ι Φ u v) : R ι Φ (.tuple x) (.tuple x')
theorem isTag_fz {v : Value} {x : Nat × Bool × List (List Value)} (h : fz? v = some x) : isTag v = true := by obtain ⟨u, rfl⟩ := fz?_iface h; rfl
theorem isTag_fp {v : Value} {x : List Value × Nat} (h : fp? v = some x) : isTag v = true := by obtain ⟨u, rfl⟩ := fp?_iface h; rfl
theorem FR.mono {Φ Φ' : Pin} (hl : Pin.le Φ Φ') {v d : Value} (h : FR Φ v d) : FR Φ' v d := by
  induction h with
  | unk d => exact .unk d
  | base h => exact .base h
  | fz hv hq hn hs ht hl' hb _ ih => exact .fz hv (hl _ _ hq) hn hs ht hl' hb ih
  | fp hv hq hb _ ih => exact .fp hv (hl _ _ hq) hb ih
  | func h1 _ h3 _ i2 i4 => exact .func h1 i2 h3 i4
  | iface ht _ ih => exact .iface ht ih
  | agg h1 _ ih => exact .agg h1 ih
  | tuple h1 _ ih => exact .tuple h1 ih
theorem R.mono {ι ι' : Im} {Φ Φ' : Pin} (hi : Im.le ι ι') (hl : Pin.le Φ Φ') {v d : Value} (h : R ι Φ v d) : R ι' Φ' v d := by
  induction h with
  | unk d => exact .unk d
  | gone => exact .gone
  | base h => exact .base h
  | fro ht h => exact .fro ht (h.mono hl)
  | ptr h => exact .ptr (hi _ _ h)
  | slice h => exact .slice (hi _ _ h)
  | func h1 _ h3 _ i2 i4 => exact .func h1 i2 h3 i4
  | iface ht _ ih => exact .iface ht ih
  | agg h1 _ ih => exact .agg h1 ih
  | tuple h1 _ ih => exact .tuple h1 ih
theorem FR.toR {ι : Im} {Φ : Pin} {v d : Value} (h : FR Φ v d) : R ι Φ v d := by
  induction h with
  | unk d => exact .unk d
  | base h => exact .base h
  | fz hv hq hn hs ht hl' hb hel _ => exact .fro (isTag_fz hv) (.fz hv hq hn hs ht hl' hb hel)
  | fp hv hq hb hel _ => exact .fro (isTag_fp hv) (.fp hv hq hb hel)
  | func h1 _ h3 _ i2 i4 => exact .func h1 i2 h3 i4
  | iface ht _ ih => exact .iface ht ih
  | agg h1 _ ih => exact .agg h1 ih
  | tuple h1 _ ih => exact .tuple h1 ih
section
variable {ι : Im} {Φ : Pin}
theorem isTag_base {v : Value} (h : isTag v = true) : D.base v = false := by cases v <;> first | rfl | simp [isTag] at h
theorem R.of_base {u d : Value} (hb : D.base u = true) (h : R ι Φ u d) : d = u := by
  cases h <;> first | rfl | (simp [D.base] at hb; done) | skip
  rename_i ht _
  rw [isTag_base ht] at hb; cases hb
theorem R.of_int {k : IntKind} {n : Int} {d : Value} (h : R ι Φ (.int k n) d) : d = .int k n := h.of_base rfl
theorem R.of_bool {b : Bool} {d : Value} (h : R ι Φ (.bool b) d) : d = .bool b := h.of_base rfl
theorem R.of_string {b : ByteArray} {d : Value} (h : R ι Φ (.string b) d) : d = .string b := h.of_base rfl
theorem R.of_ptr {a : Addr} {d : Value} (h : R ι Φ (.pointer (some a)) d) : ∃ o off q, a = ⟨o, off, none⟩ ∧ ι o = some q ∧ d = .pointer (some ⟨q, off, none⟩) := by
  cases h with
  | base h => simp [D.base] at h
  | fro ht _ => simp [isTag] at ht
  | ptr h => exact ⟨_, _, _, rfl, h, rfl⟩
theorem R.of_slice {a : Addr} {n c : Nat} {d : Value} (h : R ι Φ (.slice (some a) n c) d) : ∃ o off q, a = ⟨o, off, none⟩ ∧ ι o = some q ∧ d = .slice (some ⟨q, off, none⟩) n c := by
  cases h with
  | base h => simp [D.base] at h
  | fro ht _ => simp [isTag] at ht
  | slice h => exact ⟨_, _, _, rfl, h, rfl⟩
theorem R.of_agg {x : Array Value} {d : Value} (h : R ι Φ (.agg x) d) : ∃ x', d = .agg x' ∧ x.size = x'.size ∧ ∀ (i : Nat) u v, x[i]? = some u → x'[i]? = some v → R ι Φ u v := by
  cases h with
  | base h => simp [D.base] at h
  | fro ht _ => simp [isTag] at ht
  | agg h1 h2 => exact ⟨_, rfl, h1, h2⟩
theorem R.of_tuple {x : Array Value} {d : Value} (hx : x ≠ #[]) (h : R ι Φ (.tuple x) d) : ∃ x', d = .tuple x' ∧ x.size = x'.size ∧ ∀ (i : Nat) u v, x[i]? = some u → x'[i]? = some v → R ι Φ u v := by
  cases h with
  | unk => exact absurd rfl hx
  | base h => simp [D.base] at h
  | fro ht _ => simp [isTag] at ht
  | tuple h1 h2 => exact ⟨_, rfl, h1, h2⟩
theorem R.of_func {fn : Fn} {x y : Array Value} {d : Value} (h : R ι Φ (.func fn x y) d) : ∃ x' y', d = .func fn x' y' ∧ x.size = x'.size ∧ (∀ (i : Nat) u v, x[i]? = some u → x'[i]? = some v → R ι Φ u v) ∧ y.size = y'.size ∧ ∀ (i : Nat) u v, y[i]? = some u → y'[i]? = some v → R ι Φ u v := by
  cases h with
  | base h => simp [D.base] at h
  | fro ht _ => simp [isTag] at ht
  | func h1 h2 h3 h4 => exact ⟨_, _, rfl, h1, h2, h3, h4⟩
theorem R.of_iface {t : TypeId} {u d : Value} (ht : tagged t = false) (h : R ι Φ (.iface t u) d) : ∃ u', d = .iface t u' ∧ R ι Φ u u' := by
  cases h with
  | base h => simp [D.base] at h
  | fro h _ => simp [isTag, ht] at h
  | iface _ h => exact ⟨_, rfl, h⟩
theorem R.tag {v d : Value} (ht : isTag v = true) (h : R ι Φ v d) : FR Φ v d := by
  cases h <;> first | assumption | (simp [isTag] at ht; done) | skip
  · rename_i hb; rw [isTag_base ht] at hb; cases hb
  · rename_i h1 _; simp [isTag, h1] at ht
theorem R.of_fz {v d : Value} {sz : Nat} {tt : Bool} {els : List (List Value)} (hv : fz? v = some (sz, tt, els)) (h : R ι Φ v d) : ∃ q off c r, d = .slice (some ⟨q, off, none⟩) els.length c ∧ Φ q = some r ∧ unit r.sz = sz ∧ (tt = true → c = els.length) ∧
    (∀ e ∈ els, e.length = sz) ∧ off + els.length * sz ≤ r.cells.length ∧ ∀ (i : Nat) e (j : Nat) x y, els[i]? = some e → e[j]? = some x → r.cells[off + i * sz + j]? = some y → FR Φ x y := by
  have h := h.tag (isTag_fz hv)
  cases h with
  | unk => simp [fz?] at hv
  | base hb => rw [isTag_base (isTag_fz hv)] at hb; cases hb
  | fz hv' hq hn hs ht hl hb hel =>
    rw [hv] at hv'
    cases hv'
    subst hn
    exact ⟨_, _, _, _, rfl, hq, hs, ht, hl, hb, hel⟩
  | fp hv' => obtain ⟨u, rfl⟩ := fp?_iface hv'; obtain ⟨u', e⟩ := fz?_iface hv; exact absurd e (by simp [FZS, FZP])
  | iface ht => obtain ⟨u', e⟩ := fz?_iface hv; cases e; simp [tagged, FZS, FZP] at ht
  | func => simp [fz?] at hv
  | agg => simp [fz?] at hv
  | tuple => simp [fz?] at hv
theorem R.of_fp {v d : Value} {off : Nat} {cells : List Value} (hv : fp? v = some (cells, off)) (h : R ι Φ v d) : ∃ q b r, d = .pointer (some ⟨q, b + off, none⟩) ∧ Φ q = some r ∧ b + cells.length ≤ r.cells.length ∧
    ∀ (i : Nat) x y, cells[i]? = some x → r.cells[b + i]? = some y → FR Φ x y := by
  have h := h.tag (isTag_fp hv)
  cases h with
  | unk => simp [fp?] at hv
  | base hb => rw [isTag_base (isTag_fp hv)] at hb; cases hb
  | fp hv' hq hb hel =>
    rw [hv] at hv'
    cases hv'
    exact ⟨_, _, _, rfl, hq, hb, hel⟩
  | fz hv' => obtain ⟨u, rfl⟩ := fz?_iface hv'; obtain ⟨u', e⟩ := fp?_iface hv; exact absurd e (by simp [FZS, FZP])
  | iface ht => obtain ⟨u', e⟩ := fp?_iface hv; cases e; simp [tagged, FZS, FZP] at ht
  | func => simp [fp?] at hv
  | agg => simp [fp?] at hv
  | tuple => simp [fp?] at hv

/-! ### Lists -/
def LR (ι : Im) (Φ : Pin) (l l' : List Value) : Prop := l.length = l'.length ∧ ∀ (i : Nat) u v, l[i]? = some u → l'[i]? = some v → R ι Φ u v
theorem LR.mono {ι' : Im} {Φ' : Pin} (hi : Im.le ι ι') (hl : Pin.le Φ Φ') {l l' : List Value} (h : LR ι Φ l l') : LR ι' Φ' l l' := ⟨h.1, fun i u v a b => (h.2 i u v a b).mono hi hl⟩
theorem LR.nil : LR ι Φ [] [] := ⟨rfl, fun i u v h _ => by simp at h⟩
theorem LR.cons {u v : Value} {l l' : List Value} (h : R ι Φ u v) (t : LR ι Φ l l') : LR ι Φ (u :: l) (v :: l') :=
  ⟨by simp [t.1], fun i x y a b => by
    cases i with
    | zero => simp at a b; subst a b; exact h
    | succ i => simp at a b; exact t.2 i x y a b⟩
theorem LR.cons_inv {u : Value} {l l' : List Value} (h : LR ι Φ (u :: l) l') : ∃ v t, l' = v :: t ∧ R ι Φ u v ∧ LR ι Φ l t := by
  cases l' with
  | nil => simp [LR] at h
  | cons v t => exact ⟨v, t, rfl, h.2 0 u v rfl rfl, by simpa using h.1, fun i x y a b => h.2 (i + 1) x y (by simpa using a) (by simpa using b)⟩
theorem LR.nil_inv {l : List Value} (h : LR ι Φ [] l) : l = [] := List.eq_nil_of_length_eq_zero h.1.symm
theorem LR.append {a a' b b' : List Value} (h : LR ι Φ a a') (k : LR ι Φ b b') : LR ι Φ (a ++ b) (a' ++ b') := by
  induction a generalizing a' with
  | nil => rw [LR.nil_inv h]; exact k
  | cons u l ih => obtain ⟨v, t, rfl, hv, ht⟩ := h.cons_inv; exact LR.cons hv (ih ht)
theorem LR.get {l l' : List Value} (h : LR ι Φ l l') {i : Nat} {u : Value} (hu : l[i]? = some u) : ∃ v, l'[i]? = some v ∧ R ι Φ u v := by
  have hi : i < l.length := (List.getElem?_eq_some_iff.1 hu).1
  have hi' : i < l'.length := h.1 ▸ hi
  exact ⟨l'[i], List.getElem?_eq_getElem hi', h.2 i u _ hu (List.getElem?_eq_getElem hi')⟩
theorem LR.take {l l' : List Value} (h : LR ι Φ l l') (n : Nat) : LR ι Φ (l.take n) (l'.take n) :=
  ⟨by simp [h.1], fun i u v a b => by
    rw [List.getElem?_take] at a b
    split at a
    · rw [if_pos ‹_›] at b; exact h.2 i u v a b
    · cases a⟩
theorem LR.drop {l l' : List Value} (h : LR ι Φ l l') (n : Nat) : LR ι Φ (l.drop n) (l'.drop n) :=
  ⟨by simp [h.1], fun i u v a b => by
    rw [List.getElem?_drop] at a b
    exact h.2 _ u v a b⟩
theorem LR.base {l : List Value} (h : ∀ v ∈ l, D.base v = true) : LR ι Φ l l :=
  ⟨rfl, fun i u v a b => by
    rw [a] at b; cases b
    exact .base (h u (List.mem_of_getElem? a))⟩
theorem LR.bases {z : List Value} (h : z.all D.base = true) : LR ι Φ z z := .base (by simpa using h)
theorem lr_of_arr {x x' : Array Value} (h1 : x.size = x'.size) (h2 : ∀ (i : Nat) u v, x[i]? = some u → x'[i]? = some v → R ι Φ u v) : LR ι Φ x.toList x'.toList :=
  ⟨by simpa using h1, fun i u v a b => h2 i u v (by simpa using a) (by simpa using b)⟩
theorem R.agg_l {l l' : List Value} (h : LR ι Φ l l') : R ι Φ (.agg l.toArray) (.agg l'.toArray) :=
  .agg (by simpa using h.1) (fun i u v a b => h.2 i u v (by simpa using a) (by simpa using b))
theorem R.tuple_l {l l' : List Value} (h : LR ι Φ l l') : R ι Φ (.tuple l.toArray) (.tuple l'.toArray) :=
  .tuple (by simpa using h.1) (fun i u v a b => h.2 i u v (by simpa using a) (by simpa using b))
theorem R.known {u v : Value} (hk : known u = true) (h : R ι Φ u v) : D.known v = true := by
  cases h with
  | base h => exact hk
  | fro ht h =>
    cases h <;> first | rfl | exact hk | simp_all [D.known]
  | _ => first | rfl | simp [D.known] at hk
theorem R.cells {u v : Value} (hk : D.known u = true) (h : R ι Φ u v) : LR ι Φ u.cells.toList v.cells.toList := by
  cases h with
  | unk => simp [D.known] at hk
  | gone => simp [D.known] at hk
  | tuple => simp [D.known] at hk
  | base h => exact (by cases u <;> first | exact LR.cons (.base h) .nil | simp [D.base] at h)
  | fro ht h =>
    have hr : R ι Φ u v := .fro ht h
    cases h with
    | unk => simp [isTag] at ht
    | base h => rw [isTag_base ht] at h; cases h
    | fz hv => obtain ⟨w, rfl⟩ := fz?_iface hv; exact LR.cons hr .nil
    | fp hv => obtain ⟨w, rfl⟩ := fp?_iface hv; exact LR.cons hr .nil
    | func => simp [isTag] at ht
    | agg => simp [isTag] at ht
    | tuple => simp [isTag] at ht
    | iface h1 => simp [isTag, h1] at ht
  | ptr h => exact LR.cons (.ptr h) .nil
  | slice h => exact LR.cons (.slice h) .nil
  | func h1 h2 h3 h4 => exact LR.cons (.func h1 h2 h3 h4) .nil
  | iface ht h => exact LR.cons (.iface ht h) .nil
  | agg h1 h2 => exact lr_of_arr h1 h2
theorem constOk_R {v : Value} (h : constOk v = true) : R ι Φ v v := by
  cases v with
  | agg cs =>
    simp only [constOk, Array.all_eq_true] at h
    refine .agg rfl (fun i u v a b => ?_)
    rw [a] at b; cases b
    obtain ⟨hi, rfl⟩ := Array.getElem?_eq_some_iff.1 a
    exact .base (h i hi)
  | _ => exact .base h
/-- What the small readings of a value answer. -/
theorem R.int? {u d : Value} {p : IntKind × Int} (h : R ι Φ u d) (hp : D.int? u = some p) : D.int? d = some p := by obtain ⟨k, n⟩ := p; have := int?_some hp; subst this; rw [h.of_int]; rfl
theorem R.bool? {u d : Value} {p : Bool} (h : R ι Φ u d) (hp : D.bool? u = some p) : D.bool? d = some p := by have := bool?_some hp; subst this; rw [h.of_bool]; rfl
theorem R.str? {u d : Value} {p : ByteArray} (h : R ι Φ u d) (hp : D.str? u = some p) : D.str? d = some p := by have := str?_some hp; subst this; rw [h.of_string]; rfl
theorem R.agg? {u d : Value} {l : List Value} (h : R ι Φ u d) (hp : D.agg? u = some l) : ∃ l', D.agg? d = some l' ∧ LR ι Φ l l' := by
  have := agg?_some hp; subst this
  obtain ⟨x', rfl, h1, h2⟩ := h.of_agg
  exact ⟨x'.toList, rfl, by simpa using lr_of_arr h1 h2⟩
theorem R.tup? {u d : Value} {l : List Value} (h : R ι Φ u d) (hp : D.tup? u = some l) : ∃ l', D.tup? d = some l' ∧ LR ι Φ l l' := by
  obtain ⟨rfl, hn⟩ := tup?_some hp
  obtain ⟨x', rfl, h1, h2⟩ := h.of_tuple (by simpa using hn)
  refine ⟨x'.toList, ?_, by simpa using lr_of_arr h1 h2⟩
  unfold D.tup?
  simp only
  rw [if_neg]
  rw [← h1]
  simpa using hn
theorem R.addr? {u d : Value} {o off : Nat} (h : R ι Φ u d) (hp : D.addr? u = some (o, off)) : ∃ q, ι o = some q ∧ D.addr? d = some (q, off) ∧ d = .pointer (some ⟨q, off, none⟩) := by
  have := addr?_some hp; subst this
  obtain ⟨o', off', q, e, ho, rfl⟩ := h.of_ptr
  cases e
  exact ⟨q, ho, rfl, rfl⟩
theorem R.slc?_nil {u d : Value} (h : R ι Φ u d) (hp : D.slc? u = some .nil) : D.slc? d = some .nil := by
  have := D.slc?_nil hp; subst this; rw [h.of_base rfl]; rfl
theorem R.slc?_at {u d : Value} {o off n c : Nat} (h : R ι Φ u d) (hp : D.slc? u = some (.at_ o off n c)) : ∃ q, ι o = some q ∧ D.slc? d = some (.at_ q off n c) ∧ d = .slice (some ⟨q, off, none⟩) n c := by
  have := D.slc?_at hp; subst this
  obtain ⟨o', off', q, e, ho, rfl⟩ := h.of_slice
  cases e
  exact ⟨q, ho, rfl, rfl⟩
theorem R.fn? {u d : Value} {f : FuncId} {x y : List Value} (h : R ι Φ u d) (hp : D.fn? u = some (f, x, y)) : ∃ x' y', D.fn? d = some (f, x', y') ∧ LR ι Φ x x' ∧ LR ι Φ y y' := by
  unfold D.fn? at hp
  split at hp
  · cases hp
    obtain ⟨x', y', rfl, h1, h2, h3, h4⟩ := h.of_func
    exact ⟨_, _, rfl, lr_of_arr h1 h2, lr_of_arr h3 h4⟩
  · cases hp
theorem u8s_lr {l l' : List Value} {ns : List Int} (h : LR ι Φ l l') (hu : u8s l = some ns) : u8s l' = some ns := by
  have e := u8s_eq hu
  subst e
  have : l' = ns.map (Value.int .u8) := by
    apply List.ext_getElem?
    intro i
    cases hi : (ns.map (Value.int .u8))[i]? with
    | none =>
      have := List.getElem?_eq_none_iff.1 hi
      exact List.getElem?_eq_none_iff.2 (by rw [← h.1]; exact this)
    | some u =>
      obtain ⟨v, a, b⟩ := h.get hi
      have hm := List.mem_of_getElem? hi
      simp only [List.mem_map] at hm
      obtain ⟨n, _, rfl⟩ := hm
      rw [a, b.of_int]
  rw [this]; exact hu
theorem FR.lr {l l' : List Value} (hn : l.length = l'.length) (h : ∀ (i : Nat) u v, l[i]? = some u → l'[i]? = some v → FR Φ u v) : LR ι Φ l l' := ⟨hn, fun i u v a b => (h i u v a b).toR⟩
end

/-! ### Memories -/
structure MM (ι : Im) (Φ : Pin) (m dm : Mem) : Prop where
  lonext : dm.lo ≤ dm.next
  ronext : dm.ro ≤ dm.next
  dom : ∀ o q, ι o = some q → o < m.next ∧ q < dm.next
  row : ∀ o r, m.get o = some r → ∃ q dr, ι o = some q ∧ dm.get q = some dr ∧ r.sz = dr.sz ∧ LR ι Φ r.cells dr.cells ∧ dm.ro ≤ q ∧ (m.lo ≤ o → dm.lo ≤ q) ∧ Φ q = none
  inj : ∀ o o' q, ι o = some q → ι o' = some q → o = o'
  pin : ∀ q r, Φ q = some r → dm.get q = some r ∧ q < dm.next
structure Step2 (ι : Im) (Φ : Pin) (m dm : Mem) (ι' : Im) (Φ' : Pin) (m' dm' : Mem) : Prop where
  rel : MM ι' Φ' m' dm'
  le : Im.le ι ι'
  new : ∀ o q, ι' o = some q → ι o = some q ∨ (m.next ≤ o ∧ dm.next ≤ q)
  pin : Pin.le Φ Φ'
  pnew : ∀ q r, Φ' q = some r → Φ q = some r ∨ dm.next ≤ q ∨ ∃ o, ι o = some q ∧ m.get o ≠ none
  lo : m'.lo = m.lo
  dlo : dm'.lo = dm.lo
  dro : dm'.ro = dm.ro
  next : m.next ≤ m'.next
  dnext : dm.next ≤ dm'.next
  frame : ∀ q, q < dm.next → (∀ o, ι o = some q → m.get o = none) → dm'.get q = dm.get q
  dead : ∀ o, o < m.next → m.get o = none → m'.get o = none
theorem Step2.refl {ι : Im} {Φ : Pin} {m dm : Mem} (h : MM ι Φ m dm) : Step2 ι Φ m dm ι Φ m dm :=
  ⟨h, .refl _, fun _ _ h => .inl h, .refl _, fun _ _ h => .inl h, rfl, rfl, rfl, Nat.le_refl _, Nat.le_refl _, fun _ _ _ => rfl, fun _ _ h => h⟩
theorem Step2.trans {ι ι1 ι2 : Im} {Φ Φ1 Φ2 : Pin} {m m1 m2 dm dm1 dm2 : Mem} (h0 : MM ι Φ m dm) (h : Step2 ι Φ m dm ι1 Φ1 m1 dm1) (k : Step2 ι1 Φ1 m1 dm1 ι2 Φ2 m2 dm2) : Step2 ι Φ m dm ι2 Φ2 m2 dm2 where
  rel := k.rel
  le := h.le.trans k.le
  new := fun o q x => by
    rcases k.new o q x with y | ⟨y, z⟩
    · exact h.new o q y
    · exact .inr ⟨Nat.le_trans h.next y, Nat.le_trans h.dnext z⟩
  pin := h.pin.trans k.pin
  pnew := fun q r x => by
    rcases k.pnew q r x with y | y | ⟨o, y, z⟩
    · exact h.pnew q r y
    · exact .inr (.inl (Nat.le_trans h.dnext y))
    · rcases h.new o q y with u | ⟨_, u⟩
      · refine .inr (.inr ⟨o, u, fun e => z ?_⟩)
        exact h.dead o (h0.dom o q u).1 e
      · exact .inr (.inl u)
  lo := k.lo.trans h.lo
  dlo := k.dlo.trans h.dlo
  dro := k.dro.trans h.dro
  next := Nat.le_trans h.next k.next
  dnext := Nat.le_trans h.dnext k.dnext
  frame := fun q hq hn => by
    rw [k.frame q (Nat.lt_of_lt_of_le hq h.dnext) (fun o ho => ?_)]
    · exact h.frame q hq hn
    · rcases h.new o q ho with y | ⟨_, z⟩
      · exact h.dead o (h0.dom o q y).1 (hn o y)
      · omega
  dead := fun o ho hn => k.dead o (Nat.lt_of_lt_of_le ho h.next) (h.dead o ho hn)
theorem Step2.r {ι ι' : Im} {Φ Φ' : Pin} {m m' dm dm' : Mem} (h : Step2 ι Φ m dm ι' Φ' m' dm') {u d : Value} (k : R ι Φ u d) : R ι' Φ' u d := k.mono h.le h.pin
theorem Step2.lr {ι ι' : Im} {Φ Φ' : Pin} {m m' dm dm' : Mem} (h : Step2 ι Φ m dm ι' Φ' m' dm') {u d : List Value} (k : LR ι Φ u d) : LR ι' Φ' u d := k.mono h.le h.pin
def Im.ins (ι : Im) (o q : Nat) : Im := fun x => if x = o then some q else ι x
section
variable {ι : Im} {Φ : Pin} {m dm : Mem}
theorem MM.fresh (h : MM ι Φ m dm) : ι m.next = none := by
  cases e : ι m.next with
  | none => rfl
  | some q => have := (h.dom _ _ e).1; omega
theorem MM.ins_le (h : MM ι Φ m dm) (q : Nat) : Im.le ι (ι.ins m.next q) := fun o x ho => by
  unfold Im.ins
  rw [if_neg (by have := (h.dom _ _ ho).1; omega)]; exact ho
theorem Im.ins_new (ι : Im) (o q : Nat) : ι.ins o q o = some q := by simp [Im.ins]
theorem MM.live (h : MM ι Φ m dm) {o q : Nat} {r : Row} (ho : ι o = some q) (hr : m.get o = some r) : ∃ dr, dm.get q = some dr ∧ r.sz = dr.sz ∧ LR ι Φ r.cells dr.cells ∧ dm.ro ≤ q ∧ (m.lo ≤ o → dm.lo ≤ q) ∧ Φ q = none := by
  obtain ⟨q', dr, a, b⟩ := h.row o r hr
  rw [ho] at a; cases a
  exact ⟨dr, b⟩
/-- Something new, and perhaps something gone. -/
theorem MM.grow (h : MM ι Φ m dm) {m1 dm1 : Mem} (hm : ∀ o, m1.get o = m.get o ∨ m1.get o = none) (hd : ∀ q, dm1.get q = dm.get q ∨ ∃ o, ι o = some q ∧ m1.get o = none ∧ m.get o ≠ none) (hn : m1.next = m.next) (hdn : dm1.next = dm.next) (hl : m1.lo = m.lo) (hdl : dm1.lo = dm.lo) (hdr : dm1.ro = dm.ro)
    {r dr : Row} (hs : r.sz = dr.sz) (hr : LR ι Φ r.cells dr.cells) : Step2 ι Φ m dm (ι.ins m.next dm.next) Φ (m1.push r) (dm1.push dr) := by
  have hle := h.ins_le dm.next
  have hnx : ∀ q r, Φ q = some r → q < dm.next := fun q r a => (h.pin q r a).2
  have hfn : Φ dm.next = none := by
    cases e : Φ dm.next with
    | none => rfl
    | some r => have := hnx _ _ e; omega
  have hfr : m.get m.next = none := by
    cases e : m.get m.next with
    | none => rfl
    | some r => obtain ⟨q, dr, a, _⟩ := h.row _ _ e; rw [h.fresh] at a; cases a
  have keep : ∀ q, q < dm.next → (∀ o, ι o = some q → m1.get o ≠ none ∨ m.get o = none) → dm1.get q = dm.get q := fun q hq hh => by
    rcases hd q with e | ⟨o, a, b, c⟩
    · exact e
    · rcases hh o a with x | x
      · exact absurd b x
      · exact absurd x c
  refine ⟨⟨?_, ?_, ?_, ?_, ?_, ?_⟩, hle, ?_, .refl _, fun q r a => .inl a, hl, hdl, hdr, by simp [hn], by simp [hdn], ?_, ?_⟩
  · simp only [Mem.lo_push, Mem.next_push, hdl, hdn]; have := h.lonext; omega
  · simp only [Mem.ro_push, Mem.next_push, hdr, hdn]; have := h.ronext; omega
  · intro o q ho
    unfold Im.ins at ho
    simp only [Mem.next_push, hn, hdn]
    split at ho
    · cases ho
      exact ⟨by omega, by omega⟩
    · obtain ⟨a, b⟩ := h.dom o q ho
      exact ⟨by omega, by omega⟩
  · intro o r' hr'
    simp only [Mem.get_push, hn] at hr'
    split at hr'
    · cases hr'
      subst_vars
      exact ⟨dm.next, dr, Im.ins_new _ _ _, by simp [hdn], hs, hr.mono hle (.refl _), by simp only [Mem.ro_push, hdr]; exact h.ronext, fun _ => by simp only [Mem.lo_push, hdl]; exact h.lonext, hfn⟩
    · have hmo : m.get o = some r' := by
        rcases hm o with e | e
        · rw [← e]; exact hr'
        · rw [e] at hr'; cases hr'
      obtain ⟨q, dr', a, b, c, d, e, f, f2⟩ := h.row o r' hmo
      have hq := (h.dom o q a).2
      refine ⟨q, dr', hle _ _ a, ?_, c, d.mono hle (.refl _), by simpa [hdr] using e, fun g => ?_, f2⟩
      · rw [Mem.get_push, hdn, if_neg (by omega), keep q hq (fun o' ho' => ?_)]
        · exact b
        · have := h.inj o o' q a ho'
          subst this
          exact .inl (by rw [hr']; simp)
      · simp only [Mem.lo_push, hdl]; exact f (by simpa [hl] using g)
  · intro o o' q a b
    unfold Im.ins at a b
    split at a <;> split at b
    · subst_vars; rfl
    · cases a; have := (h.dom _ _ b).2; omega
    · cases b; have := (h.dom _ _ a).2; omega
    · exact h.inj o o' q a b
  · intro q r' hq
    obtain ⟨a, b⟩ := h.pin q r' hq
    refine ⟨?_, by simp only [Mem.next_push, hdn]; omega⟩
    rw [Mem.get_push, hdn, if_neg (by omega), keep q b (fun o ho => ?_)]
    · exact a
    · cases hmo : m.get o with
      | none => exact .inr rfl
      | some r0 =>
        obtain ⟨_, _, _, _, _, _, e⟩ := h.live ho hmo
        rw [hq] at e; cases e
  · intro o q ho
    unfold Im.ins at ho
    split at ho
    · cases ho; subst_vars; exact .inr ⟨Nat.le_refl _, Nat.le_refl _⟩
    · exact .inl ho
  · intro q hq hh
    rw [Mem.get_push, hdn, if_neg (by omega)]
    exact keep q hq (fun o ho => .inr (hh o ho))
  · intro o ho hh
    rw [Mem.get_push, hn, if_neg (by omega)]
    rcases hm o with e | e
    · rw [e]; exact hh
    · exact e
theorem MM.push (h : MM ι Φ m dm) {r dr : Row} (hs : r.sz = dr.sz) (hr : LR ι Φ r.cells dr.cells) : Step2 ι Φ m dm (ι.ins m.next dm.next) Φ (m.push r) (dm.push dr) :=
  h.grow (fun _ => .inl rfl) (fun _ => .inl rfl) rfl rfl rfl rfl rfl hs hr
theorem MM.swap (h : MM ι Φ m dm) {o q : Nat} (ho : ι o = some q) (hr0 : m.get o ≠ none) {r dr : Row} (hs : r.sz = dr.sz) (hr : LR ι Φ r.cells dr.cells) : Step2 ι Φ m dm (ι.ins m.next dm.next) Φ ((m.del o).push r) ((dm.del q).push dr) :=
  h.grow (m1 := m.del o) (dm1 := dm.del q) (fun x => by rw [Mem.get_del]; split <;> simp) (fun x => by
    rw [Mem.get_del]
    split
    · subst_vars; exact .inr ⟨o, ho, by simp, hr0⟩
    · exact .inl rfl) rfl rfl rfl rfl rfl hs hr
theorem MM.drop (h : MM ι Φ m dm) {o q : Nat} (ho : ι o = some q) {r0 : Row} (hr0 : m.get o = some r0) : Step2 ι Φ m dm ι Φ (m.del o) (dm.del q) := by
  refine ⟨⟨h.lonext, h.ronext, h.dom, ?_, h.inj, ?_⟩, .refl _, fun _ _ a => .inl a, .refl _, fun _ _ a => .inl a, rfl, rfl, rfl, Nat.le_refl _, Nat.le_refl _, ?_, ?_⟩
  · intro o' r' hr'
    rw [Mem.get_del] at hr'
    split at hr'
    · cases hr'
    · obtain ⟨q', dr', a, b, c, d, e, f⟩ := h.row o' r' hr'
      refine ⟨q', dr', a, ?_, c, d, e, f⟩
      rw [Mem.get_del, if_neg (fun x => ?_)]
      · exact b
      · subst x; exact absurd (h.inj _ _ _ a ho) ‹_›
  · intro q' r' hq
    obtain ⟨a, b⟩ := h.pin q' r' hq
    refine ⟨?_, b⟩
    rw [Mem.get_del, if_neg (fun x => ?_)]
    · exact a
    · subst x
      obtain ⟨_, _, _, _, _, _, e⟩ := h.live ho hr0
      rw [hq] at e; cases e
  · intro q' hq hh
    rw [Mem.get_del, if_neg (fun x => ?_)]
    subst x
    rw [hh o ho] at hr0; cases hr0
  · intro o' _ hh
    rw [Mem.get_del]
    split
    · rfl
    · exact hh
theorem MM.set (h : MM ι Φ m dm) {o q : Nat} (ho : ι o = some q) {r0 r dr : Row} (hr0 : m.get o = some r0) (hs : r.sz = dr.sz) (hr : LR ι Φ r.cells dr.cells) : Step2 ι Φ m dm ι Φ (m.set o r) (dm.set q dr) := by
  refine ⟨⟨h.lonext, h.ronext, h.dom, ?_, h.inj, ?_⟩, .refl _, fun _ _ a => .inl a, .refl _, fun _ _ a => .inl a, rfl, rfl, rfl, Nat.le_refl _, Nat.le_refl _, ?_, ?_⟩
  · intro o' r' hr'
    rw [Mem.get_set] at hr'
    split at hr'
    · cases hr'
      subst_vars
      obtain ⟨dr0, a, b, c, d, e⟩ := h.live ho hr0
      exact ⟨q, dr, ho, by simp, hs, hr, d, e⟩
    · obtain ⟨q', dr', a, b, c, d, e, f⟩ := h.row o' r' hr'
      refine ⟨q', dr', a, ?_, c, d, e, f⟩
      rw [Mem.get_set, if_neg (fun x => ?_)]
      · exact b
      · subst x; exact absurd (h.inj _ _ _ a ho) ‹_›
  · intro q' r' hq
    obtain ⟨a, b⟩ := h.pin q' r' hq
    refine ⟨?_, b⟩
    rw [Mem.get_set, if_neg (fun x => ?_)]
    · exact a
    · subst x
      obtain ⟨_, _, _, _, _, _, e⟩ := h.live ho hr0
      rw [hq] at e; cases e
  · intro q' hq hh
    rw [Mem.get_set, if_neg (fun x => ?_)]
    subst x
    rw [hh o ho] at hr0; cases hr0
  · intro o' ho' hh
    rw [Mem.get_set, if_neg (fun x => ?_)]
    · exact hh
    · subst x; rw [hr0] at hh; cases hh
theorem MM.at_ (h : MM ι Φ m dm) {o q off n : Nat} (ho : ι o = some q) {l : List Value} (hl : m.at_ o off n = some l) : ∃ l', dm.at_ q off n = some l' ∧ LR ι Φ l l' := by
  unfold Mem.at_ at hl ⊢
  cases hr : m.get o with
  | none => rw [hr] at hl; cases hl
  | some r =>
    obtain ⟨dr, a, b, c, _⟩ := h.live ho hr
    rw [hr] at hl
    simp only [Option.bind_some] at hl
    rw [a]
    simp only [Option.bind_some]
    split at hl
    · cases hl
      rw [if_pos (by rw [← c.1]; assumption)]
      exact ⟨_, rfl, (c.drop off).take n⟩
    · cases hl
theorem MM.ld (h : MM ι Φ m dm) {o q off : Nat} (ho : ι o = some q) {v : Value} (hl : m.ld o off = some v) : ∃ v', dm.ld q off = some v' ∧ R ι Φ v v' := by
  unfold Mem.ld at hl ⊢
  cases hr : m.get o with
  | none => rw [hr] at hl; cases hl
  | some r =>
    obtain ⟨dr, a, b, c, _⟩ := h.live ho hr
    rw [hr] at hl
    simp only [Option.bind_some] at hl
    rw [a]
    exact c.get hl
theorem putL_lr {l l' vs vs' : List Value} (hl : LR ι Φ l l') (hv : LR ι Φ vs vs') (off : Nat) (h : off + vs.length ≤ l.length) : LR ι Φ (putL l off vs) (putL l' off vs') :=
  ⟨by rw [putL_length, putL_length]; exact hl.1, fun i u v a b => by
    rw [putL_get l off vs i h] at a
    rw [putL_get l' off vs' i (by rw [← hl.1, ← hv.1]; exact h), ← hv.1] at b
    split at a
    · rw [if_pos ‹_›] at b; exact hv.2 _ u v a b
    · rw [if_neg ‹_›] at b; exact hl.2 i u v a b⟩
theorem MM.st (h : MM ι Φ m dm) {o q off : Nat} (ho : ι o = some q) {vs vs' : List Value} (hv : LR ι Φ vs vs') {m' : Mem} (hl : m.st o off vs = some m') : ∃ dm', dm.st q off vs' = some dm' ∧ Step2 ι Φ m dm ι Φ m' dm' := by
  unfold Mem.st at hl ⊢
  cases hr : m.get o with
  | none => rw [hr] at hl; cases hl
  | some r =>
    obtain ⟨dr, a, b, c, d, e, _⟩ := h.live ho hr
    rw [hr] at hl
    simp only [Option.bind_some] at hl
    rw [a]
    simp only [Option.bind_some]
    split at hl
    · split at hl
      · cases hl
        rename_i h1 h2
        rw [if_pos (e h1), if_pos (by rw [← hv.1, ← c.1]; exact h2)]
        exact ⟨_, rfl, h.set ho hr b (putL_lr c hv off h2)⟩
      · cases hl
    · cases hl
end
end Go.Proofs.Ytjojfpmelhaknaa.D
