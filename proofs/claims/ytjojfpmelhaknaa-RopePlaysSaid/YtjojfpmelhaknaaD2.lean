/-
  A deterministic reading of the program's code: cells read and written, rows made, in a world.
-/
import Derived.Test.YtjojfpmelhaknaaD1
namespace Go.Proofs.Ytjojfpmelhaknaa.D
open Go.RowKit

theorem addr_add (b s i : Nat) : (⟨b, s, none⟩ : Addr).add i = ⟨b, s + i, none⟩ := by
  unfold Addr.add
  split
  · subst_vars; rfl
  · rfl
theorem cell_at {w : World} {b : Nat} {cs : Array Value} {e : TypeId} {fz : Nat × Nat} (h : w.heap[b]? = some (.cells cs e fz)) (i : Nat) : w.cell? ⟨b, i, none⟩ = cs[i]? := by
  unfold World.cell?
  simp [h]
theorem shape_at {w : World} {b : Nat} {cs : Array Value} {e : TypeId} {fz : Nat × Nat} (h : w.heap[b]? = some (.cells cs e fz)) : w.shape? b = some (e, cs.size) := by
  unfold World.shape?
  simp [h]
theorem frozen_at {w : World} {b : Nat} {cs : Array Value} {e : TypeId} {fz : Nat × Nat} (h : w.heap[b]? = some (.cells cs e fz)) (i : Nat) : w.frozen? ⟨b, i, none⟩ = (fz.1 ≤ i && i < fz.2) := by
  unfold World.frozen?
  obtain ⟨x, y⟩ := fz
  simp [h]

theorem run_pure {α : Type} (P : Program) (a : α) (w : World) : (pure a : Sem α).run P w = .ok a w := rfl
theorem run_bind {α β : Type} {P : Program} {x : Sem α} {f : α → Sem β} {w w1 : World} {a : α} (h : x.run P w = .ok a w1) : (x >>= f).run P w = (f a).run P w1 := by
  show (Sem.bind x f).run P w = _
  induction x generalizing w with
  | pure b => simp only [Sem.run, Result.ok.injEq] at h; obtain ⟨rfl, rfl⟩ := h; rfl
  | load md ad k ih =>
    simp only [Sem.bind, Sem.run] at h ⊢
    split at h
    · rename_i v hv; exact ih v h
    · split at h
      · exact ih _ h
      · cases h
  | store md ad v k ih =>
    simp only [Sem.bind]
    cases v <;> simp only [Sem.run] at h ⊢ <;> first
      | cases h
      | (split at h
         · split at h
           · cases h
           · rename_i hf; simp only [hf]; exact ih h
         · split at h
           · exact ih h
           · cases h)
  | new o k ih => exact ih _ h
  | shape r k ih => exact ih _ h
  | freeze ad n k ih => exact ih h
  | frozen ad k ih => exact ih _ h
  | getObj r k ih =>
    simp only [Sem.bind, Sem.run] at h ⊢
    split at h
    · cases h
    · exact ih _ h
    · cases h
  | setObj r o k ih =>
    simp only [Sem.bind, Sem.run] at h ⊢
    split at h
    · cases h
    · exact ih h
    · cases h
  | choose q k ih =>
    simp only [Sem.bind, Sem.run] at h ⊢
    split at h
    · rename_i hf; simp only [hf, if_true]; exact ih _ h
    · rename_i hf; simp only [hf]; exact ih _ h
  | sys c k ih => exact ih _ h
  | program k ih => exact ih _ h
  | mark mk k ih => exact ih h
  | halt hl => cases h

theorem run_load {P : Program} {w : World} {a : Addr} {v : Value} (h : w.cell? a = some v) : (load a).run P w = .ok v w := by
  simp only [load, Sem.run, h]

theorem run_loadCellsFrom {P : Program} {w : World} {b s : Nat} {cs : Array Value} {e : TypeId} {fz : Nat × Nat} (hb : w.heap[b]? = some (.cells cs e fz)) :
    ∀ (n i : Nat) (acc : Array Value), s + i + n ≤ cs.size → (loadCellsFrom ⟨b, s, none⟩ i n acc).run P w = .ok (acc ++ ((cs.toList.drop (s + i)).take n).toArray) w := by
  intro n
  induction n with
  | zero => intro i acc _; simp [loadCellsFrom, pure]
  | succ n ih =>
    intro i acc h
    have hi : s + i < cs.size := by omega
    have hc : w.cell? ⟨b, s + i, none⟩ = some cs[s + i] := by rw [cell_at hb, Array.getElem?_eq_getElem hi]
    unfold loadCellsFrom
    rw [addr_add, run_bind (run_load hc), ih (i + 1) _ (by omega)]
    congr 1
    rw [show s + (i + 1) = s + i + 1 by omega, List.drop_eq_getElem_cons (i := s + i) (by simpa using hi)]
    simp

theorem run_loadCells {P : Program} {w : World} {b s : Nat} {cs : Array Value} {e : TypeId} {fz : Nat × Nat} (hb : w.heap[b]? = some (.cells cs e fz)) (n : Nat) (h : s + n ≤ cs.size) :
    (loadCells ⟨b, s, none⟩ n).run P w = .ok ((cs.toList.drop s).take n).toArray w := by
  unfold loadCells
  rw [run_loadCellsFrom hb n 0 #[] (by omega)]
  simp

/-- A world in which one block has turned. -/
structure Upd (w w' : World) (b : Nat) (x : Obj) : Prop where
  os : w'.os = w.os
  tape : w'.tape = w.tape
  output : w'.output = w.output
  size : w'.heap.size = w.heap.size
  at_ : w'.heap[b]? = some x
  ne : ∀ k, k ≠ b → w'.heap[k]? = w.heap[k]?

theorem Upd.trans {w w1 w2 : World} {b : Nat} {x y : Obj} (h : Upd w w1 b x) (k : Upd w1 w2 b y) : Upd w w2 b y :=
  ⟨k.os.trans h.os, k.tape.trans h.tape, k.output.trans h.output, k.size.trans h.size, k.at_, fun i hi => (k.ne i hi).trans (h.ne i hi)⟩

theorem run_store {P : Program} {w : World} {b i : Nat} {cs : Array Value} {e : TypeId} {fz : Nat × Nat} {v : Value} (hb : w.heap[b]? = some (.cells cs e fz)) (hi : i < cs.size) (hf : ¬ (fz.1 ≤ i ∧ i < fz.2)) (hv : one v = true) :
    ∃ w', (store ⟨b, i, none⟩ v).run P w = .ok () w' ∧ Upd w w' b (.cells (cs.setIfInBounds i v) e fz) := by
  have hc : w.cell? ⟨b, i, none⟩ = some cs[i] := by rw [cell_at hb, Array.getElem?_eq_getElem hi]
  have hz : w.frozen? ⟨b, i, none⟩ = false := by rw [frozen_at hb]; simpa using hf
  refine ⟨w.setCell ⟨b, i, none⟩ v, ?_, ⟨rfl, rfl, rfl, by simp [World.setCell], ?_, ?_⟩⟩
  · cases v <;> first
      | (simp [one] at hv; done)
      | (simp only [store, Sem.run, hc, hz]; rfl)
  · simp [World.setCell, Array.getElem?_modify, hb]
  · intro k hk
    simp only [World.setCell, Array.getElem?_modify]
    rw [if_neg (fun e => hk e.symm)]

/-- Values written into a row's cells. -/
def putL : List Value → Nat → List Value → List Value
  | l, _, [] => l
  | l, i, v :: t => putL (l.set i v) (i + 1) t
theorem putL_length (l : List Value) (i : Nat) (vs : List Value) : (putL l i vs).length = l.length := by
  induction vs generalizing l i with
  | nil => rfl
  | cons v t ih => simp [putL, ih]
theorem putL_get (l : List Value) (i : Nat) (vs : List Value) (j : Nat) (h : i + vs.length ≤ l.length) : (putL l i vs)[j]? = if i ≤ j ∧ j < i + vs.length then vs[j - i]? else l[j]? := by
  induction vs generalizing l i with
  | nil => simp only [putL, List.length_nil, Nat.add_zero]; rw [if_neg (by omega)]
  | cons v t ih =>
    have hl : i + 1 + t.length ≤ l.length := by simp at h; omega
    simp only [putL]
    rw [ih (l.set i v) (i + 1) (by simpa using hl)]
    simp only [List.length_cons]
    by_cases h1 : i + 1 ≤ j ∧ j < i + 1 + t.length
    · rw [if_pos h1, if_pos (by omega), show j - i = (j - (i + 1)) + 1 by omega]; rfl
    · rw [if_neg h1]
      by_cases h2 : j = i
      · subst h2
        rw [if_pos (by omega), Nat.sub_self, List.getElem?_set_self (by omega)]; rfl
      · rw [if_neg (by omega), List.getElem?_set_ne (by omega)]

theorem run_storeCells {P : Program} {b s : Nat} {e : TypeId} {fz : Nat × Nat} : ∀ (vs : List Value) (i : Nat) (cs : Array Value) (w : World), w.heap[b]? = some (.cells cs e fz) → s + i + vs.length ≤ cs.size →
    (∀ j, j < cs.size → ¬ (fz.1 ≤ j ∧ j < fz.2)) → (∀ v ∈ vs, one v = true) →
    ∃ w', (storeCells ⟨b, s, none⟩ vs i).run P w = .ok () w' ∧ Upd w w' b (.cells (putL cs.toList (s + i) vs).toArray e fz) := by
  intro vs
  induction vs with
  | nil =>
    intro i cs w hb _ _ _
    exact ⟨w, by simp [storeCells, pure], ⟨rfl, rfl, rfl, rfl, by simp [putL, hb], fun _ _ => rfl⟩⟩
  | cons v t ih =>
    intro i cs w hb hl hf ho
    simp only [List.length_cons] at hl
    obtain ⟨w1, hr1, hu1⟩ := run_store (P := P) hb (i := s + i) (by omega) (hf _ (by omega)) (ho v (by simp))
    obtain ⟨w2, hr2, hu2⟩ := ih (i + 1) (cs.setIfInBounds (s + i) v) w1 hu1.at_ (by simp; omega) (by simpa using hf) (fun x hx => ho x (by simp [hx]))
    refine ⟨w2, ?_, ?_⟩
    · unfold storeCells
      rw [addr_add]
      rw [run_bind hr1]
      exact hr2
    · have := hu1.trans hu2
      rw [show s + (i + 1) = s + i + 1 by omega] at this
      simpa [putL] using this

theorem At.move {cx : Cx} {ι ι' : Inj} {o : Nat} {r : Row} {g : Loc} {w w' : World} (h : At cx ι o r g w) (hl : Inj.le ι ι') (hb : Same (w.heap[g.b]?) (w'.heap[g.b]?)) : At cx ι' o r g w' := by
  obtain ⟨cs, e, fz, h1, h2, h3, h4, h5, h6⟩ := h.ex
  have : ∃ fz', w'.heap[g.b]? = some (.cells cs e fz') ∧ (FzOk fz cs.size → FzOk fz' cs.size) := by
    rcases hb with hb | ⟨c, e', f, f', a, b, c'⟩
    · exact ⟨fz, hb.symm.trans h1, id⟩
    · rw [h1] at a; cases a; exact ⟨f', b, c'⟩
  obtain ⟨fz', h1', hz⟩ := this
  exact ⟨⟨cs, e, fz', h1', h2, h3, h4, fun i v hv => by obtain ⟨v', a, b⟩ := h5 i v hv; exact ⟨v', a, b.mono hl⟩, fun ho => ⟨(h6 ho).1, (h6 ho).2.1, hz (h6 ho).2.2⟩⟩, h.ones, fun t ht => by
    obtain ⟨a, cs0, fz0, b0, c0⟩ := h.typ t ht
    rw [h1] at b0; cases b0
    exact ⟨a, cs, fz', h1', c0⟩, fun t => by
    obtain ⟨cs0, e0, fz0, b0, c0⟩ := h.byt t
    rw [h1] at b0; cases b0
    exact ⟨cs, e, fz', h1', c0⟩⟩

/-- A world with the same blocks, but for new ones behind. -/
structure Ext (w w' : World) : Prop where
  os : w'.os = w.os
  tape : w'.tape = w.tape
  output : w'.output = w.output
  size : w.heap.size ≤ w'.heap.size
  old : ∀ k, k < w.heap.size → w'.heap[k]? = w.heap[k]?
theorem Ext.refl (w : World) : Ext w w := ⟨rfl, rfl, rfl, Nat.le_refl _, fun _ _ => rfl⟩
theorem Ext.trans {a b c : World} (h : Ext a b) (k : Ext b c) : Ext a c :=
  ⟨k.os.trans h.os, k.tape.trans h.tape, k.output.trans h.output, Nat.le_trans h.size k.size, fun i hi => (k.old i (Nat.lt_of_lt_of_le hi h.size)).trans (h.old i hi)⟩
theorem Ext.below {B : Nat} {a w w' : World} (h : Below B a w) (hB : B ≤ w.heap.size) (k : Ext w w') : Below B a w' :=
  h.trans ⟨k.os, k.tape, k.output, k.size, fun i hi => k.old i (by omega)⟩
theorem Ext.of_below {w w' : World} (h : Below w.heap.size w w') : Ext w w' := ⟨h.os, h.tape, h.output, h.size, h.block⟩

/-- Blocks were made, nothing else. -/
theorem Post.ext {cx : Cx} {ι : Inj} {m : Mem} {w w' : World} (h : Rel cx ι m w) (k : Ext w w') : Post cx ι m w ι m w' where
  le := .refl _
  rel := { below := k.below h.below h.base, base := Nat.le_trans h.base k.size, lo := h.lo, lonext := h.lonext, tight := h.tight, lt := fun o g x => Nat.lt_of_lt_of_le (h.lt o g x) k.size, own := h.own, obj := fun o g r a b => (h.obj o g r a b).move (.refl _) (.inl (k.old _ (h.lt o g a)).symm), ro := h.ro }
  lo := rfl
  next := Nat.le_refl _
  size := k.size
  new := fun o g a b => by rw [a] at b; cases b
  frame := fun b hb _ => .inl (k.old b hb).symm
  dead := fun _ _ h => h

def ins (ι : Inj) (o : Nat) (g : Loc) : Inj := fun x => if x = o then some g else ι x
theorem ins_le {cx : Cx} {ι : Inj} {m : Mem} {w : World} (h : Rel cx ι m w) (g : Loc) : Inj.le ι (ins ι m.next g) := fun o x hx => by
  unfold ins
  have := h.tight o x hx
  rw [if_neg (by omega)]; exact hx
theorem ins_new (ι : Inj) (o : Nat) (g : Loc) : ins ι o g o = some g := by simp [ins]

/-- A new row, in a new block. -/
theorem Post.push {cx : Cx} {ι : Inj} {m : Mem} {w w' : World} (h : Rel cx ι m w) (k : Ext w w') {b : Nat} {cs : Array Value} {e : TypeId} {fz : Nat × Nat} (hb : w'.heap[b]? = some (.cells cs e fz)) (hn : w.heap.size ≤ b)
    (r : Row) (hl : r.cells.length ≤ cs.size) (hc : ∀ (i : Nat) v, r.cells[i]? = some v → ∃ v', cs[i]? = some v' ∧ VRel ι v v') (hf : FzOk fz cs.size) (h1 : ∀ v ∈ r.cells, one v = true) (hty : TyE cx.P r.sz e) :
    Post cx ι m w (ins ι m.next ⟨b, 0, cs.size, unit r.sz⟩) (m.push r) w' where
  le := ins_le h _
  rel := {
    below := k.below h.below h.base
    base := Nat.le_trans h.base k.size
    lo := h.lo
    lonext := Nat.le_succ_of_le h.lonext
    tight := fun o g x => by
      unfold ins at x
      simp only [Mem.next_push]
      split at x
      · omega
      · have := h.tight o g x; omega
    lt := fun o g x => by
      unfold ins at x
      split at x
      · cases x
        have := Array.getElem?_eq_some_iff.1 hb
        exact this.1
      · exact Nat.lt_of_lt_of_le (h.lt o g x) k.size
    own := fun o o' g g' x x' y y' hlo hne => by
      unfold ins at x x'
      rw [Mem.get_push] at y y'
      split at x
      · cases x
        split at x'
        · omega
        · have := h.lt o' g' x'
          show b ≠ g'.b
          omega
      · split at x'
        · cases x'
          have := h.lt o g x
          show g.b ≠ b
          omega
        · rw [if_neg ‹_›] at y y'
          exact h.own o o' g g' x x' y y' hlo hne
    obj := fun o g r' x y => by
      have hx := x
      unfold ins at x
      rw [Mem.get_push] at y
      split at x
      · rw [if_pos ‹_›] at y
        cases x; cases y
        exact ⟨⟨cs, e, fz, hb, by simp, by simpa using hl, rfl, fun i v hv => by obtain ⟨v', p, q⟩ := hc i v hv; exact ⟨v', by simpa using p, q.mono (ins_le h _)⟩, fun _ => ⟨Nat.le_trans h.base hn, by simp, hf⟩⟩, h1, fun t ht => ⟨rfl, cs, fz, by rw [← hty.mrk t ht]; exact hb, rfl⟩, fun ht => ⟨cs, e, fz, hb, hty.by8 ht⟩⟩
      · rw [if_neg ‹_›] at y
        exact (h.obj o g r' x y).move (ins_le h _) (.inl (k.old _ (h.lt o g x)).symm)
    ro := h.ro }
  lo := rfl
  next := by simp
  size := k.size
  new := fun o g x y => by
    unfold ins at x
    split at x
    · cases x; exact ⟨by omega, .inl hn⟩
    · rw [x] at y; cases y
  frame := fun b hb _ => .inl (k.old b hb).symm
  dead := fun o ho hd => by rw [Mem.get_push, if_neg (by omega)]; exact hd

theorem Upd.below {B : Nat} {a w w' : World} {b : Nat} {x : Obj} (h : Below B a w) (k : Upd w w' b x) (hb : B ≤ b) : Below B a w' :=
  h.trans ⟨k.os, k.tape, k.output, Nat.le_of_eq k.size.symm, fun i hi => k.ne i (by omega)⟩

/-- A row's cells written anew. -/
theorem Post.store {cx : Cx} {ι : Inj} {m : Mem} {w w' : World} (h : Rel cx ι m w) {o : Nat} {g : Loc} {r r' : Row} (ho : ι o = some g) (hr : m.get o = some r) (hlo : m.lo ≤ o) {cs : Array Value} {e : TypeId} {fz : Nat × Nat}
    (k : Upd w w' g.b (.cells cs e fz)) (hs : g.s + g.z = cs.size) (hl : r'.cells.length ≤ g.z) (hsz : r'.sz = r.sz) (hc : ∀ (i : Nat) v, r'.cells[i]? = some v → ∃ v', cs[g.s + i]? = some v' ∧ VRel ι v v')
    (hB : cx.B ≤ g.b) (hf : FzOk fz cs.size) (h1 : ∀ v ∈ r'.cells, one v = true) (hty : ∃ cs0 fz0, w.heap[g.b]? = some (.cells cs0 e fz0)) :
    Post cx ι m w ι (m.set o r') w' where
  le := .refl _
  rel := {
    below := k.below h.below hB
    base := by rw [k.size]; exact h.base
    lo := h.lo
    lonext := h.lonext
    tight := h.tight
    lt := fun o g x => by rw [k.size]; exact h.lt o g x
    own := fun x x' g1 g' hx hx' y y' hlo hne => by
      rw [Mem.get_set] at y y'
      refine h.own x x' g1 g' hx hx' ?_ ?_ hlo hne
      · split at y
        · subst_vars; rw [hr]; simp
        · exact y
      · split at y'
        · subst_vars; rw [hr]; simp
        · exact y'
    obj := fun x g1 r1 hx y => by
      rw [Mem.get_set] at y
      split at y
      · subst_vars
        rw [ho] at hx
        cases hx; cases y
        have hA := h.obj _ _ _ ho hr
        obtain ⟨cs0, fz0, b0⟩ := hty
        refine ⟨⟨cs, e, fz, k.at_, hs, hl, by obtain ⟨_, _, _, _, _, _, hrs, _⟩ := hA.ex; rw [hsz]; exact hrs, hc, fun _ => ⟨hB, hs, hf⟩⟩, h1, fun t ht => ?_, fun ht => ?_⟩
        · obtain ⟨a1, cs1, fz1, a2, a3⟩ := hA.typ t (by rw [← hsz]; exact ht)
          rw [b0] at a2; cases a2
          exact ⟨a1, cs, fz, k.at_, by omega⟩
        · obtain ⟨cs1, e1, fz1, a2, a3⟩ := hA.byt (by rw [← hsz]; exact ht)
          rw [b0] at a2; cases a2
          exact ⟨cs, e, fz, k.at_, a3⟩
      · have hne : g1.b ≠ g.b := fun e => h.own o x g g1 ho hx (by rw [hr]; simp) (by rw [y]; simp) (Nat.le_trans h.lo hlo) (fun e => ‹¬ x = o› e.symm) e.symm
        exact (h.obj x g1 r1 hx y).move (.refl _) (.inl (k.ne _ hne).symm)
    ro := h.ro }
  lo := rfl
  next := Nat.le_refl _
  size := Nat.le_of_eq k.size.symm
  new := fun o g a b => by rw [a] at b; cases b
  frame := fun b hb hno => .inl (k.ne b (fun e => hno o g ho hlo (by rw [hr]; simp) e.symm)).symm
  dead := fun x hx hd => by
    rw [Mem.get_set]
    split
    · subst_vars; rw [hr] at hd; cases hd
    · exact hd

/-- A row taken on, in its own block, under a new number; the elder one is gone. -/
theorem Post.grow {cx : Cx} {ι : Inj} {m : Mem} {w w' : World} (h : Rel cx ι m w) {o : Nat} {g : Loc} {r r' : Row} (ho : ι o = some g) (hr : m.get o = some r) (hlo : m.lo ≤ o) {cs : Array Value} {e : TypeId} {fz : Nat × Nat} {off : Nat}
    (k : Upd w w' g.b (.cells cs e fz)) (hs : g.s + g.z = cs.size) (hoff : off ≤ g.z) (hl : off + r'.cells.length ≤ g.z) (hsz : r'.sz = r.sz) (hc : ∀ (i : Nat) v, r'.cells[i]? = some v → ∃ v', cs[g.s + off + i]? = some v' ∧ VRel ι v v')
    (hB : cx.B ≤ g.b) (hf : FzOk fz cs.size) (h1 : ∀ v ∈ r'.cells, one v = true) (hty : ∀ t, r'.sz ≠ mark t) (hty0 : ∃ cs0 fz0, w.heap[g.b]? = some (.cells cs0 e fz0)) :
    Post cx ι m w (ins ι m.next ⟨g.b, g.s + off, g.z - off, g.sz⟩) ((m.del o).push r') w' where
  le := ins_le h _
  rel := {
    below := k.below h.below hB
    base := by rw [k.size]; exact h.base
    lo := h.lo
    lonext := Nat.le_succ_of_le h.lonext
    tight := fun x g1 hx => by
      unfold ins at hx
      simp only [Mem.next_push, Mem.next_del]
      split at hx
      · omega
      · have := h.tight x g1 hx; omega
    lt := fun x g1 hx => by
      rw [k.size]
      unfold ins at hx
      split at hx
      · cases hx; exact h.lt o g ho
      · exact h.lt x g1 hx
    own := fun x x' g1 g' hx hx' y y' hlo' hne => by
      unfold ins at hx hx'
      rw [Mem.get_push, Mem.next_del, Mem.get_del] at y y'
      split at hx
      · cases hx
        split at hx'
        · omega
        · rw [if_neg ‹_›] at y'
          split at y'
          · exact absurd rfl y'
          · exact h.own o x' g g' ho hx' (by rw [hr]; simp) y' (Nat.le_trans h.lo hlo) (fun e => ‹¬ x' = o› e.symm)
      · rw [if_neg ‹_›] at y
        split at hx'
        · cases hx'
          split at y
          · exact absurd rfl y
          · exact fun e => h.own o x g g1 ho hx (by rw [hr]; simp) y (Nat.le_trans h.lo hlo) (fun e => ‹¬ x = o› e.symm) e.symm
        · rw [if_neg ‹_›] at y'
          split at y
          · exact absurd rfl y
          · split at y'
            · exact absurd rfl y'
            · exact h.own x x' g1 g' hx hx' y y' hlo' hne
    obj := fun x g1 r1 hx y => by
      unfold ins at hx
      rw [Mem.get_push, Mem.next_del, Mem.get_del] at y
      split at hx
      · rw [if_pos ‹_›] at y
        cases hx; cases y
        have hA := h.obj _ _ _ ho hr
        obtain ⟨cs0, fz0, b0⟩ := hty0
        exact ⟨⟨cs, e, fz, k.at_, by simp; omega, by simp; omega, by obtain ⟨_, _, _, _, _, _, hrs, _⟩ := hA.ex; rw [hsz]; exact hrs, fun i v hv => by obtain ⟨v', p, q⟩ := hc i v hv; exact ⟨v', p, q.mono (ins_le h _)⟩, fun _ => ⟨hB, by simp; omega, hf⟩⟩, h1, fun t ht => absurd ht (hty t), fun ht => by
          obtain ⟨cs1, e1, fz1, a2, a3⟩ := hA.byt (by rw [← hsz]; exact ht)
          rw [b0] at a2; cases a2
          exact ⟨cs, e, fz, k.at_, a3⟩⟩
      · rw [if_neg ‹_›] at y
        split at y
        · cases y
        · have hne : g1.b ≠ g.b := fun e => h.own o x g g1 ho hx (by rw [hr]; simp) (by rw [y]; simp) (Nat.le_trans h.lo hlo) (fun e => ‹¬ x = o› e.symm) e.symm
          exact (h.obj x g1 r1 hx y).move (ins_le h _) (.inl (k.ne _ hne).symm)
    ro := h.ro }
  lo := rfl
  next := by simp
  size := Nat.le_of_eq k.size.symm
  new := fun x g1 hx y => by
    unfold ins at hx
    split at hx
    · cases hx; exact ⟨by omega, .inr ⟨o, g, ho, rfl, hlo, by rw [hr]; simp⟩⟩
    · rw [hx] at y; cases y
  frame := fun b hb hno => .inl (k.ne b (fun e => hno o g ho hlo (by rw [hr]; simp) e.symm)).symm
  dead := fun x hx hd => by
    rw [Mem.get_push, Mem.next_del, if_neg (by omega), Mem.get_del]
    split
    · rfl
    · exact hd
/-- A row given up: its block may turn. -/
theorem Post.drop {cx : Cx} {ι : Inj} {m : Mem} {w w' : World} (h : Rel cx ι m w) {o : Nat} {g : Loc} {r : Row} (ho : ι o = some g) (hr : m.get o = some r) (hlo : m.lo ≤ o) {x : Obj} (k : Upd w w' g.b x) (hB : cx.B ≤ g.b) :
    Post cx ι m w ι (m.del o) w' where
  le := .refl _
  rel := {
    below := k.below h.below hB
    base := by rw [k.size]; exact h.base
    lo := h.lo
    lonext := h.lonext
    tight := h.tight
    lt := fun x g1 hx => by rw [k.size]; exact h.lt x g1 hx
    own := fun x x' g1 g' hx hx' y y' hlo' hne => by
      rw [Mem.get_del] at y y'
      split at y
      · exact absurd rfl y
      · split at y'
        · exact absurd rfl y'
        · exact h.own x x' g1 g' hx hx' y y' hlo' hne
    obj := fun x g1 r1 hx y => by
      rw [Mem.get_del] at y
      split at y
      · cases y
      · have hne : g1.b ≠ g.b := fun e => h.own o x g g1 ho hx (by rw [hr]; simp) (by rw [y]; simp) (Nat.le_trans h.lo hlo) (fun e => ‹¬ x = o› e.symm) e.symm
        exact (h.obj x g1 r1 hx y).move (.refl _) (.inl (k.ne _ hne).symm)
    ro := h.ro }
  lo := rfl
  next := Nat.le_refl _
  size := Nat.le_of_eq k.size.symm
  new := fun o g a b => by rw [a] at b; cases b
  frame := fun b hb hno => .inl (k.ne b (fun e => hno o g ho hlo (by rw [hr]; simp) e.symm)).symm
  dead := fun x hx hd => by
    rw [Mem.get_del]
    split
    · rfl
    · exact hd
/-- Only what is marked of a block turns. -/
theorem Post.soft {cx : Cx} {ι : Inj} {m : Mem} {w w' : World} (h : Rel cx ι m w) (hb : Below cx.B cx.w0 w') (hs : w'.heap.size = w.heap.size) (k : ∀ b : Nat, Same (w.heap[b]?) (w'.heap[b]?)) : Post cx ι m w ι m w' where
  le := .refl _
  rel := ⟨hb, by rw [hs]; exact h.base, h.lo, h.lonext, h.tight, fun o g x => by rw [hs]; exact h.lt o g x, h.own, fun o g r a b => (h.obj o g r a b).move (.refl _) (k _), h.ro⟩
  lo := rfl
  next := Nat.le_refl _
  size := Nat.le_of_eq hs.symm
  new := fun o g a b => by rw [a] at b; cases b
  frame := fun b _ _ => k b
  dead := fun _ _ h => h
/-- Memories that read alike. -/
theorem Rel.alike {cx : Cx} {ι : Inj} {m m2 : Mem} {w : World} (h : Rel cx ι m w) (hg : ∀ o, m2.get o = m.get o) (hn : m2.next = m.next) (hl : m2.lo = m.lo) (hro : m2.ro = m.ro) : Rel cx ι m2 w :=
  ⟨h.below, h.base, by rw [hl]; exact h.lo, by rw [hn]; exact h.lonext, by rw [hn]; exact h.tight, h.lt, fun o o' g g' a b c d => h.own o o' g g' a b (by rw [← hg]; exact c) (by rw [← hg]; exact d), fun o g r a b => h.obj o g r a (by rw [← hg]; exact b), hro.trans h.ro⟩
theorem Post.alike {cx : Cx} {ι ι' : Inj} {m m1 m2 : Mem} {w w' : World} (h : Post cx ι m w ι' m1 w') (hg : ∀ o, m2.get o = m1.get o) (hn : m2.next = m1.next) (hl : m2.lo = m1.lo) (hro : m2.ro = m1.ro) : Post cx ι m w ι' m2 w' :=
  ⟨h.le, h.rel.alike hg hn hl hro, hl.trans h.lo, by rw [hn]; exact h.next, h.size, h.new, h.frame, fun o a b => by rw [hg]; exact h.dead o a b⟩
end Go.Proofs.Ytjojfpmelhaknaa.D
