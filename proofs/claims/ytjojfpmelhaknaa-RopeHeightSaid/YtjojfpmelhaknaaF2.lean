/-
  From a law's arguments to the reading, and back: rows that were handed over.
-/
import Derived.Test.YtjojfpmelhaknaaF1
import Derived.ChangeSlices
import Derived.ProofKit
namespace Go.Proofs.Ytjojfpmelhaknaa.D
open Go.RowKit Go.ChangeShapes
set_option linter.unusedVariables false
set_option linter.unusedSimpArgs false

/-- Rows that were handed over. -/
structure Ini (W : World) (m : Mem) (ι : Inj) : Prop where
  lo : m.lo = m.next
  ro : m.ro = m.next
  tight : ∀ o g, ι o = some g → o < m.next
  lt : ∀ o g, ι o = some g → g.b < W.heap.size
  obj : ∀ o g r, ι o = some g → m.get o = some r → (∃ cs e fz, W.heap[g.b]? = some (.cells cs e fz) ∧ g.s + g.z = cs.size ∧ r.cells.length ≤ g.z ∧ (r.sz = g.sz ∧ r.sz < 4294967295) ∧ ∀ (i : Nat) v, r.cells[i]? = some v → ∃ v', cs[g.s + i]? = some v' ∧ VRel ι v v') ∧ ∀ v ∈ r.cells, one v = true
theorem Ini.nil (W : World) : Ini W ⟨[], 0, 0, 0⟩ (fun _ => none) := ⟨rfl, rfl, fun _ _ h => (by cases h), fun _ _ h => (by cases h), fun _ _ _ h => (by cases h)⟩
theorem Ini.rel {P : Program} {W : World} {m : Mem} {ι : Inj} (h : Ini W m ι) : Rel ⟨P, W, W.heap.size, m.next⟩ ι m W :=
  ⟨Below.refl _ _, Nat.le_refl _, by rw [h.lo]; exact Nat.le_refl _, Nat.le_refl _, h.tight, h.lt, fun o o' g g' a _ _ _ hlo _ => by have := h.tight o g a; simp only at hlo; omega, fun o g r a b => by
    obtain ⟨⟨cs, e, fz, h1, h2, h3, h4, h5⟩, h6⟩ := h.obj o g r a b
    exact ⟨⟨cs, e, fz, h1, h2, h3, by rw [unit_lt h4.2]; exact h4.1, h5, fun hlo => by have := h.tight o g a; simp only at hlo; omega⟩, h6, fun t ht => by have := mark_ge t; have := h4.2; omega, fun ht => by have := h4.2; have hC : C8 = 4294967295 := rfl; omega⟩, h.ro⟩
/-- One row more. -/
def Mem.more (m : Mem) (r : Row) : Mem := ⟨(m.next, r) :: m.objs, m.next + 1, m.next + 1, m.next + 1⟩
theorem Mem.get_more (m : Mem) (r : Row) (x : Nat) : (m.more r).get x = if x = m.next then some r else m.get x := rfl
structure Gr (m m' : Mem) : Prop where
  next : m.next ≤ m'.next
  get : ∀ o, o < m.next → m'.get o = m.get o
theorem Gr.refl (m : Mem) : Gr m m := ⟨Nat.le_refl _, fun _ _ => rfl⟩
theorem Gr.trans {a b c : Mem} (h : Gr a b) (k : Gr b c) : Gr a c := ⟨Nat.le_trans h.next k.next, fun o ho => (k.get o (Nat.lt_of_lt_of_le ho h.next)).trans (h.get o ho)⟩
theorem Sl.gr {α : Type} {m m' : Mem} {v : Value} {sz : Nat} {enc : α → List Value} {l : List α} (h : Sl m v sz enc l) (hg : Gr m m') : Sl m' v sz enc l := by
  rcases h with ⟨rfl, rfl⟩ | ⟨o, off, c, r, h0, h1, h2, h3⟩
  · exact .inl ⟨rfl, rfl⟩
  · exact .inr ⟨o, off, c, r, h0, Nat.lt_of_lt_of_le h1 hg.next, (hg.get o h1).trans h2, h3⟩
theorem Ini.more {W : World} {m : Mem} {ι : Inj} (h : Ini W m ι) {g : Loc} {r : Row} {cs : Array Value} {e : TypeId} {fz : Nat × Nat} (h1 : W.heap[g.b]? = some (.cells cs e fz)) (h2 : g.s + g.z = cs.size) (h3 : r.cells.length ≤ g.z) (h4 : r.sz = g.sz)
    (h5 : ∀ (i : Nat) v, r.cells[i]? = some v → ∃ v', cs[g.s + i]? = some v' ∧ VRel ι v v') (h6 : ∀ v ∈ r.cells, one v = true) (h7 : r.sz < 4294967295) :
    Ini W (m.more r) (ins ι m.next g) ∧ Inj.le ι (ins ι m.next g) ∧ Gr m (m.more r) := by
  have hle : Inj.le ι (ins ι m.next g) := fun o x hx => by
    unfold ins
    split
    · subst_vars; have := h.tight _ _ hx; omega
    · exact hx
  have hbs : g.b < W.heap.size := (Array.getElem?_eq_some_iff.1 h1).1
  refine ⟨⟨rfl, rfl, ?_, ?_, ?_⟩, hle, ⟨Nat.le_succ _, fun o ho => by rw [Mem.get_more, if_neg (by omega)]⟩⟩
  · intro o x hx
    unfold ins at hx
    show o < m.next + 1
    split at hx
    · omega
    · have := h.tight o x hx; omega
  · intro o x hx
    unfold ins at hx
    split at hx
    · cases hx; exact hbs
    · exact h.lt o x hx
  · intro o x y hx hy
    unfold ins at hx
    rw [Mem.get_more] at hy
    split at hx
    · rw [if_pos ‹_›] at hy
      cases hx; cases hy
      exact ⟨⟨cs, e, fz, h1, h2, h3, ⟨h4, h7⟩, fun i v hv => by obtain ⟨v', p, q⟩ := h5 i v hv; exact ⟨v', p, q.mono hle⟩⟩, h6⟩
    · rw [if_neg ‹_›] at hy
      obtain ⟨⟨cs, e, fz, q1, q2, q3, q4, q5⟩, q6⟩ := h.obj o x y hx hy
      exact ⟨⟨cs, e, fz, q1, q2, q3, q4, fun i v hv => by obtain ⟨v', p, q⟩ := q5 i v hv; exact ⟨v', p, q.mono hle⟩⟩, q6⟩
/-- Where a slice's address leads. -/
theorem has_slice {P : Program} {w : World} {r : Reach} {base : Nat} {t e : TypeId} {a : Addr} {len cap : Nat} (ht : P.underlying t = some (.slice e)) (h : Value.okWide P w r base t (.slice (some a) len cap)) : a.spot = none ∧ ∃ cs el fz, w.heap[a.block]? = some (.cells cs el fz) := by
  unfold Value.okWide at h
  simp only [ht] at h
  unfold Cell.okWide at h
  simp only [ht] at h
  unfold Cell.ok at h
  simp only [ht] at h
  obtain ⟨_, _, _, h2, row, cells, h3, _⟩ := h
  refine ⟨h2, ?_⟩
  unfold World.shape? at h3
  cases hh : w.heap[a.block]? with
  | none => rw [hh] at h3; cases h3
  | some o =>
    rw [hh] at h3
    cases o <;> first
      | exact ⟨_, _, _, rfl⟩
      | cases h3
theorem okWide_slice {P : Program} {w : World} {r : Reach} {base : Nat} {t e : TypeId} {v : Value} (ht : P.underlying t = some (.slice e)) (h : Value.okWide P w r base t v) {a : Option Addr} {n c : Nat} (hc : v.cells.toList = [.slice a n c]) : v = .slice a n c := by
  unfold Value.okWide at h
  simp only [ht] at h
  unfold Cell.okWide at h
  simp only [ht] at h
  unfold Cell.ok at h
  simp only [ht] at h
  cases v <;> simp_all [Value.cells]
/-- A slice of numbers. -/
theorem Ini.ints {P : Program} {W : World} {m : Mem} {ι : Inj} (h : Ini W m ι) {r : Reach} {base : Nat} {t e : TypeId} {k : IntKind} {a : Addr} {len cap : Nat} {zs : List Int} (ht : P.underlying t = some (.slice e)) (hv : Value.okWide P W r base t (.slice (some a) len cap)) (hl : len ≤ cap) (hz : zs.length = cap)
    (hc : ∀ i, i < zs.length → W.cell? (a.add i) = some (.int k (zs.getD i 0))) :
    ∃ m' ι' b, Ini W m' ι' ∧ Inj.le ι ι' ∧ Gr m m' ∧ VRel ι' b (.slice (some a) len cap) ∧ Sl m' b 1 (fun n => [.int k n]) (zs.take len) := by
  obtain ⟨hsp, cs, el, fz, hb⟩ := has_slice ht hv
  obtain ⟨blk, off, spot⟩ := a
  simp only at hsp hb
  subst hsp
  by_cases h0 : cap = 0
  · have hl0 : len = 0 := by omega
    subst h0 hl0
    obtain ⟨i1, i2, i3⟩ := h.more (g := ⟨blk, 0, cs.size, 1⟩) (r := ⟨1, []⟩) hb (by simp) (by simp) rfl (fun i v hv => by simp at hv) (fun v hv => by cases hv) (by simp)
    refine ⟨_, _, .slice (some ⟨m.next, 0, none⟩) 0 1, i1, i2, i3, .slice (ins_new ι m.next _) (by omega) (by omega) (by omega) (fun h => absurd rfl h), ?_⟩
    refine .inr ⟨m.next, 0, 1, ⟨1, []⟩, by simp, by show m.next < m.next + 1; omega, by rw [Mem.get_more, if_pos rfl], rfl, by simp, fun i x hx => by simp at hx⟩
  · have hadd : ∀ i, (⟨blk, off, none⟩ : Addr).add i = ⟨blk, off + i, none⟩ := fun i => by
      unfold Addr.add
      split
      · subst_vars; simp
      · rfl
    have hcell : ∀ i, i < cap → cs[off + i]? = some (.int k (zs.getD i 0)) := fun i hi => by
      have := hc i (by omega)
      rw [hadd, cell_at hb] at this
      exact this
    have hoff : off + cap ≤ cs.size := by
      have := hcell (cap - 1) (by omega)
      have := (Array.getElem?_eq_some_iff.1 this).1
      omega
    obtain ⟨i1, i2, i3⟩ := h.more (g := ⟨blk, off, cs.size - off, 1⟩) (r := ⟨1, (zs.take len).map fun n => .int k n⟩) hb (by simp only; omega) (by simp; omega) rfl (fun i v hv => by
      rw [List.getElem?_map, List.getElem?_take] at hv
      split at hv
      · have hi : i < zs.length := by omega
        rw [List.getElem?_eq_getElem hi] at hv
        cases hv
        refine ⟨.int k zs[i], ?_, .base rfl⟩
        have := hcell i (by omega)
        rw [this]
        simp [List.getD, hi]
      · cases hv) (fun v hv => by
      obtain ⟨n, _, rfl⟩ := List.mem_map.1 hv
      rfl) (by simp)
    have hlt : (zs.take len).length = len := by simp; omega
    refine ⟨_, _, .slice (some ⟨m.next, 0, none⟩) len (len + 1), i1, i2, i3, .slice (ins_new ι m.next _) (by omega) hl (by omega) (fun _ => ⟨by simp, by simp only; omega⟩), ?_⟩
    refine .inr ⟨m.next, 0, len + 1, ⟨1, (zs.take len).map fun n => .int k n⟩, by rw [hlt], by show m.next < m.next + 1; omega, by rw [Mem.get_more, if_pos rfl], rfl, by simp, fun i x hx j hj => ?_⟩
    obtain rfl : j = 0 := by omega
    simp only [Nat.zero_add, Nat.mul_one, Nat.add_zero, List.getElem?_map, hx, Option.map_some, List.getElem?_cons_zero]
/-- What is read of a law, as a contract. -/
theorem contract {P : Program} {C : Code?} {W : World} {m m' : Mem} {ι : Inj} (h : Ini W m ι) (G : GS ⟨P, W, W.heap.size, m.next⟩ C) {f : FuncId} {args : List Value} {vs : Array Value} (hl : LRel ι args vs.toList) (hr : L C (.call f) args m [] = some ⟨.ret, [.bool true], m', []⟩) {fn : IFun} (hf : C.irs f = some fn) :
    Calls P f vs W fun e w' => e = .returned (.bool true) ∧ Below W.heap.size W w' := by
  have hg := (L_sound G).call f args m _ hr ι W vs h.rel hl
  obtain ⟨F, code, f1, f2, f3, f4, f5, f6⟩ := (G.irs f fn hf).ex
  have hen := enters f1 f2 f3 vs W
  rcases hg with ⟨_, hc⟩ | ⟨v, w', he, _⟩
  · refine hc.mono fun e w' hh => ?_
    obtain ⟨ι', hp, hx⟩ := hh
    cases e with
    | returned v' =>
      obtain ⟨_, u, hu, hv⟩ := hx
      cases hu
      exact ⟨by rw [hv.of_bool], hp.rel.below⟩
    | panicked ch => obtain ⟨v, v', h1, _⟩ := hx; cases h1
    | outgrown => exact hx.elim
  · rw [hen] at he; cases he
/-- What comes of nothing comes everywhere. -/
theorem given_true {P : Program} {C : Code?} (hm : P.follows .mixedOrders = true) (hfit : ∀ f fn, C.irs f = some fn → FitF P C f fn) (hg : ∀ f, C.gv f = none) {f : FuncId} {fn : IFun} (hf : C.irs f = some fn) {n : Nat} {m' : Mem} {d : List Dfr} (hr : E C n (.call f) [] ⟨[], 0, 0, 0⟩ [] = some ⟨.ret, [.bool true], m', d⟩)
    {cx : Cx} (hP : cx.P = P) {ι : Inj} {m : Mem} {w : World} (h : Rel cx ι m w) {vs : Array Value} (hv : vs.toList = []) : Goes P f vs w fun e w' => ∃ ι', Post cx ι m w ι' m w' ∧ ∃ v', e = .returned v' ∧ VRel ι' (.bool true) v' := by
  have G : GS ⟨P, w, w.heap.size, 0⟩ C := ⟨hm, hfit, fun f g h => (by rw [hg f] at h; cases h), fun f g h => (by rw [hg f] at h; cases h)⟩
  have hs := (E_sound G n).call f [] ⟨[], 0, 0, 0⟩ _ hr (fun _ => none) w vs (Ini.nil w).rel (by rw [hv]; exact LRel.nil)
  obtain ⟨F, code, f1, f2, f3, f4, f5, f6⟩ := (hfit f fn hf).ex
  have hen := enters f1 f2 f3 vs w
  rcases hs with ⟨h1, hc⟩ | ⟨v, w', he, _⟩
  · refine .inl ⟨h1, hc.mono fun e w' hh => ?_⟩
    obtain ⟨ι', hp, hx⟩ := hh
    cases e with
    | returned v' =>
      obtain ⟨_, u, hu, hv⟩ := hx
      cases hu
      exact ⟨ι, Post.ext h (Ext.of_below hp.rel.below), v', rfl, by rw [hv.of_bool]; exact .base rfl⟩
    | panicked ch => obtain ⟨v, v', h1, _⟩ := hx; cases h1
    | outgrown => exact hx.elim
  · rw [hen] at he; cases he
end Go.Proofs.Ytjojfpmelhaknaa.D
