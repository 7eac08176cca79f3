/-
  A deterministic reading of the program's code: memory operations, each with its proof.
-/
import Derived.Test.YtjojfpmelhaknaaD3
import Derived.Laws.BytesArg
namespace Go.Proofs.Ytjojfpmelhaknaa.D
open Go.RowKit
set_option linter.unusedVariables false
set_option linter.unusedSimpArgs false

def Sound (cx : Cx) (ι : Inj) (m : Mem) (w : World) (s : Sem Value) (v : Value) (m' : Mem) : Prop :=
  ∃ ι' v' w', s.run cx.P w = .ok v' w' ∧ Post cx ι m w ι' m' w' ∧ VRel ι' v v'
theorem Sound.pure {cx : Cx} {ι : Inj} {m : Mem} {w : World} {s : Sem Value} {v v' : Value} (h : Rel cx ι m w) (hr : s.run cx.P w = .ok v' w) (hv : VRel ι v v') : Sound cx ι m w s v m :=
  ⟨ι, v', w, hr, .refl h, hv⟩

/-! ### New rows -/
theorem run_newRow (P : Program) (e : TypeId) (cs : Array Value) (w : World) : (newRow e cs).run P w = .ok ⟨w.heap.size, 0, none⟩ (w.alloc (.cells cs e)) := rfl
theorem ext_alloc (w : World) (o : Obj) : Ext w (w.alloc o) :=
  ⟨rfl, rfl, rfl, by simp, fun k hk => Below.heap_alloc w o k hk⟩
theorem alloc_at (w : World) (o : Obj) : (w.alloc o).heap[w.heap.size]? = some o := by
  show (w.heap.push o)[w.heap.size]? = _
  simp
theorem ext_drew (w : World) : Ext w { w with drawn := w.drawn + 1 } := ⟨rfl, rfl, rfl, Nat.le_refl _, fun _ _ => rfl⟩

/-- A row that is made of related cells. -/
theorem new_sound {cx : Cx} {ι : Inj} {m : Mem} {w w1 : World} (h : Rel cx ι m w) (k : Ext w w1) (e : TypeId) (sz : Nat) (l : List Value) (cs : Array Value) (hl : l.length ≤ cs.size) (hc : ∀ (i : Nat) v, l[i]? = some v → ∃ v', cs[i]? = some v' ∧ VRel ι v v') (h1 : ∀ v ∈ l, one v = true) (hty : TyE cx.P sz e) :
    Post cx ι m w (ins ι m.next ⟨w1.heap.size, 0, cs.size, unit sz⟩) (m.push ⟨sz, l⟩) (w1.alloc (.cells cs e)) :=
  Post.push h (k.trans (ext_alloc w1 _)) (alloc_at w1 _) k.size ⟨sz, l⟩ hl hc (.inl rfl) h1 hty
theorem lrel_arr {ι : Inj} {l : List Value} {cs : Array Value} (h : LRel ι l cs.toList) : ∀ (i : Nat) v, l[i]? = some v → ∃ v', cs[i]? = some v' ∧ VRel ι v v' := fun i v hv => by
  obtain ⟨v', a, b⟩ := h.get hv
  exact ⟨v', by simpa using a, b⟩
theorem ptr_new {cx : Cx} {ι : Inj} {m : Mem} {b z sz : Nat} : VRel (ins ι m.next ⟨b, 0, z, sz⟩) (.pointer (some ⟨m.next, 0, none⟩)) (.pointer (some ⟨b, 0, none⟩)) :=
  VRel.ptr (g := ⟨b, 0, z, sz⟩) (off := 0) (ins_new _ _ _)

def aNew (sz : Nat) (z : List Value) (m : Mem) : Option (Value × Mem) := some (.pointer (some ⟨m.next, 0, none⟩), m.push ⟨sz, z⟩)
theorem aNew_sound {cx : Cx} {ι : Inj} {m m' : Mem} {w : World} {v : Value} (h : Rel cx ι m w) {t : TypeId} {x : TI} (ht : TIs cx.P t x) (hv : aNew x.esz x.zero m = some (v, m')) :
    Sound cx ι m w (Instr.alloc t true (.tuple #[])) v m' := by
  cases hv
  obtain ⟨⟨i, z, h1, h2, h3, h4, h5, h6, h7, h8, h9⟩, _, _, hesz, _⟩ := ht
  refine ⟨_, _, _, ?_, new_sound h (.refl w) t x.esz x.zero z.cells (by rw [← h3]; simp) (lrel_arr (by rw [h3]; exact LRel.base h8)) h9 hesz, ptr_new (cx := cx)⟩
  unfold Instr.alloc
  rw [run_bind (run_zeroValue h1 h2 w)]
  rfl

def aBox (sz : Nat) (x : Value) (m : Mem) : Option (Value × Mem) := if known x = true then some (.pointer (some ⟨m.next, 0, none⟩), m.push ⟨sz, x.cells.toList⟩) else none
theorem aBox_sound {cx : Cx} {ι : Inj} {m m' : Mem} {w : World} {v x x' : Value} {sz : Nat} (h : Rel cx ι m w) (hx : VRel ι x x') (t : TypeId) (hesz : TyE cx.P sz t) (hv : aBox sz x m = some (v, m')) :
    Sound cx ι m w (Instr.box t x') v m' := by
  unfold aBox at hv
  split at hv
  · rename_i hk
    cases hv
    have hc := hx.cells hk
    exact ⟨_, _, _, rfl, new_sound h (.refl w) t sz x.cells.toList x'.cells (by simpa using Nat.le_of_eq hc.1) (lrel_arr hc) (hx.ones hk) hesz, ptr_new (cx := cx)⟩
  · cases hv

/-! ### Loads and stores -/
def Mem.ld (m : Mem) (o off : Nat) : Option Value := (m.get o).bind fun r => r.cells[off]?
def Mem.st (m : Mem) (o off : Nat) (vs : List Value) : Option Mem := (m.get o).bind fun r => if m.lo ≤ o then (if off + vs.length ≤ r.cells.length then some (m.set o ⟨r.sz, putL r.cells off vs⟩) else none) else none

def aLoad (n : Nat) (agg : Bool) (x : Value) (m : Mem) : Option (Value × Mem) :=
  (addr? x).bind fun (o, off) => if agg then (m.at_ o off n).bind fun l => some (.agg l.toArray, m) else (m.ld o off).bind fun v => some (v, m)
theorem ld_sound {cx : Cx} {ι : Inj} {m : Mem} {w : World} (h : Rel cx ι m w) {o off : Nat} {g : Loc} {v : Value} (ho : ι o = some g) (hl : m.ld o off = some v) :
    ∃ v', w.cell? ⟨g.b, g.s + off, none⟩ = some v' ∧ VRel ι v v' := by
  unfold Mem.ld at hl
  cases hr : m.get o with
  | none => rw [hr] at hl; cases hl
  | some r =>
    simp only [hr, Option.bind_some] at hl
    obtain ⟨cs, e, fz, h1, h2, h3, h4, h5, h6⟩ := (h.obj o g r ho hr).ex
    obtain ⟨v', a, b⟩ := h5 off v hl
    exact ⟨v', by rw [cell_at h1]; exact a, b⟩
theorem loadVar_sound {cx : Cx} {ι : Inj} {m : Mem} {w : World} (h : Rel cx ι m w) {t : TypeId} {x : TI} (ht : TIs cx.P t x) {o off : Nat} {g : Loc} (ho : ι o = some g) {v : Value} {m' : Mem}
    (hv : (if x.agg then (m.at_ o off x.size).bind fun l => some (Value.agg l.toArray, m) else (m.ld o off).bind fun v => some (v, m)) = some (v, m')) :
    Sound cx ι m w (loadVar t ⟨g.b, g.s + off, none⟩) v m' := by
  unfold loadVar
  obtain ⟨⟨i, z, h1, h2, h3, h4, h5, _⟩, hg⟩ := ht
  split at hv
  · rename_i ha
    cases hl : m.at_ o off x.size with
    | none => rw [hl] at hv; cases hv
    | some l =>
      rw [hl] at hv
      cases hv
      obtain ⟨l', p, q, _, q1⟩ := load_sound h ho hl
      refine Sound.pure h ?_ (VRel.agg_l q q1)
      rw [run_bind (run_isAgg hg w), if_pos ha, run_bind (run_sizeOf h1 w), h5, run_bind p]
      rfl
  · rename_i ha
    cases hl : m.ld o off with
    | none => rw [hl] at hv; cases hv
    | some l =>
      rw [hl] at hv
      cases hv
      obtain ⟨v', p, q⟩ := ld_sound h ho hl
      refine Sound.pure h ?_ q
      rw [run_bind (run_isAgg hg w), if_neg ha]
      exact run_load p
theorem aLoad_sound {cx : Cx} {ι : Inj} {m m' : Mem} {w : World} {v a a' : Value} (h : Rel cx ι m w) (ha : VRel ι a a') {t : TypeId} {x : TI} (ht : TIs cx.P t x) (hv : aLoad x.size x.agg a m = some (v, m')) :
    Sound cx ι m w (Instr.loadAt t a') v m' := by
  unfold aLoad at hv
  cases hd : addr? a with
  | none => rw [hd] at hv; cases hv
  | some p =>
    obtain ⟨o, off⟩ := p
    rw [hd] at hv
    have := addr?_some hd
    subst this
    obtain ⟨o', off', g, e, ho, rfl⟩ := ha.of_ptr
    cases e
    exact loadVar_sound h ht ho hv

def aStore (n : Nat) (a x : Value) (m : Mem) : Option (Value × Mem) :=
  (addr? a).bind fun (o, off) => if known x = true ∧ x.cells.size = n then (m.st o off x.cells.toList).bind fun m' => some (undef, m') else none
theorem putL_rel {ι : Inj} {l vs vs' : List Value} {cs : Array Value} {s off : Nat} (hl : ∀ (i : Nat) v, l[i]? = some v → ∃ v', cs[s + i]? = some v' ∧ VRel ι v v') (hv : LRel ι vs vs') (h1 : off + vs.length ≤ l.length) (h2 : s + l.length ≤ cs.size) :
    ∀ (i : Nat) v, (putL l off vs)[i]? = some v → ∃ v', (putL cs.toList (s + off) vs').toArray[s + i]? = some v' ∧ VRel ι v v' := by
  intro i v hi
  rw [putL_get l off vs i h1] at hi
  simp only [List.getElem?_toArray]
  rw [putL_get cs.toList (s + off) vs' (s + i) (by simp [← hv.1]; omega)]
  split at hi
  · rw [if_pos (by rw [← hv.1]; omega), show s + i - (s + off) = i - off by omega]
    exact hv.get hi
  · rw [if_neg (by rw [← hv.1]; omega)]
    obtain ⟨v', p, q⟩ := hl i v hi
    exact ⟨v', by simpa using p, q⟩
theorem putL_ones {l vs : List Value} (hl : ∀ v ∈ l, one v = true) (hv : ∀ v ∈ vs, one v = true) (off : Nat) : ∀ v ∈ putL l off vs, one v = true := by
  induction vs generalizing l off with
  | nil => exact hl
  | cons v t ih =>
    refine ih (fun x hx => ?_) (fun x hx => hv x (by simp [hx])) _
    rcases List.mem_or_eq_of_mem_set hx with hx | rfl
    · exact hl x hx
    · exact hv x (by simp)
theorem st_sound {cx : Cx} {ι : Inj} {m m' : Mem} {w : World} (h : Rel cx ι m w) {o off : Nat} {g : Loc} {vs vs' : List Value} (ho : ι o = some g) (hv : LRel ι vs vs') (h0 : ∀ v ∈ vs, one v = true) (hs : m.st o off vs = some m') :
    ∃ w', (storeCells ⟨g.b, g.s + off, none⟩ vs').run cx.P w = .ok () w' ∧ Post cx ι m w ι m' w' := by
  have h1 := hv.ones h0
  unfold Mem.st at hs
  cases hr : m.get o with
  | none => rw [hr] at hs; cases hs
  | some r =>
    simp only [hr, Option.bind_some] at hs
    split at hs
    · rename_i hlo
      split at hs
      · rename_i hle
        cases hs
        obtain ⟨cs, e, fz, k1, k2, k3, k4, k5, k6⟩ := (h.obj o g r ho hr).ex
        obtain ⟨b1, b2, b3⟩ := k6 (Nat.le_trans h.lo hlo)
        obtain ⟨w', hrun, hu⟩ := run_storeCells (P := cx.P) (s := g.s + off) vs' 0 cs w k1 (by rw [← hv.1]; omega) b3.free h1
        refine ⟨w', hrun, Post.store (r' := ⟨r.sz, putL r.cells off vs⟩) h ho hr hlo hu (by simpa [putL_length] using k2) (by simpa [putL_length] using k3) rfl ?_ b1 (by simpa [putL_length] using b3) (putL_ones (h.obj o g r ho hr).ones h0 _) ⟨cs, fz, k1⟩⟩
        simp only [Nat.add_zero]
        exact putL_rel k5 hv hle (by omega)
      · cases hs
    · cases hs
theorem run_storeVar {P : Program} {t : TypeId} {i : TypeInfo} {v : Value} {a : Addr} (h1 : P.info? t = some i) (h2 : v.cells.size = i.size) (w : World) : (storeVar t a v).run P w = (storeCells a v.cells.toList).run P w := by
  unfold storeVar
  rw [run_bind (run_sizeOf h1 w), if_neg (by simp [h2])]
theorem aStore_sound {cx : Cx} {ι : Inj} {m m' : Mem} {w : World} {v a a' x x' : Value} (h : Rel cx ι m w) (ha : VRel ι a a') (hx : VRel ι x x') {t : TypeId} {y : TI} (ht : TIs cx.P t y) (hv : aStore y.size a x m = some (v, m')) :
    ∃ w', (Instr.storeAt t a' x').run cx.P w = .ok () w' ∧ Post cx ι m w ι m' w' ∧ v = undef := by
  unfold aStore at hv
  cases hd : addr? a with
  | none => rw [hd] at hv; cases hv
  | some p =>
    obtain ⟨o, off⟩ := p
    rw [hd] at hv
    simp only [Option.bind_some] at hv
    have := addr?_some hd
    subst this
    obtain ⟨o', off', g, e, ho, rfl⟩ := ha.of_ptr
    cases e
    split at hv
    · rename_i hc
      obtain ⟨c1, c2⟩ := hc
      cases hs : m.st o off x.cells.toList with
      | none => rw [hs] at hv; cases hv
      | some m1 =>
        rw [hs] at hv
        cases hv
        have hcell := hx.cells c1
        obtain ⟨w', hrun, hp⟩ := st_sound h ho hcell (hx.ones c1) hs
        obtain ⟨⟨i, z, h1, h2, h3, h4, h5, _⟩, hg⟩ := ht
        refine ⟨w', ?_, hp, rfl⟩
        have hsz : x'.cells.size = i.size := by
          have := hcell.1
          simp only [Array.length_toList] at this
          omega
        show (storeVar t _ x').run cx.P w = _
        rw [run_storeVar h1 hsz]
        exact hrun
    · cases hv
end Go.Proofs.Ytjojfpmelhaknaa.D
