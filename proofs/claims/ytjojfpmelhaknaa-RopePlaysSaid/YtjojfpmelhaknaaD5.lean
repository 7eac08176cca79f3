/-
  A deterministic reading of the program's code: values built, cut and read.
-/
import Derived.Test.YtjojfpmelhaknaaD4
namespace Go.Proofs.Ytjojfpmelhaknaa.D
open Go.RowKit
set_option linter.unusedVariables false
set_option linter.unusedSimpArgs false

/-! ### Structs and arrays built -/
theorem zipIdx_foldl (vs : List Value) (off i : Nat) (cs : Array Value) : (vs.zipIdx i).foldl (fun (cs : Array Value) (p : Value × Nat) => cs.setIfInBounds (off + p.2) p.1) cs = (putL cs.toList (off + i) vs).toArray := by
  induction vs generalizing i cs with
  | nil => simp [putL]
  | cons v t ih =>
    simp only [List.zipIdx_cons, List.foldl_cons, putL]
    rw [ih]
    simp [Nat.add_assoc]
/-- The parts put where they belong. -/
def fillL (places : Nat → Option (Nat × Nat)) : List Value → List (Nat × Value) → Option (List Value)
  | l, [] => some l
  | l, (i, v) :: t =>
    match places i with
    | none => none
    | some (off, size) => if known v = true ∧ v.cells.size = size ∧ off + size ≤ l.length then fillL places (putL l off v.cells.toList) t else none
theorem putL_lrel {ι : Inj} {l l' vs vs' : List Value} (hl : LRel ι l l') (hv : LRel ι vs vs') (off : Nat) (h : off + vs.length ≤ l.length) : LRel ι (putL l off vs) (putL l' off vs') :=
  ⟨by rw [putL_length, putL_length]; exact hl.1, fun i u v a b => by
    rw [putL_get l off vs i h] at a
    rw [putL_get l' off vs' i (by rw [← hl.1, ← hv.1]; exact h), ← hv.1] at b
    split at a
    · rw [if_pos ‹_›] at b; exact hv.2 _ u v a b
    · rw [if_neg ‹_›] at b; exact hl.2 i u v a b⟩
theorem fillL_sound {ι : Inj} {places : Nat → Option (Nat × Nat)} : ∀ (ps ps' : List (Nat × Value)) (l : List Value) (cs : Array Value) (r : List Value), LRel ι l cs.toList → ps.length = ps'.length →
    (∀ (i : Nat) p p', ps[i]? = some p → ps'[i]? = some p' → p.1 = p'.1 ∧ VRel ι p.2 p'.2) → fillL places l ps = some r → ∃ cs', Instr.fill places cs ps' = some cs' ∧ LRel ι r cs'.toList := by
  intro ps
  induction ps with
  | nil =>
    intro ps' l cs r hl hn _ h
    have : ps' = [] := List.eq_nil_of_length_eq_zero hn.symm
    subst this
    cases h
    exact ⟨cs, rfl, hl⟩
  | cons p t ih =>
    intro ps' l cs r hl hn hp h
    obtain ⟨i, v⟩ := p
    cases ps' with
    | nil => simp at hn
    | cons p' t' =>
      obtain ⟨i', v'⟩ := p'
      obtain ⟨hi, hv⟩ := hp 0 _ _ rfl rfl
      simp only at hi hv
      subst hi
      unfold fillL at h
      split at h
      · cases h
      · rename_i off size hpl
        split at h
        · rename_i hc
          obtain ⟨c1, c2, c3⟩ := hc
          have hcell := hv.cells c1
          have hsz : v'.cells.size = size := by
            have := hcell.1
            simp only [Array.length_toList] at this
            omega
          have hln := hl.1
          simp only [Array.length_toList] at hln
          unfold Instr.fill
          simp only [hpl]
          rw [if_neg (by simp [hsz]; omega)]
          have hz := zipIdx_foldl v'.cells.toList off 0 cs
          rw [Nat.add_zero] at hz
          have hz' : v'.cells.zipIdx.foldl (fun cs (c, j) => cs.setIfInBounds (off + j) c) cs = (putL cs.toList off v'.cells.toList).toArray := by
            rw [← hz, ← Array.foldl_toList]
            simp
          rw [hz']
          refine ih t' _ _ r ?_ (by simpa using hn) (fun i p p' a b => hp (i + 1) p p' (by simpa using a) (by simpa using b)) h
          simpa using putL_lrel hl hcell off (by simp [c2]; omega)
        · cases h

def aBuild (places : List (Nat × Nat)) (zero : List Value) (parts : List (Nat × Value)) : Option Value := (fillL (places[·]?) zero parts).map fun l => .agg l.toArray
structure BI where
  places : List (Nat × Nat)
  zero : List Value
/-- A struct's fields: where they lie, and how great they are; of an array: its elements. -/
def bi (P : Program) (t : TypeId) : Option BI :=
  match ti P t, P.underlying t with
  | some x, some (.struct fields) => (fields.toList.mapM fun f => (P.info? f.type).map fun i => (f.offset, i.size)).map fun l => ⟨l, x.zero⟩
  | some x, some (.array n e) => if n ≤ 4096 then (P.info? e).map fun i => ⟨(List.range n).map fun j => (j * i.size, i.size), x.zero⟩ else none
  | _, _ => none
theorem mapM_fields {P : Program} {fs : List Field} {l : List (Nat × Nat)} (h : (fs.mapM fun f => (P.info? f.type).map fun i => (f.offset, i.size)) = some l) (w : World) :
    (fs.mapM (m := Sem) fun f => do pure (f.offset, ← sizeOf f.type)).run P w = .ok l w := by
  induction fs generalizing l with
  | nil => simp at h; subst h; rfl
  | cons f t ih =>
    simp only [List.mapM_cons] at h ⊢
    cases hi : P.info? f.type with
    | none => simp [hi] at h
    | some i =>
      cases ht : (t.mapM fun f => (P.info? f.type).map fun i => (f.offset, i.size)) with
      | none => simp [hi, ht] at h
      | some l' =>
        simp [hi, ht] at h
        subst h
        rw [run_bind (a := (f.offset, i.size)) (w1 := w) (by rw [run_bind (run_sizeOf hi w)]; rfl), run_bind (ih ht)]
        rfl
theorem fill_congr {p q : Nat → Option (Nat × Nat)} (cs : Array Value) (ps : List (Nat × Value)) (h : ∀ x ∈ ps, p x.1 = q x.1) : Instr.fill p cs ps = Instr.fill q cs ps := by
  induction ps generalizing cs with
  | nil => rfl
  | cons x t ih =>
    obtain ⟨i, v⟩ := x
    have e := h (i, v) (by simp)
    simp only at e
    unfold Instr.fill
    rw [e]
    cases q i with
    | none => rfl
    | some y =>
      obtain ⟨off, size⟩ := y
      simp only
      split
      · rfl
      · exact ih _ (fun y hy => h y (by simp [hy]))
theorem fillL_in {places : Nat → Option (Nat × Nat)} : ∀ {ps : List (Nat × Value)} {l r : List Value}, fillL places l ps = some r → ∀ x ∈ ps, places x.1 ≠ none := by
  intro ps
  induction ps with
  | nil => intro l r _ x hx; cases hx
  | cons p t ih =>
    intro l r h x hx
    obtain ⟨i, v⟩ := p
    unfold fillL at h
    split at h
    · cases h
    · rename_i hpl
      split at h
      · cases hx with
        | head => rw [hpl]; simp
        | tail _ hx => exact ih h x hx
      · cases h
theorem fillL_ones {ι : Inj} {places : Nat → Option (Nat × Nat)} : ∀ {ps : List (Nat × Value)} {l r : List Value}, (∀ v ∈ l, one v = true) → (∀ p ∈ ps, ∃ v', VRel ι p.2 v') → fillL places l ps = some r → ∀ v ∈ r, one v = true := by
  intro ps
  induction ps with
  | nil => intro l r hl _ h; cases h; exact hl
  | cons p t ih =>
    intro l r hl hp h
    obtain ⟨i, v⟩ := p
    unfold fillL at h
    split at h
    · cases h
    · split at h
      · rename_i hc
        obtain ⟨v', hv⟩ := hp (i, v) (by simp)
        exact ih (putL_ones hl (hv.ones hc.1) _) (fun q hq => hp q (by simp [hq])) h
      · cases h
theorem parts_rel {ι : Inj} {ps ps' : List (Nat × Value)} (hn : ps.length = ps'.length) (hp : ∀ (i : Nat) p p', ps[i]? = some p → ps'[i]? = some p' → p.1 = p'.1 ∧ VRel ι p.2 p'.2) : ∀ p ∈ ps, ∃ v', VRel ι p.2 v' := by
  intro p h
  obtain ⟨j, hj, rfl⟩ := List.mem_iff_getElem.1 h
  exact ⟨_, (hp j _ _ (List.getElem?_eq_getElem hj) (List.getElem?_eq_getElem (hn ▸ hj))).2⟩
theorem aBuild_sound {cx : Cx} {ι : Inj} {m : Mem} {w : World} {v : Value} (h : Rel cx ι m w) {t : TypeId} {x : BI} (hb : bi cx.P t = some x) {ps ps' : List (Nat × Value)} (hn : ps.length = ps'.length)
    (hp : ∀ (i : Nat) p p', ps[i]? = some p → ps'[i]? = some p' → p.1 = p'.1 ∧ VRel ι p.2 p'.2) (hv : aBuild x.places x.zero ps = some v) :
    Sound cx ι m w (Instr.build t ps'.toArray) v m := by
  unfold aBuild at hv
  cases hf : fillL (x.places[·]?) x.zero ps with
  | none => rw [hf] at hv; cases hv
  | some l =>
    rw [hf] at hv
    cases hv
    unfold bi at hb
    split at hb
    · rename_i y fields ht hu
      cases hl : (fields.toList.mapM fun f => (cx.P.info? f.type).map fun i => (f.offset, i.size)) with
      | none => rw [hl] at hb; cases hb
      | some places =>
        rw [hl] at hb
        cases hb
        obtain ⟨⟨i, z, h1, h2, h3, h4, h5, h6, h7, h8, h9⟩, hg⟩ := ti_spec ht
        obtain ⟨cs', q1, q2⟩ := fillL_sound ps ps' y.zero z.cells l (by rw [h3]; exact LRel.base h8) hn hp hf
        refine Sound.pure h ?_ (VRel.agg_l q2 (fillL_ones h9 (parts_rel hn hp) hf))
        unfold Instr.build
        rw [run_bind (run_zeroValue h1 h2 w), run_bind (run_underlying hu w)]
        have hm : (fields.mapM (m := Sem) fun f => do pure (f.offset, ← sizeOf f.type)).run cx.P w = .ok places.toArray w := by
          rw [Array.mapM_eq_mapM_toList]
          have := mapM_fields hl w
          show (Sem.bind _ _).run _ _ = _
          exact run_bind this
        simp only
        rw [run_bind hm]
        simp only [List.getElem?_toArray, q1]
        simp [pure, Sem.run]
    · rename_i y n e ht hu
      split at hb
      · cases hi : cx.P.info? e with
        | none => rw [hi] at hb; cases hb
        | some i0 =>
          rw [hi] at hb
          cases hb
          obtain ⟨⟨i, z, h1, h2, h3, h4, h5, h6, h7, h8, h9⟩, hg⟩ := ti_spec ht
          obtain ⟨cs', q1, q2⟩ := fillL_sound ps ps' y.zero z.cells l (by rw [h3]; exact LRel.base h8) hn hp hf
          refine Sound.pure h ?_ (VRel.agg_l q2 (fillL_ones h9 (parts_rel hn hp) hf))
          unfold Instr.build
          rw [run_bind (run_zeroValue h1 h2 w), run_bind (run_underlying hu w)]
          simp only
          rw [run_bind (run_sizeOf hi w)]
          have hq : Instr.fill (fun i => some (i * i0.size, i0.size)) z.cells ps' = some cs' := by
            rw [← q1]
            refine fill_congr _ _ (fun x hx => ?_)
            obtain ⟨j, hj, rfl⟩ := List.mem_iff_getElem.1 hx
            have hj' : j < ps.length := by omega
            obtain ⟨e1, _⟩ := hp j _ _ (List.getElem?_eq_getElem hj') (List.getElem?_eq_getElem hj)
            have := fillL_in hf _ (List.getElem_mem hj')
            rw [← e1]
            rw [List.getElem?_map] at this ⊢
            cases hr : (List.range n)[ps[j].1]? with
            | none => rw [hr] at this; simp at this
            | some k =>
              have : k = ps[j].1 := by
                rw [List.getElem?_eq_some_iff] at hr
                obtain ⟨_, hr⟩ := hr
                simpa using hr.symm
              simp [this]
          simp only [hq]
          simp [pure, Sem.run]
      · cases hb
    · cases hb

theorem lrel_cells {ι : Inj} {l l' : List Value} (h : LRel ι l l') (h1 : ∀ u ∈ l, one u = true) (off n : Nat) (hle : off + n ≤ l.length) : VRel ι (.agg ((l.drop off).take n).toArray) (.agg (l'.toArray.extract off (off + n))) := by
  have := VRel.agg_l ((h.drop off).take n) (fun u hu => h1 u (List.mem_of_mem_drop (List.mem_of_mem_take hu)))
  simpa [List.drop_take] using this

/-- A part of a struct or an array. -/
def aPart (agg : Bool) (n off : Nat) (l : List Value) : Option Value := if agg then (if off + n ≤ l.length then some (.agg ((l.drop off).take n).toArray) else none) else l[off]?
theorem aPart_sound {cx : Cx} {ι : Inj} {m : Mem} {w : World} {v : Value} (h : Rel cx ι m w) {t : TypeId} {x : TI} (ht : TIs cx.P t x) {l : List Value} {cs : Array Value} (hl : LRel ι l cs.toList) (h0 : ∀ u ∈ l, one u = true) {off : Nat} (hv : aPart x.agg x.size off l = some v) :
    Sound cx ι m w (part t cs off) v m := by
  obtain ⟨⟨i, z, h1, h2, h3, h4, h5, _⟩, hg⟩ := ht
  unfold aPart at hv
  unfold part
  split at hv
  · rename_i ha
    split at hv
    · rename_i hle
      cases hv
      have := lrel_cells hl h0 off x.size hle
      refine Sound.pure h ?_ this
      rw [run_bind (run_isAgg hg w), if_pos ha, run_bind (run_sizeOf h1 w), h5]
      rfl
    · cases hv
  · rename_i ha
    obtain ⟨u, p, q⟩ := hl.get hv
    refine Sound.pure h ?_ q
    rw [run_bind (run_isAgg hg w), if_neg ha]
    simp only [Array.getElem?_toList] at p
    simp [p, pure, Sem.run]
end Go.Proofs.Ytjojfpmelhaknaa.D
