/-
  A deterministic reading of the program's code: slices made, cut, indexed and grown.
-/
import Derived.Test.YtjojfpmelhaknaaD5
import Derived.Deep.AppendSrc
import Derived.Laws.MakeOwn
namespace Go.Proofs.Ytjojfpmelhaknaa.D
open Go.RowKit
set_option linter.unusedVariables false
set_option linter.unusedSimpArgs false

/-! ### Rows of zeros -/
def zerosL (z : List Value) (n : Nat) : List Value := (List.replicate n z).flatten
theorem zerosL_length (z : List Value) (n : Nat) : (zerosL z n).length = n * z.length := by
  induction n with
  | zero => simp [zerosL]
  | succ n ih =>
    simp only [zerosL, List.replicate_succ, List.flatten_cons, List.length_append] at ih ⊢
    rw [ih, Nat.succ_mul]; omega
theorem zerosL_get (z : List Value) (n i : Nat) (v : Value) (h : (zerosL z n)[i]? = some v) : z[i % z.length]? = some v := by
  induction n generalizing i with
  | zero => simp [zerosL] at h
  | succ n ih =>
    simp only [zerosL, List.replicate_succ, List.flatten_cons] at h ih
    rw [List.getElem?_append] at h
    split at h
    · rename_i hi; rw [Nat.mod_eq_of_lt hi]; exact h
    · rename_i hi
      have := ih _ h
      rw [Nat.mod_eq_sub_mod (by omega)]
      exact this
theorem zerosL_mem {z : List Value} {n : Nat} {p : Value → Prop} (h : ∀ u ∈ z, p u) : ∀ u ∈ zerosL z n, p u := by
  intro u hu
  simp only [zerosL, List.mem_flatten, List.mem_replicate] at hu
  obtain ⟨l, ⟨_, rfl⟩, hu⟩ := hu
  exact h u hu
theorem made_get {z : Array Value} {n i : Nat} {v : Value} (hi : i < n) (h : z.toList[i % z.toList.length]? = some v) : (madeCells z n)[i]? = some v := by
  simp only [Array.length_toList, Array.getElem?_toList] at h
  simp [madeCells, hi]
  rw [getElem!_def, h]

/-- The kind and the number of an integer. -/
def aMake (sz bytes : Nat) (z : List Value) (len cap : Value) (m : Mem) : Option (Value × Mem) :=
  (int? len).bind fun (_, l) => (int? cap).bind fun (_, c) => if 0 ≤ l then (if l ≤ c then (if (bytes : Int) * c ≤ 1099511627776 then (if c ≤ 1099511627776 then
    some (.slice (some ⟨m.next, 0, none⟩) l.toNat (if l = c then l.toNat else l.toNat + 1), m.push ⟨sz, zerosL z l.toNat⟩) else none) else none) else none) else none
theorem slice_new {cx : Cx} {ι : Inj} {m : Mem} {b z sz n c c' : Nat} (h1 : n ≤ c) (h2 : n ≤ c') (h3 : c = n → c' = n) (h4 : c' * sz ≤ z) :
    VRel (ins ι m.next ⟨b, 0, z, sz⟩) (.slice (some ⟨m.next, 0, none⟩) n c) (.slice (some ⟨b, 0, none⟩) n c') :=
  VRel.slice (g := ⟨b, 0, z, sz⟩) (off := 0) (ins_new _ _ _) h1 h2 h3 (fun _ => ⟨rfl, by simpa using h4⟩)
theorem aMake_sound {cx : Cx} {ι : Inj} {m m' : Mem} {w : World} {v a a' b b' : Value} (h : Rel cx ι m w) (ha : VRel ι a a') (hb : VRel ι b b') {t e : TypeId} {x : TI} (hs : cx.P.underlying t = some (.slice e)) (ht : TIs cx.P e x)
    (hv : aMake x.rsz x.bytes x.zero a b m = some (v, m')) : Sound cx ι m w (Instr.makeSlice t a' b') v m' := by
  unfold aMake at hv
  cases hi : int? a with
  | none => rw [hi] at hv; cases hv
  | some p =>
    cases hj : int? b with
    | none => rw [hi, hj] at hv; cases hv
    | some q =>
      obtain ⟨k, l⟩ := p; obtain ⟨k', c⟩ := q
      rw [hi, hj] at hv
      have e1 := int?_some hi; have e2 := int?_some hj
      subst e1 e2
      have e3 := ha.of_int; have e4 := hb.of_int
      subst e3 e4
      simp only [Option.bind_some] at hv
      split at hv
      · split at hv
        · split at hv
          · split at hv
            · cases hv
              obtain ⟨⟨i, z, h1, h2, h3, h4, h5, h6, h7, h8, h9⟩, _, hpl, _, hrsz, hun⟩ := ht
              have hr := run_make (P := cx.P) w t e i z hs h1 h2 k k' l c (by omega) (by omega) (by rw [h6]; omega) (by omega)
              have hz : (madeCells z.cells (c.toNat * i.size)).size = c.toNat * x.size := by rw [size_madeCells, h5]
              refine ⟨_, _, _, hr, new_sound h (.refl w) e x.rsz (zerosL x.zero l.toNat) _ ?_ ?_ (zerosL_mem h9) hrsz, slice_new (cx := cx) (by split <;> omega) (by omega) ?_ (by rw [hun]; exact Nat.le_of_eq hz.symm)⟩
              · rw [zerosL_length, h7, hz]; exact Nat.mul_le_mul_right _ (by omega)
              · intro j u hu
                have hj : j < (zerosL x.zero l.toNat).length := (List.getElem?_eq_some_iff.1 hu).1
                rw [zerosL_length, h7] at hj
                have hg := zerosL_get _ _ _ _ hu
                refine ⟨u, made_get (by rw [h5]; exact Nat.lt_of_lt_of_le hj (Nat.mul_le_mul_right _ (by omega))) (by rw [h3]; exact hg), .base (h8 u (List.mem_of_getElem? hg))⟩
              · intro hc
                split at hc <;> omega
            · cases hv
          · cases hv
        · cases hv
      · cases hv

/-- A slice with its elements. -/
def aLit (sz len : Nat) (z : List Value) (parts : List (Nat × Value)) (m : Mem) : Option (Value × Mem) :=
  if len * unit sz ≤ 16777216 then (fillL (fun i => if i < len then some (i * unit sz, unit sz) else none) (zerosL z len) parts).bind fun l => some (.slice (some ⟨m.next, 0, none⟩) len len, m.push ⟨sz, l⟩) else none
theorem fillL_length {places : Nat → Option (Nat × Nat)} : ∀ {ps : List (Nat × Value)} {l r : List Value}, fillL places l ps = some r → r.length = l.length := by
  intro ps
  induction ps with
  | nil => intro l r h; cases h; rfl
  | cons p t ih =>
    intro l r h
    obtain ⟨i, v⟩ := p
    unfold fillL at h
    split at h
    · cases h
    · split at h
      · rw [ih h, putL_length]
      · cases h
theorem aLit_sound {cx : Cx} {ι : Inj} {m m' : Mem} {w : World} {v : Value} (h : Rel cx ι m w) {t e : TypeId} {x : TI} (hs : cx.P.underlying t = some (.slice e)) (ht : TIs cx.P e x) {len : Nat} {ps ps' : List (Nat × Value)} (hn : ps.length = ps'.length)
    (hp : ∀ (i : Nat) p p', ps[i]? = some p → ps'[i]? = some p' → p.1 = p'.1 ∧ VRel ι p.2 p'.2) (hv : aLit x.rsz len x.zero ps m = some (v, m')) : Sound cx ι m w (Instr.buildSlice t len ps'.toArray) v m' := by
  unfold aLit at hv
  rw [ht.unit] at hv
  split at hv
  · rename_i hle
    cases hf : fillL (fun i => if i < len then some (i * x.size, x.size) else none) (zerosL x.zero len) ps with
    | none => rw [hf] at hv; cases hv
    | some l =>
      rw [hf] at hv
      cases hv
      obtain ⟨⟨i, z, h1, h2, h3, h4, h5, h6, h7, h8, h9⟩, _, hpl, _, hrsz, hun⟩ := ht
      have hzl : (zerosL x.zero len).length = len * x.size := by rw [zerosL_length, h7]
      let z0 : Array Value := if len * x.size = 0 then #[] else z.cells
      have hrel : LRel ι (zerosL x.zero len) ((Array.range (len * x.size)).map (z0[· % z0.size]!)).toList := by
        refine ⟨by rw [hzl]; simp, fun j u v a b => ?_⟩
        have hj : j < len * x.size := hzl ▸ (List.getElem?_eq_some_iff.1 a).1
        have hg := zerosL_get _ _ _ _ a
        have hz0 : z0 = z.cells := if_neg (by omega)
        have := made_get (z := z0) hj (by rw [hz0, h3]; exact hg)
        simp only [madeCells] at this
        rw [Array.getElem?_toList, this] at b
        cases b
        exact .base (h8 u (List.mem_of_getElem? hg))
      obtain ⟨cs', q1, q2⟩ := fillL_sound ps ps' _ _ l hrel hn hp hf
      have hq : Instr.fill (fun i => some (i * x.size, x.size)) ((Array.range (len * x.size)).map (z0[· % z0.size]!)) ps' = some cs' := by
        rw [← q1]
        refine fill_congr _ _ (fun y hy => ?_)
        obtain ⟨j, hj, rfl⟩ := List.mem_iff_getElem.1 hy
        have hj' : j < ps.length := by omega
        obtain ⟨e1, _⟩ := hp j _ _ (List.getElem?_eq_getElem hj') (List.getElem?_eq_getElem hj)
        have := fillL_in hf _ (List.getElem_mem hj')
        rw [e1] at this
        split
        · rfl
        · rename_i hh; rw [if_neg hh] at this; exact absurd rfl this
      have hl := fillL_length hf
      have hcs : cs'.size = len * x.size := by
        have := q2.1
        simp only [Array.length_toList] at this
        omega
      refine ⟨_, _, _, ?_, new_sound h (.refl w) e x.rsz l cs' (by omega) (lrel_arr q2) (fillL_ones (zerosL_mem h9) (parts_rel hn hp) hf) hrsz, slice_new (cx := cx) (Nat.le_refl _) (Nat.le_refl len) (fun _ => rfl) (by rw [hun]; exact Nat.le_of_eq hcs.symm)⟩
      unfold Instr.buildSlice
      rw [run_bind (run_underlying hs w)]
      simp only
      rw [run_bind (run_sizeOf h1 w), h5, if_neg (by omega)]
      by_cases hz : len * x.size = 0
      · rw [if_pos hz, run_bind (a := (#[] : Array Value)) (w1 := w) rfl]
        have e0 : z0 = #[] := if_pos hz
        rw [e0] at hq
        simp only [hq]
        rfl
      · rw [if_neg hz, run_bind (run_zeroValue h1 h2 w), run_bind (a := z.cells) (w1 := w) rfl]
        have e0 : z0 = z.cells := if_neg hz
        rw [e0] at hq
        simp only [hq]
        rfl
  · cases hv
end Go.Proofs.Ytjojfpmelhaknaa.D
