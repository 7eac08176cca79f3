/-
  Structs, arguments, and what is read of a call of any arguments.
-/
import Derived.Test.YtjojfpmelhaknaaVO
import Derived.Test.YtjojfpmelhaknaaVZ
namespace Go.Proofs.Ytjojfpmelhaknaa.D
open Go.RowKit Go.ChangeShapes
set_option linter.unusedVariables false
set_option linter.unusedSimpArgs false
/-- The fields of a struct, from one on. -/
def OpensFs (P : Program) (o tot : Nat) (fs : List Field) {α : Type} (enc : α → List Value) (D : (H : Type) → α → List (DataW H) → Prop) : Prop :=
  ∀ (H : Type) (eh : TypeId × Value → H) (W : World) (m : Mem) (ι : Inj) (fuel : Nat) (cs : List Value) (xs : List (DataW H × List MemPlace)), Ini2 W m ι → ((∃ a n, Value.slice (some a) n 0 ∈ cs) → HB W) →
    cs.length = o + tot → xs.length = fs.length → (∀ (i : Nat) (f : Field), fs[i]? = some f → DataW.trod eh P W 0 (fun _ => true) true fuel f.type ((cs.drop f.offset).take (P.cellsOf f.type)) = xs[i]?) →
    ∃ a m' ι' bs, Ini2 W m' ι' ∧ Inj.le ι ι' ∧ Gr m m' ∧ Cs m' ι' (enc a) bs (cs.drop o) ∧ D H a (xs.map (·.1))
theorem opensFs_nil {P : Program} {o : Nat} : OpensFs P o 0 [] (fun _ : Unit => []) (fun H _ l => l = []) := by
  intro H eh W m ι fuel cs xs hi _ hl hx _
  have : xs = [] := List.eq_nil_of_length_eq_zero hx
  subst this
  refine ⟨(), m, ι, [], hi, Inj.le.refl _, Gr.refl _, ?_, rfl⟩
  rw [List.drop_of_length_le (by omega)]
  exact Cs.nil
theorem opensFs_cons {P : Program} {o z tot : Nat} {f : Field} {fs : List Field} {α β : Type} {enc : α → List Value} {Dr : (H : Type) → α → DataW H → Prop} {encs : β → List Value} {Ds : (H : Type) → β → List (DataW H) → Prop}
    (hf : Opens P f.type enc Dr) (ho : f.offset = o) (hz : P.cellsOf f.type = z) (hfs : OpensFs P (o + z) tot fs encs Ds) :
    OpensFs P o (z + tot) (f :: fs) (fun x : α × β => enc x.1 ++ encs x.2) (fun H x l => ∃ d r, l = d :: r ∧ Dr H x.1 d ∧ Ds H x.2 r) := by
  intro H eh W m ι fuel cs xs hi hB hl hx hr
  cases xs with
  | nil => simp at hx
  | cons d r =>
    have h0 := hr 0 f rfl
    rw [ho, hz] at h0
    obtain ⟨a, m1, ι1, b1, i1, i2, i3, i4, i5⟩ := hf H eh W m ι fuel _ d hi (fun ⟨a, n, hm⟩ => hB ⟨a, n, List.mem_of_mem_drop (List.mem_of_mem_take hm)⟩) h0
    obtain ⟨b, m2, ι2, b2, j1, j2, j3, j4, j5⟩ := hfs H eh W m1 ι1 fuel cs r i1 hB (by omega) (by simpa using hx) (fun i f' hf' => by simpa using hr (i + 1) f' (by simpa using hf'))
    refine ⟨(a, b), m2, ι2, b1 ++ b2, j1, i2.trans j2, i3.trans j3, ?_, d.1, r.map (·.1), rfl, i5, j5⟩
    have e : cs.drop o = (cs.drop o).take z ++ cs.drop (o + z) := by rw [← List.drop_drop, List.take_append_drop]
    rw [e]
    exact (i4.mono i1 j3 j2).append j4
theorem opens_struct {P : Program} {t : TypeId} {fs : Array Field} {α : Type} {enc : α → List Value} {Ds : (H : Type) → α → List (DataW H) → Prop} (ht : P.underlying t = some (.struct fs)) (hf : OpensFs P 0 (P.cellsOf t) fs.toList enc Ds) :
    Opens P t enc (fun H a d => ∃ l, d = .agg l ∧ Ds H a l) := by
  intro H eh W m ι fuel cs x hi hB h
  obtain ⟨xs, n, _, rfl, hl, hx, hr⟩ := DataW.trod_struct ht h
  obtain ⟨a, m', ι', bs, h1, h2, h3, h4, h5⟩ := hf H eh W m ι n cs xs hi hB (by omega) (by simpa using hx) (fun i f hf' => hr i f (by simpa using hf'))
  exact ⟨a, m', ι', bs, h1, h2, h3, by simpa using h4, _, rfl, h5⟩
/-! ### Arguments -/
theorem opens_struct2 {P : Program} {t : TypeId} {fs : Array Field} {tot : Nat} {α : Type} {enc : α → List Value} {Ds : (H : Type) → α → List (DataW H) → Prop} (ht : P.underlying t = some (.struct fs)) (hc : P.cellsOf t = tot) (hf : OpensFs P 0 tot fs.toList enc Ds) :
    Opens P t enc (fun H a d => ∃ l, d = .agg l ∧ Ds H a l) :=
  opens_struct ht (by rw [hc]; exact hf)
theorem hb_cell {P : Program} {W : World} {r : Reach} {base : Nat} {t : TypeId} {a : Addr} {n c : Nat} (h : Cell.okWide P W r base t (.slice (some a) n c)) : HB W := by
  unfold Cell.okWide at h
  split at h <;> first
    | (rename_i hh; cases hh; done)
    | (unfold Cell.ok at h
       split at h <;> first
         | (exact h.elim)
         | (rename_i e1 e2
            obtain ⟨_, _, _, _, row, cells, h3, _⟩ := h
            unfold World.shape? at h3
            cases e2
            split at h3
            · exact ⟨_, _, _, _, by assumption⟩
            · cases h3)
         | (rename_i e1 e2; cases e2))
theorem agg_row {P : Program} {W : World} {r : Reach} {base : Nat} {t : TypeId} {cs : Array Value} (h : Value.okWide P W r base t (.agg cs)) : Row.okWide P W r base t cs := by
  have hc : ¬ Cell.okWide P W r base t (.agg cs) := fun h => by
    unfold Cell.okWide at h
    split at h <;> first
      | (rename_i hh; cases hh; done)
      | (unfold Cell.ok at h
         split at h <;> first
           | exact h
           | (rename_i e1 e2; cases e2))
  unfold Value.okWide at h
  split at h
  · obtain ⟨c, e, _, h⟩ := h; cases e; exact h
  · obtain ⟨c, e, _, h⟩ := h; cases e; exact h
  · exact absurd h hc
theorem hb_arg {P : Program} {W : World} {r : Reach} {base : Nat} {t : TypeId} {v : Value} (h : Value.okWide P W r base t v) (hm : ∃ a n, Value.slice (some a) n 0 ∈ v.cells.toList) : HB W := by
  obtain ⟨a, n, hm⟩ := hm
  by_cases hv : ∃ cs, v = .agg cs
  · obtain ⟨cs, rfl⟩ := hv
    obtain ⟨ts, _, _, hr⟩ := agg_row h
    obtain ⟨i, hi⟩ := List.mem_iff_getElem?.1 hm
    obtain ⟨u, _, hu⟩ := hr i _ (by simpa [Value.cells] using hi)
    exact hb_cell hu
  · have e : v.cells = #[v] := by
      cases v <;> first
        | rfl
        | exact absurd ⟨_, rfl⟩ hv
    rw [e] at hm
    simp at hm
    subst hm
    unfold Value.okWide at h
    split at h
    · obtain ⟨c, e, _⟩ := h; cases e
    · obtain ⟨c, e, _⟩ := h; cases e
    · exact hb_cell h
theorem not_agg {P : Program} {W : World} {r : Reach} {base : Nat} {t : TypeId} {v : Value} (h : Value.okWide P W r base t v) (ht : (match P.underlying t with | some (.struct _) | some (.array _ _) => true | _ => false) = false) : v.cells.toList = [v] := by
  by_cases hv : ∃ cs, v = .agg cs
  · obtain ⟨cs, rfl⟩ := hv
    exfalso
    unfold Value.okWide at h
    split at h
    · rename_i e; rw [e] at ht; cases ht
    · rename_i e; rw [e] at ht; cases ht
    · unfold Cell.okWide at h
      split at h <;> first
        | (rename_i hh; cases hh; done)
        | (unfold Cell.ok at h
           split at h <;> first
             | exact h
             | (rename_i e1 e2; cases e2))
  · cases v <;> first
      | rfl
      | exact absurd ⟨_, rfl⟩ hv
theorem open_arg {P : Program} {t : TypeId} {α : Type} {enc : α → List Value} {Dr : (H : Type) → α → DataW H → Prop} (ho : Opens P t enc Dr) (ht : (match P.underlying t with | some (.struct _) | some (.array _ _) => true | _ => false) = false)
    {H : Type} {eh : TypeId × Value → H} {W : World} {m : Mem} {ι : Inj} (hi : Ini2 W m ι) {r : Reach} {base : Nat} {v : Value} (hval : Value.okWide P W r base t v) {d : DataW H} {p : List MemPlace} (hT : DataW.Trod eh P W 0 (fun _ => true) true t v d p) :
    ∃ a m' ι' b, Ini2 W m' ι' ∧ Inj.le ι ι' ∧ Gr m m' ∧ FR (pinOf m') ((enc a).headD undef) b ∧ VRel ι' b v ∧ Dr H a d := by
  obtain ⟨fuel, hf⟩ := hT
  obtain ⟨a, m', ι', bs, h1, h2, h3, h4, h5⟩ := ho H eh W m ι fuel _ (d, p) hi (fun h => hb_arg hval h) hf
  rw [not_agg hval ht] at h4
  have hl : bs.length = 1 := h4.d.1
  obtain ⟨b, rfl⟩ : ∃ b, bs = [b] := List.length_eq_one_iff.1 hl
  obtain ⟨x, hx⟩ : ∃ x, enc a = [x] := List.length_eq_one_iff.1 (by rw [h4.len]; rfl)
  refine ⟨a, m', ι', b, h1, h2, h3, ?_, h4.d.2 0 b v rfl rfl, h5⟩
  rw [hx]
  exact h4.v 0 x b (by rw [hx]; rfl) rfl
theorem open_args {P : Program} {t : TypeId} {α : Type} {enc : α → List Value} {Dr : (H : Type) → α → DataW H → Prop} (ho : Opens P t enc Dr) (ht : (match P.underlying t with | some (.struct _) => true | _ => false) = true)
    {H : Type} {eh : TypeId × Value → H} {W : World} {m : Mem} {ι : Inj} (hi : Ini2 W m ι) {r : Reach} {base : Nat} {v : Value} (hval : Value.okWide P W r base t v) {d : DataW H} {p : List MemPlace} (hT : DataW.Trod eh P W 0 (fun _ => true) true t v d p) :
    ∃ a m' ι' b, Ini2 W m' ι' ∧ Inj.le ι ι' ∧ Gr m m' ∧ FR (pinOf m') (.agg (enc a).toArray) b ∧ VRel ι' b v ∧ Dr H a d := by
  obtain ⟨fuel, hf⟩ := hT
  obtain ⟨a, m', ι', bs, h1, h2, h3, h4, h5⟩ := ho H eh W m ι fuel _ (d, p) hi (fun h => hb_arg hval h) hf
  have hv : ∃ cs, v = .agg cs := by
    unfold Value.okWide at hval
    split at hval
    · obtain ⟨c, e, _⟩ := hval; exact ⟨c, e⟩
    · obtain ⟨c, e, _⟩ := hval; exact ⟨c, e⟩
    · rename_i e1 e2
      split at ht
      · rename_i fs e; exact absurd e (e1 fs)
      · cases ht
  obtain ⟨cs, rfl⟩ := hv
  refine ⟨a, m', ι', .agg bs.toArray, h1, h2, h3, .agg (by simp [h4.len]) fun i u v hu hv => ?_, .agg (by have := h4.d.1; simpa [Value.cells] using this) (fun i u v hu hv => ?_) (by simpa using h4.one), h5⟩
  · exact h4.v i u v (by simpa using hu) (by simpa using hv)
  · exact h4.d.2 i u v (by simpa using hu) (by simpa [Value.cells] using hv)
theorem call_opened {l : List (Nat × GK)} (hl : ∀ x ∈ l, GvOk x.1 x.2) {f : FuncId} {fn : IFun} (hf : look irsT f = some fn) {W : World} (hG : GOK W) {m : Mem} {ι : Inj} (hi : Ini2 W m ι) {vargs dargs : List Value} {vs : Array Value}
    (h1 : LR (fun _ => none) (pinOf m) vargs dargs) (h2 : LRel ι dargs vs.toList) {m' : Mem} (hr : LV (CVg l) (.call f) vargs ⟨[], 0, 0, 0⟩ [] = some ⟨.ret, [.bool true], m', []⟩) :
    Calls Try.prog f vs W fun e w' => e = .returned (.bool true) ∧ Below W.heap.size W w' := by
  have hMM : MM (fun _ => none) (pinOf m) ⟨[], 0, 0, 0⟩ m := ⟨by rw [hi.ini.lo]; exact Nat.le_refl _, by rw [hi.ini.ro]; exact Nat.le_refl _, fun _ _ h => (by cases h), fun _ _ h => (by cases h), fun _ _ _ h => (by cases h), fun q r h => ⟨h, hi.dom q r h⟩⟩
  obtain ⟨dr, ι', Φ', e1, e2, e3⟩ := LV_sim (CR_of fun x hx => (hl x hx).1) _ _ _ _ _ _ _ _ _ _ _ hMM (.call f) h1 .nil hr
  obtain ⟨x, vals, dm', dd⟩ := dr
  obtain ⟨hx, hv, hd⟩ := e2
  simp only at hx hv hd
  cases hx
  obtain ⟨v, t, rfl, h1, h2'⟩ := hv.cons_inv
  have := h1.of_bool
  subst this
  have := h2'.nil_inv
  subst this
  cases hd
  exact contract hi.ini (GS_of hl hG m.next) h2 e1 hf
end Go.Proofs.Ytjojfpmelhaknaa.D
