/-
  A deterministic reading of the program's code: appends, copies, texts and bytes, nil.
-/
import Derived.Test.YtjojfpmelhaknaaD8
namespace Go.Proofs.Ytjojfpmelhaknaa.D
open Go.RowKit
set_option linter.unusedVariables false
set_option linter.unusedSimpArgs false

theorem one_eq {v : Value} (h : one v = true) : v.oneCell' = true := by
  cases v with
  | chan r => cases r <;> first | rfl | simp [one] at h
  | agg => simp [one] at h
  | tuple => simp [one] at h
  | _ => rfl
theorem run_firstCells {P : Program} {w : World} {a : Addr} {size n c k : Nat} {cs : Array Value} (h : (loadCells a (n * size)).run P w = .ok cs w) : (Builtin.firstCells size n (.slice (some a) k c)).run P w = .ok cs w := h

/-- What is appended: how many, and their cells. -/
def aSrc (str : Bool) (sz : Nat) (y : Value) (m : Mem) : Option (Nat × List Value) :=
  match str with
  | true => (str? y).bind fun s => if sz = 1 then some (s.size, s.data.toList.map fun b => .int .u8 b.toNat) else none
  | false => (slc? y).bind fun
    | .nil => some (0, [])
    | .at_ o off n _ => (m.at_ o off (n * sz)).bind fun l => some (n, l)
theorem aSrc_sound {cx : Cx} {ι : Inj} {m : Mem} {w : World} {y y' : Value} (h : Rel cx ι m w) (hy : VRel ι y y') {i : TypeInfo} {sz : Nat} (hs : i.size = sz) {tx : TypeId} {str : Bool} {n : Nat} {l : List Value} (hv : aSrc str sz y m = some (n, l))
    (hk2 : str = true → cx.P.underlying tx = some .string) (hk3 : str = false → ∃ e', cx.P.underlying tx = some (.slice e')) :
    ∃ l', Src cx.P i.size tx y' n l' w ∧ LRel ι l l' ∧ (∀ u ∈ l, one u = true) ∧ l.length = n * sz := by
  unfold aSrc at hv
  cases str with
  | true =>
    simp only at hv
    cases hs' : str? y with
    | none => rw [hs'] at hv; cases hv
    | some s =>
    rw [hs'] at hv
    simp only [Option.bind_some] at hv
    have := str?_some hs'
    subst this
    have := hy.of_string
    subst this
    split at hv
    · rename_i h1
      cases hv
      subst hs
      have hb : ∀ u ∈ byteCells s, D.base u = true := by
        intro u hu
        simp only [byteCells, List.mem_map] at hu
        obtain ⟨b, _, rfl⟩ := hu
        rfl
      refine ⟨byteCells s, ?_, LRel.base hb, fun u hu => base_one (hb u hu), ?_⟩
      · rw [h1]; exact Src.ofString w (hk2 rfl) s
      · rw [h1, List.length_map, Array.length_toList, Nat.mul_one]; rfl
    · cases hv
  | false =>
    obtain ⟨e', he'⟩ := hk3 rfl
    simp only at hv
    cases hp : slc? y with
    | none => rw [hp] at hv; cases hv
    | some p =>
      rw [hp] at hv
      simp only [Option.bind_some] at hv
      cases p with
      | nil =>
        cases hv
        have := slc?_nil hp
        subst this
        obtain ⟨_, _, rfl⟩ := hy.of_nilslice
        exact ⟨[], Src.ofNil w he' 0, LRel.nil, (fun u hu => by cases hu), (by simp)⟩
      | at_ o off k c =>
        have := slc?_at hp
        subst this
        obtain ⟨o', off', g, a', c', e, ho, rfl, q1, q2, q3, q4⟩ := hy.of_slice
        cases e
        simp only at hv
        cases hl : m.at_ o off (k * sz) with
        | none => rw [hl] at hv; cases hv
        | some l0 =>
          rw [hl] at hv
          cases hv
          obtain ⟨l', r1, r2, r3, r4⟩ := load_sound h ho hl
          subst hs
          by_cases hk0 : n = 0
          · subst hk0
            have hl0 : l = [] := List.eq_nil_of_length_eq_zero (by simpa using r3)
            subst hl0
            exact ⟨[], Src.ofSlice w he' a' 0 c' [] (by simp) (by simp) (by simp), LRel.nil, (fun u hu => by cases hu), (by simp)⟩
          · obtain ⟨p1, p2⟩ := q4 (by omega)
            refine ⟨l', ⟨.inl ⟨e', he'⟩, fun _ => rfl, ?_, ?_, by rw [← r2.1]; exact r3, ?_⟩, r2, r4, r3⟩
            · rw [p1]; exact run_firstCells r1
            · rw [p1]
              have h2 : Rel cx ι m w.drew := (Post.ext h (ext_drew w)).rel
              obtain ⟨l2, s1, s2, s3, _⟩ := load_sound h2 ho hl
              have : l2 = l' := by
                unfold Mem.at_ at hl
                cases hr : m.get o with
                | none => rw [hr] at hl; cases hl
                | some r =>
                  simp only [hr, Option.bind_some] at hl
                  split at hl
                  · obtain ⟨cs, e, fz, k1, k2, k3, k4, k5, k6⟩ := (h.obj o g r ho hr).ex
                    have t1 := run_loadCells (P := cx.P) k1 (s := g.s + off) (n * i.size) (by omega)
                    have t2 := run_loadCells (P := cx.P) (w := w.drew) k1 (s := g.s + off) (n * i.size) (by omega)
                    rw [t1] at r1; rw [t2] at s1
                    simp only [Result.ok.injEq] at r1 s1
                    have e1 := r1.1.symm.trans s1.1
                    exact (by simpa using congrArg Array.toList e1 : l' = l2).symm
                  · cases hl
              subst this
              exact run_firstCells s1
            · intro u hu
              rw [← one_eq]
              exact r2.ones r4 u hu

def aApp (str : Bool) (sz bytes : Nat) (x y : Value) (m : Mem) : Option (Value × Mem) :=
  (aSrc str (unit sz) y m).bind fun (k, l) => (slc? x).bind fun
    | .nil => if k = 0 then some (x, m) else if k * bytes ≤ 274877906944 ∧ k ≤ 1099511627776 then some (.slice (some ⟨m.next, 0, none⟩) k (k + 1), m.push ⟨sz, l⟩) else none
    | .at_ o off n c =>
      if k = 0 then some (x, m)
      else if (n + k) * bytes ≤ 274877906944 ∧ n + k ≤ 1099511627776 then
        (if c = n then (m.at_ o off (n * unit sz)).bind fun l0 => some (.slice (some ⟨m.next, 0, none⟩) (n + k) (n + k + 1), m.push ⟨sz, l0 ++ l⟩)
         else (m.get o).bind fun r => if m.lo ≤ o ∧ r.sz = sz ∧ off + n * unit sz = r.cells.length then some (.slice (some ⟨m.next, 0, none⟩) (n + k) (n + k + 1), (m.del o).push ⟨sz, r.cells.drop off ++ l⟩) else none)
      else none
theorem growBy_le (newLen : Nat) : ∀ (rounds c : Nat), c ≤ 2 * newLen + 400 → Builtin.growBy newLen rounds c ≤ 2 * newLen + 400 := by
  intro rounds
  induction rounds with
  | zero => intro c h; exact h
  | succ r ih =>
    intro c h
    unfold Builtin.growBy
    split
    · exact h
    · exact ih _ (by omega)
theorem cap_le {need old : Nat} (h : old < need) : Builtin.nextslicecap need old ≤ 2 * need + 400 := by
  unfold Builtin.nextslicecap
  split
  · omega
  · split
    · omega
    · exact growBy_le need 4 old (by omega)
theorem grown_ge (w : World) (need old : Nat) (e : TypeId) : need ≤ grownCap w need old e := by
  exact Nat.le_add_right _ _
theorem fit_of {need cap bytes : Nat} (h : cap ≤ 2 * need + 400) (h0 : 1 ≤ need) (hb : need * bytes ≤ 274877906944) : cap * bytes ≤ 281474976710656 := by
  have a1 : cap * bytes ≤ (2 * need + 400) * bytes := Nat.mul_le_mul_right _ h
  have a2 : (2 * need + 400) * bytes = 2 * (need * bytes) + 400 * bytes := by rw [Nat.add_mul, Nat.mul_assoc]
  have a3 : 1 * bytes ≤ need * bytes := Nat.mul_le_mul_right _ h0
  omega
/-- No room: a new row. -/
theorem grow_sound {cx : Cx} {ι : Inj} {m : Mem} {w : World} (h : Rel cx ι m w) {t tx ty e : TypeId} {x : TI} (ht : cx.P.underlying t = some (.slice e)) (hx : TIs cx.P e x) {base : Option Addr} {n c' k : Nat} {l0 l l0' l' : List Value} {y' : Value} {i : TypeInfo} (hi : cx.P.info? e = some i)
    (h0 : (Builtin.firstCells i.size n (.slice base n c')).run cx.P w.drew = .ok l0'.toArray w.drew) (hr0 : LRel ι l0 l0') (h1 : ∀ u ∈ l0, one u = true) (hl0 : l0.length = n * x.size)
    (hs : Src cx.P i.size tx y' k l' w) (hr : LRel ι l l') (h2 : ∀ u ∈ l, one u = true) (hl : l.length = k * x.size) (hg : c' < n + k) (hb : (n + k) * x.bytes ≤ 274877906944 ∧ n + k ≤ 1099511627776) :
    Sound cx ι m w (Builtin.append_ #[t, tx] ty #[.slice base n c', y']) (.slice (some ⟨m.next, 0, none⟩) (n + k) (n + k + 1)) (m.push ⟨x.rsz, l0 ++ l⟩) := by
  have hrsz := hx.rsz
  have hun := hx.unit
  obtain ⟨⟨i', z, i1, i2, i3, i4, i5, i6, i7, i8, i9⟩, _⟩ := hx
  rw [hi] at i1; cases i1
  have hcap := cap_le hg
  have hfit : Builtin.nextslicecap (n + k) c' * i.bytes ≤ 281474976710656 := by
    rw [i6]
    exact fit_of hcap (by omega) hb.1
  have hrun := run_append_grow_src w t tx ty e i z ht hi i2 base n c' l0' h0 y' k l' hs hg (by omega) hfit
  have hrel := hr0.append hr
  have hge := grown_ge w (n + k) c' e
  refine ⟨_, _, _, hrun, new_sound h (ext_drew w) e x.rsz (l0 ++ l) _ ?_ ?_ ?_ hrsz, slice_new (cx := cx) (by omega) hge (fun hc => by omega) ?_⟩
  · have := hrel.1
    simp only [List.length_append] at this
    simp [Builtin.zeroCells]
    omega
  · intro j u hu
    obtain ⟨v', a, b⟩ := hrel.get hu
    refine ⟨v', ?_, b⟩
    rw [Array.getElem?_append_left (by simpa using (List.getElem?_eq_some_iff.1 a).1)]
    simpa using a
  · intro u hu
    rcases List.mem_append.1 hu with hu | hu
    · exact h1 u hu
    · exact h2 u hu
  · rw [hun]
    have hz : z.cells.size = x.size := by rw [← Array.length_toList, i3, i7]
    have e1 := hr0.1
    have e2 := hr.1
    simp only [Builtin.zeroCells, Array.size_append, List.size_toArray, List.length_append, Array.size_map, Array.size_range, hz]
    rw [← e1, ← e2, hl0, hl, ← Nat.add_mul, ← Nat.add_mul]
    exact Nat.le_of_eq (by congr 1; omega)
theorem run_append_nothing' {P : Program} {w : World} {t tx ty e : TypeId} {i : TypeInfo} (ht : P.underlying t = some (.slice e)) (hi : P.info? e = some i) (base : Option Addr) (n c : Nat) (hle : n ≤ c) (y : Value) (hs : Src P i.size tx y 0 [] w) :
    (Builtin.append_ #[t, tx] ty #[.slice base n c, y]).run P w = .ok (.slice base n c) w := by
  rcases hs.kind with ⟨e', hk⟩ | hk <;> cases base <;> simp [Builtin.append_, Go.run_underlying ht, Go.run_underlying hk, sizeOf, typeInfo, hi, hs.len, hle, hs.cells, storeCells]
theorem aApp_sound {cx : Cx} {ι : Inj} {m m' : Mem} {w : World} {v a a' y y' : Value} (h : Rel cx ι m w) (ha : VRel ι a a') (hy : VRel ι y y') {t tx ty e : TypeId} {x : TI} (ht : cx.P.underlying t = some (.slice e)) (hx : TIs cx.P e x)
    {str : Bool} (hk2 : str = true → cx.P.underlying tx = some .string) (hk3 : str = false → ∃ e', cx.P.underlying tx = some (.slice e')) (hv : aApp str x.rsz x.bytes a y m = some (v, m')) :
    Sound cx ι m w (Builtin.append_ #[t, tx] ty #[a', y']) v m' := by
  have hx0 := hx
  obtain ⟨⟨i, z, i1, i2, i3, i4, i5, i6, i7, i8, i9⟩, _⟩ := hx
  unfold aApp at hv
  rw [hx0.unit] at hv
  cases hsrc : aSrc str x.size y m with
  | none => rw [hsrc] at hv; cases hv
  | some p =>
    obtain ⟨k, l⟩ := p
    rw [hsrc] at hv
    simp only [Option.bind_some] at hv
    obtain ⟨l', hs, hr, h2, hl⟩ := aSrc_sound h hy i5 hsrc hk2 hk3
    cases hp : slc? a with
    | none => rw [hp] at hv; cases hv
    | some p =>
      rw [hp] at hv
      simp only [Option.bind_some] at hv
      cases p with
      | nil =>
        have := slc?_nil hp
        subst this
        obtain ⟨_, _, rfl⟩ := ha.of_nilslice
        simp only at hv
        split at hv
        · rename_i hk
          subst hk
          cases hv
          have hl0 : l' = [] := List.eq_nil_of_length_eq_zero (by rw [← hr.1, hl]; simp)
          subst hl0
          exact Sound.pure h (run_append_nothing' ht i1 none 0 0 (Nat.le_refl _) y' hs) (.base rfl)
        · split at hv
          · rename_i hb
            cases hv
            have := grow_sound (l0 := []) (l0' := []) (n := 0) (c' := 0) (ty := ty) (base := none) h ht hx0 i1 rfl LRel.nil (fun u hu => by cases hu) (by simp) hs hr h2 hl (by omega) (by simpa using hb)
            simpa using this
          · cases hv
      | at_ o off n c =>
        have := slc?_at hp
        subst this
        obtain ⟨o', off', g, a1, c', e1, ho, rfl, q1, q2, q3, q4⟩ := ha.of_slice
        cases e1
        simp only at hv
        split at hv
        · rename_i hk
          subst hk
          cases hv
          have hl0 : l' = [] := List.eq_nil_of_length_eq_zero (by rw [← hr.1, hl]; simp)
          subst hl0
          exact Sound.pure h (run_append_nothing' ht i1 (some a1) n c' q2 y' hs) ha
        · rename_i hk
          split at hv
          · rename_i hb
            split at hv
            · rename_i hc
              have hc' := q3 hc
              cases hat : m.at_ o off (n * x.size) with
              | none => rw [hat] at hv; cases hv
              | some l0 =>
                rw [hat] at hv
                cases hv
                have h2' : Rel cx ι m w.drew := (Post.ext h (ext_drew w)).rel
                obtain ⟨l0', s1, s2, s3, s4⟩ := load_sound h2' ho hat
                by_cases hn : n = 0
                · subst hn
                  have e0 : l0 = [] := List.eq_nil_of_length_eq_zero (by simpa using s3)
                  subst e0
                  have := grow_sound (l0 := []) (l0' := []) (n := 0) (c' := c') (ty := ty) (base := some a1) h ht hx0 i1 (by unfold Builtin.firstCells; rw [Nat.zero_mul]; rfl) LRel.nil (fun u hu => by cases hu) (by simp) hs hr h2 hl (by omega) (by simpa using hb)
                  simpa using this
                · obtain ⟨p1, p2⟩ := q4 (by omega)
                  exact grow_sound h ht hx0 i1 (by rw [p1, i5]; exact run_firstCells s1) s2 s4 s3 hs hr h2 hl (by omega) hb
            · rename_i hc
              cases hr0 : m.get o with
              | none => rw [hr0] at hv; cases hv
              | some r =>
                rw [hr0] at hv
                simp only [Option.bind_some] at hv
                split at hv
                · rename_i hcond
                  obtain ⟨d1, d2, d3⟩ := hcond
                  cases hv
                  have hA := h.obj o g r ho hr0
                  obtain ⟨cs, e', fz, k1, k2, k3, k4, k5, k6⟩ := hA.ex
                  obtain ⟨b1, b2, b3⟩ := k6 (Nat.le_trans h.lo d1)
                  have hat : m.at_ o off (n * x.size) = some (r.cells.drop off) := by
                    unfold Mem.at_
                    rw [hr0]
                    simp only [Option.bind_some]
                    rw [if_pos (by omega)]
                    congr 1
                    exact List.take_of_length_le (by simp; omega)
                  by_cases hroom : n + k ≤ c'
                  · -- in place
                    obtain ⟨p1, p2⟩ := q4 (by omega)
                    have hsz : x.size = g.sz := by rw [← hx0.unit, ← d2]; exact k4
                    have hle : off + (n + k) * x.size ≤ g.z := by
                      have : (n + k) * g.sz ≤ c' * g.sz := Nat.mul_le_mul_right _ hroom
                      rw [hsz]; omega
                    have hmul : (n + k) * x.size = n * x.size + k * x.size := Nat.add_mul _ _ _
                    obtain ⟨w', hst, hu⟩ := run_storeCells (P := cx.P) (b := g.b) (s := g.s + off + n * x.size) l' 0 cs w k1 (by rw [← hr.1, hl]; omega) b3.free (hr.ones h2)
                    have hlen : (putL cs.toList (g.s + off + n * x.size + 0) l').length = cs.size := by rw [putL_length]; simp
                    refine ⟨_, .slice (some a1) (n + k) c', w', ?_, Post.grow (off := off) (r' := ⟨x.rsz, r.cells.drop off ++ l⟩) h ho hr0 d1 hu (by simpa [putL_length] using k2) (by omega) (by simp only [List.length_append, List.length_drop, hl]; omega) d2.symm ?_ b1 (by simpa [putL_length] using b3) ?_ (fun t' e => absurd e (hx0.plain t')) ⟨cs, fz, k1⟩, ?_⟩
                    · have hadd : (a1.add (n * i.size)) = ⟨g.b, g.s + off + n * x.size, none⟩ := by rw [p1, addr_add, i5]
                      rcases hs.kind with ⟨e2, hk'⟩ | hk' <;> simp [Builtin.append_, Go.run_underlying ht, Go.run_underlying hk', sizeOf, typeInfo, i1, hs.len, hroom, hs.cells, hadd, hst]
                    · intro j u hu'
                      rw [List.getElem?_append] at hu'
                      simp only [List.getElem?_toArray, Nat.add_zero]
                      rw [putL_get cs.toList (g.s + off + n * x.size) l' _ (by simp only [Array.length_toList, ← hr.1, hl]; omega)]
                      have hdl : (r.cells.drop off).length = n * x.size := by simp; omega
                      rw [hdl] at hu'
                      split at hu'
                      · rename_i hj
                        rw [if_neg (by omega)]
                        rw [List.getElem?_drop] at hu'
                        obtain ⟨v', a, b⟩ := k5 _ u hu'
                        exact ⟨v', by simpa [Nat.add_assoc] using a, b⟩
                      · rename_i hj
                        have hjl : j - n * x.size < l.length := (List.getElem?_eq_some_iff.1 hu').1
                        rw [if_pos (by rw [← hr.1]; omega), show g.s + off + j - (g.s + off + n * x.size) = j - n * x.size by omega]
                        exact hr.get hu'
                    · intro u hu'
                      rcases List.mem_append.1 hu' with hu' | hu'
                      · exact hA.ones u (List.mem_of_mem_drop hu')
                      · exact h2 u hu'
                    · refine VRel.slice (g := ⟨g.b, g.s + off, g.z - off, g.sz⟩) (off := 0) (ins_new _ _ _) (by omega) hroom (fun hc => by omega) (fun _ => ⟨p1, ?_⟩)
                      simp only
                      omega
                  · -- a new row
                    have h2' : Rel cx ι m w.drew := (Post.ext h (ext_drew w)).rel
                    obtain ⟨l0', s1, s2, s3, s4⟩ := load_sound h2' ho hat
                    have hS : Sound cx ι m w (Builtin.append_ #[t, tx] ty #[.slice (some a1) n c', y']) (.slice (some ⟨m.next, 0, none⟩) (n + k) (n + k + 1)) (m.push ⟨x.rsz, r.cells.drop off ++ l⟩) := by
                      by_cases hn : n = 0
                      · subst hn
                        have e0 : r.cells.drop off = [] := List.eq_nil_of_length_eq_zero (by simpa using s3)
                        rw [e0]
                        have := grow_sound (l0 := []) (l0' := []) (n := 0) (c' := c') (ty := ty) (base := some a1) h ht hx0 i1 (by unfold Builtin.firstCells; rw [Nat.zero_mul]; rfl) LRel.nil (fun u hu => by cases hu) (by simp) hs hr h2 hl (by omega) (by simpa using hb)
                        simpa using this
                      · obtain ⟨p1, p2⟩ := q4 (by omega)
                        exact grow_sound h ht hx0 i1 (by rw [p1, i5]; exact run_firstCells s1) s2 s4 s3 hs hr h2 hl (by omega) hb
                    obtain ⟨ι', v', w', f1, f2, f3⟩ := hS
                    refine ⟨ι', v', w', f1, ?_, f3⟩
                    have hget : ∀ q, ((m.del o).push ⟨x.rsz, r.cells.drop off ++ l⟩).get q = if q = o then (if q = m.next then some ⟨x.rsz, r.cells.drop off ++ l⟩ else none) else (m.push ⟨x.rsz, r.cells.drop off ++ l⟩).get q := by
                      intro q
                      simp only [Mem.get_push, Mem.next_del, Mem.get_del]
                      split <;> split <;> simp_all
                    have hon : o < m.next := h.tight o g ho
                    have hsub : ∀ q rr, ((m.del o).push ⟨x.rsz, r.cells.drop off ++ l⟩).get q = some rr → (m.push ⟨x.rsz, r.cells.drop off ++ l⟩).get q = some rr := by
                      intro q rr hq
                      rw [hget] at hq
                      split at hq
                      · split at hq
                        · omega
                        · cases hq
                      · exact hq
                    exact {
                      le := f2.le
                      rel := { below := f2.rel.below, base := f2.rel.base, lo := f2.rel.lo, lonext := f2.rel.lonext, tight := f2.rel.tight, lt := f2.rel.lt
                               own := fun o1 o2 g1 g2 a b c d => f2.rel.own o1 o2 g1 g2 a b (fun hh => by
                                  cases hq : ((m.del o).push ⟨x.rsz, r.cells.drop off ++ l⟩).get o1 with
                                  | none => exact c hq
                                  | some rr => rw [hsub _ _ hq] at hh; cases hh) (fun hh => by
                                  cases hq : ((m.del o).push ⟨x.rsz, r.cells.drop off ++ l⟩).get o2 with
                                  | none => exact d hq
                                  | some rr => rw [hsub _ _ hq] at hh; cases hh)
                               obj := fun o1 g1 r1 a b => f2.rel.obj o1 g1 r1 a (hsub _ _ b)
                               ro := f2.rel.ro }
                      lo := f2.lo
                      next := f2.next
                      size := f2.size
                      new := f2.new
                      frame := f2.frame
                      dead := fun q hq hd => by
                        rw [hget]
                        split
                        · split
                          · omega
                          · rfl
                        · exact f2.dead q hq hd }
                · cases hv
          · cases hv
end Go.Proofs.Ytjojfpmelhaknaa.D
