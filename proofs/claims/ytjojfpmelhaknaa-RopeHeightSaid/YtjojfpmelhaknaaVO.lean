/-
  What is handed over, of any of the usual types, as values that no one writes.
-/
import Derived.Test.YtjojfpmelhaknaaV8
import Derived.ChangeArms
namespace Go.Proofs.Ytjojfpmelhaknaa.D
open Go.RowKit Go.ChangeShapes
set_option linter.unusedVariables false
set_option linter.unusedSimpArgs false
structure Ini2 (W : World) (m : Mem) (ι : Inj) : Prop where
  ini : Ini W m ι
  dom : ∀ q r, m.get q = some r → q < m.next
theorem Ini2.nil (W : World) : Ini2 W ⟨[], 0, 0, 0⟩ (fun _ => none) := ⟨Ini.nil W, fun _ _ h => by cases h⟩
def pinOf (m : Mem) : Pin := fun q => m.get q
def HB (W : World) : Prop := ∃ (b : Nat) (cs : Array Value) (e : TypeId) (fz : Nat × Nat), W.heap[b]? = some (Obj.cells cs e fz)
theorem Gr.pin {m m' : Mem} (h : Gr m m') (hd : ∀ q r, m.get q = some r → q < m.next) : Pin.le (pinOf m) (pinOf m') := fun q r hq => by
  unfold pinOf at *
  rw [h.get q (hd q r hq)]; exact hq
/-- Cells of the second reading, of the first, and of the machine. -/
structure Cs (m : Mem) (ι : Inj) (vs bs cs : List Value) : Prop where
  len : vs.length = bs.length
  v : ∀ (i : Nat) x y, vs[i]? = some x → bs[i]? = some y → FR (pinOf m) x y
  d : LRel ι bs cs
  one : ∀ b ∈ bs, one b = true
theorem Cs.nil {m : Mem} {ι : Inj} : Cs m ι [] [] [] := ⟨rfl, fun i x y h => by simp at h, LRel.nil, fun b h => by cases h⟩
theorem Cs.mono {W : World} {m m' : Mem} {ι ι' : Inj} {vs bs cs : List Value} (h : Cs m ι vs bs cs) (hi : Ini2 W m ι) (hg : Gr m m') (hl : Inj.le ι ι') : Cs m' ι' vs bs cs :=
  ⟨h.len, fun i x y a b => (h.v i x y a b).mono (hg.pin hi.dom), h.d.mono hl, h.one⟩
theorem Cs.append {m : Mem} {ι : Inj} {vs bs cs vs' bs' cs' : List Value} (h : Cs m ι vs bs cs) (k : Cs m ι vs' bs' cs') : Cs m ι (vs ++ vs') (bs ++ bs') (cs ++ cs') := by
  refine ⟨by simp [h.len, k.len], fun i x y a b => ?_, h.d.append k.d, fun b hb => ?_⟩
  · by_cases hi : i < vs.length
    · rw [List.getElem?_append_left hi] at a
      rw [List.getElem?_append_left (by rw [← h.len]; exact hi)] at b
      exact h.v i x y a b
    · rw [List.getElem?_append_right (by omega)] at a
      rw [List.getElem?_append_right (by rw [← h.len]; omega), ← h.len] at b
      exact k.v _ x y a b
  · rcases List.mem_append.1 hb with hb | hb
    · exact h.one b hb
    · exact k.one b hb
theorem Cs.base {m : Mem} {ι : Inj} {c : Value} (h : base c = true) : Cs m ι [c] [c] [c] := by
  refine ⟨rfl, fun i x y a b => ?_, LRel.cons (.base h) LRel.nil, fun b hb => ?_⟩
  · cases i with
    | zero => simp at a b; subst a b; exact .base h
    | succ j => simp at a
  · simp at hb; subst hb; exact base_one h
theorem Cs.single {m : Mem} {ι : Inj} {v b c : Value} (h1 : FR (pinOf m) v b) (h2 : VRel ι b c) (h3 : D.one b = true) : Cs m ι [v] [b] [c] := by
  refine ⟨rfl, fun i x y a b => ?_, LRel.cons h2 LRel.nil, fun b hb => ?_⟩
  · cases i with
    | zero => simp at a b; subst a b; exact h1
    | succ j => simp at a
  · simp at hb; subst hb; exact h3
/-- A type whose values can be taken as values that no one writes. -/
def Opens (P : Program) (t : TypeId) {α : Type} (enc : α → List Value) (D : (H : Type) → α → DataW H → Prop) : Prop :=
  ∀ (H : Type) (eh : TypeId × Value → H) (W : World) (m : Mem) (ι : Inj) (fuel : Nat) (cs : List Value) (x : DataW H × List MemPlace), Ini2 W m ι → ((∃ a n, Value.slice (some a) n 0 ∈ cs) → HB W) →
    DataW.trod eh P W 0 (fun _ => true) true fuel t cs = some x → ∃ a m' ι' bs, Ini2 W m' ι' ∧ Inj.le ι ι' ∧ Gr m m' ∧ Cs m' ι' (enc a) bs cs ∧ D H a x.1
theorem opens_int {P : Program} {t : TypeId} {k : IntKind} (ht : P.underlying t = some (.int k)) : Opens P t (fun n : Int => [.int k n]) (fun H n d => d = .lit (.int k n) ∧ (Lit.int k n).wf = true) := by
  intro H eh W m ι fuel cs x hi _ h
  obtain ⟨n, rfl, rfl, hw⟩ := DataW.trod_int ht h
  exact ⟨n, m, ι, _, hi, Inj.le.refl _, Gr.refl _, Cs.base rfl, rfl, hw⟩
theorem opens_bool {P : Program} {t : TypeId} (ht : P.underlying t = some .bool) : Opens P t (fun b : Bool => [.bool b]) (fun H b d => d = .lit (.bool b)) := by
  intro H eh W m ι fuel cs x hi _ h
  obtain ⟨b, rfl, rfl⟩ := DataW.trod_bool ht h
  exact ⟨b, m, ι, _, hi, Inj.le.refl _, Gr.refl _, Cs.base rfl, rfl⟩
theorem opens_string {P : Program} {t : TypeId} (ht : P.underlying t = some .string) : Opens P t es (fun H l d => d = .lit (.string l) ∧ l.length ≤ maxLen) := by
  intro H eh W m ι fuel cs x hi _ h
  obtain ⟨s, rfl, rfl, hw⟩ := DataW.trod_string ht h
  exact ⟨s.data.toList, m, ι, _, hi, Inj.le.refl _, Gr.refl _, Cs.base rfl, rfl, by rw [Array.length_toList]; exact hw⟩
theorem opens_u8 {P : Program} {t : TypeId} (ht : P.underlying t = some (.int .u8)) : Opens P t eb (fun H b d => d = .lit (.int .u8 b.toNat)) := by
  intro H eh W m ι fuel cs x hi _ h
  obtain ⟨n, rfl, rfl, hw⟩ := DataW.trod_int ht h
  have e : (Lit.int .u8 n).wf = (decide (0 ≤ n) && decide (n ≤ 255)) := rfl
  rw [e] at hw
  simp at hw
  have hn : n = ((UInt8.ofNat n.toNat).toNat : Int) := by
    simp [UInt8.toNat_ofNat']; omega
  refine ⟨UInt8.ofNat n.toNat, m, ι, [.int .u8 n], hi, Inj.le.refl _, Gr.refl _, ?_, by show DataW.lit (.int .u8 n) = .lit (.int .u8 ((UInt8.ofNat n.toNat).toNat : Int)); rw [← hn]⟩
  show Cs m ι [.int .u8 ((UInt8.ofNat n.toNat).toNat : Int)] _ _
  rw [← hn]; exact Cs.base rfl
/-- Elements, one behind the other. -/
theorem opens_elems {P : Program} {e : TypeId} {α : Type} {enc : α → List Value} {Dr : (H : Type) → α → DataW H → Prop} (he : Opens P e enc Dr) {H : Type} {eh : TypeId × Value → H} {W : World} (hB : HB W) {a : Addr} {sz fuel : Nat} :
    ∀ (l : List (DataW H × List MemPlace)) (k : Nat) (m : Mem) (ι : Inj), Ini2 W m ι → (∀ i, i < l.length → (W.cells? 0 (a.add ((k + i) * sz)) sz).bind (DataW.trod eh P W 0 (fun _ => true) true fuel e) = l[i]?) →
      ∃ (xs : List α) (m' : Mem) (ι' : Inj) (bs cs : List Value), Ini2 W m' ι' ∧ Inj.le ι ι' ∧ Gr m m' ∧ xs.length = l.length ∧ (∀ x ∈ xs, (enc x).length = sz) ∧ Cs m' ι' (xs.flatMap enc) bs cs ∧ cs.length = l.length * sz ∧
        (∀ i j, i < l.length → j < sz → W.cell? ((a.add ((k + i) * sz)).add j) = cs[i * sz + j]?) ∧ (∀ (i : Nat) x d, xs[i]? = some x → l[i]? = some d → Dr H x d.1) := by
  intro l
  induction l with
  | nil => intro k m ι hi _; exact ⟨[], m, ι, [], [], hi, Inj.le.refl _, Gr.refl _, rfl, fun x h => (by cases h), Cs.nil, by simp, fun i j h => by simp at h, fun i x d h => by simp at h⟩
  | cons d r ih =>
    intro k m ι hi hr
    have h0 := hr 0 (by simp)
    simp only [List.getElem?_cons_zero, Nat.add_zero] at h0
    obtain ⟨c0, hc, ht⟩ := Option.bind_eq_some_iff.1 h0
    obtain ⟨_, hlen, hcell⟩ := World.cells?_some hc
    obtain ⟨x, m1, ι1, b0, i1, i2, i3, i4, i5⟩ := he H eh W m ι fuel c0 d hi (fun _ => hB) ht
    obtain ⟨xs, m2, ι2, bs, cs, j1, j2, j3, j4, j5, j6, j7, j8, j9⟩ := ih (k + 1) m1 ι1 i1 (fun i hi => by
      have := hr (i + 1) (by simp; omega)
      rw [List.getElem?_cons_succ, show k + (i + 1) = k + 1 + i by omega] at this
      exact this)
    have hex : (enc x).length = sz := by rw [i4.len, i4.d.1, hlen]
    refine ⟨x :: xs, m2, ι2, b0 ++ bs, c0 ++ cs, j1, i2.trans j2, i3.trans j3, by simp [j4], ?_, ?_, ?_, ?_, ?_⟩
    · intro y hy
      rcases List.mem_cons.1 hy with rfl | hy
      · exact hex
      · exact j5 y hy
    · rw [List.flatMap_cons]
      exact (i4.mono i1 j3 j2).append j6
    · rw [List.length_append, hlen, j7, List.length_cons, Nat.add_mul, Nat.one_mul, Nat.add_comm]
    · intro i j hi hj
      cases i with
      | zero =>
        rw [Nat.zero_mul, Nat.zero_add, List.getElem?_append_left (by omega), Nat.add_zero]
        exact hcell j hj
      | succ i =>
        have := j8 i j (by simp at hi; omega) hj
        rw [show k + (i + 1) = k + 1 + i by omega, this, Nat.add_mul, Nat.one_mul, List.getElem?_append_right (by omega), hlen]
        congr 1; omega
    · intro i y d' hy hd'
      cases i with
      | zero => simp at hy hd'; subst hy hd'; exact i5
      | succ i => simp at hy hd'; exact j9 i y d' hy hd'
theorem flatM_get {α : Type} {enc : α → List Value} {sz : Nat} : ∀ (xs : List α), (∀ x ∈ xs, (enc x).length = sz) → ∀ (i j : Nat) e, (xs.map enc)[i]? = some e → j < sz → (xs.flatMap enc)[i * sz + j]? = e[j]? := by
  intro xs
  induction xs with
  | nil => intro _ i j e h; simp at h
  | cons x t ih =>
    intro hl i j e h hj
    have hx := hl x (by simp)
    rw [List.flatMap_cons]
    cases i with
    | zero =>
      simp at h; subst h
      rw [Nat.zero_mul, Nat.zero_add, List.getElem?_append_left (by omega)]
    | succ i =>
      simp only [List.map_cons, List.getElem?_cons_succ] at h
      rw [Nat.add_mul, Nat.one_mul, List.getElem?_append_right (by omega), hx, ← ih (fun y hy => hl y (by simp [hy])) i j e h hj]
      congr 1; omega
theorem opens_slice {P : Program} {t e : TypeId} {α : Type} {enc : α → List Value} {Dr : (H : Type) → α → DataW H → Prop} {sz : Nat} (ht : P.underlying t = some (.slice e)) (he : Opens P e enc Dr) (hsz : P.cellsOf e = sz) (h0 : 0 < sz) (hszl : sz < 4294967295 := by decide) :
    Opens P t (fun x : Bool × List α => [sq x.1 false sz (x.2.map enc)]) (fun H x d => (x = (false, []) ∧ d = .nil) ∨ ∃ l sp, x.1 = true ∧ d = .slice l sp ∧ l.length = x.2.length ∧ ∀ (i : Nat) a y, x.2[i]? = some a → l[i]? = some y → Dr H a y) := by
  intro H eh W m ι fuel cs x hi hB h
  rcases DataW.trod_slice ht h with ⟨rfl, rfl⟩ | ⟨a, len, cap, elems, rest, n, _, rfl, rfl, _, hlc, hmx, hel, hes, hrs, _⟩
  · exact ⟨(false, []), m, ι, _, hi, Inj.le.refl _, Gr.refl _, Cs.base rfl, .inl ⟨rfl, rfl⟩⟩
  · rw [hsz] at hes hrs
    by_cases hc0 : cap = 0
    · have hl0 : len = 0 := by omega
      subst hc0 hl0
      obtain ⟨b, cs, el, fq, hb⟩ := hB ⟨a, 0, by simp⟩
      obtain ⟨i1, i2, i3⟩ := hi.ini.more (g := ⟨b, 0, cs.size, sz⟩) (r := ⟨sz, []⟩) hb (by simp) (by simp) rfl (fun i v hv => by simp at hv) (fun v hv => by cases hv) hszl
      refine ⟨(true, []), m.more ⟨sz, []⟩, _, [.slice (some ⟨m.next, 0, none⟩) 0 1], ⟨i1, fun q r hq => ?_⟩, i2, i3, Cs.single ?_ (.slice (ins_new ι m.next _) (by omega) (by omega) (by omega) (fun h => absurd rfl h)) rfl, .inr ⟨[], _, rfl, by
        have := List.eq_nil_of_length_eq_zero hel
        rw [this]; rfl, rfl, fun i a y h => by simp at h⟩⟩
      · rw [Mem.get_more] at hq
        show q < m.next + 1
        split at hq
        · omega
        · have := hi.dom q r hq; omega
      · have : sq true false sz (List.map enc ([] : List α)) = fz sz false [] := by simp [sq]
        show FR _ (sq true false sz (List.map enc ([] : List α))) _
        rw [this]
        exact .fz (q := m.next) (off := 0) (r := ⟨sz, []⟩) (fz?_fz sz false []) (by unfold pinOf; rw [Mem.get_more, if_pos rfl]) rfl (unit_lt hszl) (fun h => by cases h) (fun e h => by cases h) (by simp) (fun i e j x y h => by simp at h)
    · -- a cell of it
      have hlast : ∀ i, i < cap → ∃ cz, W.cells? 0 (a.add (i * sz)) sz = some cz := by
        intro i hi
        by_cases hl : i < len
        · have := hes i hl
          rw [List.getElem?_eq_getElem (by omega)] at this
          obtain ⟨c, hc, _⟩ := Option.bind_eq_some_iff.1 this
          exact ⟨c, hc⟩
        · obtain ⟨hr1, hr2⟩ := hrs rfl
          have := hr2 (i - len) (by omega)
          rw [List.getElem?_eq_getElem (by omega), show len + (i - len) = i by omega] at this
          obtain ⟨c, hc, _⟩ := Option.bind_eq_some_iff.1 this
          exact ⟨c, hc⟩
      obtain ⟨cz0, hcz0⟩ := hlast 0 (by omega)
      obtain ⟨_, hzl0, hzc0⟩ := World.cells?_some hcz0
      have hz0 := hzc0 0 h0
      rw [List.getElem?_eq_getElem (by omega)] at hz0
      have hsp : a.spot = none := by
        have := World.cell?_spot hz0
        simpa [Addr.add] using this
      obtain ⟨cz, hcz⟩ := hlast (cap - 1) (by omega)
      obtain ⟨_, hzl, hzc⟩ := World.cells?_some hcz
      have hz1 := hzc (sz - 1) (by omega)
      rw [List.getElem?_eq_getElem (by omega)] at hz1
      obtain ⟨blk, off, spot⟩ := a
      simp only at hsp
      subst hsp
      have hadd : ∀ i j, (((⟨blk, off, none⟩ : Addr).add i).add j) = ⟨blk, off + i + j, none⟩ := fun i j => by
        have h2 : ∀ o i, (⟨blk, o, none⟩ : Addr).add i = ⟨blk, o + i, none⟩ := fun o i => by
          unfold Addr.add
          split
          · subst_vars; simp
          · rfl
        rw [h2, h2]
      obtain ⟨cells, el, fzz, hb⟩ : ∃ cells el fzz, W.heap[blk]? = some (.cells cells el fzz) := by
        rw [hadd] at hz1
        unfold World.cell? at hz1
        split at hz1
        · exact ⟨_, _, _, by assumption⟩
        · cases hz1
      have hcellAt : ∀ o, W.cell? ⟨blk, o, none⟩ = cells[o]? := fun o => by
        unfold World.cell?
        simp only [hb]
        rfl
      have hoff : off + cap * sz ≤ cells.size := by
        rw [hadd, hcellAt] at hz1
        have := (Array.getElem?_eq_some_iff.1 hz1).1
        have e : cap * sz = (cap - 1) * sz + sz := by
          obtain ⟨c, rfl⟩ : ∃ c, cap = c + 1 := ⟨cap - 1, by omega⟩
          rw [Nat.add_sub_cancel, Nat.add_mul, Nat.one_mul]
        omega
      obtain ⟨xs, m1, ι1, bs, cs, j1, j2, j3, j4, j5, j6, j7, j8, j9⟩ := opens_elems he (eh := eh) (W := W) ⟨blk, cells, el, fzz, hb⟩ (a := ⟨blk, off, none⟩) (sz := sz) (fuel := n) elems 0 m ι hi (fun i hi' => by rw [Nat.zero_add]; exact hes i (by omega))
      have hbl : bs.length = len * sz := by rw [j6.d.1, j7, hel]
      have hle : len * sz ≤ cap * sz := Nat.mul_le_mul_right _ hlc
      obtain ⟨i1, i2, i3⟩ := j1.ini.more (g := ⟨blk, off, cells.size - off, sz⟩) (r := ⟨sz, bs⟩) hb (by simp only; omega) (by simp only; omega) rfl (fun i v hv => by
        have hil : i < bs.length := (List.getElem?_eq_some_iff.1 hv).1
        have hi1 : i / sz < len := by rw [Nat.div_lt_iff_lt_mul h0]; omega
        have hi2 : i % sz < sz := Nat.mod_lt _ h0
        have hdm : i / sz * sz + i % sz = i := by rw [Nat.mul_comm]; exact Nat.div_add_mod i sz
        have hq := j8 (i / sz) (i % sz) (by omega) hi2
        rw [Nat.zero_add, hadd, hcellAt, hdm, Nat.add_assoc, hdm] at hq
        have hci : i < cs.length := by rw [← j6.d.1]; exact hil
        refine ⟨cs[i], by rw [hq]; exact List.getElem?_eq_getElem hci, j6.d.2 i v _ hv (List.getElem?_eq_getElem hci)⟩) j6.one hszl
      refine ⟨(true, xs), m1.more ⟨sz, bs⟩, _, [.slice (some ⟨m1.next, 0, none⟩) len (len + 1)], ⟨i1, fun q r hq => ?_⟩, j2.trans i2, j3.trans i3, Cs.single ?_ (.slice (ins_new ι1 m1.next _) (by omega) hlc (by omega) (fun _ => ⟨by simp, by simp only; omega⟩)) rfl, .inr ⟨elems.map (·.1), _, rfl, rfl, by simp [j4], fun i y d hy hd => ?_⟩⟩
      · rw [Mem.get_more] at hq
        show q < m1.next + 1
        split at hq
        · omega
        · have := j1.dom q r hq; omega
      · have : sq true false sz (List.map enc xs) = fz sz false (List.map enc xs) := by simp [sq]
        show FR _ (sq true false sz (List.map enc xs)) _
        rw [this]
        refine .fz (q := m1.next) (off := 0) (r := ⟨sz, bs⟩) (fz?_fz sz false (List.map enc xs)) (by unfold pinOf; rw [Mem.get_more, if_pos rfl]) (by simp; omega) (unit_lt hszl) (fun h => by cases h) (fun e h => ?_) (by simp only; omega) (fun i e j x y h1 h2 h3 => ?_)
        · obtain ⟨x, hx, rfl⟩ := List.mem_map.1 h
          exact j5 x hx
        · have hel2 : e.length = sz := by
            obtain ⟨x', hx', rfl⟩ := List.mem_map.1 (List.mem_of_getElem? h1)
            exact j5 x' hx'
          have hj : j < sz := by rw [← hel2]; exact (List.getElem?_eq_some_iff.1 h2).1
          have hf := flatM_get xs j5 i j e h1 hj
          rw [h2] at hf
          rw [Nat.zero_add] at h3
          exact (j6.v (i * sz + j) x y hf h3).mono (i3.pin j1.dom)
      · rw [List.getElem?_map] at hd
        obtain ⟨d', hd', rfl⟩ := Option.map_eq_some_iff.1 hd
        exact j9 i y d' hy hd'
end Go.Proofs.Ytjojfpmelhaknaa.D
