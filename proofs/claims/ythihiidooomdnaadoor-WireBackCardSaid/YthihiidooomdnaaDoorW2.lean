/-
  What Split answers to frames.
-/
import Derived.Test.YthihiidooomdnaaDoorW1
namespace Go.Proofs.YthihiidooomdnaaDoor.D
open Go.RowKit
set_option linter.unusedVariables false
set_option linter.unusedSimpArgs false
theorem Sp.out_step (s : Sp) (c : Int) : (s.step c).out.length ≤ s.out.length + 1 := by
  unfold Sp.step
  split
  · unfold Sp.byte
    split
    · simp
    · split
      · rw [Sp.bad_out]; exact Nat.le_refl _
      · simp [Sp.begin]
  · split
    · unfold Sp.pass; split <;> simp [Sp.begin]
    · unfold Sp.digit
      split
      · split
        · rw [Sp.bad_out]; exact Nat.le_refl _
        · simp
      · split
        · rw [Sp.bad_out]; exact Nat.le_refl _
        · simp
theorem step_V {m : Mem} {o : Nat} {s : Sp} {hv ov : Value} {els : List (List Value)} (h : Rep m o s hv ov els) (hok : s.Ok) (hb : s.out.length < 100000000) {c : Nat} (hc : c < 256) :
    ∃ m' hv' ov' els', LV CV (.call (if s.st = 1 then 20 else if s.st = 2 then 21 else 22)) [.pointer (some ⟨o, 0, none⟩), .int .u8 c] m [] = some ⟨.ret, [.tuple #[]], m', []⟩ ∧ Rep m' o (s.step c) hv' ov' els' := by
  unfold Sp.step
  by_cases h1 : s.st = 1
  · rw [if_pos h1, if_pos h1]; exact byte_V h hok h1 hb hc
  · rw [if_neg h1, if_neg h1]
    by_cases h2 : s.st = 2
    · rw [if_pos h2, if_pos h2]
      obtain ⟨m', hv', e, r⟩ := pass_V h c
      exact ⟨m', hv', ov, els, e, r⟩
    · rw [if_neg h2, if_neg h2]
      have h0 : s.st = 0 := by rcases hok.st with h | h | h; exact h; exact absurd h h1; exact absurd h h2
      exact digit_V h hok h0 hb hc
theorem feed_loop {o : Nat} {b : List UInt8} (hbl : b.length < 10000000) (nn tt : Bool) : ∀ (k i : Nat) (m : Mem) (s : Sp) (hv ov : Value) (els : List (List Value)), i + k = b.length → Rep m o s hv ov els → s.Ok → s.out.length ≤ i →
    ∃ m' hv' ov' els', LV CV (.loop 1400) [.pointer (some ⟨o, 0, none⟩), sq nn tt 1 (b.map eb), .int .i64 b.length, .int .i64 i] m [] = some ⟨.exit 0, [.pointer (some ⟨o, 0, none⟩), sq nn tt 1 (b.map eb), .int .i64 b.length, .int .i64 b.length], m', []⟩ ∧
      Rep m' o (s.run (zs (b.drop i))) hv' ov' els' := by
  intro k
  induction k with
  | zero =>
    intro i m s hv ov els hi h hok ho
    obtain rfl : i = b.length := by omega
    refine ⟨m, hv, ov, els, Q1400 ?_, by rw [List.drop_length]; exact h⟩
    simp [y1400]
  | succ k ih =>
    intro i m s hv ov els hi h hok ho
    have hlt : i < b.length := by omega
    have hw : IntKind.wrap .i64 ((i : Int) + 1) = (i : Int) + 1 := wrap_i64 (by omega) (by omega)
    have hd : b.drop i = b[i] :: b.drop (i + 1) := List.drop_eq_getElem_cons hlt
    obtain ⟨m1, hv1, ov1, els1, e1, r1⟩ := step_V h hok (by omega) (c := b[i].toNat) b[i].toNat_lt
    have hos := Sp.out_step s b[i].toNat
    obtain ⟨m2, hv2, ov2, els2, e2, r2⟩ := ih (i + 1) m1 _ hv1 ov1 els1 (by omega) r1 (hok.step _) (by omega)
    rw [Int.natCast_add, Int.natCast_one] at e2
    refine ⟨m2, hv2, ov2, els2, Q1400 ?_, by rw [hd]; exact r2⟩
    have ht := take_V h
    generalize (if s.st = 1 then 20 else if s.st = 2 then 21 else 22) = F at *
    simp [y1400, hlt, ht, fn?, e1, hw, e2]
end Go.Proofs.YthihiidooomdnaaDoor.D

namespace Go.Proofs.YthihiidooomdnaaDoor.D
open Go.RowKit
set_option linter.unusedVariables false
set_option linter.unusedSimpArgs false
theorem new_V (m : Mem) (hm : m.lo = m.next) : LV CV (.call 13) [] m [] = some ⟨.ret, [.pointer (some ⟨m.next, 0, none⟩)], m.push ⟨0, [.int .i64 0, .slice none 0 0, .int .i64 0, .int .i64 0, .slice none 0 0]⟩, []⟩ ∧ Rep (m.push ⟨0, [.int .i64 0, .slice none 0 0, .int .i64 0, .int .i64 0, .slice none 0 0]⟩) m.next Sp.new (.slice none 0 0) (.slice none 0 0) [] := by
  refine ⟨R13 ?_, ⟨by simp [Sp.new], by simpa using hm, by simp, Own.nil (by simp; omega), Own.nil (by simp; omega), rfl, fun i e it h => by simp at h⟩⟩
  simp [x13, aBuild, fillL, letK]
theorem feed_V {o : Nat} {b : List UInt8} (hbl : b.length < 10000000) (nn tt : Bool) {m : Mem} {hv ov : Value} {els : List (List Value)} (h : Rep m o Sp.new hv ov els) :
    ∃ m1 m' hv' ov' els', LV CV (.call 14) [.pointer (some ⟨o, 0, none⟩), sq nn tt 1 (b.map eb)] m [] = some ⟨.ret, [ov'], m', []⟩ ∧ Rep m1 o (Sp.new.run (zs b)) hv' ov' els' ∧ m' = m1.set o ⟨0, [.int .i64 (Sp.new.run (zs b)).st, hv', .int .i64 (Sp.new.run (zs b)).n, .int .i64 (Sp.new.run (zs b)).want, .slice none 0 0]⟩ := by
  obtain ⟨m1, hv', ov', els', e, r⟩ := feed_loop hbl nn tt b.length 0 m Sp.new hv ov els (by omega) h Sp.Ok.new (Nat.le_refl _)
  simp only [List.drop_zero, Int.natCast_zero] at e r
  refine ⟨m1, _, hv', ov', els', R14 ?_, r, rfl⟩
  have hlo := Nat.le_of_eq r.lo
  have hrow := r.row
  generalize (Sp.new.run (zs b)).st = S1 at *
  generalize (Sp.new.run (zs b)).n = S2 at *
  generalize (Sp.new.run (zs b)).want = S3 at *
  simp [x14, e, hrow, st_one, hlo, putL]
/-- A marked call with live arguments: they are fixed, and the memory is given up. -/
theorem call_live {f : FuncId} {fn : IFun} (hg : CV.gv f = none) (hp : CV.pu f = true) (hf : CV.irs f = some fn) {a : List Value} {m : Mem} (hn : a.length ≤ fn.n) (hc : a.all (clo FUEL) = false) {b : List Value} (hb : a.map (frz FUEL 0 m) = b) (hc' : b.all (clo FUEL) = true) {r : Out}
    (h : LV CV (.call f) b ⟨[], m.next, m.lo, m.ro⟩ [] = some r) : LV CV (.call f) a m [] = some r := by
  rw [L_callQ hg hp hf a m [] hn hc, hb]
  rw [L_callP hg hp hf b _ [] (by rw [← hb, List.length_map]; exact hn) hc'] at h
  exact h
/-- What an item is when all is fixed. -/
def FixIt (it : It) (e : List Value) : Prop := ∃ l nn tt, e = [.bool it.bad, sq nn tt 1 (l.map eb)] ∧ it.b = zs l
end Go.Proofs.YthihiidooomdnaaDoor.D

namespace Go.Proofs.YthihiidooomdnaaDoor.D
open Go.RowKit
set_option linter.unusedVariables false
set_option linter.unusedSimpArgs false
theorem frz_out {m : Mem} {ov : Value} {sz : Nat} {els : List (List Value)} (h : Own m ov sz els) {n0 : Nat} (h0 : n0 ≤ m.lo) (k : Nat) : frz (k + 1) n0 m ov = sq false false sz (els.map fun e => e.map (frz k 0 m)) := by
  rcases h.at_ with ⟨rfl, rfl⟩ | ⟨o, c, hne, rfl, hcn, hg, hlo, _⟩
  · rfl
  · have hle : 0 + els.length * sz ≤ els.flatten.length := by rw [vflat_len h.lens]; omega
    rw [frz_slice (by omega) hg hle]
    have e : els.flatten.map (D.frz k 0 m) = (els.map fun e => e.map (frz k 0 m)).flatten := by rw [List.map_flatten]
    have hl : ∀ e ∈ els.map (fun e => e.map (frz k 0 m)), e.length = sz := fun e he => by obtain ⟨d, hd, rfl⟩ := List.mem_map.1 he; rw [List.length_map]; exact h.lens d hd
    have hc2 := chunk_flat hl
    rw [List.length_map] at hc2
    simp only [e, List.drop_zero, hc2]
    have : (c == els.length) = false := by simpa using hcn
    rw [this]
    unfold sq
    rw [if_neg (fun hh => hne (by simpa using hh.1))]
theorem frz_item {m : Mem} {hv : Value} {it : It} {e : List Value} (h : ItemAt m hv it e) {l : List UInt8} (hl : it.b = zs l) (k : Nat) : FixIt it (e.map (frz (k + 3) 0 m)) := by
  obtain ⟨v, rfl, hv2⟩ := h
  rcases hv2 with ⟨hq | hq, hb⟩ | ⟨q, c, rfl, h2, h3, h4, h5⟩
  · subst hq
    exact ⟨[], false, false, by simp [sq], by rw [hb]; rfl⟩
  · subst hq
    exact ⟨[], true, true, by simp [sq], by rw [hb]; rfl⟩
  · refine ⟨l, true, c == it.b.length, ?_, hl⟩
    have hle : 0 + it.b.length * 1 ≤ (it.b.map fun n => Value.int .u8 n).length := by simp
    simp only [List.map_cons, List.map_nil, frz_bool]
    rw [frz_slice (Nat.zero_le _) h2 hle]
    have hz : it.b.map (fun n => Value.int .u8 n) = (l.map eb).flatten := by
      rw [hl, eb_flat]; simp [zs]
    have hc2 := chunk_flat (els := l.map eb) (sz := 1) (fun e he => by obtain ⟨d, _, rfl⟩ := List.mem_map.1 he; rfl)
    have hlen : it.b.length = (l.map eb).length := by rw [hl, zs_length, List.length_map]
    have hm : ((l.map eb).flatten).map (frz (k + 2) 0 m) = (l.map eb).flatten := by
      rw [eb_flat, List.map_map]
      apply List.map_congr_left
      intro b _
      rfl
    simp only [hz, hm, List.drop_zero]
    rw [hlen, hc2]
    simp [sq]
end Go.Proofs.YthihiidooomdnaaDoor.D

namespace Go.Proofs.YthihiidooomdnaaDoor.D
open Go.RowKit
set_option linter.unusedVariables false
set_option linter.unusedSimpArgs false
theorem rest_V {m : Mem} {o : Nat} {a c d e : Value} (hg : m.get o = some ⟨0, [a, .slice none 0 0, c, d, e]⟩) : LV CV (.call 15) [.pointer (some ⟨o, 0, none⟩)] m [] = some ⟨.ret, [.slice none 0 0], m, []⟩ := by
  have hcl : LV CV (.call 18) [.slice none 0 0] m [] = some ⟨.ret, [.slice none 0 0], m, []⟩ := by
    refine R18 ?_
    simp [x18]
  refine R15 ?_
  simp [x15, hg, hcl]
theorem ItemAt.set {m : Mem} {o : Nat} {hv : Value} {it : It} {e : List Value} {r r' : Row} (h : ItemAt m hv it e) (hg : m.get o = some r) (hz : r.sz = 0) : ItemAt (m.set o r') hv it e := by
  obtain ⟨v, rfl, hv2⟩ := h
  refine ⟨v, rfl, ?_⟩
  rcases hv2 with hq | ⟨q, c, h1, h2, h3, h4, h5⟩
  · exact .inl hq
  · have hqo : q ≠ o := fun e => by subst e; rw [hg] at h2; cases h2; cases hz
    exact .inr ⟨q, c, h1, by rw [Mem.get_set, if_neg hqo]; exact h2, by simpa using h3, by simpa using h4, h5⟩
theorem split_V {b : List UInt8} (hbl : b.length < 10000000) (nn tt : Bool) (hh : (Sp.new.run (zs b)).held = []) (hs : ∀ it ∈ (Sp.new.run (zs b)).out, ∃ l, it.b = zs l) (m : Mem) :
    ∃ els, LV CV (.call 10) [sq nn tt 1 (b.map eb)] m [] = some ⟨.ret, [.tuple #[sq false false 2 els, .slice none 0 0]], m, []⟩ ∧ els.length = (Sp.new.run (zs b)).out.length ∧ ∀ (i : Nat) e it, els[i]? = some e → (Sp.new.run (zs b)).out[i]? = some it → FixIt it e := by
  obtain ⟨e1, r1⟩ := new_V ⟨[], m.next, m.next, 0⟩ rfl
  obtain ⟨m1, m2, hv', ov', els', e2, r2, hm2⟩ := feed_V hbl nn tt r1
  have hnil : hv' = .slice none 0 0 := by
    rcases r2.held.at_ with ⟨h, _⟩ | ⟨o, c, hne, _⟩
    · exact h
    · exact absurd (by rw [hh]; rfl) hne
  subst hnil
  have hg2 : m2.get m.next = some ⟨0, [.int .i64 (Sp.new.run (zs b)).st, .slice none 0 0, .int .i64 (Sp.new.run (zs b)).n, .int .i64 (Sp.new.run (zs b)).want, .slice none 0 0]⟩ := by rw [hm2]; simp
  have e3 := rest_V hg2
  have hov : ∀ n c, ov' ≠ .slice (some ⟨m.next, 0, none⟩) n c := fun n c he => by
    have := r2.out.row he
    rw [r2.row] at this; cases this
  have o2 : Own m2 ov' 2 els' := by rw [hm2]; exact r2.out.set hov
  have hlo : m.next ≤ m2.lo := by rw [hm2]; simpa using Nat.le_of_eq r2.lo.symm
  have hit : ∀ (i : Nat) e it, els'[i]? = some e → (Sp.new.run (zs b)).out[i]? = some it → FixIt it (e.map (frz 22 0 m2)) := fun i e it he hi => by
    obtain ⟨l, hl⟩ := hs it (List.mem_of_getElem? hi)
    have h3 : ItemAt m2 (.slice none 0 0) it e := by rw [hm2]; exact (r2.items i e it he hi).set r2.row rfl
    exact frz_item h3 hl 19
  have hfr := frz_out o2 hlo 22
  refine ⟨els'.map fun e => e.map (frz 22 0 m2), R10 ?_, by rw [List.length_map]; exact r2.len, fun i e it he hi => ?_⟩
  · have hx : x10 (LV CV) (sq nn tt 1 (b.map eb)) ⟨[], m.next, m.next, 0⟩ = some ⟨.ret, [.tuple [ov', .slice none 0 0].toArray], m2, []⟩ := by
      simp [x10, e1, e2, e3]
    rw [hx]
    simp only [Option.bind_some, close_ret, List.map_cons, List.map_nil, FUEL]
    rw [frz_tuple]
    simp only [List.map_cons, List.map_nil, hfr, frz_nils]
  · rw [List.getElem?_map] at he
    obtain ⟨e', he', rfl⟩ := Option.map_eq_some_iff.1 he
    exact hit i e' it he' hi
end Go.Proofs.YthihiidooomdnaaDoor.D
