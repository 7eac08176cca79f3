/-
  The law WireAgain: behind a line feed that ends a bad place a frame is whole again.
-/
import Derived.Test.YthihiidooomdnaaDoorW2
namespace Go.Proofs.YthihiidooomdnaaDoor.D
open Go.RowKit
set_option linter.unusedVariables false
set_option linter.unusedSimpArgs false
/-- A slice of bytes that is fixed with no room, or a row of its own. -/
def Bd (m : Mem) (v : Value) (l : List UInt8) : Prop := (v = fz 1 true (l.map eb) ∧ m.lo ≤ m.next) ∨ Own m v 1 (l.map eb)
theorem Bd.lo {m : Mem} {v : Value} {l : List UInt8} (h : Bd m v l) : m.lo ≤ m.next := by
  rcases h with ⟨_, h⟩ | h
  · exact h
  · exact h.lo
theorem Bd.single {m : Mem} {v : Value} {l : List UInt8} (h : Bd m v l) : single v := by
  rcases h with ⟨rfl, _⟩ | h
  · exact single_fz _ _ _
  · exact h.single
theorem Bd.src {m : Mem} {v : Value} {l : List UInt8} (h : Bd m v l) : vSrc false 1 v m = some (l.length, (l.map eb).flatten) := by
  rcases h with ⟨rfl, _⟩ | h
  · simp [vSrc]
  · rcases h.at_ with ⟨rfl, e⟩ | ⟨o, c, hne, rfl, hcn, hg, hlo, hon⟩
    · have : l = [] := by simpa using e
      subst this; rfl
    · have hl : (l.map eb).flatten.length = l.length := by rw [eb_flat, List.length_map]
      simp only [vSrc, fz?_slice, aSrc, slc?_at', Option.bind_some, Mem.at_, hg, List.length_map, Nat.mul_one, Nat.zero_add, hl, Nat.le_refl, if_true, List.drop_zero]
      rw [List.take_of_length_le (by rw [hl]; exact Nat.le_refl _)]
theorem Bd.app {m : Mem} {v y : Value} {l k : List UInt8} (h : Bd m v l) (hy : vSrc false 1 y m = some (k.length, (k.map eb).flatten)) (hne : k ≠ []) (hb : l.length + k.length < 100000000) : ∃ v' m', vApp false 1 1 v y m = some (v', m') ∧ Own m' v' 1 ((l ++ k).map eb) ∧ m'.lo = m.lo := by
  have hk : k.length ≠ 0 := fun e => hne (List.eq_nil_of_length_eq_zero e)
  have hkp : 0 < k.length := by omega
  rcases h with ⟨rfl, hlo⟩ | h
  · unfold vApp
    rw [hy]
    simp only [Option.bind_some, fz?_fz, if_neg hk, List.length_map]
    rw [if_pos (by constructor <;> omega), if_pos (by simp)]
    refine ⟨_, _, rfl, ⟨Nat.le_succ_of_le hlo, fun e he => ?_, .inr ⟨m.next, l.length + k.length + 1, by simp [hne], by simp, by simp, by simp, hlo, by simp⟩⟩, rfl⟩
    obtain ⟨b, _, rfl⟩ := List.mem_map.1 he
    rfl
  · obtain ⟨v', m', a, b, c, _⟩ := h.apps (xs := k.map eb) (b := 1) (by rw [List.length_map]; exact hy) rfl (fun e he => by obtain ⟨b, _, rfl⟩ := List.mem_map.1 he; rfl) (by simpa using hne) (by simp; omega) (by simp; omega)
    rw [← List.map_append] at b
    exact ⟨v', m', a, b, c.lo⟩
def noLf (l : List UInt8) : List UInt8 := l.filter fun c => c != 10
theorem again_loop {junk : List UInt8} (hj : junk.length ≤ 2000) (n1 t1 : Bool) (B X : Value) : ∀ (k i : Nat) (m : Mem) (v : Value) (l : List UInt8), i + k = junk.length → l.length ≤ i + 1 → Bd m v l →
    ∃ v' m', LV CV (.loop 500) [sq n1 t1 1 (junk.map eb), B, X, v, .int .i64 i] m [] = some ⟨.exit 0, [sq n1 t1 1 (junk.map eb), B, X, v', .int .i64 junk.length], m', []⟩ ∧ Bd m' v' (l ++ noLf (junk.drop i)) ∧ m'.lo = m.lo := by
  intro k
  induction k with
  | zero =>
    intro i m v l hi hl hb
    obtain rfl : i = junk.length := by omega
    refine ⟨v, m, Q500 ?_, by rw [List.drop_length]; simpa [noLf] using hb, rfl⟩
    simp [y500]
  | succ k ih =>
    intro i m v l hi hl hb
    have hlt : i < junk.length := by omega
    have hw : IntKind.wrap .i64 ((i : Int) + 1) = (i : Int) + 1 := wrap_i64 (by omega) (by omega)
    have hd : junk.drop i = junk[i] :: junk.drop (i + 1) := List.drop_eq_getElem_cons hlt
    have hc : ((junk[i].toNat : Int) = 10) = (junk[i] = 10) := propext ⟨fun h => UInt8.toNat_inj.1 (by show junk[i].toNat = 10; omega), fun h => by rw [h]; rfl⟩
    by_cases h : junk[i] = 10
    · obtain ⟨v', m', e, r, hlo⟩ := ih (i + 1) m v l (by omega) (by omega) hb
      rw [Int.natCast_add, Int.natCast_one] at e
      refine ⟨v', m', Q500 ?_, by rw [hd, show noLf (junk[i] :: junk.drop (i + 1)) = noLf (junk.drop (i + 1)) from List.filter_cons_of_neg (by simp [h])]; exact r, hlo⟩
      simp [y500, hlt, hc, h, hw, e]
    · obtain ⟨v1, m1, e1, o1, l1⟩ := hb.app (y := fz 1 true [[.int .u8 junk[i].toNat]]) (k := [junk[i]]) (by simp [vSrc, eb]) (by simp) (by simp; omega)
      obtain ⟨v', m', e, r, hlo⟩ := ih (i + 1) m1 v1 (l ++ [junk[i]]) (by omega) (by simp; omega) (.inr o1)
      rw [Int.natCast_add, Int.natCast_one] at e
      have hcc : ¬ (junk[i].toNat : Int) = 10 := by rw [hc]; exact h
      refine ⟨v', m', Q500 ?_, by rw [hd, show noLf (junk[i] :: junk.drop (i + 1)) = junk[i] :: noLf (junk.drop (i + 1)) from List.filter_cons_of_pos (by simp [h])]; simpa using r, by rw [hlo, l1]⟩
      simp [y500, hlt, hcc, hw, e1, e]
theorem frz24 {m : Mem} {v : Value} {l : List UInt8} (h : Own m v 1 (l.map eb)) {n0 : Nat} (h0 : n0 ≤ m.lo) : frz 24 n0 m v = sq false false 1 (l.map eb) := h.frz (Cls.eb l) (k := 17) h0
theorem splitL_V {m : Mem} {v : Value} {b : List UInt8} (h : Own m v 1 (b.map eb)) (hne : b ≠ []) (hbl : b.length < 10000000) (hh : (Sp.new.run (zs b)).held = []) (hs : ∀ it ∈ (Sp.new.run (zs b)).out, ∃ l, it.b = zs l) :
    ∃ els, LV CV (.call 10) [v] m [] = some ⟨.ret, [.tuple #[sq false false 2 els, .slice none 0 0]], ⟨[], m.next, m.lo, m.ro⟩, []⟩ ∧ els.length = (Sp.new.run (zs b)).out.length ∧ ∀ (i : Nat) e it, els[i]? = some e → (Sp.new.run (zs b)).out[i]? = some it → FixIt it e := by
  obtain ⟨els, e, a, c⟩ := split_V hbl false false hh hs ⟨[], m.next, m.lo, m.ro⟩
  refine ⟨els, call_live rfl rfl rfl (Nat.le_of_ble_eq_true rfl) ?_ (b := [sq false false 1 (b.map eb)]) ?_ (by simp) e, a, c⟩
  · rcases h.at_ with ⟨_, e⟩ | ⟨o, c, _, rfl, _⟩
    · exact absurd (by simpa using e) hne
    · rfl
  · simp [frz24 h (Nat.zero_le _)]
theorem frame_ok {l : List UInt8} (h : ¬ 20000 < l.length) : frameV l = .tuple #[sq false false 1 ((frameP l).map eb), .int .i64 0] := if_neg h
theorem again_V (n1 t1 n2 t2 : Bool) (junk b : List UInt8) (m : Mem) : LV CV (.call 5) [sq n1 t1 1 (junk.map eb), sq n2 t2 1 (b.map eb)] m [] = some ⟨.ret, [.bool true], m, []⟩ := by
  refine R5 ?_
  have h1 := fun m => frame_V n2 t2 b m
  by_cases h : 20000 < b.length
  · unfold frameV at h1
    simp only [if_pos h] at h1
    simp [x5, h1]
  · simp only [frame_ok h] at h1
    by_cases hj : 2000 < junk.length
    · have hj' : (2000 : Int) < junk.length := by omega
      simp [x5, h1, hj']
    · have hj' : ¬ (2000 : Int) < junk.length := by omega
      have hfl : (frameP b).length < 30000 := by
        have := dd_len 4 b.length (by omega)
        simp [frameP]; omega
      obtain ⟨v1, m1, e1, b1, l1⟩ := again_loop (junk := junk) (by omega) n1 t1 (sq n2 t2 1 (b.map eb)) (sq false false 1 ((frameP b).map eb)) junk.length 0 ⟨[], m.next, m.next, 0⟩ (fz 1 true ([120].map eb)) [120] (by omega) (by simp) (.inl ⟨rfl, Nat.le_refl _⟩)
      simp only [List.drop_zero, Int.natCast_zero] at e1 b1
      have hn : (noLf junk).length ≤ junk.length := List.length_filter_le _ _
      have hj10 : (10 : UInt8) ∉ noLf junk := by simp [noLf]
      have run := run_again hj10 (l := b) (by omega)
      generalize noLf junk = J at *
      have c1 : Bd m1 (fz 1 true []) [] := .inl ⟨rfl, b1.lo⟩
      obtain ⟨v2, m2, e2, o2, l2⟩ := Bd.app (k := [120] ++ J) c1 b1.src (by simp) (by simp; omega)
      have hs3 : vSrc false 1 (fz 1 true ([(10 : UInt8)].map eb)) m2 = some ([(10 : UInt8)].length, ([(10 : UInt8)].map eb).flatten) := by simp [vSrc]
      obtain ⟨v3, m3, e3, o3, l3⟩ := Bd.app (.inr o2) hs3 (by simp) (by simp; omega)
      obtain ⟨v4, m4, e4, o4, k4⟩ := o3.appq (nn := false) (tt := false) (xs := (frameP b).map eb) (b := 1) (fun e he => by obtain ⟨b, _, rfl⟩ := List.mem_map.1 he; rfl) (by simp; omega) (by simp; omega)
      rw [← List.map_append] at o4
      have hF : [] ++ ([120] ++ J) ++ [10] ++ frameP b = 120 :: J ++ [10] ++ fr b := by simp [fr, frameP]
      rw [hF] at o4
      obtain ⟨els, e5, q1, q2⟩ := splitL_V o4 (by simp) (by have hfr : (fr b).length < 30000 := hfl; simp; omega) (by rw [run]) (by rw [run]; intro it hit; simp at hit; rcases hit with rfl | rfl; exact ⟨[], rfl⟩; exact ⟨b, rfl⟩)
      rw [run] at q1 q2
      simp only [List.length_cons, List.length_nil] at q1
      obtain ⟨f1, f2, rfl⟩ : ∃ f1 f2, els = [f1, f2] := by
        match els, q1 with
        | [a, b], _ => exact ⟨a, b, rfl⟩
      obtain ⟨g1, gn1, gt1, rfl, gb1⟩ := q2 0 f1 _ rfl rfl
      obtain ⟨g2, gn2, gt2, rfl, gb2⟩ := q2 1 f2 _ rfl rfl
      have : g1 = [] := by
        have := gb1.symm
        simpa [zs] using this
      subst this
      have : b = g2 := zs_inj gb2
      subst this
      have hsame := same_V (a := b) (b := b) (by omega) gn2 gt2 n2 t2 ⟨[], m4.next, m4.lo, m4.ro⟩
      have hli0 : ∀ m, vLit 1 1 [(.int .u8 (0))] [(0, (.int .u8 (120)))] m = some (fz 1 true ([(120 : UInt8)].map eb), m) := fun m => lit1 120 m
      have hli1 : ∀ m, vLit 1 1 [(.int .u8 (0))] [(0, (.int .u8 (10)))] m = some (fz 1 true ([(10 : UInt8)].map eb), m) := fun m => lit1 10 m
      have hli2 : ∀ m, vLit 1 0 [(.int .u8 (0))] [] m = some (fz 1 true [], m) := fun m => rfl
      generalize ([(120 : UInt8)].map eb) = E1 at *
      generalize ([(10 : UInt8)].map eb) = E2 at *
      generalize frameP b = F at *
      simp [x5, h1, hj', hli0, e1, hli2, e2, hli1, e3, e4, e5, hsame]
end Go.Proofs.YthihiidooomdnaaDoor.D
