/-
  The law WireBack: frames, one behind the other, are split as they were.
-/
import Derived.Test.YthihiidooomdnaaDoorWt
namespace Go.Proofs.YthihiidooomdnaaDoor.D
open Go.RowKit
set_option linter.unusedVariables false
set_option linter.unusedSimpArgs false
abbrev Tx := Bool × List UInt8
def tx (p : Tx) : List Value := [sq p.1 false 1 (p.2.map eb)]
def frs (ls : List Tx) : List UInt8 := ls.flatMap fun p => fr p.2
theorem frs_snoc (ls : List Tx) (p : Tx) : frs (ls ++ [p]) = frs ls ++ fr p.2 := by simp [frs]
theorem fr_len {l : List UInt8} (h : l.length ≤ 20000) : (fr l).length ≤ 20010 := by
  have := dd_len 4 l.length (by omega)
  have e : (fr l).length = (dd l.length).length + 1 + l.length + 1 := by simp [fr, dd]; omega
  omega
theorem frs_len : ∀ (ls : List Tx), (∀ p ∈ ls, p.2.length ≤ 20000) → (frs ls).length ≤ 20010 * ls.length := by
  intro ls
  induction ls with
  | nil => intro _; simp [frs]
  | cons p t ih =>
    intro h
    have h1 := ih fun q hq => h q (by simp [hq])
    have h2 := fr_len (h p (by simp))
    have e : (frs (p :: t)).length = (fr p.2).length + (frs t).length := by simp [frs]
    rw [e, List.length_cons]
    omega
theorem back_loop {ls : List Tx} (hn : ls.length ≤ 50) (n1 t1 : Bool) : ∀ (k i : Nat) (m : Mem) (v : Value), i + k = ls.length → (∀ p ∈ ls.take i, p.2.length ≤ 20000) → Own m v 1 ((frs (ls.take i)).map eb) →
    (∃ v' m' x, LV CV (.loop 400) [sq n1 t1 1 (ls.map tx), .bool false, v, .int .i64 i] m [] = some ⟨.ret, [sq n1 t1 1 (ls.map tx), .bool true, v', x], m', []⟩) ∨
    ((∀ p ∈ ls, p.2.length ≤ 20000) ∧ ∃ v' m', LV CV (.loop 400) [sq n1 t1 1 (ls.map tx), .bool false, v, .int .i64 i] m [] = some ⟨.exit 0, [sq n1 t1 1 (ls.map tx), .bool false, v', .int .i64 ls.length], m', []⟩ ∧ Own m' v' 1 ((frs ls).map eb)) := by
  intro k
  induction k with
  | zero =>
    intro i m v hi hs ho
    obtain rfl : i = ls.length := by omega
    rw [List.take_length] at hs ho
    refine .inr ⟨hs, v, m, Q400 ?_, ho⟩
    simp [y400]
  | succ k ih =>
    intro i m v hi hs ho
    have hlt : i < ls.length := by omega
    have hw : IntKind.wrap .i64 ((i : Int) + 1) = (i : Int) + 1 := wrap_i64 (by omega) (by omega)
    have ht : ls.take (i + 1) = ls.take i ++ [ls[i]] := by rw [List.take_add_one]; simp [hlt]
    have hf := fun m => frame_V ls[i].1 false ls[i].2 m
    by_cases h : 20000 < ls[i].2.length
    · left
      unfold frameV at hf
      simp only [if_pos h] at hf
      refine ⟨v, m, .int .i64 i, Q400 ?_⟩
      simp [y400, hlt, tx, hf]
    · simp only [frame_ok h] at hf
      have hb := frs_len _ hs
      have hlen : (ls.take i).length = i := by simp; omega
      have hfl := fr_len (show ls[i].2.length ≤ 20000 by omega)
      have hfe : frameP ls[i].2 = fr ls[i].2 := rfl
      rw [hfe] at hf
      rw [hlen] at hb
      obtain ⟨v1, m1, e1, o1, k1⟩ := ho.appq (nn := false) (tt := false) (xs := (fr ls[i].2).map eb) (b := 1) (fun e he => by obtain ⟨b, _, rfl⟩ := List.mem_map.1 he; rfl) (by simp; omega) (by simp; omega)
      rw [← List.map_append, ← frs_snoc, ← ht] at o1
      have hs1 : ∀ p ∈ ls.take (i + 1), p.2.length ≤ 20000 := by
        rw [ht]
        intro p hp
        rcases List.mem_append.1 hp with hp | hp
        · exact hs p hp
        · obtain rfl := List.mem_singleton.1 hp
          omega
      have hstep : ∀ r, LV CV (.loop 400) [sq n1 t1 1 (ls.map tx), .bool false, v1, .int .i64 ((i : Int) + 1)] m1 [] = some r → LV CV (.loop 400) [sq n1 t1 1 (ls.map tx), .bool false, v, .int .i64 i] m [] = some r := fun r hr => by
        refine Q400 ?_
        generalize (fr ls[i].2).map eb = F at *
        simp [y400, hlt, tx, hf, e1, hw]
        exact hr
      rcases ih (i + 1) m1 v1 (by omega) hs1 o1 with ⟨v', m', x, e⟩ | ⟨h1, v', m', e, o⟩
      · rw [Int.natCast_add, Int.natCast_one] at e
        exact .inl ⟨v', m', x, hstep _ e⟩
      · rw [Int.natCast_add, Int.natCast_one] at e
        exact .inr ⟨h1, v', m', hstep _ e, o⟩
theorem backs_loop {ls : List Tx} (hn : ls.length ≤ 50) (hs : ∀ p ∈ ls, p.2.length ≤ 20000) (n1 t1 : Bool) {els : List (List Value)} (he : els.length = ls.length) (hf : ∀ (i : Nat) e p, els[i]? = some e → ls[i]? = some p → FixIt ⟨false, zs p.2⟩ e) : ∀ (k i : Nat) (m : Mem), i + k = ls.length →
    LV CV (.loop 401) [sq n1 t1 1 (ls.map tx), .bool false, sq false false 2 els, .int .i64 i] m [] = some ⟨.exit 2, [sq n1 t1 1 (ls.map tx), .bool false, sq false false 2 els, .int .i64 ls.length], m, []⟩ := by
  intro k
  induction k with
  | zero =>
    intro i m hi
    obtain rfl : i = ls.length := by omega
    refine Q401 ?_
    simp [y401]
  | succ k ih =>
    intro i m hi
    have hlt : i < ls.length := by omega
    have hlt2 : i < els.length := by omega
    have hw : IntKind.wrap .i64 ((i : Int) + 1) = (i : Int) + 1 := wrap_i64 (by omega) (by omega)
    have e := ih (i + 1) m (by omega)
    rw [Int.natCast_add, Int.natCast_one] at e
    obtain ⟨l, nn, tt, h1, h2⟩ := hf i els[i] ls[i] (List.getElem?_eq_getElem hlt2) (List.getElem?_eq_getElem hlt)
    have h3 : ls[i].2 = l := zs_inj h2
    have hsame := same_V (a := ls[i].2) (b := ls[i].2) (by have := hs _ (List.getElem_mem hlt); omega) nn tt ls[i].1 false m
    rw [← h3] at h1
    refine Q401 ?_
    simp [y401, hlt, hlt2, tx, h1, hsame, hw, e]
theorem splitO_V {m : Mem} {v : Value} {b : List UInt8} (h : Own m v 1 (b.map eb)) (hbl : b.length < 10000000) (hh : (Sp.new.run (zs b)).held = []) (hs : ∀ it ∈ (Sp.new.run (zs b)).out, ∃ l, it.b = zs l) :
    ∃ els m', LV CV (.call 10) [v] m [] = some ⟨.ret, [.tuple #[sq false false 2 els, .slice none 0 0]], m', []⟩ ∧ els.length = (Sp.new.run (zs b)).out.length ∧ ∀ (i : Nat) e it, els[i]? = some e → (Sp.new.run (zs b)).out[i]? = some it → FixIt it e := by
  by_cases hne : b = []
  · subst hne
    obtain ⟨els, e, q⟩ := split_V hbl false false hh hs m
    rcases h.at_ with ⟨rfl, _⟩ | ⟨o, c, hn, _⟩
    · exact ⟨els, _, e, q⟩
    · exact absurd rfl hn
  · obtain ⟨els, e, q⟩ := splitL_V h hne hbl hh hs
    exact ⟨els, _, e, q⟩
theorem back_V (n1 t1 : Bool) (ls : List Tx) (m : Mem) : LV CV (.call 4) [sq n1 t1 1 (ls.map tx)] m [] = some ⟨.ret, [.bool true], m, []⟩ := by
  refine R4 ?_
  by_cases h : 50 < ls.length
  · have h' : (50 : Int) < ls.length := by omega
    simp [x4, h']
  · have h' : ¬ (50 : Int) < ls.length := by omega
    rcases back_loop (ls := ls) (by omega) n1 t1 ls.length 0 ⟨[], m.next, m.next, 0⟩ (.slice none 0 0) (by omega) (by simp) (Own.nil (Nat.le_refl _)) with ⟨v', m', x, e⟩ | ⟨hs, v', m', e, o⟩
    · simp only [Int.natCast_zero] at e
      simp [x4, h', e]
    · simp only [Int.natCast_zero] at e
      have run := run_frames (ls.map (·.2)) [] (by intro l hl; obtain ⟨p, hp, rfl⟩ := List.mem_map.1 hl; exact hs p hp)
      have hfm : (ls.map (·.2)).flatMap fr = frs ls := by simp [frs, List.flatMap_map]
      rw [hfm] at run
      change Sp.run Sp.new (zs (frs ls)) = _ at run
      have hlen := frs_len ls hs
      obtain ⟨els, m2, e2, q1, q2⟩ := splitO_V o (by omega) (by rw [run]) (by rw [run]; intro it hit; simp only [List.nil_append] at hit; obtain ⟨b, _, rfl⟩ := List.mem_map.1 hit; exact ⟨b, rfl⟩)
      rw [run] at q1 q2
      simp only [List.nil_append, List.length_map] at q1 q2
      have e3 := backs_loop (by omega) hs n1 t1 q1 (fun i e p he hp => q2 i e ⟨false, zs p.2⟩ he (by simp [hp])) ls.length 0 m2 (by omega)
      simp only [Int.natCast_zero] at e3
      simp [x4, h', e, e2, q1, e3]
end Go.Proofs.YthihiidooomdnaaDoor.D
