import Derived.Test.YtibklmjoepckdaaDoorK3
import Derived.Test.YtibklmjoepckdaaDoorKn
namespace Go.Proofs.YtibklmjoepckdaaDoor.D
open Go.RowKit
set_option linter.unusedVariables false
set_option linter.unusedSimpArgs false
theorem aBin_or32 (b : UInt8) : aBin .or (.int .u8 b.toNat) (.int .u8 32) = some (.int .u8 (b ||| 32).toNat) := or_u8 b 32
@[simp] theorem indexByte_V (l : List UInt8) (c : UInt8) (m : Mem) : LV CV (.call 50) [S l, .int .u8 c.toNat] m [] = some ⟨.ret, [.int .i64 (Lib.indexByte l c)], m, []⟩ := by
  refine R50 ?_
  simp [x50]
@[simp] theorem has_V (l : List UInt8) (c : UInt8) (m : Mem) : LV CV (.call 40) [S l, .int .u8 c.toNat] m [] = some ⟨.ret, [.bool (decide (c ∈ l))], m, []⟩ := by
  refine R40 ?_
  simp only [x40, indexByte_V, retK_ret, aBin_geq, Option.bind_some, indexByte_mem, close_ret]
  simp
theorem letter_V (b : UInt8) (m : Mem) : LV CV (.call 28) [.int .u8 b.toNat] m [] = some ⟨.ret, [.bool (letterB b)], m, []⟩ := by
  refine R28 ?_
  have c1 : ((97 : Int) ≤ b.toNat) = (97 ≤ b.toNat) := propext (by omega)
  have c2 : ((b.toNat : Int) ≤ 122) = (b.toNat ≤ 122) := propext (by omega)
  have c3 : ((65 : Int) ≤ b.toNat) = (65 ≤ b.toNat) := propext (by omega)
  have c4 : ((b.toNat : Int) ≤ 90) = (b.toNat ≤ 90) := propext (by omega)
  by_cases h1 : 97 ≤ b.toNat <;> by_cases h2 : b.toNat ≤ 122 <;> by_cases h3 : 65 ≤ b.toNat <;> by_cases h4 : b.toNat ≤ 90 <;> simp [x28, letterB, c1, c2, c3, c4, h1, h2, h3, h4]
theorem digit_V (b : UInt8) (m : Mem) : LV CV (.call 29) [.int .u8 b.toNat] m [] = some ⟨.ret, [.bool (digitB b)], m, []⟩ := by
  refine R29 ?_
  have c1 : ((48 : Int) ≤ b.toNat) = (48 ≤ b.toNat) := propext (by omega)
  have c2 : ((b.toNat : Int) ≤ 57) = (b.toNat ≤ 57) := propext (by omega)
  by_cases h1 : 48 ≤ b.toNat <;> by_cases h2 : b.toNat ≤ 57 <;> simp [x29, digitB, c1, c2, h1, h2]
theorem word_loop {o c : Nat} {l more : List UInt8} (hl : l.length < 1000000000) {m : Mem} (hm : m.get o = some ⟨1, l.map cb⟩) : ∀ (k i : Nat), i + k = l.length →
    ∃ b, LV CV (.loop 2700) [S more, .bool false, .slice (some ⟨o, 0, none⟩) l.length c, .int .i64 l.length, .int .i64 i] m [] =
      some ⟨if (l.drop i).all (okB more) = true then .exit 0 else .ret, [S more, .bool false, .slice (some ⟨o, 0, none⟩) l.length c, .int .i64 l.length, b], m, []⟩ := by
  intro k
  induction k with
  | zero =>
    intro i hi
    obtain rfl : i = l.length := by omega
    exact ⟨_, Q2700 (by simp [y2700]; rfl)⟩
  | succ k ih =>
    intro i hi
    have hlt : i < l.length := by omega
    obtain ⟨b', e⟩ := ih (i + 1) (by omega)
    rw [Int.natCast_add, Int.natCast_one] at e
    have hw : IntKind.wrap .i64 ((i : Int) + 1) = (i : Int) + 1 := wrap_i64 (by omega) (by omega)
    have hd : l.drop i = l[i] :: l.drop (i + 1) := List.drop_eq_getElem_cons hlt
    have hall : (l.drop i).all (okB more) = (okB more l[i] && (l.drop (i + 1)).all (okB more)) := by rw [hd]; rfl
    rw [hall]
    have hok : okB more l[i] = ((decide (97 ≤ (l[i] ||| 32).toNat) && decide ((l[i] ||| 32).toNat ≤ 122) && decide (l[i].toNat < 128)) || (decide (48 ≤ l[i].toNat) && decide (l[i].toNat ≤ 57)) || decide (l[i] ∈ more)) := by
      unfold okB digitB; rw [letter_or, Bool.decide_and]
    have hor := aBin_or32 l[i]
    generalize hz : l[i] ||| 32 = z at *
    have c1 : ((97 : Int) ≤ z.toNat) = (97 ≤ z.toNat) := propext (by omega)
    have c2 : ((z.toNat : Int) ≤ 122) = (z.toNat ≤ 122) := propext (by omega)
    have c3 : ((l[i].toNat : Int) < 128) = (l[i].toNat < 128) := propext (by omega)
    have c4 : ((48 : Int) ≤ l[i].toNat) = (48 ≤ l[i].toNat) := propext (by omega)
    have c5 : ((l[i].toNat : Int) ≤ 57) = (l[i].toNat ≤ 57) := propext (by omega)
    by_cases hb : okB more l[i] = true
    · refine ⟨b', Q2700 ?_⟩
      rw [hb, Bool.true_and]
      rw [hok] at hb
      by_cases h1 : 97 ≤ z.toNat <;> by_cases h2 : z.toNat ≤ 122 <;> by_cases h3 : l[i].toNat < 128 <;> by_cases h4 : 48 ≤ l[i].toNat <;> by_cases h5 : l[i].toNat ≤ 57 <;> by_cases h6 : l[i] ∈ more <;>
        simp only [h1, h2, h3, h4, h5, h6, decide_true, decide_false, Bool.and_true, Bool.and_false, Bool.or_false, Bool.or_true, Bool.false_eq_true] at hb <;>
        simp [y2700, hlt, hm, hor, c1, c2, c3, c4, c5, h1, h2, h3, h4, h5, h6, hw, e]
    · refine ⟨.int .i64 i, Q2700 ?_⟩
      have hb' : okB more l[i] = false := by simpa using hb
      rw [hb', Bool.false_and]
      rw [hok] at hb'
      by_cases h1 : 97 ≤ z.toNat <;> by_cases h2 : z.toNat ≤ 122 <;> by_cases h3 : l[i].toNat < 128 <;> by_cases h4 : 48 ≤ l[i].toNat <;> by_cases h5 : l[i].toNat ≤ 57 <;> by_cases h6 : l[i] ∈ more <;>
        simp only [h1, h2, h3, h4, h5, h6, decide_true, decide_false, Bool.and_true, Bool.and_false, Bool.or_false, Bool.or_true, Bool.true_eq_false] at hb' <;>
        simp [y2700, hlt, hm, hor, c1, c2, c3, c4, c5, h1, h2, h3, h4, h5, h6, hw]
theorem wordP_ne {s more first : List UInt8} {a : UInt8} (h : s[0]? = some a) : wordP s more first = (!decide (a ∈ first) && s.all (okB more)) := by
  cases s with
  | nil => simp at h
  | cons b t => simp at h; subst h; rfl
theorem word_V {s : List UInt8} (hs : s.length < 1000000000) (more first : List UInt8) (m : Mem) : LV CV (.call 27) [S s, S more, S first] m [] = some ⟨.ret, [.bool (wordP s more first)], m, []⟩ := by
  refine R27 ?_
  by_cases h0 : s = []
  · subst h0; simp [x27, wordP]
  · obtain ⟨a, ha⟩ : ∃ a, s[0]? = some a := by
      cases s with
      | nil => exact absurd rfl h0
      | cons b t => exact ⟨b, rfl⟩
    rw [wordP_ne ha]
    by_cases h1 : a ∈ first
    · simp [x27, h0, ha, h1]
    · obtain ⟨b, e⟩ := word_loop (o := m.next) (c := s.length + 1) (l := s) (more := more) hs (m := (⟨[], m.next, m.next, 0⟩ : Mem).push ⟨1, s.map cb⟩) (by simp) s.length 0 (by omega)
      have e3 : ∀ l : List UInt8, l.map cb = l.map fun b => .int .u8 b.toNat := fun _ => rfl
      rw [e3] at e
      simp only [List.drop_zero, Int.natCast_zero] at e
      cases hall : s.all (okB more) with
      | true =>
        rw [hall] at e
        simp only [if_true] at e
        simp [x27, h0, ha, h1, e]
      | false =>
        rw [hall] at e
        simp only [Bool.false_eq_true, if_false] at e
        simp [x27, h0, ha, h1, e]
theorem rule_V {s : List UInt8} (hs : s.length < 1000000000) (m : Mem) : LV CV (.call 12) [S s] m [] = some ⟨.ret, [.bool (ruleP s)], m, []⟩ := by
  refine R12 ?_
  unfold ruleP
  by_cases h : (s.length : Int) ≤ 30
  · have h' : s.length ≤ 30 := by omega
    simp [x12, h, h', word_V hs]
  · have h' : ¬ s.length ≤ 30 := by omega
    simp [x12, h, h']
theorem zone_loop (ps : List (List UInt8)) (hp : ps.length < 1000000000) (hl : ∀ p ∈ ps, p.length < 1000000000) (tt : Bool) (m : Mem) : ∀ (k i : Nat), i + k = ps.length →
    ∃ b, LV CV (.loop 1000) [.bool false, fz 1 tt (ps.map es), .int .i64 ps.length, .int .i64 i] m [] =
      some ⟨if (ps.drop i).all (fun p => wordP p [43, 45, 95] [45]) = true then .exit 0 else .ret, [.bool false, fz 1 tt (ps.map es), .int .i64 ps.length, b], m, []⟩ := by
  intro k
  induction k with
  | zero =>
    intro i hi
    obtain rfl : i = ps.length := by omega
    exact ⟨_, Q1000 (by simp [y1000]; rfl)⟩
  | succ k ih =>
    intro i hi
    have hlt : i < ps.length := by omega
    obtain ⟨b', e⟩ := ih (i + 1) (by omega)
    rw [Int.natCast_add, Int.natCast_one] at e
    have hw : IntKind.wrap .i64 ((i : Int) + 1) = (i : Int) + 1 := wrap_i64 (by omega) (by omega)
    have hd : ps.drop i = ps[i] :: ps.drop (i + 1) := List.drop_eq_getElem_cons hlt
    rw [hd, List.all_cons]
    have hwv := fun m => word_V (hl ps[i] (List.getElem_mem hlt)) [43, 45, 95] [45] m
    cases hW : wordP ps[i] [43, 45, 95] [45] with
    | true =>
      refine ⟨b', Q1000 ?_⟩
      rw [Bool.true_and]
      simp only [hW] at hwv
      rw [← e]
      simp [y1000, hlt, hwv, hw]
    | false =>
      refine ⟨.int .i64 i, Q1000 ?_⟩
      simp only [hW] at hwv
      simp [y1000, hlt, hwv, hw]
theorem splitC_mem_len (c : UInt8) : ∀ (l : List UInt8), (splitC c l).length ≤ l.length + 1 ∧ ∀ p ∈ splitC c l, p.length ≤ l.length := by
  intro l
  induction l with
  | nil => exact ⟨by simp [splitC], fun p hp => by simp [splitC] at hp; subst hp; simp⟩
  | cons b t ih =>
    rw [splitC_cons]
    split
    · refine ⟨by simp; omega, fun p hp => ?_⟩
      rcases List.mem_cons.1 hp with rfl | hp
      · simp
      · have := ih.2 p hp; simp; omega
    · obtain ⟨h, r, e⟩ := splitC_ne c t
      rw [e] at ih ⊢
      refine ⟨by simp at ih ⊢; omega, fun p hp => ?_⟩
      rcases List.mem_cons.1 hp with rfl | hp
      · have := ih.2 h (by simp); simp; omega
      · have := ih.2 p (by simp [hp]); simp; omega
theorem zone_V {s : List UInt8} (hs : s.length < 1000000000) (m : Mem) : LV CV (.call 10) [S s] m [] = some ⟨.ret, [.bool (zoneP s)], m, []⟩ := by
  refine R10 ?_
  unfold zoneP
  by_cases h : (30 : Int) < s.length
  · have h' : ¬ s.length ≤ 30 := by omega
    simp [x10, h, h']
  · have h' : s.length ≤ 30 := by omega
    obtain ⟨l1, l2⟩ := splitC_mem_len 47 s
    obtain ⟨b, e⟩ := zone_loop (splitC 47 s) (by omega) (fun p hp => by have := l2 p hp; omega) true ⟨[], m.next, m.next, 0⟩ (splitC 47 s).length 0 (by omega)
    simp only [List.drop_zero, Int.natCast_zero] at e
    have hsp := fun m => split_V (l := s) (by omega) 47 m
    simp only [split_eq] at hsp
    cases hall : (splitC 47 s).all (fun p => wordP p [43, 45, 95] [45]) with
    | true =>
      rw [hall] at e
      simp only [if_true] at e
      simp [x10, h, h', hsp, e]
    | false =>
      rw [hall] at e
      simp only [Bool.false_eq_true, if_false] at e
      simp [x10, h, h', hsp, e]
end Go.Proofs.YtibklmjoepckdaaDoor.D
