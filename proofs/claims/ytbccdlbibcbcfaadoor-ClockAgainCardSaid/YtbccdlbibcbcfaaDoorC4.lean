/-
  The seconds of a text: the whole function.
-/
import Derived.Test.YtbccdlbibcbcfaaDoorC3
namespace Go.Proofs.YtbccdlbibcbcfaaDoor.D
open Go.RowKit
set_option linter.unusedVariables false
set_option linter.unusedSimpArgs false
def tlP : List (List UInt8) → Option Nat
  | [] => some 0
  | [b] => (numP 2 2 59 b).map fun m => m * 60
  | [b, c] => (numP 2 2 59 b).bind fun m => (numP 2 2 59 c).map fun x => m * 60 + x
  | _ => none
theorem secP_cons (a : List UInt8) (ps : List (List UInt8)) (h : ps.length ≤ 2) : secP (a :: ps) = (numP 1 3 167 a).bind fun h => (tlP ps).map fun v => h * 3600 + v := by
  match ps, h with
  | [], _ => cases h1 : numP 1 3 167 a <;> simp [secP, tlP, h1]
  | [b], _ => cases h1 : numP 1 3 167 a <;> cases h2 : numP 2 2 59 b <;> simp [secP, tlP, h1, h2]
  | [b, c], _ => cases h1 : numP 1 3 167 a <;> cases h2 : numP 2 2 59 b <;> cases h3 : numP 2 2 59 c <;> simp [secP, tlP, h1, h2, h3, Nat.add_assoc]
theorem secP_many (p : List (List UInt8)) (h : 3 < p.length) : secP p = none := by
  match p, h with
  | _ :: _ :: _ :: _ :: _, _ => rfl
theorem cutted (l : List UInt8) : ∃ a r ps, Cutted l a r ∧ splitC 58 l = a :: ps ∧ (ps = [] ∨ splitC 58 r = ps) := by
  rcases split_cases 58 l with h | ⟨a, b, rfl, h⟩
  · exact ⟨l, [], [], .inl ⟨h, rfl, rfl⟩, splitC_no 58 l h, .inl rfl⟩
  · exact ⟨a, b, splitC 58 b, .inr ⟨rfl, h⟩, splitC_at 58 a b h, .inr rfl⟩
theorem sec_loop {A K B n : Nat} {low : Value} {r : List UInt8} {ps : List (List UInt8)} (hp : ps = [] ∨ splitC 58 r = ps) (h2 : ps.length ≤ 2) (hn : n ≤ 900000) (hl : r.length < 1000000000) {m : Mem} (s : SM m A K B n r) (d : List Dfr) :
    (∀ v, tlP ps = some v → ∃ m' r', SM m' A K B ((n + v : Nat) : Int) r' ∧ LV CV (.loop 1900) [pt A, pt K, low, .int .i64 ps.length, pt B, arr2, .int .i64 0] m d = some ⟨.exit 0, [pt A, pt K, low, .int .i64 ps.length, pt B, arr2, .int .i64 2], m', d⟩) ∧
    (tlP ps = none → ∃ m' n' r' vals, SM m' A K B n' r' ∧ vals.take 2 = [pt A, pt K] ∧ LV CV (.loop 1900) [pt A, pt K, low, .int .i64 ps.length, pt B, arr2, .int .i64 0] m d = some ⟨.panic PB, vals, m', d⟩) := by
  match ps, h2, hp with
  | [], _, _ =>
    refine ⟨fun v hv => ⟨m, r, by cases hv; exact s, ?_⟩, fun hv => by cases hv⟩
    exact slp_skip (i := 0) (c := 0) (by omega) (by omega) (slp_skip (i := 1) (c := 0) (by omega) (by omega) (slp_end A K B low 0 arr2 m d))
  | [b], _, hp =>
    obtain ⟨x, r2, qs, h1, h2, h3⟩ := cutted r
    rcases hp with hp | hp
    · cases hp
    rw [h2] at hp
    cases hp
    obtain ⟨q1, q2⟩ := slp_num (low := low) (i := 0) (c := 1) (by omega) (by omega) (by omega) s h1 hl d
    refine ⟨fun v hv => ?_, fun hv => ?_⟩
    · simp only [tlP] at hv
      obtain ⟨w, hw, rfl⟩ := Option.map_eq_some_iff.1 hv
      obtain ⟨m', s', k⟩ := q1 w hw
      exact ⟨m', r2, s', k _ (slp_skip (i := 1) (c := 1) (by omega) (by omega) (slp_end A K B low 1 arr2 m' d))⟩
    · simp only [tlP, Option.map_eq_none_iff] at hv
      obtain ⟨m', s', k⟩ := q2 hv
      exact ⟨m', _, _, _, s', rfl, k⟩
  | [b, c], _, hp =>
    obtain ⟨x, r2, qs, h1, h2, h3⟩ := cutted r
    rcases hp with hp | hp
    · cases hp
    rw [h2] at hp
    cases hp
    rcases h3 with h3 | h3
    · cases h3
    have hl2 : r2.length < 1000000000 := Nat.lt_of_le_of_lt h1.len.2 hl
    obtain ⟨y, r3, qs, g1, g2, g3⟩ := cutted r2
    rw [g2] at h3
    cases h3
    obtain ⟨q1, q2⟩ := slp_num (low := low) (i := 0) (c := 2) (by omega) (by omega) (by omega) s h1 hl d
    cases hb : numP 2 2 59 b with
    | none =>
      obtain ⟨m', s', k⟩ := q2 hb
      exact ⟨fun v hv => by simp [tlP, hb] at hv, fun _ => ⟨m', _, _, _, s', rfl, k⟩⟩
    | some w =>
      obtain ⟨m', s', k⟩ := q1 w hb
      have hw := numP_le hb
      obtain ⟨p1, p2⟩ := slp_num (low := low) (i := 1) (c := 2) (by omega) (by omega) (by simp; omega) s' g1 hl2 d
      cases hc : numP 2 2 59 c with
      | none =>
        obtain ⟨m2, s2, k2⟩ := p2 hc
        exact ⟨fun v hv => by simp [tlP, hb, hc] at hv, fun _ => ⟨m2, _, _, _, s2, rfl, k _ k2⟩⟩
      | some z =>
        obtain ⟨m2, s2, k2⟩ := p1 z hc
        refine ⟨fun v hv => ?_, fun hv => by simp [tlP, hb, hc] at hv⟩
        simp only [tlP, hb, hc, Option.bind_some, Option.map_some, Option.some.injEq] at hv
        subst hv
        refine ⟨m2, r3, ?_, k _ (k2 _ (slp_end A K B low 2 arr2 m2 d))⟩
        have e : n + w * (if (0 : Nat) = 0 then 60 else 1) + z * (if (1 : Nat) = 0 then 60 else 1) = n + (w * 60 + z) := by simp; omega
        rw [← e]; exact s2
theorem SM.stA {m : Mem} {A K B : Nat} {n : Int} {r : List UInt8} (h : SM m A K B n r) (v : Int) : m.st A 0 [.int .i64 v] = some (m.set A ⟨0, [.int .i64 v]⟩) := by
  rw [st_some h.a h.la (by simp)]; rfl
theorem SM.stK {m : Mem} {A K B : Nat} {n : Int} {r : List UInt8} (h : SM m A K B n r) : m.st K 0 [.int .i64 0] = some (m.set K ⟨0, [.int .i64 0]⟩) := by
  rw [st_some h.k h.lk (by simp)]; rfl
theorem SM.lv {m : Mem} {A K B : Nat} {n : Int} {r : List UInt8} (h : SM m A K B n r) (env : Env) (h2 : env 2 = pt A) (h3 : env 3 = pt K) : leavesV (LV CV) ir19 env [⟨23, [pt A, pt K]⟩] none (m.set K ⟨0, [.int .i64 0]⟩) = some ⟨.ret, [.tuple #[.int .i64 n, .int .i64 0]], m.set K ⟨0, [.int .i64 0]⟩, []⟩ :=
  lv_none h2 h3 (by rw [Mem.get_set, if_neg (Ne.symm h.ak)]; exact h.a) (by simp)
def secR (s : List UInt8) : Value := match timeP s with | some n => .tuple #[.int .i64 n, .int .i64 0] | none => .tuple #[.int .i64 0, .int .i64 7]
theorem seconds_V {s : List UInt8} (hl : s.length < 1000000000) (m : Mem) : LV CV (.call 19) [S s] m [] = some ⟨.ret, [secR s], m, []⟩ := by
  refine R19 ?_
  generalize hM : (⟨[], m.next, m.next, 0⟩ : Mem) = M
  have hMn : M.next = m.next := by rw [← hM]
  have hMl : M.lo = M.next := by rw [← hM]
  -- the two cells
  have a1 : ((M.push ⟨0, [.int .i64 0]⟩).push ⟨0, [.int .i64 0]⟩).get M.next = some ⟨0, [.int .i64 0]⟩ := by rw [Mem.get_push, if_neg (by simp), Mem.get_push, if_pos rfl]
  have k1 : ((M.push ⟨0, [.int .i64 0]⟩).push ⟨0, [.int .i64 0]⟩).get (M.next + 1) = some ⟨0, [.int .i64 0]⟩ := by rw [Mem.get_push, if_pos (by simp)]
  generalize hM1 : (M.push ⟨0, [.int .i64 0]⟩).push ⟨0, [.int .i64 0]⟩ = M1 at *
  have n1 : M1.next = M.next + 2 := by rw [← hM1]; simp
  have l1 : M1.lo = M.next := by rw [← hM1]; simp [hMl]
  by_cases h45 : s = [45]
  · subst h45
    have hr : secR [45] = .tuple #[.int .i64 0, .int .i64 0] := rfl
    have hs1 := st_some (x := .int .i64 0) a1 (by omega) (by simp : 0 < (⟨0, [.int .i64 (0 : Int)]⟩ : Row).cells.length)
    simp only [putL] at hs1
    have a2 : (M1.set M.next ⟨0, [.int .i64 0]⟩).get M.next = some ⟨0, [.int .i64 0]⟩ := by simp
    have k2 : (M1.set M.next ⟨0, [.int .i64 0]⟩).get (M.next + 1) = some ⟨0, [.int .i64 0]⟩ := by rw [Mem.get_set, if_neg (by omega)]; exact k1
    have hs2 := st_some (x := .int .i64 0) k2 (by simp; omega) (by simp : 0 < (⟨0, [.int .i64 (0 : Int)]⟩ : Row).cells.length)
    simp only [putL] at hs2
    have a3 : ((M1.set M.next ⟨0, [.int .i64 0]⟩).set (M.next + 1) ⟨0, [.int .i64 0]⟩).get M.next = some ⟨0, [.int .i64 0]⟩ := by rw [Mem.get_set, if_neg (by omega)]; exact a2
    have k3 : ((M1.set M.next ⟨0, [.int .i64 0]⟩).set (M.next + 1) ⟨0, [.int .i64 0]⟩).get (M.next + 1) = some ⟨0, [.int .i64 0]⟩ := by simp
    have hlv := fun (env : Env) h2 h3 => lv_none (env := env) h2 h3 a3 k3
    have hx : ∃ m', x19 (LV CV) (S [45]) M = some ⟨.ret, [.tuple #[.int .i64 0, .int .i64 0]], m', []⟩ := by
      refine ⟨?_, ?_⟩
      rotate_left
      · simp only [x19]
        simp only [letK_eq, hM1]
        simp [fn?, hs1, hs2]
        refine hlv _ ?_ ?_ <;> simp
    obtain ⟨m', hx⟩ := hx
    rw [hx]
    first | (rw [hr]; simp) | simp
  · obtain ⟨low, t, ht, hcut, hR⟩ : ∃ (low : Bool) (t : List UInt8), t.length ≤ s.length ∧ (∀ m, LV CV (.call 24) [S s, S [45]] m [] = some ⟨.ret, [.tuple #[S t, .bool low]], m, []⟩) ∧ secR s = (match secP (splitC 58 t) with | some n => .tuple #[.int .i64 (if low = true then -(n : Int) else n), .int .i64 0] | none => .tuple #[.int .i64 0, .int .i64 7]) := by
      by_cases hp : [45] <+: s
      · refine ⟨true, s.drop 1, by simp, fun m => by simp [hp], ?_⟩
        unfold secR timeP
        rw [if_neg h45, if_pos hp]
        cases secP (splitC 58 (s.drop 1)) <;> simp
      · refine ⟨false, s, Nat.le_refl _, fun m => by simp [hp], ?_⟩
        unfold secR timeP
        rw [if_neg h45, if_neg hp]
        cases secP (splitC 58 s) <;> simp
    rw [hR]
    have htl : t.length < 1000000000 := by omega
    obtain ⟨a, r, ps, hx, hsp, hps⟩ := cutted t
    have hcount : t.count 58 = ps.length := by
      have := splitC_len 58 t
      rw [hsp] at this
      simp only [List.length_cons] at this
      omega
    have hcv := fun m => count_V t 58 m
    rw [hcount] at hcv
    rw [hsp]
    by_cases h2 : ps.length ≤ 2
    · have h2' : ¬ (2 : Int) < ps.length := by omega
      rw [secP_cons a ps h2]
      have b1 : (M1.push ⟨0, [S []]⟩).get (M.next + 2) = some ⟨0, [S []]⟩ := by rw [Mem.get_push, if_pos n1.symm]
      have hs0 : (M1.push ⟨0, [S []]⟩).st (M.next + 2) 0 [S t] = some ((M1.push ⟨0, [S []]⟩).set (M.next + 2) ⟨0, [S t]⟩) := by rw [st_some b1 (by simp [l1]) (by simp)]; rfl
      have s0 : SM ((M1.push ⟨0, [S []]⟩).set (M.next + 2) ⟨0, [S t]⟩) M.next (M.next + 1) (M.next + 2) 0 t := by
        refine ⟨?_, ?_, by simp, by simp [l1], by simp [l1], by simp [l1], by simp [n1]; omega, by simp [n1], by simp [n1], by omega, by omega, by omega⟩
        · rw [Mem.get_set, if_neg (by omega), Mem.get_push, if_neg (by omega)]; exact a1
        · rw [Mem.get_set, if_neg (by omega), Mem.get_push, if_neg (by omega)]; exact k1
      generalize hM2 : (M1.push ⟨0, [S []]⟩).set (M.next + 2) ⟨0, [S t]⟩ = M2 at *
      have hnum := number_V hx htl s0.b s0.lb s0.nb 1 3 (most := 167) (by omega)
      simp only [Int.cast_ofNat_Int] at hnum
      have s1 := s0.read (r' := r) ⟨1, a.map fun b => .int .u8 b.toNat⟩
      generalize (M2.set (M.next + 2) ⟨0, [S r]⟩).push ⟨1, a.map fun b => .int .u8 b.toNat⟩ = M3 at *
      have hbuild : aBuild [(0, 1), (1, 1)] [(.int .i64 (0)), (.int .i64 (0))] [(0, (.int .i64 (60))), (1, (.int .i64 (1)))] = some arr2 := rfl
      have hrl : r.length < 1000000000 := Nat.lt_of_le_of_lt hx.len.2 htl
      cases hh : numP 1 3 167 a with
      | none =>
        rw [hh] at hnum
        have hlv := fun (env : Env) h2 h3 => lv_pan (env := env) h2 h3 s1.a s1.k s1.la s1.lk s1.ak
        have hx : ∃ m', x19 (LV CV) (S s) M = some ⟨.ret, [.tuple #[.int .i64 0, .int .i64 7]], m', []⟩ := by
          refine ⟨?_, ?_⟩
          rotate_left
          · simp only [x19]
            simp only [letK_eq, hM1]
            simp [fn?, h45, hcut, hcv, h2', n1, hs0, hnum, cutD, cutK]
            refine hlv _ ?_ ?_ <;> simp
        obtain ⟨m', hx⟩ := hx
        rw [hx]
        simp
      | some h =>
        rw [hh] at hnum
        have hh2 := numP_le hh
        have w1 : IntKind.wrap .i64 ((h : Int) * 3600) = ((h * 3600 : Nat) : Int) := by rw [wrap_i64 (by omega) (by omega)]; omega
        have hst := s1.stA ((h * 3600 : Nat) : Int)
        have s2 := s1.setN ((h * 3600 : Nat) : Int)
        generalize hH : h * 3600 = H at *
        generalize M3.set M.next ⟨0, [.int .i64 (H : Int)]⟩ = M4 at *
        obtain ⟨q1, q2⟩ := sec_loop (low := .bool low) hps h2 (by omega) hrl s2 [⟨23, [pt M.next, pt (M.next + 1)]⟩]
        cases htl2 : tlP ps with
        | none =>
          obtain ⟨m5, n5, r5, vals, s5, hv5, hlp⟩ := q2 htl2
          have hlv := fun (env : Env) h2 h3 => lv_pan (env := env) h2 h3 s5.a s5.k s5.la s5.lk s5.ak
          obtain ⟨rest, rfl⟩ : ∃ rest, vals = pt M.next :: pt (M.next + 1) :: rest := by
            match vals, hv5 with
            | u :: w :: rest, hv5 => simp at hv5; exact ⟨rest, by rw [hv5.1, hv5.2]⟩
          have hx : ∃ m', x19 (LV CV) (S s) M = some ⟨.ret, [.tuple #[.int .i64 0, .int .i64 7]], m', []⟩ := by
            refine ⟨?_, ?_⟩
            rotate_left
            · simp only [x19]
              simp only [letK_eq, hM1]
              simp [fn?, h45, hcut, hcv, h2', n1, hs0, hnum, w1, hst, hbuild, hlp, lpD, lpK, cutD, cutK]
              refine hlv _ ?_ ?_ <;> simp
          obtain ⟨m', hx⟩ := hx
          rw [hx]
          simp
        | some v =>
          obtain ⟨m5, r5, s5, hlp⟩ := q1 v htl2
          have hle : H + v ≤ 604799 := by
            have := secP_le (p := a :: ps) (n := H + v) (by rw [secP_cons a ps h2, hh, htl2]; simp [hH])
            exact this
          simp only [Option.bind_some, Option.map_some]
          rw [hH]
          generalize H + v = N at *
          have w2 : IntKind.wrap .i64 (0 - (N : Int)) = -(N : Int) := by rw [wrap_i64 (by omega) (by omega)]; omega
          have w3 : IntKind.wrap .i64 (-(N : Int)) = -(N : Int) := wrap_i64 (by omega) (by omega)
          have hx : ∃ m', x19 (LV CV) (S s) M = some ⟨.ret, [.tuple #[.int .i64 (if low = true then -(N : Int) else N), .int .i64 0]], m', []⟩ := by
            cases low with
            | true =>
              have s6 := s5.setN (-(N : Int))
              have s7 := s6.setN (-(N : Int))
              have e1 := s5.stA (-(N : Int))
              have e2 := s6.stA (-(N : Int))
              have e3 := s7.stK
              have hlv := s7.lv
              have g5 := s5.a
              have g6 := s6.a
              refine ⟨?_, ?_⟩
              rotate_left
              · simp only [x19]
                simp only [letK_eq, hM1]
                simp [fn?, h45, hcut, hcv, h2', n1, hs0, hnum, w1, hst, hbuild, hlp, lpD, lpK, cutD, cutK, g5, w2, w3]
                simp only [e1, Option.bind_some]
                simp only [g6, Option.bind_some, List.getElem?_cons_zero]
                simp only [aSt_one (single_int _ _), e2, Option.bind_some]
                simp only [e3, Option.bind_some]
                refine hlv _ ?_ ?_ <;> simp
            | false =>
              have s6 := s5.setN (N : Int)
              have e1 := s5.stA (N : Int)
              have e3 := s6.stK
              have hlv := s6.lv
              have g5 := s5.a
              refine ⟨?_, ?_⟩
              rotate_left
              · simp only [x19]
                simp only [letK_eq, hM1]
                simp [fn?, h45, hcut, hcv, h2', n1, hs0, hnum, w1, hst, hbuild, hlp, lpD, lpK, cutD, cutK, g5]
                simp only [e1, Option.bind_some]
                simp only [e3, Option.bind_some]
                refine hlv _ ?_ ?_ <;> simp
          obtain ⟨m', hx⟩ := hx
          rw [hx]
          cases low <;> simp
    · have h2' : (2 : Int) < ps.length := by omega
      have hnone : secP (a :: ps) = none := secP_many _ (by simp; omega)
      rw [hnone]
      have hlv := fun (env : Env) h2 h3 => lv_pan (env := env) h2 h3 a1 k1 (by omega) (by omega) (by omega)
      have hx : ∃ m', x19 (LV CV) (S s) M = some ⟨.ret, [.tuple #[.int .i64 0, .int .i64 7]], m', []⟩ := by
        refine ⟨?_, ?_⟩
        rotate_left
        · simp only [x19]
          simp only [letK_eq, hM1]
          simp [fn?, h45, hcut, hcv, h2']
          refine hlv _ ?_ ?_ <;> simp
      obtain ⟨m', hx⟩ := hx
      rw [hx]
      simp
end Go.Proofs.YtbccdlbibcbcfaaDoor.D
