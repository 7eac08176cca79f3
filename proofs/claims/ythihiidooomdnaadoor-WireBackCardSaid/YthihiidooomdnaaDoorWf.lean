import Derived.Test.YthihiidooomdnaaDoorWe
namespace Go.Proofs.YthihiidooomdnaaDoor.D
open Go.RowKit
set_option linter.unusedVariables false
set_option linter.unusedSimpArgs false
structure Grown (m m' : Mem) : Prop where
  lo : m'.lo = m.lo
  ro : m'.ro = m.ro
  next : m.next ≤ m'.next
  get : ∀ q, q < m.next → m'.get q = m.get q
theorem d8_eb {d : Nat} (h : d < 10) : [d8 d] = eb (UInt8.ofNat (48 + d)) := by
  unfold d8 eb
  rw [cb_ofNat h]
theorem dd3 {n : Nat} (h1 : 100 ≤ n) (h2 : n < 1000) : (dd n).map eb = [[d8 (n / 100)], [d8 (n % 100 / 10)], [d8 (n % 100 % 10)]] := by
  rw [dd_ge (by omega), dd_ge (by omega), dd_lt (by omega)]
  simp only [List.map_append, List.map_cons, List.map_nil, List.cons_append, List.nil_append]
  rw [d8_eb (by omega), d8_eb (by omega), d8_eb (by omega)]
  rw [show n / 10 / 10 = n / 100 by omega, show n / 10 % 10 = n % 100 / 10 by omega, show n % 10 = n % 100 % 10 by omega]
theorem dd4 {n : Nat} (h1 : 1000 ≤ n) (h2 : n < 10000) : (dd n).map eb = [[d8 (n / 100 / 10)], [d8 (n / 100 % 10)], [d8 (n % 100 / 10)], [d8 (n % 100 % 10)]] := by
  rw [dd_ge (by omega), dd_ge (by omega), dd_ge (by omega), dd_lt (by omega)]
  simp only [List.map_append, List.map_cons, List.map_nil, List.cons_append, List.nil_append]
  rw [d8_eb (by omega), d8_eb (by omega), d8_eb (by omega), d8_eb (by omega)]
  rw [show n / 10 / 10 / 10 = n / 100 / 10 by omega, show n / 10 / 10 % 10 = n / 100 % 10 by omega, show n / 10 % 10 = n % 100 / 10 by omega, show n % 10 = n % 100 % 10 by omega]
theorem dd5 {n : Nat} (h1 : 10000 ≤ n) (h2 : n < 100000) : (dd n).map eb = [[d8 (n / 10000)], [d8 (n % 10000 / 100 / 10)], [d8 (n % 10000 / 100 % 10)], [d8 (n % 10000 % 100 / 10)], [d8 (n % 10000 % 100 % 10)]] := by
  rw [dd_ge (by omega), dd_ge (by omega), dd_ge (by omega), dd_ge (by omega), dd_lt (by omega)]
  simp only [List.map_append, List.map_cons, List.map_nil, List.cons_append, List.nil_append]
  rw [d8_eb (by omega), d8_eb (by omega), d8_eb (by omega), d8_eb (by omega), d8_eb (by omega)]
  rw [show n / 10 / 10 / 10 / 10 = n / 10000 by omega, show n / 10 / 10 / 10 % 10 = n % 10000 / 100 / 10 by omega, show n / 10 / 10 % 10 = n % 10000 / 100 % 10 by omega, show n / 10 % 10 = n % 10000 % 100 / 10 by omega, show n % 10 = n % 10000 % 100 % 10 by omega]
def Z24 : List Value := [(.int .u8 (0)), (.int .u8 (0)), (.int .u8 (0)), (.int .u8 (0)), (.int .u8 (0)), (.int .u8 (0)), (.int .u8 (0)), (.int .u8 (0)), (.int .u8 (0)), (.int .u8 (0)), (.int .u8 (0)), (.int .u8 (0)), (.int .u8 (0)), (.int .u8 (0)), (.int .u8 (0)), (.int .u8 (0)), (.int .u8 (0)), (.int .u8 (0)), (.int .u8 (0)), (.int .u8 (0)), (.int .u8 (0)), (.int .u8 (0)), (.int .u8 (0)), (.int .u8 (0))]
theorem z24_eq : ([(.int .u8 (0)), (.int .u8 (0)), (.int .u8 (0)), (.int .u8 (0)), (.int .u8 (0)), (.int .u8 (0)), (.int .u8 (0)), (.int .u8 (0)), (.int .u8 (0)), (.int .u8 (0)), (.int .u8 (0)), (.int .u8 (0)), (.int .u8 (0)), (.int .u8 (0)), (.int .u8 (0)), (.int .u8 (0)), (.int .u8 (0)), (.int .u8 (0)), (.int .u8 (0)), (.int .u8 (0)), (.int .u8 (0)), (.int .u8 (0)), (.int .u8 (0)), (.int .u8 (0))] : List Value) = Z24 := rfl
theorem flat_single (ds : List Value) : (ds.map fun d => [d]).flatten = ds := by
  induction ds with
  | nil => rfl
  | cons d t ih => simp only [List.map_cons, List.flatten_cons, ih]; rfl
theorem appU_big {n nd : Nat} (h0 : 100 ≤ n) (hn : n < 100000) (hnd : Lib.nDigits n = nd) (hd : nd < 24) {ds : List Value} (hdl : (dd n).map eb = ds.map fun d => [d]) (hlen : ds.length = nd) (m : Mem) (hm : m.lo ≤ m.next)
    (hf : ∀ m', m'.get m.next = some ⟨1, Z24⟩ → m'.lo ≤ m.next → LV CV (.call 25) [.slice (some ⟨m.next, 0, none⟩) nd (nd + 1), .int .u64 n] m' [] = some ⟨.ret, [.tuple #[]], m'.set m.next ⟨1, ds ++ List.replicate (24 - nd) (.int .u8 0)⟩, []⟩) :
    ∃ v m', LV CV (.call 19) [.slice none 0 0, .int .u64 n, .int .i64 10] m [] = some ⟨.ret, [v], m', []⟩ ∧ Own m' v 1 ((dd n).map eb) ∧ Grown m m' := by
  have hZl : Z24.length = 24 := rfl
  have hff := hf (m.push ⟨1, Z24⟩) (by simp) (by simpa using hm)
  generalize hM : (m.push ⟨1, Z24⟩).set m.next ⟨1, ds ++ List.replicate (24 - nd) (.int .u8 0)⟩ = M at hff
  have hMg : M.get m.next = some ⟨1, ds ++ List.replicate (24 - nd) (.int .u8 0)⟩ := by rw [← hM]; simp
  have hMn : M.next = m.next + 1 := by rw [← hM]; simp
  have hMlo : M.lo = m.lo := by rw [← hM]; simp
  have hMro : M.ro = m.ro := by rw [← hM]; simp
  have hMo : ∀ q, q < m.next → M.get q = m.get q := fun q hq => by rw [← hM]; simp; rw [if_neg (by omega), if_neg (by omega)]
  have hown : Own M (.slice none 0 0) 1 [] := Own.nil (by omega)
  obtain ⟨v, m', e1, e2, e3, _⟩ := hown.apps (str := false) (y := .slice (some ⟨m.next, 0, none⟩) nd (nd + 1)) (xs := (dd n).map eb) (l := ds) (by
      have hl2 : ((dd n).map eb).length = nd := by rw [hdl, List.length_map, hlen]
      rw [hl2]
      have hat : M.at_ m.next 0 nd = some ds := by
        simp only [Mem.at_, hMg, Option.bind_some]
        rw [if_pos (by simp; omega)]
        simp [← hlen]
      simp [vSrc, aSrc, hat]) (by rw [hdl]; exact flat_single ds) (fun e he => by rw [hdl] at he; obtain ⟨d, _, rfl⟩ := List.mem_map.1 he; rfl) (by
      rw [hdl]; intro e
      have h0 : ds.length = 0 := by simpa using congrArg List.length e
      have hn0 : Lib.nDigits n = 0 := by omega
      rw [Lib.nDigits] at hn0
      split at hn0 <;> omega) (b := 1) (by rw [hdl]; simp; omega) (by rw [hdl]; simp; omega)
  refine ⟨v, m', R19 ?_, by simpa using e2, e3.lo.trans hMlo, e3.ro.trans hMro, by have := e3.next; omega, fun q hq => (e3.get q (by omega) (fun _ _ h => by cases h)).trans (hMo q hq)⟩
  have hnl : ¬ (n : Int) < 100 := by omega
  have hnum := fun m => numD_V (n := n) (by omega) (by omega) m
  rw [hnd] at hnum
  have hc1 : aCutArr 24 1 (.pointer (some ⟨m.next, 0, none⟩)) none (some (.int .i64 nd)) (m.push ⟨1, Z24⟩) = some (.slice (some ⟨m.next, 0, none⟩) nd (nd + 1)) := by
    have h1 : (nd : Int) ≤ 24 := by omega
    have h2 : ¬ nd = 24 := by omega
    simp [aCutArr, addr?, hZl, h1, h2]
  have hc2 : aCutArr 24 1 (.pointer (some ⟨m.next, 0, none⟩)) none (some (.int .i64 nd)) M = some (.slice (some ⟨m.next, 0, none⟩) nd (nd + 1)) := by
    have h1 : (nd : Int) ≤ 24 := by omega
    have h2 : ¬ nd = 24 := by omega
    have h3 : 24 ≤ nd + (24 - nd) := by omega
    simp [aCutArr, addr?, hMg, hlen, h1, h2, h3]
  simp only [x19, z24_eq]
  simp [hnl, hnum, hc1, hff, hc2, e1, letK]
theorem appU_V {n : Nat} (hn : n < 100000) (m : Mem) (hm : m.lo ≤ m.next) : ∃ v m', LV CV (.call 19) [.slice none 0 0, .int .u64 n, .int .i64 10] m [] = some ⟨.ret, [v], m', []⟩ ∧ Own m' v 1 ((dd n).map eb) ∧ Grown m m' := by
  by_cases h1 : n < 100
  · have hl : (n : Int) < 100 := by omega
    have hne : dd n ≠ [] := by
      by_cases h : n < 10
      · rw [dd_lt h]; simp
      · rw [dd_ge (by omega)]; simp
    have hlen := dd_len 4 n (by omega)
    obtain ⟨v, m', e1, e2, e3, _⟩ := (Own.nil (sz := 1) hm).apps (str := true) (y := S (dd n)) (xs := (dd n).map eb) (l := (dd n).map fun b => .int .u8 b.toNat) (by simp [vSrc, aSrc, S_size]) (by rw [eb_flat]) (fun e he => by obtain ⟨d, _, rfl⟩ := List.mem_map.1 he; rfl) (by simpa using hne) (b := 1) (by simp; omega) (by simp; omega)
    refine ⟨v, m', R19 ?_, by simpa using e2, e3.lo, e3.ro, e3.next, fun q hq => e3.get q hq (fun _ _ h => by cases h)⟩
    have hw : IntKind.wrap .i64 (n : Int) = n := wrap_i64 (by omega) (by omega)
    simp [x19, hl, hw, small_V h1, e1]
  · by_cases h2 : n < 1000
    · exact appU_big (by omega) hn (Lib.nDigits_unique 2 n (by omega) (by omega)) (by decide) (ds := [d8 (n / 100), d8 (n % 100 / 10), d8 (n % 100 % 10)]) (dd3 (by omega) h2) rfl m hm fun m' hg hlo => fb3 (by omega) h2 hg hlo 4
    · by_cases h3 : n < 10000
      · exact appU_big (by omega) hn (Lib.nDigits_unique 3 n (by omega) (by omega)) (by decide) (ds := [d8 (n / 100 / 10), d8 (n / 100 % 10), d8 (n % 100 / 10), d8 (n % 100 % 10)]) (dd4 (by omega) h3) rfl m hm fun m' hg hlo => fb4 (by omega) h3 hg hlo 5
      · exact appU_big (by omega) hn (Lib.nDigits_unique 4 n (by omega) (by omega)) (by decide) (ds := [d8 (n / 10000), d8 (n % 10000 / 100 / 10), d8 (n % 10000 / 100 % 10), d8 (n % 10000 % 100 / 10), d8 (n % 10000 % 100 % 10)]) (dd5 (by omega) hn) rfl m hm fun m' hg hlo => fb5 (by omega) hn hg hlo 6
theorem appI_V {n : Nat} (hn : n < 100000) (m : Mem) (hm : m.lo ≤ m.next) : ∃ v m', LV CV (.call 11) [.slice none 0 0, .int .i64 n, .int .i64 10] m [] = some ⟨.ret, [v], m', []⟩ ∧ Own m' v 1 ((dd n).map eb) ∧ Grown m m' := by
  obtain ⟨v, m', e1, e2, e3⟩ := appU_V hn m hm
  refine ⟨v, m', R11 ?_, e2, e3⟩
  have hi : LV CV (.call 16) [.slice none 0 0, .int .i64 n, .int .i64 10] m [] = some ⟨.ret, [v], m', []⟩ := by
    refine R16 ?_
    have hw : IntKind.wrap .u64 (n : Int) = n := wrap_u64 (by omega) (by omega)
    have hl : ¬ (n : Int) < 0 := by omega
    simp [x16, hw, hl, e1]
  simp [x11, hi]
end Go.Proofs.YthihiidooomdnaaDoor.D
