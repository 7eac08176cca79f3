import Derived.Test.YthihiidooomdnaaDoorWd
namespace Go.Proofs.YthihiidooomdnaaDoor.D
open Go.RowKit
set_option linter.unusedVariables false
set_option linter.unusedSimpArgs false
theorem sm_fin : ∀ p : Fin 100, ([48, 48, 48, 49, 48, 50, 48, 51, 48, 52, 48, 53, 48, 54, 48, 55, 48, 56, 48, 57, 49, 48, 49, 49, 49, 50, 49, 51, 49, 52, 49, 53, 49, 54, 49, 55, 49, 56, 49, 57, 50, 48, 50, 49, 50, 50, 50, 51, 50, 52, 50, 53, 50, 54, 50, 55, 50, 56, 50, 57, 51, 48, 51, 49, 51, 50, 51, 51, 51, 52, 51, 53, 51, 54, 51, 55, 51, 56, 51, 57, 52, 48, 52, 49, 52, 50, 52, 51, 52, 52, 52, 53, 52, 54, 52, 55, 52, 56, 52, 57, 53, 48, 53, 49, 53, 50, 53, 51, 53, 52, 53, 53, 53, 54, 53, 55, 53, 56, 53, 57, 54, 48, 54, 49, 54, 50, 54, 51, 54, 52, 54, 53, 54, 54, 54, 55, 54, 56, 54, 57, 55, 48, 55, 49, 55, 50, 55, 51, 55, 52, 55, 53, 55, 54, 55, 55, 55, 56, 55, 57, 56, 48, 56, 49, 56, 50, 56, 51, 56, 52, 56, 53, 56, 54, 56, 55, 56, 56, 56, 57, 57, 48, 57, 49, 57, 50, 57, 51, 57, 52, 57, 53, 57, 54, 57, 55, 57, 56, 57, 57] : List UInt8)[2 * p.val]? = some (UInt8.ofNat (48 + p.val / 10)) ∧ ([48, 48, 48, 49, 48, 50, 48, 51, 48, 52, 48, 53, 48, 54, 48, 55, 48, 56, 48, 57, 49, 48, 49, 49, 49, 50, 49, 51, 49, 52, 49, 53, 49, 54, 49, 55, 49, 56, 49, 57, 50, 48, 50, 49, 50, 50, 50, 51, 50, 52, 50, 53, 50, 54, 50, 55, 50, 56, 50, 57, 51, 48, 51, 49, 51, 50, 51, 51, 51, 52, 51, 53, 51, 54, 51, 55, 51, 56, 51, 57, 52, 48, 52, 49, 52, 50, 52, 51, 52, 52, 52, 53, 52, 54, 52, 55, 52, 56, 52, 57, 53, 48, 53, 49, 53, 50, 53, 51, 53, 52, 53, 53, 53, 54, 53, 55, 53, 56, 53, 57, 54, 48, 54, 49, 54, 50, 54, 51, 54, 52, 54, 53, 54, 54, 54, 55, 54, 56, 54, 57, 55, 48, 55, 49, 55, 50, 55, 51, 55, 52, 55, 53, 55, 54, 55, 55, 55, 56, 55, 57, 56, 48, 56, 49, 56, 50, 56, 51, 56, 52, 56, 53, 56, 54, 56, 55, 56, 56, 56, 57, 57, 48, 57, 49, 57, 50, 57, 51, 57, 52, 57, 53, 57, 54, 57, 55, 57, 56, 57, 57] : List UInt8)[2 * p.val + 1]? = some (UInt8.ofNat (48 + p.val % 10)) := by decide +kernel
theorem sm0 {p : Nat} (h : p < 100) (k : IntKind) : aByte (S [48, 48, 48, 49, 48, 50, 48, 51, 48, 52, 48, 53, 48, 54, 48, 55, 48, 56, 48, 57, 49, 48, 49, 49, 49, 50, 49, 51, 49, 52, 49, 53, 49, 54, 49, 55, 49, 56, 49, 57, 50, 48, 50, 49, 50, 50, 50, 51, 50, 52, 50, 53, 50, 54, 50, 55, 50, 56, 50, 57, 51, 48, 51, 49, 51, 50, 51, 51, 51, 52, 51, 53, 51, 54, 51, 55, 51, 56, 51, 57, 52, 48, 52, 49, 52, 50, 52, 51, 52, 52, 52, 53, 52, 54, 52, 55, 52, 56, 52, 57, 53, 48, 53, 49, 53, 50, 53, 51, 53, 52, 53, 53, 53, 54, 53, 55, 53, 56, 53, 57, 54, 48, 54, 49, 54, 50, 54, 51, 54, 52, 54, 53, 54, 54, 54, 55, 54, 56, 54, 57, 55, 48, 55, 49, 55, 50, 55, 51, 55, 52, 55, 53, 55, 54, 55, 55, 55, 56, 55, 57, 56, 48, 56, 49, 56, 50, 56, 51, 56, 52, 56, 53, 56, 54, 56, 55, 56, 56, 56, 57, 57, 48, 57, 49, 57, 50, 57, 51, 57, 52, 57, 53, 57, 54, 57, 55, 57, 56, 57, 57]) (.int k ((p : Int) * 2)) = some (.int .u8 (48 + ((p / 10 : Nat) : Int))) := by
  have e : (48 : Int) + ((p / 10 : Nat) : Int) = ((UInt8.ofNat (48 + p / 10)).toNat : Int) := by simp [UInt8.toNat_ofNat']; omega
  rw [e]
  have := (sm_fin ⟨p, h⟩).1
  rw [aByte_S, if_pos (by omega), show ((p : Int) * 2).toNat = 2 * p by omega, this]; rfl
theorem sm1 {p : Nat} (h : p < 100) (k : IntKind) : aByte (S [48, 48, 48, 49, 48, 50, 48, 51, 48, 52, 48, 53, 48, 54, 48, 55, 48, 56, 48, 57, 49, 48, 49, 49, 49, 50, 49, 51, 49, 52, 49, 53, 49, 54, 49, 55, 49, 56, 49, 57, 50, 48, 50, 49, 50, 50, 50, 51, 50, 52, 50, 53, 50, 54, 50, 55, 50, 56, 50, 57, 51, 48, 51, 49, 51, 50, 51, 51, 51, 52, 51, 53, 51, 54, 51, 55, 51, 56, 51, 57, 52, 48, 52, 49, 52, 50, 52, 51, 52, 52, 52, 53, 52, 54, 52, 55, 52, 56, 52, 57, 53, 48, 53, 49, 53, 50, 53, 51, 53, 52, 53, 53, 53, 54, 53, 55, 53, 56, 53, 57, 54, 48, 54, 49, 54, 50, 54, 51, 54, 52, 54, 53, 54, 54, 54, 55, 54, 56, 54, 57, 55, 48, 55, 49, 55, 50, 55, 51, 55, 52, 55, 53, 55, 54, 55, 55, 55, 56, 55, 57, 56, 48, 56, 49, 56, 50, 56, 51, 56, 52, 56, 53, 56, 54, 56, 55, 56, 56, 56, 57, 57, 48, 57, 49, 57, 50, 57, 51, 57, 52, 57, 53, 57, 54, 57, 55, 57, 56, 57, 57]) (.int k ((p : Int) * 2 + 1)) = some (.int .u8 (48 + ((p % 10 : Nat) : Int))) := by
  have e : (48 : Int) + ((p % 10 : Nat) : Int) = ((UInt8.ofNat (48 + p % 10)).toNat : Int) := by simp [UInt8.toNat_ofNat']; omega
  rw [e]
  have := (sm_fin ⟨p, h⟩).2
  rw [aByte_S, if_pos (by omega), show ((p : Int) * 2 + 1).toNat = 2 * p + 1 by omega, this]; rfl
theorem wrap_u32 {n : Int} (h : 0 ≤ n) (h2 : n < 4294967296) : IntKind.wrap .u32 n = n := by
  have e1 : (IntKind.u32.signed && decide (n % (2 ^ IntKind.u32.bits : Int) ≥ (2 ^ (IntKind.u32.bits - 1) : Int))) = false := rfl
  unfold IntKind.wrap
  simp only [e1]
  show n % 4294967296 = n
  omega
theorem wrap_u64 {n : Int} (h : 0 ≤ n) (h2 : n < 18446744073709551616) : IntKind.wrap .u64 n = n := by
  have e1 : (IntKind.u64.signed && decide (n % (2 ^ IntKind.u64.bits : Int) ≥ (2 ^ (IntKind.u64.bits - 1) : Int))) = false := rfl
  unfold IntKind.wrap
  simp only [e1]
  show n % 18446744073709551616 = n
  omega
def d8 (n : Nat) : Value := .int .u8 (48 + (n : Int))
theorem fb_loop (a : Value) (n : Int) (nd : Int) (h : nd < 8) (m : Mem) : LV CV (.loop 2500) [a, .int .u64 n, .int .i64 nd] m [] = some ⟨.exit 0, [a, .int .u64 n, .int .i64 nd], m, []⟩ := by
  refine Q2500 ?_
  have : ¬ (8 : Int) ≤ nd := by omega
  simp only [y2500, aBin_geq, Option.bind_some, br_bool]
  simp [this]
theorem fb3 {n o : Nat} (h1 : 100 ≤ n) (h2 : n < 1000) {m : Mem} {x0 x1 x2 : Value} {r : List Value} (hm : m.get o = some ⟨1, x0 :: x1 :: x2 :: r⟩) (hlo : m.lo ≤ o) (c : Nat) :
    LV CV (.call 25) [.slice (some ⟨o, 0, none⟩) 3 c, .int .u64 n] m [] = some ⟨.ret, [.tuple #[]], m.set o ⟨1, d8 (n / 100) :: d8 (n % 100 / 10) :: d8 (n % 100 % 10) :: r⟩, []⟩ := by
  refine R25 ?_
  have hl := fun m => fb_loop (.slice (some ⟨o, 0, none⟩) 3 c) n 3 (by decide) m
  have w0 : IntKind.wrap .u32 (n : Int) = n := wrap_u32 (by omega) (by omega)
  have r1 : (n : Int).tmod 100 = ((n % 100 : Nat) : Int) := by rw [Int.tmod_eq_emod_of_nonneg (by omega)]; rfl
  have q1 : (n : Int).tdiv 100 = ((n / 100 : Nat) : Int) := by rw [Int.tdiv_eq_ediv_of_nonneg (by omega)]; rfl
  have ha : n % 100 < 100 := by omega
  have hb : n / 100 < 10 := by omega
  generalize n % 100 = A at *
  generalize n / 100 = B at *
  have w1 : IntKind.wrap .u32 (A : Int) = A := wrap_u32 (by omega) (by omega)
  have w2 : IntKind.wrap .u32 ((A : Int) * 2) = (A : Int) * 2 := wrap_u32 (by omega) (by omega)
  have w3 : IntKind.wrap .u32 ((A : Int) * 2 + 1) = (A : Int) * 2 + 1 := wrap_u32 (by omega) (by omega)
  have w4 : IntKind.wrap .u32 (B : Int) = B := wrap_u32 (by omega) (by omega)
  have w5 : IntKind.wrap .u32 (48 + (B : Int)) = 48 + B := wrap_u32 (by omega) (by omega)
  have w6 : IntKind.wrap .u8 (48 + (B : Int)) = 48 + B := wrap_u8 (by omega) (by omega)
  have s0 := sm0 ha .u32
  have s1 := sm1 ha .u32
  have k2 : IntKind.wrap .i64 2 = 2 := by decide
  have k1 : IntKind.wrap .i64 1 = 1 := by decide
  simp only [x25, vLenL_at, Option.bind_some]
  simp [-aByte_S, hl, w0, r1, q1, w1, w2, w3, w4, w5, w6, s0, s1, k1, k2, st_one, putL, hm, hlo, d8]
theorem fb4 {n o : Nat} (h1 : 1000 ≤ n) (h2 : n < 10000) {m : Mem} {x0 x1 x2 x3 : Value} {r : List Value} (hm : m.get o = some ⟨1, x0 :: x1 :: x2 :: x3 :: r⟩) (hlo : m.lo ≤ o) (c : Nat) :
    LV CV (.call 25) [.slice (some ⟨o, 0, none⟩) 4 c, .int .u64 n] m [] = some ⟨.ret, [.tuple #[]], m.set o ⟨1, d8 (n / 100 / 10) :: d8 (n / 100 % 10) :: d8 (n % 100 / 10) :: d8 (n % 100 % 10) :: r⟩, []⟩ := by
  refine R25 ?_
  have hl := fun m => fb_loop (.slice (some ⟨o, 0, none⟩) 4 c) n 4 (by decide) m
  have w0 : IntKind.wrap .u32 (n : Int) = n := wrap_u32 (by omega) (by omega)
  have r0 : (n : Int).tmod 10000 = (n : Int) := by rw [Int.tmod_eq_emod_of_nonneg (by omega)]; omega
  have q0 : (n : Int).tdiv 10000 = 0 := by rw [Int.tdiv_eq_ediv_of_nonneg (by omega)]; omega
  have z0 : IntKind.wrap .u32 0 = 0 := wrap_u32 (by decide) (by decide)
  have r1 : (n : Int).tmod 100 = ((n % 100 : Nat) : Int) := by rw [Int.tmod_eq_emod_of_nonneg (by omega)]; rfl
  have q1 : (n : Int).tdiv 100 = ((n / 100 : Nat) : Int) := by rw [Int.tdiv_eq_ediv_of_nonneg (by omega)]; rfl
  have ha : n % 100 < 100 := by omega
  have hb : n / 100 < 100 := by omega
  generalize n % 100 = A at *
  generalize n / 100 = B at *
  have w1 : IntKind.wrap .u32 (A : Int) = A := wrap_u32 (by omega) (by omega)
  have w2 : IntKind.wrap .u32 ((A : Int) * 2) = (A : Int) * 2 := wrap_u32 (by omega) (by omega)
  have w3 : IntKind.wrap .u32 ((A : Int) * 2 + 1) = (A : Int) * 2 + 1 := wrap_u32 (by omega) (by omega)
  have w4 : IntKind.wrap .u32 (B : Int) = B := wrap_u32 (by omega) (by omega)
  have w5 : IntKind.wrap .u32 ((B : Int) * 2) = (B : Int) * 2 := wrap_u32 (by omega) (by omega)
  have w6 : IntKind.wrap .u32 ((B : Int) * 2 + 1) = (B : Int) * 2 + 1 := wrap_u32 (by omega) (by omega)
  have s0 := sm0 ha .u32
  have s1 := sm1 ha .u32
  have s2 := sm0 hb .u32
  have s3 := sm1 hb .u32
  have k0 : IntKind.wrap .i64 0 = 0 := by decide
  have k1 : IntKind.wrap .i64 1 = 1 := by decide
  have k2 : IntKind.wrap .i64 2 = 2 := by decide
  have k3 : IntKind.wrap .i64 3 = 3 := by decide
  simp only [x25, vLenL_at, Option.bind_some]
  simp [-aByte_S, hl, w0, r0, q0, z0, r1, q1, w1, w2, w3, w4, w5, w6, s0, s1, s2, s3, k0, k1, k2, k3, st_one, putL, hm, hlo, d8]
theorem fb5 {n o : Nat} (h1 : 10000 ≤ n) (h2 : n < 100000) {m : Mem} {x0 x1 x2 x3 x4 : Value} {r : List Value} (hm : m.get o = some ⟨1, x0 :: x1 :: x2 :: x3 :: x4 :: r⟩) (hlo : m.lo ≤ o) (c : Nat) :
    LV CV (.call 25) [.slice (some ⟨o, 0, none⟩) 5 c, .int .u64 n] m [] = some ⟨.ret, [.tuple #[]], m.set o ⟨1, d8 (n / 10000) :: d8 (n % 10000 / 100 / 10) :: d8 (n % 10000 / 100 % 10) :: d8 (n % 10000 % 100 / 10) :: d8 (n % 10000 % 100 % 10) :: r⟩, []⟩ := by
  refine R25 ?_
  have hl := fun m => fb_loop (.slice (some ⟨o, 0, none⟩) 5 c) n 5 (by decide) m
  have w0 : IntKind.wrap .u32 (n : Int) = n := wrap_u32 (by omega) (by omega)
  have r0 : (n : Int).tmod 10000 = ((n % 10000 : Nat) : Int) := by rw [Int.tmod_eq_emod_of_nonneg (by omega)]; rfl
  have q0 : (n : Int).tdiv 10000 = ((n / 10000 : Nat) : Int) := by rw [Int.tdiv_eq_ediv_of_nonneg (by omega)]; rfl
  have he : n / 10000 < 10 := by omega
  have hc : n % 10000 < 10000 := by omega
  generalize n / 10000 = E at *
  generalize n % 10000 = N at *
  have v0 : IntKind.wrap .u32 (N : Int) = N := wrap_u32 (by omega) (by omega)
  have v1 : IntKind.wrap .u32 (E : Int) = E := wrap_u32 (by omega) (by omega)
  have v2 : IntKind.wrap .u32 (48 + (E : Int)) = 48 + E := wrap_u32 (by omega) (by omega)
  have v3 : IntKind.wrap .u8 (48 + (E : Int)) = 48 + E := wrap_u8 (by omega) (by omega)
  have r1 : (N : Int).tmod 100 = ((N % 100 : Nat) : Int) := by rw [Int.tmod_eq_emod_of_nonneg (by omega)]; rfl
  have q1 : (N : Int).tdiv 100 = ((N / 100 : Nat) : Int) := by rw [Int.tdiv_eq_ediv_of_nonneg (by omega)]; rfl
  have ha : N % 100 < 100 := by omega
  have hb : N / 100 < 100 := by omega
  generalize N % 100 = A at *
  generalize N / 100 = B at *
  have w1 : IntKind.wrap .u32 (A : Int) = A := wrap_u32 (by omega) (by omega)
  have w2 : IntKind.wrap .u32 ((A : Int) * 2) = (A : Int) * 2 := wrap_u32 (by omega) (by omega)
  have w3 : IntKind.wrap .u32 ((A : Int) * 2 + 1) = (A : Int) * 2 + 1 := wrap_u32 (by omega) (by omega)
  have w4 : IntKind.wrap .u32 (B : Int) = B := wrap_u32 (by omega) (by omega)
  have w5 : IntKind.wrap .u32 ((B : Int) * 2) = (B : Int) * 2 := wrap_u32 (by omega) (by omega)
  have w6 : IntKind.wrap .u32 ((B : Int) * 2 + 1) = (B : Int) * 2 + 1 := wrap_u32 (by omega) (by omega)
  have s0 := sm0 ha .u32
  have s1 := sm1 ha .u32
  have s2 := sm0 hb .u32
  have s3 := sm1 hb .u32
  have k1 : IntKind.wrap .i64 1 = 1 := by decide
  have k2 : IntKind.wrap .i64 2 = 2 := by decide
  have k3 : IntKind.wrap .i64 3 = 3 := by decide
  have k4 : IntKind.wrap .i64 4 = 4 := by decide
  simp only [x25, vLenL_at, Option.bind_some]
  simp [-aByte_S, hl, w0, r0, q0, v0, v1, v2, v3, r1, q1, w1, w2, w3, w4, w5, w6, s0, s1, s2, s3, k1, k2, k3, k4, st_one, putL, hm, hlo, d8]
end Go.Proofs.YthihiidooomdnaaDoor.D
