/-
  Frames, one behind the other, are split as they were.
-/
import Derived.Test.YthihiidooomdnaaDoorWp
import Derived.Lib.ItoaNum
namespace Go.Proofs.YthihiidooomdnaaDoor.D
set_option linter.unusedVariables false
set_option linter.unusedSimpArgs false
def zs (l : List UInt8) : List Int := l.map fun b => (b.toNat : Int)
theorem zs_append (a b : List UInt8) : zs (a ++ b) = zs a ++ zs b := by simp [zs]
theorem zs_length (a : List UInt8) : (zs a).length = a.length := by simp [zs]
theorem zs_inj : ∀ {a b : List UInt8}, zs a = zs b → a = b := by
  intro a
  induction a with
  | nil => intro b h; cases b with | nil => rfl | cons y t => simp [zs] at h
  | cons x t ih =>
    intro b h
    cases b with
    | nil => simp [zs] at h
    | cons y u =>
      have h2 : (x.toNat : Int) :: zs t = (y.toNat : Int) :: zs u := h
      have h3 := List.cons.inj h2
      rw [UInt8.toNat_inj.1 (by omega : x.toNat = y.toNat), ih h3.2]
def fr (l : List UInt8) : List UInt8 := Lib.decDigits l.length ++ [58] ++ l ++ [10]
theorem Sp.run_one (s : Sp) (c : Int) : s.run [c] = s.step c := rfl
theorem dl_len : ∀ (k n : Nat), n < 10 ^ (k + 1) → (Lib.decDigits n).length ≤ k + 1 := by
  intro k
  induction k with
  | zero => intro n h; rw [Lib.decDigits, dif_pos (by simpa using h)]; simp
  | succ k ih =>
    intro n h
    by_cases h10 : n < 10
    · rw [Lib.decDigits, dif_pos h10]; simp
    · rw [Lib.decDigits, dif_neg h10]
      have := ih (n / 10) (by rw [Nat.pow_succ] at h; omega)
      simp; omega
theorem dl_pos (n : Nat) : 0 < (Lib.decDigits n).length := by
  rw [Lib.decDigits]; split <;> simp
theorem dg_toNat {d : Nat} (h : d < 10) : ((UInt8.ofNat (48 + d)).toNat : Int) = 48 + d := by simp [UInt8.toNat_ofNat']; omega
theorem run_digits (out : List It) : ∀ (k n : Nat), n < k → n < 100000 → Sp.run ⟨0, [], 0, 0, out⟩ (zs (Lib.decDigits n)) = ⟨0, zs (Lib.decDigits n), n, 0, out⟩ := by
  intro k
  induction k with
  | zero => intro n h; omega
  | succ k ih =>
    intro n h hn
    by_cases h10 : n < 10
    · rw [Lib.decDigits, dif_pos h10]
      show Sp.run _ [((UInt8.ofNat (48 + n)).toNat : Int)] = ⟨0, [((UInt8.ofNat (48 + n)).toNat : Int)], n, 0, out⟩
      rw [dg_toNat h10, Sp.run_one]
      unfold Sp.step
      dsimp only
      rw [if_neg (by decide), if_neg (by decide)]
      unfold Sp.digit
      rw [if_pos (by omega), if_neg (by simp)]
      simp
      omega
    · rw [Lib.decDigits, dif_neg h10, zs_append, Sp.run_append, ih (n / 10) (by omega) (by omega)]
      have hl := dl_len 3 (n / 10) (by omega)
      show Sp.run _ [((UInt8.ofNat (48 + n % 10)).toNat : Int)] = ⟨0, zs (Lib.decDigits (n / 10)) ++ [((UInt8.ofNat (48 + n % 10)).toNat : Int)], n, 0, out⟩
      rw [dg_toNat (by omega), Sp.run_one]
      unfold Sp.step
      dsimp only
      rw [if_neg (by decide), if_neg (by decide)]
      unfold Sp.digit
      dsimp only
      rw [if_pos (by omega), if_neg (by rw [zs_length]; omega)]
      simp only [Sp.mk.injEq, true_and, and_true]
      omega
theorem run_body (out : List It) (n : Int) : ∀ (l held : List Int), Sp.run ⟨1, held, n, l.length, out⟩ l = ⟨1, held ++ l, n, 0, out⟩ := by
  intro l
  induction l with
  | nil => intro held; simp [Sp.run]
  | cons c t ih =>
    intro held
    have e : Sp.run ⟨1, held, n, (c :: t).length, out⟩ (c :: t) = Sp.run (Sp.step ⟨1, held, n, (c :: t).length, out⟩ c) t := rfl
    rw [e]
    have hs : Sp.step ⟨1, held, n, ((c :: t).length : Nat), out⟩ c = ⟨1, held ++ [c], n, (t.length : Nat), out⟩ := by
      unfold Sp.step
      dsimp only
      rw [if_pos rfl]
      unfold Sp.byte
      dsimp only
      rw [if_pos (by simp)]
      simp
    rw [hs, ih]
    simp
theorem run_frame (out : List It) {l : List UInt8} (h : l.length ≤ 20000) : Sp.run ⟨0, [], 0, 0, out⟩ (zs (fr l)) = ⟨0, [], 0, 0, out ++ [⟨false, zs l⟩]⟩ := by
  unfold fr
  rw [zs_append, zs_append, zs_append, Sp.run_append, Sp.run_append, Sp.run_append, run_digits out (l.length + 1) l.length (by omega) (by omega)]
  have hp := dl_pos l.length
  have h1 : Sp.run ⟨0, zs (Lib.decDigits l.length), l.length, 0, out⟩ (zs [58]) = ⟨1, zs (Lib.decDigits l.length) ++ [58], l.length, ((zs l).length : Nat), out⟩ := by
    rw [show zs [58] = [58] from rfl, Sp.run_one]
    unfold Sp.step
    dsimp only
    rw [if_neg (by decide), if_neg (by decide)]
    unfold Sp.digit
    dsimp only
    rw [if_neg (by decide), if_neg (by rw [zs_length]; omega), zs_length]
  rw [h1, run_body]
  rw [show zs [10] = [10] from rfl, Sp.run_one]
  unfold Sp.step
  dsimp only
  rw [if_pos rfl]
  unfold Sp.byte
  dsimp only
  rw [if_neg (by decide), if_neg (by decide)]
  unfold Sp.begin
  simp only [Sp.mk.injEq, true_and, List.append_cancel_left_eq, List.cons.injEq, It.mk.injEq, and_true]
  have hl : (zs (Lib.decDigits l.length) ++ [58] ++ zs l).length - (l.length : Int).toNat = (zs (Lib.decDigits l.length) ++ [58]).length := by
    simp [zs_length]
    omega
  rw [hl, List.drop_left]
theorem run_frames : ∀ (ls : List (List UInt8)) (out : List It), (∀ l ∈ ls, l.length ≤ 20000) → Sp.run ⟨0, [], 0, 0, out⟩ (zs (ls.flatMap fr)) = ⟨0, [], 0, 0, out ++ ls.map fun l => ⟨false, zs l⟩⟩ := by
  intro ls
  induction ls with
  | nil => intro out _; simp [zs, Sp.run]
  | cons l t ih =>
    intro out h
    rw [List.flatMap_cons, zs_append, Sp.run_append, run_frame out (h l (by simp)), ih _ (fun x hx => h x (by simp [hx]))]
    simp
theorem run_pass (out : List It) : ∀ l : List UInt8, (10 : UInt8) ∉ l → Sp.run ⟨2, [], 0, 0, out⟩ (zs l) = ⟨2, [], 0, 0, out⟩ := by
  intro l
  induction l with
  | nil => intro _; rfl
  | cons c t ih =>
    intro h
    simp only [List.mem_cons, not_or] at h
    have hc : ¬ (c.toNat : Int) = 10 := fun e => h.1 (UInt8.toNat_inj.1 (show (10 : Nat) = c.toNat by omega))
    show Sp.run (Sp.step ⟨2, [], 0, 0, out⟩ c.toNat) (zs t) = _
    have hs : Sp.step ⟨2, [], 0, 0, out⟩ (c.toNat : Int) = ⟨2, [], 0, 0, out⟩ := by
      unfold Sp.step
      dsimp only
      rw [if_neg (by decide), if_pos rfl]
      unfold Sp.pass
      rw [if_neg hc]
    rw [hs, ih h.2]
theorem run_again {junk l : List UInt8} (hj : (10 : UInt8) ∉ junk) (h : l.length ≤ 20000) : Sp.run Sp.new (zs (120 :: junk ++ [10] ++ fr l)) = ⟨0, [], 0, 0, [⟨true, []⟩, ⟨false, zs l⟩]⟩ := by
  rw [zs_append, Sp.run_append, zs_append, Sp.run_append]
  have h0 : Sp.run Sp.new (zs (120 :: junk)) = Sp.run ⟨2, [], 0, 0, [⟨true, []⟩]⟩ (zs junk) := by
    show Sp.run (Sp.step Sp.new 120) (zs junk) = _
    rfl
  rw [h0, run_pass _ _ hj]
  have h1 : Sp.run ⟨2, [], 0, 0, [⟨true, []⟩]⟩ (zs [10]) = ⟨0, [], 0, 0, [⟨true, []⟩]⟩ := rfl
  rw [h1, run_frame _ h]
  rfl
end Go.Proofs.YthihiidooomdnaaDoor.D
