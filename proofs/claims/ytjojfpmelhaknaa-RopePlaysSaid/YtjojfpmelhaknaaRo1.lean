/-
  Ropes: trees of texts, in plain words; and what the program's small functions make of them.
-/
import Derived.Test.YtjojfpmelhaknaaVZ
import Derived.Test.YtjojfpmelhaknaaVS
import Derived.Lib.IndexBytes
namespace Go.Proofs.Ytjojfpmelhaknaa.D
set_option linter.unusedVariables false
set_option linter.unusedSimpArgs false
inductive Tr where
  | e
  | lf (s : List UInt8)
  | nd (l r : Tr)
instance (t : Tr) : Decidable (t = .e) := match t with | .e => isTrue rfl | .lf _ => isFalse (fun h => by cases h) | .nd _ _ => isFalse (fun h => by cases h)
namespace Tr
def cn (s : List UInt8) : Nat := s.count 10
def tx : Tr → List UInt8
  | .e => []
  | .lf s => s
  | .nd l r => l.tx ++ r.tx
def len : Tr → Nat
  | .e => 0
  | .lf s => s.length
  | .nd l r => l.len + r.len
def fd : Tr → Nat
  | .e => 0
  | .lf s => cn s
  | .nd l r => l.fd + r.fd
def ht : Tr → Nat
  | .e => 0
  | .lf _ => 1
  | .nd l r => max l.ht r.ht + 1
def enc : Tr → Value
  | .e => .pointer none
  | .lf s => fp [S s, .pointer none, .pointer none, .int .i64 s.length, .int .i64 (cn s), .int .i64 1] 0
  | .nd l r => fp [S [], l.enc, r.enc, .int .i64 (l.len + r.len : Nat), .int .i64 (l.fd + r.fd : Nat), .int .i64 (max l.ht r.ht + 1 : Nat)] 0
/-- Level, and nothing empty in it. -/
def Ok : Tr → Prop
  | .e => False
  | .lf s => s ≠ [] ∧ s.length ≤ 64
  | .nd l r => l.Ok ∧ r.Ok ∧ l.ht ≤ r.ht + 1 ∧ r.ht ≤ l.ht + 1
/-- Nothing, or level. -/
def Ok0 (t : Tr) : Prop := t = .e ∨ t.Ok
theorem tx_len : ∀ t : Tr, t.tx.length = t.len
  | .e => rfl
  | .lf _ => rfl
  | .nd l r => by simp [tx, len, tx_len l, tx_len r]
theorem tx_cn : ∀ t : Tr, cn t.tx = t.fd
  | .e => rfl
  | .lf _ => rfl
  | .nd l r => by simp [tx, fd, cn] at *; rw [← tx_cn l, ← tx_cn r]; rfl
theorem cn_le (s : List UInt8) : cn s ≤ s.length := List.count_le_length
theorem fd_le (t : Tr) : t.fd ≤ t.len := by rw [← tx_cn, ← tx_len]; exact cn_le _
theorem Ok.pos : ∀ {t : Tr}, t.Ok → 1 ≤ t.ht ∧ t.ht ≤ t.len
  | .e, h => h.elim
  | .lf s, h => ⟨Nat.le_refl _, by
      have := h.1
      show 1 ≤ s.length
      cases s with
      | nil => exact absurd rfl this
      | cons a t => simp⟩
  | .nd l r, h => by
      have h1 := h.1.pos
      have h2 := h.2.1.pos
      simp only [ht, len]
      omega
theorem Ok.ne {t : Tr} (h : t.Ok) : t ≠ .e := fun e => by subst e; exact h
theorem Ok.len {t : Tr} (h : t.Ok) : 1 ≤ t.len := by have := h.pos; omega
theorem Ok0.ht_le {t : Tr} (h : t.Ok0) : t.ht ≤ t.len := by
  rcases h with rfl | h
  · exact Nat.le_refl _
  · exact h.pos.2
/-- The least a level tree of a height holds. -/
def least : Nat → Nat
  | 0 => 0
  | 1 => 1
  | n + 2 => least (n + 1) + least n
theorem least_mono : ∀ n, least n ≤ least (n + 1)
  | 0 => by decide
  | 1 => by decide
  | n + 2 => Nat.add_le_add (least_mono (n + 1)) (least_mono n)
theorem Ok.least : ∀ {t : Tr}, t.Ok → Tr.least t.ht ≤ t.len
  | .e, h => h.elim
  | .lf s, h => h.pos.2
  | .nd l r, h => by
      have h1 := h.1.least
      have h2 := h.2.1.least
      have p1 := h.1.pos
      have p2 := h.2.1.pos
      obtain ⟨_, _, b1, b2⟩ := h
      simp only [ht, Tr.len]
      have key : ∀ a b : Nat, 1 ≤ a → b ≤ a → a ≤ b + 1 → Tr.least (a + 1) ≤ Tr.least a + Tr.least b := fun a b q1 q2 q3 => by
        obtain ⟨a, rfl⟩ : ∃ n, a = n + 1 := ⟨a - 1, by omega⟩
        show Tr.least (a + 1) + Tr.least a ≤ _
        have : Tr.least a ≤ Tr.least b := by
          rcases Nat.lt_or_ge b (a + 1) with h | h
          · rw [show b = a by omega]; exact Nat.le_refl _
          · rw [show b = a + 1 by omega]; exact least_mono a
        omega
      rcases Nat.le_total l.ht r.ht with h | h
      · rw [Nat.max_eq_right h]
        have := key r.ht l.ht p2.1 h b2
        omega
      · rw [Nat.max_eq_left h]
        have := key l.ht r.ht p1.1 h b1
        omega
theorem least_le {a b : Nat} (h : a ≤ b) : Tr.least a ≤ Tr.least b := by
  induction h with
  | refl => exact Nat.le_refl _
  | step _ ih => exact Nat.le_trans ih (least_mono _)
theorem Ok0.low {t : Tr} (h : t.Ok0) (hl : t.len ≤ 20000) : t.ht ≤ 30 := by
  rcases h with rfl | h
  · decide
  · have h1 := h.least
    rcases Nat.lt_or_ge 30 t.ht with h2 | h2
    · have := least_le (show 24 ≤ t.ht by omega)
      have h3 : Tr.least 24 = 46368 := by decide
      omega
    · exact h2
@[simp] theorem enc_e : Tr.enc .e = .pointer none := rfl
theorem clo_enc (t : Tr) (k : Nat) : clo (k + 1) t.enc = true := by cases t <;> rfl
theorem frz_enc (t : Tr) (k n : Nat) (m : Mem) : frz (k + 1) n m t.enc = t.enc := by cases t <;> rfl
theorem single_enc (t : Tr) : single t.enc := by cases t <;> exact ⟨rfl, rfl⟩
end Tr
attribute [simp] Tr.clo_enc Tr.frz_enc Tr.single_enc
@[simp] theorem known_enc (t : Tr) : known t.enc = true := (Tr.single_enc t).1
@[simp] theorem cells_enc (t : Tr) : t.enc.cells.toList = [t.enc] := (Tr.single_enc t).2
@[simp] theorem isNil_enc (t : Tr) (n : Bool) : vIsNil .ptr n t.enc = some (.bool (if n then decide (t ≠ .e) else decide (t = .e))) := by
  cases t <;> cases n <;> simp [Tr.enc]
theorem wn {n : Nat} (h : n ≤ 9223372036854775807) : IntKind.wrap .i64 (n : Int) = n := wrap_i64 (by omega) (by omega)
theorem len_spec (t : Tr) (m : Mem) : LV CV (.call 12) [t.enc] m [] = some ⟨.ret, [.int .i64 t.len], m, []⟩ := by
  refine R12 ?_
  cases t <;> simp [x12, Tr.enc, Tr.len]
theorem feeds_spec (t : Tr) (m : Mem) : LV CV (.call 33) [t.enc] m [] = some ⟨.ret, [.int .i64 t.fd], m, []⟩ := by
  refine R33 ?_
  cases t <;> simp [x33, Tr.enc, Tr.fd]
theorem height_spec (t : Tr) (m : Mem) : LV CV (.call 18) [t.enc] m [] = some ⟨.ret, [.int .i64 t.ht], m, []⟩ := by
  refine R18 ?_
  cases t <;> simp [x18, Tr.enc, Tr.ht]
theorem lines_spec (t : Tr) (h : t.fd ≤ 1000000000000) (m : Mem) : LV CV (.call 16) [t.enc] m [] = some ⟨.ret, [.int .i64 (t.fd + 1 : Nat)], m, []⟩ := by
  refine R16 ?_
  have := wn (n := t.fd + 1) (by omega)
  push_cast at this
  simp [x16, feeds_spec, this]
theorem frz_new (n l q : Nat) (r : Row) (k : Nat) : frz (k + 1) n ((⟨[], n, l, q⟩ : Mem).push r) (.pointer (some ⟨n, 0, none⟩)) = fp (r.cells.map (frz k 0 ((⟨[], n, l, q⟩ : Mem).push r))) 0 := by
  simp [frz]
theorem build_leaf (s : List UInt8) (n c : Int) : aBuild [(0, 1), (1, 1), (2, 1), (3, 1), (4, 1), (5, 1)] [(S []), (.pointer none), (.pointer none), (.int .i64 (0)), (.int .i64 (0)), (.int .i64 (0))] [(0, S s), (3, .int .i64 n), (4, .int .i64 c), (5, (.int .i64 (1)))] = some (.agg [S s, .pointer none, .pointer none, .int .i64 n, .int .i64 c, .int .i64 1].toArray) := rfl
theorem build_both {u v : Value} (hu : single u) (hv : single v) (n c h : Int) : aBuild [(0, 1), (1, 1), (2, 1), (3, 1), (4, 1), (5, 1)] [(S []), (.pointer none), (.pointer none), (.int .i64 (0)), (.int .i64 (0)), (.int .i64 (0))] [(1, u), (2, v), (3, .int .i64 n), (4, .int .i64 c), (5, .int .i64 h)] = some (.agg [S [], u, v, .int .i64 n, .int .i64 c, .int .i64 h].toArray) := by
  obtain ⟨u1, u2⟩ := hu
  obtain ⟨v1, v2⟩ := hv
  have u3 : u.cells.size = 1 := by rw [← Array.length_toList, u2]; rfl
  have v3 : v.cells.size = 1 := by rw [← Array.length_toList, v2]; rfl
  simp [aBuild, fillL, u1, u2, u3, v1, v2, v3, putL]
/-- A text, as a rope. -/
def leafT (s : List UInt8) : Tr := if s = [] then .e else .lf s
theorem leafT_tx (s : List UInt8) : (leafT s).tx = s := by unfold leafT; split <;> simp_all [Tr.tx]
theorem leafT_ok {s : List UInt8} (h : s.length ≤ 64) : (leafT s).Ok0 := by
  unfold leafT
  split
  · exact .inl rfl
  · exact .inr ⟨‹_›, h⟩
theorem leaf_spec (s : List UInt8) (m : Mem) : LV CV (.call 38) [S s] m [] = some ⟨.ret, [(leafT s).enc], m, []⟩ := by
  refine R38 ?_
  have hc : ∀ m : Mem, LV CV (.call 35) [S s, S [10]] m [] = some ⟨.ret, [.int .i64 (Tr.cn s)], m, []⟩ := fun m => by
    rw [L_givenV (C := CV) (g := gkV (.pure gCount)) rfl]
    rfl
  by_cases h : s = []
  · subst h
    simp [x38, leafT]
  · simp [x38, leafT, h, hc, build_leaf, letK, frz_new, Tr.enc]
theorem both_spec (l r : Tr) (h1 : l.len + r.len ≤ 1000000000000) (h2 : l.ht ≤ 1000000000000) (h3 : r.ht ≤ 1000000000000) (m : Mem) : LV CV (.call 40) [l.enc, r.enc] m [] = some ⟨.ret, [(Tr.nd l r).enc], m, []⟩ := by
  refine R40 ?_
  have a1 := wn (n := l.len + r.len) (by omega)
  have a2 := wn (n := l.fd + r.fd) (by have := l.fd_le; have := r.fd_le; omega)
  have a3 := wn (n := max l.ht r.ht + 1) (by omega)
  have a4 : aMax true [.int .i64 l.ht, .int .i64 r.ht] = some (.int .i64 (max l.ht r.ht : Nat)) := by
    simp [aMax]
    omega
  push_cast at a1 a2 a3
  simp only [x40, len_spec, feeds_spec, height_spec, retK_ret, aBin_add, Option.bind_some, a4, Int.natCast_add, Int.natCast_one, a1, a2, a3, build_both (Tr.single_enc l) (Tr.single_enc r)]
  simp [letK, frz_new, Tr.enc]
end Go.Proofs.Ytjojfpmelhaknaa.D
