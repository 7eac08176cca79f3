/-
  The texts of the claim Texts, merged: LDayText, Pxf4, LDayTextLaws, LawDayformTexts.
-/
import Derived.Test.YtahpmeijinndhaaDoorMTexts3
import Derived.Test.YtahpmeijinndhaaDoorCards
import Derived.Test.YtahpmeijinndhaaDoorTie
import Derived.Test.YtahpmeijinndhaaDoorProg
import Derived.Below
import Derived.WalkSmall
import Derived.WalkKit
import Derived.Shelf.Vars
import Derived.KernelRfl
import Derived.Lib.AppendIntMem
import Derived.Lib.LaidTab
import Derived.LaidSub
import Derived.Lib.ItoaNum
import Derived.Deep.Draws
import Derived.Deep.AppendLies
import Derived.Maps.AppendAt
import Derived.OwnWalk
import Derived.Laws.BytesArg
import Derived.Laws.MakeOwn
import Derived.Laws.OwnMore
import Derived.Deep.OwnRows
import Derived.Tactics
import Derived.Lib.ConvBytes
import Derived.Laws.Slices
import Derived.RowKit3
import Derived.Deep.LoopGhost
import Derived.Deep.QuietTactic
import Derived.BigQuiet
import Derived.WideLaws
import Derived.Deep.DeepCutAuto
import Derived.Deep.CutBlock
import Derived.Deep.RegionHeld3
import Derived.Laws.Rows
import Derived.Lib.AppendStr
import Derived.ArgAppend
import Derived.Laws.IdiomCopy
import Derived.OrdersHeld
import Derived.Laws.BitsLemmas
import Derived.RowKit
import Derived.Test.YtahpmeijinndhaaDoorWWords
import Derived.Test.YtahpmeijinndhaaDoorWLast
import Derived.Test.YtahpmeijinndhaaDoorWTab
import Derived.Test.YtahpmeijinndhaaDoorWFour
import Derived.Test.YtahpmeijinndhaaDoorWQPut
import Derived.Test.YtahpmeijinndhaaDoorWApart
import Derived.Test.YtahpmeijinndhaaDoorWArr
import Derived.Test.YtahpmeijinndhaaDoorWZeros
import Derived.Test.YtahpmeijinndhaaDoorWFoot
import Derived.Test.YtahpmeijinndhaaDoorWKept
import Derived.Test.YtahpmeijinndhaaDoorWShare
import Derived.Test.YtahpmeijinndhaaDoorWN
import Derived.Test.YtahpmeijinndhaaDoorWFootNe
import Derived.Test.YtahpmeijinndhaaDoorWAt
import Derived.Test.YtahpmeijinndhaaDoorWEqStruct
import Derived.Test.YtahpmeijinndhaaDoorWRepsOne
import Derived.Test.YtahpmeijinndhaaDoorWInv
import Derived.Test.YtahpmeijinndhaaDoorWInvWords
import Derived.Test.YtahpmeijinndhaaDoorWGuard
import Derived.Test.YtahpmeijinndhaaDoorWNEv
import Derived.Test.YtahpmeijinndhaaDoorWMore
import Derived.Shelf.Strconv.Itoa0
import Derived.Shelf.Strconv.Itoa1
import Derived.Shelf.LaysM
import Derived.Shelf.Strconv.Itoa2
import Derived.Shelf.Strconv.Itoa3
import Derived.Shelf.Strings.Search1
import Derived.Shelf.Strings.Search2
import Derived.Shelf.Strings.Search3
import Derived.Shelf.Strings.Cut
import Derived.Shelf.Strings.Shaped
import Derived.Lib.QuietBelow
import Derived.LoopTactic
import Derived.Lib.Hide
import Derived.Deep.RegionWith
import Derived.Lib.Strings
import Derived.Lib.IndexBytes
import Derived.IntWalk
import Derived.Lib.IndexLaws
import Derived.Lib.IndexMore
import Derived.ProofKit
import Derived.OpenShut
import Derived.ShutString
import Derived.ChangeOld
import Derived.SizedLaws
import Derived.HandedShaped
import Derived.Lib.SmallJoins
import Derived.Carry
import Derived.Deep.DeepHandedRow
/-
  Plain laws of a day's text: what Parse and Show come to, in the program and in the document's answer.
-/
namespace Go.Proofs.YtahpmeijinndhaaDoor.P
open Go.RowKit Go.Proofs.YtahpmeijinndhaaDoorW.PrintWords
set_option linter.unusedVariables false

def nm (c : Int) : List UInt8 := if c = 0 then [83, 117, 110] else if c = 1 then [77, 111, 110] else if c = 2 then [84, 117, 101] else if c = 3 then [87, 101, 100] else if c = 4 then [84, 104, 117] else if c = 5 then [70, 114, 105] else if c = 6 then [83, 97, 116] else []
/-- The day of a name; -1: it is none. -/
def nameIx (l : List UInt8) : Int := if l = [83, 117, 110] then 0 else if l = [77, 111, 110] then 1 else if l = [84, 117, 101] then 2 else if l = [87, 101, 100] then 3 else if l = [84, 104, 117] then 4 else if l = [70, 114, 105] then 5 else if l = [83, 97, 116] then 6 else -1
theorem nameIx_cases (l : List UInt8) : (nameIx l = -1) ∨ (0 ≤ nameIx l ∧ nameIx l ≤ 6 ∧ l = nm (nameIx l)) := by
  unfold nameIx
  by_cases h0 : l = [83, 117, 110]
  · right; rw [if_pos h0]; exact ⟨by omega, by omega, h0⟩
  by_cases h1 : l = [77, 111, 110]
  · right; rw [if_neg h0, if_pos h1]; exact ⟨by omega, by omega, h1⟩
  by_cases h2 : l = [84, 117, 101]
  · right; rw [if_neg h0, if_neg h1, if_pos h2]; exact ⟨by omega, by omega, h2⟩
  by_cases h3 : l = [87, 101, 100]
  · right; rw [if_neg h0, if_neg h1, if_neg h2, if_pos h3]; exact ⟨by omega, by omega, h3⟩
  by_cases h4 : l = [84, 104, 117]
  · right; rw [if_neg h0, if_neg h1, if_neg h2, if_neg h3, if_pos h4]; exact ⟨by omega, by omega, h4⟩
  by_cases h5 : l = [70, 114, 105]
  · right; rw [if_neg h0, if_neg h1, if_neg h2, if_neg h3, if_neg h4, if_pos h5]; exact ⟨by omega, by omega, h5⟩
  by_cases h6 : l = [83, 97, 116]
  · right; rw [if_neg h0, if_neg h1, if_neg h2, if_neg h3, if_neg h4, if_neg h5, if_pos h6]; exact ⟨by omega, by omega, h6⟩
  left; rw [if_neg h0, if_neg h1, if_neg h2, if_neg h3, if_neg h4, if_neg h5, if_neg h6]
theorem seven (c : Int) (h : 0 ≤ c) (h' : c ≤ 6) : c = 0 ∨ c = 1 ∨ c = 2 ∨ c = 3 ∨ c = 4 ∨ c = 5 ∨ c = 6 := by omega
theorem nameIx_nm (c : Int) (h : 0 ≤ c) (h' : c ≤ 6) : nameIx (nm c) = c := by
  rcases seven c h h' with e | e | e | e | e | e | e <;> subst e <;> decide
theorem nm_len (c : Int) (h : 0 ≤ c) (h' : c ≤ 6) : (nm c).length = 3 := by
  rcases seven c h h' with e | e | e | e | e | e | e <;> subst e <;> decide
theorem nm_letter (c : Int) (j : Nat) (h : 0 ≤ c) (h' : c ≤ 6) (x : UInt8) (hx : x = 62 ∨ x = 60) : (nm c)[j]? ≠ some x := by
  rcases seven c h h' with e | e | e | e | e | e | e <;> subst e <;> rcases hx with hx | hx <;> subst hx <;> (match j with | 0 | 1 | 2 => decide | j + 3 => simp [nm])

/-- The number of a text of one or two digits; 0: it is none up to 31. -/
def numT (l : List UInt8) : Int := if l.length ≤ 2 ∧ l ≠ [] ∧ l.headD 0 ≠ 48 ∧ l.all isDig = true ∧ dval l 0 ≤ 31 then (dval l 0 : Int) else 0
theorem numT_bd (l : List UInt8) : 0 ≤ numT l ∧ numT l ≤ 31 := by unfold numT; split <;> omega

theorem numB_eq (l : List UInt8) : ∀ n : Nat, numB l (n : Int) = if l.all isDig = true then some (dval l n : Int) else none := by
  induction l with
  | nil => intro n; rfl
  | cons c r ih =>
    intro n
    rw [numB]
    by_cases h1 : (c.toNat : Int) < 48
    · rw [if_pos h1, if_neg]
      intro h
      rw [List.all_cons, Bool.and_eq_true] at h
      exact ((isDig_int c).1 h.1).1 h1
    · by_cases h2 : 57 < (c.toNat : Int)
      · rw [if_neg h1, if_pos h2, if_neg]
        intro h
        rw [List.all_cons, Bool.and_eq_true] at h
        exact ((isDig_int c).1 h.1).2 h2
      · rw [if_neg h1, if_neg h2, show (n : Int) * 10 + ((c.toNat : Int) - 48) = ((n * 10 + (c.toNat - 48) : Nat) : Int) by omega, ih]
        rw [List.all_cons, (isDig_int c).2 ⟨h1, h2⟩, Bool.true_and]
        rfl

theorem dval_pos (l : List UInt8) (h : l ≠ []) (hd : l.all isDig = true) (h0 : l.headD 0 ≠ 48) : 1 ≤ dval l 0 := by
  match l, h with
  | c :: r, _ =>
    rw [List.all_cons, Bool.and_eq_true] at hd
    have := (isDig_int c).1 hd.1
    have h1 : c.toNat ≠ 48 := fun e => h0 (UInt8.toNat_inj.1 e)
    exact Nat.le_trans (by omega) (dval_ge r (0 * 10 + (c.toNat - 48)))
theorem dval_big (l : List UInt8) (h : 3 ≤ l.length) (hd : l.all isDig = true) (h0 : l.headD 0 ≠ 48) : 100 ≤ dval l 0 := by
  match l, h with
  | c :: d :: e :: r, _ =>
    simp only [List.all_cons, Bool.and_eq_true] at hd
    have := (isDig_int c).1 hd.1
    have h1 : c.toNat ≠ 48 := fun e => h0 (UInt8.toNat_inj.1 e)
    exact Nat.le_trans (by omega) (dval_ge r (((0 * 10 + (c.toNat - 48)) * 10 + (d.toNat - 48)) * 10 + (e.toNat - 48)))

theorem dayform_number_eq (s : ByteArray) : ∃ n b, dayform_number.f s = some (n, b) ∧ (b = true ↔ 0 < numT (lst s)) ∧ (b = true → n = numT (lst s)) := by
  have hl := lst_len s
  unfold dayform_number.f
  by_cases h1 : 2 < s.size
  · rw [if_pos h1]
    refine ⟨_, _, rfl, ?_, by simp⟩
    have : numT (lst s) = 0 := by unfold numT; rw [if_neg (by omega)]
    simp [this]
  rw [if_neg h1]
  by_cases h2 : s.size = 0
  · rw [if_pos h2]
    refine ⟨_, _, rfl, ?_, by simp⟩
    have : numT (lst s) = 0 := by unfold numT; rw [if_neg (fun h => h.2.1 (List.eq_nil_of_length_eq_zero (by omega)))]
    simp [this]
  rw [if_neg h2]
  have hne : lst s ≠ [] := fun e => h2 (by rw [← hl, e]; rfl)
  by_cases h3 : bt s 0 = 48
  · rw [if_pos h3]
    rw [headD_bt] at h3
    refine ⟨_, _, rfl, ?_, by simp⟩
    have : numT (lst s) = 0 := by unfold numT; rw [if_neg (fun h => h.2.2.1 ((u8_48 _).1 h3))]
    simp [this]
  rw [if_neg h3]
  rw [headD_bt] at h3
  have h4 : (lst s).headD 0 ≠ 48 := fun e => h3 ((u8_48 _).2 e)
  unfold numR
  have hB := numB_eq (lst s) 0
  rw [show ((0 : Nat) : Int) = 0 from rfl] at hB
  rw [hB]
  by_cases h5 : (lst s).all isDig = true
  · rw [if_pos h5]
    refine ⟨_, _, rfl, ?_, ?_⟩
    · have hp := dval_pos _ hne h5 h4
      unfold numT
      by_cases h6 : dval (lst s) 0 ≤ 31
      · rw [if_pos ⟨by omega, hne, h4, h5, h6⟩]; simp; omega
      · rw [if_neg (fun h => h6 h.2.2.2.2)]; simp; omega
    · intro hb
      have h6 : dval (lst s) 0 ≤ 31 := by simp at hb; omega
      unfold numT
      rw [if_pos ⟨by omega, hne, h4, h5, h6⟩]
  · rw [if_neg h5]
    refine ⟨_, _, rfl, ?_, by simp⟩
    have : numT (lst s) = 0 := by unfold numT; rw [if_neg (fun h => h5 h.2.2.2.1)]
    simp [this]

/-- The number from 1 to 31, or 0, of what ParseInt answers. -/
def num31 (p : Int × Int) : Int := if p.2 = 0 then (if p.1 < 1 then 0 else if p.1 > 31 then 0 else p.1) else 0
theorem num31_val (v : Int) : num31 (v, 0) = if v < 1 then 0 else if v > 31 then 0 else v := rfl
theorem pint2_low (l : List UInt8) : num31 (pint2 l true) = 0 := by
  unfold pint2
  split
  · rfl
  split
  · rfl
  split
  · rfl
  split
  · rfl
  rw [if_pos rfl, num31_val, if_pos (by omega)]
theorem pint2_high (l : List UInt8) : num31 (pint2 l false) = numT l := by
  by_cases hne : l = []
  · rw [hne]; rfl
  by_cases h1 : l.all isDig = true
  · by_cases h48 : l.headD 0 = 48
    · have hT : numT l = 0 := by unfold numT; rw [if_neg (fun h => h.2.2.1 h48)]
      rw [hT]
      by_cases hlen : 1 < l.length
      · unfold pint2
        rw [if_pos (Or.inr ⟨h48, Or.inl hlen⟩)]; rfl
      · match l, hne, hlen with
        | [c], _, _ =>
          have e : c = 48 := h48
          subst e
          decide
        | _ :: _ :: _, _, h => simp at h
    · have hp := dval_pos l hne h1 h48
      have hP : pint2 l false = if 19 < l.length then (0, 2) else if 9223372036854775808 < dval l 0 then (0, 2) else if 9223372036854775807 < dval l 0 then (0, 2) else ((dval l 0 : Int), 0) := by
        unfold pint2
        rw [if_neg (by rintro (h | ⟨h, _⟩); exact hne h; exact h48 h), if_neg (by rw [h1]; decide)]
        rfl
      rw [hP]
      by_cases hl : 3 ≤ l.length
      · have hb := dval_big l hl h1 h48
        have hT : numT l = 0 := by unfold numT; rw [if_neg (fun h => by have := h.1; omega)]
        rw [hT]
        split
        · rfl
        split
        · rfl
        split
        · rfl
        rw [num31_val, if_neg (by omega), if_pos (by omega)]
      · have hs : dval l 0 ≤ 99 := by
          match l, hne, hl with
          | [c], _, _ =>
            have := (isDig_int c).1 (by simpa using h1)
            simp only [dval]; omega
          | [c, d], _, _ =>
            simp only [List.all_cons, Bool.and_eq_true] at h1
            have := (isDig_int c).1 h1.1
            have := (isDig_int d).1 h1.2.1
            simp only [dval]; omega
          | _ :: _ :: _ :: _, _, h => simp at h
        have ha : ¬ 19 < l.length := by omega
        have hb : ¬ 9223372036854775808 < dval l 0 := by omega
        have hc : ¬ 9223372036854775807 < dval l 0 := by omega
        rw [if_neg ha, if_neg hb, if_neg hc, num31_val, if_neg (by omega)]
        unfold numT
        by_cases h6 : dval l 0 ≤ 31
        · rw [if_neg (by omega), if_pos ⟨by omega, hne, h48, h1, h6⟩]
        · rw [if_pos (by omega), if_neg (fun h => h6 h.2.2.2.2)]
  · have hT : numT l = 0 := by unfold numT; rw [if_neg (fun h => h1 h.2.2.2.1)]
    rw [hT]
    unfold pint2
    split
    · rfl
    rw [if_pos (by simpa using h1)]
    rfl
theorem pint_num (l : List UInt8) : num31 (pintP l) = numT l := by
  unfold pintP
  by_cases hm : l.headD 0 = 45
  · rw [if_pos hm, pint2_low]
    unfold numT
    rw [if_neg]
    rintro ⟨_, h1, _, h2, _⟩
    match l, h1 with
    | c :: r, _ =>
      rw [List.all_cons, Bool.and_eq_true] at h2
      have e : c = 45 := hm
      rw [e] at h2
      exact absurd h2.1 (by decide)
  · rw [if_neg hm, pint2_high]
theorem noonmarkref06_number_eq (s : ByteArray) (k : Nat) (hb : s.size ≤ 9223372036854775000) (hk : s.size + 30 < k) : noonmarkref06_number.f k s = some (numT (lst s)) := by
  unfold noonmarkref06_number.f
  rw [noonmarkref02_ParseInt_eq s k hb hk]
  simp only [Option.bind_some]
  rw [← pint_num]
  unfold num31
  by_cases h : (pintP (lst s)).2 = 0
  · rw [if_pos h, if_pos h]
    by_cases h1 : (pintP (lst s)).1 < 1
    · rw [if_pos h1, if_pos h1]
    · rw [if_neg h1, if_neg h1]
      by_cases h2 : (pintP (lst s)).1 > 31
      · rw [if_pos h2, if_pos h2]
      · rw [if_neg h2, if_neg h2]
  · rw [if_neg h, if_neg h]

def ixFrom : List (List UInt8) → List UInt8 → Int → Int
  | [], _, _ => -1
  | x :: r, l, i => if x = l then i else ixFrom r l (i + 1)
theorem name_l0 (s : ByteArray) (L : List ByteArray) (hL : L.length ≤ 1000) (d : Nat) : ∀ (k i : Nat), i + d = L.length → d < k →
    noonmarkref06_name.l0 k s L (i : Int) = some (ixFrom ((L.drop i).map lst) (lst s) (i : Int)) := by
  induction d with
  | zero =>
    intro k i hi hk
    obtain ⟨k, rfl⟩ : ∃ m, k = m + 1 := ⟨k - 1, by omega⟩
    simp only [noonmarkref06_name.l0]
    rw [if_neg (by omega), List.drop_of_length_le (by omega)]
    rfl
  | succ d ih =>
    intro k i hi hk
    obtain ⟨k, rfl⟩ : ∃ m, k = m + 1 := ⟨k - 1, by omega⟩
    have hlt : i < L.length := by omega
    simp only [noonmarkref06_name.l0]
    have e : rdOf ByteArray.empty L (i : Int) = L[i] := by unfold rdOf; rw [Int.toNat_natCast, List.getD_eq_getElem?_getD, List.getElem?_eq_getElem hlt]; rfl
    rw [if_pos (by omega), if_pos (by omega), e, List.drop_eq_getElem_cons hlt, List.map_cons, ixFrom, toList_lst, toList_lst]
    by_cases h : lst L[i] = lst s
    · rw [if_pos h, if_pos h]
    · rw [if_neg h, if_neg h, IntWalk.wrap64_in _ (by omega), show ((i : Int) + 1) = ((i + 1 : Nat) : Int) by omega]
      exact ih k (i + 1) (by omega) (by omega)
theorem nameIx_from (l : List UInt8) : ixFrom (names06.map lst) l 0 = nameIx l := by
  show ixFrom [[83, 117, 110], [77, 111, 110], [84, 117, 101], [87, 101, 100], [84, 104, 117], [70, 114, 105], [83, 97, 116]] l 0 = nameIx l
  simp only [ixFrom, nameIx, eq_comm (b := l)]
  rfl
theorem noonmarkref06_name_eq (s : ByteArray) (k : Nat) (hk : 9 ≤ k) : noonmarkref06_name.f k s = some (nameIx (lst s)) := by
  unfold noonmarkref06_name.f noonmarkref06_names.f
  simp only [Option.bind_some]
  rw [← nameIx_from]
  exact name_l0 s names06 (by decide) 7 k 0 rfl (by omega)

theorem week_ix (l : List UInt8) (h : l.length = 3) (i : Nat) (hi : i < 19) (hm : i % 3 = 0) (ho : l = (List.drop i [83, 117, 110, 77, 111, 110, 84, 117, 101, 87, 101, 100, 84, 104, 117, 70, 114, 105, 83, 97, 116]).take 3) : nameIx l = ((i / 3 : Nat) : Int) := by
  have : i = 0 ∨ i = 3 ∨ i = 6 ∨ i = 9 ∨ i = 12 ∨ i = 15 ∨ i = 18 := by omega
  rcases this with e | e | e | e | e | e | e <;> subst e <;> subst ho <;> decide
abbrev week06 : List UInt8 := [83, 117, 110, 77, 111, 110, 84, 117, 101, 87, 101, 100, 84, 104, 117, 70, 114, 105, 83, 97, 116]
theorem week_nm (c : Int) (h : 0 ≤ c) (h' : c ≤ 6) : Lib.index week06 (nm c) = 3 * c := by
  rcases seven c h h' with e | e | e | e | e | e | e <;> subst e <;> decide +kernel
theorem index_occ : ∀ {s sub : List UInt8} {i : Nat}, Lib.index s sub = (i : Int) → Lib.occAt s sub i = true ∧ i ≤ s.length
  | [], sub, i, h => by
    cases sub with
    | nil =>
      have : (0 : Int) = (i : Int) := h
      have : i = 0 := by omega
      subst this
      exact ⟨rfl, Nat.le_refl _⟩
    | cons a r =>
      have : (-1 : Int) = (i : Int) := h
      omega
  | b :: l, sub, i, h => by
    unfold Lib.index at h
    by_cases hp : sub.isPrefixOf (b :: l) = true
    · rw [if_pos hp] at h
      have : i = 0 := by omega
      subst this
      exact ⟨by simpa [Lib.occAt] using hp, Nat.zero_le _⟩
    · rw [if_neg hp] at h
      by_cases h1 : (Lib.index l sub == -1) = true
      · rw [if_pos h1] at h; omega
      · rw [if_neg h1] at h
        have hg := Lib.index_ge l sub
        have hn : Lib.index l sub ≠ -1 := fun e => h1 (by rw [e]; rfl)
        obtain ⟨j, hj⟩ : ∃ j : Nat, Lib.index l sub = (j : Int) := ⟨(Lib.index l sub).toNat, by omega⟩
        have hi : i = j + 1 := by omega
        subst hi
        obtain ⟨h2, h3⟩ := index_occ hj
        exact ⟨by simpa [Lib.occAt] using h2, by simpa using h3⟩
theorem occ_take {s sub : List UInt8} {i : Nat} (h : Lib.occAt s sub i = true) : (s.drop i).take sub.length = sub := by
  unfold Lib.occAt at h
  obtain ⟨t, ht⟩ := List.isPrefixOf_iff_prefix.1 h
  rw [← ht]
  simp
theorem take_occ {s sub : List UInt8} {i : Nat} (h : (s.drop i).take sub.length = sub) : Lib.occAt s sub i = true := by
  unfold Lib.occAt
  rw [List.isPrefixOf_iff_prefix]
  exact ⟨(s.drop i).drop sub.length, by conv => { lhs; lhs; rw [← h] }; exact List.take_append_drop _ _⟩

theorem dayform_day_eq (s : ByteArray) : ∃ w b, dayform_day.f s = some (w, b) ∧ (b = true ↔ 0 ≤ nameIx (lst s)) ∧ (b = true → w = nameIx (lst s)) := by
  have hl := lst_len s
  unfold dayform_day.f strings_Index.f
  rw [if_pos (by decide)]
  simp only [Option.bind_some]
  have hge := Lib.index_ge week06 (lst s)
  generalize hix : Lib.index _ s.data.toList = ix
  have hix' : Lib.index week06 (lst s) = ix := hix
  rw [hix'] at hge
  rcases nameIx_cases (lst s) with hn | ⟨hn0, hn1, hn2⟩
  · have hno : ∀ (q : Prop), (0 ≤ nameIx (lst s)) → q := fun q h => by omega
    by_cases h3 : (s.size : Int) = 3
    · rw [if_pos h3]
      by_cases h0 : ix ≥ 0
      · rw [if_pos h0]
        refine ⟨_, _, rfl, ⟨fun hb => ?_, hno _⟩, fun hb => ?_⟩
        all_goals
          exfalso
          rw [tmod_nn h0] at hb
          obtain ⟨i, rfl⟩ : ∃ i : Nat, ix = (i : Int) := ⟨ix.toNat, by omega⟩
          obtain ⟨ho, hi⟩ := index_occ hix'
          have ht := occ_take ho
          have hm : i % 3 = 0 := by have := beq_iff_eq.1 hb; omega
          have hlen : (lst s).length = 3 := by omega
          rw [hlen] at ht
          have hi19 : i < 19 := by
            have := congrArg List.length ht
            simp only [List.length_take, List.length_drop, List.length_cons, List.length_nil] at this
            omega
          have := week_ix (lst s) hlen i hi19 hm ht.symm
          omega
      · rw [if_neg h0]
        exact ⟨_, _, rfl, ⟨(fun h => by cases h), hno _⟩, (fun h => by cases h)⟩
    · rw [if_neg h3]
      exact ⟨_, _, rfl, ⟨(fun h => by cases h), hno _⟩, (fun h => by cases h)⟩
  · have hlen := nm_len _ hn0 hn1
    rw [← hn2] at hlen
    have hix2 := week_nm _ hn0 hn1
    rw [← hn2, hix'] at hix2
    rw [if_pos (by omega), if_pos (by omega)]
    refine ⟨_, _, rfl, ⟨fun _ => hn0, fun _ => ?_⟩, fun _ => ?_⟩
    · rw [tmod_nn (by omega), beq_iff_eq]; omega
    · rw [tdiv_nn (by omega), IntWalk.wrap64_in _ (by omega)]; omega

/-- What a day's text comes to. -/
def sideP (l mark : List UInt8) : Bool := decide (5 < l.length ∧ 0 ≤ nameIx (l.take 3) ∧ (l.drop 3).take 2 = mark ∧ 0 < numT (l.drop 5))
theorem dayform_side_eq (s m : ByteArray) (kind : Int) (hs : s.size ≤ 4294967000) (hm : lst m = [62, 61] ∨ lst m = [60, 61]) :
    ∃ q n w b, dayform_side.f s m kind = some (q, n, w, b) ∧ (b = sideP (lst s) (lst m)) ∧ (b = true → q = kind ∧ n = numT ((lst s).drop 5) ∧ w = nameIx ((lst s).take 3)) := by
  have hl := lst_len s
  unfold dayform_side.f strings_Cut.f
  rw [if_pos (by omega)]
  simp only [Option.bind_some]
  have hml : (lst m).length = 2 := by rcases hm with h | h <;> rw [h] <;> rfl
  have hge := Lib.index_ge (lst s) (lst m)
  obtain ⟨w, bd, hd, hd1, hd2⟩ := dayform_day_eq ⟨(Lib.cut s.data.toList m.data.toList).1.toArray⟩
  obtain ⟨n, bn, hn, hn1, hn2⟩ := dayform_number_eq ⟨(Lib.cut s.data.toList m.data.toList).2.1.toArray⟩
  rw [hd, hn]
  simp only [Option.bind_some]
  rw [lst_mk] at hd1 hd2 hn1 hn2
  have hcut : Lib.cut s.data.toList m.data.toList = if 0 ≤ Lib.index (lst s) (lst m) then ((lst s).take (Lib.index (lst s) (lst m)).toNat, (lst s).drop ((Lib.index (lst s) (lst m)).toNat + (lst m).length), true) else (lst s, [], false) := rfl
  by_cases hi : 0 ≤ Lib.index (lst s) (lst m)
  · rw [if_pos hi] at hcut
    rw [hcut] at hd1 hd2 hn1 hn2 ⊢
    simp only at hd1 hd2 hn1 hn2 ⊢
    rw [if_pos trivial]
    obtain ⟨i, hie⟩ : ∃ i : Nat, Lib.index (lst s) (lst m) = (i : Int) := ⟨(Lib.index (lst s) (lst m)).toNat, by omega⟩
    rw [hie, Int.toNat_natCast] at hd1 hd2 hn1 hn2
    rw [hml] at hn1 hn2
    obtain ⟨ho, hile⟩ := index_occ hie
    have hot := occ_take ho
    rw [hml] at hot
    -- a name ahead of the mark: it stands at 3
    have key : bd = true → i = 3 := fun hb => by
      have h0 := hd1.1 hb
      rcases nameIx_cases ((lst s).take i) with h | ⟨_, h2, h3⟩
      · omega
      · have := congrArg List.length h3
        rw [nm_len _ h0 h2, List.length_take] at this
        omega
    by_cases hbd : bd = true
    · have hi3 := key hbd
      subst hi3
      rw [if_pos hbd]
      refine ⟨_, _, _, _, rfl, ?_, fun hb => ⟨rfl, hn2 hb, hd2 hbd⟩⟩
      unfold sideP
      rw [Bool.eq_iff_iff, hn1, decide_eq_true_iff]
      refine ⟨fun h => ⟨?_, hd1.1 hbd, hot, h⟩, fun h => h.2.2.2⟩
      have : (lst s).drop 5 ≠ [] := fun e => by rw [e] at h; exact absurd h (by decide)
      have : ¬ (lst s).length ≤ 5 := fun hle => this (List.drop_of_length_le hle)
      omega
    · rw [if_neg hbd]
      refine ⟨_, _, _, _, rfl, ?_, fun hb => by cases hb⟩
      symm
      unfold sideP
      rw [decide_eq_false_iff_not]
      rintro ⟨h5, hn0, hmk, _⟩
      -- then the first mark is at 3, and the name ahead of it is one
      apply hbd
      rw [hd1]
      have hi3 : i = 3 := by
        have hocc : Lib.occAt (lst s) (lst m) 3 = true := take_occ (by rw [hml]; exact hmk)
        have hno : ∀ j, j < 3 → Lib.occAt (lst s) (lst m) j = false := fun j hj => by
          rw [Bool.eq_false_iff]
          intro hj2
          have ht := occ_take hj2
          rw [hml] at ht
          rcases nameIx_cases ((lst s).take 3) with h | ⟨g0, g1, g2⟩
          · omega
          · have hx : ∃ x : UInt8, (x = 62 ∨ x = 60) ∧ (lst m)[0]? = some x := by rcases hm with h | h <;> rw [h]; exact ⟨62, Or.inl rfl, rfl⟩; exact ⟨60, Or.inr rfl, rfl⟩
            obtain ⟨x, hx, hmx⟩ := hx
            have e1 : (lst s)[j]? = some x := by
              rw [← ht] at hmx
              rw [List.getElem?_take_of_lt (by omega), List.getElem?_drop] at hmx
              simpa using hmx
            have e2 : ((lst s).take 3)[j]? = some x := by rw [List.getElem?_take_of_lt hj]; exact e1
            rw [g2] at e2
            exact nm_letter _ j g0 g1 x hx e2
        have := Lib.index_first (s := lst s) (sub := lst m) (i := 3) (by omega) hocc hno
        omega
      rw [hi3]
      exact hn0
  · rw [if_neg hi] at hcut
    rw [hcut]
    simp only
    rw [if_neg (by decide)]
    refine ⟨_, _, _, _, rfl, ?_, fun hb => by cases hb⟩
    symm
    unfold sideP
    rw [decide_eq_false_iff_not]
    rintro ⟨h5, hn0, hmk, _⟩
    have hocc : Lib.occAt (lst s) (lst m) 3 = true := take_occ (by rw [hml]; exact hmk)
    apply hi
    have hex : ∀ j, j ≤ (lst s).length → Lib.occAt (lst s) (lst m) j = true → 0 ≤ Lib.index (lst s) (lst m) := fun j hj ho => by
      induction j using Nat.strongRecOn with
      | _ j ih =>
        by_cases hall : ∀ q, q < j → Lib.occAt (lst s) (lst m) q = false
        · rw [Lib.index_first hj ho hall]; omega
        · obtain ⟨q, hq⟩ := Classical.not_forall.1 hall
          obtain ⟨hq1, hq2⟩ := Classical.not_imp.1 hq
          exact ih q hq1 (by omega) (by simpa using hq2)
    exact hex 3 (by omega) hocc

/-- What a day's text comes to: kind, day, week; and 0, or 6 where there is none. -/
def parseP (l : List UInt8) : Int × Int × Int × Int :=
  if 0 < numT l then (0, numT l, 0, 0)
  else if l.take 4 = [108, 97, 115, 116] ∧ 0 ≤ nameIx (l.drop 4) then (1, 0, nameIx (l.drop 4), 0)
  else if sideP l [62, 61] = true then (2, numT (l.drop 5), nameIx (l.take 3), 0)
  else if sideP l [60, 61] = true then (3, numT (l.drop 5), nameIx (l.take 3), 0)
  else (0, 0, 0, 6)

theorem dayform_Parse_l0 (s : ByteArray) (k : Nat) (hs : s.size ≤ 4294967000) (hk : 3 ≤ k) : dayform_Parse.l0 k s 0 = some (if sideP (lst s) [62, 61] = true then (2, numT ((lst s).drop 5), nameIx ((lst s).take 3), 0)
    else if sideP (lst s) [60, 61] = true then (3, numT ((lst s).drop 5), nameIx ((lst s).take 3), 0) else (0, 0, 0, 6)) := by
  obtain ⟨k, rfl⟩ : ∃ m, k = m + 3 := ⟨k - 3, by omega⟩
  simp only [dayform_Parse.l0]
  obtain ⟨q1, n1, w1, b1, e1, h1, g1⟩ := dayform_side_eq s ⟨#[62, 61]⟩ 2 hs (Or.inl rfl)
  obtain ⟨q2, n2, w2, b2, e2, h2, g2⟩ := dayform_side_eq s ⟨#[60, 61]⟩ 3 hs (Or.inr rfl)
  have r1 : rdOf ByteArray.empty ([(⟨#[62, 61]⟩ : ByteArray), (⟨#[60, 61]⟩ : ByteArray)] : List ByteArray) 0 = ⟨#[62, 61]⟩ := rfl
  have r2 : rdOf ByteArray.empty ([(⟨#[62, 61]⟩ : ByteArray), (⟨#[60, 61]⟩ : ByteArray)] : List ByteArray) 1 = ⟨#[60, 61]⟩ := rfl
  have w01 : wrap64 (0 + 1) = 1 := IntWalk.wrap64_in _ (by omega)
  have w11 : wrap64 (1 + 1) = 2 := IntWalk.wrap64_in _ (by omega)
  have w20 : wrap64 (2 + 0) = 2 := IntWalk.wrap64_in _ (by omega)
  have w21 : wrap64 (2 + 1) = 3 := IntWalk.wrap64_in _ (by omega)
  rw [if_pos (by decide), if_pos (by decide), r1, w20, e1]
  simp only [Option.bind_some]
  have m1 : lst (⟨#[62, 61]⟩ : ByteArray) = [62, 61] := rfl
  have m2 : lst (⟨#[60, 61]⟩ : ByteArray) = [60, 61] := rfl
  rw [m1] at h1
  rw [m2] at h2
  rw [← h1, ← h2]
  by_cases hb1 : b1 = true
  · obtain ⟨rfl, rfl, rfl⟩ := g1 hb1
    rw [if_pos hb1, if_pos hb1]
  · rw [if_neg hb1, if_neg hb1, w01, if_pos (by decide), if_pos (by decide), r2, w21, e2]
    simp only [Option.bind_some]
    by_cases hb2 : b2 = true
    · obtain ⟨rfl, rfl, rfl⟩ := g2 hb2
      rw [if_pos hb2, if_pos hb2]
    · rw [if_neg hb2, if_neg hb2, w11, if_neg (by decide)]

theorem dayform_Parse_eq (s : ByteArray) (k : Nat) (hs : s.size ≤ 4294967000) (hk : 5 ≤ k) : dayform_Parse.f k s = some (parseP (lst s)) := by
  obtain ⟨k, rfl⟩ : ∃ m, k = m + 1 := ⟨k - 1, by omega⟩
  have hj : dayform_Parse.j0 (k + 1) s = some (if sideP (lst s) [62, 61] = true then (2, numT ((lst s).drop 5), nameIx ((lst s).take 3), 0)
    else if sideP (lst s) [60, 61] = true then (3, numT ((lst s).drop 5), nameIx ((lst s).take 3), 0) else (0, 0, 0, 6)) := by
    simp only [dayform_Parse.j0]
    exact dayform_Parse_l0 s k hs (by omega)
  unfold dayform_Parse.f parseP
  obtain ⟨n, b, e1, h1, g1⟩ := dayform_number_eq s
  rw [e1]
  simp only [Option.bind_some]
  by_cases hb : b = true
  · rw [if_pos hb, if_pos (h1.1 hb), g1 hb]
  · rw [if_neg hb, if_neg (fun h => hb (h1.2 h))]
    obtain ⟨r, c, e2, h2, g2, _⟩ := strings_CutPrefix_eq s ⟨#[108, 97, 115, 116]⟩
    have h2 : c = true ↔ (lst s).take 4 = [108, 97, 115, 116] := by rw [h2]; exact decide_eq_true_iff
    have g2 : c = true → lst r = (lst s).drop 4 := g2
    rw [e2]
    simp only [Option.bind_some]
    by_cases hc : c = true
    · rw [if_pos hc]
      obtain ⟨w, d, e3, h3, g3⟩ := dayform_day_eq r
      rw [e3]
      simp only [Option.bind_some]
      rw [g2 hc] at h3 g3
      by_cases hd : d = true
      · rw [if_pos hd, if_pos ⟨h2.1 hc, h3.1 hd⟩, g3 hd]
      · have hno : ¬ ((lst s).take 4 = [108, 97, 115, 116] ∧ 0 ≤ nameIx ((lst s).drop 4)) := fun h => hd (h3.2 h.2)
        rw [if_neg hd, if_neg hno, hj]
    · have hno : ¬ ((lst s).take 4 = [108, 97, 115, 116] ∧ 0 ≤ nameIx ((lst s).drop 4)) := fun h => hc (h2.2 h.1)
      rw [if_neg hc, if_neg hno, hj]

theorem sideP_false (l m : List UInt8) (h : ¬ (5 < l.length ∧ 0 ≤ nameIx (l.take 3) ∧ 0 < numT (l.drop 5))) : sideP l m = false := by
  unfold sideP
  rw [decide_eq_false_iff_not]
  exact fun g => h ⟨g.1, g.2.1, g.2.2.2⟩
theorem sideP_iff (l m : List UInt8) (h : 5 < l.length ∧ 0 ≤ nameIx (l.take 3) ∧ 0 < numT (l.drop 5)) : (sideP l m = true) ↔ (l.drop 3).take 2 = m := by
  unfold sideP
  rw [decide_eq_true_iff]
  exact ⟨fun g => g.2.2.1, fun g => ⟨h.1, h.2.1, g, h.2.2⟩⟩

theorem ref_Parse_j1f (s : ByteArray) (k : Nat) : noonmarkref06_Parse.j1 (k + 1) s false = some (0, 0, 0, 6) := by
  simp only [noonmarkref06_Parse.j1]
  rw [if_neg (by decide)]
theorem ref_Parse_j0f (s : ByteArray) (k : Nat) (hs : s.size ≤ 4294967000) (hk : s.size + 50 < k) : noonmarkref06_Parse.j0 (k + 1) s false = some (if sideP (lst s) [62, 61] = true then (2, numT ((lst s).drop 5), nameIx ((lst s).take 3), 0)
    else if sideP (lst s) [60, 61] = true then (3, numT ((lst s).drop 5), nameIx ((lst s).take 3), 0) else (0, 0, 0, 6)) := by
  obtain ⟨k, rfl⟩ : ∃ m, k = m + 1 := ⟨k - 1, by omega⟩
  have hl := lst_len s
  simp only [noonmarkref06_Parse.j0]
  rw [if_neg (by decide)]
  have hz5 : (s.extract 5 s.size).size ≤ s.size := by rw [← lst_len, lst_from, List.length_drop]; omega
  have n3 : ∀ k, 9 ≤ k → noonmarkref06_name.f k (s.extract 0 3) = some (nameIx ((lst s).take 3)) := fun k h => by
    rw [noonmarkref06_name_eq _ _ h, lst_extract]; simp
  have n5 : ∀ k, s.size + 30 < k → noonmarkref06_number.f k (s.extract 5 s.size) = some (numT ((lst s).drop 5)) := fun k h => by
    rw [noonmarkref06_number_eq _ _ (by omega) (by omega), lst_from]
  by_cases h5 : (s.size : Int) > 5
  · rw [if_pos h5, if_pos (by omega), if_pos (by omega), n3 _ (by omega)]
    simp only [Option.bind_some]
    by_cases hn : nameIx ((lst s).take 3) ≥ 0
    · rw [if_pos hn, if_pos (by omega), n5 _ (by omega)]
      simp only [Option.bind_some]
      by_cases hm : numT ((lst s).drop 5) > 0
      · rw [decide_eq_true hm]
        simp only [noonmarkref06_Parse.j1]
        rw [if_pos trivial, if_pos (by omega), if_pos (by omega), n3 _ (by omega), n5 _ (by omega)]
        simp only [Option.bind_some]
        have hall : 5 < (lst s).length ∧ 0 ≤ nameIx ((lst s).take 3) ∧ 0 < numT ((lst s).drop 5) := ⟨by omega, hn, hm⟩
        have e35 : lst (s.extract 3 5) = ((lst s).drop 3).take 2 := lst_extract s 3 5
        by_cases hA : ((lst s).drop 3).take 2 = [62, 61]
        · rw [if_pos (by rw [toList_lst, e35]; exact hA), if_pos (by omega), if_pos (by omega), if_pos ((sideP_iff _ _ hall).2 hA)]
        · rw [if_neg (by rw [toList_lst, e35]; exact hA), if_neg (fun h => hA ((sideP_iff _ _ hall).1 h))]
          by_cases hB : ((lst s).drop 3).take 2 = [60, 61]
          · rw [if_pos (by rw [toList_lst, e35]; exact hB), if_pos (by omega), if_pos (by omega), if_pos ((sideP_iff _ _ hall).2 hB)]
          · rw [if_neg (by rw [toList_lst, e35]; exact hB), if_neg (fun h => hB ((sideP_iff _ _ hall).1 h))]
      · rw [decide_eq_false hm, ref_Parse_j1f, sideP_false _ _ (fun h => hm h.2.2), sideP_false _ _ (fun h => hm h.2.2)]
        rfl
    · rw [if_neg hn, ref_Parse_j1f, sideP_false _ _ (fun h => hn h.2.1), sideP_false _ _ (fun h => hn h.2.1)]
      rfl
  · rw [if_neg h5, ref_Parse_j1f, sideP_false _ _ (fun h => by have := h.1; omega), sideP_false _ _ (fun h => by have := h.1; omega)]
    rfl

theorem noonmarkref06_Parse_eq (s : ByteArray) (k : Nat) (hs : s.size ≤ 4294967000) (hk : s.size + 60 < k) : noonmarkref06_Parse.f k s = some (parseP (lst s)) := by
  obtain ⟨k, rfl⟩ : ∃ m, k = m + 1 := ⟨k - 1, by omega⟩
  have hl := lst_len s
  unfold noonmarkref06_Parse.f parseP
  rw [noonmarkref06_number_eq s _ (by omega) (by omega)]
  simp only [Option.bind_some]
  by_cases hn : 0 < numT (lst s)
  · rw [if_pos hn, if_pos hn]
  · rw [if_neg hn, if_neg hn]
    have e4 : lst (s.extract 0 4) = (lst s).take 4 := by rw [lst_extract]; simp
    have n4 : ∀ k, 9 ≤ k → noonmarkref06_name.f k (s.extract 4 s.size) = some (nameIx ((lst s).drop 4)) := fun k h => by
      rw [noonmarkref06_name_eq _ _ h, lst_from]
    by_cases h7 : (s.size : Int) = 7
    · rw [if_pos h7, if_pos (by omega), if_pos (by omega), toList_lst, e4]
      by_cases hA : (lst s).take 4 = [108, 97, 115, 116]
      · rw [if_pos hA, n4 _ (by omega)]
        simp only [Option.bind_some]
        by_cases hB : nameIx ((lst s).drop 4) ≥ 0
        · rw [decide_eq_true hB, if_pos ⟨hA, hB⟩]
          simp only [noonmarkref06_Parse.j0]
          rw [if_pos trivial, if_pos (by omega), n4 _ (by omega)]
          rfl
        · have hno : ¬ ((lst s).take 4 = [108, 97, 115, 116] ∧ 0 ≤ nameIx ((lst s).drop 4)) := fun h => hB h.2
          rw [decide_eq_false hB, if_neg hno]
          exact ref_Parse_j0f s k hs (by omega)
      · have hno : ¬ ((lst s).take 4 = [108, 97, 115, 116] ∧ 0 ≤ nameIx ((lst s).drop 4)) := fun h => hA h.1
        rw [if_neg hA, if_neg hno]
        exact ref_Parse_j0f s k hs (by omega)
    · have hno : ¬ ((lst s).take 4 = [108, 97, 115, 116] ∧ 0 ≤ nameIx ((lst s).drop 4)) := fun h => by
        rcases nameIx_cases ((lst s).drop 4) with g | ⟨g0, g1, g2⟩
        · have := h.2; omega
        · have a := congrArg List.length g2
          have b := congrArg List.length h.1
          rw [nm_len _ g0 g1, List.length_drop] at a
          rw [List.length_take] at b
          simp at b
          omega
      rw [if_neg h7, if_neg hno]
      exact ref_Parse_j0f s k hs (by omega)

/-- The text of a day. -/
def showL (a b c : Int) : List UInt8 := if a = 0 then Lib.itoa b else if a = 1 then [108, 97, 115, 116] ++ nm c else if a = 2 then nm c ++ [62, 61] ++ Lib.itoa b else nm c ++ [60, 61] ++ Lib.itoa b
def showP (a b c : Int) : ByteArray × Int := if drightB a b c = true then (⟨(showL a b c).toArray⟩, 0) else (⟨#[]⟩, 1)
theorem drightB_iff (a b c : Int) : drightB a b c = true ↔ (0 ≤ a ∧ a ≤ 3 ∧ 0 ≤ c ∧ c ≤ 6 ∧ (a = 1 → b = 0) ∧ (a ≠ 1 → 1 ≤ b ∧ b ≤ 31) ∧ (a = 0 → c = 0)) := by unfold drightB; exact decide_eq_true_iff
theorem dayform_name_eq (c : Int) (h : 0 ≤ c) (h' : c ≤ 6) : dayform_name.f c = some ⟨(nm c).toArray⟩ := by
  rcases seven c h h' with e | e | e | e | e | e | e <;> subst e <;> decide +kernel
theorem names06_eq (c : Int) (h : 0 ≤ c) (h' : c ≤ 6) : rdOf ByteArray.empty names06 c = ⟨(nm c).toArray⟩ := by
  rcases seven c h h' with e | e | e | e | e | e | e <;> subst e <;> rfl
theorem itoa_len (b : Int) (h : 0 ≤ b) (h' : b ≤ 31) : (Lib.itoa b).length ≤ 3 := by
  unfold Lib.itoa
  rw [if_neg (by omega)]
  exact decDigits_len _ 2 (by omega)

theorem dayform_Show_eq (k : Nat) (a b c : Int) (h0 : -9223372036854775808 ≤ b) (h1 : b ≤ 9223372036854775807) : dayform_Show.f (k + 1) a b c = some (showP a b c) := by
  unfold dayform_Show.f showP
  rw [dayform_right_eq]
  simp only [Option.bind_some]
  by_cases hr : drightB a b c = true
  · rw [if_pos hr, if_pos hr]
    have hd := (drightB_iff a b c).1 hr
    have hit : strconv_Itoa.f b = some ⟨(Lib.itoa b).toArray⟩ := by unfold strconv_Itoa.f; rw [if_pos h0, if_pos h1]
    have hil := itoa_len b (by omega) (by omega)
    have hnl := nm_len c (by omega) (by omega)
    rw [hit, dayform_name_eq c (by omega) (by omega)]
    simp only [Option.bind_some]
    unfold showL
    by_cases ha : a = 0
    · rw [if_pos ha, if_pos ha]
    rw [if_neg ha, if_neg ha]
    by_cases ha1 : a = 1
    · rw [if_pos ha1, if_pos ha1, if_pos (by rw [size_mk]; omega)]
      exact congrArg (fun x => some (x, (0 : Int))) (append_mk [108, 97, 115, 116] _)
    rw [if_neg ha1, if_neg ha1, IntWalk.wrap64_in _ (by omega), if_pos (by omega), if_pos (by omega)]
    by_cases ha2 : a = 2
    · subst ha2
      have e : rdOf ByteArray.empty ([(⟨#[62, 61]⟩ : ByteArray), (⟨#[60, 61]⟩ : ByteArray)] : List ByteArray) (2 - 2) = ⟨([62, 61] : List UInt8).toArray⟩ := rfl
      rw [e, append_mk, if_pos (by rw [size_mk, size_mk]; simp; omega), if_pos (by rw [size_mk, size_mk, List.length_append]; simp; omega), append_mk, if_pos rfl]
    · have : a = 3 := by omega
      subst this
      have e : rdOf ByteArray.empty ([(⟨#[62, 61]⟩ : ByteArray), (⟨#[60, 61]⟩ : ByteArray)] : List ByteArray) (3 - 2) = ⟨([60, 61] : List UInt8).toArray⟩ := rfl
      rw [e, append_mk, if_pos (by rw [size_mk, size_mk]; simp; omega), if_pos (by rw [size_mk, size_mk, List.length_append]; simp; omega), append_mk, if_neg (by decide)]
  · rw [if_neg hr, if_neg hr]

theorem noonmarkref06_Right_eq (k : Nat) (a b c : Int) : noonmarkref06_Right.f (k + 2) a b c = some (drightB a b c) := by
  have j1 : ∀ x y : Bool, noonmarkref06_Right.j1 (k + 1) x y a b c = some (if a = 0 then (x && (c == 0)) else if a = 1 then (y && (b == 0)) else if a = 2 then (x && y) else if a = 3 then (x && y) else false) := fun x y => by
    simp only [noonmarkref06_Right.j1]
    split
    · cases x <;> rfl
    split
    · cases y <;> rfl
    split
    · cases x <;> rfl
    split
    · cases x <;> rfl
    rfl
  have j0 : ∀ x : Bool, noonmarkref06_Right.j0 (k + 2) x a b c = some (if a = 0 then (x && (c == 0)) else if a = 1 then (decide (0 ≤ c ∧ c ≤ 6) && (b == 0)) else if a = 2 then (x && decide (0 ≤ c ∧ c ≤ 6)) else if a = 3 then (x && decide (0 ≤ c ∧ c ≤ 6)) else false) := fun x => by
    simp only [noonmarkref06_Right.j0]
    by_cases h : c ≥ 0
    · rw [if_pos h, j1, show decide (c ≤ 6) = decide (0 ≤ c ∧ c ≤ 6) from decide_eq_decide.2 (by omega)]
    · rw [if_neg h, j1, show false = decide (0 ≤ c ∧ c ≤ 6) from (decide_eq_false (by omega)).symm]
  unfold noonmarkref06_Right.f
  by_cases hb : b ≥ 1
  · rw [if_pos hb, j0]
    congr 1
    rw [Bool.eq_iff_iff, drightB_iff]
    split
    · simp; omega
    split
    · simp; omega
    split
    · simp; omega
    split
    · simp; omega
    · simp; omega
  · rw [if_neg hb, j0]
    congr 1
    rw [Bool.eq_iff_iff, drightB_iff]
    split
    · simp; omega
    split
    · simp; omega
    split
    · simp; omega
    split
    · simp; omega
    · simp; omega

theorem noonmarkref06_Show_eq (k : Nat) (a b c : Int) (hk : 20 ≤ k) : noonmarkref06_Show.f k a b c = some (showP a b c) := by
  obtain ⟨k, rfl⟩ : ∃ m, k = m + 2 := ⟨k - 2, by omega⟩
  unfold noonmarkref06_Show.f showP
  rw [noonmarkref06_Right_eq]
  simp only [Option.bind_some]
  by_cases hr : drightB a b c = true
  · rw [if_pos hr, if_pos hr]
    have hd := (drightB_iff a b c).1 hr
    have hil := itoa_len b (by omega) (by omega)
    rw [noonmarkref02_Int_eq b _ (by omega) (by omega) (by omega)]
    simp only [Option.bind_some]
    rw [if_pos ⟨by omega, by omega, by rw [size_mk]; omega⟩, names06_eq c (by omega) (by omega)]
    unfold showL
    by_cases ha : a = 0
    · rw [if_neg (by omega), if_neg (by omega), if_neg (by omega), if_pos ha]
    by_cases ha1 : a = 1
    · rw [if_pos ha1, if_neg ha, if_pos ha1]
      exact congrArg (fun x => some (x, (0 : Int))) (append_mk [108, 97, 115, 116] _)
    by_cases ha2 : a = 2
    · rw [if_neg ha1, if_pos ha2, if_neg ha, if_neg ha1, if_pos ha2]
      exact congrArg (fun x => some (x, (0 : Int))) ((congrArg (· ++ (⟨(Lib.itoa b).toArray⟩ : ByteArray)) (append_mk (nm c) [62, 61])).trans (append_mk _ _))
    · rw [if_neg ha1, if_neg ha2, if_pos (by omega), if_neg ha, if_neg ha1, if_neg ha2]
      exact congrArg (fun x => some (x, (0 : Int))) ((congrArg (· ++ (⟨(Lib.itoa b).toArray⟩ : ByteArray)) (append_mk (nm c) [60, 61])).trans (append_mk _ _))
  · rw [if_neg hr, if_neg hr]

/-- A number's text up to 99. -/
def dig2 (b : Nat) : List UInt8 := if b < 10 then [UInt8.ofNat (48 + b)] else [UInt8.ofNat (48 + b / 10), UInt8.ofNat (48 + b % 10)]
theorem itoa_dig2 (b : Nat) (h : b < 100) : Lib.itoa (b : Int) = dig2 b := by
  unfold Lib.itoa dig2
  rw [if_neg (by omega), Int.toNat_natCast]
  by_cases h9 : b < 10
  · rw [decDigits_lt b h9, if_pos h9]
  · rw [decDigits_ge b h9, decDigits_lt (b / 10) (by omega), if_neg h9]; rfl
def showN (a b c : Nat) : List UInt8 := if a = 0 then dig2 b else if a = 1 then [108, 97, 115, 116] ++ nm c else if a = 2 then nm c ++ [62, 61] ++ dig2 b else nm c ++ [60, 61] ++ dig2 b
theorem showL_N (a b c : Nat) (h : b < 100) : showL a b c = showN a b c := by
  unfold showL showN
  rw [itoa_dig2 b h]
  have e0 : ((a : Int) = 0) ↔ a = 0 := by omega
  have e1 : ((a : Int) = 1) ↔ a = 1 := by omega
  have e2 : ((a : Int) = 2) ↔ a = 2 := by omega
  simp only [e0, e1, e2]
theorem back_all : ∀ a : Fin 4, ∀ b : Fin 32, ∀ c : Fin 7, drightB ((a : Nat) : Int) ((b : Nat) : Int) ((c : Nat) : Int) = true → parseP (showN a b c) = (((a : Nat) : Int), ((b : Nat) : Int), ((c : Nat) : Int), 0) := by decide +kernel
theorem parse_show (a b c : Int) (h : drightB a b c = true) : parseP (showL a b c) = (a, b, c, 0) := by
  have hd := (drightB_iff a b c).1 h
  have := back_all ⟨a.toNat, by omega⟩ ⟨b.toNat, by omega⟩ ⟨c.toNat, by omega⟩
  simp only [Int.toNat_of_nonneg hd.1, Int.toNat_of_nonneg (show 0 ≤ b by omega), Int.toNat_of_nonneg hd.2.2.1] at this
  have e := showL_N a.toNat b.toNat c.toNat (by omega)
  rw [Int.toNat_of_nonneg hd.1, Int.toNat_of_nonneg (show 0 ≤ b by omega), Int.toNat_of_nonneg hd.2.2.1] at e
  rw [e]
  exact this h

theorem u8_of (c : UInt8) (n : Nat) (h : c.toNat = n) : UInt8.ofNat n = c := by subst h; exact UInt8.ofNat_toNat
theorem itoa_numT (l : List UInt8) (h : 0 < numT l) : Lib.itoa (numT l) = l := by
  unfold numT at h ⊢
  by_cases hc : l.length ≤ 2 ∧ l ≠ [] ∧ l.headD 0 ≠ 48 ∧ l.all isDig = true ∧ dval l 0 ≤ 31
  · rw [if_pos hc]
    obtain ⟨h1, h2, h3, h4, h5⟩ := hc
    rw [itoa_dig2 _ (by omega)]
    match l, h1, h2 with
    | [c], _, _ =>
      have := (isDig_int c).1 (by simpa using h4)
      have hv : dval [c] 0 = c.toNat - 48 := by simp [dval]
      rw [hv]
      unfold dig2
      rw [if_pos (by omega), u8_of c _ (by omega)]
    | [c, d], _, _ =>
      simp only [List.all_cons, Bool.and_eq_true] at h4
      have := (isDig_int c).1 h4.1
      have := (isDig_int d).1 h4.2.1
      have h1 : c.toNat ≠ 48 := fun e => h3 (UInt8.toNat_inj.1 e)
      have hv : dval [c, d] 0 = (c.toNat - 48) * 10 + (d.toNat - 48) := by simp [dval]
      rw [hv]
      unfold dig2
      rw [if_neg (by omega), u8_of c _ (by omega), u8_of d _ (by omega)]
    | _ :: _ :: _ :: _, h, _ => simp at h
  · rw [if_neg hc] at h
    omega

theorem split35 (l : List UInt8) (m : List UInt8) (h : (l.drop 3).take 2 = m) : l = l.take 3 ++ m ++ l.drop 5 := by
  rw [← h, List.append_assoc, show l.drop 5 = (l.drop 3).drop 2 by rw [List.drop_drop], List.take_append_drop, List.take_append_drop]
theorem show_parse (l : List UInt8) (h : (parseP l).2.2.2 = 0) : drightB (parseP l).1 (parseP l).2.1 (parseP l).2.2.1 = true ∧ showL (parseP l).1 (parseP l).2.1 (parseP l).2.2.1 = l := by
  have hb := numT_bd l
  unfold parseP at h ⊢
  by_cases h0 : 0 < numT l
  · rw [if_pos h0]
    refine ⟨(drightB_iff 0 (numT l) 0).2 (by omega), ?_⟩
    show showL 0 (numT l) 0 = l
    unfold showL
    rw [if_pos rfl, itoa_numT l h0]
  rw [if_neg h0] at h ⊢
  by_cases h1 : l.take 4 = [108, 97, 115, 116] ∧ 0 ≤ nameIx (l.drop 4)
  · rw [if_pos h1]
    rcases nameIx_cases (l.drop 4) with g | ⟨g0, g1, g2⟩
    · omega
    refine ⟨(drightB_iff 1 0 (nameIx (l.drop 4))).2 (by omega), ?_⟩
    show showL 1 0 (nameIx (l.drop 4)) = l
    unfold showL
    rw [if_neg (by decide), if_pos rfl, ← g2, ← h1.1, List.take_append_drop]
  rw [if_neg h1] at h ⊢
  have hside : ∀ m, sideP l m = true → 5 < l.length ∧ 0 ≤ nameIx (l.take 3) ∧ (l.drop 3).take 2 = m ∧ 0 < numT (l.drop 5) := fun m hm => by unfold sideP at hm; exact of_decide_eq_true hm
  have hb5 := numT_bd (l.drop 5)
  by_cases h2 : sideP l [62, 61] = true
  · rw [if_pos h2]
    obtain ⟨s1, s2, s3, s4⟩ := hside _ h2
    rcases nameIx_cases (l.take 3) with g | ⟨g0, g1, g2⟩
    · omega
    refine ⟨(drightB_iff 2 (numT (l.drop 5)) (nameIx (l.take 3))).2 (by omega), ?_⟩
    show showL 2 (numT (l.drop 5)) (nameIx (l.take 3)) = l
    unfold showL
    rw [if_neg (by decide), if_neg (by decide), if_pos rfl, ← g2, itoa_numT _ s4]
    exact (split35 l _ s3).symm
  rw [if_neg h2] at h ⊢
  by_cases h3 : sideP l [60, 61] = true
  · rw [if_pos h3]
    obtain ⟨s1, s2, s3, s4⟩ := hside _ h3
    rcases nameIx_cases (l.take 3) with g | ⟨g0, g1, g2⟩
    · omega
    refine ⟨(drightB_iff 3 (numT (l.drop 5)) (nameIx (l.take 3))).2 (by omega), ?_⟩
    show showL 3 (numT (l.drop 5)) (nameIx (l.take 3)) = l
    unfold showL
    rw [if_neg (by decide), if_neg (by decide), if_neg (by decide), ← g2, itoa_numT _ s4]
    exact (split35 l _ s3).symm
  rw [if_neg h3] at h
  exact absurd h (by decide)
theorem parse_none (l : List UInt8) (h : (parseP l).2.2.2 ≠ 0) : parseP l = (0, 0, 0, 6) := by
  unfold parseP at h ⊢
  split at h
  · exact absurd rfl h
  split at h
  · exact absurd rfl h
  split at h
  · exact absurd rfl h
  split at h
  · exact absurd rfl h
  rename_i h0 h1 h2 h3
  rw [if_neg h0, if_neg h1, if_neg h2, if_neg h3]
end Go.Proofs.YtahpmeijinndhaaDoor.P

-- Written for this claim by a turned copy of the kit's print program (gprint_patch.py). Not trusted: Lean checks it.
namespace Go.Proofs.YtahpmeijinndhaaDoor.P
open Go.RowKit Go.Proofs.YtahpmeijinndhaaDoorW.PrintWords Go.Proofs.YtahpmeijinndhaaDoorW.PrintLast Go.Proofs.YtahpmeijinndhaaDoorW.PrintMore
attribute [local go_sem] max2_int min2_int max_two min_two max_three min_three max_four min_four   -- for this text's walks alone
set_option linter.unusedVariables false
set_option linter.unusedSimpArgs false

attribute [local go_sem high] eqA23
/-! ### noonmarklaw06_DayformBack: function 4 -/
def noonmarklaw06_DayformBack.j0 : Nat → ByteArray → Option (Bool)
  | 0, _ => none
  | k + 1, x0 => (dayform_Parse.f k x0).bind fun bt232 => (if bt232.2.2.2 = 0 then ((dayform_Show.f k bt232.1 bt232.2.1 bt232.2.2.1).bind fun bt237 => (if bt237.2 = 0 then (if bt237.1.toList = x0.toList then ((noonmarklaw06_alive.f k).bind fun t239 => (some t239)) else (some false)) else (some false))) else (if (bt232.1 == 0 && (bt232.2.1 == 0 && (bt232.2.2.1 == 0))) = true then ((noonmarklaw06_alive.f k).bind fun t240 => (some t240)) else (some false)))
def noonmarklaw06_DayformBack.f (k : Nat) (a0 : ByteArray) (a1_0 : Int) (a1_1 : Int) (a1_2 : Int) : Option (Bool) := if (a0.size : Int) > 300 then ((noonmarklaw06_alive.f k).bind fun t224 => (some t224)) else ((dayform_Show.f k a1_0 a1_1 a1_2).bind fun bt225 => (if bt225.2 = 0 then ((dayform_Parse.f k bt225.1).bind fun bt227 => (if bt227.2.2.2 = 0 then (if (!(bt227.1 == a1_0) || (!(bt227.2.1 == a1_1) || (!(bt227.2.2.1 == a1_2)))) = true then (some false) else (noonmarklaw06_DayformBack.j0 k a0)) else (some false))) else (noonmarklaw06_DayformBack.j0 k a0)))
theorem noonmarklaw06_DayformBack.mono_l : ∀ k, (∀ y0, LeO (noonmarklaw06_DayformBack.j0 k y0) (noonmarklaw06_DayformBack.j0 (k + 1) y0))
  | 0 => fun _ r h => by simp [noonmarklaw06_DayformBack.j0] at h
  | k + 1 => by
    have ih0 := noonmarklaw06_DayformBack.mono_l k
    · intro y0
      unfold noonmarklaw06_DayformBack.j0
      repeat' first
      | (with_reducible exact ih0 _)
      | (with_reducible exact dayform_Parse.mono _ _)
      | (with_reducible exact dayform_Show.mono _ _ _ _)
      | (with_reducible exact noonmarklaw06_alive.mono _)
      | (with_reducible exact LeO.refl _)
      | (with_reducible exact LeO.none _)
      | (with_reducible refine LeO.ite ?_ ?_)
      | (with_reducible refine LeO.bind ?_ (fun _ => ?_))
      | exact ih0 _
      | exact dayform_Parse.mono _ _
      | exact dayform_Show.mono _ _ _ _
      | exact noonmarklaw06_alive.mono _
      | exact LeO.none _
      | refine LeO.ite ?_ ?_
      | refine LeO.bind ?_ (fun _ => ?_)
theorem noonmarklaw06_DayformBack.mono : ∀ a0 a1 a2 a3 k, LeO (noonmarklaw06_DayformBack.f k a0 a1 a2 a3) (noonmarklaw06_DayformBack.f (k + 1) a0 a1 a2 a3) := by
  intro a0 a1 a2 a3 k
  have ih0 := noonmarklaw06_DayformBack.mono_l k
  unfold noonmarklaw06_DayformBack.f
  repeat' first
      | (with_reducible exact ih0 _)
      | (with_reducible exact dayform_Parse.mono _ _)
      | (with_reducible exact dayform_Show.mono _ _ _ _)
      | (with_reducible exact noonmarklaw06_alive.mono _)
      | (with_reducible exact LeO.refl _)
      | (with_reducible exact LeO.none _)
      | (with_reducible refine LeO.ite ?_ ?_)
      | (with_reducible refine LeO.bind ?_ (fun _ => ?_))
      | exact ih0 _
      | exact dayform_Parse.mono _ _
      | exact dayform_Show.mono _ _ _ _
      | exact noonmarklaw06_alive.mono _
      | exact LeO.none _
      | refine LeO.ite ?_ ?_
      | refine LeO.bind ?_ (fun _ => ?_)
set_option maxHeartbeats 8000000 in
set_option maxRecDepth 100000 in
theorem noonmarklaw06_DayformBack.calls (k : Nat) (a0 : ByteArray) (a1_0 : Int) (a1_1 : Int) (a1_2 : Int) (r : Bool) (w : World) (hG : GOK w) (h : noonmarklaw06_DayformBack.f k a0 a1_0 a1_1 a1_2 = some r) :
    Calls Tryd.prog 4 #[.string a0, .agg #[.int .i64 a1_0, .int .i64 a1_1, .int .i64 a1_2]] w fun e w' => e = .returned (.bool r) ∧ Below w.heap.size w w' := by
  have hu23 := Tryd.underlying23
  have HB := Aside0.mk (Below.refl w.heap.size w)
  have H : (if (a0.size : Int) > 300 then ((noonmarklaw06_alive.f k).bind fun t224 => (some t224)) else ((dayform_Show.f k a1_0 a1_1 a1_2).bind fun bt225 => (if bt225.2 = 0 then ((dayform_Parse.f k bt225.1).bind fun bt227 => (if bt227.2.2.2 = 0 then (if (!(bt227.1 == a1_0) || (!(bt227.2.1 == a1_1) || (!(bt227.2.2.1 == a1_2)))) = true then (some false) else (noonmarklaw06_DayformBack.j0 k a0)) else (some false))) else (noonmarklaw06_DayformBack.j0 k a0)))) = some r := h
  clear h
  by_cases c3 : (a0.size : Int) > 300
  · rw [if_pos c3] at H
    have c3b0 : decide (300 < (a0.size : Int)) = true := decide_eq_true c3
    have c3b1 : decide (300 < a0.size) = true := decide_eq_true (by omega)
    clear c3
    replace H := Option.bind_eq_some_iff.mp H
    obtain ⟨t224, A40, H⟩ := H
    replace H : (some t224) = some r := H
    have A4 := Aside0.mk A40
    clear A40
    obtain rfl := Option.some.inj H
    go_enter Tryd.func4, Tryd.ntmps4
    go_wp2_with (first | ((with_reducible refine gate_dst (N := 3) rfl ?_); refine box_event ?hg (N := 3) ?hd (cs := #[.int .i64 a1_0, .int .i64 a1_1, .int .i64 a1_2]) (t := 23) ?hr ?_; (case hd => rfl); (case hg => rfl); (case hr => first | (go_simp; done) | (go_simp; rfl)); intro gb223 hg w5 hbox hb; have n0_ := Aside0.mk (below_step (by repeat (first | (with_reducible first | exact HB.out | apply below_alloc | apply pw_below_drewN | apply below_drew1) | exact HB.out)) hb); have n1_ := Aside0.mk (hbox); have n2_ := Aside0.mk ((by rw [hg]; exact (below_size (by repeat (first | (with_reducible first | exact HB.out | apply below_alloc | apply pw_below_drewN | apply below_drew1) | exact HB.out))) : w.heap.size ≤ gb223)); have n3_ := Aside0.mk ((by rw [hg]; exact (below_size (by repeat (first | (with_reducible first | exact HB.out | apply below_alloc | apply pw_below_drewN | apply below_drew1) | exact HB.out))) : w.heap.size ≤ gb223)); clear HB; have HB := n0_; have BK223 := n1_; have GW223 := n2_; have GE223 := n3_; clear n0_ n1_ n2_ n3_; clear hb hbox hg) | ((with_reducible refine gate_callee (f := 5) rfl ?_); refine goesL_ (some 16) rfl rfl Tryd.func5 (by kernel_rfl) rfl #[] rfl (by (try simp only [List.map_toArray, List.map_cons, List.map_nil]); first | done | rfl | (simp only [List.length_drop, List.length_take]; rfl)) ?_; (with_reducible refine (noonmarklaw06_alive.calls k  t224 _ ?side1 A4.out).mono ?_); (case side1 => exact GOK.below hG (by repeat (first | (with_reducible first | exact HB.out | apply below_alloc | apply pw_below_drewN | apply below_drew1 | refine below_set ?_ GE223.out) | exact HB.out))); rintro e w6 ⟨rfl, hb⟩; refine ⟨_, rfl, ?_⟩; have n0_ := Aside0.mk (blk_below (g := gb223) (o := .cells #[.int .i64 a1_0, .int .i64 a1_1, .int .i64 a1_2] 23 (0, 0)) (by (with_reducible repeat (first | refine blk_drewN ?_ _ | refine blk_drew ?_ | refine blk_alloc ?_ _)); exact BK223.out) hb); have n1_ := Aside0.mk (below_step (by repeat (first | (with_reducible first | exact HB.out | apply below_alloc | apply pw_below_drewN | apply below_drew1 | refine below_set ?_ GE223.out) | exact HB.out)) hb); clear BK223; clear HB; have BK223 := n0_; have HB := n1_; clear n0_ n1_; (try clear hb); (try clear hb2); (try clear hk); (try clear hi)))
    go_ret
    exact ⟨by first | rfl | (simp [errW_none, errW_some] <;> rfl) | (simp [*, errW_none, errW_some] <;> rfl), by repeat (first | (with_reducible first | exact HB.out | apply below_alloc | apply pw_below_drewN | apply below_drew1 | refine below_set ?_ GE223.out) | exact HB.out)⟩
  · rw [if_neg c3] at H
    have c3b0 : decide (300 < (a0.size : Int)) = false := decide_eq_false c3
    have c3b1 : decide (300 < a0.size) = false := decide_eq_false (by omega)
    clear c3
    replace H := Option.bind_eq_some_iff.mp H
    obtain ⟨⟨t225, t226⟩, A70, H⟩ := H
    replace H : (if t226 = 0 then ((dayform_Parse.f k t225).bind fun bt227 => (if bt227.2.2.2 = 0 then (if (!(bt227.1 == a1_0) || (!(bt227.2.1 == a1_1) || (!(bt227.2.2.1 == a1_2)))) = true then (some false) else (noonmarklaw06_DayformBack.j0 k a0)) else (some false))) else (noonmarklaw06_DayformBack.j0 k a0)) = some r := H
    have A7 := Aside0.mk A70
    clear A70
    have HC8 := Aside0.mk H
    clear H
    go_enter Tryd.func4, Tryd.ntmps4
    go_upto_if 23 with (first | ((with_reducible refine gate_dst (N := 3) rfl ?_); refine box_event ?hg (N := 3) ?hd (cs := #[.int .i64 a1_0, .int .i64 a1_1, .int .i64 a1_2]) (t := 23) ?hr ?_; (case hd => rfl); (case hg => rfl); (case hr => first | (go_simp; done) | (go_simp; rfl)); intro gb223 hg w9 hbox hb; have n0_ := Aside0.mk (below_step (by repeat (first | (with_reducible first | exact HB.out | apply below_alloc | apply pw_below_drewN | apply below_drew1) | exact HB.out)) hb); have n1_ := Aside0.mk (hbox); have n2_ := Aside0.mk ((by rw [hg]; exact (below_size (by repeat (first | (with_reducible first | exact HB.out | apply below_alloc | apply pw_below_drewN | apply below_drew1) | exact HB.out))) : w.heap.size ≤ gb223)); have n3_ := Aside0.mk ((by rw [hg]; exact (below_size (by repeat (first | (with_reducible first | exact HB.out | apply below_alloc | apply pw_below_drewN | apply below_drew1) | exact HB.out))) : w.heap.size ≤ gb223)); clear HB; have HB := n0_; have BK223 := n1_; have GW223 := n2_; have GE223 := n3_; clear n0_ n1_ n2_ n3_; clear hb hbox hg; have hcz10_0 : w9.cell? ⟨gb223, 0, none⟩ = some (.int .i64 a1_0) := (blk_cell BK223.out 0).trans rfl; have hcz10_1 : w9.cell? ⟨gb223, 1, none⟩ = some (.int .i64 a1_1) := (blk_cell BK223.out 1).trans rfl; have hcz10_2 : w9.cell? ⟨gb223, 2, none⟩ = some (.int .i64 a1_2) := (blk_cell BK223.out 2).trans rfl; have hfz10_0 := blk_frozen BK223.out 0; have hfz10_1 := blk_frozen BK223.out 1; have hfz10_2 := blk_frozen BK223.out 2) | ((with_reducible refine gate_callee (f := 8) rfl ?_); refine goesL_ (some 19) rfl rfl Tryd.func8 (by kernel_rfl) rfl #[.agg #[.int .i64 a1_0, .int .i64 a1_1, .int .i64 a1_2]] rfl (by (try simp only [List.map_toArray, List.map_cons, List.map_nil]); first | done | rfl | (simp only [List.length_drop, List.length_take]; rfl)) ?_; (with_reducible refine (dayform_Show.calls k a1_0 a1_1 a1_2 t225 t226 _ ?side1 A7.out).mono ?_); (case side1 => exact GOK.below hG (by repeat (first | (with_reducible first | exact HB.out | apply below_alloc | apply pw_below_drewN | apply below_drew1 | refine below_set ?_ GE223.out) | exact HB.out))); rintro e w11 ⟨rfl, hb⟩; refine ⟨_, rfl, ?_⟩; have n0_ := Aside0.mk (blk_below (g := gb223) (o := .cells #[.int .i64 a1_0, .int .i64 a1_1, .int .i64 a1_2] 23 (0, 0)) (by (with_reducible repeat (first | refine blk_drewN ?_ _ | refine blk_drew ?_ | refine blk_alloc ?_ _)); exact BK223.out) hb); have n1_ := Aside0.mk (below_step (by repeat (first | (with_reducible first | exact HB.out | apply below_alloc | apply pw_below_drewN | apply below_drew1 | refine below_set ?_ GE223.out) | exact HB.out)) hb); clear BK223; clear HB; have BK223 := n0_; have HB := n1_; clear n0_ n1_; (try clear hb); (try clear hb2); (try clear hk); (try clear hi)))
    (try simp only [Act.put, List.setIfInBounds_toArray, List.set_cons_zero, List.set_cons_succ])
    go_cut [] (fun wc => ∃ (kq : Nat), Aside0 (noonmarklaw06_DayformBack.j0 kq a0 = some r) ∧ Aside0 (kq ≤ k) ∧ Aside0 (wc.heap[gb223]? = some (.cells #[.int .i64 a1_0, .int .i64 a1_1, .int .i64 a1_2] 23 (0, 0))) ∧ Aside0 (Below w.heap.size w wc))
    case first =>
      have H := HC8.out
      clear HC8
      by_cases c12 : t226 = 0
      · rw [if_pos c12] at H
        have c12b0 : (t226 == 0) = true := beq_iff_eq.mpr c12
        have c12b1 : (t226 != 0) = false := bne_eq_false_iff_eq.mpr c12
        clear c12
        (first | rw [c12b0] | (simp only [i64_w, i32_w]; rw [c12b0]) | skip)
        replace H := Option.bind_eq_some_iff.mp H
        obtain ⟨⟨t227, t228, t229, t230⟩, A130, H⟩ := H
        replace H : (if t230 = 0 then (if (!(t227 == a1_0) || (!(t228 == a1_1) || (!(t229 == a1_2)))) = true then (some false) else (noonmarklaw06_DayformBack.j0 k a0)) else (some false)) = some r := H
        have A13 := Aside0.mk A130
        clear A130
        by_cases c14 : t230 = 0
        · rw [if_pos c14] at H
          have c14b0 : (t230 == 0) = true := beq_iff_eq.mpr c14
          have c14b1 : (t230 != 0) = false := bne_eq_false_iff_eq.mpr c14
          clear c14
          by_cases c15 : (!(t227 == a1_0) || (!(t228 == a1_1) || (!(t229 == a1_2)))) = true
          · rw [if_pos c15] at H
            have c15b0 : (!(t227 == a1_0) || (!(t228 == a1_1) || (!(t229 == a1_2)))) = true := c15
            clear c15
            obtain rfl := Option.some.inj H
            go_wp2_with (first | ((with_reducible refine gate_callee (f := 6) rfl ?_); refine goesL_ (some 26) rfl rfl Tryd.func6 (by kernel_rfl) rfl #[.string t225] rfl (by (try simp only [List.map_toArray, List.map_cons, List.map_nil]); first | done | rfl | (simp only [List.length_drop, List.length_take]; rfl)) ?_; (with_reducible refine (dayform_Parse.calls k t225 t227 t228 t229 t230 _ ?side1 A13.out).mono ?_); (case side1 => exact GOK.below hG (by repeat (first | (with_reducible first | exact HB.out | apply below_alloc | apply pw_below_drewN | apply below_drew1 | refine below_set ?_ GE223.out) | exact HB.out))); rintro e w16 ⟨rfl, hb⟩; refine ⟨_, rfl, ?_⟩; have n0_ := Aside0.mk (blk_below (g := gb223) (o := .cells #[.int .i64 a1_0, .int .i64 a1_1, .int .i64 a1_2] 23 (0, 0)) (by (with_reducible repeat (first | refine blk_drewN ?_ _ | refine blk_drew ?_ | refine blk_alloc ?_ _)); exact BK223.out) hb); have n1_ := Aside0.mk (below_step (by repeat (first | (with_reducible first | exact HB.out | apply below_alloc | apply pw_below_drewN | apply below_drew1 | refine below_set ?_ GE223.out) | exact HB.out)) hb); clear BK223; clear HB; have BK223 := n0_; have HB := n1_; clear n0_ n1_; (try clear hb); (try clear hb2); (try clear hk); (try clear hi)) | ((with_reducible refine gate_dst (N := 7) rfl ?_); refine box_event ?hg (N := 7) ?hd (cs := #[.int .i64 0, .int .i64 0, .int .i64 0]) (t := 23) ?hr ?_; (case hd => rfl); (case hg => rfl); (case hr => first | (go_simp; done) | (go_simp; rfl)); intro gb231 hg w17 hbox hb; have n0_ := Aside0.mk (blk_below (g := gb223) (o := .cells #[.int .i64 a1_0, .int .i64 a1_1, .int .i64 a1_2] 23 (0, 0)) (by (with_reducible repeat (first | refine blk_drewN ?_ _ | refine blk_drew ?_ | refine blk_alloc ?_ _)); exact BK223.out) hb); have n1_ := Aside0.mk (below_step (by repeat (first | (with_reducible first | exact HB.out | apply below_alloc | apply pw_below_drewN | apply below_drew1 | refine below_set ?_ GE223.out) | exact HB.out)) hb); have n2_ := Aside0.mk (hbox); have n3_ := Aside0.mk ((by rw [hg]; exact (below_size (by repeat (first | (with_reducible first | exact HB.out | apply below_alloc | apply pw_below_drewN | apply below_drew1 | refine below_set ?_ GE223.out) | exact HB.out))) : w.heap.size ≤ gb231)); have n4_ := Aside0.mk ((by rw [hg]; exact (below_size (by repeat (first | (with_reducible first | exact HB.out | apply below_alloc | apply pw_below_drewN | apply below_drew1 | refine below_set ?_ GE223.out) | exact HB.out))) : w.heap.size ≤ gb231)); have n5_ := Aside0.mk ((by rw [hg]; exact Nat.ne_of_lt (blk_lt (g := gb223) (o := .cells #[.int .i64 a1_0, .int .i64 a1_1, .int .i64 a1_2] 23 (0, 0)) (by (with_reducible repeat (first | refine blk_drewN ?_ _ | refine blk_drew ?_ | refine blk_alloc ?_ _)); exact BK223.out)) : gb223 ≠ gb231)); have n6_ := Aside0.mk ((by rw [hg]; exact Nat.ne_of_gt (blk_lt (g := gb223) (o := .cells #[.int .i64 a1_0, .int .i64 a1_1, .int .i64 a1_2] 23 (0, 0)) (by (with_reducible repeat (first | refine blk_drewN ?_ _ | refine blk_drew ?_ | refine blk_alloc ?_ _)); exact BK223.out)) : gb231 ≠ gb223)); clear BK223; clear HB; have BK223 := n0_; have HB := n1_; have BK231 := n2_; have GW231 := n3_; have GE231 := n4_; have NB223_231 := n5_; have NB231_223 := n6_; clear n0_ n1_ n2_ n3_ n4_ n5_ n6_; clear hb hbox hg; have hnb18 := NB231_223.out; have hnc18 := NB223_231.out; have hcz19_0 : w17.cell? ⟨gb231, 0, none⟩ = some (.int .i64 0) := (blk_cell BK231.out 0).trans rfl; have hcz19_1 : w17.cell? ⟨gb231, 1, none⟩ = some (.int .i64 0) := (blk_cell BK231.out 1).trans rfl; have hcz19_2 : w17.cell? ⟨gb231, 2, none⟩ = some (.int .i64 0) := (blk_cell BK231.out 2).trans rfl; have hfz19_0 := blk_frozen BK231.out 0; have hfz19_1 := blk_frozen BK231.out 1; have hfz19_2 := blk_frozen BK231.out 2; have hcz20_0 : w17.cell? ⟨gb223, 0, none⟩ = some (.int .i64 a1_0) := (blk_cell BK223.out 0).trans rfl; have hcz20_1 : w17.cell? ⟨gb223, 1, none⟩ = some (.int .i64 a1_1) := (blk_cell BK223.out 1).trans rfl; have hcz20_2 : w17.cell? ⟨gb223, 2, none⟩ = some (.int .i64 a1_2) := (blk_cell BK223.out 2).trans rfl; have hfz20_0 := blk_frozen BK223.out 0; have hfz20_1 := blk_frozen BK223.out 1; have hfz20_2 := blk_frozen BK223.out 2))
            go_ret
            exact ⟨by first | rfl | (simp [errW_none, errW_some] <;> rfl) | (simp [*, errW_none, errW_some] <;> rfl), by repeat (first | (with_reducible first | exact HB.out | apply below_alloc | apply pw_below_drewN | apply below_drew1 | refine below_set ?_ GE223.out | refine below_set ?_ GE231.out) | exact HB.out)⟩
          · rw [if_neg c15] at H
            have c15b0 : (!(t227 == a1_0) || (!(t228 == a1_1) || (!(t229 == a1_2)))) = false := by simpa using c15
            clear c15
            have H' := Aside0.mk H
            clear H
            go_wp2_with (first | ((with_reducible refine gate_callee (f := 6) rfl ?_); refine goesL_ (some 26) rfl rfl Tryd.func6 (by kernel_rfl) rfl #[.string t225] rfl (by (try simp only [List.map_toArray, List.map_cons, List.map_nil]); first | done | rfl | (simp only [List.length_drop, List.length_take]; rfl)) ?_; (with_reducible refine (dayform_Parse.calls k t225 t227 t228 t229 t230 _ ?side1 A13.out).mono ?_); (case side1 => exact GOK.below hG (by repeat (first | (with_reducible first | exact HB.out | apply below_alloc | apply pw_below_drewN | apply below_drew1 | refine below_set ?_ GE223.out) | exact HB.out))); rintro e w21 ⟨rfl, hb⟩; refine ⟨_, rfl, ?_⟩; have n0_ := Aside0.mk (blk_below (g := gb223) (o := .cells #[.int .i64 a1_0, .int .i64 a1_1, .int .i64 a1_2] 23 (0, 0)) (by (with_reducible repeat (first | refine blk_drewN ?_ _ | refine blk_drew ?_ | refine blk_alloc ?_ _)); exact BK223.out) hb); have n1_ := Aside0.mk (below_step (by repeat (first | (with_reducible first | exact HB.out | apply below_alloc | apply pw_below_drewN | apply below_drew1 | refine below_set ?_ GE223.out) | exact HB.out)) hb); clear BK223; clear HB; have BK223 := n0_; have HB := n1_; clear n0_ n1_; (try clear hb); (try clear hb2); (try clear hk); (try clear hi)) | ((with_reducible refine gate_dst (N := 7) rfl ?_); refine box_event ?hg (N := 7) ?hd (cs := #[.int .i64 0, .int .i64 0, .int .i64 0]) (t := 23) ?hr ?_; (case hd => rfl); (case hg => rfl); (case hr => first | (go_simp; done) | (go_simp; rfl)); intro gb231 hg w22 hbox hb; have n0_ := Aside0.mk (blk_below (g := gb223) (o := .cells #[.int .i64 a1_0, .int .i64 a1_1, .int .i64 a1_2] 23 (0, 0)) (by (with_reducible repeat (first | refine blk_drewN ?_ _ | refine blk_drew ?_ | refine blk_alloc ?_ _)); exact BK223.out) hb); have n1_ := Aside0.mk (below_step (by repeat (first | (with_reducible first | exact HB.out | apply below_alloc | apply pw_below_drewN | apply below_drew1 | refine below_set ?_ GE223.out) | exact HB.out)) hb); have n2_ := Aside0.mk (hbox); have n3_ := Aside0.mk ((by rw [hg]; exact (below_size (by repeat (first | (with_reducible first | exact HB.out | apply below_alloc | apply pw_below_drewN | apply below_drew1 | refine below_set ?_ GE223.out) | exact HB.out))) : w.heap.size ≤ gb231)); have n4_ := Aside0.mk ((by rw [hg]; exact (below_size (by repeat (first | (with_reducible first | exact HB.out | apply below_alloc | apply pw_below_drewN | apply below_drew1 | refine below_set ?_ GE223.out) | exact HB.out))) : w.heap.size ≤ gb231)); have n5_ := Aside0.mk ((by rw [hg]; exact Nat.ne_of_lt (blk_lt (g := gb223) (o := .cells #[.int .i64 a1_0, .int .i64 a1_1, .int .i64 a1_2] 23 (0, 0)) (by (with_reducible repeat (first | refine blk_drewN ?_ _ | refine blk_drew ?_ | refine blk_alloc ?_ _)); exact BK223.out)) : gb223 ≠ gb231)); have n6_ := Aside0.mk ((by rw [hg]; exact Nat.ne_of_gt (blk_lt (g := gb223) (o := .cells #[.int .i64 a1_0, .int .i64 a1_1, .int .i64 a1_2] 23 (0, 0)) (by (with_reducible repeat (first | refine blk_drewN ?_ _ | refine blk_drew ?_ | refine blk_alloc ?_ _)); exact BK223.out)) : gb231 ≠ gb223)); clear BK223; clear HB; have BK223 := n0_; have HB := n1_; have BK231 := n2_; have GW231 := n3_; have GE231 := n4_; have NB223_231 := n5_; have NB231_223 := n6_; clear n0_ n1_ n2_ n3_ n4_ n5_ n6_; clear hb hbox hg; have hnb23 := NB231_223.out; have hnc23 := NB223_231.out; have hcz24_0 : w22.cell? ⟨gb231, 0, none⟩ = some (.int .i64 0) := (blk_cell BK231.out 0).trans rfl; have hcz24_1 : w22.cell? ⟨gb231, 1, none⟩ = some (.int .i64 0) := (blk_cell BK231.out 1).trans rfl; have hcz24_2 : w22.cell? ⟨gb231, 2, none⟩ = some (.int .i64 0) := (blk_cell BK231.out 2).trans rfl; have hfz24_0 := blk_frozen BK231.out 0; have hfz24_1 := blk_frozen BK231.out 1; have hfz24_2 := blk_frozen BK231.out 2; have hcz25_0 : w22.cell? ⟨gb223, 0, none⟩ = some (.int .i64 a1_0) := (blk_cell BK223.out 0).trans rfl; have hcz25_1 : w22.cell? ⟨gb223, 1, none⟩ = some (.int .i64 a1_1) := (blk_cell BK223.out 1).trans rfl; have hcz25_2 : w22.cell? ⟨gb223, 2, none⟩ = some (.int .i64 a1_2) := (blk_cell BK223.out 2).trans rfl; have hfz25_0 := blk_frozen BK223.out 0; have hfz25_1 := blk_frozen BK223.out 1; have hfz25_2 := blk_frozen BK223.out 2))
            go_meet
            case rel => exact ⟨_, H', ⟨by first | omega | exact Nat.le_refl _⟩, ⟨by (with_reducible repeat (first | refine blk_drewN ?_ _ | refine blk_drew ?_ | refine blk_alloc ?_ _)); refine blk_far ?_ NB223_231.out _; (with_reducible repeat (first | refine blk_drewN ?_ _ | refine blk_drew ?_ | refine blk_alloc ?_ _)); refine blk_far ?_ NB223_231.out _; (with_reducible repeat (first | refine blk_drewN ?_ _ | refine blk_drew ?_ | refine blk_alloc ?_ _)); refine blk_far ?_ NB223_231.out _; (with_reducible repeat (first | refine blk_drewN ?_ _ | refine blk_drew ?_ | refine blk_alloc ?_ _)); exact BK223.out⟩, ⟨by repeat (first | (with_reducible first | exact HB.out | apply below_alloc | apply pw_below_drewN | apply below_drew1 | refine below_set ?_ GE223.out | refine below_set ?_ GE231.out) | exact HB.out)⟩⟩
        · rw [if_neg c14] at H
          have c14b0 : (t230 == 0) = false := beq_eq_false_iff_ne.mpr c14
          have c14b1 : (t230 != 0) = true := bne_iff_ne.mpr c14
          obtain rfl := Option.some.inj H
          go_wp2_with (first | ((with_reducible refine gate_callee (f := 6) rfl ?_); refine goesL_ (some 26) rfl rfl Tryd.func6 (by kernel_rfl) rfl #[.string t225] rfl (by (try simp only [List.map_toArray, List.map_cons, List.map_nil]); first | done | rfl | (simp only [List.length_drop, List.length_take]; rfl)) ?_; (with_reducible refine (dayform_Parse.calls k t225 t227 t228 t229 t230 _ ?side1 A13.out).mono ?_); (case side1 => exact GOK.below hG (by repeat (first | (with_reducible first | exact HB.out | apply below_alloc | apply pw_below_drewN | apply below_drew1 | refine below_set ?_ GE223.out) | exact HB.out))); rintro e w26 ⟨rfl, hb⟩; refine ⟨_, rfl, ?_⟩; have n0_ := Aside0.mk (blk_below (g := gb223) (o := .cells #[.int .i64 a1_0, .int .i64 a1_1, .int .i64 a1_2] 23 (0, 0)) (by (with_reducible repeat (first | refine blk_drewN ?_ _ | refine blk_drew ?_ | refine blk_alloc ?_ _)); exact BK223.out) hb); have n1_ := Aside0.mk (below_step (by repeat (first | (with_reducible first | exact HB.out | apply below_alloc | apply pw_below_drewN | apply below_drew1 | refine below_set ?_ GE223.out) | exact HB.out)) hb); clear BK223; clear HB; have BK223 := n0_; have HB := n1_; clear n0_ n1_; (try clear hb); (try clear hb2); (try clear hk); (try clear hi)) | ((with_reducible refine gate_dst (N := 7) rfl ?_); refine box_event ?hg (N := 7) ?hd (cs := #[.int .i64 0, .int .i64 0, .int .i64 0]) (t := 23) ?hr ?_; (case hd => rfl); (case hg => rfl); (case hr => first | (go_simp; done) | (go_simp; rfl)); intro gb231 hg w27 hbox hb; have n0_ := Aside0.mk (blk_below (g := gb223) (o := .cells #[.int .i64 a1_0, .int .i64 a1_1, .int .i64 a1_2] 23 (0, 0)) (by (with_reducible repeat (first | refine blk_drewN ?_ _ | refine blk_drew ?_ | refine blk_alloc ?_ _)); exact BK223.out) hb); have n1_ := Aside0.mk (below_step (by repeat (first | (with_reducible first | exact HB.out | apply below_alloc | apply pw_below_drewN | apply below_drew1 | refine below_set ?_ GE223.out) | exact HB.out)) hb); have n2_ := Aside0.mk (hbox); have n3_ := Aside0.mk ((by rw [hg]; exact (below_size (by repeat (first | (with_reducible first | exact HB.out | apply below_alloc | apply pw_below_drewN | apply below_drew1 | refine below_set ?_ GE223.out) | exact HB.out))) : w.heap.size ≤ gb231)); have n4_ := Aside0.mk ((by rw [hg]; exact (below_size (by repeat (first | (with_reducible first | exact HB.out | apply below_alloc | apply pw_below_drewN | apply below_drew1 | refine below_set ?_ GE223.out) | exact HB.out))) : w.heap.size ≤ gb231)); have n5_ := Aside0.mk ((by rw [hg]; exact Nat.ne_of_lt (blk_lt (g := gb223) (o := .cells #[.int .i64 a1_0, .int .i64 a1_1, .int .i64 a1_2] 23 (0, 0)) (by (with_reducible repeat (first | refine blk_drewN ?_ _ | refine blk_drew ?_ | refine blk_alloc ?_ _)); exact BK223.out)) : gb223 ≠ gb231)); have n6_ := Aside0.mk ((by rw [hg]; exact Nat.ne_of_gt (blk_lt (g := gb223) (o := .cells #[.int .i64 a1_0, .int .i64 a1_1, .int .i64 a1_2] 23 (0, 0)) (by (with_reducible repeat (first | refine blk_drewN ?_ _ | refine blk_drew ?_ | refine blk_alloc ?_ _)); exact BK223.out)) : gb231 ≠ gb223)); clear BK223; clear HB; have BK223 := n0_; have HB := n1_; have BK231 := n2_; have GW231 := n3_; have GE231 := n4_; have NB223_231 := n5_; have NB231_223 := n6_; clear n0_ n1_ n2_ n3_ n4_ n5_ n6_; clear hb hbox hg; have hnb28 := NB231_223.out; have hnc28 := NB223_231.out; have hcz29_0 : w27.cell? ⟨gb231, 0, none⟩ = some (.int .i64 0) := (blk_cell BK231.out 0).trans rfl; have hcz29_1 : w27.cell? ⟨gb231, 1, none⟩ = some (.int .i64 0) := (blk_cell BK231.out 1).trans rfl; have hcz29_2 : w27.cell? ⟨gb231, 2, none⟩ = some (.int .i64 0) := (blk_cell BK231.out 2).trans rfl; have hfz29_0 := blk_frozen BK231.out 0; have hfz29_1 := blk_frozen BK231.out 1; have hfz29_2 := blk_frozen BK231.out 2))
          go_ret
          exact ⟨by first | rfl | (simp [errW_none, errW_some] <;> rfl) | (simp [*, errW_none, errW_some] <;> rfl), by repeat (first | (with_reducible first | exact HB.out | apply below_alloc | apply pw_below_drewN | apply below_drew1 | refine below_set ?_ GE223.out | refine below_set ?_ GE231.out) | exact HB.out)⟩
      · rw [if_neg c12] at H
        have c12b0 : (t226 == 0) = false := beq_eq_false_iff_ne.mpr c12
        have c12b1 : (t226 != 0) = true := bne_iff_ne.mpr c12
        (first | rw [c12b0] | (simp only [i64_w, i32_w]; rw [c12b0]) | skip)
        have H' := Aside0.mk H
        clear H
        go_wp2
        go_meet
        case rel => exact ⟨_, H', ⟨by first | omega | exact Nat.le_refl _⟩, ⟨by (with_reducible repeat (first | refine blk_drewN ?_ _ | refine blk_drew ?_ | refine blk_alloc ?_ _)); exact BK223.out⟩, ⟨by repeat (first | (with_reducible first | exact HB.out | apply below_alloc | apply pw_below_drewN | apply below_drew1 | refine below_set ?_ GE223.out) | exact HB.out)⟩⟩
    case rest =>
      clear HC8
      try clear c1
      try clear c2
      try clear p2
      try clear c3
      try clear c3b0
      try clear c3b1
      try clear c4
      try clear c5
      try clear c6
      try clear c8
      try clear c12
      try clear c12b0
      try clear c12b1
      try clear c14
      try clear c14b0
      try clear c14b1
      try clear c15
      try clear c15b0
      try clear c18
      try clear c23
      try clear c28
      try clear hcz10_0
      try clear hcz10_1
      try clear hcz10_2
      try clear hcz19_0
      try clear hcz19_1
      try clear hcz19_2
      try clear hcz20_0
      try clear hcz20_1
      try clear hcz20_2
      try clear hcz24_0
      try clear hcz24_1
      try clear hcz24_2
      try clear hcz25_0
      try clear hcz25_1
      try clear hcz25_2
      try clear hcz29_0
      try clear hcz29_1
      try clear hcz29_2
      try clear hfz10_0
      try clear hfz10_1
      try clear hfz10_2
      try clear hfz19_0
      try clear hfz19_1
      try clear hfz19_2
      try clear hfz20_0
      try clear hfz20_1
      try clear hfz20_2
      try clear hfz24_0
      try clear hfz24_1
      try clear hfz24_2
      try clear hfz25_0
      try clear hfz25_1
      try clear hfz25_2
      try clear hfz29_0
      try clear hfz29_1
      try clear hfz29_2
      obtain ⟨kq, HA, HJ7, BK223, HB⟩ := hcut
      cases kq with
      | zero => exact absurd HA.out (by simp [noonmarklaw06_DayformBack.j0])
      | succ kj7 =>
        have H := HA.out
        clear HA
        simp only [noonmarklaw06_DayformBack.j0] at H
        replace H := Option.bind_eq_some_iff.mp H
        obtain ⟨⟨t232, t233, t234, t235⟩, A300, H⟩ := H
        replace H : (if t235 = 0 then ((dayform_Show.f kj7 t232 t233 t234).bind fun bt237 => (if bt237.2 = 0 then (if bt237.1.toList = a0.toList then ((noonmarklaw06_alive.f kj7).bind fun t239 => (some t239)) else (some false)) else (some false))) else (if (t232 == 0 && (t233 == 0 && (t234 == 0))) = true then ((noonmarklaw06_alive.f kj7).bind fun t240 => (some t240)) else (some false))) = some r := H
        have A30 := Aside0.mk A300
        clear A300
        by_cases c31 : t235 = 0
        · rw [if_pos c31] at H
          have c31b0 : (t235 == 0) = true := beq_iff_eq.mpr c31
          have c31b1 : (t235 != 0) = false := bne_eq_false_iff_eq.mpr c31
          clear c31
          replace H := Option.bind_eq_some_iff.mp H
          obtain ⟨⟨t237, t238⟩, A320, H⟩ := H
          replace H : (if t238 = 0 then (if t237.toList = a0.toList then ((noonmarklaw06_alive.f kj7).bind fun t239 => (some t239)) else (some false)) else (some false)) = some r := H
          have A32 := Aside0.mk A320
          clear A320
          by_cases c33 : t238 = 0
          · rw [if_pos c33] at H
            have c33b0 : (t238 == 0) = true := beq_iff_eq.mpr c33
            have c33b1 : (t238 != 0) = false := bne_eq_false_iff_eq.mpr c33
            clear c33
            by_cases c34 : t237.toList = a0.toList
            · rw [if_pos c34] at H
              have c34b0 : (t237.toList == a0.toList) = true := beq_iff_eq.mpr c34
              have c34b1 : (t237.toList != a0.toList) = false := bne_eq_false_iff_eq.mpr c34
              clear c34
              replace H := Option.bind_eq_some_iff.mp H
              obtain ⟨t239, A350, H⟩ := H
              replace H : (some t239) = some r := H
              have A35 := Aside0.mk A350
              clear A350
              obtain rfl := Option.some.inj H
              go_wp2_with (first | ((with_reducible refine gate_callee (f := 6) rfl ?_); refine goesL_ (some 38) rfl rfl Tryd.func6 (by kernel_rfl) rfl #[.string a0] rfl (by (try simp only [List.map_toArray, List.map_cons, List.map_nil]); first | done | rfl | (simp only [List.length_drop, List.length_take]; rfl)) ?_; (with_reducible refine (dayform_Parse.calls kj7 a0 t232 t233 t234 t235 _ ?side1 A30.out).mono ?_); (case side1 => exact GOK.below hG (by repeat (first | (with_reducible first | exact HB.out | apply below_alloc | apply pw_below_drewN | apply below_drew1 | refine below_set ?_ GE223.out) | exact HB.out))); rintro e w36 ⟨rfl, hb⟩; refine ⟨_, rfl, ?_⟩; have n0_ := Aside0.mk (blk_below (g := gb223) (o := .cells #[.int .i64 a1_0, .int .i64 a1_1, .int .i64 a1_2] 23 (0, 0)) (by (with_reducible repeat (first | refine blk_drewN ?_ _ | refine blk_drew ?_ | refine blk_alloc ?_ _)); exact BK223.out) hb); have n1_ := Aside0.mk (below_step (by repeat (first | (with_reducible first | exact HB.out | apply below_alloc | apply pw_below_drewN | apply below_drew1 | refine below_set ?_ GE223.out) | exact HB.out)) hb); clear BK223; clear HB; have BK223 := n0_; have HB := n1_; clear n0_ n1_; (try clear hb); (try clear hb2); (try clear hk); (try clear hi)) | ((with_reducible refine gate_dst (N := 9) rfl ?_); refine box_event ?hg (N := 9) ?hd (cs := #[.int .i64 0, .int .i64 0, .int .i64 0]) (t := 23) ?hr ?_; (case hd => rfl); (case hg => rfl); (case hr => first | (go_simp; done) | (go_simp; rfl)); intro gb236 hg w37 hbox hb; have n0_ := Aside0.mk (blk_below (g := gb223) (o := .cells #[.int .i64 a1_0, .int .i64 a1_1, .int .i64 a1_2] 23 (0, 0)) (by (with_reducible repeat (first | refine blk_drewN ?_ _ | refine blk_drew ?_ | refine blk_alloc ?_ _)); exact BK223.out) hb); have n1_ := Aside0.mk (below_step (by repeat (first | (with_reducible first | exact HB.out | apply below_alloc | apply pw_below_drewN | apply below_drew1 | refine below_set ?_ GE223.out) | exact HB.out)) hb); have n2_ := Aside0.mk (hbox); have n3_ := Aside0.mk ((by rw [hg]; exact (below_size (by repeat (first | (with_reducible first | exact HB.out | apply below_alloc | apply pw_below_drewN | apply below_drew1 | refine below_set ?_ GE223.out) | exact HB.out))) : w.heap.size ≤ gb236)); have n4_ := Aside0.mk ((by rw [hg]; exact (below_size (by repeat (first | (with_reducible first | exact HB.out | apply below_alloc | apply pw_below_drewN | apply below_drew1 | refine below_set ?_ GE223.out) | exact HB.out))) : w.heap.size ≤ gb236)); have n5_ := Aside0.mk ((by rw [hg]; exact Nat.ne_of_lt (blk_lt (g := gb223) (o := .cells #[.int .i64 a1_0, .int .i64 a1_1, .int .i64 a1_2] 23 (0, 0)) (by (with_reducible repeat (first | refine blk_drewN ?_ _ | refine blk_drew ?_ | refine blk_alloc ?_ _)); exact BK223.out)) : gb223 ≠ gb236)); have n6_ := Aside0.mk ((by rw [hg]; exact Nat.ne_of_gt (blk_lt (g := gb223) (o := .cells #[.int .i64 a1_0, .int .i64 a1_1, .int .i64 a1_2] 23 (0, 0)) (by (with_reducible repeat (first | refine blk_drewN ?_ _ | refine blk_drew ?_ | refine blk_alloc ?_ _)); exact BK223.out)) : gb236 ≠ gb223)); clear BK223; clear HB; have BK223 := n0_; have HB := n1_; have BK236 := n2_; have GW236 := n3_; have GE236 := n4_; have NB223_236 := n5_; have NB236_223 := n6_; clear n0_ n1_ n2_ n3_ n4_ n5_ n6_; clear hb hbox hg; have hnb38 := NB236_223.out; have hnc38 := NB223_236.out; have hcz39_0 : w37.cell? ⟨gb236, 0, none⟩ = some (.int .i64 0) := (blk_cell BK236.out 0).trans rfl; have hcz39_1 : w37.cell? ⟨gb236, 1, none⟩ = some (.int .i64 0) := (blk_cell BK236.out 1).trans rfl; have hcz39_2 : w37.cell? ⟨gb236, 2, none⟩ = some (.int .i64 0) := (blk_cell BK236.out 2).trans rfl; have hfz39_0 := blk_frozen BK236.out 0; have hfz39_1 := blk_frozen BK236.out 1; have hfz39_2 := blk_frozen BK236.out 2) | ((with_reducible refine gate_callee (f := 8) rfl ?_); refine goesL_ (some 51) rfl rfl Tryd.func8 (by kernel_rfl) rfl #[.agg #[.int .i64 t232, .int .i64 t233, .int .i64 t234]] rfl (by (try simp only [List.map_toArray, List.map_cons, List.map_nil]); first | done | rfl | (simp only [List.length_drop, List.length_take]; rfl)) ?_; (with_reducible refine (dayform_Show.calls kj7 t232 t233 t234 t237 t238 _ ?side1 A32.out).mono ?_); (case side1 => exact GOK.below hG (by repeat (first | (with_reducible first | exact HB.out | apply below_alloc | apply pw_below_drewN | apply below_drew1 | refine below_set ?_ GE223.out | refine below_set ?_ GE236.out) | exact HB.out))); rintro e w40 ⟨rfl, hb⟩; refine ⟨_, rfl, ?_⟩; have n0_ := Aside0.mk (blk_below (g := gb223) (o := .cells #[.int .i64 a1_0, .int .i64 a1_1, .int .i64 a1_2] 23 (0, 0)) (by (with_reducible repeat (first | refine blk_drewN ?_ _ | refine blk_drew ?_ | refine blk_alloc ?_ _)); refine blk_far ?_ NB223_236.out _; (with_reducible repeat (first | refine blk_drewN ?_ _ | refine blk_drew ?_ | refine blk_alloc ?_ _)); refine blk_far ?_ NB223_236.out _; (with_reducible repeat (first | refine blk_drewN ?_ _ | refine blk_drew ?_ | refine blk_alloc ?_ _)); refine blk_far ?_ NB223_236.out _; (with_reducible repeat (first | refine blk_drewN ?_ _ | refine blk_drew ?_ | refine blk_alloc ?_ _)); exact BK223.out) hb); have n1_ := Aside0.mk (blk_below (g := gb236) (o := .cells #[.int .i64 t232, .int .i64 t233, .int .i64 t234] 23 (0, 0)) (by (with_reducible repeat (first | refine blk_drewN ?_ _ | refine blk_drew ?_ | refine blk_alloc ?_ _)); refine blk_put (cs := #[.int .i64 t232, .int .i64 t233, .int .i64 0]) ?_ 2 _ rfl; (with_reducible repeat (first | refine blk_drewN ?_ _ | refine blk_drew ?_ | refine blk_alloc ?_ _)); refine blk_put (cs := #[.int .i64 t232, .int .i64 0, .int .i64 0]) ?_ 1 _ rfl; (with_reducible repeat (first | refine blk_drewN ?_ _ | refine blk_drew ?_ | refine blk_alloc ?_ _)); refine blk_put (cs := #[.int .i64 0, .int .i64 0, .int .i64 0]) ?_ 0 _ rfl; (with_reducible repeat (first | refine blk_drewN ?_ _ | refine blk_drew ?_ | refine blk_alloc ?_ _)); exact BK236.out) hb); have n2_ := Aside0.mk (below_step (by repeat (first | (with_reducible first | exact HB.out | apply below_alloc | apply pw_below_drewN | apply below_drew1 | refine below_set ?_ GE223.out | refine below_set ?_ GE236.out) | exact HB.out)) hb); clear BK223; clear BK236; clear HB; have BK223 := n0_; have BK236 := n1_; have HB := n2_; clear n0_ n1_ n2_; (try clear hb); (try clear hb2); (try clear hk); (try clear hi)) | (go_at_call 5; (with_reducible refine (noonmarklaw06_alive.calls kj7  t239 _ ?side1 A35.out).mono ?_); (case side1 => exact GOK.below hG (by repeat (first | (with_reducible first | exact HB.out | apply below_alloc | apply pw_below_drewN | apply below_drew1 | refine below_set ?_ GE223.out | refine below_set ?_ GE236.out) | exact HB.out))); rintro e w41 ⟨rfl, hb⟩; have n0_ := Aside0.mk (blk_below (g := gb223) (o := .cells #[.int .i64 a1_0, .int .i64 a1_1, .int .i64 a1_2] 23 (0, 0)) (by (with_reducible repeat (first | refine blk_drewN ?_ _ | refine blk_drew ?_ | refine blk_alloc ?_ _)); exact BK223.out) hb); have n1_ := Aside0.mk (blk_below (g := gb236) (o := .cells #[.int .i64 t232, .int .i64 t233, .int .i64 t234] 23 (0, 0)) (by (with_reducible repeat (first | refine blk_drewN ?_ _ | refine blk_drew ?_ | refine blk_alloc ?_ _)); exact BK236.out) hb); have n2_ := Aside0.mk (below_step (by repeat (first | (with_reducible first | exact HB.out | apply below_alloc | apply pw_below_drewN | apply below_drew1 | refine below_set ?_ GE223.out | refine below_set ?_ GE236.out) | exact HB.out)) hb); clear BK223; clear BK236; clear HB; have BK223 := n0_; have BK236 := n1_; have HB := n2_; clear n0_ n1_ n2_; (try clear hb); (try clear hb2); (try clear hk); (try clear hi)))
              go_ret
              exact ⟨by first | rfl | (simp [errW_none, errW_some] <;> rfl) | (simp [*, errW_none, errW_some] <;> rfl), by repeat (first | (with_reducible first | exact HB.out | apply below_alloc | apply pw_below_drewN | apply below_drew1 | refine below_set ?_ GE223.out | refine below_set ?_ GE236.out) | exact HB.out)⟩
            · rw [if_neg c34] at H
              have c34b0 : (t237.toList == a0.toList) = false := beq_eq_false_iff_ne.mpr c34
              have c34b1 : (t237.toList != a0.toList) = true := bne_iff_ne.mpr c34
              obtain rfl := Option.some.inj H
              go_wp2_with (first | ((with_reducible refine gate_callee (f := 6) rfl ?_); refine goesL_ (some 38) rfl rfl Tryd.func6 (by kernel_rfl) rfl #[.string a0] rfl (by (try simp only [List.map_toArray, List.map_cons, List.map_nil]); first | done | rfl | (simp only [List.length_drop, List.length_take]; rfl)) ?_; (with_reducible refine (dayform_Parse.calls kj7 a0 t232 t233 t234 t235 _ ?side1 A30.out).mono ?_); (case side1 => exact GOK.below hG (by repeat (first | (with_reducible first | exact HB.out | apply below_alloc | apply pw_below_drewN | apply below_drew1 | refine below_set ?_ GE223.out) | exact HB.out))); rintro e w42 ⟨rfl, hb⟩; refine ⟨_, rfl, ?_⟩; have n0_ := Aside0.mk (blk_below (g := gb223) (o := .cells #[.int .i64 a1_0, .int .i64 a1_1, .int .i64 a1_2] 23 (0, 0)) (by (with_reducible repeat (first | refine blk_drewN ?_ _ | refine blk_drew ?_ | refine blk_alloc ?_ _)); exact BK223.out) hb); have n1_ := Aside0.mk (below_step (by repeat (first | (with_reducible first | exact HB.out | apply below_alloc | apply pw_below_drewN | apply below_drew1 | refine below_set ?_ GE223.out) | exact HB.out)) hb); clear BK223; clear HB; have BK223 := n0_; have HB := n1_; clear n0_ n1_; (try clear hb); (try clear hb2); (try clear hk); (try clear hi)) | ((with_reducible refine gate_dst (N := 9) rfl ?_); refine box_event ?hg (N := 9) ?hd (cs := #[.int .i64 0, .int .i64 0, .int .i64 0]) (t := 23) ?hr ?_; (case hd => rfl); (case hg => rfl); (case hr => first | (go_simp; done) | (go_simp; rfl)); intro gb236 hg w43 hbox hb; have n0_ := Aside0.mk (blk_below (g := gb223) (o := .cells #[.int .i64 a1_0, .int .i64 a1_1, .int .i64 a1_2] 23 (0, 0)) (by (with_reducible repeat (first | refine blk_drewN ?_ _ | refine blk_drew ?_ | refine blk_alloc ?_ _)); exact BK223.out) hb); have n1_ := Aside0.mk (below_step (by repeat (first | (with_reducible first | exact HB.out | apply below_alloc | apply pw_below_drewN | apply below_drew1 | refine below_set ?_ GE223.out) | exact HB.out)) hb); have n2_ := Aside0.mk (hbox); have n3_ := Aside0.mk ((by rw [hg]; exact (below_size (by repeat (first | (with_reducible first | exact HB.out | apply below_alloc | apply pw_below_drewN | apply below_drew1 | refine below_set ?_ GE223.out) | exact HB.out))) : w.heap.size ≤ gb236)); have n4_ := Aside0.mk ((by rw [hg]; exact (below_size (by repeat (first | (with_reducible first | exact HB.out | apply below_alloc | apply pw_below_drewN | apply below_drew1 | refine below_set ?_ GE223.out) | exact HB.out))) : w.heap.size ≤ gb236)); have n5_ := Aside0.mk ((by rw [hg]; exact Nat.ne_of_lt (blk_lt (g := gb223) (o := .cells #[.int .i64 a1_0, .int .i64 a1_1, .int .i64 a1_2] 23 (0, 0)) (by (with_reducible repeat (first | refine blk_drewN ?_ _ | refine blk_drew ?_ | refine blk_alloc ?_ _)); exact BK223.out)) : gb223 ≠ gb236)); have n6_ := Aside0.mk ((by rw [hg]; exact Nat.ne_of_gt (blk_lt (g := gb223) (o := .cells #[.int .i64 a1_0, .int .i64 a1_1, .int .i64 a1_2] 23 (0, 0)) (by (with_reducible repeat (first | refine blk_drewN ?_ _ | refine blk_drew ?_ | refine blk_alloc ?_ _)); exact BK223.out)) : gb236 ≠ gb223)); clear BK223; clear HB; have BK223 := n0_; have HB := n1_; have BK236 := n2_; have GW236 := n3_; have GE236 := n4_; have NB223_236 := n5_; have NB236_223 := n6_; clear n0_ n1_ n2_ n3_ n4_ n5_ n6_; clear hb hbox hg; have hnb44 := NB236_223.out; have hnc44 := NB223_236.out; have hcz45_0 : w43.cell? ⟨gb236, 0, none⟩ = some (.int .i64 0) := (blk_cell BK236.out 0).trans rfl; have hcz45_1 : w43.cell? ⟨gb236, 1, none⟩ = some (.int .i64 0) := (blk_cell BK236.out 1).trans rfl; have hcz45_2 : w43.cell? ⟨gb236, 2, none⟩ = some (.int .i64 0) := (blk_cell BK236.out 2).trans rfl; have hfz45_0 := blk_frozen BK236.out 0; have hfz45_1 := blk_frozen BK236.out 1; have hfz45_2 := blk_frozen BK236.out 2) | ((with_reducible refine gate_callee (f := 8) rfl ?_); refine goesL_ (some 51) rfl rfl Tryd.func8 (by kernel_rfl) rfl #[.agg #[.int .i64 t232, .int .i64 t233, .int .i64 t234]] rfl (by (try simp only [List.map_toArray, List.map_cons, List.map_nil]); first | done | rfl | (simp only [List.length_drop, List.length_take]; rfl)) ?_; (with_reducible refine (dayform_Show.calls kj7 t232 t233 t234 t237 t238 _ ?side1 A32.out).mono ?_); (case side1 => exact GOK.below hG (by repeat (first | (with_reducible first | exact HB.out | apply below_alloc | apply pw_below_drewN | apply below_drew1 | refine below_set ?_ GE223.out | refine below_set ?_ GE236.out) | exact HB.out))); rintro e w46 ⟨rfl, hb⟩; refine ⟨_, rfl, ?_⟩; have n0_ := Aside0.mk (blk_below (g := gb223) (o := .cells #[.int .i64 a1_0, .int .i64 a1_1, .int .i64 a1_2] 23 (0, 0)) (by (with_reducible repeat (first | refine blk_drewN ?_ _ | refine blk_drew ?_ | refine blk_alloc ?_ _)); refine blk_far ?_ NB223_236.out _; (with_reducible repeat (first | refine blk_drewN ?_ _ | refine blk_drew ?_ | refine blk_alloc ?_ _)); refine blk_far ?_ NB223_236.out _; (with_reducible repeat (first | refine blk_drewN ?_ _ | refine blk_drew ?_ | refine blk_alloc ?_ _)); refine blk_far ?_ NB223_236.out _; (with_reducible repeat (first | refine blk_drewN ?_ _ | refine blk_drew ?_ | refine blk_alloc ?_ _)); exact BK223.out) hb); have n1_ := Aside0.mk (blk_below (g := gb236) (o := .cells #[.int .i64 t232, .int .i64 t233, .int .i64 t234] 23 (0, 0)) (by (with_reducible repeat (first | refine blk_drewN ?_ _ | refine blk_drew ?_ | refine blk_alloc ?_ _)); refine blk_put (cs := #[.int .i64 t232, .int .i64 t233, .int .i64 0]) ?_ 2 _ rfl; (with_reducible repeat (first | refine blk_drewN ?_ _ | refine blk_drew ?_ | refine blk_alloc ?_ _)); refine blk_put (cs := #[.int .i64 t232, .int .i64 0, .int .i64 0]) ?_ 1 _ rfl; (with_reducible repeat (first | refine blk_drewN ?_ _ | refine blk_drew ?_ | refine blk_alloc ?_ _)); refine blk_put (cs := #[.int .i64 0, .int .i64 0, .int .i64 0]) ?_ 0 _ rfl; (with_reducible repeat (first | refine blk_drewN ?_ _ | refine blk_drew ?_ | refine blk_alloc ?_ _)); exact BK236.out) hb); have n2_ := Aside0.mk (below_step (by repeat (first | (with_reducible first | exact HB.out | apply below_alloc | apply pw_below_drewN | apply below_drew1 | refine below_set ?_ GE223.out | refine below_set ?_ GE236.out) | exact HB.out)) hb); clear BK223; clear BK236; clear HB; have BK223 := n0_; have BK236 := n1_; have HB := n2_; clear n0_ n1_ n2_; (try clear hb); (try clear hb2); (try clear hk); (try clear hi)))
              go_ret
              exact ⟨by first | rfl | (simp [errW_none, errW_some] <;> rfl) | (simp [*, errW_none, errW_some] <;> rfl), by repeat (first | (with_reducible first | exact HB.out | apply below_alloc | apply pw_below_drewN | apply below_drew1 | refine below_set ?_ GE223.out | refine below_set ?_ GE236.out) | exact HB.out)⟩
          · rw [if_neg c33] at H
            have c33b0 : (t238 == 0) = false := beq_eq_false_iff_ne.mpr c33
            have c33b1 : (t238 != 0) = true := bne_iff_ne.mpr c33
            obtain rfl := Option.some.inj H
            go_wp2_with (first | ((with_reducible refine gate_callee (f := 6) rfl ?_); refine goesL_ (some 38) rfl rfl Tryd.func6 (by kernel_rfl) rfl #[.string a0] rfl (by (try simp only [List.map_toArray, List.map_cons, List.map_nil]); first | done | rfl | (simp only [List.length_drop, List.length_take]; rfl)) ?_; (with_reducible refine (dayform_Parse.calls kj7 a0 t232 t233 t234 t235 _ ?side1 A30.out).mono ?_); (case side1 => exact GOK.below hG (by repeat (first | (with_reducible first | exact HB.out | apply below_alloc | apply pw_below_drewN | apply below_drew1 | refine below_set ?_ GE223.out) | exact HB.out))); rintro e w47 ⟨rfl, hb⟩; refine ⟨_, rfl, ?_⟩; have n0_ := Aside0.mk (blk_below (g := gb223) (o := .cells #[.int .i64 a1_0, .int .i64 a1_1, .int .i64 a1_2] 23 (0, 0)) (by (with_reducible repeat (first | refine blk_drewN ?_ _ | refine blk_drew ?_ | refine blk_alloc ?_ _)); exact BK223.out) hb); have n1_ := Aside0.mk (below_step (by repeat (first | (with_reducible first | exact HB.out | apply below_alloc | apply pw_below_drewN | apply below_drew1 | refine below_set ?_ GE223.out) | exact HB.out)) hb); clear BK223; clear HB; have BK223 := n0_; have HB := n1_; clear n0_ n1_; (try clear hb); (try clear hb2); (try clear hk); (try clear hi)) | ((with_reducible refine gate_dst (N := 9) rfl ?_); refine box_event ?hg (N := 9) ?hd (cs := #[.int .i64 0, .int .i64 0, .int .i64 0]) (t := 23) ?hr ?_; (case hd => rfl); (case hg => rfl); (case hr => first | (go_simp; done) | (go_simp; rfl)); intro gb236 hg w48 hbox hb; have n0_ := Aside0.mk (blk_below (g := gb223) (o := .cells #[.int .i64 a1_0, .int .i64 a1_1, .int .i64 a1_2] 23 (0, 0)) (by (with_reducible repeat (first | refine blk_drewN ?_ _ | refine blk_drew ?_ | refine blk_alloc ?_ _)); exact BK223.out) hb); have n1_ := Aside0.mk (below_step (by repeat (first | (with_reducible first | exact HB.out | apply below_alloc | apply pw_below_drewN | apply below_drew1 | refine below_set ?_ GE223.out) | exact HB.out)) hb); have n2_ := Aside0.mk (hbox); have n3_ := Aside0.mk ((by rw [hg]; exact (below_size (by repeat (first | (with_reducible first | exact HB.out | apply below_alloc | apply pw_below_drewN | apply below_drew1 | refine below_set ?_ GE223.out) | exact HB.out))) : w.heap.size ≤ gb236)); have n4_ := Aside0.mk ((by rw [hg]; exact (below_size (by repeat (first | (with_reducible first | exact HB.out | apply below_alloc | apply pw_below_drewN | apply below_drew1 | refine below_set ?_ GE223.out) | exact HB.out))) : w.heap.size ≤ gb236)); have n5_ := Aside0.mk ((by rw [hg]; exact Nat.ne_of_lt (blk_lt (g := gb223) (o := .cells #[.int .i64 a1_0, .int .i64 a1_1, .int .i64 a1_2] 23 (0, 0)) (by (with_reducible repeat (first | refine blk_drewN ?_ _ | refine blk_drew ?_ | refine blk_alloc ?_ _)); exact BK223.out)) : gb223 ≠ gb236)); have n6_ := Aside0.mk ((by rw [hg]; exact Nat.ne_of_gt (blk_lt (g := gb223) (o := .cells #[.int .i64 a1_0, .int .i64 a1_1, .int .i64 a1_2] 23 (0, 0)) (by (with_reducible repeat (first | refine blk_drewN ?_ _ | refine blk_drew ?_ | refine blk_alloc ?_ _)); exact BK223.out)) : gb236 ≠ gb223)); clear BK223; clear HB; have BK223 := n0_; have HB := n1_; have BK236 := n2_; have GW236 := n3_; have GE236 := n4_; have NB223_236 := n5_; have NB236_223 := n6_; clear n0_ n1_ n2_ n3_ n4_ n5_ n6_; clear hb hbox hg; have hnb49 := NB236_223.out; have hnc49 := NB223_236.out; have hcz50_0 : w48.cell? ⟨gb236, 0, none⟩ = some (.int .i64 0) := (blk_cell BK236.out 0).trans rfl; have hcz50_1 : w48.cell? ⟨gb236, 1, none⟩ = some (.int .i64 0) := (blk_cell BK236.out 1).trans rfl; have hcz50_2 : w48.cell? ⟨gb236, 2, none⟩ = some (.int .i64 0) := (blk_cell BK236.out 2).trans rfl; have hfz50_0 := blk_frozen BK236.out 0; have hfz50_1 := blk_frozen BK236.out 1; have hfz50_2 := blk_frozen BK236.out 2) | ((with_reducible refine gate_callee (f := 8) rfl ?_); refine goesL_ (some 51) rfl rfl Tryd.func8 (by kernel_rfl) rfl #[.agg #[.int .i64 t232, .int .i64 t233, .int .i64 t234]] rfl (by (try simp only [List.map_toArray, List.map_cons, List.map_nil]); first | done | rfl | (simp only [List.length_drop, List.length_take]; rfl)) ?_; (with_reducible refine (dayform_Show.calls kj7 t232 t233 t234 t237 t238 _ ?side1 A32.out).mono ?_); (case side1 => exact GOK.below hG (by repeat (first | (with_reducible first | exact HB.out | apply below_alloc | apply pw_below_drewN | apply below_drew1 | refine below_set ?_ GE223.out | refine below_set ?_ GE236.out) | exact HB.out))); rintro e w51 ⟨rfl, hb⟩; refine ⟨_, rfl, ?_⟩; have n0_ := Aside0.mk (blk_below (g := gb223) (o := .cells #[.int .i64 a1_0, .int .i64 a1_1, .int .i64 a1_2] 23 (0, 0)) (by (with_reducible repeat (first | refine blk_drewN ?_ _ | refine blk_drew ?_ | refine blk_alloc ?_ _)); refine blk_far ?_ NB223_236.out _; (with_reducible repeat (first | refine blk_drewN ?_ _ | refine blk_drew ?_ | refine blk_alloc ?_ _)); refine blk_far ?_ NB223_236.out _; (with_reducible repeat (first | refine blk_drewN ?_ _ | refine blk_drew ?_ | refine blk_alloc ?_ _)); refine blk_far ?_ NB223_236.out _; (with_reducible repeat (first | refine blk_drewN ?_ _ | refine blk_drew ?_ | refine blk_alloc ?_ _)); exact BK223.out) hb); have n1_ := Aside0.mk (blk_below (g := gb236) (o := .cells #[.int .i64 t232, .int .i64 t233, .int .i64 t234] 23 (0, 0)) (by (with_reducible repeat (first | refine blk_drewN ?_ _ | refine blk_drew ?_ | refine blk_alloc ?_ _)); refine blk_put (cs := #[.int .i64 t232, .int .i64 t233, .int .i64 0]) ?_ 2 _ rfl; (with_reducible repeat (first | refine blk_drewN ?_ _ | refine blk_drew ?_ | refine blk_alloc ?_ _)); refine blk_put (cs := #[.int .i64 t232, .int .i64 0, .int .i64 0]) ?_ 1 _ rfl; (with_reducible repeat (first | refine blk_drewN ?_ _ | refine blk_drew ?_ | refine blk_alloc ?_ _)); refine blk_put (cs := #[.int .i64 0, .int .i64 0, .int .i64 0]) ?_ 0 _ rfl; (with_reducible repeat (first | refine blk_drewN ?_ _ | refine blk_drew ?_ | refine blk_alloc ?_ _)); exact BK236.out) hb); have n2_ := Aside0.mk (below_step (by repeat (first | (with_reducible first | exact HB.out | apply below_alloc | apply pw_below_drewN | apply below_drew1 | refine below_set ?_ GE223.out | refine below_set ?_ GE236.out) | exact HB.out)) hb); clear BK223; clear BK236; clear HB; have BK223 := n0_; have BK236 := n1_; have HB := n2_; clear n0_ n1_ n2_; (try clear hb); (try clear hb2); (try clear hk); (try clear hi)))
            go_ret
            exact ⟨by first | rfl | (simp [errW_none, errW_some] <;> rfl) | (simp [*, errW_none, errW_some] <;> rfl), by repeat (first | (with_reducible first | exact HB.out | apply below_alloc | apply pw_below_drewN | apply below_drew1 | refine below_set ?_ GE223.out | refine below_set ?_ GE236.out) | exact HB.out)⟩
        · rw [if_neg c31] at H
          have c31b0 : (t235 == 0) = false := beq_eq_false_iff_ne.mpr c31
          have c31b1 : (t235 != 0) = true := bne_iff_ne.mpr c31
          by_cases c52 : (t232 == 0 && (t233 == 0 && (t234 == 0))) = true
          · rw [if_pos c52] at H
            have c52b0 : (t232 == 0 && (t233 == 0 && (t234 == 0))) = true := c52
            (try (have c52b1 : decide (t232 = 0 && (t233 == 0 && (t234 == 0))) = true := by simpa using c52))
            (try (have c52b2 : (t232 == 0 && (t233 == 0 && (t234 == 0))) = true := by simpa using c52))
            clear c52
            replace H := Option.bind_eq_some_iff.mp H
            obtain ⟨t240, A530, H⟩ := H
            replace H : (some t240) = some r := H
            have A53 := Aside0.mk A530
            clear A530
            obtain rfl := Option.some.inj H
            go_wp2_with (first | ((with_reducible refine gate_callee (f := 6) rfl ?_); refine goesL_ (some 38) rfl rfl Tryd.func6 (by kernel_rfl) rfl #[.string a0] rfl (by (try simp only [List.map_toArray, List.map_cons, List.map_nil]); first | done | rfl | (simp only [List.length_drop, List.length_take]; rfl)) ?_; (with_reducible refine (dayform_Parse.calls kj7 a0 t232 t233 t234 t235 _ ?side1 A30.out).mono ?_); (case side1 => exact GOK.below hG (by repeat (first | (with_reducible first | exact HB.out | apply below_alloc | apply pw_below_drewN | apply below_drew1 | refine below_set ?_ GE223.out) | exact HB.out))); rintro e w54 ⟨rfl, hb⟩; refine ⟨_, rfl, ?_⟩; have n0_ := Aside0.mk (blk_below (g := gb223) (o := .cells #[.int .i64 a1_0, .int .i64 a1_1, .int .i64 a1_2] 23 (0, 0)) (by (with_reducible repeat (first | refine blk_drewN ?_ _ | refine blk_drew ?_ | refine blk_alloc ?_ _)); exact BK223.out) hb); have n1_ := Aside0.mk (below_step (by repeat (first | (with_reducible first | exact HB.out | apply below_alloc | apply pw_below_drewN | apply below_drew1 | refine below_set ?_ GE223.out) | exact HB.out)) hb); clear BK223; clear HB; have BK223 := n0_; have HB := n1_; clear n0_ n1_; (try clear hb); (try clear hb2); (try clear hk); (try clear hi)) | ((with_reducible refine gate_dst (N := 9) rfl ?_); refine box_event ?hg (N := 9) ?hd (cs := #[.int .i64 0, .int .i64 0, .int .i64 0]) (t := 23) ?hr ?_; (case hd => rfl); (case hg => rfl); (case hr => first | (go_simp; done) | (go_simp; rfl)); intro gb236 hg w55 hbox hb; have n0_ := Aside0.mk (blk_below (g := gb223) (o := .cells #[.int .i64 a1_0, .int .i64 a1_1, .int .i64 a1_2] 23 (0, 0)) (by (with_reducible repeat (first | refine blk_drewN ?_ _ | refine blk_drew ?_ | refine blk_alloc ?_ _)); exact BK223.out) hb); have n1_ := Aside0.mk (below_step (by repeat (first | (with_reducible first | exact HB.out | apply below_alloc | apply pw_below_drewN | apply below_drew1 | refine below_set ?_ GE223.out) | exact HB.out)) hb); have n2_ := Aside0.mk (hbox); have n3_ := Aside0.mk ((by rw [hg]; exact (below_size (by repeat (first | (with_reducible first | exact HB.out | apply below_alloc | apply pw_below_drewN | apply below_drew1 | refine below_set ?_ GE223.out) | exact HB.out))) : w.heap.size ≤ gb236)); have n4_ := Aside0.mk ((by rw [hg]; exact (below_size (by repeat (first | (with_reducible first | exact HB.out | apply below_alloc | apply pw_below_drewN | apply below_drew1 | refine below_set ?_ GE223.out) | exact HB.out))) : w.heap.size ≤ gb236)); have n5_ := Aside0.mk ((by rw [hg]; exact Nat.ne_of_lt (blk_lt (g := gb223) (o := .cells #[.int .i64 a1_0, .int .i64 a1_1, .int .i64 a1_2] 23 (0, 0)) (by (with_reducible repeat (first | refine blk_drewN ?_ _ | refine blk_drew ?_ | refine blk_alloc ?_ _)); exact BK223.out)) : gb223 ≠ gb236)); have n6_ := Aside0.mk ((by rw [hg]; exact Nat.ne_of_gt (blk_lt (g := gb223) (o := .cells #[.int .i64 a1_0, .int .i64 a1_1, .int .i64 a1_2] 23 (0, 0)) (by (with_reducible repeat (first | refine blk_drewN ?_ _ | refine blk_drew ?_ | refine blk_alloc ?_ _)); exact BK223.out)) : gb236 ≠ gb223)); clear BK223; clear HB; have BK223 := n0_; have HB := n1_; have BK236 := n2_; have GW236 := n3_; have GE236 := n4_; have NB223_236 := n5_; have NB236_223 := n6_; clear n0_ n1_ n2_ n3_ n4_ n5_ n6_; clear hb hbox hg; have hnb56 := NB236_223.out; have hnc56 := NB223_236.out; have hcz57_0 : w55.cell? ⟨gb236, 0, none⟩ = some (.int .i64 0) := (blk_cell BK236.out 0).trans rfl; have hcz57_1 : w55.cell? ⟨gb236, 1, none⟩ = some (.int .i64 0) := (blk_cell BK236.out 1).trans rfl; have hcz57_2 : w55.cell? ⟨gb236, 2, none⟩ = some (.int .i64 0) := (blk_cell BK236.out 2).trans rfl; have hfz57_0 := blk_frozen BK236.out 0; have hfz57_1 := blk_frozen BK236.out 1; have hfz57_2 := blk_frozen BK236.out 2) | (go_at_call 5; (with_reducible refine (noonmarklaw06_alive.calls kj7  t240 _ ?side1 A53.out).mono ?_); (case side1 => exact GOK.below hG (by repeat (first | (with_reducible first | exact HB.out | apply below_alloc | apply pw_below_drewN | apply below_drew1 | refine below_set ?_ GE223.out | refine below_set ?_ GE236.out) | exact HB.out))); rintro e w58 ⟨rfl, hb⟩; have n0_ := Aside0.mk (blk_below (g := gb223) (o := .cells #[.int .i64 a1_0, .int .i64 a1_1, .int .i64 a1_2] 23 (0, 0)) (by (with_reducible repeat (first | refine blk_drewN ?_ _ | refine blk_drew ?_ | refine blk_alloc ?_ _)); refine blk_far ?_ NB223_236.out _; (with_reducible repeat (first | refine blk_drewN ?_ _ | refine blk_drew ?_ | refine blk_alloc ?_ _)); refine blk_far ?_ NB223_236.out _; (with_reducible repeat (first | refine blk_drewN ?_ _ | refine blk_drew ?_ | refine blk_alloc ?_ _)); refine blk_far ?_ NB223_236.out _; (with_reducible repeat (first | refine blk_drewN ?_ _ | refine blk_drew ?_ | refine blk_alloc ?_ _)); exact BK223.out) hb); have n1_ := Aside0.mk (blk_below (g := gb236) (o := .cells #[.int .i64 t232, .int .i64 t233, .int .i64 t234] 23 (0, 0)) (by (with_reducible repeat (first | refine blk_drewN ?_ _ | refine blk_drew ?_ | refine blk_alloc ?_ _)); refine blk_put (cs := #[.int .i64 t232, .int .i64 t233, .int .i64 0]) ?_ 2 _ rfl; (with_reducible repeat (first | refine blk_drewN ?_ _ | refine blk_drew ?_ | refine blk_alloc ?_ _)); refine blk_put (cs := #[.int .i64 t232, .int .i64 0, .int .i64 0]) ?_ 1 _ rfl; (with_reducible repeat (first | refine blk_drewN ?_ _ | refine blk_drew ?_ | refine blk_alloc ?_ _)); refine blk_put (cs := #[.int .i64 0, .int .i64 0, .int .i64 0]) ?_ 0 _ rfl; (with_reducible repeat (first | refine blk_drewN ?_ _ | refine blk_drew ?_ | refine blk_alloc ?_ _)); exact BK236.out) hb); have n2_ := Aside0.mk (below_step (by repeat (first | (with_reducible first | exact HB.out | apply below_alloc | apply pw_below_drewN | apply below_drew1 | refine below_set ?_ GE223.out | refine below_set ?_ GE236.out) | exact HB.out)) hb); clear BK223; clear BK236; clear HB; have BK223 := n0_; have BK236 := n1_; have HB := n2_; clear n0_ n1_ n2_; (try clear hb); (try clear hb2); (try clear hk); (try clear hi)))
            go_ret
            exact ⟨by first | rfl | (simp [errW_none, errW_some] <;> rfl) | (simp [*, errW_none, errW_some] <;> rfl), by repeat (first | (with_reducible first | exact HB.out | apply below_alloc | apply pw_below_drewN | apply below_drew1 | refine below_set ?_ GE223.out | refine below_set ?_ GE236.out) | exact HB.out)⟩
          · rw [if_neg c52] at H
            have c52b0 : (t232 == 0 && (t233 == 0 && (t234 == 0))) = false := by simpa using c52
            (try (have c52b1 : decide (t232 = 0 && (t233 == 0 && (t234 == 0))) = false := by simpa using c52))
            (try (have c52b2 : (t232 == 0 && (t233 == 0 && (t234 == 0))) = false := by simpa using c52))
            (try (have c52b3 : ¬ (t232 = 0 && (t233 == 0 && (t234 == 0))) := by simpa using c52))
            clear c52
            obtain rfl := Option.some.inj H
            go_wp2_with (first | ((with_reducible refine gate_callee (f := 6) rfl ?_); refine goesL_ (some 38) rfl rfl Tryd.func6 (by kernel_rfl) rfl #[.string a0] rfl (by (try simp only [List.map_toArray, List.map_cons, List.map_nil]); first | done | rfl | (simp only [List.length_drop, List.length_take]; rfl)) ?_; (with_reducible refine (dayform_Parse.calls kj7 a0 t232 t233 t234 t235 _ ?side1 A30.out).mono ?_); (case side1 => exact GOK.below hG (by repeat (first | (with_reducible first | exact HB.out | apply below_alloc | apply pw_below_drewN | apply below_drew1 | refine below_set ?_ GE223.out) | exact HB.out))); rintro e w59 ⟨rfl, hb⟩; refine ⟨_, rfl, ?_⟩; have n0_ := Aside0.mk (blk_below (g := gb223) (o := .cells #[.int .i64 a1_0, .int .i64 a1_1, .int .i64 a1_2] 23 (0, 0)) (by (with_reducible repeat (first | refine blk_drewN ?_ _ | refine blk_drew ?_ | refine blk_alloc ?_ _)); exact BK223.out) hb); have n1_ := Aside0.mk (below_step (by repeat (first | (with_reducible first | exact HB.out | apply below_alloc | apply pw_below_drewN | apply below_drew1 | refine below_set ?_ GE223.out) | exact HB.out)) hb); clear BK223; clear HB; have BK223 := n0_; have HB := n1_; clear n0_ n1_; (try clear hb); (try clear hb2); (try clear hk); (try clear hi)) | ((with_reducible refine gate_dst (N := 9) rfl ?_); refine box_event ?hg (N := 9) ?hd (cs := #[.int .i64 0, .int .i64 0, .int .i64 0]) (t := 23) ?hr ?_; (case hd => rfl); (case hg => rfl); (case hr => first | (go_simp; done) | (go_simp; rfl)); intro gb236 hg w60 hbox hb; have n0_ := Aside0.mk (blk_below (g := gb223) (o := .cells #[.int .i64 a1_0, .int .i64 a1_1, .int .i64 a1_2] 23 (0, 0)) (by (with_reducible repeat (first | refine blk_drewN ?_ _ | refine blk_drew ?_ | refine blk_alloc ?_ _)); exact BK223.out) hb); have n1_ := Aside0.mk (below_step (by repeat (first | (with_reducible first | exact HB.out | apply below_alloc | apply pw_below_drewN | apply below_drew1 | refine below_set ?_ GE223.out) | exact HB.out)) hb); have n2_ := Aside0.mk (hbox); have n3_ := Aside0.mk ((by rw [hg]; exact (below_size (by repeat (first | (with_reducible first | exact HB.out | apply below_alloc | apply pw_below_drewN | apply below_drew1 | refine below_set ?_ GE223.out) | exact HB.out))) : w.heap.size ≤ gb236)); have n4_ := Aside0.mk ((by rw [hg]; exact (below_size (by repeat (first | (with_reducible first | exact HB.out | apply below_alloc | apply pw_below_drewN | apply below_drew1 | refine below_set ?_ GE223.out) | exact HB.out))) : w.heap.size ≤ gb236)); have n5_ := Aside0.mk ((by rw [hg]; exact Nat.ne_of_lt (blk_lt (g := gb223) (o := .cells #[.int .i64 a1_0, .int .i64 a1_1, .int .i64 a1_2] 23 (0, 0)) (by (with_reducible repeat (first | refine blk_drewN ?_ _ | refine blk_drew ?_ | refine blk_alloc ?_ _)); exact BK223.out)) : gb223 ≠ gb236)); have n6_ := Aside0.mk ((by rw [hg]; exact Nat.ne_of_gt (blk_lt (g := gb223) (o := .cells #[.int .i64 a1_0, .int .i64 a1_1, .int .i64 a1_2] 23 (0, 0)) (by (with_reducible repeat (first | refine blk_drewN ?_ _ | refine blk_drew ?_ | refine blk_alloc ?_ _)); exact BK223.out)) : gb236 ≠ gb223)); clear BK223; clear HB; have BK223 := n0_; have HB := n1_; have BK236 := n2_; have GW236 := n3_; have GE236 := n4_; have NB223_236 := n5_; have NB236_223 := n6_; clear n0_ n1_ n2_ n3_ n4_ n5_ n6_; clear hb hbox hg; have hnb61 := NB236_223.out; have hnc61 := NB223_236.out; have hcz62_0 : w60.cell? ⟨gb236, 0, none⟩ = some (.int .i64 0) := (blk_cell BK236.out 0).trans rfl; have hcz62_1 : w60.cell? ⟨gb236, 1, none⟩ = some (.int .i64 0) := (blk_cell BK236.out 1).trans rfl; have hcz62_2 : w60.cell? ⟨gb236, 2, none⟩ = some (.int .i64 0) := (blk_cell BK236.out 2).trans rfl; have hfz62_0 := blk_frozen BK236.out 0; have hfz62_1 := blk_frozen BK236.out 1; have hfz62_2 := blk_frozen BK236.out 2))
            go_ret
            exact ⟨by first | rfl | (simp [errW_none, errW_some] <;> rfl) | (simp [*, errW_none, errW_some] <;> rfl), by repeat (first | (with_reducible first | exact HB.out | apply below_alloc | apply pw_below_drewN | apply below_drew1 | refine below_set ?_ GE223.out | refine below_set ?_ GE236.out) | exact HB.out)⟩

end Go.Proofs.YtahpmeijinndhaaDoor.P

/-
  The statements DayformTexts and DayformBack over numbers and texts alone.
-/
namespace Go.Proofs.YtahpmeijinndhaaDoor.P
open Go.RowKit Go.Proofs.YtahpmeijinndhaaDoorW.PrintWords
set_option linter.unusedVariables false

set_option maxRecDepth 100000 in
theorem alive06_at : noonmarklaw06_alive.f 6 = some true := by decide +kernel
theorem alive06 (k : Nat) (h : 6 ≤ k) : noonmarklaw06_alive.f k = some true := at_rounds noonmarklaw06_alive.mono h alive06_at
theorem wf64 {n : Int} (h : (Lit.int .i64 n).wf = true) : -9223372036854775808 ≤ n ∧ n ≤ 9223372036854775807 := by
  simpa [Lit.wf, IntKind.min, IntKind.max, IntKind.signed, IntKind.bits] using h

theorem Texts (s : ByteArray) (a b c : Int) (hb : (Lit.int .i64 b).wf = true) : noonmarklaw06_DayformTexts.f 1000 s a b c = some true := by
  unfold noonmarklaw06_DayformTexts.f
  have hw := wf64 hb
  rw [alive06 _ (by omega)]
  by_cases h : (s.size : Int) > 300
  · rw [if_pos h]; rfl
  · rw [if_neg h, dayform_Parse_eq s _ (by omega) (by omega), noonmarkref06_Parse_eq s _ (by omega) (by omega), dayform_Show_eq 999 a b c hw.1 hw.2, noonmarkref06_Show_eq 1000 a b c (by omega)]
    simp only [Option.bind_some]
    rw [if_pos (by simp), if_pos trivial, if_pos trivial, if_pos trivial]

theorem back_j0 (s : ByteArray) (k : Nat) (hs : s.size ≤ 300) (hk : 20 ≤ k) : noonmarklaw06_DayformBack.j0 (k + 1) s = some true := by
  obtain ⟨k, rfl⟩ : ∃ m, k = m + 1 := ⟨k - 1, by omega⟩
  simp only [noonmarklaw06_DayformBack.j0]
  rw [dayform_Parse_eq s _ (by omega) (by omega), alive06 _ (by omega)]
  simp only [Option.bind_some]
  by_cases h : (parseP (lst s)).2.2.2 = 0
  · obtain ⟨h1, h2⟩ := show_parse (lst s) h
    have hd := (drightB_iff _ _ _).1 h1
    rw [if_pos h, dayform_Show_eq k _ _ _ (by omega) (by omega)]
    simp only [Option.bind_some]
    unfold showP
    rw [if_pos h1]
    dsimp only
    rw [if_pos rfl, if_pos (by rw [toList_lst, toList_lst, lst_mk]; exact h2)]
  · rw [if_neg h, parse_none _ h, if_pos (by decide)]

theorem Back (s : ByteArray) (a b c : Int) (hb : (Lit.int .i64 b).wf = true) : noonmarklaw06_DayformBack.f 1000 s a b c = some true := by
  unfold noonmarklaw06_DayformBack.f
  have hw := wf64 hb
  by_cases h : (s.size : Int) > 300
  · rw [if_pos h, alive06 _ (by omega)]; rfl
  · rw [if_neg h, dayform_Show_eq 999 a b c hw.1 hw.2, back_j0 s 999 (by omega) (by omega)]
    simp only [Option.bind_some]
    unfold showP
    by_cases hr : drightB a b c = true
    · have hd := (drightB_iff _ _ _).1 hr
      have hlen : (showL a b c).length ≤ 100 := by
        have h1 := itoa_len b (by omega) (by omega)
        have h2 := nm_len c (by omega) (by omega)
        unfold showL
        split
        · omega
        split
        · simp; omega
        split
        · simp; omega
        · simp; omega
      rw [if_pos hr]
      dsimp only
      rw [if_pos rfl, dayform_Parse_eq _ _ (by rw [size_mk]; omega) (by omega), lst_mk, parse_show a b c hr]
      simp only [Option.bind_some]
      rw [if_pos trivial, if_neg (by simp)]
    · rw [if_neg hr, if_neg (by decide)]
end Go.Proofs.YtahpmeijinndhaaDoor.P

/-
  The statement DayformTexts: for every input the law answers true, and each argument reads afterwards as it read before; the library's variables hold what the program's text lays.
-/
namespace Go.Proofs.YtahpmeijinndhaaDoor.dayformTexts
open Go.ChangeShapes Go.WideShapes Go.ChangeAt Go.RowKit Go.Lib Go.Proofs.YtahpmeijinndhaaDoor.P
open Go.ChangeMaps (open_string shut_string)
set_option linter.unusedVariables false
theorem own : ownKnob Tryd.prog.godebug = none := by kernel_rfl
theorem laidOut : laidOutB Tryd.prog = true := by kernel_rfl
def layCells (cs : Array Value) : Obj → Obj
  | .cells _ t frozen => .cells cs t frozen
  | o => o
/-- A world for the witness: the settled one, the tables holding what their initialisers lay. -/
noncomputable def laidWorld (os : Os) : World :=
  { World.holding Tryd.prog os ⟨#[], #[], []⟩ with heap := ((((World.holding Tryd.prog os ⟨#[], #[], []⟩).heap).modify 2 (layCells #[.int .u8 0, .int .u8 1, .int .u8 28, .int .u8 2, .int .u8 29, .int .u8 14, .int .u8 24, .int .u8 3, .int .u8 30, .int .u8 22, .int .u8 20, .int .u8 15, .int .u8 25, .int .u8 17, .int .u8 4, .int .u8 8, .int .u8 31, .int .u8 27, .int .u8 13, .int .u8 23, .int .u8 21, .int .u8 19, .int .u8 16, .int .u8 7, .int .u8 26, .int .u8 12, .int .u8 18, .int .u8 6, .int .u8 11, .int .u8 5, .int .u8 10, .int .u8 9])).modify 3 (layCells #[.int .u8 0, .int .u8 1, .int .u8 56, .int .u8 2, .int .u8 57, .int .u8 49, .int .u8 28, .int .u8 3, .int .u8 61, .int .u8 58, .int .u8 42, .int .u8 50, .int .u8 38, .int .u8 29, .int .u8 17, .int .u8 4, .int .u8 62, .int .u8 47, .int .u8 59, .int .u8 36, .int .u8 45, .int .u8 43, .int .u8 51, .int .u8 22, .int .u8 53, .int .u8 39, .int .u8 33, .int .u8 30, .int .u8 24, .int .u8 18, .int .u8 12, .int .u8 5, .int .u8 63, .int .u8 55, .int .u8 48, .int .u8 27, .int .u8 60, .int .u8 41, .int .u8 37, .int .u8 16, .int .u8 46, .int .u8 35, .int .u8 44, .int .u8 21, .int .u8 52, .int .u8 32, .int .u8 23, .int .u8 11, .int .u8 54, .int .u8 26, .int .u8 40, .int .u8 15, .int .u8 34, .int .u8 20, .int .u8 31, .int .u8 10, .int .u8 25, .int .u8 14, .int .u8 19, .int .u8 9, .int .u8 13, .int .u8 8, .int .u8 7, .int .u8 6])).modify 1 (layCells #[.int .u64 1, .int .u64 10, .int .u64 100, .int .u64 1000, .int .u64 10000, .int .u64 100000, .int .u64 1000000, .int .u64 10000000, .int .u64 100000000, .int .u64 1000000000, .int .u64 10000000000, .int .u64 100000000000, .int .u64 1000000000000, .int .u64 10000000000000, .int .u64 100000000000000, .int .u64 1000000000000000, .int .u64 10000000000000000, .int .u64 100000000000000000, .int .u64 1000000000000000000, .int .u64 10000000000000000000]) }
theorem laid_met (os : Os) : laidMet Tryd.prog Rows.dayformTextsRow.laid ((laidWorld os).forCall (fun _ _ => 0) ⟨#[], #[.string ByteArray.empty, .agg #[.int .i64 0, .int .i64 0, .int .i64 0]], []⟩).memory :=
  laidMet_of_run' 8 (by kernel_rfl) (by kernel_rfl)
theorem reads (os : Os) {H : Type} (enc : TypeId × Value → H) : ∃ places, DataW.whole enc Tryd.prog ((laidWorld os).forCall (fun _ _ => 0) ⟨#[], #[.string ByteArray.empty, .agg #[.int .i64 0, .int .i64 0, .int .i64 0]], []⟩).memory Tryd.f3.params.toList Rows.dayformTextsSpec.vars false (#[.string ByteArray.empty, .agg #[.int .i64 0, .int .i64 0, .int .i64 0]] : Array Value).toList 8 = some ([.lit (.string []), .agg [.lit (.int .i64 0), .lit (.int .i64 0), .lit (.int .i64 0)]], [], places) :=
  ⟨[], by kernel_rfl⟩
theorem isPow : Rows.dayformTextsRow.laid.filter (fun x => x.1 == "internal/strconv.uint64pow10") = [("internal/strconv.uint64pow10", Lib.tabData .u64 Lib.pow10Tab)] := by kernel_rfl
set_option maxRecDepth 100000 in
theorem contract (H : Type) (enc : TypeId × Value → H) (W : World) (base : Nat) (args : Array Value) (ds gs : List (DataW H)) (before : List MemPlace)
    (hval : ∀ (j : Nat) t v, Tryd.f3.params[j]? = some t → args[j]? = some v → Value.okWide Tryd.prog W .any base t v)
    (hW : DataW.Whole enc Tryd.prog Tryd.f3.params.toList Rows.dayformTextsSpec.vars false W args.toList ds gs before) (hsz : (DataW.weightsEach Tryd.prog (Tryd.f3.params.toList ++ Rows.dayformTextsSpec.plain.varTypes Tryd.prog) (ds ++ gs)).all (· ≤ reachBytes) = true)
    (hL : laidMetH Tryd.prog Rows.dayformTextsRow.laid W) (hsh : W.ShapedOpen Tryd.prog) :
    Calls Tryd.prog 3 args W fun e W' => ∃ v, e = .returned v ∧ Rows.dayformTextsSpec.post enc Tryd.prog Tryd.f3 false true false false W args v W' := by
  have hW' := hW
  obtain ⟨p, q, hA0, hV, rfl, hfz, hnd⟩ := hW
  have hA : DataW.TrodAll enc Tryd.prog W 0 (fun _ => true) true Tryd.f3.params.toList args.toList ds p := hA0
  rw [Tryd.params3] at hA hval hsz
  obtain ⟨v0, vs0, d0, ds0, p0, q0, hargs, rfl, rfl, h0, r0⟩ := trodAll_cons hA
  obtain ⟨v1, vs1, d1, ds1, p1, q1, rfl, rfl, rfl, h1, r1⟩ := trodAll_cons r0
  obtain ⟨rfl, rfl, rfl⟩ := trodAll_nil r1
  obtain rfl : args = #[v0, v1] := by cases args; simp_all
  obtain ⟨rfl, rfl⟩ := trodVars_none hV
  have k0 := h0
  have lt0 : ∀ x ∈ p0, x.block < W.heap.size := by obtain ⟨m, hm⟩ := k0; exact DataW.trod_lt m _ _ _ hm
  obtain ⟨a0, rfl, hd0, hp0, y0⟩ := open_string Tryd.underlying9 (hval 0 9 v0 rfl rfl) h0
  have w0 : a0.size ≤ 140737488351232 := by
    subst hd0
    have z := sized_string hsz (j := 0) (t := 9) rfl rfl
    rw [Array.length_toList] at z
    exact z
  have k1 := h1
  have lt1 : ∀ x ∈ p1, x.block < W.heap.size := by obtain ⟨m, hm⟩ := k1; exact DataW.trod_lt m _ _ _ hm
  obtain ⟨c1_0, c1_1, c1_2, y1_0, y1_1, y1_2, n1, rfl, hd1, hp1, g1_0, g1_1, g1_2⟩ := Go.Joins.open_agg3 Tryd.underlying23 (by kernel_rfl) (by kernel_rfl) (hval 1 23 v1 rfl rfl) h1
  obtain ⟨a1_0, e1_0, z1_0, w1_0⟩ := DataW.trod_int Tryd.underlying3 g1_0
  obtain rfl := (List.cons.inj e1_0).1
  obtain ⟨a1_1, e1_1, z1_1, w1_1⟩ := DataW.trod_int Tryd.underlying3 g1_1
  obtain rfl := (List.cons.inj e1_1).1
  obtain ⟨a1_2, e1_2, z1_2, w1_2⟩ := DataW.trod_int Tryd.underlying3 g1_2
  obtain rfl := (List.cons.inj e1_2).1
  have back : ∀ W', Below W.heap.size W W' → DataW.TrodAll enc Tryd.prog W' 0 (fun b => decide (b < W.heap.size)) true _ _ _ _ := fun W' bel => (trodAll_cons_mk (Below.trod laidOut (by kernel_rfl) (of_decide_eq_true (by kernel_rfl)) k0 bel lt0) (trodAll_cons_mk (Below.trod laidOut (by kernel_rfl) (of_decide_eq_true (by kernel_rfl)) k1 bel lt1) trodAll_mk0))
  clear hA0
  refine (noonmarklaw06_DayformTexts.calls 1000 a0 a1_0 a1_1 a1_2 true W (GOK.of_laid hsh hL (by kernel_rfl) Tryd.underlying73 (by kernel_rfl) isPow) (Texts a0 a1_0 a1_1 a1_2 w1_1)).mono fun e W' ⟨he, hb⟩ => ?_
  subst he
  have bel : Below W.heap.size W W' := by first | exact hb | exact hb.below
  exact ⟨_, rfl, _, _, _, [], _, [], hW', trodAll_mk1 (shut_bool Tryd.underlying4 _), back W' bel, rfl, bel.frame _, fun h => by cases h⟩
set_option maxRecDepth 100000 in
theorem lifted (os : Os) (started : os.Started) (H : Type) (enc : TypeId × Value → H) (F : Stop.Interp) :
    ReturnsInHanded {} Tryd.checked os 3 .any ((OpenSpec.ofChange Rows.dayformTextsSpec).preRow enc Tryd.prog Tryd.f3 Rows.dayformTextsRow.domain false Rows.dayformTextsRow.laid) (((OpenSpec.ofChange Rows.dayformTextsSpec).at F).post enc Tryd.prog Tryd.f3 false true false false) := by
  obtain ⟨places, hx⟩ := reads os enc
  refine returnsInHanded_of_row (C := Tryd.checked) (s := OpenSpec.ofChange Rows.dayformTextsSpec) own started (by kernel_rfl) Tryd.func3
    (witness_row_at (enc := enc) (C := Tryd.checked) false (laidWorld os) #[.string ByteArray.empty, .agg #[.int .i64 0, .int .i64 0, .int .i64 0]] rfl (by kernel_rfl) (by kernel_rfl) (by kernel_rfl)
      (OpenSpec.preRow_of_cond 8 hx (by kernel_rfl) (fun k hk => by cases hk) (by kernel_rfl) (laid_met os))) ?_
  intro W base args ds gs before hval hW _ _ hsz hL hsh _
  exact contract H enc W base args ds gs before hval hW hsz hL hsh
theorem said : Rows.DayformTextsSaid :=
  OpenClaim.holds_of_cond 3 Tryd.f3 rfl rfl rfl rfl rfl rfl rfl ⟨rfl, rfl, rfl, rfl, rfl⟩ rfl rfl rfl rfl rfl (by kernel_rfl) Tryd.func3 (by kernel_rfl)
    (of_decide_eq_true (by kernel_rfl)) (by unfold Func.isWrapper; first | (rw [if_pos (by decide +kernel)]; kernel_rfl) | (rw [if_neg (by decide +kernel)]; exact ⟨rfl, rfl⟩))
    (fun os started H enc _ F => by rw [OpenClaim.pre_eq_preRow]; exact lifted os started H enc F)
theorem plain (f : FuncId) (fn : Func) (hf : Tryd.pinned.checked.prog.funcNamed "noonmark/noonmarklaw06.DayformTexts" = some f) (hfn : Tryd.pinned.checked.prog.funcs[f]? = some fn) :
    false = Tryd.pinned.checked.prog.looks [] ∧ ∀ (j : Nat) t, fn.params[j]? = some t → Tryd.pinned.checked.prog.wantsStandIn t = false := by
  obtain rfl : f = 3 := Option.some.inj ((show Tryd.prog.funcNamed "noonmark/noonmarklaw06.DayformTexts" = some 3 by kernel_rfl).symm.trans hf) |>.symm
  obtain rfl : fn = Tryd.f3 := (Option.some.inj (Tryd.func3.symm.trans hfn)).symm
  refine ⟨by kernel_rfl, fun j t ht => ?_⟩
  rw [Tryd.params3] at ht
  have hm : t = 9 ∨ t = 23 := by simpa using Array.mem_of_getElem? ht
  rcases hm with rfl | rfl
  all_goals
    first
      | exact (show Tryd.prog.wantsStandIn 9 = false by kernel_rfl)
      | exact (show Tryd.prog.wantsStandIn 23 = false by kernel_rfl)
theorem proved : Rows.DayformTextsCardSaid :=
  Claim7.holds_tied_plain_at .later [] _ _ _ _ said (fun _ h => by cases h) (by kernel_rfl) (fun _ h => by cases h) dayformTexts_row_tie rfl ⟨rfl, rfl⟩ (by kernel_rfl) rfl plain (by kernel_rfl)
#print axioms proved
end Go.Proofs.YtahpmeijinndhaaDoor.dayformTexts
namespace Go.Proofs.YtahpmeijinndhaaDoor
/-- The row, under a short name, for the claim. -/
theorem dayformTexts_holds : Rows.DayformTextsCardSaid := dayformTexts.proved
end Go.Proofs.YtahpmeijinndhaaDoor
