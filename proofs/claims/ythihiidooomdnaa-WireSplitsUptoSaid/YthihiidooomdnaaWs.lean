/-
  The document's answer for a stream, over bytes, and that the splitter comes to the same.
-/
import Derived.Test.YthihiidooomdnaaWp
namespace Go.Proofs.Ythihiidooomdnaa.D
set_option linter.unusedVariables false
set_option linter.unusedSimpArgs false
/-- The digits at the begin: was one too many, or behind a 0; the number; where. -/
def scan : List Int → Int → Nat → Bool × Int × Nat
  | [], n, at_ => (false, n, at_)
  | c :: t, n, at_ => if 48 ≤ c ∧ c ≤ 57 then (if at_ = 5 ∨ (0 < at_ ∧ n = 0) then (true, n, at_) else scan t (n * 10 + (c - 48)) (at_ + 1)) else (false, n, at_)
def first (b : List Int) : Int × Nat × List Int :=
  let r := scan b 0 0
  if r.1 = true then (2, r.2.2, [])
  else if r.2.2 = b.length then (0, 0, [])
  else if r.2.2 = 0 ∨ b.getD r.2.2 0 ≠ 58 ∨ 20000 < r.2.1 then (2, r.2.2, [])
  else if ((b.length : Int) - (r.2.2 + 1)) ≤ r.2.1 then (0, 0, [])
  else if b.getD (r.2.2 + 1 + r.2.1.toNat) 0 ≠ 10 then (2, r.2.2 + 1 + r.2.1.toNat, [])
  else (1, r.2.2 + 1 + r.2.1.toNat + 1, (b.drop (r.2.2 + 1)).take r.2.1.toNat)
/-- Where the next line feed is, from a place on. -/
def skipTo (b : List Int) (i : Nat) : Nat := i + ((b.drop i).takeWhile fun c => c ≠ 10).length
def rsplit : Nat → List Int → List It → List It × List Int
  | 0, b, out => (out, [])
  | k + 1, b, out =>
    if b = [] then (out, [])
    else
      let f := first b
      if f.1 = 0 then (out, b)
      else if f.1 = 1 then rsplit k (b.drop f.2.1) (out ++ [⟨false, f.2.2⟩])
      else if skipTo b f.2.1 = b.length then (out ++ [⟨true, []⟩], [])
      else rsplit k (b.drop (skipTo b f.2.1 + 1)) (out ++ [⟨true, []⟩])
theorem scan_run (t : List Int) : ∀ (held : List Int) (n : Int) (out : List It), held.length ≤ 5 →
    ∃ ds rest, t = ds ++ rest ∧ (scan t n held.length).2.2 = held.length + ds.length ∧ held.length + ds.length ≤ 5 ∧
      (Sp.run ⟨0, held, n, 0, out⟩ t = Sp.run ⟨0, held ++ ds, (scan t n held.length).2.1, 0, out⟩ rest) ∧
      ((scan t n held.length).1 = true → ∃ c r, rest = c :: r ∧ 48 ≤ c ∧ c ≤ 57 ∧ ((held ++ ds).length = 5 ∨ (0 < (held ++ ds).length ∧ (scan t n held.length).2.1 = 0))) ∧
      ((scan t n held.length).1 = false → ∀ c r, rest = c :: r → ¬ (48 ≤ c ∧ c ≤ 57)) := by
  induction t with
  | nil =>
    intro held n out h5
    exact ⟨[], [], rfl, by simp [scan], by simpa using h5, by simp [scan], fun h => (by simp [scan] at h), fun _ c r h => (by cases h)⟩
  | cons c t ih =>
    intro held n out h5
    by_cases hd : 48 ≤ c ∧ c ≤ 57
    · by_cases hb : held.length = 5 ∨ (0 < held.length ∧ n = 0)
      · have e : scan (c :: t) n held.length = (true, n, held.length) := by unfold scan; rw [if_pos hd, if_pos hb]
        rw [e]
        exact ⟨[], c :: t, rfl, by simp, by simpa using h5, by simp, fun _ => ⟨c, t, rfl, hd.1, hd.2, by simpa using hb⟩, fun h => (by cases h)⟩
      · have e : scan (c :: t) n held.length = scan t (n * 10 + (c - 48)) (held.length + 1) := by
          show (if 48 ≤ c ∧ c ≤ 57 then (if held.length = 5 ∨ (0 < held.length ∧ n = 0) then (true, n, held.length) else scan t (n * 10 + (c - 48)) (held.length + 1)) else (false, n, held.length)) = _
          rw [if_pos hd, if_neg hb]
        have hl : (held ++ [c]).length = held.length + 1 := by simp
        obtain ⟨ds, rest, p1, p2, p3, p4, p5, p6⟩ := ih (held ++ [c]) (n * 10 + (c - 48)) out (by rw [hl]; omega)
        rw [hl] at p2 p3 p4 p5 p6
        rw [e]
        refine ⟨c :: ds, rest, by rw [p1]; rfl, by rw [p2]; simp; omega, by simp only [List.length_cons]; omega, ?_, ?_, p6⟩
        · have es : (⟨0, held, n, 0, out⟩ : Sp).step c = ⟨0, held ++ [c], n * 10 + (c - 48), 0, out⟩ := by
            unfold Sp.step
            rw [if_neg (by simp), if_neg (by simp)]
            unfold Sp.digit
            rw [if_pos hd, if_neg hb]
          show Sp.run ((⟨0, held, n, 0, out⟩ : Sp).step c) t = _
          rw [es, p4]
          simp
        · intro h
          obtain ⟨c', r, q1, q2, q3, q4⟩ := p5 h
          exact ⟨c', r, q1, q2, q3, by simpa using q4⟩
    · have e : scan (c :: t) n held.length = (false, n, held.length) := by unfold scan; rw [if_neg hd]
      rw [e]
      exact ⟨[], c :: t, rfl, by simp, by simpa using h5, by simp, fun h => (by cases h), fun _ c' r h => (by cases h; exact hd)⟩
/-- A bad place: what comes up to a line feed is left out. -/
theorem skip_run (out : List It) : ∀ t : List Int, Sp.run ⟨2, [], 0, 0, out⟩ t = if (t.takeWhile fun c => c ≠ 10).length = t.length then ⟨2, [], 0, 0, out⟩ else Sp.run ⟨0, [], 0, 0, out⟩ (t.drop ((t.takeWhile fun c => c ≠ 10).length + 1)) := by
  intro t
  induction t with
  | nil => rfl
  | cons c t ih =>
    by_cases hc : c = 10
    · subst hc
      have es : (⟨2, [], 0, 0, out⟩ : Sp).step 10 = ⟨0, [], 0, 0, out⟩ := rfl
      show Sp.run ((⟨2, [], 0, 0, out⟩ : Sp).step 10) t = _
      rw [es]
      simp
    · have es : (⟨2, [], 0, 0, out⟩ : Sp).step c = ⟨2, [], 0, 0, out⟩ := by simp [Sp.step, Sp.pass, hc]
      show Sp.run ((⟨2, [], 0, 0, out⟩ : Sp).step c) t = _
      rw [es, ih]
      simp [List.takeWhile_cons, hc]
theorem bad_run_pure (c : Int) (t : List Int) (s : Sp) : Sp.run (s.bad c) t = if ((c :: t).takeWhile fun c => c ≠ 10).length = (c :: t).length then ⟨2, [], 0, 0, s.out ++ [⟨true, []⟩]⟩ else Sp.run ⟨0, [], 0, 0, s.out ++ [⟨true, []⟩]⟩ ((c :: t).drop (((c :: t).takeWhile fun c => c ≠ 10).length + 1)) := by
  by_cases hc : c = 10
  · have : s.bad c = ⟨0, [], 0, 0, s.out ++ [⟨true, []⟩]⟩ := by simp [Sp.bad, hc, Sp.begin]
    rw [this]
    simp [hc]
  · have : s.bad c = ⟨2, [], 0, 0, s.out ++ [⟨true, []⟩]⟩ := by simp [Sp.bad, hc, Sp.begin]
    rw [this, skip_run]
    simp [List.takeWhile_cons, hc]
/-- A body: so many bytes are held. -/
theorem body_run (out : List It) (n : Int) : ∀ (t held : List Int) (want : Nat), Sp.run ⟨1, held, n, want, out⟩ t = Sp.run ⟨1, held ++ t.take want, n, (want - t.length : Nat), out⟩ (t.drop want) := by
  intro t
  induction t with
  | nil => intro held want; simp
  | cons c t ih =>
    intro held want
    cases want with
    | zero => simp
    | succ w =>
      have es : (⟨1, held, n, ((w + 1 : Nat) : Int), out⟩ : Sp).step c = ⟨1, held ++ [c], n, (w : Int), out⟩ := by
        unfold Sp.step
        rw [if_pos (by rfl)]
        unfold Sp.byte
        rw [if_pos (by simp only; omega)]
        simp only [Sp.mk.injEq, true_and, and_true]
        omega
      show Sp.run ((⟨1, held, n, ((w + 1 : Nat) : Int), out⟩ : Sp).step c) t = _
      rw [es, ih]
      simp
theorem scan_nonneg (t : List Int) : ∀ (n : Int) (a : Nat), 0 ≤ n → 0 ≤ (scan t n a).2.1 := by
  induction t with
  | nil => intro n a h; exact h
  | cons c t ih =>
    intro n a h
    unfold scan
    split
    · split
      · exact h
      · exact ih _ _ (by omega)
    · exact h
def At2 (q : List It × List Int) (s : Sp) : Prop := s.out = q.1 ∧ s.held = q.2
theorem split_bad {k : Nat} (ih : ∀ (b : List Int) (out : List It), b.length ≤ k → At2 (rsplit k b out) (Sp.run ⟨0, [], 0, 0, out⟩ b)) {b : List Int} (hb : b.length ≤ k + 1) (hne : b ≠ []) (out : List It) {i : Nat} {c : Int} {r : List Int} (hd : b.drop i = c :: r) (hf : first b = (2, i, [])) {s : Sp} (ho : s.out = out) :
    At2 (rsplit (k + 1) b out) (Sp.run (s.bad c) r) := by
  have hlen : i + (c :: r).length = b.length := by
    have := congrArg List.length hd
    rw [List.length_drop] at this
    simp only [List.length_cons] at this ⊢
    omega
  have hs : skipTo b i = i + ((c :: r).takeWhile fun c => c ≠ 10).length := by unfold skipTo; rw [hd]
  rw [bad_run_pure, ho]
  unfold rsplit
  rw [if_neg hne]
  simp only [hf]
  rw [if_neg (by omega), if_neg (by omega), hs]
  by_cases e : ((c :: r).takeWhile fun c => c ≠ 10).length = (c :: r).length
  · rw [if_pos e, if_pos (by omega)]
    exact ⟨rfl, rfl⟩
  · rw [if_neg e, if_neg (by omega)]
    have h1 : b.drop (i + ((c :: r).takeWhile fun c => c ≠ 10).length + 1) = (c :: r).drop (((c :: r).takeWhile fun c => c ≠ 10).length + 1) := by
      rw [← hd, List.drop_drop]
      congr 1
    rw [h1]
    exact ih _ _ (by rw [List.length_drop]; simp only [List.length_cons] at hlen ⊢; omega)
theorem split_same : ∀ (k : Nat) (b : List Int) (out : List It), b.length ≤ k → At2 (rsplit k b out) (Sp.run ⟨0, [], 0, 0, out⟩ b) := by
  intro k
  induction k with
  | zero =>
    intro b out h
    have : b = [] := List.eq_nil_of_length_eq_zero (by omega)
    subst this
    exact ⟨rfl, rfl⟩
  | succ k ih =>
    intro b out hb
    by_cases hne : b = []
    · subst hne; exact ⟨rfl, rfl⟩
    obtain ⟨ds, rest, p1, p2, p3, p4, p5, p6⟩ := scan_run b [] 0 out (by simp)
    simp only [List.length_nil, Nat.zero_add, List.nil_append] at p2 p3 p4 p5 p6
    have hn0 := scan_nonneg b 0 0 (Int.le_refl _)
    have hbl : b.length = ds.length + rest.length := by rw [p1]; simp
    have hdrop : b.drop ds.length = rest := by rw [p1]; simp
    rw [p4]
    generalize hsc : scan b 0 0 = sc at p2 p3 p5 p6 hn0
    obtain ⟨bd, n, at_⟩ := sc
    simp only at p2 p5 p6 hn0
    subst p2
    have hgn : (scan b 0 0).2.1 = n := by rw [hsc]
    cases bd with
    | true =>
      obtain ⟨c, r, rfl, h1, h2, h3⟩ := p5 rfl
      have es : (⟨0, ds, n, 0, out⟩ : Sp).step c = (⟨0, ds, n, 0, out⟩ : Sp).bad c := by
        unfold Sp.step
        rw [if_neg (by simp), if_neg (by simp)]
        unfold Sp.digit
        rw [if_pos ⟨h1, h2⟩, if_pos h3]
      show At2 _ (Sp.run ((⟨0, ds, n, 0, out⟩ : Sp).step c) r)
      rw [es]
      exact split_bad ih hb hne out hdrop (by unfold first; rw [hsc]; rfl) rfl
    | false =>
      have hnd := p6 rfl
      cases rest with
      | nil =>
        simp only [List.append_nil] at p1
        have hf : first b = (0, 0, []) := by
          unfold first
          rw [hsc]
          simp only []
          rw [if_neg (by simp), if_pos (by simp at hbl; omega)]
        unfold rsplit
        rw [if_neg hne]
        simp only [hf, if_true]
        exact ⟨rfl, p1.symm⟩
      | cons c r =>
        have hcd := hnd c r rfl
        have hge : b.getD ds.length 0 = c := by rw [p1]; simp [List.getD]
        have hlt : ds.length ≠ b.length := by simp only [List.length_cons] at hbl; omega
        by_cases hbad : ds.length = 0 ∨ c ≠ 58 ∨ 20000 < n
        · have es : (⟨0, ds, n, 0, out⟩ : Sp).step c = (⟨0, ds, n, 0, out⟩ : Sp).bad c := by
            unfold Sp.step
            rw [if_neg (by simp), if_neg (by simp)]
            unfold Sp.digit
            rw [if_neg hcd, if_pos (by simp only; omega)]
          show At2 _ (Sp.run ((⟨0, ds, n, 0, out⟩ : Sp).step c) r)
          rw [es]
          refine split_bad ih hb hne out hdrop ?_ rfl
          unfold first
          rw [hsc]
          simp only []
          rw [if_neg (by simp), if_neg hlt, if_pos (by rw [hge]; exact hbad)]
        · simp only [not_or, Decidable.not_not] at hbad
          obtain ⟨q1, rfl, q3⟩ := hbad
          have es : (⟨0, ds, n, 0, out⟩ : Sp).step 58 = ⟨1, ds ++ [58], n, n, out⟩ := by
            unfold Sp.step
            rw [if_neg (by simp), if_neg (by simp)]
            unfold Sp.digit
            rw [if_neg hcd, if_neg (by simp only; omega)]
          show At2 _ (Sp.run ((⟨0, ds, n, 0, out⟩ : Sp).step 58) r)
          rw [es]
          obtain ⟨N, rfl⟩ := Int.eq_ofNat_of_zero_le hn0
          have hbr := body_run out (N : Int) r (ds ++ [58]) N
          have hrw : (⟨1, ds ++ [58], (N : Int), (N : Int), out⟩ : Sp).run r = _ := hbr
          rw [hrw]
          have hfirst : first b = if ((b.length : Int) - (ds.length + 1)) ≤ (N : Int) then (0, 0, []) else if b.getD (ds.length + 1 + N) 0 ≠ 10 then (2, ds.length + 1 + N, []) else (1, ds.length + 1 + N + 1, (b.drop (ds.length + 1)).take N) := by
            unfold first
            rw [hsc]
            simp only []
            rw [if_neg (by simp), if_neg hlt, if_neg (by rw [hge]; omega)]
            simp
          simp only [List.length_cons] at hbl
          have hd1 : b.drop (ds.length + 1) = r := by
            have : b.drop (ds.length + 1) = (b.drop ds.length).drop 1 := by rw [List.drop_drop]
            rw [this, hdrop]; rfl
          by_cases hle : r.length ≤ N
          · rw [List.drop_eq_nil_of_le hle, List.take_of_length_le hle]
            have hf : first b = (0, 0, []) := by rw [hfirst, if_pos (by omega)]
            unfold rsplit
            rw [if_neg hne]
            simp only [hf, if_true]
            refine ⟨rfl, ?_⟩
            show ds ++ [58] ++ r = b
            rw [p1]; simp
          · have hN : N < r.length := by omega
            have hd2 : b.drop (ds.length + 1 + N) = r[N] :: r.drop (N + 1) := by
              have : b.drop (ds.length + 1 + N) = (b.drop (ds.length + 1)).drop N := by rw [List.drop_drop]
              rw [this, hd1]
              exact List.drop_eq_getElem_cons hN
            have hg2 : b.getD (ds.length + 1 + N) 0 = r[N] := by
              have h1 := congrArg (fun l => l[0]?) hd2
              simp only [List.getElem?_drop, Nat.add_zero, List.getElem?_cons_zero] at h1
              simp [List.getD, h1]
            rw [List.drop_eq_getElem_cons hN]
            have hw0 : ((N - r.length : Nat) : Int) = 0 := by omega
            rw [hw0]
            show At2 _ (Sp.run ((⟨1, ds ++ [58] ++ r.take N, (N : Int), 0, out⟩ : Sp).step r[N]) (r.drop (N + 1)))
            by_cases h10 : r[N] = 10
            · have es2 : (⟨1, ds ++ [58] ++ r.take N, (N : Int), 0, out⟩ : Sp).step r[N] = ⟨0, [], 0, 0, out ++ [⟨false, r.take N⟩]⟩ := by
                unfold Sp.step
                rw [if_pos rfl]
                unfold Sp.byte
                rw [if_neg (by simp), if_neg (by simp [h10])]
                have : (ds ++ [58] ++ r.take N).drop ((ds ++ [58] ++ r.take N).length - ((N : Int)).toNat) = r.take N := by
                  have e1 : (ds ++ [58] ++ r.take N).length - ((N : Int)).toNat = (ds ++ [58]).length := by
                    simp only [List.length_append, List.length_take, Int.toNat_natCast]
                    omega
                  rw [e1, List.drop_left]
                simp only [Sp.begin, this]
              rw [es2]
              have hf : first b = (1, ds.length + 1 + N + 1, r.take N) := by
                rw [hfirst, if_neg (by omega), if_neg (by rw [hg2, h10]; simp), hd1]
              unfold rsplit
              rw [if_neg hne]
              simp only [hf]
              rw [if_neg (by omega), if_pos trivial]
              have hd3 : b.drop (ds.length + 1 + N + 1) = r.drop (N + 1) := by
                have : b.drop (ds.length + 1 + N + 1) = (b.drop (ds.length + 1)).drop (N + 1) := by rw [List.drop_drop]; rfl
                rw [this, hd1]
              rw [hd3]
              exact ih _ _ (by rw [List.length_drop]; omega)
            · have es2 : (⟨1, ds ++ [58] ++ r.take N, (N : Int), 0, out⟩ : Sp).step r[N] = (⟨1, ds ++ [58] ++ r.take N, (N : Int), 0, out⟩ : Sp).bad r[N] := by
                unfold Sp.step
                rw [if_pos rfl]
                unfold Sp.byte
                rw [if_neg (by simp), if_pos h10]
              rw [es2]
              refine split_bad ih hb hne out hd2 ?_ rfl
              rw [hfirst, if_neg (by omega), if_pos (by rw [hg2]; exact h10)]
end Go.Proofs.Ythihiidooomdnaa.D
