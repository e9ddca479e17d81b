import Derived.Test.YtpibenilagloaaaGreatDoorProg
import Derived.Test.YtpibenilagloaaaGreatDoorMxaa
/-
  Semantic tokens, plain: what Encode and Decode compute, and that each undoes the other.
-/
namespace Go.Proofs.YtpibenilagloaaaGreatDoor
set_option linter.unusedVariables false
set_option linter.unusedSimpArgs false

structure TokS where
  s : Int
  l : Int
  k : Int
instance : Inhabited TokS := ⟨⟨0, 0, 0⟩⟩
structure TokD where
  dl : Int
  ds : Int
  l : Int
  k : Int
instance : Inhabited TokD := ⟨⟨0, 0, 0, 0⟩⟩
/-- the newlines of a text -/
def nlC (a : List UInt8) : Nat := a.count 10
/-- the bytes behind the last newline -/
def trail : List UInt8 → Nat
  | [] => 0
  | c :: a => if nlC a = 0 then (if c = 10 then a.length else a.length + 1) else trail a
def lsFrom : Nat → List UInt8 → List Nat
  | _, [] => []
  | i, c :: r => if c = 10 then (i + 1) :: lsFrom (i + 1) r else lsFrom (i + 1) r
/-- where the lines start -/
def lineStartsL (l : List UInt8) : List Nat := 0 :: lsFrom 0 l
theorem nlC_cons (c : UInt8) (a : List UInt8) : nlC (c :: a) = nlC a + if c = 10 then 1 else 0 := by
  unfold nlC
  rw [List.count_cons]
  simp
theorem nlC_append (a b : List UInt8) : nlC (a ++ b) = nlC a + nlC b := List.count_append
theorem trail_append (a b : List UInt8) (h : nlC b ≠ 0) : trail (a ++ b) = trail b := by
  induction a with
  | nil => rfl
  | cons c a ih => rw [List.cons_append, trail, if_neg (by rw [nlC_append]; omega), ih]
theorem trail_le (a : List UInt8) : trail a ≤ a.length := by
  induction a with
  | nil => simp [trail]
  | cons c a ih =>
    unfold trail
    split
    · split <;> simp
    · simp; omega
theorem trail_none (a : List UInt8) (h : nlC a = 0) : trail a = a.length := by
  cases a with
  | nil => rfl
  | cons c a =>
    rw [nlC_cons] at h
    have h1 : nlC a = 0 := by omega
    have h2 : c ≠ 10 := by intro e; rw [if_pos e] at h; omega
    unfold trail
    rw [if_pos h1, if_neg h2]
    simp
theorem lsFrom_len : ∀ (l : List UInt8) (i : Nat), (lsFrom i l).length = nlC l
  | [], i => rfl
  | c :: r, i => by
    rw [lsFrom, nlC_cons]
    split
    · rw [List.length_cons, lsFrom_len r]
    · rw [lsFrom_len r]; rfl
theorem lsFrom_gt : ∀ (l : List UInt8) (i : Nat), ∀ x ∈ lsFrom i l, i < x ∧ x ≤ i + l.length
  | [], i, x, h => by simp [lsFrom] at h
  | c :: r, i, x, h => by
    rw [lsFrom] at h
    simp only [List.length_cons]
    split at h
    · rcases List.mem_cons.1 h with rfl | h
      · omega
      · have := lsFrom_gt r (i + 1) x h; omega
    · have := lsFrom_gt r (i + 1) x h; omega
theorem ls_inc : ∀ (l : List UInt8) (i s0 : Nat), s0 ≤ i → (s0 :: lsFrom i l).Pairwise (· < ·)
  | [], i, s0, h => by simp [lsFrom]
  | c :: r, i, s0, h => by
    rw [lsFrom]
    split
    · rw [List.pairwise_cons]
      refine ⟨fun x hx => ?_, ls_inc r (i + 1) (i + 1) (Nat.le_refl _)⟩
      rcases List.mem_cons.1 hx with rfl | hx
      · omega
      · have := (lsFrom_gt r (i + 1) x hx).1; omega
    · exact ls_inc r (i + 1) s0 (by omega)
theorem ls_at : ∀ (l : List UInt8) (i s0 p : Nat), i ≤ p → p ≤ i + l.length → (s0 :: lsFrom i l)[nlC (l.take (p - i))]? = some (if nlC (l.take (p - i)) = 0 then s0 else p - trail (l.take (p - i)))
  | [], i, s0, p, h1, h2 => by simp [lsFrom, nlC]
  | c :: r, i, s0, p, h1, h2 => by
    by_cases hp : p = i
    · subst hp
      simp [nlC]
    · obtain ⟨d, hd⟩ : ∃ d, p - i = d + 1 := ⟨p - i - 1, by omega⟩
      have hd' : p - (i + 1) = d := by omega
      simp only [List.length_cons] at h2
      rw [hd, List.take_succ_cons, nlC_cons]
      have hl : (r.take d).length = d := by rw [List.length_take]; omega
      by_cases hc : c = 10
      · have ih := ls_at r (i + 1) (i + 1) p (by omega) (by omega)
        rw [hd'] at ih
        rw [if_pos hc, if_neg (by omega), lsFrom, if_pos hc, List.getElem?_cons_succ, ih, trail]
        by_cases h0 : nlC (r.take d) = 0
        · rw [if_pos h0, if_pos h0, if_pos hc, hl]
          congr 1; omega
        · rw [if_neg h0, if_neg h0]
      · have ih := ls_at r (i + 1) s0 p (by omega) (by omega)
        rw [hd'] at ih
        rw [if_neg hc, Nat.add_zero, lsFrom, if_neg hc, ih]
        by_cases h0 : nlC (r.take d) = 0
        · rw [if_pos h0, if_pos h0]
        · rw [if_neg h0, if_neg h0, trail, if_neg h0]
theorem ls_next : ∀ (l : List UInt8) (i s0 p : Nat), i ≤ p → p ≤ i + l.length → ∀ x, (s0 :: lsFrom i l)[nlC (l.take (p - i)) + 1]? = some x → p < x
  | [], i, s0, p, h1, h2, x, hx => by simp [lsFrom] at hx
  | c :: r, i, s0, p, h1, h2, x, hx => by
    by_cases hp : p = i
    · subst hp
      simp only [Nat.sub_self, List.take_zero, nlC, List.count_nil, List.getElem?_cons_succ] at hx
      have := lsFrom_gt (c :: r) p x (List.mem_of_getElem? hx)
      omega
    · obtain ⟨d, hd⟩ : ∃ d, p - i = d + 1 := ⟨p - i - 1, by omega⟩
      have hd' : p - (i + 1) = d := by omega
      simp only [List.length_cons] at h2
      rw [hd, List.take_succ_cons, nlC_cons, lsFrom] at hx
      by_cases hc : c = 10
      · rw [if_pos hc, if_pos hc, List.getElem?_cons_succ] at hx
        exact ls_next r (i + 1) (i + 1) p (by omega) (by omega) x (by rw [hd']; exact hx)
      · rw [if_neg hc, if_neg hc, Nat.add_zero] at hx
        exact ls_next r (i + 1) s0 p (by omega) (by omega) x (by rw [hd']; exact hx)
/-- the line of a place -/
def lineOf (l : List UInt8) (p : Nat) : Nat := nlC (l.take p)
theorem lineOf_lt (l : List UInt8) (p : Nat) : lineOf l p < (lineStartsL l).length := by
  unfold lineOf lineStartsL
  rw [List.length_cons, lsFrom_len]
  have := nlC_append (l.take p) (l.drop p)
  rw [List.take_append_drop] at this
  omega
theorem start_at (l : List UInt8) (p : Nat) (hp : p ≤ l.length) : (lineStartsL l)[lineOf l p]? = some (p - trail (l.take p)) := by
  have h := ls_at l 0 0 p (Nat.zero_le _) (by omega)
  rw [Nat.sub_zero] at h
  unfold lineStartsL lineOf
  rw [h]
  split
  · next h0 =>
    rw [trail_none _ h0, List.length_take]
    congr 1; omega
  · rfl
theorem next_gt (l : List UInt8) (p x : Nat) (hp : p ≤ l.length) (h : (lineStartsL l)[lineOf l p + 1]? = some x) : p < x :=
  ls_next l 0 0 p (Nat.zero_le _) (by omega) x (by rw [Nat.sub_zero]; exact h)
theorem starts_inc {l : List UInt8} {i j x y : Nat} (hij : i < j) (hx : (lineStartsL l)[i]? = some x) (hy : (lineStartsL l)[j]? = some y) : x < y := by
  have h := ls_inc l 0 0 (Nat.le_refl _)
  rw [List.pairwise_iff_getElem] at h
  obtain ⟨a, rfl⟩ := List.getElem?_eq_some_iff.1 hx
  obtain ⟨b, rfl⟩ := List.getElem?_eq_some_iff.1 hy
  exact h i j a b hij
theorem starts_le {l : List UInt8} {i j x y : Nat} (hij : i ≤ j) (hx : (lineStartsL l)[i]? = some x) (hy : (lineStartsL l)[j]? = some y) : x ≤ y := by
  rcases Nat.lt_or_ge i j with h | h
  · exact Nat.le_of_lt (starts_inc h hx hy)
  · obtain rfl : i = j := by omega
    rw [hx] at hy; injection hy with hy; omega
/-- a place between two starts of lines -/
theorem line_of_bounds {l : List UInt8} {k s x : Nat} (hs : s ≤ l.length) (hk : (lineStartsL l)[k]? = some x) (h1 : x ≤ s) (h2 : ∀ y, (lineStartsL l)[k + 1]? = some y → s < y) : lineOf l s = k := by
  have ha := start_at l s hs
  have hlt := lineOf_lt l s
  have hkl : k < (lineStartsL l).length := (List.getElem?_eq_some_iff.1 hk).1
  rcases Nat.lt_trichotomy (lineOf l s) k with h | h | h
  · exfalso
    obtain ⟨z, hz⟩ : ∃ z, (lineStartsL l)[lineOf l s + 1]? = some z := ⟨_, List.getElem?_eq_getElem (by omega)⟩
    have h3 := next_gt l s z hs hz
    have h4 := starts_le (by omega : lineOf l s + 1 ≤ k) hz hk
    omega
  · exact h
  · exfalso
    obtain ⟨z, hz⟩ : ∃ z, (lineStartsL l)[k + 1]? = some z := ⟨_, List.getElem?_eq_getElem (by omega)⟩
    have h3 := h2 z hz
    have h4 := starts_le (by omega : k + 1 ≤ lineOf l s) hz ha
    omega
/-- tokens that lie in a text of n bytes, in order -/
def valL (n : Int) : Int → List TokS → Bool
  | _, [] => true
  | e, t :: r => if t.s < e ∨ n < t.s ∨ t.l < 1 ∨ n - t.s < t.l then false else valL n (t.s + t.l) r
def gapL (l : List UInt8) (q p : Nat) : List UInt8 := (l.take p).drop q
def dsL (g : List UInt8) : Nat := if 0 < nlC g then trail g else g.length
def deltaL (g : List UInt8) (t : TokS) : TokD := ⟨nlC g, dsL g, t.l, t.k⟩
def encL (l : List UInt8) : Nat → List TokS → List TokD
  | _, [] => []
  | q, t :: r => deltaL (gapL l q t.s.toNat) t :: encL l t.s.toNat r
/-- the place that a difference means -/
def ptL (st : List Nat) (line start : Int) (d : TokD) : Int := (if 0 < d.dl then ((st.getD (line + d.dl).toNat 0 : Nat) : Int) else start) + d.ds
def decL (st : List Nat) (n : Int) : Int → Int → List TokD → Option (List TokS)
  | _, _, [] => some []
  | line, start, d :: r =>
    if d.dl < 0 ∨ (st.length : Int) - line ≤ d.dl ∨ d.ds < 0 ∨ n < d.ds then none
    else
      if line + d.dl + 1 < st.length ∧ ((st.getD (line + d.dl + 1).toNat 0 : Nat) : Int) ≤ ptL st line start d then none
      else (decL st n (line + d.dl) (ptL st line start d) r).map (⟨ptL st line start d, d.l, d.k⟩ :: ·)
theorem gap_line (l : List UInt8) {q p : Nat} (h : q ≤ p) : lineOf l p = lineOf l q + nlC (gapL l q p) := by
  unfold lineOf gapL
  have h1 : l.take p = l.take q ++ (l.take p).drop q := by
    have := List.take_append_drop q (l.take p)
    rw [List.take_take, Nat.min_eq_left h] at this
    exact this.symm
  conv => lhs; rw [h1]
  rw [nlC_append]
theorem gap_trail (l : List UInt8) {q p : Nat} (h : q ≤ p) (h0 : nlC (gapL l q p) ≠ 0) : trail (gapL l q p) = trail (l.take p) := by
  unfold gapL at *
  have h1 : l.take p = l.take q ++ (l.take p).drop q := by
    have := List.take_append_drop q (l.take p)
    rw [List.take_take, Nat.min_eq_left h] at this
    exact this.symm
  conv => rhs; rw [h1]
  rw [trail_append _ _ h0]
theorem gap_len (l : List UInt8) {q p : Nat} (hp : p ≤ l.length) : (gapL l q p).length = p - q := by
  unfold gapL
  rw [List.length_drop, List.length_take]; omega
theorem getD_of {st : List Nat} {i x : Nat} (h : st[i]? = some x) : st.getD i 0 = x := by
  rw [List.getD_eq_getElem?_getD, h]; rfl
theorem dec_enc (l : List UInt8) : ∀ (ts : List TokS) (q : Nat) (e : Int), (q : Int) ≤ e → q ≤ l.length → valL l.length e ts = true → decL (lineStartsL l) l.length (lineOf l q) q (encL l q ts) = some ts
  | [], q, e, _, _, _ => rfl
  | t :: r, q, e, hqe, hq, hv => by
    unfold valL at hv
    split at hv
    · cases hv
    · next hn =>
      obtain ⟨p, hp⟩ : ∃ p : Nat, t.s = p := ⟨t.s.toNat, by omega⟩
      have hpl : p ≤ l.length := by omega
      have hqp : q ≤ p := by omega
      have hline := gap_line l hqp
      have hlen := gap_len l (q := q) hpl
      have hlt := lineOf_lt l p
      have hst := start_at l p hpl
      have ih := dec_enc l r p (t.s + t.l) (by omega) hpl hv
      have htl := trail_le (l.take p)
      rw [List.length_take] at htl
      unfold encL decL
      rw [hp, Int.toNat_natCast]
      have hds : dsL (gapL l q p) ≤ l.length := by
        unfold dsL
        split
        · rw [gap_trail l hqp (by omega)]; omega
        · omega
      have hL : (lineOf l q : Int) + (nlC (gapL l q p) : Int) = (lineOf l p : Int) := by omega
      have hP : ptL (lineStartsL l) (lineOf l q) q (deltaL (gapL l q p) t) = (p : Int) := by
        unfold ptL deltaL dsL
        simp only
        rw [hL, Int.toNat_natCast, getD_of hst]
        by_cases h0 : 0 < nlC (gapL l q p)
        · rw [if_pos (by omega), if_pos h0, gap_trail l hqp (by omega)]; omega
        · rw [if_neg (by omega), if_neg h0, hlen]; omega
      rw [hP]
      have h1 : (deltaL (gapL l q p) t).dl = (nlC (gapL l q p) : Int) := rfl
      have h2 : (deltaL (gapL l q p) t).ds = (dsL (gapL l q p) : Int) := rfl
      have h3 : (deltaL (gapL l q p) t).l = t.l := rfl
      have h4 : (deltaL (gapL l q p) t).k = t.k := rfl
      generalize deltaL (gapL l q p) t = D at *
      rw [h1, hL, if_neg (by omega), if_neg ?_, ih, h3, h4]
      · show some _ = _
        obtain ⟨s, tl, tk⟩ := t
        simp only at hp ⊢
        rw [hp]
      · intro ⟨h1, h2⟩
        have h3 : ((lineOf l p : Int) + 1).toNat = lineOf l p + 1 := by omega
        rw [h3] at h2
        obtain ⟨z, hz⟩ : ∃ z, (lineStartsL l)[lineOf l p + 1]? = some z := ⟨_, List.getElem?_eq_getElem (by omega)⟩
        rw [getD_of hz] at h2
        have := next_gt l p z hpl hz
        omega
theorem enc_dec (l : List UInt8) : ∀ (ds : List TokD) (ts : List TokS) (q : Nat) (e : Int), (q : Int) ≤ e → q ≤ l.length → valL l.length e ts = true → decL (lineStartsL l) l.length (lineOf l q) q ds = some ts → encL l q ts = ds
  | [], ts, q, e, _, _, _, hd => by
    unfold decL at hd
    injection hd with hd
    subst hd
    rfl
  | d :: r, ts, q, e, hqe, hq, hv, hd => by
    unfold decL at hd
    by_cases hn : d.dl < 0 ∨ ((lineStartsL l).length : Int) - (lineOf l q : Int) ≤ d.dl ∨ d.ds < 0 ∨ (l.length : Int) < d.ds
    · rw [if_pos hn] at hd; cases hd
    · rw [if_neg hn] at hd
      generalize hp' : ptL (lineStartsL l) (lineOf l q) q d = P at hd
      by_cases hm : (lineOf l q : Int) + d.dl + 1 < (lineStartsL l).length ∧ (((lineStartsL l).getD ((lineOf l q : Int) + d.dl + 1).toNat 0 : Nat) : Int) ≤ P
      · rw [if_pos hm] at hd; cases hd
      · rw [if_neg hm] at hd
        obtain ⟨rs, hr, rfl⟩ := Option.map_eq_some_iff.1 hd
        unfold valL at hv
        by_cases hb : P < e ∨ (l.length : Int) < P ∨ d.l < 1 ∨ (l.length : Int) - P < d.l
        · rw [if_pos hb] at hv; cases hv
        · rw [if_neg hb] at hv
          have hlq := lineOf_lt l q
          obtain ⟨k, hk⟩ : ∃ k : Nat, (lineOf l q : Int) + d.dl = k := ⟨((lineOf l q : Int) + d.dl).toNat, by omega⟩
          rw [hk] at hm hr
          have hkl : k < (lineStartsL l).length := by omega
          obtain ⟨x, hx⟩ : ∃ x, (lineStartsL l)[k]? = some x := ⟨_, List.getElem?_eq_getElem hkl⟩
          unfold ptL at hp'
          rw [hk, Int.toNat_natCast, getD_of hx] at hp'
          obtain ⟨p, hp⟩ : ∃ p : Nat, P = p := ⟨P.toNat, by omega⟩
          have hpl : p ≤ l.length := by omega
          have hsq := start_at l q hq
          have hqp : q ≤ p ∧ x ≤ p := by
            by_cases h0 : 0 < d.dl
            · rw [if_pos h0] at hp'
              obtain ⟨z, hz⟩ : ∃ z, (lineStartsL l)[lineOf l q + 1]? = some z := ⟨_, List.getElem?_eq_getElem (by omega)⟩
              have h3 := next_gt l q z hq hz
              have h4 := starts_le (by omega : lineOf l q + 1 ≤ k) hz hx
              omega
            · rw [if_neg h0] at hp'
              have h5 : k = lineOf l q := by omega
              rw [h5, hsq] at hx
              injection hx with hx
              omega
          have hlp : lineOf l p = k := line_of_bounds hpl hx hqp.2 (fun y hy => by
            by_cases hy2 : (p : Int) < (y : Int)
            · omega
            · exfalso
              refine hm ⟨?_, ?_⟩
              · have := (List.getElem?_eq_some_iff.1 hy).1; omega
              · rw [show ((k : Int) + 1).toNat = k + 1 by omega, getD_of hy]; omega)
          have hline := gap_line l hqp.1
          have hlen := gap_len l (q := q) hpl
          have ih := enc_dec l r rs p (P + d.l) (by omega) hpl hv (by rw [hlp, ← hp]; exact hr)
          unfold encL
          simp only
          rw [hp, Int.toNat_natCast, ih]
          have hg : (nlC (gapL l q p) : Int) = d.dl := by omega
          have hds : (dsL (gapL l q p) : Int) = d.ds := by
            unfold dsL
            by_cases h0 : 0 < d.dl
            · rw [if_pos (by omega), gap_trail l hqp.1 (by omega)]
              rw [if_pos h0] at hp'
              have hsp := start_at l p hpl
              rw [hlp, hx] at hsp
              injection hsp with hsp
              have htl := trail_le (l.take p)
              rw [List.length_take] at htl
              omega
            · rw [if_neg (by omega), hlen]
              rw [if_neg h0] at hp'
              omega
          unfold deltaL
          rw [hg, hds]
end Go.Proofs.YtpibenilagloaaaGreatDoor

/-
  semtokens.Diff, plain: the common ends of two lists.
-/
namespace Go.Proofs.YtpibenilagloaaaGreatDoor
set_option linter.unusedVariables false

/-- the length of the longest common beginning -/
def cpL {α : Type} [DecidableEq α] : List α → List α → Nat
  | x :: a, y :: b => if x = y then cpL a b + 1 else 0
  | _, _ => 0
deriving instance DecidableEq for TokD
deriving instance DecidableEq for TokS
theorem cpL_le {α : Type} [DecidableEq α] : ∀ (a b : List α), cpL a b ≤ a.length ∧ cpL a b ≤ b.length
  | [], b => by simp [cpL]
  | x :: a, [] => by simp [cpL]
  | x :: a, y :: b => by
    have := cpL_le a b
    unfold cpL
    split
    · simp only [List.length_cons]; omega
    · simp
theorem cpL_take {α : Type} [DecidableEq α] : ∀ (a b : List α), a.take (cpL a b) = b.take (cpL a b)
  | [], b => by simp [cpL]
  | x :: a, [] => by simp [cpL]
  | x :: a, y :: b => by
    unfold cpL
    split
    · next h => rw [List.take_succ_cons, List.take_succ_cons, cpL_take a b, h]
    · rfl
/-- the first n elements agree, and the walk stops there -/
theorem cpL_of {α : Type} [DecidableEq α] : ∀ (a b : List α) (n : Nat), n ≤ a.length → n ≤ b.length → (∀ i x y, i < n → a[i]? = some x → b[i]? = some y → x = y) → (∀ x y, a[n]? = some x → b[n]? = some y → x ≠ y) → cpL a b = n
  | [], b, n, h1, h2, h3, h4 => by simp at h1; subst h1; simp [cpL]
  | x :: a, [], n, h1, h2, h3, h4 => by simp at h2; subst h2; simp [cpL]
  | x :: a, y :: b, 0, h1, h2, h3, h4 => by
    unfold cpL
    rw [if_neg (h4 x y rfl rfl)]
  | x :: a, y :: b, n + 1, h1, h2, h3, h4 => by
    unfold cpL
    rw [if_pos (h3 0 x y (by omega) rfl rfl)]
    have := cpL_of a b n (by simpa using h1) (by simpa using h2) (fun i u v hi hu hv => h3 (i + 1) u v (by omega) (by simpa using hu) (by simpa using hv)) (fun u v hu hv => h4 u v (by simpa using hu) (by simpa using hv))
    omega
def dStart {α : Type} [DecidableEq α] (a b : List α) : Nat := cpL a b
def dSuf {α : Type} [DecidableEq α] (a b : List α) : Nat := cpL (a.drop (dStart a b)).reverse (b.drop (dStart a b)).reverse
theorem diff_law {α : Type} [DecidableEq α] (a b : List α) :
    a.take (dStart a b) ++ (b.drop (dStart a b)).take ((b.drop (dStart a b)).length - dSuf a b) ++ a.drop (dStart a b + ((a.drop (dStart a b)).length - dSuf a b)) = b := by
  have h1 := cpL_take a b
  have h2 := cpL_take (a.drop (dStart a b)).reverse (b.drop (dStart a b)).reverse
  have h3 := cpL_le (a.drop (dStart a b)).reverse (b.drop (dStart a b)).reverse
  rw [List.length_reverse, List.length_reverse] at h3
  have h4 : cpL (a.drop (dStart a b)).reverse (b.drop (dStart a b)).reverse = dSuf a b := rfl
  rw [h4] at h2 h3
  generalize dSuf a b = m at *
  have e1 : a.take (dStart a b) = b.take (dStart a b) := h1
  rw [← List.drop_drop]
  generalize hA : a.drop (dStart a b) = A at *
  generalize hB : b.drop (dStart a b) = B at *
  rw [List.take_reverse, List.take_reverse] at h2
  have h5 := List.reverse_inj.1 h2
  rw [h5, e1, List.append_assoc, List.take_append_drop, ← hB, List.take_append_drop]
end Go.Proofs.YtpibenilagloaaaGreatDoor

/-
  Semantic tokens and their differences in memory; EqualTokens, EqualDeltas.
-/
namespace Go.Proofs.YtpibenilagloaaaGreatDoor
open Go.RowKit
set_option linter.unusedVariables false

def tkC (x : TokS) : List Value := [.int .i64 x.s, .int .i64 x.l, .int .i64 x.k]
def tkD : Dat TokS := flatD tkC 3 (by decide) (fun _ => rfl) (fun x v hv => by simp [tkC] at hv; rcases hv with rfl | rfl | rfl <;> rfl)
def tdC (x : TokD) : List Value := [.int .i64 x.dl, .int .i64 x.ds, .int .i64 x.l, .int .i64 x.k]
def tdD : Dat TokD := flatD tdC 4 (by decide) (fun _ => rfl) (fun x v hv => by simp [tdC] at hv; rcases hv with rfl | rfl | rfl | rfl <;> rfl)
theorem info_tk : (Tryz.prog.info? 71).map (fun i => (i.zero, i.size, i.bytes)) = some (some (.agg #[.int .i64 0, .int .i64 0, .int .i64 0]), 3, 24) := by kernel_rfl
theorem info_td : (Tryz.prog.info? 73).map (fun i => (i.zero, i.size, i.bytes)) = some (some (.agg #[.int .i64 0, .int .i64 0, .int .i64 0, .int .i64 0]), 4, 32) := by kernel_rfl
theorem td_equal (x0 x1 x2 x3 y0 y1 y2 y3 : Int) (w : World) : (Op.equalIn 10000 73 (.agg #[.int .i64 x0, .int .i64 x1, .int .i64 x2, .int .i64 x3]) (.agg #[.int .i64 y0, .int .i64 y1, .int .i64 y2, .int .i64 y3])).run Tryz.prog w = .ok (decide ((⟨x0, x1, x2, x3⟩ : TokD) = ⟨y0, y1, y2, y3⟩)) w := by
  have hS : Tryz.prog.underlying 73 = some (.struct (Tryz.prog.fieldsOf 73)) := by kernel_rfl
  have hp : Tryz.prog.stoodInHeld 73 = false := by kernel_rfl
  rw [show (10000 : Nat) = 9999 + 1 from rfl, run_equalIn_agg w 9999 73 _ _ hS hp]
  simp only [Program.fieldsOf, Tryz.underlying73]
  go_simp
  by_cases h0 : x0 = y0 <;> by_cases h1 : x1 = y1 <;> by_cases h2 : x2 = y2 <;> by_cases h3 : x3 = y3 <;> simp [h0, h1, h2, h3]
theorem td_eq (x0 x1 x2 x3 y0 y1 y2 y3 : Int) (w : World) : (binOp .eql 73 (.agg #[.int .i64 x0, .int .i64 x1, .int .i64 x2, .int .i64 x3]) (.agg #[.int .i64 y0, .int .i64 y1, .int .i64 y2, .int .i64 y3])).run Tryz.prog w = .ok (.bool (decide ((⟨x0, x1, x2, x3⟩ : TokD) = ⟨y0, y1, y2, y3⟩))) w := by
  rw [run_eql_struct, td_equal]; rfl
theorem td_neq (x0 x1 x2 x3 y0 y1 y2 y3 : Int) (w : World) : (binOp .neq 73 (.agg #[.int .i64 x0, .int .i64 x1, .int .i64 x2, .int .i64 x3]) (.agg #[.int .i64 y0, .int .i64 y1, .int .i64 y2, .int .i64 y3])).run Tryz.prog w = .ok (.bool (!decide ((⟨x0, x1, x2, x3⟩ : TokD) = ⟨y0, y1, y2, y3⟩))) w := by
  rw [run_neq_struct, td_equal]; rfl
theorem tk_equal (x0 x1 x2 y0 y1 y2 : Int) (w : World) : (Op.equalIn 10000 71 (.agg #[.int .i64 x0, .int .i64 x1, .int .i64 x2]) (.agg #[.int .i64 y0, .int .i64 y1, .int .i64 y2])).run Tryz.prog w = .ok (decide ((⟨x0, x1, x2⟩ : TokS) = ⟨y0, y1, y2⟩)) w := by
  have hS : Tryz.prog.underlying 71 = some (.struct (Tryz.prog.fieldsOf 71)) := by kernel_rfl
  have hp : Tryz.prog.stoodInHeld 71 = false := by kernel_rfl
  rw [show (10000 : Nat) = 9999 + 1 from rfl, run_equalIn_agg w 9999 71 _ _ hS hp]
  simp only [Program.fieldsOf, Tryz.underlying71]
  go_simp
  by_cases h0 : x0 = y0 <;> by_cases h1 : x1 = y1 <;> by_cases h2 : x2 = y2 <;> simp [h0, h1, h2]
theorem tk_neq (x0 x1 x2 y0 y1 y2 : Int) (w : World) : (binOp .neq 71 (.agg #[.int .i64 x0, .int .i64 x1, .int .i64 x2]) (.agg #[.int .i64 y0, .int .i64 y1, .int .i64 y2])).run Tryz.prog w = .ok (.bool (!decide ((⟨x0, x1, x2⟩ : TokS) = ⟨y0, y1, y2⟩))) w := by
  rw [run_neq_struct, tk_equal]; rfl
set_option maxRecDepth 100000 in
set_option maxHeartbeats 1600000 in
theorem eqDeltas_any (xs : List TokD) (A D : Option Addr) (c d : Nat) (w : World) (F : Nat → Prop) (h : tdD.At w F A xs) (h' : tdD.At w F D xs) (hF : ∀ b, F b → b < w.heap.size) (hm : xs.length ≤ maxLen) :
    Calls Tryz.prog 13 #[.slice A xs.length c, .slice D xs.length d] w fun e w' => e = .returned (.bool true) ∧ Below w.heap.size w w' := by
  unfold maxLen at hm
  obtain ⟨n, hn⟩ : ∃ n, xs.length = n := ⟨_, rfl⟩
  have HN := Lib.hid hn
  have HA := Lib.hid h
  have HD := Lib.hid h'
  have HF := Lib.hid hF
  rw [hn] at hm ⊢
  clear hn h h' hF
  go_enter Tryz.func13, Tryz.ntmps13
  go_wp2_with fail
  go_loopw [5] (fun i wr => ∃ k : Nat, k ≤ n ∧ i = .int .i64 k ∧ Below w.heap.size w wr) (fun i _ => n - (intOf i).toNat)
  case atStart => exact ⟨0, Nat.zero_le _, rfl, Below.refl _ _⟩
  case round =>
    obtain ⟨k, hk, rfl, hb⟩ := hrel
    by_cases hlt : k < n
    · have hkI : (k : Int) < n := by omega
      have hkl : k < xs.length := by rw [HN.out]; exact hlt
      obtain ⟨b, off, rfl, hbb, hc⟩ := flat_get HA.out k xs[k] (List.getElem?_eq_getElem hkl)
      obtain ⟨b', off', rfl, hbb', hc'⟩ := flat_get HD.out k xs[k] (List.getElem?_eq_getElem hkl)
      generalize xs[k] = x at *
      obtain ⟨x0, x1, x2, x3⟩ := x
      have hbl := HF.out b hbb
      have hbl' := HF.out b' hbb'
      have cc : ∀ j u, ([.int .i64 x0, .int .i64 x1, .int .i64 x2, .int .i64 x3] : List Value)[j]? = some u → wr.cell? ⟨b, off + k * 4 + j, none⟩ = some u := fun j u hu => (hb.cell (p := ⟨b, _, none⟩) hbl).trans (hc j u hu)
      have dd : ∀ j u, ([.int .i64 x0, .int .i64 x1, .int .i64 x2, .int .i64 x3] : List Value)[j]? = some u → wr.cell? ⟨b', off' + k * 4 + j, none⟩ = some u := fun j u hu => (hb.cell (p := ⟨b', _, none⟩) hbl').trans (hc' j u hu)
      have c0 := cc 0 _ rfl
      have c1 := cc 1 _ rfl
      have c2 := cc 2 _ rfl
      have c3 := cc 3 _ rfl
      have d0 := dd 0 _ rfl
      have d1 := dd 1 _ rfl
      have d2 := dd 2 _ rfl
      have d3 := dd 3 _ rfl
      rw [Nat.add_zero] at c0 d0
      have heq := fun w => td_neq x0 x1 x2 x3 x0 x1 x2 x3 w
      rw [decide_eq_true rfl] at heq
      clear cc dd hc hc' hbb hbb'
      go_wp2_with fail
      go_quiet (fail)
      go_wp2_with fail
      go_roundw
      case rel => exact ⟨k + 1, by omega, by go_num, below_drewN hb _⟩
      case measure => simp [intOf]; omega
    · have hkI : ¬ (k : Int) < n := by omega
      go_wp2_with fail
      go_ret
      exact ⟨rfl, hb⟩
set_option maxRecDepth 100000 in
set_option maxHeartbeats 1600000 in
theorem eqTokens_any (xs : List TokS) (A D : Option Addr) (c d : Nat) (w : World) (F : Nat → Prop) (h : tkD.At w F A xs) (h' : tkD.At w F D xs) (hF : ∀ b, F b → b < w.heap.size) (hm : xs.length ≤ maxLen) :
    Calls Tryz.prog 12 #[.slice A xs.length c, .slice D xs.length d] w fun e w' => e = .returned (.bool true) ∧ Below w.heap.size w w' := by
  unfold maxLen at hm
  obtain ⟨n, hn⟩ : ∃ n, xs.length = n := ⟨_, rfl⟩
  have HN := Lib.hid hn
  have HA := Lib.hid h
  have HD := Lib.hid h'
  have HF := Lib.hid hF
  rw [hn] at hm ⊢
  clear hn h h' hF
  go_enter Tryz.func12, Tryz.ntmps12
  go_wp2_with fail
  go_loopw [5] (fun i wr => ∃ k : Nat, k ≤ n ∧ i = .int .i64 k ∧ Below w.heap.size w wr) (fun i _ => n - (intOf i).toNat)
  case atStart => exact ⟨0, Nat.zero_le _, rfl, Below.refl _ _⟩
  case round =>
    obtain ⟨k, hk, rfl, hb⟩ := hrel
    by_cases hlt : k < n
    · have hkI : (k : Int) < n := by omega
      have hkl : k < xs.length := by rw [HN.out]; exact hlt
      obtain ⟨b, off, rfl, hbb, hc⟩ := flat_get HA.out k xs[k] (List.getElem?_eq_getElem hkl)
      obtain ⟨b', off', rfl, hbb', hc'⟩ := flat_get HD.out k xs[k] (List.getElem?_eq_getElem hkl)
      generalize xs[k] = x at *
      obtain ⟨x0, x1, x2⟩ := x
      have hbl := HF.out b hbb
      have hbl' := HF.out b' hbb'
      have cc : ∀ j u, ([.int .i64 x0, .int .i64 x1, .int .i64 x2] : List Value)[j]? = some u → wr.cell? ⟨b, off + k * 3 + j, none⟩ = some u := fun j u hu => (hb.cell (p := ⟨b, _, none⟩) hbl).trans (hc j u hu)
      have dd : ∀ j u, ([.int .i64 x0, .int .i64 x1, .int .i64 x2] : List Value)[j]? = some u → wr.cell? ⟨b', off' + k * 3 + j, none⟩ = some u := fun j u hu => (hb.cell (p := ⟨b', _, none⟩) hbl').trans (hc' j u hu)
      have c0 := cc 0 _ rfl
      have c1 := cc 1 _ rfl
      have c2 := cc 2 _ rfl
      have d0 := dd 0 _ rfl
      have d1 := dd 1 _ rfl
      have d2 := dd 2 _ rfl
      rw [Nat.add_zero] at c0 d0
      have heq := fun w => tk_neq x0 x1 x2 x0 x1 x2 w
      rw [decide_eq_true rfl] at heq
      clear cc dd hc hc' hbb hbb'
      go_wp2_with fail
      go_quiet (fail)
      go_wp2_with fail
      go_roundw
      case rel => exact ⟨k + 1, by omega, by go_num, below_drewN hb _⟩
      case measure => simp [intOf]; omega
    · have hkI : ¬ (k : Int) < n := by omega
      go_wp2_with fail
      go_ret
      exact ⟨rfl, hb⟩
end Go.Proofs.YtpibenilagloaaaGreatDoor
