/-
  PLAIN: the merge of slices.symMergeCmpFunc.
-/
import Derived.Test.YtbnoejdhachhhabRot
namespace Go.Proofs.Ytbnoejdhachhhab
open Go.Sort (PermIn SortedIn SWO)
set_option linter.unusedVariables false

/-- the first element moved up, r rounds -/
def shU (d : Array Nat) (a : Nat) : Nat → Array Nat
  | 0 => d
  | r + 1 => Sort.swp (shU d a r) (a + r) (a + r + 1)
/-- the last element moved down, r rounds -/
def shD (d : Array Nat) (m : Nat) : Nat → Array Nat
  | 0 => d
  | r + 1 => Sort.swp (shD d m r) (m - r) (m - r - 1)
theorem shU_size (d : Array Nat) (a r : Nat) : (shU d a r).size = d.size := by induction r with
  | zero => rfl
  | succ r ih => rw [shU, Sort.size_swp, ih]
theorem shD_size (d : Array Nat) (m r : Nat) : (shD d m r).size = d.size := by induction r with
  | zero => rfl
  | succ r ih => rw [shD, Sort.size_swp, ih]
theorem shU_allLt (d : Array Nat) (a N : Nat) (h : AllLt d N) : ∀ r, a + r < d.size → AllLt (shU d a r) N
  | 0, _ => h
  | r + 1, h1 => (shU_allLt d a N h r (by omega)).swp _ _ (by rw [shU_size]; omega) (by rw [shU_size]; omega)
theorem shD_allLt (d : Array Nat) (m N : Nat) (h : AllLt d N) (hm : m < d.size) : ∀ r, r ≤ m → AllLt (shD d m r) N
  | 0, _ => h
  | r + 1, h1 => (shD_allLt d m N h hm r (by omega)).swp _ _ (by rw [shD_size]; omega) (by rw [shD_size]; omega)
theorem shU_perm (d : Array Nat) (a lo hi : Nat) (h1 : lo ≤ a) (hs : hi ≤ d.size) : ∀ r, a + r < hi → PermIn lo hi d (shU d a r)
  | 0, _ => Sort.permIn_refl _ _ _
  | r + 1, h3 => Sort.permIn_trans _ _ _ _ _ (shU_perm d a lo hi h1 hs r (by omega)) (Sort.swp_permIn _ _ _ _ _ (by omega) (by omega) (by omega) (by omega) (by rw [shU_size]; exact hs))
theorem shD_perm (d : Array Nat) (m lo hi : Nat) (h1 : m < hi) (hs : hi ≤ d.size) : ∀ r, lo + r ≤ m → PermIn lo hi d (shD d m r)
  | 0, _ => Sort.permIn_refl _ _ _
  | r + 1, h3 => Sort.permIn_trans _ _ _ _ _ (shD_perm d m lo hi h1 hs r (by omega)) (Sort.swp_permIn _ _ _ _ _ (by omega) (by omega) (by omega) (by omega) (by rw [shD_size]; exact hs))
theorem shU_at (d : Array Nat) (a : Nat) : ∀ (r : Nat), a + r < d.size → ∀ p, (shU d a r)[p]! = if a ≤ p ∧ p < a + r then d[p + 1]! else if p = a + r then d[a]! else d[p]!
  | 0, _, p => by
    rw [if_neg (by omega)]
    by_cases h : p = a + 0
    · rw [if_pos h, h]; rfl
    · rw [if_neg h]; rfl
  | r + 1, h1, p => by
    have ih := shU_at d a r (by omega)
    rw [shU]
    by_cases e1 : p = a + r + 1
    · subst e1
      have n1 : ¬ (a ≤ a + r ∧ a + r < a + r) := by omega
      have n2 : ¬ (a ≤ a + r + 1 ∧ a + r + 1 < a + (r + 1)) := by omega
      rw [Sort.swp_right _ _ _ (by rw [shU_size]; omega), ih, if_neg n1, if_pos rfl, if_neg n2, if_pos (by omega)]
    · by_cases e2 : p = a + r
      · subst e2
        have n1 : ¬ (a ≤ a + r + 1 ∧ a + r + 1 < a + r) := by omega
        have n2 : a ≤ a + r ∧ a + r < a + (r + 1) := by omega
        rw [Sort.swp_left _ _ _ (by rw [shU_size]; omega) (by omega), ih, if_neg n1, if_neg (by omega), if_pos n2]
      · rw [Sort.swp_other _ _ _ _ e2 e1, ih]
        by_cases c1 : a ≤ p ∧ p < a + r
        · have t1 : a ≤ p ∧ p < a + (r + 1) := by omega
          rw [if_pos c1, if_pos t1]
        · have t1 : ¬ (a ≤ p ∧ p < a + (r + 1)) := by omega
          have t2 : ¬ p = a + (r + 1) := by omega
          rw [if_neg c1, if_neg e2, if_neg t1, if_neg t2]
theorem shD_at (d : Array Nat) (m : Nat) (hm : m < d.size) : ∀ (r : Nat), r ≤ m → ∀ p, (shD d m r)[p]! = if m - r < p ∧ p ≤ m then d[p - 1]! else if p = m - r then d[m]! else d[p]!
  | 0, _, p => by
    rw [if_neg (by omega)]
    by_cases h : p = m - 0
    · rw [if_pos h, h]; rfl
    · rw [if_neg h]; rfl
  | r + 1, h1, p => by
    have ih := shD_at d m hm r (by omega)
    rw [shD]
    by_cases e1 : p = m - r - 1
    · subst e1
      have n1 : ¬ (m - r < m - r ∧ m - r ≤ m) := by omega
      have n2 : ¬ (m - (r + 1) < m - r - 1 ∧ m - r - 1 ≤ m) := by omega
      rw [Sort.swp_right _ _ _ (by rw [shD_size]; omega), ih, if_neg n1, if_pos rfl, if_neg n2, if_pos (by omega)]
    · by_cases e2 : p = m - r
      · subst e2
        have n1 : ¬ (m - r < m - r - 1 ∧ m - r - 1 ≤ m) := by omega
        have n2 : m - (r + 1) < m - r ∧ m - r ≤ m := by omega
        rw [Sort.swp_left _ _ _ (by rw [shD_size]; omega) (by omega), ih, if_neg n1, if_neg (by omega), if_pos n2]
      · rw [Sort.swp_other _ _ _ _ e2 e1, ih]
        by_cases c1 : m - r < p ∧ p ≤ m
        · have t1 : m - (r + 1) < p ∧ p ≤ m := by omega
          rw [if_pos c1, if_pos t1]
        · have t1 : ¬ (m - (r + 1) < p ∧ p ≤ m) := by omega
          have t2 : ¬ p = m - (r + 1) := by omega
          rw [if_neg c1, if_neg e2, if_neg t1, if_neg t2]

section
variable {lt : Nat → Nat → Bool}

/-- sorted, with equality allowed -/
theorem SortedIn.le (hS : SWO lt) {a b : Nat} {d : Array Nat} (h : SortedIn lt a b d) {i j : Nat} (h1 : a ≤ i) (h2 : i ≤ j) (h3 : j < b) : lt d[j]! d[i]! = false := by
  by_cases e : i = j
  · rw [e]; exact hS.irrefl _
  · exact h i j h1 (by omega) h3
theorem not_true {b : Bool} (h : b = true → False) : b = false := by cases b <;> simp_all

theorem merge_first (hS : SWO lt) (d : Array Nat) (a m b i : Nat) (ham : a + 1 = m) (hi1 : m ≤ i) (hi2 : i ≤ b) (hb : b ≤ d.size) (hs : SortedIn lt m b d)
    (h1 : i = m ∨ lt d[i - 1]! d[a]! = true) (h2 : i = b ∨ lt d[i]! d[a]! = false) : SortedIn lt a b (shU d a (i - 1 - a)) := by
  intro p q hp hpq hq
  have S := shU_at d a (i - 1 - a) (by omega)
  rw [S, S]
  by_cases q1 : q < i - 1
  · have t1 : a ≤ q ∧ q < a + (i - 1 - a) := by omega
    have t2 : a ≤ p ∧ p < a + (i - 1 - a) := by omega
    rw [if_pos t1, if_pos t2]
    exact hs (p + 1) (q + 1) (by omega) (by omega) (by omega)
  · by_cases q2 : q = i - 1
    · have t1 : ¬ (a ≤ q ∧ q < a + (i - 1 - a)) := by omega
      have t2 : a ≤ p ∧ p < a + (i - 1 - a) := by omega
      have t3 : q = a + (i - 1 - a) := by omega
      rw [if_neg t1, if_pos t3, if_pos t2]
      rcases h1 with h1 | h1
      · omega
      · refine not_true fun hc => ?_
        have := hS.trans _ _ _ h1 hc
        rw [SortedIn.le hS hs (i := p + 1) (j := i - 1) (by omega) (by omega) (by omega)] at this
        cases this
    · have t1 : ¬ (a ≤ q ∧ q < a + (i - 1 - a)) := by omega
      have t2 : ¬ q = a + (i - 1 - a) := by omega
      rw [if_neg t1, if_neg t2]
      by_cases p1 : p < i - 1
      · have t3 : a ≤ p ∧ p < a + (i - 1 - a) := by omega
        rw [if_pos t3]
        exact SortedIn.le hS hs (by omega) (by omega) hq
      · have t3 : ¬ (a ≤ p ∧ p < a + (i - 1 - a)) := by omega
        rw [if_neg t3]
        by_cases p2 : p = i - 1
        · have t4 : p = a + (i - 1 - a) := by omega
          rw [if_pos t4]
          rcases h2 with h2 | h2
          · omega
          · exact hS.ntrans _ _ _ (SortedIn.le hS hs (i := i) (j := q) hi1 (by omega) hq) h2
        · have t4 : ¬ p = a + (i - 1 - a) := by omega
          rw [if_neg t4]
          exact SortedIn.le hS hs (by omega) (by omega) hq

theorem merge_last (hS : SWO lt) (d : Array Nat) (a m b i : Nat) (hmb : m + 1 = b) (hi1 : a ≤ i) (hi2 : i ≤ m) (hb : b ≤ d.size) (hs : SortedIn lt a m d)
    (h1 : i = a ∨ lt d[m]! d[i - 1]! = false) (h2 : i = m ∨ lt d[m]! d[i]! = true) : SortedIn lt a b (shD d m (m - i)) := by
  intro p q hp hpq hq
  have S := shD_at d m (by omega) (m - i) (by omega)
  rw [S, S]
  by_cases q1 : q < i
  · have t1 : ¬ (m - (m - i) < q ∧ q ≤ m) := by omega
    have t2 : ¬ q = m - (m - i) := by omega
    have t3 : ¬ (m - (m - i) < p ∧ p ≤ m) := by omega
    have t4 : ¬ p = m - (m - i) := by omega
    rw [if_neg t1, if_neg t2, if_neg t3, if_neg t4]
    exact hs p q hp hpq (by omega)
  · by_cases q2 : q = i
    · have t1 : ¬ (m - (m - i) < q ∧ q ≤ m) := by omega
      have t2 : q = m - (m - i) := by omega
      have t3 : ¬ (m - (m - i) < p ∧ p ≤ m) := by omega
      have t4 : ¬ p = m - (m - i) := by omega
      rw [if_neg t1, if_pos t2, if_neg t3, if_neg t4]
      rcases h1 with h1 | h1
      · omega
      · exact hS.ntrans _ _ _ h1 (SortedIn.le hS hs (i := p) (j := i - 1) hp (by omega) (by omega))
    · have t1 : m - (m - i) < q ∧ q ≤ m := by omega
      rw [if_pos t1]
      by_cases p1 : p < i
      · have t3 : ¬ (m - (m - i) < p ∧ p ≤ m) := by omega
        have t4 : ¬ p = m - (m - i) := by omega
        rw [if_neg t3, if_neg t4]
        exact SortedIn.le hS hs hp (by omega) (by omega)
      · by_cases p2 : p = i
        · have t3 : ¬ (m - (m - i) < p ∧ p ≤ m) := by omega
          have t4 : p = m - (m - i) := by omega
          rw [if_neg t3, if_pos t4]
          rcases h2 with h2 | h2
          · omega
          · refine not_true fun hc => ?_
            have := hS.trans _ _ _ hc h2
            rw [SortedIn.le hS hs (i := i) (j := q - 1) hi1 (by omega) (by omega)] at this
            cases this
        · have t3 : m - (m - i) < p ∧ p ≤ m := by omega
          rw [if_pos t3]
          exact hs (p - 1) (q - 1) (by omega) (by omega) (by omega)

/-- no element right of mid is less than one left of it -/
def Cross (lt : Nat → Nat → Bool) (a mid b : Nat) (d : Array Nat) : Prop := ∀ i j, a ≤ i → i < mid → mid ≤ j → j < b → lt d[j]! d[i]! = false

theorem rot_id (d : Array Nat) (s m e : Nat) (h : ¬ (s < m ∧ m < e)) (h1 : s ≤ m) (h2 : m ≤ e) (p : Nat) : d[p]! = rotAt d s m e p := by
  unfold rotAt
  by_cases c : s ≤ p ∧ p < e
  · rw [if_pos c]
    by_cases c1 : p < s + (e - m)
    · rw [if_pos c1]; congr 1; omega
    · rw [if_neg c1]; congr 1; omega
  · rw [if_neg c]

theorem merge_cut (hS : SWO lt) (d d1 : Array Nat) (a m b mid s e : Nat) (ham : a < m) (hmb : m < b) (hmid : mid = (a + b) / 2) (he : e = mid + m - s)
    (hs1 : SortedIn lt a m d) (hs2 : SortedIn lt m b d) (hd : ∀ p, d1[p]! = rotAt d s m e p)
    (hlo : if mid < m then mid + m - b ≤ s ∧ s ≤ mid else a ≤ s ∧ s ≤ m)
    (h1 : s = (if mid < m then mid + m - b else a) ∨ lt d[e]! d[s - 1]! = false) (h2 : s = (if mid < m then mid else m) ∨ lt d[e - 1]! d[s]! = true) :
    a ≤ s ∧ s ≤ mid ∧ s ≤ m ∧ m ≤ e ∧ mid ≤ e ∧ e ≤ b ∧ SortedIn lt a s d1 ∧ SortedIn lt s mid d1 ∧ SortedIn lt mid e d1 ∧ SortedIn lt e b d1 ∧ Cross lt a mid b d1 := by
  have B : a ≤ s ∧ s ≤ mid ∧ s ≤ m ∧ m ≤ e ∧ mid ≤ e ∧ e ≤ b := by
    by_cases hc : mid < m
    · rw [if_pos hc] at hlo; omega
    · rw [if_neg hc] at hlo; omega
  obtain ⟨b1, b2, b3, b4, b5, b6⟩ := B
  -- what stands where
  have L1 : ∀ p, p < s → d1[p]! = d[p]! := fun p hp => by rw [hd]; unfold rotAt; rw [if_neg (by omega)]
  have L2 : ∀ p, s ≤ p → p < mid → d1[p]! = d[p - s + m]! := fun p h1 h2 => by
    have t1 : s ≤ p ∧ p < e := by omega
    have t2 : p < s + (e - m) := by omega
    rw [hd]; unfold rotAt; rw [if_pos t1, if_pos t2]
  have L3 : ∀ p, mid ≤ p → p < e → d1[p]! = d[p - (mid - s)]! := fun p h1 h2 => by
    have t1 : s ≤ p ∧ p < e := by omega
    have t2 : ¬ p < s + (e - m) := by omega
    rw [hd]; unfold rotAt; rw [if_pos t1, if_neg t2]; congr 1; omega
  have L4 : ∀ p, e ≤ p → d1[p]! = d[p]! := fun p hp => by rw [hd]; unfold rotAt; rw [if_neg (by omega)]
  refine ⟨b1, b2, b3, b4, b5, b6, ?_, ?_, ?_, ?_, ?_⟩
  · intro i j q1 q2 q3; rw [L1 i (by omega), L1 j q3]; exact hs1 i j q1 q2 (by omega)
  · intro i j q1 q2 q3; rw [L2 i q1 (by omega), L2 j (by omega) q3]; exact hs2 _ _ (by omega) (by omega) (by omega)
  · intro i j q1 q2 q3; rw [L3 i q1 (by omega), L3 j (by omega) q3]; exact hs1 _ _ (by omega) (by omega) (by omega)
  · intro i j q1 q2 q3; rw [L4 i q1, L4 j (by omega)]; exact hs2 i j (by omega) q2 q3
  · intro i j q1 q2 q3 q4
    by_cases ci : i < s
    · rw [L1 i ci]
      by_cases cj : j < e
      · rw [L3 j q3 cj]
        exact SortedIn.le hS hs1 q1 (by omega) (by omega)
      · rw [L4 j (by omega)]
        rcases h1 with h1 | h1
        · exfalso
          by_cases hc : mid < m
          · rw [if_pos hc] at h1; omega
          · rw [if_neg hc] at h1; omega
        · exact hS.ntrans _ _ _ (SortedIn.le hS hs2 (i := e) (j := j) b4 (by omega) q4) (hS.ntrans _ _ _ h1 (SortedIn.le hS hs1 (i := i) (j := s - 1) q1 (by omega) (by omega)))
    · rw [L2 i (by omega) q2]
      by_cases cj : j < e
      · rw [L3 j q3 cj]
        rcases h2 with h2 | h2
        · exfalso
          by_cases hc : mid < m
          · rw [if_pos hc] at h2; omega
          · rw [if_neg hc] at h2; omega
        · have k1 := SortedIn.le hS hs2 (i := i - s + m) (j := e - 1) (by omega) (by omega) (by omega)
          have k2 := SortedIn.le hS hs1 (i := s) (j := j - (mid - s)) b1 (by omega) (by omega)
          refine not_true fun hc => ?_
          cases hx : lt d[e - 1]! d[j - (mid - s)]!
          · have := hS.ntrans _ _ _ hx k2
            rw [h2] at this; cases this
          · have := hS.trans _ _ _ hx hc
            rw [k1] at this; cases this
      · rw [L4 j (by omega)]
        exact SortedIn.le hS hs2 (by omega) (by omega) q4

theorem merge_join (hS : SWO lt) (d1 d2 d3 : Array Nat) (a mid b : Nat) (h1 : a ≤ mid) (h2 : mid ≤ b) (hb : b ≤ d1.size) (hx : Cross lt a mid b d1) (p1 : PermIn a mid d1 d2) (s1 : SortedIn lt a mid d2) (p2 : PermIn mid b d2 d3) (s2 : SortedIn lt mid b d3) :
    SortedIn lt a b d3 := by
  have c2 : ∀ j, mid ≤ j → j < b → ∀ i, a ≤ i → i < mid → lt d1[j]! d2[i]! = false := fun j q1 q2 =>
    Sort.permIn_all d1 d2 a mid (fun x => lt d1[j]! x = false) (by omega) p1 (fun i q3 q4 => hx i j q3 q4 q1 q2)
  have e2 : ∀ j, mid ≤ j → d2[j]! = d1[j]! := fun j q => p1.2.1 j (.inr q)
  have c3 : ∀ j, mid ≤ j → j < b → ∀ i, a ≤ i → i < mid → lt d3[j]! d2[i]! = false := fun j q1 q2 i q3 q4 =>
    Sort.permIn_all d2 d3 mid b (fun x => lt x d2[i]! = false) (by rw [p1.1]; exact hb) p2 (fun j' q5 q6 => by rw [e2 j' q5]; exact c2 j' q5 q6 i q3 q4) j q1 q2
  have e3 : ∀ i, i < mid → d3[i]! = d2[i]! := fun i q => p2.2.1 i (.inl q)
  intro i j q1 q2 q3
  by_cases ci : i < mid
  · by_cases cj : j < mid
    · rw [e3 i ci, e3 j cj]; exact s1 i j q1 q2 cj
    · rw [e3 i ci]; exact c3 j (by omega) q3 i q1 ci
  · exact s2 i j (by omega) q2 q3
end
end Go.Proofs.Ytbnoejdhachhhab
