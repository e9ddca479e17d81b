/-
  PLAIN: fuzzy.Score answers with a best alignment.
-/
import Derived.Test.YtbnoejdhachhhabFex
namespace Go.Proofs.Ytbnoejdhachhhab
set_option linter.unusedVariables false

/-! ### the table -/
theorem down_mem (n k i : Nat) : i ∈ down n k ↔ ∃ j, j < k ∧ n - 1 - j = i := by simp [down]
def tabTo (pat s : ByteArray) (k : Nat) : List (List Int) := (down pat.size k).foldl (stepT pat s) (List.replicate pat.size [])
theorem tabTo_succ (pat s : ByteArray) (k : Nat) : tabTo pat s (k + 1) = stepT pat s (tabTo pat s k) (pat.size - 1 - k) := by
  unfold tabTo; rw [down_succ, List.foldl_append]; rfl
theorem tabTo_length (pat s : ByteArray) (k : Nat) : (tabTo pat s k).length = pat.size := by
  induction k with
  | zero => simp [tabTo, down]
  | succ k ih => rw [tabTo_succ, stepT, List.length_set, ih]
theorem getD_set (l : List (List Int)) (i j : Nat) (x : List Int) (h : i < l.length) : (l.set i x).getD j [] = if i = j then x else l.getD j [] := by
  rw [List.getD_eq_getElem?_getD, List.getElem?_set]
  by_cases e : i = j
  · subst e; rw [if_pos rfl, if_pos h, if_pos rfl]; rfl
  · rw [if_neg e, if_neg e, List.getD_eq_getElem?_getD]
theorem tabTo_row (pat s : ByteArray) : ∀ (k i : Nat), k ≤ pat.size → (tabTo pat s k).getD i [] = if pat.size - k ≤ i ∧ i < pat.size then rowOf pat s i ((tabTo pat s k).getD (i + 1) []) else []
  | 0, i, _ => by
    rw [if_neg (by omega)]
    unfold tabTo
    simp only [down, List.range_zero, List.map_nil, List.foldl_nil]
    rw [List.getD_eq_getElem?_getD, List.getElem?_replicate]
    split <;> rfl
  | k + 1, i, h => by
    have ih := fun i => tabTo_row pat s k i (by omega)
    rw [tabTo_succ]
    unfold stepT
    rw [getD_set _ _ _ _ (by rw [tabTo_length]; omega), getD_set _ _ _ _ (by rw [tabTo_length]; omega)]
    by_cases e : pat.size - 1 - k = i
    · rw [if_pos e, if_pos (by omega), if_neg (by omega), e]
    · rw [if_neg e, ih i]
      by_cases c : pat.size - k ≤ i ∧ i < pat.size
      · rw [if_pos c, if_pos (by omega), if_neg (by omega)]
      · rw [if_neg c, if_neg (by omega)]
theorem tab_row (pat s : ByteArray) (i : Nat) (h : i < pat.size) : (tab pat s).getD i [] = rowOf pat s i ((tab pat s).getD (i + 1) []) := by
  have := tabTo_row pat s pat.size i (Nat.le_refl _)
  rw [if_pos (by omega)] at this
  exact this
/-- the table's entry -/
def ent (pat s : ByteArray) (i k : Nat) : Int := ((tab pat s).getD i []).getD k (-1)
/-- the rest's best score -/
def restB (pat s : ByteArray) (i k : Nat) : Int := if pat.size ≤ i + 1 then 0 else (bestL ((tab pat s).getD (i + 1) []) k).1
theorem ent_eq (pat s : ByteArray) (i k : Nat) (hi : i < pat.size) (hk : k < s.size) :
    ent pat s i k = if foldB (pat.data.toList.getD i 0) (s.data.toList.getD k 0) = true ∧ restB pat s i k ≠ -1 then ptsN (pat.data.toList.getD i 0) s k + restB pat s i k else -1 := by
  unfold ent
  rw [tab_row pat s i hi, List.getD_eq_getElem?_getD, rowOf_at _ _ _ _ _ hk, Option.getD_some]
  unfold entry rest restB
  by_cases h : pat.size ≤ i + 1
  · rw [decide_eq_true h]; simp [h]
  · rw [decide_eq_false h]; simp [h]
theorem row_len (pat s : ByteArray) (i : Nat) (hi : i < pat.size) : ((tab pat s).getD i []).length = s.size := by rw [tab_row pat s i hi, rowOf_length]

/-! ### best -/
theorem adj_ge (prev i n : Int) : n ≤ adj prev i n := by unfold adj; split <;> omega
theorem bestLoop_ge (prev : Int) : ∀ (ns : List Int) (i sc off : Int), sc ≤ (bestLoop prev ns i sc off).1 ∧ ∀ (j : Nat) (x : Int), ns[j]? = some x → adj prev (i + j) x ≤ (bestLoop prev ns i sc off).1
  | [], i, sc, off => ⟨Int.le_refl _, fun j x h => by simp at h⟩
  | n :: ns, i, sc, off => by
    unfold bestLoop
    split
    · next h =>
      obtain ⟨h1, h2⟩ := bestLoop_ge prev ns (i + 1) (adj prev i n) i
      refine ⟨by omega, fun j x hx => ?_⟩
      cases j with
      | zero => simp at hx; subst hx; simpa using h1
      | succ j =>
        have := h2 j x (by simpa using hx)
        rw [show i + ((j + 1 : Nat) : Int) = i + 1 + j by omega]; exact this
    · next h =>
      obtain ⟨h1, h2⟩ := bestLoop_ge prev ns (i + 1) sc off
      refine ⟨h1, fun j x hx => ?_⟩
      cases j with
      | zero =>
        simp at hx; subst hx
        rw [show i + ((0 : Nat) : Int) = i by omega]; omega
      | succ j =>
        have := h2 j x (by simpa using hx)
        rw [show i + ((j + 1 : Nat) : Int) = i + 1 + j by omega]; exact this
theorem bestLoop_at (prev : Int) : ∀ (ns : List Int) (i sc off : Int), ((bestLoop prev ns i sc off).1 = sc ∧ (bestLoop prev ns i sc off).2 = off) ∨ ∃ (j : Nat) (x : Int), ns[j]? = some x ∧ (bestLoop prev ns i sc off).2 = i + j ∧ (bestLoop prev ns i sc off).1 = adj prev (i + j) x
  | [], i, sc, off => .inl ⟨rfl, rfl⟩
  | n :: ns, i, sc, off => by
    unfold bestLoop
    split
    · rcases bestLoop_at prev ns (i + 1) (adj prev i n) i with ⟨h1, h2⟩ | ⟨j, x, h1, h2, h3⟩
      · exact .inr ⟨0, n, rfl, by rw [h2]; omega, by rw [h1]; congr 1; omega⟩
      · exact .inr ⟨j + 1, x, by simpa using h1, by rw [h2]; omega, by rw [h3]; congr 1; omega⟩
    · rcases bestLoop_at prev ns (i + 1) sc off with h | ⟨j, x, h1, h2, h3⟩
      · exact .inl h
      · exact .inr ⟨j + 1, x, by simpa using h1, by rw [h2]; omega, by rw [h3]; congr 1; omega⟩
theorem bestL_ge (row : List Int) (prev : Int) (hp : -1 ≤ prev) (k : Nat) (hk : prev < k) (hl : k < row.length) : adj prev k (row.getD k (-1)) ≤ (bestL row prev).1 := by
  unfold bestL
  have h := (bestLoop_ge prev (row.drop (prev + 1).toNat) (prev + 1) (-1) (-1)).2 (k - (prev + 1).toNat) (row.getD k (-1)) (by
    rw [List.getElem?_drop, show (prev + 1).toNat + (k - (prev + 1).toNat) = k by omega, List.getD_eq_getElem?_getD, List.getElem?_eq_getElem hl]; rfl)
  rw [show prev + 1 + ((k - (prev + 1).toNat : Nat) : Int) = k by omega] at h
  exact h
theorem bestL_at (row : List Int) (prev : Int) (hp : -1 ≤ prev) (h : (bestL row prev).1 ≠ -1) : ∃ k : Nat, prev < k ∧ k < row.length ∧ (bestL row prev).2 = k ∧ (bestL row prev).1 = adj prev k (row.getD k (-1)) := by
  unfold bestL at *
  rcases bestLoop_at prev (row.drop (prev + 1).toNat) (prev + 1) (-1) (-1) with ⟨h1, _⟩ | ⟨j, x, h1, h2, h3⟩
  · exact absurd h1 h
  · rw [List.getElem?_drop] at h1
    obtain ⟨hl, hx⟩ := List.getElem?_eq_some_iff.1 h1
    refine ⟨(prev + 1).toNat + j, by omega, hl, by rw [h2]; omega, ?_⟩
    rw [h3, List.getD_eq_getElem?_getD, h1, Option.getD_some]
    congr 1; omega

/-! ### alignments -/
def alG (pat s : ByteArray) : Nat → Int → List Int → Int
  | _, _, [] => 0
  | i, prev, k :: r => ptsN (pat.data.toList.getD i 0) s k.toNat + (if 0 ≤ prev ∧ k = prev + 1 then 3 else 0) + alG pat s (i + 1) k r
def okG (pat s : ByteArray) : Nat → Int → List Int → Prop
  | i, _, [] => i = pat.size
  | i, prev, k :: r => i < pat.size ∧ prev < k ∧ k < s.size ∧ foldB (pat.data.toList.getD i 0) (s.data.toList.getD k.toNat 0) = true ∧ okG pat s (i + 1) k r
theorem alG_nonneg (pat s : ByteArray) : ∀ (r : List Int) (i : Nat) (prev : Int), 0 ≤ alG pat s i prev r
  | [], _, _ => Int.le_refl _
  | k :: r, i, prev => by
    have h1 := pts_le (pat.data.toList.getD i 0) s k.toNat
    have h2 := alG_nonneg pat s r (i + 1) k
    unfold alG; split <;> omega

theorem al_up (pat s : ByteArray) : ∀ (r : List Int) (i : Nat) (prev k : Int), -1 ≤ prev → okG pat s i prev (k :: r) →
    ptsN (pat.data.toList.getD i 0) s k.toNat + alG pat s (i + 1) k r ≤ ent pat s i k.toNat ∧ ent pat s i k.toNat ≠ -1
  | r, i, prev, k, hp, ⟨h1, h2, h3, h4, h5⟩ => by
    have hpt := pts_le (pat.data.toList.getD i 0) s k.toNat
    rw [ent_eq pat s i k.toNat h1 (by omega)]
    match r, h5 with
    | [], h5 =>
      have e : restB pat s i k.toNat = 0 := by unfold restB; rw [if_pos (by unfold okG at h5; omega)]
      rw [if_pos ⟨h4, by rw [e]; decide⟩, e]
      unfold alG
      omega
    | k' :: r', h5 =>
      obtain ⟨u1, u2⟩ := al_up pat s r' (i + 1) k k' (by omega) h5
      obtain ⟨g1, g2, g3, g4, g5⟩ := h5
      have hb := bestL_ge ((tab pat s).getD (i + 1) []) k (by omega) k'.toNat (by omega) (by rw [row_len pat s (i + 1) g1]; omega)
      have he : ((tab pat s).getD (i + 1) []).getD k'.toNat (-1) = ent pat s (i + 1) k'.toNat := rfl
      rw [he] at hb
      have hr : restB pat s i k.toNat = (bestL ((tab pat s).getD (i + 1) []) k).1 := by unfold restB; rw [if_neg (by omega), show ((k.toNat : Nat) : Int) = k by omega]
      have hn := alG_nonneg pat s r' (i + 2) k'
      have hpt' := pts_le (pat.data.toList.getD (i + 1) 0) s k'.toNat
      have hadj : alG pat s (i + 1) k (k' :: r') ≤ adj k k'.toNat (ent pat s (i + 1) k'.toNat) := by
        unfold alG adj
        by_cases c : 0 ≤ k ∧ k' = k + 1
        · rw [if_pos c, if_pos ⟨u2, c.1, by omega⟩]; omega
        · rw [if_neg c]
          by_cases c2 : ent pat s (i + 1) k'.toNat ≠ -1 ∧ 0 ≤ k ∧ ((k'.toNat : Nat) : Int) = k + 1
          · omega
          · rw [if_neg c2]; omega
      have hn2 := alG_nonneg pat s (k' :: r') (i + 1) k
      rw [if_pos ⟨h4, by rw [hr]; omega⟩, hr]
      omega

theorem al_at (pat s : ByteArray) : ∀ (m i : Nat) (prev : Int), pat.size - i = m → i < pat.size → -1 ≤ prev → (bestL ((tab pat s).getD i []) prev).1 ≠ -1 →
    ∃ r, pickL ((tab pat s).drop (i + 1)) (bestL ((tab pat s).getD i []) prev).2 = some r ∧ okG pat s i prev ((bestL ((tab pat s).getD i []) prev).2 :: r) ∧ alG pat s i prev ((bestL ((tab pat s).getD i []) prev).2 :: r) = (bestL ((tab pat s).getD i []) prev).1
  | 0, i, prev, hm, hi, _, _ => by omega
  | m + 1, i, prev, hm, hi, hp, hne => by
    obtain ⟨k, k1, k2, k3, k4⟩ := bestL_at _ prev hp hne
    rw [row_len pat s i hi] at k2
    have he : ((tab pat s).getD i []).getD k (-1) = ent pat s i k := rfl
    rw [he] at k4
    have hent : ent pat s i k ≠ -1 := by
      intro h
      rw [k4, h] at hne
      exact hne (by unfold adj; rw [if_neg (by simp)])
    have heq := ent_eq pat s i k hi k2
    have hc : foldB (pat.data.toList.getD i 0) (s.data.toList.getD k 0) = true ∧ restB pat s i k ≠ -1 := by
      by_cases c : foldB (pat.data.toList.getD i 0) (s.data.toList.getD k 0) = true ∧ restB pat s i k ≠ -1
      · exact c
      · rw [if_neg c] at heq; exact absurd heq hent
    rw [if_pos hc] at heq
    have hadj : adj prev k (ent pat s i k) = (if 0 ≤ prev ∧ (k : Int) = prev + 1 then 3 else 0) + ent pat s i k := by
      unfold adj
      by_cases c : 0 ≤ prev ∧ (k : Int) = prev + 1
      · rw [if_pos c, if_pos ⟨hent, c⟩]; omega
      · rw [if_neg c, if_neg (fun q => c q.2)]; omega
    rw [k3, k4, hadj]
    have hlen := (tab_facts pat s).1
    by_cases hl : pat.size ≤ i + 1
    · refine ⟨[], ?_, ⟨hi, k1, by omega, by simpa using hc.1, by unfold okG; omega⟩, ?_⟩
      · rw [List.drop_of_length_le (by omega)]; rfl
      · have hr : restB pat s i k = 0 := by unfold restB; rw [if_pos hl]
        simp only [alG, Int.toNat_natCast]
        rw [heq, hr]; omega
    · have hr : restB pat s i k = (bestL ((tab pat s).getD (i + 1) []) k).1 := by unfold restB; rw [if_neg hl]
      have hne2 : (bestL ((tab pat s).getD (i + 1) []) k).1 ≠ -1 := by rw [← hr]; exact hc.2
      obtain ⟨r, r1, r2, r3⟩ := al_at pat s m (i + 1) k (by omega) (by omega) (by omega) hne2
      refine ⟨(bestL ((tab pat s).getD (i + 1) []) k).2 :: r, ?_, ⟨hi, k1, by omega, by simpa using hc.1, r2⟩, ?_⟩
      · rw [List.drop_eq_getElem_cons (show i + 1 < (tab pat s).length by omega)]
        have hg : (tab pat s)[i + 1]'(by omega) = (tab pat s).getD (i + 1) [] := by rw [List.getD_eq_getElem?_getD, List.getElem?_eq_getElem (show i + 1 < (tab pat s).length by omega)]; rfl
        rw [pickL, hg, if_neg hne2, r1]; rfl
      · rw [alG, r3, heq, hr]
        simp only [Int.toNat_natCast]
        omega

/-- the answer is a valid alignment with its score -/
theorem score_valid {pat s : ByteArray} {t : Int} {offs : List Int} (h : scoreL pat s = some (t, offs)) : okG pat s 0 (-1) offs ∧ alG pat s 0 (-1) offs = t := by
  unfold scoreL at h
  split at h
  · cases h
  · obtain ⟨o, h1, h2⟩ := Option.map_eq_some_iff.1 h
    injection h2 with h2 h3
    subst h3
    have hlen := (tab_facts pat s).1
    by_cases hn : pat.size = 0
    · have ht : tab pat s = [] := List.eq_nil_of_length_eq_zero (by omega)
      rw [ht] at h1 h2
      simp only [pickL] at h1
      injection h1 with h1
      subst h1
      exact ⟨hn.symm, by rw [← h2]; rfl⟩
    · have h0 : 0 < (tab pat s).length := by omega
      have hg : (tab pat s)[0]'h0 = (tab pat s).getD 0 [] := by rw [List.getD_eq_getElem?_getD, List.getElem?_eq_getElem h0]; rfl
      have hc : tab pat s = (tab pat s).getD 0 [] :: (tab pat s).drop 1 := by
        have := List.drop_eq_getElem_cons h0
        rw [List.drop_zero, hg] at this
        exact this
      rw [hc] at h1 h2
      simp only [pickL] at h1
      simp only [totalL] at h2
      split at h1
      · cases h1
      · next hne =>
        obtain ⟨r, r1, r2, r3⟩ := al_at pat s pat.size 0 (-1) (by omega) (by omega) (by omega) hne
        rw [show (0 : Nat) + 1 = 1 from rfl] at r1
        rw [r1] at h1
        simp only [Option.map_some] at h1
        injection h1 with h1
        subst h1
        exact ⟨r2, by rw [r3]; exact h2⟩
/-- every valid alignment has at most the score -/
theorem score_best {pat s : ByteArray} {other : List Int} (hp : pat.size ≤ 30) (hs : s.size ≤ 30) (h : okG pat s 0 (-1) other) : ∃ t offs, scoreL pat s = some (t, offs) ∧ alG pat s 0 (-1) other ≤ t := by
  unfold scoreL
  rw [if_neg (by omega)]
  have hlen := (tab_facts pat s).1
  by_cases hn : pat.size = 0
  · have ht : tab pat s = [] := List.eq_nil_of_length_eq_zero (by omega)
    rw [ht]
    match other, h with
    | [], _ => exact ⟨0, [], rfl, Int.le_refl _⟩
    | k :: r, h => exact absurd h.1 (by omega)
  · have h0 : 0 < (tab pat s).length := by omega
    have hg : (tab pat s)[0]'h0 = (tab pat s).getD 0 [] := by rw [List.getD_eq_getElem?_getD, List.getElem?_eq_getElem h0]; rfl
    have hc : tab pat s = (tab pat s).getD 0 [] :: (tab pat s).drop 1 := by
      have := List.drop_eq_getElem_cons h0
      rw [List.drop_zero, hg] at this
      exact this
    match other, h with
    | [], h => exact absurd h.symm hn
    | k :: r, h =>
      obtain ⟨u1, u2⟩ := al_up pat s r 0 (-1) k (by omega) h
      have hk := h.2
      have hb := bestL_ge ((tab pat s).getD 0 []) (-1) (by omega) k.toNat (by omega) (by rw [row_len pat s 0 (by omega)]; omega)
      have he : ((tab pat s).getD 0 []).getD k.toNat (-1) = ent pat s 0 k.toNat := rfl
      rw [he] at hb
      have hge := adj_ge (-1) k.toNat (ent pat s 0 k.toNat)
      have hpt := pts_le (pat.data.toList.getD 0 0) s k.toNat
      have hnn := alG_nonneg pat s r (0 + 1) k
      have hal : alG pat s 0 (-1) (k :: r) = ptsN (pat.data.toList.getD 0 0) s k.toNat + alG pat s (0 + 1) k r := by
        conv => lhs; unfold alG
        rw [if_neg (by omega)]; omega
      have hne : (bestL ((tab pat s).getD 0 []) (-1)).1 ≠ -1 := by omega
      obtain ⟨r', r1, r2, r3⟩ := al_at pat s pat.size 0 (-1) (by omega) (by omega) (by omega) hne
      rw [show (0 : Nat) + 1 = 1 from rfl] at r1
      rw [hc]
      simp only [pickL, totalL]
      rw [if_neg hne, r1]
      exact ⟨_, _, rfl, by rw [hal]; omega⟩
end Go.Proofs.Ytbnoejdhachhhab
