import Derived.Test.YtepadojclmjllaaGreatDoorMxab
import Derived.Test.YtepadojclmjllaaGreatDoorMxag
/-
  The parser's trees are what the builder asks for.
-/
namespace Go.Proofs.YtepadojclmjllaaGreatDoor
set_option linter.unusedVariables false

def txt (r : List Tok) : Nat := (r.map fun x => x.t.size).sum
theorem txt_append (a b : List Tok) : txt (a ++ b) = txt a + txt b := by simp [txt]
theorem leaf_yls (l : List Tok) : yls (l.map Tok.leaf) ≤ txt l := by
  induction l with
  | nil => simp [yls, txt]
  | cons x r ih =>
    rw [List.map_cons, yls, show txt (x :: r) = x.t.size + txt r by simp [txt]]
    have : (Tok.leaf x).yl ≤ x.t.size := by
      unfold Tok.leaf Tree.yl
      split
      · exact Nat.le_refl _
      · simp [yls]
    omega
theorem leaf_wts (l : List Tok) : wts (l.map Tok.leaf) = txt l + l.length := by
  induction l with
  | nil => simp [wts, txt]
  | cons x r ih =>
    rw [List.map_cons, wts, show txt (x :: r) = x.t.size + txt r by simp [txt], ih]
    have : (Tok.leaf x).wt = x.t.size + 1 := by
      unfold Tok.leaf Tree.wt
      simp [wts]
    rw [this, List.length_cons]; omega
theorem taken_after (r : List Tok) : r = taken r ++ after r := by
  have h1 := trivs_sig r
  have h2 := taken_eq r
  rw [h2]
  unfold after
  rw [List.append_assoc, List.take_append_drop]
  exact h1
/-- what a run does to texts and weights -/
theorem run_txt : ∀ (n : Nat) (c : Cmd) (s u : PS), run n c s = some u → yls u.ch + txt u.rest ≤ yls s.ch + txt s.rest ∧ wts u.ch + txt u.rest + u.gas ≤ wts s.ch + txt s.rest + s.gas
  | 0, c, s, u, h => by simp [run] at h
  | n + 1, c, s, u, h => by
    have ih := run_txt n
    cases c with
    | skip => simp [run] at h; subst h; exact ⟨Nat.le_refl _, Nat.le_refl _⟩
    | bump =>
      simp only [run] at h
      obtain ⟨v, hv, rfl⟩ := Option.map_eq_some_iff.1 h
      obtain ⟨h1, h2, h3, h4, h5⟩ := add_gas hv
      have e := congrArg txt (taken_after s.rest)
      rw [txt_append] at e
      have l1 := leaf_yls (taken s.rest)
      have l2 := leaf_wts (taken s.rest)
      simp only
      rw [h4, yls_append, wts_append, l2]
      rw [List.length_map] at h5
      omega
    | trivia =>
      simp only [run] at h
      obtain ⟨v, hv, rfl⟩ := Option.map_eq_some_iff.1 h
      obtain ⟨h1, h2, h3, h4, h5⟩ := add_gas hv
      have e := congrArg txt (trivs_sig s.rest)
      rw [txt_append] at e
      have l1 := leaf_yls (trivs s.rest)
      have l2 := leaf_wts (trivs s.rest)
      simp only
      rw [h4, yls_append, wts_append, l2]
      rw [List.length_map] at h5
      omega
    | leaf k =>
      simp only [run] at h
      obtain ⟨h1, h2, h3, h4, h5⟩ := add_gas h
      rw [h3, h4, yls_append, wts_append]
      have e1 : yls [Tree.mk k .empty []] = 0 := by
        simp only [yls, Tree.yl]
        split <;> rfl
      have e2 : wts [Tree.mk k .empty []] = 1 := by simp [wts, Tree.wt]
      rw [e1, e2]
      simp only [List.length_singleton] at h5
      omega
    | node k c =>
      simp only [run] at h
      split at h
      · next hg =>
        obtain ⟨v, hv, rfl⟩ := Option.map_eq_some_iff.1 h
        obtain ⟨h1, h2⟩ := ih _ _ _ hv
        simp only [yls, wts, Nat.zero_add] at h1 h2
        simp only
        rw [yls_append, wts_append]
        have e1 : yls [Tree.mk k .empty v.ch] ≤ yls v.ch := by
          simp only [yls, Tree.yl]
          split
          · simp
          · simp
        have e2 : wts [Tree.mk k .empty v.ch] = 1 + wts v.ch := by simp [wts, Tree.wt]
        rw [e2]
        omega
      · cases h
    | wrap k c =>
      simp only [run] at h
      split at h
      · cases h
      · next x hx =>
        split at h
        · next hg =>
          obtain ⟨v, hv, rfl⟩ := Option.map_eq_some_iff.1 h
          obtain ⟨h1, h2⟩ := ih _ _ _ hv
          have hsp : s.ch = s.ch.dropLast ++ [x] := by
            obtain ⟨ys, e⟩ := List.getLast?_eq_some_iff.1 hx
            rw [e]; simp
          have y1 := congrArg yls hsp
          have y2 := congrArg wts hsp
          rw [yls_append] at y1
          rw [wts_append] at y2
          simp only at h1 h2 ⊢
          rw [yls_append, wts_append]
          have e1 : yls [Tree.mk k .empty v.ch] ≤ yls v.ch := by
            simp only [yls, Tree.yl]
            split
            · simp
            · simp
          have e2 : wts [Tree.mk k .empty v.ch] = 1 + wts v.ch := by simp [wts, Tree.wt]
          rw [e2]
          omega
        · cases h
    | seq c d =>
      simp only [run] at h
      obtain ⟨v, h1, h2⟩ := Option.bind_eq_some_iff.1 h
      have a := ih _ _ _ h1
      have b := ih _ _ _ h2
      omega
    | ite t c d =>
      simp only [run] at h
      split at h
      · exact ih _ _ _ h
      · exact ih _ _ _ h
    | loop t c =>
      simp only [run] at h
      split at h
      · obtain ⟨v, h1, h2⟩ := Option.bind_eq_some_iff.1 h
        have a := ih _ _ _ h1
        have b := ih _ _ _ h2
        omega
      · injection h with h; subst h; exact ⟨Nat.le_refl _, Nat.le_refl _⟩
    | moved c d e =>
      simp only [run] at h
      obtain ⟨v, h1, h2⟩ := Option.bind_eq_some_iff.1 h
      have a := ih _ _ _ h1
      split at h2
      · have b := ih _ _ _ h2; omega
      · have b := ih _ _ _ h2; omega
    | dropLast =>
      simp only [run] at h
      split at h
      · cases h
      · next x r hx =>
        injection h with h; subst h
        have hsp := (List.dropLast_concat_getLast (l := s.ch) (by rw [hx]; simp)).symm
        have y1 := congrArg yls hsp
        have y2 := congrArg wts hsp
        rw [yls_append] at y1
        rw [wts_append] at y2
        simp only
        omega
    | insNone =>
      simp only [run] at h
      split at h
      · cases h
      · next x hx =>
        split at h
        · next hg =>
          injection h with h; subst h
          have hsp : s.ch = s.ch.dropLast ++ [x] := by
            obtain ⟨ys, e⟩ := List.getLast?_eq_some_iff.1 hx
            rw [e]; simp
          have y1 := congrArg yls hsp
          have y2 := congrArg wts hsp
          rw [yls_append] at y1
          rw [wts_append] at y2
          simp only
          rw [yls_append, wts_append]
          have e1 : yls [Tree.mk 0 .empty [], x] = yls [x] := by simp [yls, Tree.yl]
          have e2 : wts [Tree.mk 0 .empty [], x] = 1 + wts [x] := by simp [wts, Tree.wt]
          rw [e1, e2]
          omega
        · cases h
    | setFlag b => simp [run] at h; subst h; exact ⟨Nat.le_refl _, Nat.le_refl _⟩
    | call f => simp only [run] at h; exact ih _ _ _ h
/-- what a run leaves of the tokens -/
theorem run_rest (n : Nat) (c : Cmd) (s u : PS) (h : run n c s = some u) : u.rest <:+ s.rest := by
  induction n generalizing c s u with
  | zero => simp [run] at h
  | succ n ih =>
    cases c with
    | skip => simp [run] at h; subst h; exact List.suffix_refl _
    | bump =>
      simp only [run] at h
      obtain ⟨v, hv, rfl⟩ := Option.map_eq_some_iff.1 h
      exact ⟨_, (taken_after s.rest).symm⟩
    | trivia =>
      simp only [run] at h
      obtain ⟨v, hv, rfl⟩ := Option.map_eq_some_iff.1 h
      exact ⟨_, (trivs_sig s.rest).symm⟩
    | leaf k =>
      simp only [run] at h
      rw [(add_gas h).2.2.1]; exact List.suffix_refl _
    | node k c =>
      simp only [run] at h
      split at h
      · obtain ⟨v, hv, e⟩ := Option.map_eq_some_iff.1 h
        have := ih _ _ _ hv
        rw [← e]; exact this
      · cases h
    | wrap k c =>
      simp only [run] at h
      split at h
      · cases h
      · split at h
        · obtain ⟨v, hv, e⟩ := Option.map_eq_some_iff.1 h
          have := ih _ _ _ hv
          rw [← e]; exact this
        · cases h
    | seq c d =>
      simp only [run] at h
      obtain ⟨v, h1, h2⟩ := Option.bind_eq_some_iff.1 h
      exact (ih _ _ _ h2).trans (ih _ _ _ h1)
    | ite t c d =>
      simp only [run] at h
      split at h
      · exact ih _ _ _ h
      · exact ih _ _ _ h
    | loop t c =>
      simp only [run] at h
      split at h
      · obtain ⟨v, h1, h2⟩ := Option.bind_eq_some_iff.1 h
        exact (ih _ _ _ h2).trans (ih _ _ _ h1)
      · injection h with h; subst h; exact List.suffix_refl _
    | moved c d e =>
      simp only [run] at h
      obtain ⟨v, h1, h2⟩ := Option.bind_eq_some_iff.1 h
      split at h2
      · exact (ih _ _ _ h2).trans (ih _ _ _ h1)
      · exact (ih _ _ _ h2).trans (ih _ _ _ h1)
    | dropLast =>
      simp only [run] at h
      split at h
      · cases h
      · injection h with h; subst h; exact List.suffix_refl _
    | insNone =>
      simp only [run] at h
      split at h
      · cases h
      · split at h
        · injection h with h; subst h; exact List.suffix_refl _
        · cases h
    | setFlag b => simp [run] at h; subst h; exact List.suffix_refl _
    | call f => simp only [run] at h; exact ih _ _ _ h
end Go.Proofs.YtepadojclmjllaaGreatDoor
