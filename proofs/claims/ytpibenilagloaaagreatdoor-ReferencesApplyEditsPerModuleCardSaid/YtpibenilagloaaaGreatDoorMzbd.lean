import Derived.Test.YtpibenilagloaaaGreatDoorMzaz
import Derived.Test.YtpibenilagloaaaGreatDoorMzbc
import Derived.Test.YtpibenilagloaaaGreatDoorMzac
import Derived.Lib.AtoiAllCases
namespace Go.Proofs.YtpibenilagloaaaGreatDoor
set_option linter.unusedVariables false
def txt (r : List Tok) : Nat := (r.map fun x => x.t.size).sum
theorem txt_append (a b : List Tok) : txt (a ++ b) = txt a + txt b := by simp [txt]
theorem leaf_yls (l : List Tok) : yls (l.map Tok.leaf) ≤ txt l := by
  induction l with
  | nil => simp [yls, txt]
  | cons x r ih =>
    rw [List.map_cons, yls, show txt (x :: r) = x.t.size + txt r by simp [txt]]
    have : (Tok.leaf x).yl ≤ x.t.size := by
      unfold Tok.leaf Tree.yl
      split
      · exact Nat.le_refl _
      · simp [yls]
    omega
theorem leaf_wts (l : List Tok) : wts (l.map Tok.leaf) = txt l + l.length := by
  induction l with
  | nil => simp [wts, txt]
  | cons x r ih =>
    rw [List.map_cons, wts, show txt (x :: r) = x.t.size + txt r by simp [txt], ih]
    have : (Tok.leaf x).wt = x.t.size + 1 := by
      unfold Tok.leaf Tree.wt
      simp [wts]
    rw [this, List.length_cons]; omega
theorem taken_after (r : List Tok) : r = taken r ++ after r := by
  have h1 := trivs_sig r
  have h2 := taken_eq r
  rw [h2]
  unfold after
  rw [List.append_assoc, List.take_append_drop]
  exact h1
theorem run_txt : ∀ (n : Nat) (c : Cmd) (s u : PS), run n c s = some u → yls u.ch + txt u.rest ≤ yls s.ch + txt s.rest ∧ wts u.ch + txt u.rest + u.gas ≤ wts s.ch + txt s.rest + s.gas
  | 0, c, s, u, h => by simp [run] at h
  | n + 1, c, s, u, h => by
    have ih := run_txt n
    cases c with
    | skip => simp [run] at h; subst h; exact ⟨Nat.le_refl _, Nat.le_refl _⟩
    | bump =>
      simp only [run] at h
      obtain ⟨v, hv, rfl⟩ := Option.map_eq_some_iff.1 h
      obtain ⟨h1, h2, h3, h4, h5⟩ := add_gas hv
      have e := congrArg txt (taken_after s.rest)
      rw [txt_append] at e
      have l1 := leaf_yls (taken s.rest)
      have l2 := leaf_wts (taken s.rest)
      simp only
      rw [h4, yls_append, wts_append, l2]
      rw [List.length_map] at h5
      omega
    | trivia =>
      simp only [run] at h
      obtain ⟨v, hv, rfl⟩ := Option.map_eq_some_iff.1 h
      obtain ⟨h1, h2, h3, h4, h5⟩ := add_gas hv
      have e := congrArg txt (trivs_sig s.rest)
      rw [txt_append] at e
      have l1 := leaf_yls (trivs s.rest)
      have l2 := leaf_wts (trivs s.rest)
      simp only
      rw [h4, yls_append, wts_append, l2]
      rw [List.length_map] at h5
      omega
    | leaf k =>
      simp only [run] at h
      obtain ⟨h1, h2, h3, h4, h5⟩ := add_gas h
      rw [h3, h4, yls_append, wts_append]
      have e1 : yls [Tree.mk k .empty []] = 0 := by
        simp only [yls, Tree.yl]
        split <;> rfl
      have e2 : wts [Tree.mk k .empty []] = 1 := by simp [wts, Tree.wt]
      rw [e1, e2]
      simp only [List.length_singleton] at h5
      omega
    | node k c =>
      simp only [run] at h
      split at h
      · next hg =>
        obtain ⟨v, hv, rfl⟩ := Option.map_eq_some_iff.1 h
        obtain ⟨h1, h2⟩ := ih _ _ _ hv
        simp only [yls, wts, Nat.zero_add] at h1 h2
        simp only
        rw [yls_append, wts_append]
        have e1 : yls [Tree.mk k .empty v.ch] ≤ yls v.ch := by
          simp only [yls, Tree.yl]
          split
          · simp
          · simp
        have e2 : wts [Tree.mk k .empty v.ch] = 1 + wts v.ch := by simp [wts, Tree.wt]
        rw [e2]
        omega
      · cases h
    | wrap k c =>
      simp only [run] at h
      split at h
      · cases h
      · next x hx =>
        split at h
        · next hg =>
          obtain ⟨v, hv, rfl⟩ := Option.map_eq_some_iff.1 h
          obtain ⟨h1, h2⟩ := ih _ _ _ hv
          have hsp : s.ch = s.ch.dropLast ++ [x] := by
            obtain ⟨ys, e⟩ := List.getLast?_eq_some_iff.1 hx
            rw [e]; simp
          have y1 := congrArg yls hsp
          have y2 := congrArg wts hsp
          rw [yls_append] at y1
          rw [wts_append] at y2
          simp only at h1 h2 ⊢
          rw [yls_append, wts_append]
          have e1 : yls [Tree.mk k .empty v.ch] ≤ yls v.ch := by
            simp only [yls, Tree.yl]
            split
            · simp
            · simp
          have e2 : wts [Tree.mk k .empty v.ch] = 1 + wts v.ch := by simp [wts, Tree.wt]
          rw [e2]
          omega
        · cases h
    | seq c d =>
      simp only [run] at h
      obtain ⟨v, h1, h2⟩ := Option.bind_eq_some_iff.1 h
      have a := ih _ _ _ h1
      have b := ih _ _ _ h2
      omega
    | ite t c d =>
      simp only [run] at h
      split at h
      · exact ih _ _ _ h
      · exact ih _ _ _ h
    | loop t c =>
      simp only [run] at h
      split at h
      · obtain ⟨v, h1, h2⟩ := Option.bind_eq_some_iff.1 h
        have a := ih _ _ _ h1
        have b := ih _ _ _ h2
        omega
      · injection h with h; subst h; exact ⟨Nat.le_refl _, Nat.le_refl _⟩
    | moved c d e =>
      simp only [run] at h
      obtain ⟨v, h1, h2⟩ := Option.bind_eq_some_iff.1 h
      have a := ih _ _ _ h1
      split at h2
      · have b := ih _ _ _ h2; omega
      · have b := ih _ _ _ h2; omega
    | dropLast =>
      simp only [run] at h
      split at h
      · cases h
      · next x r hx =>
        injection h with h; subst h
        have hsp := (List.dropLast_concat_getLast (l := s.ch) (by rw [hx]; simp)).symm
        have y1 := congrArg yls hsp
        have y2 := congrArg wts hsp
        rw [yls_append] at y1
        rw [wts_append] at y2
        simp only
        omega
    | insNone =>
      simp only [run] at h
      split at h
      · cases h
      · next x hx =>
        split at h
        · next hg =>
          injection h with h; subst h
          have hsp : s.ch = s.ch.dropLast ++ [x] := by
            obtain ⟨ys, e⟩ := List.getLast?_eq_some_iff.1 hx
            rw [e]; simp
          have y1 := congrArg yls hsp
          have y2 := congrArg wts hsp
          rw [yls_append] at y1
          rw [wts_append] at y2
          simp only
          rw [yls_append, wts_append]
          have e1 : yls [Tree.mk 0 .empty [], x] = yls [x] := by simp [yls, Tree.yl]
          have e2 : wts [Tree.mk 0 .empty [], x] = 1 + wts [x] := by simp [wts, Tree.wt]
          rw [e1, e2]
          omega
        · cases h
    | setFlag b => simp [run] at h; subst h; exact ⟨Nat.le_refl _, Nat.le_refl _⟩
    | call f => simp only [run] at h; exact ih _ _ _ h
theorem run_rest (n : Nat) (c : Cmd) (s u : PS) (h : run n c s = some u) : u.rest <:+ s.rest := by
  induction n generalizing c s u with
  | zero => simp [run] at h
  | succ n ih =>
    cases c with
    | skip => simp [run] at h; subst h; exact List.suffix_refl _
    | bump =>
      simp only [run] at h
      obtain ⟨v, hv, rfl⟩ := Option.map_eq_some_iff.1 h
      exact ⟨_, (taken_after s.rest).symm⟩
    | trivia =>
      simp only [run] at h
      obtain ⟨v, hv, rfl⟩ := Option.map_eq_some_iff.1 h
      exact ⟨_, (trivs_sig s.rest).symm⟩
    | leaf k =>
      simp only [run] at h
      rw [(add_gas h).2.2.1]; exact List.suffix_refl _
    | node k c =>
      simp only [run] at h
      split at h
      · obtain ⟨v, hv, e⟩ := Option.map_eq_some_iff.1 h
        have := ih _ _ _ hv
        rw [← e]; exact this
      · cases h
    | wrap k c =>
      simp only [run] at h
      split at h
      · cases h
      · split at h
        · obtain ⟨v, hv, e⟩ := Option.map_eq_some_iff.1 h
          have := ih _ _ _ hv
          rw [← e]; exact this
        · cases h
    | seq c d =>
      simp only [run] at h
      obtain ⟨v, h1, h2⟩ := Option.bind_eq_some_iff.1 h
      exact (ih _ _ _ h2).trans (ih _ _ _ h1)
    | ite t c d =>
      simp only [run] at h
      split at h
      · exact ih _ _ _ h
      · exact ih _ _ _ h
    | loop t c =>
      simp only [run] at h
      split at h
      · obtain ⟨v, h1, h2⟩ := Option.bind_eq_some_iff.1 h
        exact (ih _ _ _ h2).trans (ih _ _ _ h1)
      · injection h with h; subst h; exact List.suffix_refl _
    | moved c d e =>
      simp only [run] at h
      obtain ⟨v, h1, h2⟩ := Option.bind_eq_some_iff.1 h
      split at h2
      · exact (ih _ _ _ h2).trans (ih _ _ _ h1)
      · exact (ih _ _ _ h2).trans (ih _ _ _ h1)
    | dropLast =>
      simp only [run] at h
      split at h
      · cases h
      · injection h with h; subst h; exact List.suffix_refl _
    | insNone =>
      simp only [run] at h
      split at h
      · cases h
      · split at h
        · injection h with h; subst h; exact List.suffix_refl _
        · cases h
    | setFlag b => simp [run] at h; subst h; exact List.suffix_refl _
    | call f => simp only [run] at h; exact ih _ _ _ h

def hasN (l : List Tree) : Prop := ∃ x ∈ l, x.k < 100
def trF : Fn → Bool → Bool
  | .expr, _ => true
  | .binary _, _ => true
  | .unary, _ => true
  | .primary, _ => true
  | .postfixS, b => b
  | .path _, _ => true
  | .block, _ => true
  | .ifExpr, _ => true
  | _, _ => false
def tr : Cmd → Bool → Bool
  | .skip, b => b
  | .bump, b => b
  | .trivia, b => b
  | .leaf k, b => b || decide (k < 100)
  | .node k _, b => b || decide (k < 100)
  | .wrap k _, b => decide (k < 100)
  | .seq c d, b => tr d (tr c b)
  | .ite _ c d, b => tr c b && tr d b
  | .loop _ c, b => b && tr c true
  | .moved c d e, b => tr d (tr c b) && tr e (tr c b)
  | .dropLast, _ => false
  | .insNone, _ => true
  | .setFlag _, b => b
  | .call f, b => trF f b
theorem trF_body (f : Fn) (b : Bool) (h : trF f b = true) : tr (body f) b = true := by
  cases f with
  | path x => cases x <;> cases b <;> decide
  | binary l =>
    simp only [body]
    split
    · rfl
    · simp only [tr, trF]
      split <;> rfl
  | expr => rfl
  | unary => cases b <;> decide
  | primary => cases b <;> decide
  | postfixS => simp only [trF] at h; subst h; decide
  | block => cases b <;> decide
  | ifExpr => cases b <;> decide
  | _ => simp [trF] at h
theorem hasN_append {a b : List Tree} (h : hasN a) : hasN (a ++ b) := by
  obtain ⟨x, hx, hk⟩ := h
  exact ⟨x, by simp [hx], hk⟩
theorem run_tr : ∀ (n : Nat) (c : Cmd) (b : Bool) (s u : PS), run n c s = some u → (b = true → hasN s.ch) → tr c b = true → hasN u.ch
  | 0, c, b, s, u, h, _, _ => by simp [run] at h
  | n + 1, c, b, s, u, h, hb, ht => by
    have ih := run_tr n
    cases c with
    | skip => simp [run] at h; subst h; exact hb ht
    | bump =>
      simp only [run] at h
      obtain ⟨v, hv, rfl⟩ := Option.map_eq_some_iff.1 h
      simp only
      rw [(add_gas hv).2.2.2.1]
      exact hasN_append (hb ht)
    | trivia =>
      simp only [run] at h
      obtain ⟨v, hv, rfl⟩ := Option.map_eq_some_iff.1 h
      simp only
      rw [(add_gas hv).2.2.2.1]
      exact hasN_append (hb ht)
    | leaf k =>
      simp only [run] at h
      rw [(add_gas h).2.2.2.1]
      simp only [tr, Bool.or_eq_true, decide_eq_true_eq] at ht
      rcases ht with ht | ht
      · exact hasN_append (hb ht)
      · exact ⟨.mk k .empty [], by simp, ht⟩
    | node k c =>
      simp only [run] at h
      split at h
      · obtain ⟨v, hv, e⟩ := Option.map_eq_some_iff.1 h
        rw [← e]
        simp only [tr, Bool.or_eq_true, decide_eq_true_eq] at ht
        rcases ht with ht | ht
        · exact hasN_append (hb ht)
        · exact ⟨.mk k .empty v.ch, by simp, ht⟩
      · cases h
    | wrap k c =>
      simp only [run] at h
      split at h
      · cases h
      · split at h
        · obtain ⟨v, hv, e⟩ := Option.map_eq_some_iff.1 h
          rw [← e]
          simp only [tr, decide_eq_true_eq] at ht
          exact ⟨.mk k .empty v.ch, by simp, ht⟩
        · cases h
    | seq c d =>
      simp only [run] at h
      obtain ⟨v, h1, h2⟩ := Option.bind_eq_some_iff.1 h
      simp only [tr] at ht
      exact ih _ _ _ _ h2 (fun e => ih _ _ _ _ h1 hb e) ht
    | ite t c d =>
      simp only [run] at h
      simp only [tr, Bool.and_eq_true] at ht
      split at h
      · exact ih _ _ _ _ h hb ht.1
      · exact ih _ _ _ _ h hb ht.2
    | loop t c =>
      simp only [run] at h
      simp only [tr, Bool.and_eq_true] at ht
      split at h
      · obtain ⟨v, h1, h2⟩ := Option.bind_eq_some_iff.1 h
        have a := ih c true _ _ h1 (fun _ => hb ht.1) ht.2
        exact ih (.loop t c) true _ _ h2 (fun _ => a) (by simp [tr, ht.2])
      · injection h with h; subst h; exact hb ht.1
    | moved c d e =>
      simp only [run] at h
      obtain ⟨v, h1, h2⟩ := Option.bind_eq_some_iff.1 h
      simp only [tr, Bool.and_eq_true] at ht
      split at h2
      · exact ih _ _ _ _ h2 (fun e => ih _ _ _ _ h1 hb e) ht.1
      · exact ih _ _ _ _ h2 (fun e => ih _ _ _ _ h1 hb e) ht.2
    | dropLast => simp [tr] at ht
    | insNone =>
      simp only [run] at h
      split at h
      · cases h
      · split at h
        · injection h with h; subst h
          exact ⟨.mk 0 .empty [], by simp, by decide⟩
        · cases h
    | setFlag x => simp [run] at h; subst h; exact hb ht
    | call f => simp only [run] at h; exact ih _ _ _ _ h hb (trF_body f b ht)
def okC : Cmd → Bool
  | .leaf k => decide (k ≠ 105 ∧ k ≠ 60)
  | .node k c => decide (k ≠ 105) && (decide (k ≠ 60) || tr c false) && okC c
  | .wrap k c => decide (k ≠ 105 ∧ k ≠ 60) && okC c
  | .seq c d => okC c && okC d
  | .ite _ c d => okC c && okC d
  | .loop _ c => okC c
  | .moved c d e => okC c && okC d && okC e
  | _ => true
theorem okC_body (f : Fn) : okC (body f) = true := by
  cases f with
  | path x => cases x <;> decide
  | params x => rfl
  | binary l =>
    simp only [body]
    split
    · rfl
    · simp only [okC]
      split <;> rfl
  | itemBody k =>
    simp only [body]
    split
    · rfl
    · split
      · rfl
      · split
        · rfl
        · split
          · rfl
          · split
            · rfl
            · split <;> rfl
  | function x => cases x <;> decide
  | dataType k =>
    simp only [body]
    by_cases h : k = 4
    · simp only [h]; decide
    · simp only [if_neg h]; decide
  | _ => decide
def NumTok (x : Tok) : Prop := x.k = 105 → x.t.size ≤ 281474976710656 ∧ (Lib.atoiAll x.t.data.toList = .range ∨ ∃ v, Lib.atoiAll x.t.data.toList = .ok v)
theorem oks_append {a b : List Tree} (h : oks a) (k : oks b) : oks (a ++ b) := oks_of fun x hx => (List.mem_append.1 hx).elim (oks_mem h x) (oks_mem k x)
theorem oks_leafs {l : List Tok} (h : ∀ x ∈ l, NumTok x) (h6 : ∀ x ∈ l, x.k ≠ 60) : oks (l.map Tok.leaf) := oks_of fun y hy => by
  obtain ⟨x, hx, rfl⟩ := List.mem_map.1 hy
  unfold Tok.leaf Tree.ok
  exact ⟨h x hx, fun e => absurd e (h6 x hx), by unfold oks; trivial⟩
theorem oks_node {k : Int} {ch : List Tree} (h1 : k ≠ 105) (h2 : k = 60 → hasN ch) (h3 : oks ch) : oks [Tree.mk k .empty ch] := by
  unfold oks Tree.ok
  exact ⟨⟨fun e => absurd e h1, h2, h3⟩, by unfold oks; trivial⟩
theorem oks_last {l : List Tree} {x : Tree} (h : oks l) (hx : l.getLast? = some x) : oks l.dropLast ∧ oks [x] := by
  obtain ⟨ys, e⟩ := List.getLast?_eq_some_iff.1 hx
  subst e
  exact ⟨oks_of fun y hy => oks_mem h y (by simp at hy; simp [hy]), oks_of fun y hy => oks_mem h y (by simp at hy; simp [hy])⟩
theorem run_oks : ∀ (n : Nat) (c : Cmd) (s u : PS), run n c s = some u → okC c = true → oks s.ch → (∀ x ∈ s.rest, NumTok x ∧ x.k ≠ 60) → oks u.ch
  | 0, c, s, u, h, _, _, _ => by simp [run] at h
  | n + 1, c, s, u, h, hc, hs, hr => by
    have ih := run_oks n
    have hsub : ∀ {l : List Tok}, (∀ x ∈ l, x ∈ s.rest) → oks (l.map Tok.leaf) := fun hl => oks_leafs (fun x hx => (hr x (hl x hx)).1) (fun x hx => (hr x (hl x hx)).2)
    cases c with
    | skip => simp [run] at h; subst h; exact hs
    | bump =>
      simp only [run] at h
      obtain ⟨v, hv, rfl⟩ := Option.map_eq_some_iff.1 h
      simp only
      rw [(add_gas hv).2.2.2.1]
      exact oks_append hs (hsub fun x hx => List.mem_of_mem_take hx)
    | trivia =>
      simp only [run] at h
      obtain ⟨v, hv, rfl⟩ := Option.map_eq_some_iff.1 h
      simp only
      rw [(add_gas hv).2.2.2.1]
      exact oks_append hs (hsub fun x hx => List.mem_of_mem_take hx)
    | leaf k =>
      simp only [run] at h
      rw [(add_gas h).2.2.2.1]
      simp only [okC, decide_eq_true_eq] at hc
      exact oks_append hs (oks_node hc.1 (fun e => absurd e hc.2) (by unfold oks; trivial))
    | node k c =>
      simp only [run] at h
      split at h
      · obtain ⟨v, hv, e⟩ := Option.map_eq_some_iff.1 h
        rw [← e]
        simp only [okC, Bool.and_eq_true, Bool.or_eq_true, decide_eq_true_eq] at hc
        exact oks_append hs (oks_node hc.1.1 (fun e => run_tr n c false _ _ hv (fun e => by cases e) (hc.1.2.resolve_left (fun h => h e))) (ih _ _ _ hv hc.2 (by unfold oks; trivial) hr))
      · cases h
    | wrap k c =>
      simp only [run] at h
      split at h
      · cases h
      · next x hx =>
        split at h
        · obtain ⟨v, hv, e⟩ := Option.map_eq_some_iff.1 h
          rw [← e]
          simp only [okC, Bool.and_eq_true, decide_eq_true_eq] at hc
          obtain ⟨h1, h2⟩ := oks_last hs hx
          exact oks_append h1 (oks_node hc.1.1 (fun e => absurd e hc.1.2) (ih _ _ _ hv hc.2 h2 hr))
        · cases h
    | seq c d =>
      simp only [run] at h
      obtain ⟨v, h1, h2⟩ := Option.bind_eq_some_iff.1 h
      simp only [okC, Bool.and_eq_true] at hc
      have hsf := run_rest _ _ _ _ h1
      exact ih _ _ _ h2 hc.2 (ih _ _ _ h1 hc.1 hs hr) (fun x hx => hr x (hsf.subset hx))
    | ite t c d =>
      simp only [run] at h
      simp only [okC, Bool.and_eq_true] at hc
      split at h
      · exact ih _ _ _ h hc.1 hs hr
      · exact ih _ _ _ h hc.2 hs hr
    | loop t c =>
      simp only [run] at h
      have hc' := hc
      simp only [okC] at hc
      split at h
      · obtain ⟨v, h1, h2⟩ := Option.bind_eq_some_iff.1 h
        have hsf := run_rest _ _ _ _ h1
        exact ih _ _ _ h2 hc' (ih _ _ _ h1 hc hs hr) (fun x hx => hr x (hsf.subset hx))
      · injection h with h; subst h; exact hs
    | moved c d e =>
      simp only [run] at h
      obtain ⟨v, h1, h2⟩ := Option.bind_eq_some_iff.1 h
      simp only [okC, Bool.and_eq_true] at hc
      have hsf := run_rest _ _ _ _ h1
      have a := ih _ _ _ h1 hc.1.1 hs hr
      split at h2
      · exact ih _ _ _ h2 hc.1.2 a (fun x hx => hr x (hsf.subset hx))
      · exact ih _ _ _ h2 hc.2 a (fun x hx => hr x (hsf.subset hx))
    | dropLast =>
      simp only [run] at h
      split at h
      · cases h
      · injection h with h; subst h
        exact oks_of fun y hy => oks_mem hs y (List.dropLast_subset _ hy)
    | insNone =>
      simp only [run] at h
      split at h
      · cases h
      · next x hx =>
        split at h
        · injection h with h; subst h
          obtain ⟨h1, h2⟩ := oks_last hs hx
          exact oks_append h1 (oks_append (oks_node (k := 0) (by decide) (fun e => by cases e) (by unfold oks; trivial)) h2)
        · cases h
    | setFlag x => simp [run] at h; subst h; exact hs
    | call f => simp only [run] at h; exact ih _ _ _ h (okC_body f) hs hr
theorem digits_num : ∀ (l : List UInt8) (acc : Nat), (∀ c ∈ l, isDigitB c = true) → Lib.parseUint10 acc l = .range ∨ ∃ v, Lib.parseUint10 acc l = .ok v
  | [], acc, _ => .inr ⟨acc, rfl⟩
  | c :: r, acc, h => by
    have hc := h c (by simp)
    unfold isDigitB at hc
    simp only [Bool.and_eq_true, decide_eq_true_eq] at hc
    unfold Lib.parseUint10
    rw [if_pos hc]
    split
    · exact .inl rfl
    · split
      · exact .inl rfl
      · exact digits_num r _ fun d hd => h d (by simp [hd])
theorem atoi_digits (l : List UInt8) (h0 : l ≠ []) (h : ∀ c ∈ l, isDigitB c = true) : Lib.atoiAll l = .range ∨ ∃ v, Lib.atoiAll l = .ok v := by
  cases l with
  | nil => exact absurd rfl h0
  | cons c r =>
    have hc := h c (by simp)
    unfold isDigitB at hc
    simp only [Bool.and_eq_true, decide_eq_true_eq] at hc
    rw [Lib.atoiAll_plain c r (by omega) (by omega)]
    unfold Lib.parseMag
    rw [if_neg (by simp)]
    rcases digits_num (c :: r) 0 h with e | ⟨v, e⟩
    · rw [e]; exact .inl rfl
    · rw [e]
      unfold Lib.signless
      simp only
      split
      · exact .inl rfl
      · exact .inr ⟨_, rfl⟩
theorem kt {p : Nat × Int} {k : Int} {Q : Prop} (hp : p.2 = k) (h1 : k ≠ 60) (h2 : 100 ≤ k) (h3 : k ≠ 105) : p.2 ≠ 60 ∧ 100 ≤ p.2 ∧ (p.2 = 105 → Q) := by
  rw [hp]; exact ⟨h1, h2, fun e => absurd e h3⟩
theorem takeWhile_mem {α : Type} (p : α → Bool) : ∀ (l : List α) (x : α), x ∈ l.takeWhile p → p x = true
  | [], x, h => by simp at h
  | y :: r, x, h => by
    by_cases hy : p y = true
    · rw [List.takeWhile_cons_of_pos hy] at h
      rcases List.mem_cons.1 h with rfl | h
      · exact hy
      · exact takeWhile_mem p r x h
    · rw [List.takeWhile_cons_of_neg (by simpa using hy)] at h; cases h
theorem firstL_kind (s : List UInt8) (h : s ≠ []) : (firstL s).2 ≠ 60 ∧ 100 ≤ (firstL s).2 ∧ ((firstL s).2 = 105 → ∃ c r, s = c :: r ∧ isDigitB c = true ∧ (firstL s).1 = scanL isDigitB s) := by
  cases s with
  | nil => exact absurd rfl h
  | cons c r =>
    unfold firstL
    simp only
    split
    · first | exact kt (k := 101) rfl (by decide) (by decide) (by decide) | exact kt (k := 102) rfl (by decide) (by decide) (by decide) | exact kt (k := 103) rfl (by decide) (by decide) (by decide) | exact kt (k := 104) rfl (by decide) (by decide) (by decide) | exact kt (k := 106) rfl (by decide) (by decide) (by decide) | exact kt (k := 107) rfl (by decide) (by decide) (by decide) | exact kt (k := 108) rfl (by decide) (by decide) (by decide)
    · split
      · first | exact kt (k := 101) rfl (by decide) (by decide) (by decide) | exact kt (k := 102) rfl (by decide) (by decide) (by decide) | exact kt (k := 103) rfl (by decide) (by decide) (by decide) | exact kt (k := 104) rfl (by decide) (by decide) (by decide) | exact kt (k := 106) rfl (by decide) (by decide) (by decide) | exact kt (k := 107) rfl (by decide) (by decide) (by decide) | exact kt (k := 108) rfl (by decide) (by decide) (by decide)
      · split
        · exact kt (k := if (c :: r).take (scanL isWordB (c :: r)) ∈ keywordsL then 104 else 103) rfl (by split <;> decide) (by split <;> decide) (by split <;> decide)
        · split
          · next hd => exact ⟨show (105 : Int) ≠ 60 by decide, show (100 : Int) ≤ 105 by decide, fun _ => ⟨c, r, rfl, hd, rfl⟩⟩
          · split
            · unfold strL
              split <;> first | exact kt (k := 101) rfl (by decide) (by decide) (by decide) | exact kt (k := 102) rfl (by decide) (by decide) (by decide) | exact kt (k := 103) rfl (by decide) (by decide) (by decide) | exact kt (k := 104) rfl (by decide) (by decide) (by decide) | exact kt (k := 106) rfl (by decide) (by decide) (by decide) | exact kt (k := 107) rfl (by decide) (by decide) (by decide) | exact kt (k := 108) rfl (by decide) (by decide) (by decide)
            · split
              · first | exact kt (k := 101) rfl (by decide) (by decide) (by decide) | exact kt (k := 102) rfl (by decide) (by decide) (by decide) | exact kt (k := 103) rfl (by decide) (by decide) (by decide) | exact kt (k := 104) rfl (by decide) (by decide) (by decide) | exact kt (k := 106) rfl (by decide) (by decide) (by decide) | exact kt (k := 107) rfl (by decide) (by decide) (by decide) | exact kt (k := 108) rfl (by decide) (by decide) (by decide)
              · split <;> first | exact kt (k := 101) rfl (by decide) (by decide) (by decide) | exact kt (k := 102) rfl (by decide) (by decide) (by decide) | exact kt (k := 103) rfl (by decide) (by decide) (by decide) | exact kt (k := 104) rfl (by decide) (by decide) (by decide) | exact kt (k := 106) rfl (by decide) (by decide) (by decide) | exact kt (k := 107) rfl (by decide) (by decide) (by decide) | exact kt (k := 108) rfl (by decide) (by decide) (by decide)
theorem tokensG_num : ∀ (n : Nat) (s : List UInt8), s.length ≤ 2000 → ∀ x ∈ tokensG n s, NumTok x ∧ x.k ≠ 60 ∧ 100 ≤ x.k
  | 0, s, _, x, hx => by simp [tokensG] at hx
  | n + 1, s, hl, x, hx => by
    unfold tokensG at hx
    split at hx
    · cases hx
    · next hs =>
      obtain ⟨h1, h2, h3⟩ := firstL_kind s hs
      rcases List.mem_cons.1 hx with rfl | hx
      · refine ⟨fun hk => ?_, h1, h2⟩
        obtain ⟨c, r, rfl, hd, he⟩ := h3 hk
        simp only
        rw [he]
        have hsz : (ofL ((c :: r).take (scanL isDigitB (c :: r)))).size ≤ 2000 := by
          show ((c :: r).take (scanL isDigitB (c :: r))).toArray.size ≤ 2000
          simp only [List.size_toArray, List.length_take]
          omega
        refine ⟨by omega, ?_⟩
        have htk : (c :: r).take (scanL isDigitB (c :: r)) = (c :: r).takeWhile isDigitB := by
          unfold scanL
          conv => lhs; rhs; rw [← List.takeWhile_append_dropWhile (p := isDigitB) (l := c :: r)]
          rw [List.take_left]
        show Lib.atoiAll ((c :: r).take (scanL isDigitB (c :: r))) = _ ∨ _
        rw [htk]
        refine atoi_digits _ ?_ (fun d hdm => takeWhile_mem _ _ d hdm)
        rw [List.takeWhile_cons_of_pos hd]
        simp
      · exact tokensG_num n _ (by rw [List.length_drop]; omega) x hx
theorem txt_tokensG : ∀ (n : Nat) (s : List UInt8), txt (tokensG n s) ≤ s.length
  | 0, s => by simp [tokensG, txt]
  | n + 1, s => by
    unfold tokensG
    split
    · simp [txt]
    · have ih := txt_tokensG n (s.drop (firstL s).1)
      rw [List.length_drop] at ih
      show (ofL (s.take (firstL s).1)).size + txt (tokensG n (s.drop (firstL s).1)) ≤ s.length
      have : (ofL (s.take (firstL s).1)).size = min (firstL s).1 s.length := by
        show (s.take (firstL s).1).toArray.size = _
        simp
      omega
theorem parse_safe (l : List UInt8) (hl : l.length ≤ 2000) (n : Nat) (u : PS) (h : run n fileC ⟨tokensL l, [], false, 600000⟩ = some u) : (Tree.mk 1 .empty u.ch).ok ∧ yls u.ch ≤ l.length ∧ wts u.ch ≤ 602000 := by
  have ht := txt_tokensG l.length l
  obtain ⟨h1, h2⟩ := run_txt _ _ _ _ h
  simp only [yls, wts] at h1 h2
  have ht' : txt (tokensL l) ≤ l.length := ht
  refine ⟨?_, by omega, by omega⟩
  unfold Tree.ok
  refine ⟨fun e => absurd e (by decide), fun e => absurd e (by decide), ?_⟩
  exact run_oks _ _ _ _ h (by decide) (by unfold oks; trivial) (fun x hx => ⟨(tokensG_num _ _ hl x hx).1, (tokensG_num _ _ hl x hx).2.1⟩)
end Go.Proofs.YtpibenilagloaaaGreatDoor
