import Derived.Test.YtpibenilagloaaaGreatDoorMxbd
import Derived.Lib.AtoiAllCases
import Derived.Test.YtpibenilagloaaaGreatDoorMxaz
import Derived.Test.YtpibenilagloaaaGreatDoorMxbb
import Derived.Test.YtpibenilagloaaaGreatDoorMxbc
/-
  Parentheses hold an operand; integer literals are numerals.
-/
namespace Go.Proofs.YtpibenilagloaaaGreatDoor
set_option linter.unusedVariables false

def hasN (l : List Tree) : Prop := ∃ x ∈ l, x.k < 100
/-- functions that leave a node behind -/
def trF : Fn → Bool → Bool
  | .expr, _ => true
  | .binary _, _ => true
  | .unary, _ => true
  | .primary, _ => true
  | .postfixS, b => b
  | .path _, _ => true
  | .block, _ => true
  | .ifExpr, _ => true
  | _, _ => false
/-- is there a node among the children? -/
def tr : Cmd → Bool → Bool
  | .skip, b => b
  | .bump, b => b
  | .trivia, b => b
  | .leaf k, b => b || decide (k < 100)
  | .node k _, b => b || decide (k < 100)
  | .wrap k _, b => decide (k < 100)
  | .seq c d, b => tr d (tr c b)
  | .ite _ c d, b => tr c b && tr d b
  | .loop _ c, b => b && tr c true
  | .moved c d e, b => tr d (tr c b) && tr e (tr c b)
  | .dropLast, _ => false
  | .insNone, _ => true
  | .setFlag _, b => b
  | .call f, b => trF f b
theorem trF_body (f : Fn) (b : Bool) (h : trF f b = true) : tr (body f) b = true := by
  cases f with
  | path x => cases x <;> cases b <;> decide
  | binary l =>
    simp only [body]
    split
    · rfl
    · simp only [tr, trF]
      split <;> rfl
  | expr => rfl
  | unary => cases b <;> decide
  | primary => cases b <;> decide
  | postfixS => simp only [trF] at h; subst h; decide
  | block => cases b <;> decide
  | ifExpr => cases b <;> decide
  | _ => simp [trF] at h
theorem hasN_append {a b : List Tree} (h : hasN a) : hasN (a ++ b) := by
  obtain ⟨x, hx, hk⟩ := h
  exact ⟨x, by simp [hx], hk⟩
theorem run_tr : ∀ (n : Nat) (c : Cmd) (b : Bool) (s u : PS), run n c s = some u → (b = true → hasN s.ch) → tr c b = true → hasN u.ch
  | 0, c, b, s, u, h, _, _ => by simp [run] at h
  | n + 1, c, b, s, u, h, hb, ht => by
    have ih := run_tr n
    cases c with
    | skip => simp [run] at h; subst h; exact hb ht
    | bump =>
      simp only [run] at h
      obtain ⟨v, hv, rfl⟩ := Option.map_eq_some_iff.1 h
      simp only
      rw [(add_gas hv).2.2.2.1]
      exact hasN_append (hb ht)
    | trivia =>
      simp only [run] at h
      obtain ⟨v, hv, rfl⟩ := Option.map_eq_some_iff.1 h
      simp only
      rw [(add_gas hv).2.2.2.1]
      exact hasN_append (hb ht)
    | leaf k =>
      simp only [run] at h
      rw [(add_gas h).2.2.2.1]
      simp only [tr, Bool.or_eq_true, decide_eq_true_eq] at ht
      rcases ht with ht | ht
      · exact hasN_append (hb ht)
      · exact ⟨.mk k .empty [], by simp, ht⟩
    | node k c =>
      simp only [run] at h
      split at h
      · obtain ⟨v, hv, e⟩ := Option.map_eq_some_iff.1 h
        rw [← e]
        simp only [tr, Bool.or_eq_true, decide_eq_true_eq] at ht
        rcases ht with ht | ht
        · exact hasN_append (hb ht)
        · exact ⟨.mk k .empty v.ch, by simp, ht⟩
      · cases h
    | wrap k c =>
      simp only [run] at h
      split at h
      · cases h
      · split at h
        · obtain ⟨v, hv, e⟩ := Option.map_eq_some_iff.1 h
          rw [← e]
          simp only [tr, decide_eq_true_eq] at ht
          exact ⟨.mk k .empty v.ch, by simp, ht⟩
        · cases h
    | seq c d =>
      simp only [run] at h
      obtain ⟨v, h1, h2⟩ := Option.bind_eq_some_iff.1 h
      simp only [tr] at ht
      exact ih _ _ _ _ h2 (fun e => ih _ _ _ _ h1 hb e) ht
    | ite t c d =>
      simp only [run] at h
      simp only [tr, Bool.and_eq_true] at ht
      split at h
      · exact ih _ _ _ _ h hb ht.1
      · exact ih _ _ _ _ h hb ht.2
    | loop t c =>
      simp only [run] at h
      simp only [tr, Bool.and_eq_true] at ht
      split at h
      · obtain ⟨v, h1, h2⟩ := Option.bind_eq_some_iff.1 h
        have a := ih c true _ _ h1 (fun _ => hb ht.1) ht.2
        exact ih (.loop t c) true _ _ h2 (fun _ => a) (by simp [tr, ht.2])
      · injection h with h; subst h; exact hb ht.1
    | moved c d e =>
      simp only [run] at h
      obtain ⟨v, h1, h2⟩ := Option.bind_eq_some_iff.1 h
      simp only [tr, Bool.and_eq_true] at ht
      split at h2
      · exact ih _ _ _ _ h2 (fun e => ih _ _ _ _ h1 hb e) ht.1
      · exact ih _ _ _ _ h2 (fun e => ih _ _ _ _ h1 hb e) ht.2
    | dropLast => simp [tr] at ht
    | insNone =>
      simp only [run] at h
      split at h
      · cases h
      · split at h
        · injection h with h; subst h
          exact ⟨.mk 0 .empty [], by simp, by decide⟩
        · cases h
    | setFlag x => simp [run] at h; subst h; exact hb ht
    | call f => simp only [run] at h; exact ih _ _ _ _ h hb (trF_body f b ht)

/-- no node is an integer literal; each pair of parentheses holds a node -/
def okC : Cmd → Bool
  | .leaf k => decide (k ≠ 105 ∧ k ≠ 60)
  | .node k c => decide (k ≠ 105) && (decide (k ≠ 60) || tr c false) && okC c
  | .wrap k c => decide (k ≠ 105 ∧ k ≠ 60) && okC c
  | .seq c d => okC c && okC d
  | .ite _ c d => okC c && okC d
  | .loop _ c => okC c
  | .moved c d e => okC c && okC d && okC e
  | _ => true
theorem okC_body (f : Fn) : okC (body f) = true := by
  cases f with
  | path x => cases x <;> decide
  | params x => rfl
  | binary l =>
    simp only [body]
    split
    · rfl
    · simp only [okC]
      split <;> rfl
  | itemBody k =>
    simp only [body]
    split
    · rfl
    · split
      · rfl
      · split
        · rfl
        · split
          · rfl
          · split
            · rfl
            · split <;> rfl
  | function x => cases x <;> decide
  | dataType k =>
    simp only [body]
    by_cases h : k = 4
    · simp only [h]; decide
    · simp only [if_neg h]; decide
  | _ => decide
def NumTok (x : Tok) : Prop := x.k = 105 → x.t.size ≤ 281474976710656 ∧ (Lib.atoiAll x.t.data.toList = .range ∨ ∃ v, Lib.atoiAll x.t.data.toList = .ok v)
theorem oks_append {a b : List Tree} (h : oks a) (k : oks b) : oks (a ++ b) := oks_of fun x hx => (List.mem_append.1 hx).elim (oks_mem h x) (oks_mem k x)
theorem oks_leafs {l : List Tok} (h : ∀ x ∈ l, NumTok x) (h6 : ∀ x ∈ l, x.k ≠ 60) : oks (l.map Tok.leaf) := oks_of fun y hy => by
  obtain ⟨x, hx, rfl⟩ := List.mem_map.1 hy
  unfold Tok.leaf Tree.ok
  exact ⟨h x hx, fun e => absurd e (h6 x hx), by unfold oks; trivial⟩
theorem oks_node {k : Int} {ch : List Tree} (h1 : k ≠ 105) (h2 : k = 60 → hasN ch) (h3 : oks ch) : oks [Tree.mk k .empty ch] := by
  unfold oks Tree.ok
  exact ⟨⟨fun e => absurd e h1, h2, h3⟩, by unfold oks; trivial⟩
theorem oks_last {l : List Tree} {x : Tree} (h : oks l) (hx : l.getLast? = some x) : oks l.dropLast ∧ oks [x] := by
  obtain ⟨ys, e⟩ := List.getLast?_eq_some_iff.1 hx
  subst e
  exact ⟨oks_of fun y hy => oks_mem h y (by simp at hy; simp [hy]), oks_of fun y hy => oks_mem h y (by simp at hy; simp [hy])⟩
theorem run_oks : ∀ (n : Nat) (c : Cmd) (s u : PS), run n c s = some u → okC c = true → oks s.ch → (∀ x ∈ s.rest, NumTok x ∧ x.k ≠ 60) → oks u.ch
  | 0, c, s, u, h, _, _, _ => by simp [run] at h
  | n + 1, c, s, u, h, hc, hs, hr => by
    have ih := run_oks n
    have hsub : ∀ {l : List Tok}, (∀ x ∈ l, x ∈ s.rest) → oks (l.map Tok.leaf) := fun hl => oks_leafs (fun x hx => (hr x (hl x hx)).1) (fun x hx => (hr x (hl x hx)).2)
    cases c with
    | skip => simp [run] at h; subst h; exact hs
    | bump =>
      simp only [run] at h
      obtain ⟨v, hv, rfl⟩ := Option.map_eq_some_iff.1 h
      simp only
      rw [(add_gas hv).2.2.2.1]
      exact oks_append hs (hsub fun x hx => List.mem_of_mem_take hx)
    | trivia =>
      simp only [run] at h
      obtain ⟨v, hv, rfl⟩ := Option.map_eq_some_iff.1 h
      simp only
      rw [(add_gas hv).2.2.2.1]
      exact oks_append hs (hsub fun x hx => List.mem_of_mem_take hx)
    | leaf k =>
      simp only [run] at h
      rw [(add_gas h).2.2.2.1]
      simp only [okC, decide_eq_true_eq] at hc
      exact oks_append hs (oks_node hc.1 (fun e => absurd e hc.2) (by unfold oks; trivial))
    | node k c =>
      simp only [run] at h
      split at h
      · obtain ⟨v, hv, e⟩ := Option.map_eq_some_iff.1 h
        rw [← e]
        simp only [okC, Bool.and_eq_true, Bool.or_eq_true, decide_eq_true_eq] at hc
        exact oks_append hs (oks_node hc.1.1 (fun e => run_tr n c false _ _ hv (fun e => by cases e) (hc.1.2.resolve_left (fun h => h e))) (ih _ _ _ hv hc.2 (by unfold oks; trivial) hr))
      · cases h
    | wrap k c =>
      simp only [run] at h
      split at h
      · cases h
      · next x hx =>
        split at h
        · obtain ⟨v, hv, e⟩ := Option.map_eq_some_iff.1 h
          rw [← e]
          simp only [okC, Bool.and_eq_true, decide_eq_true_eq] at hc
          obtain ⟨h1, h2⟩ := oks_last hs hx
          exact oks_append h1 (oks_node hc.1.1 (fun e => absurd e hc.1.2) (ih _ _ _ hv hc.2 h2 hr))
        · cases h
    | seq c d =>
      simp only [run] at h
      obtain ⟨v, h1, h2⟩ := Option.bind_eq_some_iff.1 h
      simp only [okC, Bool.and_eq_true] at hc
      have hsf := run_rest _ _ _ _ h1
      exact ih _ _ _ h2 hc.2 (ih _ _ _ h1 hc.1 hs hr) (fun x hx => hr x (hsf.subset hx))
    | ite t c d =>
      simp only [run] at h
      simp only [okC, Bool.and_eq_true] at hc
      split at h
      · exact ih _ _ _ h hc.1 hs hr
      · exact ih _ _ _ h hc.2 hs hr
    | loop t c =>
      simp only [run] at h
      have hc' := hc
      simp only [okC] at hc
      split at h
      · obtain ⟨v, h1, h2⟩ := Option.bind_eq_some_iff.1 h
        have hsf := run_rest _ _ _ _ h1
        exact ih _ _ _ h2 hc' (ih _ _ _ h1 hc hs hr) (fun x hx => hr x (hsf.subset hx))
      · injection h with h; subst h; exact hs
    | moved c d e =>
      simp only [run] at h
      obtain ⟨v, h1, h2⟩ := Option.bind_eq_some_iff.1 h
      simp only [okC, Bool.and_eq_true] at hc
      have hsf := run_rest _ _ _ _ h1
      have a := ih _ _ _ h1 hc.1.1 hs hr
      split at h2
      · exact ih _ _ _ h2 hc.1.2 a (fun x hx => hr x (hsf.subset hx))
      · exact ih _ _ _ h2 hc.2 a (fun x hx => hr x (hsf.subset hx))
    | dropLast =>
      simp only [run] at h
      split at h
      · cases h
      · injection h with h; subst h
        exact oks_of fun y hy => oks_mem hs y (List.dropLast_subset _ hy)
    | insNone =>
      simp only [run] at h
      split at h
      · cases h
      · next x hx =>
        split at h
        · injection h with h; subst h
          obtain ⟨h1, h2⟩ := oks_last hs hx
          exact oks_append h1 (oks_append (oks_node (k := 0) (by decide) (fun e => by cases e) (by unfold oks; trivial)) h2)
        · cases h
    | setFlag x => simp [run] at h; subst h; exact hs
    | call f => simp only [run] at h; exact ih _ _ _ h (okC_body f) hs hr

/- THE TOKENS -/
theorem digits_num : ∀ (l : List UInt8) (acc : Nat), (∀ c ∈ l, isDigitB c = true) → Lib.parseUint10 acc l = .range ∨ ∃ v, Lib.parseUint10 acc l = .ok v
  | [], acc, _ => .inr ⟨acc, rfl⟩
  | c :: r, acc, h => by
    have hc := h c (by simp)
    unfold isDigitB at hc
    simp only [Bool.and_eq_true, decide_eq_true_eq] at hc
    unfold Lib.parseUint10
    rw [if_pos hc]
    split
    · exact .inl rfl
    · split
      · exact .inl rfl
      · exact digits_num r _ fun d hd => h d (by simp [hd])
theorem atoi_digits (l : List UInt8) (h0 : l ≠ []) (h : ∀ c ∈ l, isDigitB c = true) : Lib.atoiAll l = .range ∨ ∃ v, Lib.atoiAll l = .ok v := by
  cases l with
  | nil => exact absurd rfl h0
  | cons c r =>
    have hc := h c (by simp)
    unfold isDigitB at hc
    simp only [Bool.and_eq_true, decide_eq_true_eq] at hc
    rw [Lib.atoiAll_plain c r (by omega) (by omega)]
    unfold Lib.parseMag
    rw [if_neg (by simp)]
    rcases digits_num (c :: r) 0 h with e | ⟨v, e⟩
    · rw [e]; exact .inl rfl
    · rw [e]
      unfold Lib.signless
      simp only
      split
      · exact .inl rfl
      · exact .inr ⟨_, rfl⟩
theorem kt {p : Nat × Int} {k : Int} {Q : Prop} (hp : p.2 = k) (h1 : k ≠ 60) (h2 : 100 ≤ k) (h3 : k ≠ 105) : p.2 ≠ 60 ∧ 100 ≤ p.2 ∧ (p.2 = 105 → Q) := by
  rw [hp]; exact ⟨h1, h2, fun e => absurd e h3⟩
theorem takeWhile_mem {α : Type} (p : α → Bool) : ∀ (l : List α) (x : α), x ∈ l.takeWhile p → p x = true
  | [], x, h => by simp at h
  | y :: r, x, h => by
    by_cases hy : p y = true
    · rw [List.takeWhile_cons_of_pos hy] at h
      rcases List.mem_cons.1 h with rfl | h
      · exact hy
      · exact takeWhile_mem p r x h
    · rw [List.takeWhile_cons_of_neg (by simpa using hy)] at h; cases h
/-- the first token's kind -/
theorem firstL_kind (s : List UInt8) (h : s ≠ []) : (firstL s).2 ≠ 60 ∧ 100 ≤ (firstL s).2 ∧ ((firstL s).2 = 105 → ∃ c r, s = c :: r ∧ isDigitB c = true ∧ (firstL s).1 = scanL isDigitB s) := by
  cases s with
  | nil => exact absurd rfl h
  | cons c r =>
    unfold firstL
    simp only
    split
    · first | exact kt (k := 101) rfl (by decide) (by decide) (by decide) | exact kt (k := 102) rfl (by decide) (by decide) (by decide) | exact kt (k := 103) rfl (by decide) (by decide) (by decide) | exact kt (k := 104) rfl (by decide) (by decide) (by decide) | exact kt (k := 106) rfl (by decide) (by decide) (by decide) | exact kt (k := 107) rfl (by decide) (by decide) (by decide) | exact kt (k := 108) rfl (by decide) (by decide) (by decide)
    · split
      · first | exact kt (k := 101) rfl (by decide) (by decide) (by decide) | exact kt (k := 102) rfl (by decide) (by decide) (by decide) | exact kt (k := 103) rfl (by decide) (by decide) (by decide) | exact kt (k := 104) rfl (by decide) (by decide) (by decide) | exact kt (k := 106) rfl (by decide) (by decide) (by decide) | exact kt (k := 107) rfl (by decide) (by decide) (by decide) | exact kt (k := 108) rfl (by decide) (by decide) (by decide)
      · split
        · exact kt (k := if (c :: r).take (scanL isWordB (c :: r)) ∈ keywordsL then 104 else 103) rfl (by split <;> decide) (by split <;> decide) (by split <;> decide)
        · split
          · next hd => exact ⟨show (105 : Int) ≠ 60 by decide, show (100 : Int) ≤ 105 by decide, fun _ => ⟨c, r, rfl, hd, rfl⟩⟩
          · split
            · unfold strL
              split <;> first | exact kt (k := 101) rfl (by decide) (by decide) (by decide) | exact kt (k := 102) rfl (by decide) (by decide) (by decide) | exact kt (k := 103) rfl (by decide) (by decide) (by decide) | exact kt (k := 104) rfl (by decide) (by decide) (by decide) | exact kt (k := 106) rfl (by decide) (by decide) (by decide) | exact kt (k := 107) rfl (by decide) (by decide) (by decide) | exact kt (k := 108) rfl (by decide) (by decide) (by decide)
            · split
              · first | exact kt (k := 101) rfl (by decide) (by decide) (by decide) | exact kt (k := 102) rfl (by decide) (by decide) (by decide) | exact kt (k := 103) rfl (by decide) (by decide) (by decide) | exact kt (k := 104) rfl (by decide) (by decide) (by decide) | exact kt (k := 106) rfl (by decide) (by decide) (by decide) | exact kt (k := 107) rfl (by decide) (by decide) (by decide) | exact kt (k := 108) rfl (by decide) (by decide) (by decide)
              · split <;> first | exact kt (k := 101) rfl (by decide) (by decide) (by decide) | exact kt (k := 102) rfl (by decide) (by decide) (by decide) | exact kt (k := 103) rfl (by decide) (by decide) (by decide) | exact kt (k := 104) rfl (by decide) (by decide) (by decide) | exact kt (k := 106) rfl (by decide) (by decide) (by decide) | exact kt (k := 107) rfl (by decide) (by decide) (by decide) | exact kt (k := 108) rfl (by decide) (by decide) (by decide)
theorem tokensG_num : ∀ (n : Nat) (s : List UInt8), s.length ≤ 2000 → ∀ x ∈ tokensG n s, NumTok x ∧ x.k ≠ 60 ∧ 100 ≤ x.k
  | 0, s, _, x, hx => by simp [tokensG] at hx
  | n + 1, s, hl, x, hx => by
    unfold tokensG at hx
    split at hx
    · cases hx
    · next hs =>
      obtain ⟨h1, h2, h3⟩ := firstL_kind s hs
      rcases List.mem_cons.1 hx with rfl | hx
      · refine ⟨fun hk => ?_, h1, h2⟩
        obtain ⟨c, r, rfl, hd, he⟩ := h3 hk
        simp only
        rw [he]
        have hsz : (ofL ((c :: r).take (scanL isDigitB (c :: r)))).size ≤ 2000 := by
          show ((c :: r).take (scanL isDigitB (c :: r))).toArray.size ≤ 2000
          simp only [List.size_toArray, List.length_take]
          omega
        refine ⟨by omega, ?_⟩
        have htk : (c :: r).take (scanL isDigitB (c :: r)) = (c :: r).takeWhile isDigitB := by
          unfold scanL
          conv => lhs; rhs; rw [← List.takeWhile_append_dropWhile (p := isDigitB) (l := c :: r)]
          rw [List.take_left]
        show Lib.atoiAll ((c :: r).take (scanL isDigitB (c :: r))) = _ ∨ _
        rw [htk]
        refine atoi_digits _ ?_ (fun d hdm => takeWhile_mem _ _ d hdm)
        rw [List.takeWhile_cons_of_pos hd]
        simp
      · exact tokensG_num n _ (by rw [List.length_drop]; omega) x hx
theorem txt_tokensG : ∀ (n : Nat) (s : List UInt8), txt (tokensG n s) ≤ s.length
  | 0, s => by simp [tokensG, txt]
  | n + 1, s => by
    unfold tokensG
    split
    · simp [txt]
    · have ih := txt_tokensG n (s.drop (firstL s).1)
      rw [List.length_drop] at ih
      show (ofL (s.take (firstL s).1)).size + txt (tokensG n (s.drop (firstL s).1)) ≤ s.length
      have : (ofL (s.take (firstL s).1)).size = min (firstL s).1 s.length := by
        show (s.take (firstL s).1).toArray.size = _
        simp
      omega
/-- the tree of a source -/
theorem parse_safe (l : List UInt8) (hl : l.length ≤ 2000) (n : Nat) (u : PS) (h : run n fileC ⟨tokensL l, [], false, 600000⟩ = some u) : (Tree.mk 1 .empty u.ch).ok ∧ yls u.ch ≤ l.length ∧ wts u.ch ≤ 602000 := by
  have ht := txt_tokensG l.length l
  obtain ⟨h1, h2⟩ := run_txt _ _ _ _ h
  simp only [yls, wts] at h1 h2
  have ht' : txt (tokensL l) ≤ l.length := ht
  refine ⟨?_, by omega, by omega⟩
  unfold Tree.ok
  refine ⟨fun e => absurd e (by decide), fun e => absurd e (by decide), ?_⟩
  exact run_oks _ _ _ _ h (by decide) (by unfold oks; trivial) (fun x hx => ⟨(tokensG_num _ _ hl x hx).1, (tokensG_num _ _ hl x hx).2.1⟩)
end Go.Proofs.YtpibenilagloaaaGreatDoor

/-
  ast.Parse: the walk.
-/
namespace Go.Proofs.YtpibenilagloaaaGreatDoor
open Go.RowKit
set_option linter.unusedVariables false

/-- nothing but the value's own block, of the blocks that were there, has changed -/
structure Own1 (v : Value) (w w' : World) : Prop where
  os : w'.os = w.os
  tape : w'.tape = w.tape
  output : w'.output = w.output
  size : w.heap.size ≤ w'.heap.size
  block : ∀ b, b < w.heap.size → v.ownBlock ≠ some b → w'.heap[b]? = w.heap[b]?
def SoPost (w : World) (v : Value) (ds : List Dg) (e : Ending) (w' : World) : Prop :=
  e = .returned (.tuple #[]) ∧ w'.ownsRow 0 99 5 v ds.length (ds.flatMap Dg.cells) ∧ Own1 v w w'
def CpPost (w : World) (v : Value) (ds : List Dg) (e : Ending) (w' : World) : Prop :=
  ∃ A c, e = .returned (.slice A ds.length c) ∧ FlatAt Dg.cells 5 w' (fun b => v.ownBlock = some b) A ds ∧ Own1 v w w'
theorem sortv_any (w : World) (v : Value) (ds : List Dg) (hb : ds.length ≤ 1000000) (row : w.ownsRow 0 99 5 v ds.length (ds.flatMap Dg.cells)) :
    Calls Tryz.prog 52 #[v, .func (.func 53) #[] #[]] w (SoPost w v (sortDg ds)) := by
  rcases row.2 with ⟨rfl, hn⟩ | ⟨g, cap, cur, rfl, _⟩
  · refine (sort_none w none 0 _).mono ?_
    rintro e w' ⟨rfl, rfl⟩
    have : ds = [] := List.eq_nil_of_length_eq_zero hn
    subst this
    have e0 : sortDg [] = [] := by simp [sortDg]
    rw [e0]
    exact ⟨rfl, World.ownsRow_nil _ _ _ _, ⟨rfl, rfl, rfl, Nat.le_refl _, fun _ _ _ => rfl⟩⟩
  · refine (sort_any w g cap ds.length ds rfl hb row).mono ?_
    rintro e w' ⟨rfl, h1, ⟨h2, h3, h4⟩, h5, h6⟩
    refine ⟨rfl, by rw [sortDg_len]; exact h1, ⟨h2, h3, h4, h5, fun b hb hne => h6 b hb (fun e => hne (by rw [e]; rfl))⟩⟩
theorem compactv_any (w : World) (v : Value) (ds : List Dg) (hb : ds.length ≤ 1000000) (row : w.ownsRow 0 99 5 v ds.length (ds.flatMap Dg.cells)) :
    Calls Tryz.prog 54 #[v] w (CpPost w v (compactL ds)) := by
  by_cases h2 : 2 ≤ ds.length
  · rcases row.2 with ⟨rfl, hn⟩ | ⟨g, cap, cur, rfl, _⟩
    · omega
    · refine (compact_any w g cap ds.length ds rfl h2 hb row).mono ?_
      rintro e w' ⟨c', rfl, h1, h2⟩
      exact ⟨_, c', rfl, h1.keep (fun b hb => by rw [hb]; rfl) (fun _ _ => rfl), ⟨h2.os, h2.tape, h2.output, Nat.le_of_eq h2.size.symm, fun b _ hne => h2.block b (fun e => hne (by rw [e]; rfl))⟩⟩
  · obtain ⟨A, c, e, hf, _⟩ := FlatAt.of_own Dg.cells_len (F := fun b => v.ownBlock = some b) row (fun b hb => hb)
    have hc : compactL ds = ds := by
      match ds, h2 with
      | [], _ => rfl
      | [x], _ => rfl
      | x :: y :: r, h => simp at h
    rw [hc, e]
    refine (compact_short w A ds.length c (by omega)).mono ?_
    rintro e' w' ⟨rfl, rfl⟩
    rw [← e]
    exact ⟨A, c, by rw [e], hf, ⟨rfl, rfl, rfl, Nat.le_refl _, fun _ _ _ => rfl⟩⟩
def astR (src : ByteArray) (ch : List Tree) : Node × BS := nodeL src (.mk 1 .empty ch) ⟨0, []⟩
def astN (src : ByteArray) (ch : List Tree) : Node := .mk { (astR src ch).1.h with s := 0, e := src.size } (astR src ch).1.ch
def astD (src : ByteArray) (ch : List Tree) : List Dg := compactL (sortDg (astR src ch).2.ds)
/-- new blocks -/
def New (w w' : World) (b : Nat) : Prop := w.heap.size ≤ b ∧ b < w'.heap.size
def AstPost (w : World) (src : ByteArray) (ch : List Tree) (e : Ending) (w' : World) : Prop :=
  ∃ us A c, e = .returned (.tuple #[.agg us.toArray, .slice A (astD src ch).length c, .int .i64 0]) ∧ NodeV w' (New w w') (astN src ch) us ∧ FlatAt Dg.cells 5 w' (New w w') A (astD src ch) ∧ Below w.heap.size w w'

theorem results_cell_slot2 {P : Program} {fn : Func} {p q r : Tmp} {ty : TypeId} (h : fn.results = #[.cell p ty, .tmp q, .tmp r]) (tmps : Array Value) (w : World) (g : Nat) (t : TypeId) (cs : Array Value) (fr : Nat × Nat) (d : TypeDesc) (u u2 : Value)
    (hp : tmps.getD p undef = .pointer (some ⟨g, 0, none⟩)) (hq : tmps.getD q undef = u) (hr : tmps.getD r undef = u2) (hg : w.heap[g]? = some (.cells cs t fr))
    (hu : P.underlying ty = some d) (hd : (match d with | .struct _ | .array _ _ => true | _ => false) = true) (hi : (P.info? ty).map (·.size) = some cs.size) :
    (results fn tmps).run P w = .ok (.tuple #[.agg cs, u, u2]) w := by
  have hp' : tmps[p]?.getD undef = .pointer (some ⟨g, 0, none⟩) := by simpa using hp
  have hq' : tmps[q]?.getD undef = u := by simpa using hq
  have hr' : tmps[r]?.getD undef = u2 := by simpa using hr
  simp [results, h, hp', hq', hr', asAddr, run_loadVar_row w g t ty cs fr d hg hu hd hi]
set_option maxRecDepth 100000 in
set_option maxHeartbeats 3200000 in
theorem astParse_any (src : ByteArray) (w : World) (hg : Gl w) (hs : src.size ≤ 2000) (n : Nat) (u : PS) (hu : run n fileC ⟨tokensL src.data.toList, [], false, 600000⟩ = some u) :
    Calls Tryz.prog 21 #[.string src] w (AstPost w src u.ch) := by
  have hsz : src.data.toList.length = src.size := Array.length_toList
  obtain ⟨hok, hyl, hwt⟩ := parse_safe src.data.toList (by rw [hsz]; exact hs) n u hu
  rw [hsz] at hyl
  have HP := Lib.hid (fun (W : World) hA => parse_any src W hA hs n u hu)
  have HG := Lib.hid hg
  have HO := Lib.hid hok
  generalize u.ch = ch at *
  clear hu hg hok
  go_enter Tryz.func21, Tryz.ntmps21
  go_wp2_with fail
  generalize hW : w.alloc _ = W
  have hbw : Below w.heap.size w W := by rw [← hW]; exact (Below.refl _ _).alloc (Nat.le_refl _) _
  have hR : W.heap[w.heap.size]? = some (.cells #[.int .i64 0, .int .i64 0, .string ⟨#[]⟩, .int .i64 0, .int .i64 0, .int .i64 0, .slice none 0 0] 57 (0, 0)) := by rw [← hW]; exact heap_alloc_new w _
  have hgW : Gl W := HG.out.keep hbw.size (fun b hb => hbw.block b (Nat.lt_of_lt_of_le hb HG.out.big))
  have HW := Lib.hid hbw
  clear hW
  refine (HP.out W hgW.asc).mono ?_
  rintro e w1 ⟨v, rfl, hT, hb1⟩
  simp only [Tree.k, Tree.t] at hT ⊢
  have hz1 : w.heap.size < w1.heap.size := Nat.lt_of_lt_of_le (lt_of_heap hR) hb1.size
  obtain ⟨A3, c3, rfl⟩ : ∃ A3 c3, v = .slice A3 ch.length c3 := by
    unfold TreeV at hT
    obtain ⟨_, _, A3, c3, h3, _⟩ := hT
    exact ⟨A3, c3, h3⟩
  obtain ⟨m3, hm3⟩ : ∃ m3, ch.length = m3 := ⟨_, rfl⟩
  rw [hm3] at hT ⊢
  have HM3 := Lib.hid hm3
  have HT := Lib.hid hT
  have HB1 := Lib.hid hb1
  have HR := Lib.hid hR
  have HGW := Lib.hid hgW
  clear hT hb1 hR hgW hbw hm3 HP
  go_wp2_with fail
  generalize hW2 : ((w1.alloc _).alloc _) = W2
  have hb2 : Below w1.heap.size w1 W2 := by rw [← hW2]; exact ((Below.refl _ _).alloc (Nat.le_refl _) _).alloc (by simp) _
  have hW2z : W2.heap.size = w1.heap.size + 2 := by rw [← hW2]; simp
  have hp2 : W2.heap[w1.heap.size + 1]? = some (.cells #[.string src, .int .i64 0, .slice none 0 0] 126 (0, 0)) := by rw [← hW2]; exact heap_two w1 _ _
  have hBW2 := (HW.out.trans (HB1.out.mono HW.out.size)).trans (hb2.mono (by omega))
  have hg2 : Gl W2 := HG.out.keep hBW2.size (fun b hb => hBW2.block b (Nat.lt_of_lt_of_le hb HG.out.big))
  have hB2 : BAt W2 (w1.heap.size + 1) ⟨fun b => b = w1.heap.size + 1, 0⟩ src ⟨0, []⟩ := by
    refine ⟨.slice none 0 0, hp2, World.ownsRow_nil _ _ _ _, rfl, fun g hg => by simp [Value.ownBlock] at hg, hg2, fun c hc => ?_⟩
    have hc : c = w1.heap.size + 1 := hc
    have := HG.out.big
    omega
  have hyx : (Tree.mk 1 ByteArray.empty ch).yl = yls ch := Tree.yl_node (fun h : (100 : Int) ≤ 1 => absurd h (by decide))
  have hnd := bnode_any ((Tree.mk 1 .empty ch).wt + 1) (.mk 1 .empty ch) (Nat.lt_succ_self _) (by show ¬ (100 : Int) ≤ 1; decide) HO.out W2 (w1.heap.size + 1) ⟨fun b => b = w1.heap.size + 1, 0⟩ src ⟨0, []⟩ hB2 (by decide)
    (by rw [hyx]; show (0 : Int) + (yls ch : Nat) ≤ src.size; omega) hs (by show 0 + (Tree.mk 1 ByteArray.empty ch).wt ≤ 800000; unfold Tree.wt; show 0 + (0 + 1 + wts ch) ≤ 800000; omega) (.int .i64 1) (.string .empty) (.slice A3 m3 c3) (fun b => b < w1.heap.size)
    (TreeV.keep (F' := fun b => b < w1.heap.size) (fun _ h => h) (fun b hb => hb2.block b hb) _ _ _ _ HT.out) (fun c hc => ⟨by omega, fun e => by have e : c = w1.heap.size + 1 := e; omega⟩)
  have hdl := nodeL_ds src (.mk 1 .empty ch) ⟨0, []⟩
  have hwt2 : (Tree.mk 1 ByteArray.empty ch).wt ≤ 700000 := by unfold Tree.wt; show 0 + 1 + wts ch ≤ 700000; omega
  have hAN : ∀ y b, nodeL src (.mk 1 .empty ch) ⟨0, []⟩ = (y, b) → astN src ch = .mk { y.h with s := 0, e := src.size } y.ch ∧ astD src ch = compactL (sortDg b.ds) := fun y b h => by unfold astN astD astR; rw [h]; exact ⟨rfl, rfl⟩
  unfold NdPost at hnd
  generalize nodeL src (.mk 1 .empty ch) ⟨0, []⟩ = res at *
  obtain ⟨y, b3⟩ := res
  obtain ⟨a1, a2⟩ := hAN y b3 rfl
  simp only at hnd hdl
  have HND := Lib.hid hnd
  have HA1 := Lib.hid a1
  have HA2 := Lib.hid a2
  have HBW2 := Lib.hid hBW2
  have HR2 := Lib.hid ((hb2.block _ hz1).trans ((HB1.out.block _ (lt_of_heap HR.out)).trans HR.out))
  have hW2z' : w1.heap.size + 2 ≤ W2.heap.size := by omega
  clear hnd hB2 hg2 hp2 hb2 hAN a1 a2 hBW2 hW2 hW2z HT HB1 hyl hwt
  refine HND.out.mono ?_
  rintro e w3 ⟨us, M3, rfl, n1, ⟨vb, hX⟩, n3⟩
  obtain ⟨A4, c4, rfl, n1c⟩ := n1.vals
  obtain ⟨hd, hhd⟩ : ∃ hd, y.h = hd := ⟨_, rfl⟩
  obtain ⟨m4, hm4⟩ : ∃ m4, y.ch.length = m4 := ⟨_, rfl⟩
  simp only [Hd.vals]
  rw [hhd, hm4]
  have HH := Lib.hid hhd
  have HM4 := Lib.hid hm4
  have HN1 := Lib.hid n1c
  have HX := Lib.hid hX
  have HN3 := Lib.hid n3
  have p2 := cell_of hX.blk 2 _ rfl
  have hpl := hX.lt
  clear n1 n1c n3 hhd hm4 HND hX
  go_wp2_with fail
  generalize hW4 : w3.alloc _ = W4
  have hb4 : Below w3.heap.size w3 W4 := by rw [← hW4]; exact (Below.refl _ _).alloc (Nat.le_refl _) _
  have hN4 : W4.heap[w3.heap.size]? = some (.cells #[.int .i64 hd.k, .int .i64 hd.v, .string hd.t, .int .i64 0, .int .i64 src.size, .int .i64 hd.nm, .slice A4 m4 c4] 57 (0, 0)) := by rw [← hW4]; exact heap_alloc_new w3 _
  have hX4 : BAtX W4 (w1.heap.size + 1) M3 src b3 vb := by
    have hx := HX.out
    exact ⟨(hb4.block _ hx.lt).trans hx.blk, ownsRow_below hx.row fun g hg => hb4.block g (hx.row.lt g hg).2, hx.mp, hx.mr, hx.gl.keep hb4.size (fun b h => hb4.block b (Nat.lt_of_lt_of_le h hx.gl.big)), hx.glM⟩
  have hdb : b3.ds.length ≤ 1000000 := by have : ([] : List Dg).length = 0 := rfl; omega
  have hvl : ∀ g, vb.ownBlock = some g → g < w3.heap.size := fun g hg => (HX.out.row.lt g hg).2
  have hvp : vb.ownBlock ≠ some (w1.heap.size + 1) := fun e => (HX.out.mr _ e).2 rfl
  have hW4l := lt_of_heap hN4
  have HX4 := Lib.hid hX4
  have HN4 := Lib.hid hN4
  have HB4 := Lib.hid hb4
  have HVL := Lib.hid hvl
  clear hX4 hN4 hb4 hW4 p2 hpl hdl
  refine (sortv_any W4 vb b3.ds hdb HX4.out.row).mono ?_
  rintro e w5 ⟨rfl, hrow5, hown5⟩
  have h5N : w5.heap[w3.heap.size]? = _ := (hown5.block _ (lt_of_heap HN4.out) (fun e => Nat.lt_irrefl _ (HVL.out _ e))).trans HN4.out
  have h5p : w5.heap[w1.heap.size + 1]? = _ := (hown5.block _ HX4.out.lt hvp).trans HX4.out.blk
  have hvM : ∀ g, vb.ownBlock = some g → W2.heap.size ≤ g ∨ g = w1.heap.size + 1 := fun g hg => (HN3.out.own _ (HX.out.mr _ hg).1).elim (fun e => .inr e) .inl
  have hvR : vb.ownBlock ≠ some w.heap.size := fun e => by rcases hvM _ e with e | e <;> omega
  have h5R : w5.heap[w.heap.size]? = some (.cells #[.int .i64 0, .int .i64 0, .string ⟨#[]⟩, .int .i64 0, .int .i64 0, .int .i64 0, .slice none 0 0] 57 (0, 0)) := by
    have q3 : w3.heap[w.heap.size]? = W2.heap[w.heap.size]? := HN3.out.block _ (by omega) (fun e => by have e : w.heap.size = w1.heap.size + 1 := e; omega)
    have q4 : W4.heap[w.heap.size]? = w3.heap[w.heap.size]? := HB4.out.block _ (by have := HN3.out.size; omega)
    have q5 : w5.heap[w.heap.size]? = W4.heap[w.heap.size]? := hown5.block _ (by have := HN3.out.size; have := HB4.out.size; omega) hvR
    exact q5.trans (q4.trans (q3.trans HR2.out))
  -- what every world from here on knows
  have hF : ∀ W : World, (∀ b, b < w5.heap.size → vb.ownBlock ≠ some b → W.heap[b]? = w5.heap[b]?) → (W.cell? ⟨w3.heap.size, 0, none⟩ = some (.int .i64 hd.k) ∧ W.cell? ⟨w3.heap.size, 1, none⟩ = some (.int .i64 hd.v) ∧ W.cell? ⟨w3.heap.size, 2, none⟩ = some (.string hd.t) ∧ W.cell? ⟨w3.heap.size, 3, none⟩ = some (.int .i64 0) ∧ W.cell? ⟨w3.heap.size, 4, none⟩ = some (.int .i64 src.size) ∧ W.cell? ⟨w3.heap.size, 5, none⟩ = some (.int .i64 hd.nm) ∧ W.cell? ⟨w3.heap.size, 6, none⟩ = some (.slice A4 m4 c4)) ∧ (W.cell? ⟨w.heap.size, 0, none⟩ = some (.int .i64 0) ∧ W.cell? ⟨w.heap.size, 1, none⟩ = some (.int .i64 0) ∧ W.cell? ⟨w.heap.size, 2, none⟩ = some (.string ⟨#[]⟩) ∧ W.cell? ⟨w.heap.size, 3, none⟩ = some (.int .i64 0) ∧ W.cell? ⟨w.heap.size, 4, none⟩ = some (.int .i64 0) ∧ W.cell? ⟨w.heap.size, 5, none⟩ = some (.int .i64 0) ∧ W.cell? ⟨w.heap.size, 6, none⟩ = some (.slice none 0 0)) ∧ (W.frozen? ⟨w.heap.size, 0, none⟩ = false ∧ W.frozen? ⟨w.heap.size, 1, none⟩ = false ∧ W.frozen? ⟨w.heap.size, 2, none⟩ = false ∧ W.frozen? ⟨w.heap.size, 3, none⟩ = false ∧ W.frozen? ⟨w.heap.size, 4, none⟩ = false ∧ W.frozen? ⟨w.heap.size, 5, none⟩ = false ∧ W.frozen? ⟨w.heap.size, 6, none⟩ = false) ∧ W.cell? ⟨w1.heap.size + 1, 2, none⟩ = some vb ∧ w3.heap.size < W.heap.size ∧ w.heap.size < W.heap.size ∧ w1.heap.size + 1 < W.heap.size := by
    intro W hW
    have x1 := (hW _ (lt_of_heap h5N) (fun e => Nat.lt_irrefl _ (HVL.out _ e))).trans h5N
    have x2 := (hW _ (lt_of_heap h5R) hvR).trans h5R
    have x3 := (hW _ (lt_of_heap h5p) hvp).trans h5p
    exact ⟨⟨cell_of x1 0 _ rfl, cell_of x1 1 _ rfl, cell_of x1 2 _ rfl, cell_of x1 3 _ rfl, cell_of x1 4 _ rfl, cell_of x1 5 _ rfl, cell_of x1 6 _ rfl⟩, ⟨cell_of x2 0 _ rfl, cell_of x2 1 _ rfl, cell_of x2 2 _ rfl, cell_of x2 3 _ rfl, cell_of x2 4 _ rfl, cell_of x2 5 _ rfl, cell_of x2 6 _ rfl⟩,
      ⟨Lib.frozen_of_heap x2 0, Lib.frozen_of_heap x2 1, Lib.frozen_of_heap x2 2, Lib.frozen_of_heap x2 3, Lib.frozen_of_heap x2 4, Lib.frozen_of_heap x2 5, Lib.frozen_of_heap x2 6⟩, cell_of x3 2 _ rfl, lt_of_heap x1, lt_of_heap x2, lt_of_heap x3⟩
  obtain ⟨⟨g0, g1, g2, g3, g4, g5, g6⟩, _, _, gp, gl1, gl2, gl3⟩ := hF w5 (fun _ _ _ => rfl)
  have HFF := Lib.hid hF
  have hcp : ∀ W : World, W.heap = w5.heap → Calls Tryz.prog 54 #[vb] W (CpPost W vb (compactL (sortDg b3.ds))) := fun W hW =>
    compactv_any W vb (sortDg b3.ds) (by rw [sortDg_len]; exact hdb) (ownsRow_below (by rw [sortDg_len] at *; exact hrow5) fun g _ => by rw [hW])
  have HCP := Lib.hid hcp
  have HO5 := Lib.hid hown5
  have HVM := Lib.hid hvM
  have HRR := Lib.hid h5R
  clear hF hcp hown5 hvM h5R h5N h5p hrow5
  go_wp2_with fail
  have hend : ∀ (w6 wf : World) (A6 : Option Addr) (c6 : Nat), FlatAt Dg.cells 5 w6 (fun b => vb.ownBlock = some b) A6 (compactL (sortDg b3.ds)) → Own1 vb w5 w6 → Upd w.heap.size w6 wf →
      AstPost w src ch (.returned (.tuple #[.agg #[.int .i64 hd.k, .int .i64 hd.v, .string hd.t, .int .i64 0, .int .i64 src.size, .int .i64 hd.nm, .slice A4 m4 c4], .slice A6 (compactL (sortDg b3.ds)).length c6, .int .i64 0])) wf := by
    intro w6 wf A6 c6 k1 k2 k3
    have z2 := HBW2.out.size
    have z3 := HN3.out.size
    have z4 := HB4.out.size
    have z5 := HO5.out.size
    have z6 := k2.size
    have far : ∀ b, b < w3.heap.size → vb.ownBlock ≠ some b → b ≠ w.heap.size → wf.heap[b]? = w3.heap[b]? := fun b hb hv hr => by
      rw [k3.block b hr, k2.block b (by omega) hv, HO5.out.block b (by omega) hv, HB4.out.block b (by omega)]
    refine ⟨[.int .i64 hd.k, .int .i64 hd.v, .string hd.t, .int .i64 0, .int .i64 src.size, .int .i64 hd.nm, .slice A4 m4 c4], A6, c6, by rw [HA2.out], ?_, ?_, ?_⟩
    · rw [HA1.out]
      unfold NodeV
      refine ⟨A4, c4, by rw [HM4.out, HH.out]; rfl, ?_⟩
      rcases HN1.out with h | ⟨b1, o1, rfl, hb1, hn1⟩
      · exact .inl h
      · have hin : ∀ c, (W2.heap.size ≤ c ∧ c < w3.heap.size ∧ ¬ M3 c) → New w wf c := fun c hc => ⟨by have := hc.1; omega, by rw [k3.size]; have := hc.2.1; omega⟩
        exact .inr ⟨b1, o1, rfl, hin _ hb1, NodesV.keep hin (fun c hc => far c hc.2.1 (fun e => hc.2.2 (HX.out.mr c e).1) (by have := hc.1; omega)) _ _ _ hb1 hn1⟩
    · rw [HA2.out]
      exact k1.keep (fun b hb => ⟨by rcases HVM.out b hb with e | e <;> omega, by rw [k3.size]; have := HVL.out b hb; omega⟩) (fun b hb => k3.block b (fun e => by rcases HVM.out b hb with e2 | e2 <;> omega))
    · refine ⟨k3.os.trans (k2.os.trans (HO5.out.os.trans (HB4.out.os.trans (HN3.out.os.trans HBW2.out.os)))), k3.tape.trans (k2.tape.trans (HO5.out.tape.trans (HB4.out.tape.trans (HN3.out.tape.trans HBW2.out.tape)))), k3.output.trans (k2.output.trans (HO5.out.output.trans (HB4.out.output.trans (HN3.out.output.trans HBW2.out.output)))), by rw [k3.size]; omega, fun b hb => ?_⟩
      rw [far b (by omega) (fun e => by rcases HVM.out b e with e2 | e2 <;> omega) (by omega), HN3.out.block b (by omega) (fun e => by have e : b = w1.heap.size + 1 := e; omega), HBW2.out.block b hb]
  have HEND := Lib.hid hend
  clear hend
  go_region_with (go_at_call 54; refine (HCP.out w5.drew rfl).mono ?_; rintro e w6 ⟨A6, c6, rfl, k1, k2⟩; obtain ⟨⟨i0, i1, i2, i3, i4, i5, i6⟩, ⟨r0, r1, r2, r3, r4, r5, r6⟩, ⟨f0, f1, f2, f3, f4, f5, f6⟩, ip, il1, il2, il3⟩ := HFF.out w6 k2.block)
  all_goals
    have hRm : w6.heap[w.heap.size]? = some (.cells #[.int .i64 0, .int .i64 0, .string ⟨#[]⟩, .int .i64 0, .int .i64 0, .int .i64 0, .slice none 0 0] 57 (0, 0)) := (k2.block _ (lt_of_heap HRR.out) hvR).trans HRR.out
    have HRM := Lib.hid hRm
    have K1 := Lib.hid k1
    have K2 := Lib.hid k2
    clear hRm k1 k2
    go_wp2_with fail
    generalize hWf : World.setCell _ ⟨w.heap.size, 6, none⟩ _ = Wf
    obtain ⟨hz, hu⟩ := heap_set7p HRM.out _ _ _ _ _ _ _ Wf hWf
    clear hWf
    refine bodyPost_ret (results_cell_slot2 (P := Tryz.prog) (ty := 57) rfl _ _ w.heap.size 57 _ _ _ _ _ rfl rfl rfl hz Tryz.underlying57 rfl (by kernel_rfl)) rfl ?_
    exact HEND.out w6 Wf A6 c6 K1.out ⟨K2.out.os, K2.out.tape, K2.out.output, K2.out.size, K2.out.block⟩ hu
end Go.Proofs.YtpibenilagloaaaGreatDoor
