/-
  The outline of two sources without errors, joined by a newline: the plain law.
-/
import Derived.Test.YtepadojclmjllaaGreatDoorMxbm
import Derived.Test.YtepadojclmjllaaGreatDoorMxah
import Derived.Test.YtepadojclmjllaaGreatDoorMxbq
/-
  OutlineConcatenation, plain: the tokens of two sources joined by a newline.
-/
namespace Go.Proofs.YtepadojclmjllaaGreatDoor
set_option linter.unusedVariables false
set_option linter.unusedSimpArgs false

theorem takeWhile_snoc {α : Type} (p : α → Bool) (s : List α) (c : α) (r : List α) (hc : p c = false) : (s ++ c :: r).takeWhile p = s.takeWhile p := by
  induction s with
  | nil => simp [hc]
  | cons x s ih =>
    by_cases h : p x = true
    · simp [h, ih]
    · simp [h]
theorem scan_snoc (p : UInt8 → Bool) (s r : List UInt8) (hc : p 10 = false) : scanL p (s ++ 10 :: r) = scanL p s := by
  unfold scanL; rw [takeWhile_snoc p s 10 r hc]
theorem scan_le (p : UInt8 → Bool) (s : List UInt8) : scanL p s ≤ s.length := by
  unfold scanL; exact (List.takeWhile_sublist p).length_le
theorem strEnd_ten (r : List UInt8) (i : Nat) : strEnd (10 :: r) i = none := by unfold strEnd; rw [if_pos (by decide)]
theorem strEnd_snoc : ∀ (n : Nat) (s : List UInt8), s.length ≤ n → ∀ (i : Nat) (r : List UInt8), strEnd (s ++ 10 :: r) i = strEnd s i
  | _, [], _, i, r => by rw [List.nil_append, strEnd_ten]; unfold strEnd; rfl
  | 0, _ :: _, h, _, _ => by simp at h
  | n + 1, c :: s, h, i, r => by
    have hl : s.length ≤ n := by simpa using h
    have ih := strEnd_snoc n s hl
    rw [List.cons_append]
    unfold strEnd
    by_cases h1 : c.toNat = 10
    · simp [h1]
    · by_cases h2 : c.toNat = 34
      · simp [h2]
      · by_cases h3 : c.toNat = 92
        · simp only [h1, h2, h3, if_true, if_false]
          cases s with
          | nil =>
            simp only [List.nil_append]
            simp [strEnd_ten]
          | cons d s' =>
            simp only [List.cons_append]
            have hl' : s'.length ≤ n := by simp at hl; omega
            by_cases h4 : d.toNat = 10
            · simp only [h4, if_true]
              have := ih (i + 1) r
              rw [List.cons_append] at this
              simpa using this
            · simp only [h4, if_false]
              simpa using strEnd_snoc n s' hl' (i + 2) r
        · simp only [h1, h2, h3, if_false]
          simpa using ih (i + 1) r
theorem take_append_le {α : Type} (s r : List α) (n : Nat) (h : n ≤ s.length) : (s ++ r).take n = s.take n := by
  rw [List.take_append_of_le_length h]
/-- what follows a newline does not change the first token ahead of it, but for white space -/
theorem first_snoc (c : UInt8) (s r : List UInt8) (hc : isSpaceB c = false) : firstL ((c :: s) ++ 10 :: r) = firstL (c :: s) := by
  have k1 : notNlB 10 = false := by decide
  have k2 : isWordB 10 = false := by decide
  have k3 : isDigitB 10 = false := by decide
  have e1 := scan_snoc notNlB (c :: s) r k1
  have e2 := scan_snoc isWordB (c :: s) r k2
  have e3 := scan_snoc isDigitB (c :: s) r k3
  have e4 := scan_snoc notNlB s r k1
  have e5 := strEnd_snoc s.length s (Nat.le_refl _) 1 r
  have t2 : ∀ a b : UInt8, b ≠ 10 → ((((c :: s) ++ 10 :: r).take 2 = [a, b]) ↔ ((c :: s).take 2 = [a, b])) := by
    intro a b hb
    cases s with
    | nil => simp; intro _; exact fun h => hb h.symm
    | cons d s => simp
  have hw := scan_le isWordB (c :: s)
  have htw := take_append_le (c :: s) (10 :: r) _ hw
  have hx2 : (1 < ((c :: s) ++ 10 :: r).length ∧ ((c :: s) ++ 10 :: r).take 2 ∈ twoL) ↔ (1 < (c :: s).length ∧ (c :: s).take 2 ∈ twoL) := by
    cases s with
    | nil => simp [twoL]
    | cons d s => simp
  have hs2 : strL ((c :: s) ++ 10 :: r) = strL (c :: s) := by
    unfold strL
    simp only [List.cons_append, List.drop_succ_cons, List.drop_zero]
    rw [e5, e4]
  rw [List.cons_append] at *
  unfold firstL
  simp only [hc, e1, e2, e3, htw, hs2, hx2, t2 47 47 (by decide)]
  rfl
theorem tw_all {α : Type} (p : α → Bool) : ∀ l : List α, l.all p = true → l.takeWhile p = l
  | [], _ => rfl
  | x :: l, h => by
    simp at h
    rw [List.takeWhile_cons_of_pos h.1, tw_all p l (by simpa using h.2)]
theorem tw_drop {α : Type} (p : α → Bool) : ∀ l : List α, l.drop (l.takeWhile p).length = l.dropWhile p ∧ l.take (l.takeWhile p).length = l.takeWhile p
  | [] => ⟨rfl, rfl⟩
  | x :: l => by
    by_cases h : p x = true
    · rw [List.takeWhile_cons_of_pos h, List.dropWhile_cons_of_pos h]
      obtain ⟨h1, h2⟩ := tw_drop p l
      exact ⟨by simpa using h1, by simpa using h2⟩
    · rw [List.takeWhile_cons_of_neg h, List.dropWhile_cons_of_neg h]; exact ⟨rfl, rfl⟩
theorem tokensL_cons1 (c : UInt8) (s : List UInt8) : tokensL (c :: s) = ⟨(firstL (c :: s)).2, ofL ((c :: s).take (firstL (c :: s)).1)⟩ :: tokensL ((c :: s).drop (firstL (c :: s)).1) := by
  have hb := firstL_bd (c :: s) (by simp)
  show tokensG (s.length + 1) (c :: s) = _
  rw [tokensG, if_neg (by simp)]
  unfold tokensL
  rw [tokensG_eq s.length _ _ (by rw [List.length_drop]; simp at hb ⊢; omega) (Nat.le_refl _)]
/-- the token of a white space -/
def spT (w : List UInt8) : List Tok := if w = [] then [] else [⟨101, ofL w⟩]
theorem tok_join : ∀ (n : Nat) (s : List UInt8), s.length ≤ n → ∀ r, ∃ a w, w.all isSpaceB = true ∧ tokensL s = a ++ spT w ∧ tokensL (s ++ 10 :: r) = a ++ tokensL (w ++ 10 :: r)
  | _, [], _, r => ⟨[], [], rfl, rfl, rfl⟩
  | 0, _ :: _, h, _ => by simp at h
  | n + 1, c :: s, h, r => by
    have hb := firstL_bd (c :: s) (by simp)
    have hrec := tok_join n ((c :: s).drop (firstL (c :: s)).1) (by rw [List.length_drop]; simp at h hb ⊢; omega) r
    obtain ⟨a, w, hw, h1, h2⟩ := hrec
    have hcat : firstL (c :: s ++ 10 :: r) = firstL (c :: s) → ∃ a w, w.all isSpaceB = true ∧ tokensL (c :: s) = a ++ spT w ∧ tokensL (c :: s ++ 10 :: r) = a ++ tokensL (w ++ 10 :: r) := by
      intro he
      refine ⟨⟨(firstL (c :: s)).2, ofL ((c :: s).take (firstL (c :: s)).1)⟩ :: a, w, hw, ?_, ?_⟩
      · rw [tokensL_cons1, h1]; rfl
      · rw [List.cons_append] at he ⊢
        rw [tokensL_cons1, he]
        rw [show (c :: (s ++ 10 :: r)) = (c :: s) ++ 10 :: r from rfl, List.take_append_of_le_length hb.2, List.drop_append_of_le_length hb.2, h2]
        rfl
    by_cases hc : isSpaceB c = true
    · have hf : ∀ t, firstL (c :: t) = (scanL isSpaceB (c :: t), 101) := fun t => by rw [firstL_cons, if_pos hc]
      by_cases hall : (c :: s).all isSpaceB = true
      · refine ⟨[], c :: s, hall, ?_, rfl⟩
        have hsc : scanL isSpaceB (c :: s) = (c :: s).length := by
          unfold scanL
          rw [tw_all _ _ hall]
        rw [tokensL_cons1, hf, hsc]
        simp [spT, tokensL, tokensG]
      · apply hcat
        rw [List.cons_append, hf, hf]
        congr 1
        unfold scanL
        have : ∀ l : List UInt8, l.all isSpaceB = false → (l ++ 10 :: r).takeWhile isSpaceB = l.takeWhile isSpaceB := by
          intro l
          induction l with
          | nil => intro h; simp at h
          | cons x l ih =>
            intro h
            by_cases hx : isSpaceB x = true
            · rw [List.cons_append, List.takeWhile_cons_of_pos hx, List.takeWhile_cons_of_pos hx, ih (by simpa [hx] using h)]
            · rw [List.cons_append, List.takeWhile_cons_of_neg hx, List.takeWhile_cons_of_neg hx]
        rw [← List.cons_append, this (c :: s) (by simpa using hall)]
    · exact hcat (first_snoc c s r (by simpa using hc))
theorem tok_space (r : List UInt8) : tokensL r = spT (r.takeWhile isSpaceB) ++ tokensL (r.dropWhile isSpaceB) := by
  cases r with
  | nil => rfl
  | cons c s =>
    by_cases hc : isSpaceB c = true
    · rw [tokensL_cons1, firstL_cons, if_pos hc]
      obtain ⟨hd, ht⟩ := tw_drop isSpaceB (c :: s)
      unfold scanL
      simp only [hd, ht]
      unfold spT
      rw [if_neg (by rw [List.takeWhile_cons_of_pos hc]; simp)]
      rfl
    · rw [List.takeWhile_cons_of_neg hc, List.dropWhile_cons_of_neg hc]
      rfl
theorem tok_mid (w r : List UInt8) (hw : w.all isSpaceB = true) : tokensL (w ++ 10 :: r) = ⟨101, ofL (w ++ 10 :: r.takeWhile isSpaceB)⟩ :: tokensL (r.dropWhile isSpaceB) := by
  have h := tok_space (w ++ 10 :: r)
  have e : ∀ w : List UInt8, w.all isSpaceB = true → (w ++ 10 :: r).takeWhile isSpaceB = w ++ 10 :: r.takeWhile isSpaceB ∧ (w ++ 10 :: r).dropWhile isSpaceB = r.dropWhile isSpaceB := by
    intro w
    induction w with
    | nil => intro _; simp [show isSpaceB 10 = true by decide]
    | cons x w ih =>
      intro h
      have hx : isSpaceB x = true := by simp at h; exact h.1
      have hr : w.all isSpaceB = true := by simp at h ⊢; exact h.2
      obtain ⟨h1, h2⟩ := ih hr
      rw [List.cons_append, List.takeWhile_cons_of_pos hx, List.dropWhile_cons_of_pos hx, h1, h2]
      exact ⟨rfl, rfl⟩
  rw [h, (e w hw).1, (e w hw).2]
  unfold spT
  rw [if_neg (by simp)]
  rfl
end Go.Proofs.YtepadojclmjllaaGreatDoor

/-
  OutlineConcatenation, plain: a run on tokens, and on the same tokens with others behind them.
-/
namespace Go.Proofs.YtepadojclmjllaaGreatDoor
set_option linter.unusedVariables false
set_option linter.unusedSimpArgs false

theorem sig_app : ∀ (x y : List Tok), sig x ≠ [] → sig (x ++ y) = sig x ++ y
  | [], y, h => absurd rfl h
  | a :: x, y, h => by
    by_cases ht : isTriv a = true
    · rw [List.cons_append, sig_cons_triv ht, sig_cons_triv ht]
      exact sig_app x y (by rw [sig_cons_triv ht] at h; exact h)
    · have ht' : isTriv a = false := by simpa using ht
      rw [List.cons_append, sig_cons_not ht', sig_cons_not ht']; rfl
theorem sig_app0 : ∀ (x y : List Tok), sig x = [] → sig (x ++ y) = sig y
  | [], y, h => rfl
  | a :: x, y, h => by
    by_cases ht : isTriv a = true
    · rw [List.cons_append, sig_cons_triv ht]
      exact sig_app0 x y (by rw [sig_cons_triv ht] at h; exact h)
    · rw [sig_cons_not (by simpa using ht)] at h; cases h
theorem after_app (x y : List Tok) (h : sig x ≠ []) : after (x ++ y) = after x ++ y := by
  unfold after
  rw [sig_app x y h]
  cases hs : sig x with
  | nil => exact absurd hs h
  | cons a r => rfl
theorem peek_app (x y : List Tok) (h : sig x ≠ []) : peekT (x ++ y) = peekT x := by
  unfold peekT
  rw [sig_app x y h]
  cases hs : sig x with
  | nil => exact absurd hs h
  | cons a r => rfl
theorem peek_app0 (x y : List Tok) (h : sig x = []) : peekT (x ++ y) = peekT y := by
  unfold peekT
  rw [sig_app0 x y h]
theorem trivs_app (x y : List Tok) (h : sig x ≠ []) : trivs (x ++ y) = trivs x := by
  have h1 := trivs_sig (x ++ y)
  rw [sig_app x y h] at h1
  have h2 := trivs_sig x
  have h3 : trivs x ++ (sig x ++ y) = trivs (x ++ y) ++ (sig x ++ y) := by rw [← h1, ← List.append_assoc, ← h2]
  exact (List.append_cancel_right h3).symm
theorem taken_app (x y : List Tok) (h : sig x ≠ []) : taken (x ++ y) = taken x := by
  rw [taken_eq, taken_eq, trivs_app x y h, sig_app x y h]
  cases hs : sig x with
  | nil => exact absurd hs h
  | cons a r => rfl
/-- nothing but trivia, or an item's keyword ahead -/
def Good (T : List Tok) : Prop := sig T = [] ∨ (((peekT T).k = 104 ∨ (peekT T).k = 107) ∧ (peekT T).t ∈ Cmd.items)
/-- tests that answer alike at the end and at an item's keyword -/
inductive NiceT : Test → Prop
  | at (L) : NiceT (.at L)
  | kind (k) : NiceT (.kind k)
  | text (t) : NiceT (.text t)
  | flag : NiceT .flag
  | and2 (L) : (L.all fun t => Cmd.items.all fun u => decide (t ≠ u)) = true → NiceT (.and (.ahead 1 (.kind 103)) (.ahead 2 (.at L)))
  | not {a} : NiceT a → NiceT (.not a)
  | or {a b} : NiceT a → NiceT b → NiceT (.or a b)
  | and {a b} : NiceT a → NiceT b → NiceT (.and a b)
  | ahead1 (L) : (L.all fun t => Cmd.items.all fun u => decide (t ≠ u)) = true → NiceT (.ahead 1 (.at L))
  | aheadId : NiceT (.ahead 1 (.kind 103))
theorem good_at {T : List Tok} (h : Good T) (L : List ByteArray) (hL : (L.all fun t => Cmd.items.all fun u => decide (t ≠ u)) = true) : atB L T = false := by
  unfold atB
  rcases h with h | ⟨h1, h2⟩
  · have : peekT T = ⟨100, .empty⟩ := by unfold peekT; rw [h]
    rw [this]; rfl
  · have : (L.any fun t => decide (t = (peekT T).t)) = false := by
      rw [List.any_eq_false]
      intro t ht
      have := List.all_eq_true.1 hL t ht
      have := List.all_eq_true.1 this _ h2
      simpa using this
    rw [this, Bool.and_false]
theorem good_kind {T : List Tok} (h : Good T) : ((peekT T).k == 103) = false := by
  rcases h with h | ⟨h1, h2⟩
  · have : peekT T = ⟨100, .empty⟩ := by unfold peekT; rw [h]
    rw [this]; rfl
  · rcases h1 with h1 | h1 <;> rw [h1] <;> rfl
theorem good_triv {W : List Tok} (h : sig W = []) : Good W := .inl h
theorem good_app0 {x T : List Tok} (hx : sig x = []) (h : Good T) : Good (x ++ T) := by
  unfold Good at *
  rw [sig_app0 x T hx, peek_app0 x T hx]
  exact h
theorem ahead1_at {W T : List Tok} (hW : sig W = []) (hT : Good T) (x : List Tok) (hx : sig x ≠ []) (L : List ByteArray) (hL : (L.all fun t => Cmd.items.all fun u => decide (t ≠ u)) = true) : atB L (after (x ++ W)) = atB L (after (x ++ T)) := by
  rw [after_app x W hx, after_app x T hx]
  by_cases h : sig (after x) = []
  · rw [good_at (good_app0 h (good_triv hW)) L hL, good_at (good_app0 h hT) L hL]
  · unfold atB
    rw [peek_app _ _ h, peek_app _ _ h]
theorem ahead1_id {W T : List Tok} (hW : sig W = []) (hT : Good T) (x : List Tok) (hx : sig x ≠ []) : ((peekT (after (x ++ W))).k == 103) = ((peekT (after (x ++ T))).k == 103) := by
  rw [after_app x W hx, after_app x T hx]
  by_cases h : sig (after x) = []
  · rw [good_kind (good_app0 h (good_triv hW)), good_kind (good_app0 h hT)]
  · rw [peek_app _ _ h, peek_app _ _ h]
theorem nice_alike {W T : List Tok} (hW : sig W = []) (hT : Good T) (f : Bool) (x : List Tok) (hx : sig x ≠ []) : ∀ {t : Test}, NiceT t → t.eval f (x ++ W) = t.eval f (x ++ T) := by
  intro t h
  induction h with
  | «at» L => unfold Test.eval atB; rw [peek_app _ _ hx, peek_app _ _ hx]
  | kind k => unfold Test.eval; rw [peek_app _ _ hx, peek_app _ _ hx]
  | text t => unfold Test.eval; rw [peek_app _ _ hx, peek_app _ _ hx]
  | flag => rfl
  | and2 L hL =>
    unfold Test.eval
    have h1 := ahead1_id hW hT x hx
    show (((peekT (after (x ++ W))).k == 103) && atB L (after (after (x ++ W)))) = (((peekT (after (x ++ T))).k == 103) && atB L (after (after (x ++ T))))
    by_cases h : sig (after x) = []
    · rw [after_app x W hx, after_app x T hx, good_kind (good_app0 h (good_triv hW)), good_kind (good_app0 h hT)]
      rfl
    · rw [h1, after_app x W hx, after_app x T hx, after_app _ W h, after_app _ T h]
      congr 1
      by_cases h' : sig (after (after x)) = []
      · rw [good_at (good_app0 h' (good_triv hW)) L hL, good_at (good_app0 h' hT) L hL]
      · unfold atB
        rw [peek_app _ _ h', peek_app _ _ h']
  | not _ ih => unfold Test.eval; rw [ih]
  | or _ _ ih1 ih2 => unfold Test.eval; rw [ih1, ih2]
  | and _ _ ih1 ih2 => unfold Test.eval; rw [ih1, ih2]
  | ahead1 L hL => exact ahead1_at hW hT x hx L hL
  | aheadId => exact ahead1_id hW hT x hx
def NiceC : Cmd → Prop
  | .skip => True
  | .bump => True
  | .trivia => True
  | .leaf _ => True
  | .node _ c => NiceC c
  | .wrap _ c => NiceC c
  | .seq c d => NiceC c ∧ NiceC d
  | .ite t c d => NiceT t ∧ NiceC c ∧ NiceC d
  | .loop t c => NiceT t ∧ NiceC c
  | .moved c d e => NiceC c ∧ NiceC d ∧ NiceC e
  | .dropLast => True
  | .insNone => True
  | .setFlag _ => True
  | .call f => f ≠ .item
theorem nice_body : ∀ f, f ≠ .item → NiceC (body f) := by
  intro f hf
  cases f <;> try exact absurd rfl hf
  all_goals
    unfold body
  all_goals
    try (simp only [Cmd.list, Cmd.expect, Cmd.optional, Cmd.accept, Cmd.expectIdent, Cmd.unexpected, segment, stmtTail, Cmd.eof, Cmd.ident, Cmd.atItem, NiceC])
  all_goals
    repeat' (first
      | exact True.intro
      | exact NiceT.and2 _ (by decide +kernel)
      | exact NiceT.at _
      | exact NiceT.kind _
      | exact NiceT.text _
      | exact NiceT.flag
      | exact NiceT.aheadId
      | exact NiceT.ahead1 _ (by decide +kernel)
      | (refine And.intro ?_ ?_)
      | (refine NiceT.not ?_)
      | (refine NiceT.and ?_ ?_)
      | (refine NiceT.or ?_ ?_)
      | (intro h; cases h; done)
      | (split; simp only [NiceC])
      | split)
theorem add_some {s u : PS} {ts : List Tree} (h : s.add ts = some u) : u.rest = s.rest ∧ u.ch = s.ch ++ ts ∧ u.flag = s.flag := by
  unfold PS.add at h
  split at h
  · cases h; exact ⟨rfl, rfl, rfl⟩
  · cases h
/-- one state on x, W and one on x, T -/
def Like (W T : List Tok) (x : List Tok) (s sJ : PS) : Prop := s.rest = x ++ W ∧ sJ.rest = x ++ T ∧ sJ.ch = s.ch ∧ sJ.flag = s.flag
theorem sig_of_suffix {a b : List Tok} (h : a <:+ b) (ha : sig a ≠ []) : sig b ≠ [] := by
  obtain ⟨c, rfl⟩ := h
  by_cases hc : sig c = []
  · rw [sig_app0 c a hc]; exact ha
  · rw [sig_app c a hc]
    intro e
    exact hc (List.append_eq_nil_iff.1 e).1
theorem sig_left {x W : List Tok} (hW : sig W = []) (h : sig (x ++ W) ≠ []) : sig x ≠ [] := by
  intro e
  rw [sig_app0 x W e] at h
  exact h hW
theorem sim {W T : List Tok} (hW : sig W = []) (hT : Good T) : ∀ (n : Nat) (c : Cmd), NiceC c → ∀ (m : Nat) (x : List Tok) (s sJ s' sJ' : PS), run n c s = some s' → run m c sJ = some sJ' → Like W T x s sJ → sig s'.rest ≠ [] → ∃ x', Like W T x' s' sJ' := by
  intro n
  induction n with
  | zero => intro c _ m x s sJ s' sJ' h; simp [run] at h
  | succ n ih =>
    intro c hc m x s sJ s' sJ' h hJ hl hne
    cases m with
    | zero => simp [run] at hJ
    | succ m =>
      obtain ⟨l1, l2, l3, l4⟩ := hl
      have hxW : sig (x ++ W) ≠ [] := by rw [← l1]; exact sig_of_suffix (run_rest _ _ _ _ h) hne
      have hx : sig x ≠ [] := sig_left hW hxW
      cases c with
      | skip => simp only [run] at h hJ; cases h; cases hJ; exact ⟨x, l1, l2, l3, l4⟩
      | bump =>
        simp only [run, Option.map_eq_some_iff] at h hJ
        obtain ⟨u, h1, rfl⟩ := h
        obtain ⟨v, h2, rfl⟩ := hJ
        obtain ⟨a1, a2, a3⟩ := add_some h1
        obtain ⟨b1, b2, b3⟩ := add_some h2
        refine ⟨after x, ?_, ?_, ?_, ?_⟩
        · show after s.rest = _
          rw [l1, after_app x W hx]
        · show after sJ.rest = _
          rw [l2, after_app x T hx]
        · show v.ch = u.ch
          rw [a2, b2, l1, l2, taken_app x W hx, taken_app x T hx, l3]
        · show v.flag = u.flag
          rw [a3, b3, l4]
      | trivia =>
        simp only [run, Option.map_eq_some_iff] at h hJ
        obtain ⟨u, h1, rfl⟩ := h
        obtain ⟨v, h2, rfl⟩ := hJ
        obtain ⟨a1, a2, a3⟩ := add_some h1
        obtain ⟨b1, b2, b3⟩ := add_some h2
        refine ⟨sig x, ?_, ?_, ?_, ?_⟩
        · show sig s.rest = _
          rw [l1, sig_app x W hx]
        · show sig sJ.rest = _
          rw [l2, sig_app x T hx]
        · show v.ch = u.ch
          rw [a2, b2, l1, l2, trivs_app x W hx, trivs_app x T hx, l3]
        · show v.flag = u.flag
          rw [a3, b3, l4]
      | leaf k =>
        simp only [run] at h hJ
        obtain ⟨a1, a2, a3⟩ := add_some h
        obtain ⟨b1, b2, b3⟩ := add_some hJ
        exact ⟨x, by rw [a1, l1], by rw [b1, l2], by rw [a2, b2, l3], by rw [a3, b3, l4]⟩
      | node k c =>
        simp only [run] at h hJ
        split at h
        · split at hJ
          · simp only [Option.map_eq_some_iff] at h hJ
            obtain ⟨u, h1, rfl⟩ := h
            obtain ⟨v, h2, rfl⟩ := hJ
            obtain ⟨x', k1, k2, k3, k4⟩ := ih c hc m x _ _ _ _ h1 h2 ⟨l1, l2, rfl, l4⟩ hne
            exact ⟨x', k1, k2, by show sJ.ch ++ _ = s.ch ++ _; rw [l3, k3], k4⟩
          · cases hJ
        · cases h
      | wrap k c =>
        simp only [run] at h hJ
        rw [l3] at hJ
        cases hg : s.ch.getLast? with
        | none => rw [hg] at h; cases h
        | some y =>
          rw [hg] at h hJ
          simp only at h hJ
          split at h
          · split at hJ
            · simp only [Option.map_eq_some_iff] at h hJ
              obtain ⟨u, h1, rfl⟩ := h
              obtain ⟨v, h2, rfl⟩ := hJ
              obtain ⟨x', k1, k2, k3, k4⟩ := ih c hc m x _ _ _ _ h1 h2 ⟨l1, l2, rfl, l4⟩ hne
              exact ⟨x', k1, k2, by show s.ch.dropLast ++ _ = s.ch.dropLast ++ _; rw [k3], k4⟩
            · cases hJ
          · cases h
      | seq c d =>
        simp only [run, Option.bind_eq_some_iff] at h hJ
        obtain ⟨u, h1, h2⟩ := h
        obtain ⟨v, j1, j2⟩ := hJ
        obtain ⟨x1, hl1⟩ := ih c hc.1 m x _ _ _ _ h1 j1 ⟨l1, l2, l3, l4⟩ (sig_of_suffix (run_rest _ _ _ _ h2) hne)
        exact ih d hc.2 m x1 _ _ _ _ h2 j2 hl1 hne
      | ite t c d =>
        have he := nice_alike hW hT s.flag x hx hc.1
        simp only [run] at h hJ
        rw [l2, l4, ← he] at hJ
        rw [l1] at h
        split at h
        · rename_i ht; rw [if_pos ht] at hJ
          exact ih c hc.2.1 m x _ _ _ _ h hJ ⟨l1, l2, l3, l4⟩ hne
        · rename_i ht; rw [if_neg ht] at hJ
          exact ih d hc.2.2 m x _ _ _ _ h hJ ⟨l1, l2, l3, l4⟩ hne
      | loop t c =>
        have he := nice_alike hW hT s.flag x hx hc.1
        simp only [run] at h hJ
        rw [l2, l4, ← he] at hJ
        rw [l1] at h
        split at h
        · rename_i ht; rw [if_pos ht] at hJ
          simp only [Option.bind_eq_some_iff] at h hJ
          obtain ⟨u, h1, h2⟩ := h
          obtain ⟨v, j1, j2⟩ := hJ
          obtain ⟨x1, hl1⟩ := ih c hc.2 m x _ _ _ _ h1 j1 ⟨l1, l2, l3, l4⟩ (sig_of_suffix (run_rest _ _ _ _ h2) hne)
          exact ih (.loop t c) hc m x1 _ _ _ _ h2 j2 hl1 hne
        · rename_i ht; rw [if_neg ht] at hJ
          cases h; cases hJ
          exact ⟨x, l1, l2, l3, l4⟩
      | moved c d e =>
        simp only [run, Option.bind_eq_some_iff] at h hJ
        obtain ⟨u, h1, h2⟩ := h
        obtain ⟨v, j1, j2⟩ := hJ
        have hu : sig u.rest ≠ [] := by
          split at h2 <;> exact sig_of_suffix (run_rest _ _ _ _ h2) hne
        obtain ⟨x1, hl1⟩ := ih c hc.1 m x _ _ _ _ h1 j1 ⟨l1, l2, l3, l4⟩ hu
        have hlen : (v.rest.length = sJ.rest.length) ↔ (u.rest.length = s.rest.length) := by
          rw [hl1.1, hl1.2.1, l1, l2]
          simp only [List.length_append]
          omega
        split at h2
        · rename_i hq; rw [if_pos (hlen.2 hq)] at j2
          exact ih d hc.2.1 m x1 _ _ _ _ h2 j2 hl1 hne
        · rename_i hq; rw [if_neg (fun hh => hq (hlen.1 hh))] at j2
          exact ih e hc.2.2 m x1 _ _ _ _ h2 j2 hl1 hne
      | dropLast =>
        simp only [run] at h hJ
        rw [l3] at hJ
        cases hg : s.ch with
        | nil => rw [hg] at h; cases h
        | cons y r =>
          rw [hg] at h hJ
          simp only at h hJ
          cases h; cases hJ
          exact ⟨x, l1, l2, rfl, l4⟩
      | insNone =>
        simp only [run] at h hJ
        rw [l3] at hJ
        cases hg : s.ch.getLast? with
        | none => rw [hg] at h; cases h
        | some y =>
          rw [hg] at h hJ
          simp only at h hJ
          split at h
          · split at hJ
            · cases h; cases hJ
              exact ⟨x, l1, l2, rfl, l4⟩
            · cases hJ
          · cases h
      | setFlag b =>
        simp only [run] at h hJ
        cases h; cases hJ
        exact ⟨x, l1, l2, l3, rfl⟩
      | call f =>
        simp only [run] at h hJ
        exact ih _ (nice_body f hc) m x _ _ _ _ h hJ ⟨l1, l2, l3, l4⟩ hne
end Go.Proofs.YtepadojclmjllaaGreatDoor

/-
  OutlineConcatenation, plain: items without errors.
-/
namespace Go.Proofs.YtepadojclmjllaaGreatDoor
set_option linter.unusedVariables false
set_option linter.unusedSimpArgs false

/-- an error at the right edge of a tree -/
inductive BadT : Tree → Prop
  | leaf (t ch) : BadT (.mk 108 t ch)
  | err (t ch) : BadT (.mk 46 t ch)
  | node (k t ch y) : k < 100 → ch.getLast? = some y → BadT y → BadT (.mk k t ch)
def Bad (s : PS) : Prop := ∃ y, s.ch.getLast? = some y ∧ BadT y
/-- ends by a mandatory token -/
inductive EC : Cmd → Prop
  | expect (t) : EC (Cmd.expect t)
  | seq {c d} : NiceC c → EC d → EC (.seq c d)
  | ite {t c d} : NiceT t → EC c → EC d → EC (.ite t c d)
  | node {k c} : k < 100 → EC c → EC (.node k c)
  | call {f} : EC (body f) → EC (.call f)
theorem peek_sig {r : List Tok} {L : List ByteArray} (h : atB L r = true) : sig r ≠ [] := by
  intro e
  unfold atB peekT at h
  rw [e] at h
  simp at h
theorem ec_ne : ∀ {c : Cmd}, EC c → ∀ (n : Nat) (s s' : PS), run n c s = some s' → Bad s' ∨ sig s.rest ≠ [] := by
  intro c hc
  induction hc with
  | expect t =>
    intro n s s' h
    match n with
    | 0 => simp [run] at h
    | n + 1 =>
      unfold Cmd.expect at h
      simp only [run] at h
      split at h
      · rename_i ht; exact .inr (peek_sig ht)
      · match n with
        | 0 => simp [run] at h
        | n + 1 =>
          simp only [run] at h
          obtain ⟨_, a2, _⟩ := add_some h
          exact .inl ⟨.mk 108 .empty [], by rw [a2]; simp, .leaf _ _⟩
  | seq hc hd ih =>
    intro n s s' h
    match n with
    | 0 => simp [run] at h
    | n + 1 =>
      simp only [run, Option.bind_eq_some_iff] at h
      obtain ⟨u, h1, h2⟩ := h
      rcases ih n u s' h2 with h3 | h3
      · exact .inl h3
      · exact .inr (sig_of_suffix (run_rest _ _ _ _ h1) h3)
  | ite ht hc hd ih1 ih2 =>
    intro n s s' h
    match n with
    | 0 => simp [run] at h
    | n + 1 =>
      simp only [run] at h
      split at h
      · exact ih1 n s s' h
      · exact ih2 n s s' h
  | node hk hc ih =>
    intro n s s' h
    match n with
    | 0 => simp [run] at h
    | n + 1 =>
      simp only [run] at h
      split at h
      · simp only [Option.map_eq_some_iff] at h
        obtain ⟨u, h1, rfl⟩ := h
        rcases ih n _ u h1 with ⟨y, hy, hb⟩ | h3
        · exact .inl ⟨.mk _ .empty u.ch, by simp, .node _ _ _ y hk hy hb⟩
        · exact .inr h3
      · cases h
  | call hc ih =>
    intro n s s' h
    match n with
    | 0 => simp [run] at h
    | n + 1 =>
      simp only [run] at h
      exact ih n s s' h
theorem ec_sim {W T : List Tok} (hW : sig W = []) (hT : Good T) : ∀ {c : Cmd}, EC c → ∀ (n m : Nat) (x : List Tok) (s sJ s' sJ' : PS), run n c s = some s' → run m c sJ = some sJ' → Like W T x s sJ → Bad s' ∨ ∃ x', Like W T x' s' sJ' := by
  intro c hc
  induction hc with
  | expect t =>
    intro n m x s sJ s' sJ' h hJ hl
    match n, m with
    | 0, _ => simp [run] at h
    | n + 1, 0 => simp [run] at hJ
    | n + 1, m + 1 =>
      obtain ⟨l1, l2, l3, l4⟩ := hl
      rcases ec_ne (.expect t) _ _ _ h with h0 | h0
      · exact .inl h0
      · have hx := sig_left hW (by rw [← l1]; exact h0)
        have he := nice_alike hW hT s.flag x hx (NiceT.at [t])
        unfold Cmd.expect at h hJ
        simp only [run] at h hJ
        rw [l2, l4, ← he] at hJ
        rw [l1] at h
        split at h
        · rename_i ht; rw [if_pos ht] at hJ
          match n, m with
          | 0, _ => simp [run] at h
          | n + 1, 0 => simp [run] at hJ
          | n + 1, m + 1 =>
            simp only [run, Option.map_eq_some_iff] at h hJ
            obtain ⟨u, h1, rfl⟩ := h
            obtain ⟨v, h2, rfl⟩ := hJ
            obtain ⟨a1, a2, a3⟩ := add_some h1
            obtain ⟨b1, b2, b3⟩ := add_some h2
            refine .inr ⟨after x, ?_, ?_, ?_, ?_⟩
            · show after s.rest = _
              rw [l1, after_app x W hx]
            · show after sJ.rest = _
              rw [l2, after_app x T hx]
            · show v.ch = u.ch
              rw [a2, b2, l1, l2, taken_app x W hx, taken_app x T hx, l3]
            · show v.flag = u.flag
              rw [a3, b3, l4]
        · rename_i ht
          match n with
          | 0 => simp [run] at h
          | n + 1 =>
            simp only [run] at h
            obtain ⟨_, a2, _⟩ := add_some h
            exact .inl ⟨.mk 108 .empty [], by rw [a2]; simp, .leaf _ _⟩
  | seq hc hd ih =>
    intro n m x s sJ s' sJ' h hJ hl
    match n, m with
    | 0, _ => simp [run] at h
    | n + 1, 0 => simp [run] at hJ
    | n + 1, m + 1 =>
      simp only [run, Option.bind_eq_some_iff] at h hJ
      obtain ⟨u, h1, h2⟩ := h
      obtain ⟨v, j1, j2⟩ := hJ
      rcases ec_ne hd _ _ _ h2 with h3 | h3
      · exact .inl h3
      · obtain ⟨x1, hl1⟩ := sim hW hT n _ hc m x _ _ _ _ h1 j1 hl h3
        exact ih n m x1 u v s' sJ' h2 j2 hl1
  | ite ht hc hd ih1 ih2 =>
    intro n m x s sJ s' sJ' h hJ hl
    rcases ec_ne (.ite ht hc hd) _ _ _ h with h0 | h0
    · exact .inl h0
    · match n, m with
      | 0, _ => simp [run] at h
      | n + 1, 0 => simp [run] at hJ
      | n + 1, m + 1 =>
        obtain ⟨l1, l2, l3, l4⟩ := hl
        have hx := sig_left hW (by rw [← l1]; exact h0)
        have he := nice_alike hW hT s.flag x hx ht
        simp only [run] at h hJ
        rw [l2, l4, ← he] at hJ
        rw [l1] at h
        split at h
        · rename_i hq; rw [if_pos hq] at hJ
          exact ih1 n m x s sJ s' sJ' h hJ ⟨l1, l2, l3, l4⟩
        · rename_i hq; rw [if_neg hq] at hJ
          exact ih2 n m x s sJ s' sJ' h hJ ⟨l1, l2, l3, l4⟩
  | node hk hc ih =>
    intro n m x s sJ s' sJ' h hJ hl
    match n, m with
    | 0, _ => simp [run] at h
    | n + 1, 0 => simp [run] at hJ
    | n + 1, m + 1 =>
      obtain ⟨l1, l2, l3, l4⟩ := hl
      simp only [run] at h hJ
      split at h
      · split at hJ
        · simp only [Option.map_eq_some_iff] at h hJ
          obtain ⟨u, h1, rfl⟩ := h
          obtain ⟨v, h2, rfl⟩ := hJ
          rcases ih n m x _ _ u v h1 h2 ⟨l1, l2, rfl, l4⟩ with ⟨y, hy, hb⟩ | ⟨x', k1, k2, k3, k4⟩
          · exact .inl ⟨.mk _ .empty u.ch, by simp, .node _ _ _ y hk hy hb⟩
          · exact .inr ⟨x', k1, k2, by show sJ.ch ++ _ = s.ch ++ _; rw [l3, k3], k4⟩
        · cases hJ
      · cases h
  | call hc ih =>
    intro n m x s sJ s' sJ' h hJ hl
    match n, m with
    | 0, _ => simp [run] at h
    | n + 1, 0 => simp [run] at hJ
    | n + 1, m + 1 =>
      simp only [run] at h hJ
      exact ih n m x s sJ s' sJ' h hJ hl
theorem ec_list (closing : ByteArray) {c : Cmd} (h : NiceC c) : EC (Cmd.list closing c) := by
  unfold Cmd.list
  refine .seq ?_ (.expect _)
  refine ⟨.and (.not (.at _)) (.and (.not (.kind _)) (.not (.and (.at _) (.not (.at _))))), h, trivial, .not (.at _), ⟨.at _, trivial, trivial⟩, trivial⟩
theorem ec_block : EC (.call .block) := by
  refine .call ?_
  unfold body
  refine .node (by decide) (.seq ⟨.at _, trivial, trivial⟩ (.seq trivial (.seq ⟨.and (.not .flag) (.and (.not (.at _)) (.and (.not (.kind _)) (.not (.at _)))), fun h => by cases h⟩ (.seq ⟨.flag, trivial, trivial⟩ (.expect _)))))
theorem ec_body (k : Int) : EC (.call (.itemBody k)) := by
  refine .call ?_
  have hn := nice_body (.itemBody k) (by simp)
  simp only [body] at hn ⊢
  split
  · refine .call ?_
    have h2 := nice_body .useS (by simp)
    simp only [body] at h2 ⊢
    exact .seq h2.1 (.seq h2.2.1 (.seq h2.2.2.1 (.expect _)))
  · rename_i q1; rw [if_neg q1] at hn
    split
    · refine .call ?_
      have h2 := nice_body (.function true) (by simp)
      simp only [body] at h2 ⊢
      exact .seq h2.1 (.seq h2.2.1 (.seq h2.2.2.1 (.seq h2.2.2.2.1 (.seq h2.2.2.2.2.1 (by simpa using ec_block)))))
    · rename_i q2; rw [if_neg q2] at hn
      split
      · refine .call ?_
        have h2 := nice_body (.dataType k) (by simp)
        simp only [body] at h2 ⊢
        exact .seq h2.1 (.seq h2.2.1 (.seq h2.2.2.1 (ec_list _ h2.2.2.2.1.2.1)))
      · rename_i q3; rw [if_neg q3] at hn
        have hm : EC (.call .members) := by
          refine .call ?_
          have h2 := nice_body .members (by simp)
          simp only [body] at h2 ⊢
          exact .seq h2.1 (.seq h2.2.1 (.expect _))
        split
        · rename_i q4; rw [if_pos q4] at hn
          exact .seq hn.1 hm
        · rename_i q4; rw [if_neg q4] at hn
          split
          · refine .call ?_
            have h2 := nice_body .implS (by simp)
            simp only [body] at h2 ⊢
            exact .seq h2.1 (.seq h2.2.1 (.seq h2.2.2.1 hm))
          · rename_i q5; rw [if_neg q5] at hn
            split
            · rename_i q6; rw [if_pos q6] at hn
              exact .seq hn.1 (.seq hn.2.1 (.seq hn.2.2.1 (.seq hn.2.2.2.1 (.seq hn.2.2.2.2.1 (.expect _)))))
            · rename_i q6; rw [if_neg q6] at hn
              exact .seq hn.1 (.seq hn.2.1 (.seq hn.2.2.1 (.seq hn.2.2.2.1 (.seq hn.2.2.2.2.1 (.expect _)))))
end Go.Proofs.YtepadojclmjllaaGreatDoor

/-
  OutlineConcatenation, plain: runs that differ in the earlier children and the flag; runs that leave no error.
-/
namespace Go.Proofs.YtepadojclmjllaaGreatDoor
set_option linter.unusedVariables false
set_option linter.unusedSimpArgs false

def noFlag : Test → Bool
  | .flag => false
  | .not a => noFlag a
  | .and a b => noFlag a && noFlag b
  | .or a b => noFlag a && noFlag b
  | .ahead _ a => noFlag a
  | _ => true
theorem noFlag_eval : ∀ (t : Test) (f g : Bool) (r : List Tok), noFlag t = true → t.eval f r = t.eval g r
  | .at _, _, _, _, _ => rfl
  | .kind _, _, _, _, _ => rfl
  | .text _, _, _, _, _ => rfl
  | .ahead n t, f, g, r, h => noFlag_eval t f g (skipN n r) h
  | .flag, _, _, _, h => by cases h
  | .not a, f, g, r, h => by unfold Test.eval; rw [noFlag_eval a f g r h]
  | .and a b, f, g, r, h => by
    simp only [noFlag, Bool.and_eq_true] at h
    unfold Test.eval; rw [noFlag_eval a f g r h.1, noFlag_eval b f g r h.2]
  | .or a b, f, g, r, h => by
    simp only [noFlag, Bool.and_eq_true] at h
    unfold Test.eval; rw [noFlag_eval a f g r h.1, noFlag_eval b f g r h.2]
def setsB : Cmd → Bool
  | .setFlag _ => true
  | _ => false
/-- asks for the flag only behind setting it -/
def FC : Cmd → Bool
  | .seq c d => setsB c || (FC c && FC d)
  | .ite t c d => noFlag t && FC c && FC d
  | .loop t c => noFlag t && FC c
  | .moved c d e => FC c && FC d && FC e
  | .node _ c => FC c
  | .wrap _ c => FC c
  | _ => true
theorem FC_body (f : Fn) : FC (body f) = true := by
  cases f with
  | path x => cases x <;> decide
  | params x => rfl
  | binary l =>
    simp only [body]
    split
    · rfl
    · simp only [FC]
      split <;> rfl
  | itemBody k =>
    simp only [body]
    split
    · rfl
    · split
      · rfl
      · split
        · rfl
        · split
          · rfl
          · split
            · rfl
            · split <;> rfl
  | function x => cases x <;> decide
  | dataType k =>
    simp only [body]
    by_cases h : k = 4
    · simp only [h]; decide
    · simp only [if_neg h]; decide
  | _ => decide
theorem simA : ∀ (n : Nat) (c : Cmd) (s u : PS), run n c s = some u → ∀ (m : Nat) (A : List Tree) (sJ uJ : PS), run m c sJ = some uJ → sJ.rest = s.rest → sJ.ch = A ++ s.ch → (sJ.flag = s.flag ∨ FC c = true) → uJ.rest = u.rest ∧ uJ.ch = A ++ u.ch ∧ (sJ.flag = s.flag → uJ.flag = u.flag) := by
  intro n
  induction n with
  | zero => intro c s u h; simp [run] at h
  | succ n ih =>
    intro c s u h m A sJ uJ hJ hr hc hf
    cases m with
    | zero => simp [run] at hJ
    | succ m =>
      have ht : ∀ t : Test, (sJ.flag = s.flag ∨ noFlag t = true) → t.eval sJ.flag sJ.rest = t.eval s.flag s.rest := by
        intro t h
        rw [hr]
        rcases h with h | h
        · rw [h]
        · exact noFlag_eval t _ _ _ h
      cases c with
      | skip => simp only [run] at h hJ; cases h; cases hJ; exact ⟨hr, hc, id⟩
      | bump =>
        simp only [run, Option.map_eq_some_iff] at h hJ
        obtain ⟨u, h1, rfl⟩ := h
        obtain ⟨v, h2, rfl⟩ := hJ
        obtain ⟨a1, a2, a3⟩ := add_some h1
        obtain ⟨b1, b2, b3⟩ := add_some h2
        refine ⟨by show after sJ.rest = _; rw [hr], by show v.ch = _; rw [b2, hc, hr, List.append_assoc]; show _ = A ++ u.ch; rw [a2], fun e => by show v.flag = u.flag; rw [b3, a3, e]⟩
      | trivia =>
        simp only [run, Option.map_eq_some_iff] at h hJ
        obtain ⟨u, h1, rfl⟩ := h
        obtain ⟨v, h2, rfl⟩ := hJ
        obtain ⟨a1, a2, a3⟩ := add_some h1
        obtain ⟨b1, b2, b3⟩ := add_some h2
        refine ⟨by show sig sJ.rest = _; rw [hr], by show v.ch = _; rw [b2, hc, hr, List.append_assoc]; show _ = A ++ u.ch; rw [a2], fun e => by show v.flag = u.flag; rw [b3, a3, e]⟩
      | leaf k =>
        simp only [run] at h hJ
        obtain ⟨a1, a2, a3⟩ := add_some h
        obtain ⟨b1, b2, b3⟩ := add_some hJ
        exact ⟨by rw [a1, b1, hr], by rw [a2, b2, hc, List.append_assoc], fun e => by rw [a3, b3, e]⟩
      | node k c =>
        simp only [run] at h hJ
        split at h
        · split at hJ
          · simp only [Option.map_eq_some_iff] at h hJ
            obtain ⟨u, h1, rfl⟩ := h
            obtain ⟨v, h2, rfl⟩ := hJ
            obtain ⟨k1, k2, k3⟩ := ih c _ _ h1 m [] _ _ h2 hr rfl hf
            exact ⟨k1, by show sJ.ch ++ _ = A ++ (s.ch ++ _); rw [hc, k2, List.nil_append, List.append_assoc], k3⟩
          · cases hJ
        · cases h
      | wrap k c =>
        simp only [run] at h hJ
        cases hg : s.ch.getLast? with
        | none => rw [hg] at h; cases h
        | some y =>
          obtain ⟨ys, e⟩ := List.getLast?_eq_some_iff.1 hg
          have hgJ : sJ.ch.getLast? = some y := by rw [hc, e]; simp
          have hd : sJ.ch.dropLast = A ++ s.ch.dropLast := by rw [hc, e]; simp [← List.append_assoc]
          rw [hg] at h; rw [hgJ] at hJ
          simp only at h hJ
          split at h
          · split at hJ
            · simp only [Option.map_eq_some_iff] at h hJ
              obtain ⟨u, h1, rfl⟩ := h
              obtain ⟨v, h2, rfl⟩ := hJ
              obtain ⟨k1, k2, k3⟩ := ih c _ _ h1 m [] _ _ h2 hr rfl hf
              exact ⟨k1, by show sJ.ch.dropLast ++ _ = A ++ (s.ch.dropLast ++ _); rw [hd, k2, List.nil_append, List.append_assoc], k3⟩
            · cases hJ
          · cases h
      | seq c d =>
        simp only [run, Option.bind_eq_some_iff] at h hJ
        obtain ⟨u1, h1, h2⟩ := h
        obtain ⟨v1, j1, j2⟩ := hJ
        have hf' : sJ.flag = s.flag ∨ setsB c = true ∨ (FC c = true ∧ FC d = true) := by
          rcases hf with e | e
          · exact .inl e
          · right
            simpa [FC] using e
        rcases hf' with e | e | e
        · obtain ⟨k1, k2, k3⟩ := ih c _ _ h1 m A _ _ j1 hr hc (.inl e)
          obtain ⟨l1, l2, l3⟩ := ih d _ _ h2 m A _ _ j2 k1 k2 (.inl (k3 e))
          exact ⟨l1, l2, fun _ => l3 (k3 e)⟩
        · cases c with
          | setFlag b =>
            match n, m with
            | 0, _ => simp [run] at h1
            | n + 1, 0 => simp [run] at j1
            | n + 1, m + 1 =>
              simp only [run] at h1 j1
              cases h1; cases j1
              obtain ⟨l1, l2, l3⟩ := ih d _ _ h2 (m + 1) A _ _ j2 hr hc (.inl rfl)
              exact ⟨l1, l2, fun _ => l3 rfl⟩
          | _ => cases e
        · obtain ⟨k1, k2, k3⟩ := ih c _ _ h1 m A _ _ j1 hr hc (.inr e.1)
          obtain ⟨l1, l2, l3⟩ := ih d _ _ h2 m A _ _ j2 k1 k2 (.inr e.2)
          exact ⟨l1, l2, fun q => l3 (k3 q)⟩
      | ite t c d =>
        have hf' : (sJ.flag = s.flag ∨ noFlag t = true) ∧ (sJ.flag = s.flag ∨ FC c = true) ∧ (sJ.flag = s.flag ∨ FC d = true) := by
          rcases hf with e | e
          · exact ⟨.inl e, .inl e, .inl e⟩
          · simp only [FC, Bool.and_eq_true] at e
            exact ⟨.inr e.1.1, .inr e.1.2, .inr e.2⟩
        have he := ht t hf'.1
        simp only [run] at h hJ
        rw [he] at hJ
        split at h
        · rename_i q; rw [if_pos q] at hJ
          exact ih c _ _ h m A _ _ hJ hr hc hf'.2.1
        · rename_i q; rw [if_neg q] at hJ
          exact ih d _ _ h m A _ _ hJ hr hc hf'.2.2
      | loop t c =>
        have hf' : (sJ.flag = s.flag ∨ noFlag t = true) ∧ (sJ.flag = s.flag ∨ FC c = true) := by
          rcases hf with e | e
          · exact ⟨.inl e, .inl e⟩
          · simp only [FC, Bool.and_eq_true] at e
            exact ⟨.inr e.1, .inr e.2⟩
        have he := ht t hf'.1
        simp only [run] at h hJ
        rw [he] at hJ
        split at h
        · rename_i q; rw [if_pos q] at hJ
          simp only [Option.bind_eq_some_iff] at h hJ
          obtain ⟨u1, h1, h2⟩ := h
          obtain ⟨v1, j1, j2⟩ := hJ
          obtain ⟨k1, k2, k3⟩ := ih c _ _ h1 m A _ _ j1 hr hc hf'.2
          obtain ⟨l1, l2, l3⟩ := ih (.loop t c) _ _ h2 m A _ _ j2 k1 k2 (by
            rcases hf with e | e
            · exact .inl (k3 e)
            · exact .inr e)
          exact ⟨l1, l2, fun q => l3 (k3 q)⟩
        · rename_i q; rw [if_neg q] at hJ
          cases h; cases hJ
          exact ⟨hr, hc, id⟩
      | moved c d e =>
        have hf' : (sJ.flag = s.flag ∨ FC c = true) ∧ ((sJ.flag = s.flag) ∨ (FC d = true ∧ FC e = true)) := by
          rcases hf with e | e
          · exact ⟨.inl e, .inl e⟩
          · simp only [FC, Bool.and_eq_true] at e
            exact ⟨.inr e.1.1, .inr ⟨e.1.2, e.2⟩⟩
        simp only [run, Option.bind_eq_some_iff] at h hJ
        obtain ⟨u1, h1, h2⟩ := h
        obtain ⟨v1, j1, j2⟩ := hJ
        obtain ⟨k1, k2, k3⟩ := ih c _ _ h1 m A _ _ j1 hr hc hf'.1
        rw [k1, hr] at j2
        split at h2
        · rename_i q; rw [if_pos q] at j2
          obtain ⟨l1, l2, l3⟩ := ih d _ _ h2 m A _ _ j2 k1 k2 (by
            rcases hf'.2 with e | e
            · exact .inl (k3 e)
            · exact .inr e.1)
          exact ⟨l1, l2, fun q => l3 (k3 q)⟩
        · rename_i q; rw [if_neg q] at j2
          obtain ⟨l1, l2, l3⟩ := ih e _ _ h2 m A _ _ j2 k1 k2 (by
            rcases hf'.2 with e | e
            · exact .inl (k3 e)
            · exact .inr e.2)
          exact ⟨l1, l2, fun q => l3 (k3 q)⟩
      | dropLast =>
        simp only [run] at h hJ
        cases hg : s.ch with
        | nil => rw [hg] at h; cases h
        | cons y r =>
          rw [hg] at h
          simp only at h
          cases h
          rw [hc, hg] at hJ
          cases hA : A ++ y :: r with
          | nil => simp at hA
          | cons z q =>
            rw [hA] at hJ
            simp only at hJ
            cases hJ
            refine ⟨hr, ?_, id⟩
            show (z :: q).dropLast = A ++ (y :: r).dropLast
            rw [← hA, List.dropLast_append_of_ne_nil (by simp)]
      | insNone =>
        simp only [run] at h hJ
        cases hg : s.ch.getLast? with
        | none => rw [hg] at h; cases h
        | some y =>
          obtain ⟨ys, e⟩ := List.getLast?_eq_some_iff.1 hg
          have hgJ : sJ.ch.getLast? = some y := by rw [hc, e]; simp
          have hd : sJ.ch.dropLast = A ++ s.ch.dropLast := by rw [hc, e]; simp [← List.append_assoc]
          rw [hg] at h; rw [hgJ] at hJ
          simp only at h hJ
          split at h
          · split at hJ
            · cases h; cases hJ
              exact ⟨hr, by show sJ.ch.dropLast ++ _ = A ++ (s.ch.dropLast ++ _); rw [hd, List.append_assoc], id⟩
            · cases hJ
          · cases h
      | setFlag b =>
        simp only [run] at h hJ
        cases h; cases hJ
        exact ⟨hr, hc, fun _ => rfl⟩
      | call f =>
        simp only [run] at h hJ
        refine ih _ _ _ h m A _ _ hJ hr hc (.inr (FC_body f))

/- NO ERRORS -/
mutual
def cleanT : Tree → Prop
  | .mk k _ ch => k ≠ 108 ∧ (k < 100 → k ≠ 46 ∧ cleanTs ch)
def cleanTs : List Tree → Prop
  | [] => True
  | x :: r => cleanT x ∧ cleanTs r
end
theorem cleanTs_append : ∀ {a b : List Tree}, cleanTs (a ++ b) ↔ cleanTs a ∧ cleanTs b
  | [], b => by simp [cleanTs]
  | x :: r, b => by rw [List.cons_append, cleanTs, cleanTs, cleanTs_append (a := r), and_assoc]
theorem cleanTs_mem : ∀ {a : List Tree}, cleanTs a → ∀ x ∈ a, cleanT x
  | [], _, x, hx => by simp at hx
  | y :: r, h, x, hx => by
    unfold cleanTs at h
    simp at hx
    rcases hx with rfl | hx
    · exact h.1
    · exact cleanTs_mem h.2 x hx
theorem cleanTs_last {l : List Tree} {x : Tree} (hx : l.getLast? = some x) : cleanTs l ↔ cleanTs l.dropLast ∧ cleanT x := by
  obtain ⟨ys, e⟩ := List.getLast?_eq_some_iff.1 hx
  subst e
  rw [cleanTs_append]
  simp [cleanTs]
theorem yls_last {l : List Tree} {x : Tree} (hx : l.getLast? = some x) : yls l.dropLast + yls [x] = yls l := by
  obtain ⟨ys, e⟩ := List.getLast?_eq_some_iff.1 hx
  subst e
  rw [yls_append]
  simp
def is46 : Cmd → Bool
  | .seq (.node k _) (.setFlag _) => k == 46
  | _ => false
def isDrop : Cmd → Bool
  | .dropLast => true
  | _ => false
/-- drops a child only ahead of an error; its nodes are nodes -/
def DC : Cmd → Bool
  | .dropLast => false
  | .seq c d => (isDrop c && is46 d) || (DC c && DC d)
  | .ite _ c d => DC c && DC d
  | .loop _ c => DC c
  | .moved c d e => DC c && DC d && DC e
  | .node k c => decide (k < 100) && DC c
  | .wrap k c => decide (k < 100) && DC c
  | _ => true
theorem DC_body (f : Fn) : DC (body f) = true := by
  cases f with
  | path x => cases x <;> decide
  | params x => rfl
  | binary l =>
    simp only [body]
    split
    · rfl
    · simp only [DC]
      split <;> rfl
  | itemBody k =>
    simp only [body]
    split
    · rfl
    · split
      · rfl
      · split
        · rfl
        · split
          · rfl
          · split
            · rfl
            · split <;> rfl
  | function x => cases x <;> decide
  | dataType k =>
    simp only [body]
    by_cases h : k = 4
    · simp only [h]; decide
    · simp only [if_neg h]; decide
  | _ => decide
theorem leaf_yls_eq (l : List Tok) (h : ∀ x ∈ l, 100 ≤ x.k) : yls (l.map Tok.leaf) = txt l := by
  induction l with
  | nil => simp [yls, txt]
  | cons x r ih =>
    rw [List.map_cons, yls, show txt (x :: r) = x.t.size + txt r by simp [txt], ih (fun y hy => h y (by simp [hy]))]
    have : (Tok.leaf x).yl = x.t.size := Tree.yl_leaf (h x (by simp))
    omega
theorem run_clean : ∀ (n : Nat) (c : Cmd) (s u : PS), run n c s = some u → DC c = true → (∀ x ∈ s.rest, 100 ≤ x.k) → cleanTs u.ch → cleanTs s.ch ∧ yls u.ch + txt u.rest = yls s.ch + txt s.rest
  | 0, c, s, u, h, _, _, _ => by simp [run] at h
  | n + 1, c, s, u, h, hd, hr, hc => by
    have ih := run_clean n
    cases c with
    | skip => simp [run] at h; subst h; exact ⟨hc, rfl⟩
    | bump =>
      simp only [run] at h
      obtain ⟨v, hv, rfl⟩ := Option.map_eq_some_iff.1 h
      obtain ⟨h1, h2, h3, h4, h5⟩ := add_gas hv
      have e := congrArg txt (taken_after s.rest)
      rw [txt_append] at e
      have l1 := leaf_yls_eq (taken s.rest) (fun x hx => hr x (List.mem_of_mem_take hx))
      simp only at hc ⊢
      rw [h4, cleanTs_append] at hc
      rw [h4, yls_append, l1]
      exact ⟨hc.1, by omega⟩
    | trivia =>
      simp only [run] at h
      obtain ⟨v, hv, rfl⟩ := Option.map_eq_some_iff.1 h
      obtain ⟨h1, h2, h3, h4, h5⟩ := add_gas hv
      have e := congrArg txt (trivs_sig s.rest)
      rw [txt_append] at e
      have l1 := leaf_yls_eq (trivs s.rest) (fun x hx => hr x (List.mem_of_mem_take hx))
      simp only at hc ⊢
      rw [h4, cleanTs_append] at hc
      rw [h4, yls_append, l1]
      exact ⟨hc.1, by omega⟩
    | leaf k =>
      simp only [run] at h
      obtain ⟨h1, h2, h3, h4, h5⟩ := add_gas h
      rw [h4, cleanTs_append] at hc
      rw [h3, h4, yls_append]
      have e1 : yls [Tree.mk k .empty []] = 0 := by
        simp only [yls, Tree.yl]
        split <;> rfl
      rw [e1]
      exact ⟨hc.1, rfl⟩
    | node k c =>
      simp only [run] at h
      simp only [DC, Bool.and_eq_true, decide_eq_true_eq] at hd
      split at h
      · obtain ⟨v, hv, e⟩ := Option.map_eq_some_iff.1 h
        rw [← e] at hc ⊢
        simp only at hc ⊢
        rw [cleanTs_append] at hc
        have hv2 := hc.2
        simp only [cleanTs, cleanT] at hv2
        obtain ⟨h1, h2⟩ := ih _ _ _ hv hd.2 hr (hv2.1.2 hd.1).2
        simp only [yls, Nat.zero_add] at h2
        rw [yls_append]
        have e1 : yls [Tree.mk k .empty v.ch] = yls v.ch := by
          simp only [yls]
          rw [Tree.yl_node (by show ¬ 100 ≤ k; omega)]
          simp [Tree.ch]
        rw [e1]
        exact ⟨hc.1, by omega⟩
      · cases h
    | wrap k c =>
      simp only [run] at h
      simp only [DC, Bool.and_eq_true, decide_eq_true_eq] at hd
      split at h
      · cases h
      · next x hx =>
        split at h
        · obtain ⟨v, hv, e⟩ := Option.map_eq_some_iff.1 h
          rw [← e] at hc ⊢
          simp only at hc ⊢
          rw [cleanTs_append] at hc
          have hv2 := hc.2
          simp only [cleanTs, cleanT] at hv2
          obtain ⟨h1, h2⟩ := ih _ _ _ hv hd.2 hr (hv2.1.2 hd.1).2
          simp only [cleanTs] at h1
          have y1 := yls_last hx
          rw [yls_append]
          have e1 : yls [Tree.mk k .empty v.ch] = yls v.ch := by
            simp only [yls]
            rw [Tree.yl_node (by show ¬ 100 ≤ k; omega)]
            simp [Tree.ch]
          rw [e1]
          exact ⟨(cleanTs_last hx).2 ⟨hc.1, h1.1⟩, by simp only at h2; omega⟩
        · cases h
    | seq c d =>
      simp only [run] at h
      obtain ⟨v, h1, h2⟩ := Option.bind_eq_some_iff.1 h
      have hsf := run_rest _ _ _ _ h1
      simp only [DC, Bool.or_eq_true, Bool.and_eq_true] at hd
      rcases hd with hd | hd
      · exfalso
        have hd2 := hd.2
        unfold is46 at hd2
        split at hd2
        · next k c' b =>
          have hk : k = 46 := by simpa using hd2
          subst hk
          match n with
          | 0 => simp [run] at h2
          | 1 => simp [run] at h2
          | n + 2 =>
            simp only [run] at h2
            obtain ⟨z, z1, z2⟩ := Option.bind_eq_some_iff.1 h2
            split at z1
            · obtain ⟨y, y1, y2⟩ := Option.map_eq_some_iff.1 z1
              injection z2 with z2
              rw [← z2, ← y2] at hc
              simp only at hc
              rw [cleanTs_append] at hc
              have := hc.2
              simp only [cleanTs, cleanT] at this
              exact (this.1.2 (by decide)).1 rfl
            · cases z1
        · cases hd2
      · obtain ⟨a1, a2⟩ := ih _ _ _ h2 hd.2 (fun x hx => hr x (hsf.subset hx)) hc
        obtain ⟨b1, b2⟩ := ih _ _ _ h1 hd.1 hr a1
        exact ⟨b1, by omega⟩
    | ite t c d =>
      simp only [run] at h
      simp only [DC, Bool.and_eq_true] at hd
      split at h
      · exact ih _ _ _ h hd.1 hr hc
      · exact ih _ _ _ h hd.2 hr hc
    | loop t c =>
      simp only [run] at h
      split at h
      · obtain ⟨v, h1, h2⟩ := Option.bind_eq_some_iff.1 h
        have hsf := run_rest _ _ _ _ h1
        obtain ⟨a1, a2⟩ := ih _ _ _ h2 hd (fun x hx => hr x (hsf.subset hx)) hc
        simp only [DC] at hd
        obtain ⟨b1, b2⟩ := ih _ _ _ h1 hd hr a1
        exact ⟨b1, by omega⟩
      · injection h with h; subst h; exact ⟨hc, rfl⟩
    | moved c d e =>
      simp only [run] at h
      obtain ⟨v, h1, h2⟩ := Option.bind_eq_some_iff.1 h
      have hsf := run_rest _ _ _ _ h1
      simp only [DC, Bool.and_eq_true] at hd
      split at h2
      · obtain ⟨a1, a2⟩ := ih _ _ _ h2 hd.1.2 (fun x hx => hr x (hsf.subset hx)) hc
        obtain ⟨b1, b2⟩ := ih _ _ _ h1 hd.1.1 hr a1
        exact ⟨b1, by omega⟩
      · obtain ⟨a1, a2⟩ := ih _ _ _ h2 hd.2 (fun x hx => hr x (hsf.subset hx)) hc
        obtain ⟨b1, b2⟩ := ih _ _ _ h1 hd.1.1 hr a1
        exact ⟨b1, by omega⟩
    | dropLast => cases hd
    | insNone =>
      simp only [run] at h
      split at h
      · cases h
      · next x hx =>
        split at h
        · injection h with h; subst h
          simp only at hc ⊢
          rw [cleanTs_append] at hc
          have hv2 := hc.2
          simp only [cleanTs] at hv2
          have y1 := yls_last hx
          rw [yls_append]
          have e1 : yls [Tree.mk 0 .empty [], x] = yls [x] := by
            simp [yls, Tree.yl]
          rw [e1]
          exact ⟨(cleanTs_last hx).2 ⟨hc.1, hv2.2.1⟩, by omega⟩
        · cases h
    | setFlag b => simp [run] at h; subst h; exact ⟨hc, rfl⟩
    | call f =>
      simp only [run] at h
      exact ih _ _ _ h (DC_body f) hr hc
theorem bad_clean {y : Tree} (h : BadT y) : ¬ cleanT y := by
  induction h with
  | leaf t ch => intro h; unfold cleanT at h; exact h.1 rfl
  | err t ch => intro h; unfold cleanT at h; exact (h.2 (by decide)).1 rfl
  | node k t ch y hk hy hb ih =>
    intro h
    unfold cleanT at h
    exact ih (cleanTs_mem (h.2 hk).2 _ (List.mem_of_getLast? hy))
end Go.Proofs.YtepadojclmjllaaGreatDoor

/-
  OutlineConcatenation, plain: the trees of two sources joined by a newline.
-/
namespace Go.Proofs.YtepadojclmjllaaGreatDoor
set_option linter.unusedVariables false
set_option linter.unusedSimpArgs false

def kwT (i : Nat) (s : ByteArray) : Test := .ahead i (.and (.kind 104) (.text s))
def itC (k : Int) : Cmd := .node k (.seq (Cmd.accept [kPub]) (.seq .bump (.call (.itemBody k))))
def kws : List (ByteArray × Int) := [(kUse, 2), (kFn, 3), (kStruct, 4), (kEnum, 5), (kTrait, 6), (kImpl, 7), (kConst, 8), (kMacro, 9)]
def chainC : List (ByteArray × Int) → Nat → Cmd
  | [], _ => .call .skipToItem
  | p :: r, i => .ite (kwT i p.1) (itC p.2) (chainC r i)
theorem itemOf_chain (i : Nat) : itemOf i = chainC kws i := rfl
theorem not_skip {n : Nat} {s s' : PS} (h : run n (.call .skipToItem) s = some s') : ¬ cleanTs s'.ch := by
  match n with
  | 0 => simp [run] at h
  | 1 => simp [run] at h
  | n + 2 =>
    simp only [run, body] at h
    split at h
    · obtain ⟨v, hv, e⟩ := Option.map_eq_some_iff.1 h
      rw [← e]
      intro hc
      simp only at hc
      rw [cleanTs_append] at hc
      have := hc.2
      simp only [cleanTs, cleanT] at this
      exact (this.1.2 (by decide)).1 rfl
    · cases h
theorem chain_run : ∀ (L : List (ByteArray × Int)) (i n : Nat) (s s' : PS), run n (chainC L i) s = some s' → cleanTs s'.ch → ∀ (m : Nat) (sJ sJ' : PS), run m (chainC L i) sJ = some sJ' →
    ((∀ p ∈ L, (kwT i p.1).eval sJ.flag sJ.rest = (kwT i p.1).eval s.flag s.rest) ∨ (∀ p ∈ L, (kwT i p.1).eval s.flag s.rest = false)) →
    ∃ p ∈ L, ∃ n' m', run n' (itC p.2) s = some s' ∧ run m' (itC p.2) sJ = some sJ' ∧ (kwT i p.1).eval s.flag s.rest = true
  | [], i, n, s, s', h, hc, m, sJ, sJ', hJ, ha => absurd hc (not_skip h)
  | p :: r, i, 0, s, s', h, hc, m, sJ, sJ', hJ, ha => by simp [run] at h
  | p :: r, i, n + 1, s, s', h, hc, 0, sJ, sJ', hJ, ha => by simp [run] at hJ
  | p :: r, i, n + 1, s, s', h, hc, m + 1, sJ, sJ', hJ, ha => by
    simp only [chainC, run] at h hJ
    split at h
    · next ht =>
      rcases ha with ha | ha
      · rw [ha p (by simp), if_pos ht] at hJ
        exact ⟨p, by simp, n, m, h, hJ, ht⟩
      · rw [ha p (by simp)] at ht; cases ht
    · next ht =>
      rcases ha with ha | ha
      · rw [ha p (by simp), if_neg ht] at hJ
        obtain ⟨q, hq, x⟩ := chain_run r i n s s' h hc m sJ sJ' hJ (.inl fun q hq => ha q (by simp [hq]))
        exact ⟨q, by simp [hq], x⟩
      · have : ∀ (L : List (ByteArray × Int)) (n : Nat), (∀ p ∈ L, (kwT i p.1).eval s.flag s.rest = false) → run n (chainC L i) s = some s' → False := by
          intro L
          induction L with
          | nil => intro n _ h; exact not_skip h hc
          | cons q L ih =>
            intro n hq h
            match n with
            | 0 => simp [run] at h
            | n + 1 =>
              simp only [chainC, run] at h
              rw [hq q (by simp), if_neg (by decide)] at h
              exact ih n (fun p hp => hq p (by simp [hp])) h
        exact (this r n (fun q hq => ha q (by simp [hq])) h).elim
theorem eval_sig : ∀ (t : Test) (f : Bool) (r r' : List Tok), sig r = sig r' → t.eval f r = t.eval f r'
  | .at _, f, r, r', h => by unfold Test.eval atB peekT; rw [h]
  | .kind _, f, r, r', h => by unfold Test.eval peekT; rw [h]
  | .text _, f, r, r', h => by unfold Test.eval peekT; rw [h]
  | .ahead 0 t, f, r, r', h => eval_sig t f r r' h
  | .ahead (n + 1) t, f, r, r', h => by
    show t.eval f (skipN n (after r)) = t.eval f (skipN n (after r'))
    unfold after
    rw [h]
  | .flag, f, r, r', h => rfl
  | .not a, f, r, r', h => by unfold Test.eval; rw [eval_sig a f r r' h]
  | .and a b, f, r, r', h => by unfold Test.eval; rw [eval_sig a f r r' h, eval_sig b f r r' h]
  | .or a b, f, r, r', h => by unfold Test.eval; rw [eval_sig a f r r' h, eval_sig b f r r' h]
theorem eval_sig' {t : Test} {f g : Bool} {r r' : List Tok} (h : sig r = sig r') (hn : noFlag t = true) : t.eval f r = t.eval g r' := by
  rw [eval_sig t f r r' h, noFlag_eval t f g r' hn]
theorem noFlag_at (L : List ByteArray) : noFlag (.at L) = true := rfl
theorem noFlag_kw (i : Nat) (s : ByteArray) : noFlag (kwT i s) = true := rfl
/-- an item's first token -/
def StartT (r : List Tok) : Prop := ((peekT r).k = 104 ∨ (peekT r).k = 107) ∧ (peekT r).t ∈ Cmd.items
theorem kw_start {s : ByteArray} {f : Bool} {r : List Tok} (hs : s ∈ Cmd.items) (h : (kwT 0 s).eval f r = true) : StartT r := by
  unfold kwT at h
  simp only [Test.eval, skipN, Bool.and_eq_true, beq_iff_eq, decide_eq_true_eq] at h
  exact ⟨.inl h.1, by rw [of_decide_eq_true h.2]; exact hs⟩
theorem pub_start {f : Bool} {r : List Tok} (h : (Test.at [kPub]).eval f r = true) : StartT r := by
  simp only [Test.eval, atB, Bool.and_eq_true, Bool.or_eq_true, beq_iff_eq, List.any_cons, List.any_nil, Bool.or_false, decide_eq_true_eq] at h
  exact ⟨h.1, by have h2 := h.2; first | (rw [h2]; simp [Cmd.items]; done) | (rw [← h2]; simp [Cmd.items])⟩
theorem kws_items : ∀ p ∈ kws, p.1 ∈ Cmd.items ∧ 2 ≤ p.2 ∧ p.2 ≤ 9 := by
  intro p hp
  simp only [kws, List.mem_cons, List.not_mem_nil, or_false] at hp
  rcases hp with rfl | rfl | rfl | rfl | rfl | rfl | rfl | rfl <;> simp [Cmd.items]
theorem item_pick {n m : Nat} {s s' sJ sJ' : PS} (h : run n (.call .item) s = some s') (hc : cleanTs s'.ch) (hJ : run m (.call .item) sJ = some sJ')
    (h1 : (Test.at [kPub]).eval sJ.flag sJ.rest = (Test.at [kPub]).eval s.flag s.rest)
    (h2 : ∀ i, i = 0 ∨ i = 1 → (∀ p ∈ kws, (kwT i p.1).eval sJ.flag sJ.rest = (kwT i p.1).eval s.flag s.rest) ∨ (∀ p ∈ kws, (kwT i p.1).eval s.flag s.rest = false)) :
    StartT s.rest ∧ ∃ k, 2 ≤ k ∧ k ≤ 9 ∧ ∃ n' m', run n' (itC k) s = some s' ∧ run m' (itC k) sJ = some sJ' := by
  match n, m with
  | 0, _ => simp [run] at h
  | 1, _ => simp [run, body] at h
  | n + 2, 0 => simp [run] at hJ
  | n + 2, 1 => simp [run, body] at hJ
  | n + 2, m + 2 =>
    simp only [run, body] at h hJ
    rw [h1] at hJ
    split at h
    · next ht =>
      rw [if_pos ht] at hJ
      rw [itemOf_chain] at h hJ
      obtain ⟨p, hp, n', m', a, b, c⟩ := chain_run kws 1 _ s s' h hc _ sJ sJ' hJ (h2 1 (.inr rfl))
      exact ⟨pub_start ht, p.2, (kws_items p hp).2.1, (kws_items p hp).2.2, n', m', a, b⟩
    · next ht =>
      rw [if_neg ht] at hJ
      rw [itemOf_chain] at h hJ
      obtain ⟨p, hp, n', m', a, b, c⟩ := chain_run kws 0 _ s s' h hc _ sJ sJ' hJ (h2 0 (.inl rfl))
      exact ⟨kw_start (kws_items p hp).1 c, p.2, (kws_items p hp).2.1, (kws_items p hp).2.2, n', m', a, b⟩
theorem itC_ec (k : Int) (hk : k < 100) : EC (itC k) := by
  refine .node hk (.seq ?_ (.seq trivial (ec_body k)))
  exact ⟨.at _, trivial, trivial⟩
theorem bad_last {s : PS} (h : Bad s) : ¬ cleanTs s.ch := by
  obtain ⟨y, hy, hb⟩ := h
  intro hc
  exact bad_clean hb (cleanTs_mem hc _ (List.mem_of_getLast? hy))
theorem item_like {W T : List Tok} (hW : sig W = []) (hT : Good T) {n m : Nat} {x : List Tok} {s sJ s' sJ' : PS} (h : run n (.call .item) s = some s') (hJ : run m (.call .item) sJ = some sJ') (hl : Like W T x s sJ) (hx : sig x ≠ []) (hc : cleanTs s'.ch) : ∃ x', Like W T x' s' sJ' := by
  obtain ⟨l1, l2, l3, l4⟩ := hl
  have ha : ∀ t : Test, NiceT t → t.eval sJ.flag sJ.rest = t.eval s.flag s.rest := fun t ht => by
    rw [l2, l4, l1]; exact (nice_alike hW hT s.flag x hx ht).symm
  obtain ⟨_, k, k1, k2, n', m', a, b⟩ := item_pick h hc hJ (ha _ (.at _)) (by
    intro i hi
    rcases hi with rfl | rfl
    · left
      intro p hp
      exact ha (.and (.kind 104) (.text p.1)) (.and (.kind _) (.text _))
    · by_cases hq : sig (after x) = []
      · right
        intro p hp
        show (Test.and (.kind 104) (.text p.1)).eval s.flag (after s.rest) = false
        rw [l1, after_app x W hx]
        have : peekT (after x ++ W) = ⟨100, .empty⟩ := by rw [peek_app0 _ _ hq]; exact peek_none hW
        simp only [Test.eval, this]
        rfl
      · left
        intro p hp
        show (Test.and (.kind 104) (.text p.1)).eval sJ.flag (after sJ.rest) = (Test.and (.kind 104) (.text p.1)).eval s.flag (after s.rest)
        rw [l1, l2, l4, after_app x W hx, after_app x T hx]
        exact (nice_alike hW hT s.flag _ hq (.and (.kind 104) (.text p.1))).symm)
  rcases ec_sim hW hT (itC_ec k (by omega)) n' m' x s sJ s' sJ' a b ⟨l1, l2, l3, l4⟩ with h | h
  · exact absurd hc (bad_last h)
  · exact h
def fileL : Cmd := .loop (.not Cmd.eof) (.call .item)
theorem peek_mem {r : List Tok} (h : sig r ≠ []) : peekT r ∈ r := by
  have hs := sig_suffix r
  unfold peekT
  cases e : sig r with
  | nil => exact absurd e h
  | cons a q => rw [e] at hs; exact hs.subset (by simp)
theorem eof_eval (f : Bool) (r : List Tok) (hr : ∀ x ∈ r, 101 ≤ x.k) : (Test.not Cmd.eof).eval f r = decide (sig r ≠ []) := by
  by_cases h : sig r = []
  · simp only [Test.eval, Cmd.eof, peek_none h, h]; rfl
  · have := hr _ (peek_mem h)
    have hn : (peekT r).k ≠ 100 := by omega
    simp only [Test.eval, Cmd.eof]
    simp [h, hn]
theorem file_first {W T : List Tok} (hW : sig W = []) (hT : Good T) : ∀ (n m : Nat) (x : List Tok) (s sJ s' sJ' : PS), run n fileL s = some s' → run m fileL sJ = some sJ' → Like W T x s sJ → (∀ x ∈ s.rest, 101 ≤ x.k) → (∀ x ∈ sJ.rest, 101 ≤ x.k) → cleanTs s'.ch →
    ∃ x' m' sM, sig x' = [] ∧ s'.rest = x' ++ W ∧ sM.rest = x' ++ T ∧ sM.ch = s'.ch ∧ run m' fileL sM = some sJ'
  | 0, _, x, s, sJ, s', sJ', h, _, _, _, _, _ => by simp [run] at h
  | n + 1, 0, x, s, sJ, s', sJ', h, hJ, _, _, _, _ => by simp [run] at hJ
  | n + 1, m + 1, x, s, sJ, s', sJ', h, hJ, hl, hr, hrJ, hc => by
    by_cases hx : sig x = []
    · have he := eof_eval s.flag s.rest hr
      rw [hl.1, sig_app0 x W hx, hW] at he
      simp only [fileL, run] at h
      rw [hl.1, he, if_neg (by simp)] at h
      injection h with h; subst h
      exact ⟨x, m + 1, sJ, hx, hl.1, hl.2.1, hl.2.2.1, hJ⟩
    · have he := eof_eval s.flag s.rest hr
      have heJ := eof_eval sJ.flag sJ.rest hrJ
      rw [hl.1, sig_app x W hx] at he
      rw [hl.2.1, sig_app x T hx] at heJ
      simp only [fileL, run] at h hJ
      rw [hl.1, he, if_pos (by simp [hx])] at h
      rw [hl.2.1, heJ, if_pos (by simp [hx])] at hJ
      obtain ⟨u, h1, h2⟩ := Option.bind_eq_some_iff.1 h
      obtain ⟨v, j1, j2⟩ := Option.bind_eq_some_iff.1 hJ
      have hsu := run_rest _ _ _ _ h1
      have hsv := run_rest _ _ _ _ j1
      have hcu := (run_clean _ _ _ _ h2 rfl (fun y hy => by have := hr y (hsu.subset hy); omega) hc).1
      obtain ⟨x', hl'⟩ := item_like hW hT h1 j1 hl hx hcu
      exact file_first hW hT n m x' u v s' sJ' h2 j2 hl' (fun y hy => hr y (hsu.subset hy)) (fun y hy => hrJ y (hsv.subset hy)) hc
theorem trivs_are : ∀ (r : List Tok), ∀ x ∈ trivs r, isTriv x = true := by
  have key : ∀ r : List Tok, (∃ p, r = p ++ sig r ∧ ∀ x ∈ p, isTriv x = true) := by
    intro r
    induction r with
    | nil => exact ⟨[], rfl, fun x h => by simp at h⟩
    | cons a r ih =>
      by_cases ha : isTriv a = true
      · obtain ⟨p, h1, h2⟩ := ih
        refine ⟨a :: p, by rw [sig_cons_triv ha, List.cons_append, ← h1], fun x hx => ?_⟩
        simp at hx
        rcases hx with rfl | hx
        · exact ha
        · exact h2 x hx
      · have ha' : isTriv a = false := by simpa using ha
        exact ⟨[], by rw [sig_cons_not ha']; rfl, fun x h => by simp at h⟩
  intro r
  obtain ⟨p, h1, h2⟩ := key r
  have h3 := trivs_sig r
  have : trivs r = p := List.append_cancel_right (h3.symm.trans h1)
  rw [this]; exact h2
theorem sig_take (r : List Tok) (h : sig r ≠ []) : (sig r).take 1 = [peekT r] := by
  unfold peekT
  cases e : sig r with
  | nil => exact absurd e h
  | cons a q => rfl
theorem bump_runs {n m : Nat} {s sJ v vJ : PS} (h : run n .bump s = some v) (hJ : run m .bump sJ = some vJ) : v.rest = after s.rest ∧ vJ.rest = after sJ.rest ∧ v.ch = s.ch ++ (taken s.rest).map Tok.leaf ∧ vJ.ch = sJ.ch ++ (taken sJ.rest).map Tok.leaf := by
  match n, m with
  | 0, _ => simp [run] at h
  | n + 1, 0 => simp [run] at hJ
  | n + 1, m + 1 =>
    simp only [run, Option.map_eq_some_iff] at h hJ
    obtain ⟨u, h1, rfl⟩ := h
    obtain ⟨u2, h2, rfl⟩ := hJ
    exact ⟨rfl, rfl, (add_some h1).2.1, (add_some h2).2.1⟩
/-- the first item of what follows, behind other white space -/
theorem first_item {k : Int} (k1 : 2 ≤ k) (k2 : k ≤ 9) {n m : Nat} {s sJ v vJ : PS} (h : run n (itC k) s = some v) (hJ : run m (itC k) sJ = some vJ) (hs : sig sJ.rest = sig s.rest) (hne : sig s.rest ≠ []) :
    ∃ C, v.rest = vJ.rest ∧ v.ch = s.ch ++ [.mk k .empty ((trivs s.rest).map Tok.leaf ++ (peekT s.rest).leaf :: C)] ∧ vJ.ch = sJ.ch ++ [.mk k .empty ((trivs sJ.rest).map Tok.leaf ++ (peekT s.rest).leaf :: C)] := by
  have hnJ : sig sJ.rest ≠ [] := by rw [hs]; exact hne
  have hp : peekT sJ.rest = peekT s.rest := by unfold peekT; rw [hs]
  have haf : after sJ.rest = after s.rest := by unfold after; rw [hs]
  have htk : taken s.rest = trivs s.rest ++ [peekT s.rest] := by rw [taken_eq, sig_take _ hne]
  have htJ : taken sJ.rest = trivs sJ.rest ++ [peekT s.rest] := by rw [taken_eq, sig_take _ hnJ, hp]
  match n, m with
  | 0, _ => simp [run] at h
  | n + 1, 0 => simp [run] at hJ
  | n + 1, m + 1 =>
    unfold itC at h hJ
    rw [run] at h hJ
    split at h
    · split at hJ
      · obtain ⟨u, h1, rfl⟩ := Option.map_eq_some_iff.1 h
        obtain ⟨uJ, j1, rfl⟩ := Option.map_eq_some_iff.1 hJ
        match n, m with
        | 0, _ => simp [run] at h1
        | n + 1, 0 => simp [run] at j1
        | n + 1, m + 1 =>
          rw [run] at h1 j1
          obtain ⟨a, h2, h3⟩ := Option.bind_eq_some_iff.1 h1
          obtain ⟨aJ, j2, j3⟩ := Option.bind_eq_some_iff.1 j1
          match n, m with
          | 0, _ => simp [run] at h3
          | n + 1, 0 => simp [run] at j3
          | n + 1, m + 1 =>
            rw [run] at h3 j3
            obtain ⟨b, h4, h5⟩ := Option.bind_eq_some_iff.1 h3
            obtain ⟨bJ, j4, j5⟩ := Option.bind_eq_some_iff.1 j3
            unfold Cmd.accept at h2 j2
            rw [run] at h2 j2
            have hev : (Test.at [kPub]).eval sJ.flag sJ.rest = (Test.at [kPub]).eval s.flag s.rest := eval_sig' hs rfl
            simp only at h2 j2
            rw [hev] at j2
            obtain ⟨E, e1, e2, e3⟩ : ∃ E : List Tree, b.rest = bJ.rest ∧ b.ch = (trivs s.rest).map Tok.leaf ++ (peekT s.rest).leaf :: E ∧ bJ.ch = (trivs sJ.rest).map Tok.leaf ++ (peekT s.rest).leaf :: E := by
              split at h2
              · next ht =>
                rw [if_pos ht] at j2
                obtain ⟨p1, p2, p3, p4⟩ := bump_runs h2 j2
                obtain ⟨q1, q2, q3, q4⟩ := bump_runs h4 j4
                simp only at p1 p2 p3 p4
                refine ⟨(taken (after s.rest)).map Tok.leaf, by rw [q1, q2, p1, p2, haf], ?_, ?_⟩
                · rw [q3, p3, p1, htk]; simp
                · rw [q4, p4, p2, htJ, haf]; simp
              · next ht =>
                rw [if_neg ht] at j2
                match n, m with
                | 0, _ => simp [run] at h2
                | n + 1, 0 => simp [run] at j2
                | n + 1, m + 1 =>
                  simp only [run] at h2 j2
                  injection h2 with h2; injection j2 with j2
                  subst h2; subst j2
                  obtain ⟨q1, q2, q3, q4⟩ := bump_runs h4 j4
                  simp only at q1 q2 q3 q4
                  refine ⟨[], by rw [q1, q2, haf], ?_, ?_⟩
                  · rw [q3, htk]; simp
                  · rw [q4, htJ]; simp
            have ht : tab (.itemBody k) .any = some ⟨80, some 30, some (-50), false, false⟩ := by
              simp only [tab]; rw [if_pos ⟨k1, k2⟩]
            obtain ⟨z, kk, ⟨nn, hrun⟩, _⟩ := fn_ends b.rest.length 81 (.itemBody k) .any _ ⟨b.rest, [], false, 0⟩ ht (by decide) (Nat.le_refl _) True.intro (fun h => by cases h) false (fun h => by cases h)
            have hz := hrun 0
            obtain ⟨r1, r2, _⟩ := simA _ _ _ _ hz _ b.ch _ _ h5 rfl (by simp) (.inr rfl)
            obtain ⟨s1, s2, _⟩ := simA _ _ _ _ hz _ bJ.ch _ _ j5 e1.symm (by simp) (.inr rfl)
            simp only at r1 r2 s1 s2
            refine ⟨E ++ z.ch, by show u.rest = uJ.rest; rw [r1, s1], ?_, ?_⟩
            · show s.ch ++ _ = _
              rw [r2, e2]; simp
            · show sJ.ch ++ _ = _
              rw [s2, e3]; simp
      · cases hJ
    · cases h
theorem txt_tokensL : ∀ (n : Nat) (l : List UInt8), l.length ≤ n → txt (tokensL l) = l.length
  | _, [], _ => rfl
  | 0, _ :: _, h => by simp at h
  | n + 1, c :: s, h => by
    have hb := firstL_bd (c :: s) (by simp)
    have ih := txt_tokensL n ((c :: s).drop (firstL (c :: s)).1) (by rw [List.length_drop]; simp at h hb ⊢; omega)
    rw [tokensL_cons1]
    show (ofL ((c :: s).take (firstL (c :: s)).1)).size + txt _ = _
    rw [ih, ofL_size, List.length_take, List.length_drop]
    omega
theorem firstL_k (s : List UInt8) (h : s ≠ []) : 101 ≤ (firstL s).2 := by
  cases s with
  | nil => exact absurd rfl h
  | cons c r =>
    unfold firstL
    simp only
    repeat' split
    all_goals (try (unfold strL; split))
    all_goals first | exact (by decide : (101 : Int) ≤ 101) | exact (by decide : (101 : Int) ≤ 102) | exact (by decide : (101 : Int) ≤ 103) | exact (by decide : (101 : Int) ≤ 104) | exact (by decide : (101 : Int) ≤ 105) | exact (by decide : (101 : Int) ≤ 106) | exact (by decide : (101 : Int) ≤ 107) | exact (by decide : (101 : Int) ≤ 108)
theorem tokensL_k : ∀ (n : Nat) (l : List UInt8), l.length ≤ n → ∀ x ∈ tokensL l, 101 ≤ x.k
  | _, [], _, x, hx => by simp [tokensL, tokensG] at hx
  | 0, _ :: _, h, _, _ => by simp at h
  | n + 1, c :: s, h, x, hx => by
    have hb := firstL_bd (c :: s) (by simp)
    rw [tokensL_cons1] at hx
    rcases List.mem_cons.1 hx with rfl | hx
    · exact firstL_k _ (by simp)
    · exact tokensL_k n _ (by rw [List.length_drop]; simp at h hb ⊢; omega) x hx
theorem spT_sig (w : List UInt8) : sig (spT w) = [] := by
  unfold spT
  split
  · rfl
  · rfl
theorem spT_txt (w : List UInt8) : txt (spT w) = w.length := by
  unfold spT
  split
  · next h => rw [h]; rfl
  · simp [txt, ofL_size]
theorem trivs_app0 (x y : List Tok) (hx : sig x = []) : trivs (x ++ y) = x ++ trivs y := by
  have h1 := trivs_sig (x ++ y)
  rw [sig_app0 x y hx] at h1
  have h2 := trivs_sig y
  have h3 : (x ++ trivs y) ++ sig y = trivs (x ++ y) ++ sig y := by rw [← h1, List.append_assoc, ← h2]
  exact (List.append_cancel_right h3).symm
theorem trivs_none {x : List Tok} (h : sig x = []) : trivs x = x := by
  have := trivs_sig x
  rw [h, List.append_nil] at this
  exact this.symm
theorem triv_run {n : Nat} {s u : PS} (h : run n .trivia s = some u) : u.rest = sig s.rest ∧ u.ch = s.ch ++ (trivs s.rest).map Tok.leaf := by
  match n with
  | 0 => simp [run] at h
  | n + 1 =>
    simp only [run, Option.map_eq_some_iff] at h
    obtain ⟨v, h1, rfl⟩ := h
    exact ⟨rfl, (add_some h1).2.1⟩
theorem file_join (l1 l2 : List UInt8) (hl2 : l2.length ≤ 2000) (n1 n2 nJ : Nat) (g1 g2 gJ : Nat) (u1 u2 uJ : PS) (hu1 : run n1 fileC ⟨tokensL l1, [], false, g1⟩ = some u1) (hu2 : run n2 fileC ⟨tokensL l2, [], false, g2⟩ = some u2)
    (huJ : run nJ fileC ⟨tokensL (l1 ++ 10 :: l2), [], false, gJ⟩ = some uJ) (hc1 : cleanTs u1.ch) (hc2 : cleanTs u2.ch) :
    ∃ (Z : List Tree) (V1 : List Tok), u1.ch = Z ++ V1.map Tok.leaf ∧ (∀ x ∈ V1, isTriv x = true) ∧
      ((∃ (V2 VJ : List Tok), (∀ x ∈ V2, isTriv x = true) ∧ (∀ x ∈ VJ, isTriv x = true) ∧ u2.ch = V2.map Tok.leaf ∧ uJ.ch = Z ++ VJ.map Tok.leaf) ∨
       (∃ (k : Int) (t : Tok) (P PJ : List Tok) (C U : List Tree), 2 ≤ k ∧ k ≤ 9 ∧ (t.k = 104 ∨ t.k = 107) ∧ (∀ x ∈ P, isTriv x = true) ∧ (∀ x ∈ PJ, isTriv x = true) ∧ u2.ch = .mk k .empty (P.map Tok.leaf ++ t.leaf :: C) :: U ∧ uJ.ch = Z ++ .mk k .empty (PJ.map Tok.leaf ++ t.leaf :: C) :: U ∧ yls Z + txt PJ = l1.length + 1 + txt P)) := by
  obtain ⟨a1, w1, hw1, t1, tJ⟩ := tok_join l1.length l1 (Nat.le_refl _) l2
  rw [tok_mid w1 l2 hw1] at tJ
  have t2 := tok_space l2
  generalize hw2 : l2.takeWhile isSpaceB = w2 at *
  generalize ha2 : tokensL (l2.dropWhile isSpaceB) = a2 at *
  have hsp : isTriv ⟨101, ofL (w1 ++ 10 :: w2)⟩ = true := rfl
  have hspt : txt [(⟨101, ofL (w1 ++ 10 :: w2)⟩ : Tok)] = w1.length + (w2.length + 1) := by simp [txt, ofL_size]
  generalize (⟨101, ofL (w1 ++ 10 :: w2)⟩ : Tok) = sp at *
  have hk1 := tokensL_k _ l1 (Nat.le_refl _)
  have hk2 := tokensL_k _ l2 (Nat.le_refl _)
  have hkJ := tokensL_k _ (l1 ++ 10 :: l2) (Nat.le_refl _)
  have hx1 := txt_tokensL _ l1 (Nat.le_refl _)
  rw [t1] at hu1 hk1 hx1
  rw [tJ] at huJ hkJ
  rw [t2] at hu2 hk2
  have hT2 : sig (spT w2 ++ a2) = sig a2 := sig_app0 _ _ (spT_sig w2)
  have hTJ : sig (sp :: a2) = sig a2 := sig_cons_triv hsp
  match n1, n2, nJ with
  | 0, _, _ => simp [run] at hu1
  | _ + 1, 0, _ => simp [run] at hu2
  | _ + 1, _ + 1, 0 => simp [run] at huJ
  | n1 + 1, n2 + 1, nJ + 1 =>
    unfold fileC at hu1 hu2 huJ
    rw [run] at hu1 hu2 huJ
    obtain ⟨v1, p1, q1⟩ := Option.bind_eq_some_iff.1 hu1
    obtain ⟨v2, p2, q2⟩ := Option.bind_eq_some_iff.1 hu2
    obtain ⟨vJ, pJ, qJ⟩ := Option.bind_eq_some_iff.1 huJ
    have hv1 := triv_run q1
    have hv2 := triv_run q2
    have hvJ := triv_run qJ
    have hcv1 : cleanTs v1.ch := by rw [hv1.2, cleanTs_append] at hc1; exact hc1.1
    have hcv2 : cleanTs v2.ch := by rw [hv2.2, cleanTs_append] at hc2; exact hc2.1
    -- the second source's first step
    by_cases hs : sig a2 = []
    · have hG : Good (sp :: a2) := .inl (by rw [hTJ, hs])
      obtain ⟨x', m', sM, b1, b2, b3, b4, b5⟩ := file_first (spT_sig w1) hG n1 nJ a1 _ _ v1 vJ p1 pJ ⟨rfl, rfl, rfl, rfl⟩ hk1 hkJ hcv1
      have hm : ∀ (n : Nat) (s v : PS), run n fileL s = some v → sig s.rest = [] → v = s := by
        intro n s v h h0
        match n with
        | 0 => simp [run] at h
        | n + 1 =>
          simp only [fileL, run, Test.eval, Cmd.eof, peek_none h0] at h
          rw [if_neg (by decide)] at h
          injection h with h
          exact h.symm
      have e2 := hm _ _ _ p2 (by rw [hT2]; exact hs)
      have eJ := hm _ _ _ b5 (by rw [b3, sig_app0 _ _ b1, hTJ]; exact hs)
      refine ⟨v1.ch, trivs v1.rest, hv1.2, trivs_are _, .inl ⟨trivs v2.rest, trivs vJ.rest, trivs_are _, trivs_are _, ?_, ?_⟩⟩
      · rw [hv2.2, e2]; rfl
      · rw [hvJ.2]
        congr 1
        rw [eJ, b4]
    · match n2 with
      | 0 => simp [run] at p2
      | n2 + 1 =>
        have hp2 : run (n2 + 1) fileL _ = some v2 := p2
        rw [fileL, run] at hp2
        simp only at hp2
        rw [eof_eval _ _ hk2, hT2, if_pos (by simp [hs])] at hp2
        obtain ⟨i2, r2, o2⟩ := Option.bind_eq_some_iff.1 hp2
        have hsu := run_rest _ _ _ _ r2
        have hci := (run_clean _ _ _ _ o2 rfl (fun y hy => by have := hk2 y (hsu.subset hy); omega) hcv2).1
        have hst := (item_pick r2 hci r2 rfl (fun i _ => .inl fun p _ => rfl)).1
        have hpk : peekT (sp :: a2) = peekT (spT w2 ++ a2) := by unfold peekT; rw [hTJ, hT2]
        have hG : Good (sp :: a2) := .inr (by rw [hpk]; exact hst)
        obtain ⟨x', m', sM, b1, b2, b3, b4, b5⟩ := file_first (spT_sig w1) hG n1 nJ a1 _ _ v1 vJ p1 pJ ⟨rfl, rfl, rfl, rfl⟩ hk1 hkJ hcv1
        have hsM : sig sM.rest = sig (spT w2 ++ a2) := by rw [b3, sig_app0 _ _ b1, hTJ, hT2]
        have hneM : sig (spT w2 ++ a2) ≠ [] := by rw [hT2]; exact hs
        match m' with
        | 0 => simp [run] at b5
        | m' + 1 =>
          rw [fileL, run] at b5
          have hkM : ∀ x ∈ sM.rest, 101 ≤ x.k := by
            intro x hx
            rw [b3] at hx
            rcases List.mem_append.1 hx with hx | hx
            · have hsv := run_rest _ _ _ _ p1
              rw [b2] at hsv
              exact hk1 x (hsv.subset (List.mem_append_left _ hx))
            · exact hkJ x (List.mem_append_right _ hx)
          rw [eof_eval _ _ hkM, hsM, if_pos (by simp [hneM])] at b5
          obtain ⟨iJ, rJ, oJ⟩ := Option.bind_eq_some_iff.1 b5
          obtain ⟨_, k, k1, k2, n', mm, c1, c2⟩ := item_pick r2 hci rJ (eval_sig' hsM (noFlag_at _)) (fun i _ => .inl fun p _ => eval_sig' hsM (noFlag_kw i p.1))
          obtain ⟨C, d1, d2, d3⟩ := first_item k1 k2 c1 c2 hsM hneM
          simp only at d2
          -- the rest of the second source
          have hR : i2.rest.length ≤ 2000 := by
            have := hsu.length_le
            have h3 := tokensL_length l2
            rw [t2] at h3
            simp only at this
            omega
          obtain ⟨nb, ub, hb⟩ := file_ends i2.rest hR
          have run2 : run (n2 + 2) fileC i2 = some u2 := by
            unfold fileC
            rw [run]
            rw [run_suc _ _ _ _ o2]
            exact run_suc _ _ _ _ q2
          have runJ : run (m' + nJ + 1) fileC iJ = some uJ := by
            unfold fileC
            rw [run]
            rw [run_le (Nat.le_add_right m' nJ) oJ]
            exact run_le (Nat.le_add_left nJ m') qJ
          obtain ⟨y1, y2, _⟩ := simA _ _ _ _ hb _ i2.ch _ _ run2 rfl (by simp) (.inr rfl)
          obtain ⟨z1, z2, _⟩ := simA _ _ _ _ hb _ iJ.ch _ _ runJ d1.symm (by simp) (.inr rfl)
          refine ⟨v1.ch, trivs v1.rest, hv1.2, trivs_are _, .inr ⟨k, peekT (spT w2 ++ a2), trivs (spT w2 ++ a2), trivs sM.rest, C, ub.ch, k1, k2, hst.1, trivs_are _, trivs_are _, ?_, ?_, ?_⟩⟩
          · rw [y2, d2]; simp
          · rw [z2, d3, b4]; simp
          · have hy := (run_clean _ _ _ _ p1 rfl (fun y hy => by have := hk1 y hy; omega) hcv1).2
            rw [b2] at hy
            rw [trivs_app0 _ _ (spT_sig w2), b3, trivs_app0 _ _ b1, show sp :: a2 = [sp] ++ a2 from rfl, trivs_app0 [sp] a2 (by rw [sig_cons_triv hsp]; rfl)]
            simp only [txt_append, spT_txt, hspt, yls] at hy hx1 ⊢
            omega
end Go.Proofs.YtepadojclmjllaaGreatDoor

/-
  OutlineConcatenation, plain: the nodes and the outlines of joined sources.
-/
namespace Go.Proofs.YtepadojclmjllaaGreatDoor
set_option linter.unusedVariables false
set_option linter.unusedSimpArgs false

theorem tokB_clean {k : Int} {t : ByteArray} {b : BS} (h : (tokB k t b).ds = []) : b.ds = [] ∧ k ≠ 108 := by
  unfold tokB at h
  simp only at h
  split at h
  · split at h <;> simp [BS.rep] at h
  · next hk =>
    refine ⟨?_, hk⟩
    split at h
    · unfold identB at h
      split at h
      · simp [BS.rep] at h
      · exact h
    · split at h
      · unfold intB at h
        split at h
        · simp [BS.rep] at h
        · exact h
      · split at h
        · unfold unqB at h
          exact (List.append_eq_nil_iff.1 h).1
        · exact h
mutual
theorem nodeL_clean (src : ByteArray) : ∀ (x : Tree) (b : BS), ¬ 100 ≤ x.k → (nodeL src x b).2.ds = [] → b.ds = [] ∧ cleanT x
  | .mk k t ch, b, h, e => by
    unfold nodeL at e
    simp only at e
    have hk := kidsL_k src ch ⟨newH k b.off, [], b⟩
    have ih := kidsL_clean src ch ⟨newH k b.off, [], b⟩
    generalize kidsL src ch ⟨newH k b.off, [], b⟩ = R at *
    have hk : R.h.k = k := hk
    have hlt : k < 100 := by have : ¬ 100 ≤ k := h; omega
    have : R.b.ds = [] ∧ k ≠ 46 := by
      unfold finB at e
      split at e
      · next q =>
        have q : R.h.k = 60 := q
        exact ⟨e, by omega⟩
      · split at e
        · simp [BS.rep] at e
        · next q =>
          have q : ¬ R.h.k = 46 := q
          exact ⟨e, by omega⟩
    obtain ⟨b1, b2⟩ := ih this.1
    unfold cleanT
    exact ⟨b1, by omega, fun _ => ⟨this.2, b2⟩⟩
theorem kidsL_clean (src : ByteArray) : ∀ (l : List Tree) (s : NS), (kidsL src l s).b.ds = [] → s.b.ds = [] ∧ cleanTs l
  | [], s, e => by
    rw [kidsL] at e
    exact ⟨e, by unfold cleanTs; trivial⟩
  | x :: r, s, e => by
    by_cases h : 100 ≤ x.k
    · rw [kidsL_tok h] at e
      obtain ⟨h1, h2⟩ := kidsL_clean src r _ e
      obtain ⟨h3, h4⟩ := tokB_clean h1
      refine ⟨h3, ?_⟩
      unfold cleanTs
      refine ⟨?_, h2⟩
      obtain ⟨k, tt, cc⟩ := x
      have h : 100 ≤ k := h
      unfold cleanT
      exact ⟨h4, fun q => by omega⟩
    · rw [kidsL_node h] at e
      obtain ⟨h1, h2⟩ := kidsL_clean src r _ e
      obtain ⟨h3, h4⟩ := nodeL_clean src x s.b h h1
      refine ⟨h3, ?_⟩
      unfold cleanTs
      exact ⟨h4, h2⟩
end
theorem astD_clean {src : ByteArray} {ch : List Tree} (h : astD src ch = []) : cleanTs ch := by
  unfold astD at h
  rw [compactL_nil] at h
  have hl := sortDg_len (astR src ch).2.ds
  rw [h] at hl
  have h2 : (astR src ch).2.ds = [] := List.length_eq_zero_iff.1 hl.symm
  have h3 := (nodeL_clean src (.mk 1 .empty ch) ⟨0, []⟩ (fun h : (100 : Int) ≤ 1 => absurd h (by decide)) h2).2
  unfold cleanT at h3
  exact (h3.2 (by decide)).2
def nodesB (src : ByteArray) : List Tree → BS → List Node
  | [], _ => []
  | x :: r, b => if 100 ≤ x.k then nodesB src r (tokB x.k x.t b) else (nodeL src x b).1 :: nodesB src r (nodeL src x b).2
def endB (src : ByteArray) : List Tree → BS → BS
  | [], b => b
  | x :: r, b => endB src r (if 100 ≤ x.k then tokB x.k x.t b else (nodeL src x b).2)
theorem kidsL_ch (src : ByteArray) : ∀ (l : List Tree) (s : NS), (kidsL src l s).ch = s.ch ++ nodesB src l s.b
  | [], s => by simp [kidsL, nodesB]
  | x :: r, s => by
    by_cases h : 100 ≤ x.k
    · rw [kidsL_tok h, kidsL_ch src r, nodesB, if_pos h]
    · rw [kidsL_node h, kidsL_ch src r, nodesB, if_neg h]; simp
theorem nodesB_append (src : ByteArray) : ∀ (a c : List Tree) (b : BS), nodesB src (a ++ c) b = nodesB src a b ++ nodesB src c (endB src a b)
  | [], c, b => by simp [nodesB, endB]
  | x :: r, c, b => by
    rw [List.cons_append, nodesB, nodesB, endB]
    by_cases h : 100 ≤ x.k
    · rw [if_pos h, if_pos h, if_pos h, nodesB_append src r c]
    · rw [if_neg h, if_neg h, if_neg h, nodesB_append src r c, List.cons_append]
theorem endB_off (src : ByteArray) : ∀ (l : List Tree) (b : BS), (endB src l b).off = b.off + yls l
  | [], b => by simp [endB, yls]
  | x :: r, b => by
    rw [endB, endB_off src r, yls]
    by_cases h : 100 ≤ x.k
    · rw [if_pos h, tokB_off, Tree.yl_leaf h]; push_cast; omega
    · rw [if_neg h, nodeL_off src x b h]; push_cast; omega
theorem triv_k {x : Tok} (h : isTriv x = true) : x.k = 101 ∨ x.k = 102 := by
  unfold isTriv at h
  simpa using h
theorem nodesB_trivs (src : ByteArray) : ∀ (V : List Tok) (b : BS), (∀ x ∈ V, isTriv x = true) → nodesB src (V.map Tok.leaf) b = []
  | [], b, _ => rfl
  | x :: r, b, h => by
    have := triv_k (h x (by simp))
    rw [List.map_cons, nodesB, if_pos (by show 100 ≤ x.k; omega)]
    exact nodesB_trivs src r _ (fun y hy => h y (by simp [hy]))
theorem kidsL_trivs (src : ByteArray) : ∀ (V : List Tok) (r : List Tree) (s : NS), (∀ x ∈ V, isTriv x = true) → kidsL src (V.map Tok.leaf ++ r) s = kidsL src r ⟨s.h, s.ch, { s.b with off := s.b.off + txt V }⟩
  | [], r, s, _ => by simp [txt]
  | x :: q, r, s, h => by
    have hk := triv_k (h x (by simp))
    rw [List.map_cons, List.cons_append, kidsL_tok (by show 100 ≤ x.k; omega), kidsL_trivs src q r _ (fun y hy => h y (by simp [hy]))]
    have e1 : tokH s.h (Tok.leaf x).k (Tok.leaf x).t s.b.off (s.b.off + (Tok.leaf x).t.size) = s.h := by
      unfold tokH; rw [if_pos (by exact hk)]
    have e2 : tokB (Tok.leaf x).k (Tok.leaf x).t s.b = { s.b with off := s.b.off + x.t.size } := by
      unfold tokB
      show (if x.k = 108 then _ else if x.k = 103 then _ else if x.k = 105 then _ else if x.k = 106 then _ else _) = _
      rw [if_neg (by omega), if_neg (by omega), if_neg (by omega), if_neg (by omega)]
      rfl
    rw [e1, e2]
    simp only
    rw [show (txt (x :: q) : Int) = x.t.size + txt q by simp [txt]]
    congr 2
    simp only [BS.mk.injEq, and_true]
    omega

/- SHIFTED -/
structure ShH (d : Int) (h hJ : Hd) : Prop where
  k : hJ.k = h.k
  t : hJ.t = h.t
  s0 : 0 ≤ h.s
  s : hJ.s = h.s + d
  e : (h.e = -1 ∧ hJ.e = -1) ∨ (0 ≤ h.e ∧ hJ.e = h.e + d)
  nm : h.nm < 0 ↔ hJ.nm < 0
mutual
def shN (d : Int) : Node → Node → Prop
  | .mk h ch, n => ∃ hJ chJ, n = .mk hJ chJ ∧ hJ.k = h.k ∧ hJ.t = h.t ∧ 0 ≤ h.s ∧ hJ.s = h.s + d ∧ 0 ≤ h.e ∧ hJ.e = h.e + d ∧ shNs d ch chJ
def shNs (d : Int) : List Node → List Node → Prop
  | [], l => l = []
  | x :: r, l => ∃ y q, l = y :: q ∧ shN d x y ∧ shNs d r q
end
theorem shNs_append {d : Int} : ∀ {a c aJ cJ : List Node}, shNs d a aJ → shNs d c cJ → shNs d (a ++ c) (aJ ++ cJ)
  | [], c, aJ, cJ, h, h2 => by unfold shNs at h; subst h; exact h2
  | x :: r, c, aJ, cJ, h, h2 => by
    unfold shNs at h
    obtain ⟨y, q, rfl, h3, h4⟩ := h
    rw [List.cons_append, List.cons_append]
    unfold shNs
    exact ⟨y, q ++ cJ, rfl, h3, shNs_append h4 h2⟩
theorem shNs_one {d : Int} {x y : Node} (h : shN d x y) : shNs d [x] [y] := by
  unfold shNs shNs
  exact ⟨y, [], rfl, h, rfl⟩
theorem extendH_sh {d : Int} {h hJ : Hd} (hd : 0 ≤ d) (H : ShH d h hJ) {s e : Int} (hs : 0 ≤ s) (he : 0 ≤ e) : ShH d (extendH h s e) (extendH hJ (s + d) (e + d)) := by
  refine ⟨H.k, H.t, ?_, ?_, .inr ⟨he, rfl⟩, H.nm⟩
  · show 0 ≤ (if h.e < 0 then s else h.s)
    have := H.s0
    split <;> omega
  · show (if hJ.e < 0 then s + d else hJ.s) = (if h.e < 0 then s else h.s) + d
    rcases H.e with ⟨a, b⟩ | ⟨a, b⟩
    · rw [if_pos (by omega), if_pos (by omega)]
    · rw [if_neg (by omega), if_neg (by omega)]; exact H.s
theorem identH_sh {d : Int} {h hJ : Hd} (hd : 0 ≤ d) (H : ShH d h hJ) (t : ByteArray) {s : Int} (hs : 0 ≤ s) : ShH d (identH h t s) (identH hJ t (s + d)) := by
  unfold identH
  have hnm := H.nm
  rw [H.k]
  by_cases q : hasNameB h.k = true ∧ h.nm < 0
  · rw [if_pos q, if_pos ⟨q.1, hnm.1 q.2⟩]
    exact ⟨rfl, rfl, H.s0, H.s, H.e, ⟨fun q => absurd q (by show ¬ s < 0; omega), fun q => absurd q (by show ¬ s + d < 0; omega)⟩⟩
  · rw [if_neg q, if_neg (fun w => q ⟨w.1, hnm.2 w.2⟩)]
    exact H
theorem setFlagH_sh {d : Int} {h hJ : Hd} (H : ShH d h hJ) (t : ByteArray) : ShH d (setFlagH h t) (setFlagH hJ t) := by
  obtain ⟨a, b, c, e, f, g⟩ := H
  unfold setFlagH
  rw [a, b]
  repeat' split
  all_goals exact ⟨by first | assumption | rfl, by first | assumption | rfl, by assumption, by assumption, by assumption, by assumption⟩
theorem tokH_sh {d : Int} {h hJ : Hd} (hd : 0 ≤ d) (H : ShH d h hJ) (k : Int) (t : ByteArray) {o : Int} (ho : 0 ≤ o) (hk : k ≠ 108) : ShH d (tokH h k t o (o + t.size)) (tokH hJ k t (o + d) (o + d + t.size)) := by
  have hx : ∀ {a b : Hd}, ShH d a b → ShH d (extendH a o (o + t.size)) (extendH b (o + d) (o + d + t.size)) := fun {a b} H => by
    have := extendH_sh hd H ho (show 0 ≤ o + t.size by omega)
    rwa [show o + d + (t.size : Int) = o + t.size + d by omega]
  unfold tokH
  rw [if_neg hk, if_neg hk]
  split
  · exact H
  · split
    · exact hx (identH_sh hd H t ho)
    · split
      · exact hx ⟨H.k, H.t, H.s0, H.s, H.e, H.nm⟩
      · split
        · exact hx ⟨H.k, rfl, H.s0, H.s, H.e, H.nm⟩
        · exact hx (setFlagH_sh H t)
structure ShS (d : Int) (s sJ : NS) : Prop where
  h : ShH d s.h sJ.h
  ch : shNs d s.ch sJ.ch
  off : sJ.b.off = s.b.off + d
  off0 : 0 ≤ s.b.off
theorem finN_sh {src srcJ : ByteArray} {d : Int} (hd : 0 ≤ d) {h hJ : Hd} {ch chJ : List Node} (H : ShH d h hJ) (C : shNs d ch chJ) (hk : h.k ≠ 46) : shN d (finN src (maxH h) ch) (finN srcJ (maxH hJ) chJ) := by
  have hm : (maxH h).k = h.k ∧ (maxH h).t = h.t ∧ (maxH h).s = h.s ∧ (maxH h).e = max h.e h.s := ⟨rfl, rfl, rfl, rfl⟩
  have hmJ : (maxH hJ).k = hJ.k ∧ (maxH hJ).t = hJ.t ∧ (maxH hJ).s = hJ.s ∧ (maxH hJ).e = max hJ.e hJ.s := ⟨rfl, rfl, rfl, rfl⟩
  generalize maxH h = m at *
  generalize maxH hJ = mJ at *
  have a1 := H.k; have a2 := H.t; have a3 := H.s0; have a4 := H.s
  have he : 0 ≤ m.e ∧ mJ.e = m.e + d := by
    rw [hm.2.2.2, hmJ.2.2.2, a4]
    rcases H.e with ⟨p, q⟩ | ⟨p, q⟩ <;> omega
  unfold finN
  by_cases h60 : m.k = 60
  · rw [if_pos h60, if_pos (by rw [hmJ.1, a1, ← hm.1]; exact h60)]
    unfold shN
    cases ch with
    | nil =>
      unfold shNs at C
      subst C
      refine ⟨_, _, rfl, rfl, rfl, ?_, ?_, he.1, he.2, ?_⟩
      · show 0 ≤ m.s; omega
      · show mJ.s = m.s + d; omega
      · show shNs d [] []; unfold shNs; rfl
    | cons x r =>
      unfold shNs at C
      obtain ⟨y, q, rfl, h3, h4⟩ := C
      cases x with
      | mk hx cx =>
        unfold shN at h3
        obtain ⟨hy, cy, rfl, b1, b2, b3, b4, b5, b6, b7⟩ := h3
        refine ⟨_, _, rfl, b1, b2, ?_, ?_, he.1, he.2, b7⟩
        · show 0 ≤ m.s; omega
        · show mJ.s = m.s + d; omega
  · rw [if_neg h60, if_neg (by rw [hm.1]; exact hk), if_neg (show ¬ mJ.k = 60 by rw [hmJ.1, a1, ← hm.1]; exact h60), if_neg (show ¬ mJ.k = 46 by rw [hmJ.1, a1]; exact hk)]
    unfold shN
    exact ⟨_, _, rfl, by rw [hmJ.1, a1, hm.1], by rw [hmJ.2.1, a2, hm.2.1], by omega, by omega, he.1, he.2, C⟩
theorem shN_h {d : Int} {x y : Node} (h : shN d x y) : 0 ≤ x.h.s ∧ y.h.s = x.h.s + d ∧ 0 ≤ x.h.e ∧ y.h.e = x.h.e + d := by
  cases x
  unfold shN at h
  obtain ⟨hJ, cJ, rfl, a1, a2, a3, a4, a5, a6, a7⟩ := h
  exact ⟨a3, a4, a5, a6⟩
theorem newH_sh {d : Int} {k o : Int} (ho : 0 ≤ o) : ShH d (newH k o) (newH k (o + d)) := ⟨rfl, rfl, ho, rfl, .inl ⟨rfl, rfl⟩, Iff.rfl⟩
mutual
theorem nodeL_sh {src srcJ : ByteArray} {d : Int} (hd : 0 ≤ d) : ∀ (x : Tree) (b bJ : BS), cleanT x → ¬ 100 ≤ x.k → bJ.off = b.off + d → 0 ≤ b.off → shN d (nodeL src x b).1 (nodeL srcJ x bJ).1
  | .mk k t ch, b, bJ, hc, h, ho, h0 => by
    unfold cleanT at hc
    have hlt : k < 100 := by have : ¬ 100 ≤ k := h; omega
    obtain ⟨c1, c2⟩ := hc.2 hlt
    have ih := kidsL_sh (src := src) (srcJ := srcJ) hd ch ⟨newH k b.off, [], b⟩ ⟨newH k bJ.off, [], bJ⟩ c2 ⟨by show ShH d (newH k b.off) (newH k bJ.off); rw [ho]; exact newH_sh h0, by show shNs d [] []; unfold shNs; rfl, ho, h0⟩
    have hk := kidsL_k src ch ⟨newH k b.off, [], b⟩
    unfold nodeL
    simp only
    exact finN_sh hd ih.h ih.ch (by rw [hk]; exact c1)
theorem kidsL_sh {src srcJ : ByteArray} {d : Int} (hd : 0 ≤ d) : ∀ (l : List Tree) (s sJ : NS), cleanTs l → ShS d s sJ → ShS d (kidsL src l s) (kidsL srcJ l sJ)
  | [], s, sJ, hc, H => by rw [kidsL, kidsL]; exact H
  | x :: r, s, sJ, hc, H => by
    unfold cleanTs at hc
    obtain ⟨H1, H2, H3, H4⟩ := H
    by_cases h : 100 ≤ x.k
    · rw [kidsL_tok h, kidsL_tok h]
      have hk : x.k ≠ 108 := by have := hc.1; cases x; unfold cleanT at this; exact this.1
      refine kidsL_sh hd r _ _ hc.2 ⟨?_, H2, ?_, ?_⟩
      · simp only
        rw [H3]
        exact tokH_sh hd H1 x.k x.t H4 hk
      · simp only
        rw [tokB_off, tokB_off]; omega
      · simp only
        rw [tokB_off]; omega
    · rw [kidsL_node h, kidsL_node h]
      have hn := nodeL_sh (src := src) (srcJ := srcJ) hd x s.b sJ.b hc.1 h H3 H4
      obtain ⟨e1, e2, e3, e4⟩ := shN_h hn
      refine kidsL_sh hd r _ _ hc.2 ⟨?_, ?_, ?_, ?_⟩
      · simp only
        rw [e2, e4]
        exact extendH_sh hd H1 e1 e3
      · exact shNs_append H2 (shNs_one hn)
      · simp only
        rw [nodeL_off _ _ _ h, nodeL_off _ _ _ h]; omega
      · simp only
        rw [nodeL_off _ _ _ h]; omega
end
theorem nodesB_sh {src srcJ : ByteArray} {d : Int} (hd : 0 ≤ d) : ∀ (l : List Tree) (b bJ : BS), cleanTs l → bJ.off = b.off + d → 0 ≤ b.off → shNs d (nodesB src l b) (nodesB srcJ l bJ)
  | [], b, bJ, _, _, _ => by unfold nodesB shNs; rfl
  | x :: r, b, bJ, hc, ho, h0 => by
    unfold cleanTs at hc
    unfold nodesB
    by_cases h : 100 ≤ x.k
    · rw [if_pos h, if_pos h]
      exact nodesB_sh hd r _ _ hc.2 (by rw [tokB_off, tokB_off]; omega) (by rw [tokB_off]; omega)
    · rw [if_neg h, if_neg h]
      unfold shNs
      exact ⟨_, _, rfl, nodeL_sh hd x b bJ hc.1 h ho h0, nodesB_sh hd r _ _ hc.2 (by rw [nodeL_off _ _ _ h, nodeL_off _ _ _ h]; omega) (by rw [nodeL_off _ _ _ h]; omega)⟩
theorem tok1_sh {d : Int} (hd : 0 ≤ d) (k o1 oJ : Int) (tk : Int) (t : ByteArray) {o : Int} (ho : 0 ≤ o) (ht : tk = 104 ∨ tk = 107) : ShH d (tokH (newH k o1) tk t o (o + t.size)) (tokH (newH k oJ) tk t (o + d) (o + d + t.size)) := by
  have e : ∀ (h : Hd) (s e : Int), tokH h tk t s e = extendH (setFlagH h t) s e := by
    intro h s e
    unfold tokH
    rw [if_neg (by omega), if_neg (by omega), if_neg (by omega), if_neg (by omega), if_neg (by omega)]
  rw [e, e]
  have f : ∀ o, (setFlagH (newH k o) t).e = -1 ∧ (setFlagH (newH k o) t).k = k ∧ (setFlagH (newH k o) t).nm = -1 := by
    intro o
    unfold setFlagH
    repeat' split
    all_goals exact ⟨rfl, rfl, rfl⟩
  have g : (setFlagH (newH k oJ) t).t = (setFlagH (newH k o1) t).t := by
    unfold setFlagH newH
    simp only
    repeat' split
    all_goals first | rfl | simp_all
  refine ⟨by show (setFlagH _ _).k = (setFlagH _ _).k; rw [(f _).2.1, (f _).2.1], g, ?_, ?_, .inr ⟨by show 0 ≤ o + (t.size : Int); omega, by show o + d + (t.size : Int) = o + t.size + d; omega⟩, by show (setFlagH _ _).nm < 0 ↔ (setFlagH _ _).nm < 0; rw [(f _).2.2, (f _).2.2]⟩
  · show 0 ≤ (if (setFlagH (newH k o1) t).e < 0 then o else _)
    rw [(f _).1, if_pos (by decide)]; exact ho
  · show (if (setFlagH (newH k oJ) t).e < 0 then o + d else _) = (if (setFlagH (newH k o1) t).e < 0 then o else _) + d
    rw [(f _).1, (f _).1, if_pos (by decide), if_pos (by decide)]
/-- the first item behind other white space -/
theorem item1_sh {src srcJ : ByteArray} {d : Int} (hd : 0 ≤ d) {k : Int} (hk : k < 100) (hk46 : k ≠ 46) {t : Tok} {P PJ : List Tok} {C : List Tree} {b bJ : BS} (ht : t.k = 104 ∨ t.k = 107) (hP : ∀ x ∈ P, isTriv x = true) (hPJ : ∀ x ∈ PJ, isTriv x = true) (hC : cleanTs C)
    (ho : bJ.off + txt PJ = b.off + txt P + d) (h0 : 0 ≤ b.off) : shN d (nodeL src (.mk k .empty (P.map Tok.leaf ++ t.leaf :: C)) b).1 (nodeL srcJ (.mk k .empty (PJ.map Tok.leaf ++ t.leaf :: C)) bJ).1 := by
  have h104 : 100 ≤ (Tok.leaf t).k := by show 100 ≤ t.k; omega
  have hoff : bJ.off + (txt PJ : Int) = b.off + txt P + d := ho
  have hh : ShS d (kidsL src (P.map Tok.leaf ++ t.leaf :: C) ⟨newH k b.off, [], b⟩) (kidsL srcJ (PJ.map Tok.leaf ++ t.leaf :: C) ⟨newH k bJ.off, [], bJ⟩) := by
    rw [kidsL_trivs src P _ _ hP, kidsL_trivs srcJ PJ _ _ hPJ, kidsL_tok h104, kidsL_tok h104]
    refine kidsL_sh hd C _ _ hC ⟨?_, by show shNs d [] []; unfold shNs; rfl, ?_, ?_⟩
    · simp only
      rw [hoff]
      exact tok1_sh hd k _ _ t.k t.t (by omega) ht
    · simp only
      rw [tokB_off, tokB_off]; simp only; omega
    · simp only
      rw [tokB_off]; simp only; omega
  have hkk := kidsL_k src (P.map Tok.leaf ++ t.leaf :: C) ⟨newH k b.off, [], b⟩
  unfold nodeL
  simp only
  exact finN_sh hd hh.h hh.ch (by rw [hkk]; exact hk46)

/- ITEMS -/
mutual
def shI (d : Int) : Item → Item → Prop
  | .mk k s e t ch, y => ∃ chJ, y = .mk k (s + d) (e + d) t chJ ∧ shIs d ch chJ
def shIs (d : Int) : List Item → List Item → Prop
  | [], l => l = []
  | x :: r, l => ∃ y q, l = y :: q ∧ shI d x y ∧ shIs d r q
end
theorem shIs_append {d : Int} : ∀ {a c aJ cJ : List Item}, shIs d a aJ → shIs d c cJ → shIs d (a ++ c) (aJ ++ cJ)
  | [], c, aJ, cJ, h, h2 => by unfold shIs at h; subst h; exact h2
  | x :: r, c, aJ, cJ, h, h2 => by
    unfold shIs at h
    obtain ⟨y, q, rfl, h3, h4⟩ := h
    rw [List.cons_append, List.cons_append]
    unfold shIs
    exact ⟨y, q ++ cJ, rfl, h3, shIs_append h4 h2⟩
mutual
theorem items_sh {d : Int} : ∀ (x y : Node), shN d x y → shIs d (itemsL x) (itemsL y)
  | .mk h ch, y, H => by
    unfold shN at H
    obtain ⟨hJ, cJ, rfl, a1, a2, a3, a4, a5, a6, a7⟩ := H
    have ih := itemss_sh ch cJ a7
    unfold itemsL
    rw [a1]
    split
    · exact ih
    · unfold shIs
      refine ⟨_, [], rfl, ?_, by unfold shIs; rfl⟩
      unfold shI
      exact ⟨_, by rw [a2, a4, a6], ih⟩
theorem itemss_sh {d : Int} : ∀ (l m : List Node), shNs d l m → shIs d (itemsLs l) (itemsLs m)
  | [], m, H => by unfold shNs at H; subst H; unfold itemsLs shIs; rfl
  | x :: r, m, H => by
    unfold shNs at H
    obtain ⟨y, q, rfl, h3, h4⟩ := H
    unfold itemsLs
    exact shIs_append (items_sh x y h3) (itemss_sh r q h4)
end
mutual
theorem flatI_sh {d : Int} : ∀ (x y : Item), shI d x y → shIs d (flatI x) (flatI y)
  | .mk k s e t ch, y, H => by
    unfold shI at H
    obtain ⟨cJ, rfl, h2⟩ := H
    unfold flatI
    unfold shIs
    exact ⟨_, _, rfl, by unfold shI; exact ⟨[], rfl, by unfold shIs; rfl⟩, flatL_sh ch cJ h2⟩
theorem flatL_sh {d : Int} : ∀ (l m : List Item), shIs d l m → shIs d (flatL l) (flatL m)
  | [], m, H => by unfold shIs at H; subst H; unfold flatL shIs; rfl
  | x :: r, m, H => by
    unfold shIs at H
    obtain ⟨y, q, rfl, h3, h4⟩ := H
    unfold flatL
    exact shIs_append (flatI_sh x y h3) (flatL_sh r q h4)
end
theorem astN_items (src : ByteArray) (ch : List Tree) : itemsL (astN src ch) = itemsLs (nodesB src ch ⟨0, []⟩) := by
  have hk := kidsL_k src ch ⟨newH 1 0, [], ⟨0, []⟩⟩
  have hc := kidsL_ch src ch ⟨newH 1 0, [], ⟨0, []⟩⟩
  unfold astN astR nodeL
  simp only
  generalize kidsL src ch ⟨newH 1 0, [], ⟨0, []⟩⟩ = R at *
  have hk : R.h.k = 1 := hk
  have hm : (maxH R.h).k = 1 := hk
  unfold finN
  rw [if_neg (by rw [hm]; decide), if_neg (by rw [hm]; decide)]
  unfold itemsL
  rw [if_pos (by show symKind (maxH R.h).k = 0; rw [hm]; decide)]
  show itemsLs R.ch = _
  rw [hc]
  simp
theorem concat_law (s1 s2 sJ : ByteArray) (hJ : sJ.data.toList = s1.data.toList ++ 10 :: s2.data.toList) (h2 : s2.size ≤ 2000) (n1 n2 nJ : Nat) (u1 u2 uJ : PS) (hu1 : run n1 fileC ⟨tokensL s1.data.toList, [], false, 600000⟩ = some u1)
    (hu2 : run n2 fileC ⟨tokensL s2.data.toList, [], false, 600000⟩ = some u2) (huJ : run nJ fileC ⟨tokensL sJ.data.toList, [], false, 600000⟩ = some uJ) (d1 : astD s1 u1.ch = []) (d2 : astD s2 u2.ch = []) :
    ∃ X Y, flatL (itemsL (astN sJ uJ.ch)) = X ++ Y ∧ shIs 0 (flatL (itemsL (astN s1 u1.ch))) X ∧ shIs (s1.size + 1) (flatL (itemsL (astN s2 u2.ch))) Y := by
  rw [hJ] at huJ
  have c1 := astD_clean d1
  have c2 := astD_clean d2
  have z1 : s1.data.toList.length = s1.size := Array.length_toList
  have z2 : s2.data.toList.length = s2.size := Array.length_toList
  obtain ⟨Z, V1, a1, a2, a3⟩ := file_join _ _ (by rw [z2]; exact h2) n1 n2 nJ _ _ _ u1 u2 uJ hu1 hu2 huJ c1 c2
  have cZ : cleanTs Z := by rw [a1, cleanTs_append] at c1; exact c1.1
  have hZ : shIs 0 (flatL (itemsL (astN s1 u1.ch))) (flatL (itemsLs (nodesB sJ Z ⟨0, []⟩))) := by
    rw [astN_items, a1, nodesB_append, nodesB_trivs _ _ _ a2, List.append_nil]
    exact flatL_sh _ _ (itemss_sh _ _ (nodesB_sh (Int.le_refl _) Z _ _ cZ (by simp) (Int.le_refl _)))
  rcases a3 with ⟨V2, VJ, b1, b2, b3, b4⟩ | ⟨k, t, P, PJ, C, U, b1, b2, b3, b4, b5, b6, b7, b8⟩
  · refine ⟨_, [], ?_, hZ, ?_⟩
    · rw [astN_items, b4, nodesB_append, nodesB_trivs _ _ _ b2]; simp
    · rw [astN_items, b3, nodesB_trivs _ _ _ b1]
      unfold itemsLs flatL shIs
      rfl
  · refine ⟨_, flatL (itemsLs (nodesB sJ (Tree.mk k .empty (PJ.map Tok.leaf ++ t.leaf :: C) :: U) (endB sJ Z ⟨0, []⟩))), ?_, hZ, ?_⟩
    · rw [astN_items, b7, nodesB_append, itemsLs_append, flatL_append]
    · rw [astN_items, b6]
      refine flatL_sh _ _ (itemss_sh _ _ ?_)
      rw [b6] at c2
      unfold cleanTs cleanT at c2
      have hC := (c2.1.2 (by omega)).2
      rw [cleanTs_append] at hC
      have hC := hC.2
      unfold cleanTs at hC
      have hoff := endB_off sJ Z ⟨0, []⟩
      have hy : ∀ Q : List Tok, (∀ x ∈ Q, isTriv x = true) → yls (Q.map Tok.leaf) = txt Q := fun Q hQ => leaf_yls_eq Q (fun x hx => by have := triv_k (hQ x hx); omega)
      have hk1 : ∀ D, ¬ 100 ≤ (Tree.mk k .empty D).k := fun D => by show ¬ 100 ≤ k; omega
      unfold nodesB
      rw [if_neg (hk1 _), if_neg (hk1 _)]
      unfold shNs
      refine ⟨_, _, rfl, item1_sh (by omega) (by omega) (by omega) b3 b4 b5 hC.2 ?_ (Int.le_refl _), nodesB_sh (by omega) U _ _ c2.2 ?_ ?_⟩
      · rw [hoff]; simp only; rw [z1] at b8; omega
      · rw [nodeL_off _ _ _ (hk1 _), nodeL_off _ _ _ (hk1 _), Tree.yl_node (hk1 _), Tree.yl_node (hk1 _), hoff]
        simp only [Tree.ch, yls_append, hy P b4, hy PJ b5]
        rw [z1] at b8
        push_cast
        omega
      · rw [nodeL_off _ _ _ (hk1 _)]
        simp only
        omega
theorem shIs_get {d : Int} : ∀ {a aJ : List Item}, shIs d a aJ → a.length = aJ.length ∧ ∀ (i : Nat) (x : Item), a[i]? = some x → ∃ y, aJ[i]? = some y ∧ y.k = x.k ∧ y.t = x.t ∧ y.s = x.s + d ∧ y.e = x.e + d
  | [], aJ, h => by unfold shIs at h; subst h; exact ⟨rfl, fun i x h => by simp at h⟩
  | x :: r, aJ, h => by
    unfold shIs at h
    obtain ⟨y, q, rfl, h3, h4⟩ := h
    obtain ⟨e1, e2⟩ := shIs_get h4
    refine ⟨by simp [e1], fun i z hz => ?_⟩
    cases i with
    | zero =>
      simp at hz
      subst hz
      cases x
      unfold shI at h3
      obtain ⟨c, rfl, _⟩ := h3
      exact ⟨_, rfl, rfl, rfl, rfl, rfl⟩
    | succ i => simpa using e2 i z (by simpa using hz)
end Go.Proofs.YtepadojclmjllaaGreatDoor
