/-
  PLAIN: fuzzy.Rank's comparison is a strict weak order.
-/
import Derived.Test.YtbnoejdhachhhabStb
namespace Go.Proofs.Ytbnoejdhachhhab
open Go.Sort (SWO)
set_option linter.unusedVariables false

structure CmpLaw {α : Type} (c : α → α → Int) : Prop where
  anti : ∀ x y, c y x = - c x y
  trans : ∀ x y z, c x y ≤ 0 → c y z ≤ 0 → c x z ≤ 0
theorem CmpLaw.strict {α : Type} {c : α → α → Int} (h : CmpLaw c) {x y z : α} (h1 : c x y ≤ 0) (h2 : c y z ≤ 0) (h3 : c x y < 0 ∨ c y z < 0) : c x z < 0 := by
  have h4 := h.trans x y z h1 h2
  have a1 := h.anti x y
  have a2 := h.anti y z
  have a3 := h.anti x z
  by_cases h0 : c x z = 0
  · rcases h3 with h3 | h3
    · have := h.trans y z x h2 (by omega)
      omega
    · have := h.trans z x y (by omega) h1
      omega
  · omega
theorem CmpLaw.swo {c : Nat → Nat → Int} (h : CmpLaw c) : SWO (ltC c) where
  irrefl x := by unfold ltC; rw [decide_eq_false]; have := h.anti x x; omega
  trans x y z h1 h2 := by
    unfold ltC at *
    have h1 := of_decide_eq_true h1
    have h2 := of_decide_eq_true h2
    exact decide_eq_true (h.strict (by omega) (by omega) (.inl h1))
  ntrans x y z h1 h2 := by
    unfold ltC at *
    have h1 := of_decide_eq_false h1
    have h2 := of_decide_eq_false h2
    refine decide_eq_false ?_
    have a1 := h.anti x y
    have a2 := h.anti y z
    have a3 := h.anti x z
    have := h.trans z y x (by omega) (by omega)
    omega
theorem CmpLaw.lex {α : Type} {c d : α → α → Int} (h : CmpLaw c) (k : CmpLaw d) : CmpLaw (fun x y => if c x y = 0 then d x y else c x y) where
  anti x y := by
    have a1 := h.anti x y
    have a2 := k.anti x y
    by_cases h0 : c x y = 0
    · rw [if_pos h0, if_pos (by omega), a2]
    · rw [if_neg h0, if_neg (by omega), a1]
  trans x y z h1 h2 := by
    have a1 := h.anti x y
    have a2 := h.anti y z
    have a3 := h.anti x z
    have e1 : c x y ≤ 0 := by
      by_cases h0 : c x y = 0
      · omega
      · rw [if_neg h0] at h1; exact h1
    have e2 : c y z ≤ 0 := by
      by_cases h0 : c y z = 0
      · omega
      · rw [if_neg h0] at h2; exact h2
    by_cases c1 : c x y < 0 ∨ c y z < 0
    · have := h.strict e1 e2 c1
      rw [if_neg (by omega)]; omega
    · rw [if_pos (by omega)] at h1 h2
      have e3 := h.trans x y z e1 e2
      have e4 := h.trans z y x (by omega) (by omega)
      rw [if_pos (by omega)]
      exact k.trans x y z h1 h2
theorem CmpLaw.of {α β : Type} {c : β → β → Int} (h : CmpLaw c) (f : α → β) : CmpLaw (fun x y => c (f x) (f y)) := ⟨fun x y => h.anti _ _, fun x y z => h.trans _ _ _⟩
theorem cmpI_law : CmpLaw cmpI where
  anti x y := by unfold cmpI; split <;> split <;> (try split) <;> omega
  trans x y z := by unfold cmpI; split <;> split <;> (try split) <;> (try split) <;> (try split) <;> (try split) <;> omega
theorem CmpLaw.flip {α : Type} {c : α → α → Int} (h : CmpLaw c) : CmpLaw (fun x y => c y x) := ⟨fun x y => h.anti _ _, fun x y z h1 h2 => h.trans _ _ _ h2 h1⟩
theorem bytes_anti : ∀ (x y : List UInt8), Lib.compareBytes y x = - Lib.compareBytes x y
  | [], [] => rfl
  | [], _ :: _ => rfl
  | _ :: _, [] => rfl
  | a :: xs, b :: bs => by
    unfold Lib.compareBytes
    have ih := bytes_anti xs bs
    by_cases h1 : a < b
    · have h2 : ¬ b < a := fun h => UInt8.lt_irrefl _ (UInt8.lt_trans h1 h)
      rw [if_pos h1, if_neg h2, if_pos h1]; rfl
    · by_cases h2 : b < a
      · rw [if_pos h2, if_neg h1, if_pos h2]
      · rw [if_neg h2, if_neg h1, if_neg h1, if_neg h2, ih]
theorem bytes_trans : ∀ (x y z : List UInt8), Lib.compareBytes x y ≤ 0 → Lib.compareBytes y z ≤ 0 → Lib.compareBytes x z ≤ 0
  | [], _, [], _, _ => by simp [Lib.compareBytes]
  | [], _, _ :: _, _, _ => by simp [Lib.compareBytes]
  | _ :: _, [], _, h, _ => by simp [Lib.compareBytes] at h
  | _ :: _, _ :: _, [], _, h => by simp [Lib.compareBytes] at h
  | a :: xs, b :: bs, c :: cs, h1, h2 => by
    have ih := bytes_trans xs bs cs
    unfold Lib.compareBytes at h1 h2 ⊢
    by_cases ab : a < b
    · by_cases bc : b < c
      · rw [if_pos (UInt8.lt_trans ab bc)]; omega
      · rw [if_neg bc] at h2
        by_cases cb : c < b
        · rw [if_pos cb] at h2; omega
        · obtain rfl : b = c := UInt8.le_antisymm (UInt8.not_lt.1 cb) (UInt8.not_lt.1 bc)
          rw [if_pos ab]; omega
    · rw [if_neg ab] at h1
      by_cases ba : b < a
      · rw [if_pos ba] at h1; omega
      · obtain rfl : a = b := UInt8.le_antisymm (UInt8.not_lt.1 ba) (UInt8.not_lt.1 ab)
        rw [if_neg ba] at h1
        by_cases bc : a < c
        · rw [if_pos bc]; omega
        · rw [if_neg bc] at h2 ⊢
          by_cases cb : c < a
          · rw [if_pos cb] at h2; omega
          · rw [if_neg cb] at h2 ⊢
            exact ih h1 h2
theorem bytes_law : CmpLaw Lib.compareBytes := ⟨bytes_anti, bytes_trans⟩

theorem orL3 (a b c : Int) : orL [a, b, c] = if a = 0 then (if b = 0 then c else b) else a := by
  simp only [orL]
  by_cases ha : a = 0
  · rw [if_pos ha, if_pos ha]
    by_cases hb : b = 0
    · rw [if_pos hb, if_pos hb]; by_cases hc : c = 0
      · rw [if_pos hc, hc]
      · rw [if_neg hc]
    · rw [if_neg hb, if_neg hb]
  · rw [if_neg ha, if_neg ha]
theorem cmpN_law (scores : List Int) (names : List ByteArray) : CmpLaw (cmpN scores names) := by
  have h1 : CmpLaw (fun a b : Nat => cmpI (scores.getD b 0) (scores.getD a 0)) := (cmpI_law.of (fun a : Nat => scores.getD a 0)).flip
  have h2 : CmpLaw (fun a b : Nat => cmpI ((names.getD a default).size : Int) ((names.getD b default).size : Int)) := cmpI_law.of (fun a : Nat => ((names.getD a default).size : Int))
  have h3 : CmpLaw (fun a b : Nat => Lib.compareBytes (names.getD a default).data.toList (names.getD b default).data.toList) := bytes_law.of (fun a : Nat => (names.getD a default).data.toList)
  have h := h1.lex (h2.lex h3)
  have e : cmpN scores names = fun x y => if cmpI (scores.getD y 0) (scores.getD x 0) = 0 then (if cmpI ((names.getD x default).size : Int) ((names.getD y default).size : Int) = 0 then Lib.compareBytes (names.getD x default).data.toList (names.getD y default).data.toList else cmpI ((names.getD x default).size : Int) ((names.getD y default).size : Int)) else cmpI (scores.getD y 0) (scores.getD x 0) := by
    funext x y
    unfold cmpN
    rw [orL3]
  rw [e]
  exact h
end Go.Proofs.Ytbnoejdhachhhab
