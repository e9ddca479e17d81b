/-
  Words for the laws' walks.
-/
import Derived.Test.YtbnoejdhachhhaaPCan
import Derived.Test.YtbnoejdhachhhaaTxEx
import Derived.Test.YtbnoejdhachhhaaLift
namespace Go.Proofs.Ytbnoejdhachhhaa
open Go.RowKit

theorem short_of_val {n : Nat} {es : List Ed} (h : valT n es = 0) : Short es := fun x hx => by
  have := text_le (valT_ok h).2.2 (by omega) (by omega) (valT_ok h).1 (by omega) x hx
  omega
theorem len_of_val {n : Int} {es : List Ed} (h : valT n es = 0) : es.length ≤ maxLen := by have := (valT_ok h).2.1; simp only [maxLen]; omega
theorem compL_fits (src : ByteArray) (a b : List Ed) : (compL src a b).length ≤ maxLen ∧ Short (compL src a b) := by
  by_cases h : compC src a b = 0
  · obtain ⟨_, _, h3, _⟩ := comp_law h
    exact ⟨len_of_val h3, short_of_val h3⟩
  · rw [compL, if_neg h]; exact ⟨by simp, fun x hx => by cases hx⟩
theorem applyB_max (src : ByteArray) (es : List Ed) : (applyB src es).size ≤ maxLen := by have := applyB_le src es; simp only [maxLen]; omega
end Go.Proofs.Ytbnoejdhachhhaa
