/-
  THE PLAIN LAWS of textedit, first part: applyL, applyT, canonL. No Go.
-/
import Derived.Test.YtbnoejdhachhhaaCanL
namespace Go.Proofs.Ytbnoejdhachhhaa
open Go.RowKit

theorem ins_vals (l : List UInt8) : (ins l).map TB.v = l := by simp [ins, Function.comp_def]
theorem traceL_vals (l : List UInt8) : (traceL l).map TB.v = l := by
  apply List.ext_getElem?
  intro i
  simp only [traceL, List.map_map, List.getElem?_map]
  by_cases h : i < l.length
  · simp [h]
  · simp [h]
theorem applyT_vals (es : List Ed) : ∀ (bs : List TB) (off : Nat), (applyT bs es off).map TB.v = applyL (bs.map TB.v) es off := by
  induction es with
  | nil => intro bs off; simp [applyT, applyL, List.map_drop]
  | cons x xs ih => intro bs off; simp only [applyT, applyL, List.map_append, ih, ins_vals, List.map_take, List.map_drop]
theorem applyT_length (bs : List TB) (es : List Ed) (off : Nat) : (applyT bs es off).length = (applyL (bs.map TB.v) es off).length := by
  rw [← applyT_vals, List.length_map]
theorem applyT_trace_length (l : List UInt8) (es : List Ed) : (applyT (traceL l) es 0).length = (applyL l es 0).length := by
  rw [applyT_length, traceL_vals]

theorem Origins.trace (l : List UInt8) (h : l.length ≤ 100000000) : Origins (traceL l) := by
  intro x hx
  simp only [traceL, List.mem_map, List.mem_range] at hx
  obtain ⟨i, hi, rfl⟩ := hx
  exact .inr ⟨by simp, by simp only; omega⟩
theorem Origins.apply {bs : List TB} (h : Origins bs) (es : List Ed) : ∀ off : Nat, Origins (applyT bs es off) := by
  induction es with
  | nil => intro off x hx; exact h x (List.mem_of_mem_drop hx)
  | cons y ys ih =>
    intro off x hx
    simp only [applyT, List.mem_append] at hx
    rcases hx with (hx | hx) | hx
    · exact h x (List.mem_of_mem_drop (List.mem_of_mem_take hx))
    · simp only [ins, List.mem_map] at hx
      obtain ⟨b, _, rfl⟩ := hx
      exact .inl rfl
    · exact ih _ x hx

/-- the edits are in order, separated, and within n bytes; p: the end of the one before -/
def OkFrom (n : Int) : List Ed → Int → Prop
  | [], _ => True
  | x :: xs, p => p < x.s ∧ x.s ≤ x.e ∧ x.e ≤ n ∧ OkFrom n xs x.e
/-- the length behind the edits -/
def finLen : List Ed → Int → Int
  | [], len => len
  | x :: xs, len => finLen xs (len + (x.t.size - (x.e - x.s)))
theorem valTLoop_iff (n : Int) (es : List Ed) : ∀ (p len : Int), valTLoop n es p len = 0 ↔ OkFrom n es p ∧ finLen es len ≤ 2000 := by
  induction es with
  | nil =>
    intro p len
    simp only [valTLoop, OkFrom, finLen, true_and]
    split <;> omega
  | cons x xs ih =>
    intro p len
    simp only [valTLoop, OkFrom, finLen]
    by_cases hb : x.s ≤ p ∨ x.e < x.s ∨ n < x.e
    · rw [if_pos hb]
      constructor
      · intro h; omega
      · rintro ⟨⟨h1, h2, h3, _⟩, _⟩; omega
    · rw [if_neg hb, ih]
      constructor
      · rintro ⟨h1, h2⟩; exact ⟨⟨by omega, by omega, by omega, h1⟩, h2⟩
      · rintro ⟨⟨_, _, _, h1⟩, h2⟩; exact ⟨h1, h2⟩
theorem valT_iff (n : Int) (es : List Ed) : valT n es = 0 ↔ n ≤ 2000 ∧ es.length ≤ 50 ∧ OkFrom n es (-1) ∧ finLen es n ≤ 2000 := by
  constructor
  · intro h
    obtain ⟨h1, h2, h3⟩ := valT_ok h
    exact ⟨h1, h2, (valTLoop_iff _ _ _ _).1 h3⟩
  · rintro ⟨h1, h2, h3⟩
    unfold valT
    rw [if_neg (by omega)]
    exact (valTLoop_iff _ _ _ _).2 h3

/-- what the edits leave is as long as Validate reckons -/
theorem applyL_length (l : List UInt8) (es : List Ed) : ∀ (p : Int) (off : Nat), OkFrom l.length es p → (off : Int) ≤ p + 1 → off ≤ l.length → ((applyL l es off).length : Int) = finLen es ((l.length : Int) - off) := by
  induction es with
  | nil => intro p off _ _ h; simp only [applyL, finLen, List.length_drop]; omega
  | cons x xs ih =>
    intro p off h h1 h2
    obtain ⟨h3, h4, h5, h6⟩ := h
    have := ih x.e x.e.toNat h6 (by omega) (by omega)
    simp only [applyL, finLen, List.length_append, List.length_take, List.length_drop]
    rw [Int.natCast_add, this]
    have ht : x.t.data.toList.length = x.t.size := by rw [Array.length_toList]; rfl
    have e : ∀ (es : List Ed) (a b : Int), finLen es (a + b) = finLen es a + b := by
      intro es
      induction es with
      | nil => intro a b; rfl
      | cons y ys ih =>
        intro a b
        simp only [finLen]
        rw [show a + b + (y.t.size - (y.e - y.s)) = (a + (y.t.size - (y.e - y.s))) + b from by omega]
        exact ih _ _
    rw [ht]
    have h7 : (l.length : Int) - off + (x.t.size - (x.e - x.s)) = ((l.length : Int) - x.e.toNat) + (x.t.size + (x.s - off)) := by omega
    rw [h7, e]
    have : min (x.s.toNat - off) (l.length - off) = x.s.toNat - off := by omega
    rw [this]
    omega
end Go.Proofs.Ytbnoejdhachhhaa
