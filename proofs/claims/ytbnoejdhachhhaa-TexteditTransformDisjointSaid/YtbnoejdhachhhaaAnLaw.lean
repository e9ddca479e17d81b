/-
  THE PLAIN LAWS of anchor.Map: no Go.
-/
import Derived.Test.YtbnoejdhachhhaaMapA
namespace Go.Proofs.Ytbnoejdhachhhaa
open Go.RowKit

/-- anchor.mapOffset over the integers -/
def mapOffI : List Ed → Int → Bool → Int → Int
  | [], off, _, sh => off + sh
  | x :: xs, off, r, sh =>
    if x.e < off ∨ (x.e = off ∧ (x.s < off ∨ r = true)) then mapOffI xs off r (sh + (x.t.size - (x.e - x.s)))
    else if x.s < off ∧ r = true then x.s + sh + x.t.size
    else if x.s < off then x.s + sh
    else off + sh


theorem w64 {n : Int} (h : -9223372036854775808 ≤ n ∧ n ≤ 9223372036854775807) : wrap64 n = n := IntWalk.wrap64_in n h

theorem mapOffW_eq (es : List Ed) (off : Int) (r : Bool) : ∀ (p sh : Int), valLoop es p = 0 → -1 ≤ p → p ≤ off → 0 ≤ off → off ≤ 4611686018427387904 → Short es → es.length ≤ 50 →
    -p ≤ sh + 1 → sh ≤ 140737488351232 * (50 - es.length) → mapOffW es off r sh = mapOffI es off r sh := by
  induction es with
  | nil =>
    intro p sh _ h1 h2 h3 h4 _ _ h5 h6
    simp only [mapOffW, mapOffI]
    simp at h6
    exact w64 ⟨by omega, by omega⟩
  | cons x xs ih =>
    intro p sh hv h1 h2 h3 h4 hs hl h5 h6
    have hx := hs x (by simp)
    have hxs : Short xs := fun y hy => hs y (by simp [hy])
    rw [List.length_cons] at hl h6
    unfold valLoop at hv
    by_cases hb : x.s ≤ p ∨ x.e < x.s
    · rw [if_pos hb] at hv; omega
    · rw [if_neg hb] at hv
      have hm : (xs.length : Int) ≤ 49 := by omega
      simp only [mapOffW, mapOffI]
      by_cases hp : x.e < off ∨ (x.e = off ∧ (x.s < off ∨ r = true))
      · rw [if_pos hp, if_pos hp]
        have e1 : wrap64 (x.e - x.s) = x.e - x.s := w64 ⟨by omega, by omega⟩
        have e2 : wrap64 (x.t.size - (x.e - x.s)) = x.t.size - (x.e - x.s) := w64 ⟨by omega, by omega⟩
        have e3 : wrap64 (sh + (x.t.size - (x.e - x.s))) = sh + (x.t.size - (x.e - x.s)) := w64 ⟨by omega, by omega⟩
        rw [e1, e2, e3]
        exact ih x.e _ hv (by omega) (by omega) h3 h4 hxs (by omega) (by omega) (by omega)
      · rw [if_neg hp, if_neg hp]
        have e1 : x.s < off → wrap64 (x.s + sh) = x.s + sh := fun _ => w64 ⟨by omega, by omega⟩
        have e2 : x.s < off → wrap64 (x.s + sh + x.t.size) = x.s + sh + x.t.size := fun _ => w64 ⟨by omega, by omega⟩
        have e3 : wrap64 (off + sh) = off + sh := w64 ⟨by omega, by omega⟩
        split
        · rename_i h; rw [e1 h.1, e2 h.1]
        · split
          · rename_i h; rw [e1 h]
          · rw [e3]

/-- how far the positions have come: a lower bound for all that follows -/
theorem mapOffI_low (es : List Ed) (off : Int) (r : Bool) : ∀ (p sh : Int), valLoop es p = 0 → p ≤ off → p + sh ≤ mapOffI es off r sh := by
  induction es with
  | nil => intro p sh _ h; simp only [mapOffI]; omega
  | cons x xs ih =>
    intro p sh hv h
    unfold valLoop at hv
    by_cases hb : x.s ≤ p ∨ x.e < x.s
    · rw [if_pos hb] at hv; omega
    · rw [if_neg hb] at hv
      simp only [mapOffI]
      split
      · rename_i hp
        have := ih x.e (sh + (x.t.size - (x.e - x.s))) hv (by omega)
        omega
      · split
        · omega
        · split <;> omega

theorem mapOffI_mono (es : List Ed) (a b : Int) (r : Bool) (hab : a ≤ b) : ∀ (p sh : Int), valLoop es p = 0 → p ≤ a → mapOffI es a r sh ≤ mapOffI es b r sh := by
  induction es with
  | nil => intro p sh _ _; simp only [mapOffI]; omega
  | cons x xs ih =>
    intro p sh hv h
    unfold valLoop at hv
    by_cases hb : x.s ≤ p ∨ x.e < x.s
    · rw [if_pos hb] at hv; omega
    · rw [if_neg hb] at hv
      simp only [mapOffI]
      have L : x.e ≤ b → x.e + (sh + (x.t.size - (x.e - x.s))) ≤ mapOffI xs b r (sh + (x.t.size - (x.e - x.s))) := mapOffI_low xs b r x.e _ hv
      have M : x.e ≤ a → mapOffI xs a r (sh + (x.t.size - (x.e - x.s))) ≤ mapOffI xs b r (sh + (x.t.size - (x.e - x.s))) := ih x.e _ hv
      generalize mapOffI xs a r (sh + (x.t.size - (x.e - x.s))) = A at *
      generalize mapOffI xs b r (sh + (x.t.size - (x.e - x.s))) = B at *
      cases r <;> simp only [Bool.false_eq_true, or_false, and_false, if_false, or_true, and_true] <;> (repeat' split) <;> omega
theorem mapOffI_gravity (es : List Ed) (a : Int) : ∀ (p sh : Int), valLoop es p = 0 → p ≤ a → mapOffI es a false sh ≤ mapOffI es a true sh := by
  induction es with
  | nil => intro p sh _ _; simp only [mapOffI]; omega
  | cons x xs ih =>
    intro p sh hv h
    unfold valLoop at hv
    by_cases hb : x.s ≤ p ∨ x.e < x.s
    · rw [if_pos hb] at hv; omega
    · rw [if_neg hb] at hv
      simp only [mapOffI]
      have L : x.e ≤ a → x.e + (sh + (x.t.size - (x.e - x.s))) ≤ mapOffI xs a true (sh + (x.t.size - (x.e - x.s))) := mapOffI_low xs a true x.e _ hv
      have M : x.e ≤ a → mapOffI xs a false (sh + (x.t.size - (x.e - x.s))) ≤ mapOffI xs a true (sh + (x.t.size - (x.e - x.s))) := ih x.e _ hv
      generalize mapOffI xs a true (sh + (x.t.size - (x.e - x.s))) = A at *
      generalize mapOffI xs a false (sh + (x.t.size - (x.e - x.s))) = B at *
      simp only [Bool.false_eq_true, or_false, and_false, if_false, or_true, and_true]
      (repeat' split) <;> omega

theorem mapP_ok {es : List Ed} {off : Int} (hv : valA es = 0) (h0 : 0 ≤ off) (h1 : off ≤ 4611686018427387904) (hs : Short es) (r : Bool) : mapP es off r = mapOffI es off r 0 ∧ mapE es off = 0 := by
  have hl := valA_len hv
  have hv' : valLoop es (-1) = 0 := by unfold valA at hv; rwa [if_neg (by omega)] at hv
  refine ⟨?_, by simp [mapE, hv]; omega⟩
  rw [mapP, if_pos hv, if_neg (by omega)]
  exact mapOffW_eq es off r (-1) 0 hv' (by omega) (by omega) h0 h1 hs hl (by omega) (by omega)

theorem mapE_zero {es : List Ed} {off : Int} (h : mapE es off = 0) : valA es = 0 ∧ 0 ≤ off := by
  unfold mapE at h
  split at h
  · split at h
    · omega
    · exact ⟨by assumption, by omega⟩
  · exact ⟨h, by contradiction⟩

theorem map_monotonic {es : List Ed} {a b : Int} (r : Bool) (hs : Short es) (ha : mapE es a = 0) (hab : a ≤ b) (hb : b ≤ 1099511627776) :
    mapP es a r ≤ mapP es b r ∧ mapP es a false ≤ mapP es a true := by
  obtain ⟨hv, h0⟩ := mapE_zero ha
  have hl := valA_len hv
  have hv' : valLoop es (-1) = 0 := by unfold valA at hv; rwa [if_neg (by omega)] at hv
  rw [(mapP_ok hv h0 (by omega) hs r).1, (mapP_ok hv (by omega) (by omega) hs r).1, (mapP_ok hv h0 (by omega) hs false).1, (mapP_ok hv h0 (by omega) hs true).1]
  exact ⟨mapOffI_mono es a b r hab (-1) 0 hv' (by omega), mapOffI_gravity es a (-1) 0 hv' (by omega)⟩
end Go.Proofs.Ytbnoejdhachhhaa
