/-
  THE PLAIN LAWS: composing with the empty list; anchors through the inverse, retained bytes. No Go.
-/
import Derived.Test.YtbnoejdhachhhaaPCan
namespace Go.Proofs.Ytbnoejdhachhhaa
open Go.RowKit

theorem canonL_ins (n : Int) (t : List UInt8) (rest : List TB) : ∀ (st : Int) (pend : List UInt8), canonL n (ins t ++ rest) st pend = canonL n rest st (pend ++ t) := by
  induction t with
  | nil => intro st pend; simp [ins]
  | cons b bs ih =>
    intro st pend
    have : ins (b :: bs) ++ rest = ⟨b, -1⟩ :: (ins bs ++ rest) := rfl
    rw [this, canonL, if_pos rfl, ih]
    simp
theorem canonL_run (n : Int) (l : List UInt8) (rest : List TB) : ∀ (k off : Nat), off + k ≤ l.length → canonL n (((traceL l).drop off).take k ++ rest) off [] = canonL n rest ((off + k : Nat) : Int) [] := by
  intro k
  induction k with
  | zero => intro off _; simp
  | succ k ih =>
    intro off h
    have hlt : off < (traceL l).length := by rw [traceL_length]; omega
    have hx := traceL_at l off (by omega)
    have hd := drop_cons (traceL l) off hlt
    rw [List.getElem?_eq_getElem hlt] at hx
    injection hx with hx
    rw [hx] at hd
    rw [hd, List.take_succ_cons, List.cons_append, canonL, if_neg (by simp only; omega)]
    have := ih (off + 1) (by omega)
    rw [show flushed (off : Int) (off : Int) [] = [] by simp [flushed], List.nil_append]
    rw [show ((off : Int) + 1) = ((off + 1 : Nat) : Int) from by omega, this, show off + 1 + k = off + (k + 1) from by omega]
theorem canonL_count (l : List UInt8) (es : List Ed) : ∀ (p : Int) (off : Nat), OkFrom l.length es p → (off : Int) ≤ p + 1 → off ≤ l.length → (canonL l.length (applyT (traceL l) es off) off []).length ≤ es.length := by
  induction es with
  | nil =>
    intro p off _ _ h
    have := canonL_run l.length l [] (l.length - off) off (by omega)
    simp only [applyT]
    rw [List.append_nil, List.take_of_length_le (by rw [List.length_drop, traceL_length]; omega)] at this
    rw [this, show off + (l.length - off) = l.length from by omega]
    simp [canonL, flushed]
  | cons x xs ih =>
    intro p off h hp ho
    obtain ⟨h1, h2, h3, h4⟩ := h
    simp only [applyT]
    rw [List.append_assoc, canonL_run _ _ _ _ _ (by omega), canonL_ins, List.nil_append, List.length_cons]
    by_cases he : x.e < l.length
    · have hx := traceL_at l x.e.toNat (by omega)
      have hst := applyT_step (tr := traceL l) h4 (k := x.e.toNat) (by omega) _ hx
      rw [hst, canonL, if_neg (by simp only; omega), List.length_append]
      have hi := ih x.e (x.e.toNat + 1) h4 (by omega) (by omega)
      have hf := flushed_length ((off + (x.s.toNat - off) : Nat) : Int) (x.e.toNat : Int) x.t.data.toList
      simp only at *
      rw [show ((x.e.toNat : Nat) : Int) + 1 = ((x.e.toNat + 1 : Nat) : Int) from by omega]
      omega
    · have hxs : xs = [] := by
        cases xs with
        | nil => rfl
        | cons y ys => obtain ⟨g1, g2, g3, _⟩ := h4; omega
      subst hxs
      have : (traceL l).drop x.e.toNat = [] := List.drop_of_length_le (by rw [traceL_length]; omega)
      simp only [applyT, this, canonL, List.length_nil]
      exact flushed_length _ _ _

theorem applyB_nil {src : ByteArray} (h : valT src.size [] = 0) : applyB src [] = src := by
  apply ba_ext; rw [applyB_data h]; rfl
theorem valT_nil (n : Nat) : valT n [] = 0 ↔ n ≤ 2000 := by
  rw [valT_iff]
  constructor
  · intro h; omega
  · intro h; exact ⟨by omega, by simp, trivial, by simp only [finLen]; omega⟩

theorem idn_err {src : ByteArray} {es : List Ed} (h : valT src.size es ≠ 0) : compC src [] es ≠ 0 ∧ compC src es [] = valT src.size es := by
  refine ⟨?_, by rw [compC, if_neg h]⟩
  intro hc
  obtain ⟨h1, h2, _⟩ := compC_zero hc
  rw [applyB_nil h1] at h2
  exact h h2
theorem idn_ok {src : ByteArray} {es : List Ed} (h : valT src.size es = 0) :
    compC src [] es = 0 ∧ compC src es [] = 0 ∧ compL src es [] = compL src [] es ∧ valT src.size (compL src [] es) = 0 ∧ applyB src (compL src [] es) = applyB src es := by
  obtain ⟨h1, h2, h3, h4⟩ := valT_ok4 h
  have v0 := (valT_nil src.size).2 h1
  have b0 := applyB_nil v0
  have v1 := (valT_nil (applyB src es).size).2 (applyB_le src es)
  have t1 : compT src [] es = applyT (traceL src.data.toList) es 0 := rfl
  have t2 : compT src es [] = applyT (traceL src.data.toList) es 0 := rfl
  have hcnt := canonL_count src.data.toList es (-1) 0 (by rw [size_data]; exact h3) (by omega) (by omega)
  rw [size_data, Int.natCast_zero] at hcnt
  have c1 : compC src [] es = 0 := by
    rw [compC, if_pos v0, b0, if_pos h, t1, canE, if_neg (by omega)]
  have c2 : compC src es [] = 0 := by
    rw [compC, if_pos h, if_pos v1, t2, canE, if_neg (by omega)]
  obtain ⟨_, _, k1, k2, _⟩ := comp_law c1
  rw [b0] at k2
  refine ⟨c1, c2, ?_, k1, k2⟩
  rw [(compC_zero c1).2.2.2, (compC_zero c2).2.2.2, t1, t2]

/-! ### anchors -/
theorem valLoop_of_ok {n : Int} {es : List Ed} : ∀ {p : Int}, OkFrom n es p → valLoop es p = 0 := by
  induction es with
  | nil => intro p _; rfl
  | cons x xs ih =>
    intro p h
    obtain ⟨h1, h2, h3, h4⟩ := h
    unfold valLoop
    rw [if_neg (by omega)]
    exact ih h4
theorem valA_of_val {n : Int} {es : List Ed} (h : valT n es = 0) : valA es = 0 := by
  obtain ⟨h1, h2, h3, h4⟩ := (valT_iff _ _).1 h
  unfold valA
  rw [if_neg (by omega)]
  exact valLoop_of_ok h3
theorem mapOffI_hi {n : Int} (es : List Ed) (off : Int) (r : Bool) : ∀ (p sh : Int), OkFrom n es p → p ≤ off → off ≤ n → mapOffI es off r sh ≤ finLen es (n + sh) := by
  induction es with
  | nil => intro p sh _ _ h; simp only [mapOffI, finLen]; omega
  | cons x xs ih =>
    intro p sh h hp ho
    obtain ⟨h1, h2, h3, h4⟩ := h
    simp only [mapOffI, finLen]
    have hlow := finLen_low xs x.e (sh + (x.t.size - (x.e - x.s))) h4 h3
    rw [Int.add_assoc n sh]
    by_cases hc : x.e < off ∨ (x.e = off ∧ (x.s < off ∨ r = true))
    · rw [if_pos hc]; exact ih x.e _ h4 (by omega) ho
    · rw [if_neg hc]; split
      · omega
      · split <;> omega

/-- off is touched by no edit -/
def Untouched (es : List Ed) (off : Int) : Prop := ∀ x ∈ es, ¬ (x.s ≤ off ∧ off ≤ x.e)
theorem mapOffI_strict (es : List Ed) (off : Int) (r : Bool) : ∀ (p sh : Int), valLoop es p = 0 → p < off → Untouched es off → p + sh < mapOffI es off r sh := by
  induction es with
  | nil => intro p sh _ h _; simp only [mapOffI]; omega
  | cons x xs ih =>
    intro p sh hv h hu
    have hx := hu x (by simp)
    unfold valLoop at hv
    by_cases hb : x.s ≤ p ∨ x.e < x.s
    · rw [if_pos hb] at hv; omega
    · rw [if_neg hb] at hv
      simp only [mapOffI]
      by_cases he : x.e < off
      · rw [if_pos (.inl he)]
        have := ih x.e (sh + (x.t.size - (x.e - x.s))) hv he (fun y hy => hu y (by simp [hy]))
        omega
      · rw [if_neg (by omega), if_neg (by omega), if_neg (by omega)]
        omega
theorem mapOffI_inv (src : ByteArray) (es : List Ed) (off : Int) (r : Bool) : ∀ (p sh : Int), OkFrom src.size es p → -1 ≤ p → p ≤ off → Untouched es off → mapOffI (invL src es sh) (mapOffI es off r sh) r (-sh) = off := by
  induction es with
  | nil => intro p sh _ _ _ _; simp only [invL, mapOffI]; omega
  | cons x xs ih =>
    intro p sh h h0 hp hu
    have hx := hu x (by simp)
    obtain ⟨h1, h2, h3, h4⟩ := h
    have hsz := ext_size src (a := x.s) (b := x.e) (by omega) h2 h3
    simp only [invL]
    by_cases he : x.e < off
    · have hst := mapOffI_strict xs off r x.e (sh + (x.t.size - (x.e - x.s))) (valLoop_of_ok h4) he (fun y hy => hu y (by simp [hy]))
      have hi := ih x.e (sh + (x.t.size - (x.e - x.s))) h4 (by omega) (by omega) (fun y hy => hu y (by simp [hy]))
      have e1 : mapOffI (x :: xs) off r sh = mapOffI xs off r (sh + (x.t.size - (x.e - x.s))) := by rw [mapOffI, if_pos (.inl he)]
      rw [e1]
      generalize mapOffI xs off r (sh + (x.t.size - (x.e - x.s))) = m at *
      simp only [mapOffI]
      rw [if_pos (by omega), hsz, show -sh + (x.e - x.s - (x.s + sh + (x.t.size : Int) - (x.s + sh))) = -(sh + (x.t.size - (x.e - x.s))) from by omega]
      exact hi
    · have e1 : mapOffI (x :: xs) off r sh = off + sh := by rw [mapOffI, if_neg (by omega), if_neg (by omega), if_neg (by omega)]
      rw [e1]
      simp only [mapOffI]
      rw [if_neg (by omega), if_neg (by omega), if_neg (by omega)]
      omega

theorem anchor_inv_law {src : ByteArray} {es : List Ed} {off : Int} (r : Bool) (h : valT src.size es = 0) (hs : Short es) (h0 : 0 ≤ off) (h1 : off ≤ src.size) (hu : Untouched es off) (hs' : Short (invE src es)) :
    mapE (invE src es) (mapP es off r) = 0 ∧ mapP (invE src es) (mapP es off r) r = off := by
  obtain ⟨v1, v2, v3⟩ := inv_law h
  obtain ⟨g1, g2, g3, g4⟩ := valT_ok4 h
  have hp := (mapP_ok (valA_of_val h) h0 (by omega) hs r).1
  have hlo := mapOffI_low es off r (-1) 0 (valLoop_of_ok g3) (by omega)
  have hhi := mapOffI_hi es off r (-1) 0 g3 (by omega) h1
  rw [Int.add_zero] at hhi
  have hst := mapOffI_strict es off r (-1) 0 (valLoop_of_ok g3) (by omega) hu
  have hi := mapOffI_inv src es off r (-1) 0 g3 (by omega) (by omega) hu
  rw [hp]
  obtain ⟨k1, k2⟩ := mapP_ok (valA_of_val v1) (off := mapOffI es off r 0) (by omega) (by omega) hs' r
  refine ⟨k2, ?_⟩
  rw [k1, invE, if_pos h]
  exact hi

/-- where a retained byte lies -/
theorem map_retained {n : Int} (es : List Ed) (k : Nat) : ∀ (bs : List TB) (p sh : Int) (o : Nat), OkFrom n es p → (o : Int) ≤ p + 1 → p ≤ k → o ≤ k → k < bs.length → delB es k = false →
    (o + sh ≤ mapOffI es k true sh) ∧ (applyT bs es o)[(mapOffI es k true sh - (o + sh)).toNat]? = bs[k]? ∧ mapOffI es (k + 1) false sh = mapOffI es k true sh + 1 := by
  induction es with
  | nil =>
    intro bs p sh o _ _ _ hok hk _
    simp only [mapOffI, applyT]
    refine ⟨by omega, ?_, by omega⟩
    rw [List.getElem?_drop, show o + ((k : Int) + sh - (o + sh)).toNat = k from by omega]
  | cons x xs ih =>
    intro bs p sh o h ho hp hok hk hd
    obtain ⟨h1, h2, h3, h4⟩ := h
    simp only [delB, List.any_cons, Bool.or_eq_false_iff, Bool.and_eq_false_imp, decide_eq_true_eq, decide_eq_false_iff_not] at hd
    obtain ⟨hd1, hd2⟩ := hd
    by_cases he : x.e ≤ k
    · obtain ⟨i1, i2, i3⟩ := ih bs x.e (sh + (x.t.size - (x.e - x.s))) x.e.toNat h4 (by omega) he (by omega) hk hd2
      have e1 : mapOffI (x :: xs) k true sh = mapOffI xs k true (sh + (x.t.size - (x.e - x.s))) := by rw [mapOffI, if_pos (by simp; omega)]
      have e2 : mapOffI (x :: xs) (k + 1) false sh = mapOffI xs (k + 1) false (sh + (x.t.size - (x.e - x.s))) := by rw [mapOffI, if_pos (by simp; omega)]
      rw [e1, e2]
      generalize mapOffI xs k true (sh + (x.t.size - (x.e - x.s))) = m at *
      refine ⟨by omega, ?_, i3⟩
      simp only [applyT]
      have hlen : ((bs.drop o).take (x.s.toNat - o) ++ ins x.t.data.toList).length = x.s.toNat - o + x.t.size := by
        have htl : x.t.data.toList.length = x.t.size := by rw [Array.length_toList]; rfl
        rw [List.length_append, List.length_take, List.length_drop, ins, List.length_map, htl]
        have : x.s.toNat - o ≤ bs.length - o := by omega
        rw [Nat.min_eq_left this]
      rw [List.getElem?_append_right (by rw [hlen]; omega), hlen, ← i2]
      congr 1
      omega
    · have hs : (k : Int) < x.s := by
        by_cases hle : x.s ≤ k
        · have := hd1 hle; omega
        · omega
      have e1 : mapOffI (x :: xs) k true sh = k + sh := by rw [mapOffI, if_neg (by simp; omega), if_neg (by simp; omega), if_neg (by omega)]
      have e2 : mapOffI (x :: xs) (k + 1) false sh = k + 1 + sh := by rw [mapOffI, if_neg (by simp; omega), if_neg (by simp), if_neg (by omega)]
      rw [e1, e2]
      refine ⟨by omega, ?_, by omega⟩
      simp only [applyT]
      rw [List.append_assoc, List.getElem?_append_left (by rw [List.length_take, List.length_drop]; omega), List.getElem?_take_of_lt (by omega), List.getElem?_drop]
      congr 1
      omega
end Go.Proofs.Ytbnoejdhachhhaa
