/-
  THE PLAIN LAWS of Invert. No Go.
-/
import Derived.Test.YtbnoejdhachhhaaComp
import Derived.Test.YtbnoejdhachhhaaAnLaw
namespace Go.Proofs.Ytbnoejdhachhhaa
open Go.RowKit

theorem OkFrom.weaken {n : Int} {es : List Ed} {p q : Int} (h : OkFrom n es p) (hq : q ≤ p) : OkFrom n es q := by
  cases es with
  | nil => trivial
  | cons x xs => exact ⟨by have := h.1; omega, h.2⟩
theorem finLen_add (es : List Ed) : ∀ (a b : Int), finLen es (a + b) = finLen es a + b := by
  induction es with
  | nil => intro a b; rfl
  | cons y ys ih =>
    intro a b
    simp only [finLen]
    rw [show a + b + (y.t.size - (y.e - y.s)) = (a + (y.t.size - (y.e - y.s))) + b from by omega]
    exact ih _ _
theorem finLen_low {n : Int} (es : List Ed) : ∀ (p sh : Int), OkFrom n es p → p ≤ n → p + sh ≤ finLen es (n + sh) := by
  induction es with
  | nil => intro p sh _ h; simp only [finLen]; omega
  | cons x xs ih =>
    intro p sh h hp
    obtain ⟨h1, h2, h3, h4⟩ := h
    have := ih x.e (sh + (x.t.size - (x.e - x.s))) h4 h3
    simp only [finLen]
    rw [Int.add_assoc]
    omega
theorem ext_size (src : ByteArray) {a b : Int} (h0 : 0 ≤ a) (h1 : a ≤ b) (h2 : b ≤ src.size) : ((src.extract a.toNat b.toNat).size : Int) = b - a := by
  rw [ByteArray.size_extract]; omega
theorem invL_length (src : ByteArray) (es : List Ed) : ∀ sh, (invL src es sh).length = es.length := by
  induction es with
  | nil => intro sh; rfl
  | cons x xs ih => intro sh; simp [invL, ih]
theorem invL_finLen (src : ByteArray) (es : List Ed) : ∀ (p sh : Int), OkFrom src.size es p → -1 ≤ p → finLen (invL src es sh) (finLen es 0) = 0 := by
  induction es with
  | nil => intro p sh _ _; rfl
  | cons x xs ih =>
    intro p sh h hp
    obtain ⟨h1, h2, h3, h4⟩ := h
    have := ih x.e (sh + (x.t.size - (x.e - x.s))) h4 (by omega)
    simp only [finLen, invL, finLen_add]
    rw [ext_size src (by omega) h2 h3, this]
    omega
theorem invL_ok (src : ByteArray) (es : List Ed) : ∀ (p sh : Int), OkFrom src.size es p → p ≤ src.size → OkFrom (finLen es (src.size + sh)) (invL src es sh) (p + sh) := by
  induction es with
  | nil => intro p sh _ _; trivial
  | cons x xs ih =>
    intro p sh h hp
    obtain ⟨h1, h2, h3, h4⟩ := h
    have := ih x.e (sh + (x.t.size - (x.e - x.s))) h4 h3
    have hl := finLen_low xs x.e (sh + (x.t.size - (x.e - x.s))) h4 h3
    simp only [finLen, invL, OkFrom]
    rw [Int.add_assoc (src.size : Int) sh]
    refine ⟨by omega, by omega, by omega, ?_⟩
    rw [show x.s + sh + (x.t.size : Int) = x.e + (sh + (x.t.size - (x.e - x.s))) from by omega]
    exact this

theorem ext_list (src : ByteArray) (a b : Nat) : (src.extract a b).data.toList = (src.data.toList.drop a).take (b - a) := by
  rw [Lib.extract_data]

/-- the pieces of Apply's bytes -/
theorem applyL_cons (l : List UInt8) (x : Ed) (xs : List Ed) (off : Nat) : applyL l (x :: xs) off = (l.drop off).take (x.s.toNat - off) ++ (x.t.data.toList ++ applyL l xs x.e.toNat) := by rw [applyL, List.append_assoc]
theorem take_len (l : List UInt8) (off k : Nat) (h : off + k ≤ l.length) : ((l.drop off).take k).length = k := by rw [List.length_take, List.length_drop]; omega

theorem invL_apply (src : ByteArray) (R : List UInt8) (es : List Ed) : ∀ (p sh : Int) (off o' : Nat), OkFrom src.size es p → (off : Int) ≤ p + 1 → off ≤ src.size → (o' : Int) = off + sh → R.drop o' = applyL src.data.toList es off →
    applyL R (invL src es sh) o' = src.data.toList.drop off := by
  induction es with
  | nil => intro p sh off o' _ _ _ _ h; simp only [invL, applyL] at *; exact h
  | cons x xs ih =>
    intro p sh off o' h hp hn ho hR
    obtain ⟨h1, h2, h3, h4⟩ := h
    have hlen := size_data src
    obtain ⟨s, hs⟩ : ∃ s : Nat, x.s = s := ⟨x.s.toNat, by omega⟩
    obtain ⟨e, he⟩ : ∃ e : Nat, x.e = e := ⟨x.e.toNat, by omega⟩
    have hs' : x.s.toNat = s := by omega
    have he' : x.e.toNat = e := by omega
    rw [applyL_cons, hs', he'] at hR
    have ht := take_len src.data.toList off (s - off) (by omega)
    have e1 : R.drop (o' + (s - off)) = x.t.data.toList ++ applyL src.data.toList xs e := by
      rw [← List.drop_drop, hR, List.drop_left' ht]
    have e2 : R.drop (o' + (s - off) + x.t.size) = applyL src.data.toList xs e := by
      rw [← List.drop_drop, e1, List.drop_left' (by rw [Array.length_toList]; rfl)]
    simp only [invL]
    rw [applyL_cons, ih x.e _ e (x.s + sh + x.t.size).toNat h4 (by omega) (by omega) (by omega) (by rw [show (x.s + sh + (x.t.size : Int)).toNat = o' + (s - off) + x.t.size from by omega]; exact e2)]
    simp only []
    rw [ext_list, hs', he', show (x.s + sh).toNat - o' = s - off from by omega, hR, List.take_left' ht]
    rw [show src.data.toList.drop off = (src.data.toList.drop off).take (s - off) ++ src.data.toList.drop s from by
      rw [show s = off + (s - off) from by omega, ← List.drop_drop, show off + (s - off) - off = s - off from by omega, List.take_append_drop]]
    rw [show src.data.toList.drop s = (src.data.toList.drop s).take (e - s) ++ src.data.toList.drop e from by
      rw [show e = s + (e - s) from by omega, ← List.drop_drop, show s + (e - s) - s = e - s from by omega, List.take_append_drop]]
    rw [List.take_left' (by rw [take_len _ _ _ (by omega)]), List.take_left' (by rw [take_len _ _ _ (by omega)])]

theorem ba_ext {a b : ByteArray} (h : a.data.toList = b.data.toList) : a = b := by
  cases a; cases b; simp only at h; rw [Array.toList_inj] at h; rw [h]

theorem invL_inv (src R : ByteArray) (es : List Ed) : ∀ (p sh : Int) (off o' : Nat), OkFrom src.size es p → (off : Int) ≤ p + 1 → off ≤ src.size → (o' : Int) = off + sh → R.data.toList.drop o' = applyL src.data.toList es off →
    invL R (invL src es sh) (-sh) = es := by
  induction es with
  | nil => intros; rfl
  | cons x xs ih =>
    intro p sh off o' h hp hn ho hR
    obtain ⟨h1, h2, h3, h4⟩ := h
    have hlen := size_data src
    obtain ⟨s, hs⟩ : ∃ s : Nat, x.s = s := ⟨x.s.toNat, by omega⟩
    obtain ⟨e, he⟩ : ∃ e : Nat, x.e = e := ⟨x.e.toNat, by omega⟩
    have hs' : x.s.toNat = s := by omega
    have he' : x.e.toNat = e := by omega
    rw [applyL_cons, hs', he'] at hR
    have ht := take_len src.data.toList off (s - off) (by omega)
    have htl : x.t.data.toList.length = x.t.size := by rw [Array.length_toList]; rfl
    have e1 : R.data.toList.drop (o' + (s - off)) = x.t.data.toList ++ applyL src.data.toList xs e := by
      rw [← List.drop_drop, hR, List.drop_left' ht]
    have e2 : R.data.toList.drop (o' + (s - off) + x.t.size) = applyL src.data.toList xs e := by
      rw [← List.drop_drop, e1, List.drop_left' htl]
    have hx := ext_size src (a := x.s) (b := x.e) (by omega) h2 h3
    have hT : R.extract (x.s + sh).toNat (x.s + sh + x.t.size).toNat = x.t := by
      apply ba_ext
      rw [ext_list, show (x.s + sh).toNat = o' + (s - off) from by omega, e1, List.take_left' (by rw [htl]; omega)]
    have hI := ih x.e (sh + (x.t.size - (x.e - x.s))) e (o' + (s - off) + x.t.size) h4 (by omega) (by omega) (by omega) e2
    simp only [invL]
    rw [hT, hx, show x.s + sh + -sh = x.s from by omega, show x.s + (x.e - x.s) = x.e from by omega,
      show -sh + (x.e - x.s - (x.s + sh + (x.t.size : Int) - (x.s + sh))) = -(sh + (x.t.size - (x.e - x.s))) from by omega, hI]

theorem valT_ok4 {src : ByteArray} {es : List Ed} (h : valT src.size es = 0) : src.size ≤ 2000 ∧ es.length ≤ 50 ∧ OkFrom src.size es (-1) ∧ finLen es src.size ≤ 2000 := by
  obtain ⟨h1, h2, h3, h4⟩ := (valT_iff _ _).1 h
  exact ⟨by omega, h2, h3, h4⟩
theorem applyB_size' {src : ByteArray} {es : List Ed} (h : valT src.size es = 0) : ((applyB src es).size : Int) = finLen es src.size := by
  obtain ⟨h1, h2, h3, h4⟩ := valT_ok4 h
  have := applyL_length src.data.toList es (-1) 0 (by rw [size_data]; exact h3) (by omega) (by omega)
  rw [size_data, Int.natCast_zero, Int.sub_zero] at this
  rw [applyB_size h, this]

theorem inv_law {src : ByteArray} {es : List Ed} (h : valT src.size es = 0) :
    valT (applyB src es).size (invE src es) = 0 ∧ applyB (applyB src es) (invE src es) = src ∧ invE (applyB src es) (invE src es) = es := by
  obtain ⟨h1, h2, h3, h4⟩ := valT_ok4 h
  have hi : invE src es = invL src es 0 := by rw [invE, if_pos h]
  have hsz := applyB_size' h
  have hok := invL_ok src es (-1) 0 h3 (by omega)
  rw [Int.add_zero, ← hsz, Int.add_zero] at hok
  have hfin : finLen (invL src es 0) (applyB src es).size = src.size := by
    rw [hsz, show (src.size : Int) = 0 + src.size from by omega, finLen_add es, finLen_add, invL_finLen src es (-1) 0 h3 (by omega)]
  have hv : valT (applyB src es).size (invL src es 0) = 0 := by
    rw [valT_iff]
    refine ⟨by have := applyB_small h; omega, by rw [invL_length]; exact h2, hok, by rw [hfin]; omega⟩
  have hR : (applyB src es).data.toList.drop 0 = applyL src.data.toList es 0 := by rw [applyB_data h]; rfl
  rw [hi]
  refine ⟨hv, ?_, ?_⟩
  · apply ba_ext
    rw [applyB_data hv]
    have := invL_apply src (applyB src es).data.toList es (-1) 0 0 0 h3 (by omega) (by omega) (by omega) hR
    rw [this]; rfl
  · rw [invE, if_pos hv]
    have := invL_inv src (applyB src es) es (-1) 0 0 0 h3 (by omega) (by omega) (by omega) hR
    exact this

theorem invE_short (src : ByteArray) (es : List Ed) (h : src.size ≤ 140737488351232) : Short (invE src es) := by
  have : ∀ (es : List Ed) (sh : Int), Short (invL src es sh) := by
    intro es
    induction es with
    | nil => intro sh x hx; cases hx
    | cons y ys ih =>
      intro sh x hx
      simp only [invL, List.mem_cons] at hx
      rcases hx with rfl | hx
      · simp only; rw [ByteArray.size_extract]; omega
      · exact ih _ x hx
  unfold invE
  split
  · exact this _ _
  · intro x hx; cases hx
theorem invE_short' (src : ByteArray) (es : List Ed) : Short (invE src es) := by
  by_cases h : valT src.size es = 0
  · have := (valT_ok4 h).1
    exact invE_short src es (by omega)
  · rw [invE, if_neg h]; intro x hx; cases hx
end Go.Proofs.Ytbnoejdhachhhaa
