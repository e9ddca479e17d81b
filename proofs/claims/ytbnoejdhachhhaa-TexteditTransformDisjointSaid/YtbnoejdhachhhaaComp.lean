/-
  textedit.Apply, Invert, canonical in one form; textedit.Compose: the walk.
-/
import Derived.Test.YtbnoejdhachhhaaPl
namespace Go.Proofs.Ytbnoejdhachhhaa
open Go.RowKit

/-- textedit.Apply's string -/
def applyB (src : ByteArray) (es : List Ed) : ByteArray := if valT src.size es = 0 then ⟨(applyL src.data.toList es 0).toArray⟩ else ⟨#[]⟩
theorem apply_any (src : ByteArray) (A : Option Addr) (c : Nat) (es : List Ed) (w : World) (h : EdsAt w w.heap.size A es) (hm : es.length ≤ maxLen) (hs : Short es) (hsrc : src.size ≤ maxLen) :
    Calls Try.prog 16 #[.string src, .slice A es.length c] w fun e w' => e = .returned (.tuple #[.string (applyB src es), .int .i64 (valT src.size es)]) ∧ Below w.heap.size w w' := by
  by_cases hv : valT src.size es = 0
  · refine (apply_ok src A c es w h hm hs hsrc hv).mono fun e w' ⟨he, hb⟩ => ⟨?_, hb⟩
    rw [he, hv, applyB, if_pos hv]
  · refine (apply_err src A c es w h hm hs hsrc hv).mono fun e w' ⟨he, hb⟩ => ⟨?_, hb⟩
    rw [he, applyB, if_neg hv]

/-- textedit.Invert's list -/
def invE (src : ByteArray) (es : List Ed) : List Ed := if valT src.size es = 0 then invL src es 0 else []
theorem inv_any (src : ByteArray) (A : Option Addr) (c : Nat) (es : List Ed) (w : World) (h : EdsAt w w.heap.size A es) (hm : es.length ≤ maxLen) (hs : Short es) (hsrc : src.size ≤ maxLen) :
    Calls Try.prog 15 #[.string src, .slice A es.length c] w fun e w' => ∃ A' c', e = .returned (.tuple #[.slice A' (invE src es).length c', .int .i64 (valT src.size es)]) ∧ EdsAt w' w'.heap.size A' (invE src es) ∧ Below w.heap.size w w' := by
  by_cases hv : valT src.size es = 0
  · refine (inv_ok src A c es w h hm hs hsrc hv).mono fun e w' ⟨A', c', he, hE, hb⟩ => ⟨A', c', ?_, ?_, hb⟩
    · rw [he, hv, invE, if_pos hv]
    · rw [invE, if_pos hv]; exact hE
  · refine (inv_err src A c es w h hm hs hsrc hv).mono fun e w' ⟨he, hb⟩ => ⟨none, 0, ?_, ?_, hb⟩
    · rw [he, invE, if_neg hv]; rfl
    · rw [invE, if_neg hv]; intro h; simp at h

/-- canonical's code and list -/
def canE (L : List Ed) : Int := if 50 < L.length then 2 else 0
def canR (L : List Ed) : List Ed := if 50 < L.length then [] else L
theorem canon_any (n : Int) (D : Option Addr) (d : Nat) (bs : List TB) (w : World) (hr : RowAt w w.heap.size D (tbCells bs)) (hO : Origins bs) (hl : bs.length ≤ 90000000) (hn0 : 0 ≤ n) (hn : n ≤ 100000000) :
    Calls Try.prog 30 #[.int .i64 n, .slice D bs.length d] w fun e w' => ∃ A c, e = .returned (.tuple #[.slice A (canR (canonL n bs 0 [])).length c, .int .i64 (canE (canonL n bs 0 []))]) ∧ EdsAt w' w'.heap.size A (canR (canonL n bs 0 [])) ∧ Below w.heap.size w w' := by
  refine (canon_core n D d bs w hr hO hl hn0 hn).mono fun e w' h => ?_
  obtain ⟨h1, h2⟩ := h
  unfold canR canE
  by_cases h50 : 50 < (canonL n bs 0 []).length
  · rw [if_pos h50] at h1
    rw [if_pos h50, if_pos h50]
    exact ⟨none, 0, h1, fun h => by simp at h, h2⟩
  · rw [if_neg h50] at h1
    rw [if_neg h50, if_neg h50]
    obtain ⟨A, c, h1, h3⟩ := h1
    exact ⟨A, c, h1, h3, h2⟩

theorem applyB_size {src : ByteArray} {es : List Ed} (h : valT src.size es = 0) : (applyB src es).size = (applyL src.data.toList es 0).length := by
  rw [applyB, if_pos h]
  show (applyL src.data.toList es 0).toArray.size = _
  simp
theorem applyB_data {src : ByteArray} {es : List Ed} (h : valT src.size es = 0) : (applyB src es).data.toList = applyL src.data.toList es 0 := by rw [applyB, if_pos h]
theorem size_data (s : ByteArray) : s.data.toList.length = s.size := by rw [Array.length_toList]; rfl
theorem applyB_small {src : ByteArray} {es : List Ed} (h : valT src.size es = 0) : (applyB src es).size ≤ 2000 := by
  rw [applyB_size h]
  obtain ⟨h1, h2, h3, h4⟩ := (valT_iff _ _).1 h
  have := applyL_length src.data.toList es (-1) 0 (by rw [size_data]; exact h3) (by omega) (by omega)
  rw [size_data, Int.natCast_zero, Int.sub_zero] at this
  omega
theorem applyB_le (src : ByteArray) (es : List Ed) : (applyB src es).size ≤ 2000 := by
  by_cases h : valT src.size es = 0
  · exact applyB_small h
  · rw [applyB, if_neg h]; exact Nat.zero_le _

/-- textedit.Compose: the traced bytes, the code, the list -/
def compT (src : ByteArray) (a b : List Ed) : List TB := applyT (applyT (traceL src.data.toList) a 0) b 0
def compC (src : ByteArray) (a b : List Ed) : Int :=
  if valT src.size a = 0 then (if valT (applyB src a).size b = 0 then canE (canonL src.size (compT src a b) 0 []) else valT (applyB src a).size b) else valT src.size a
def compL (src : ByteArray) (a b : List Ed) : List Ed := if compC src a b = 0 then canonL src.size (compT src a b) 0 [] else []

theorem compT_length {src : ByteArray} {a b : List Ed} (h : valT src.size a = 0) (h' : valT (applyB src a).size b = 0) : (compT src a b).length ≤ 2000 := by
  have := applyB_small h'
  rw [applyB_size h', applyB_data h] at this
  rw [compT, applyT_length, applyT_vals, traceL_vals]
  exact this

set_option maxHeartbeats 800000 in
theorem comp_any (src : ByteArray) (A D : Option Addr) (c d : Nat) (a b : List Ed) (w : World) (ha : EdsAt w w.heap.size A a) (hb : EdsAt w w.heap.size D b) (hm : a.length ≤ maxLen) (hm' : b.length ≤ maxLen) (hs : Short a) (hs' : Short b) (hsrc : src.size ≤ maxLen) :
    Calls Try.prog 18 #[.string src, .slice A a.length c, .slice D b.length d] w fun e w' => ∃ A' c', e = .returned (.tuple #[.slice A' (compL src a b).length c', .int .i64 (compC src a b)]) ∧ EdsAt w' w'.heap.size A' (compL src a b) ∧ Below w.heap.size w w' := by
  by_cases h1 : valT src.size a = 0
  · by_cases h2 : valT (applyB src a).size b = 0
    · have hl1 := applyB_small h1
      have hl2 := compT_length h1 h2
      obtain ⟨q1, q2, q3⟩ := valT_ok h1
      obtain ⟨q4, q5, q6⟩ := valT_ok h2
      have HC : Hid (compC src a b = canE (canonL src.size (compT src a b) 0 [])) := by unfold Hid compC; rw [if_pos h1, if_pos h2]
      have HL : Hid (compL src a b = canR (canonL src.size (compT src a b) 0 [])) := by
        unfold Hid compL; rw [HC.out]; unfold canE canR; split <;> simp
      have e1 : (valT src.size a == 0) = true := by simp [h1]
      have e2 : (valT (applyB src a).size b != 0) = false := by simp [h2]
      have H1 := Lib.hid h1
      have H2 := Lib.hid h2
      have HT1 := Lib.hid (applyT_trace_length src.data.toList a)
      rw [← applyB_size h1] at HT1
      have HT0 := Lib.hid ((traceL_length src.data.toList).trans (size_data src))
      clear h1 h2
      go_enter Try.func18, Try.ntmps18
      go_wp2_with fail
      refine (apply_any src A c a _ ha hm hs hsrc).mono ?_
      rintro e w1 ⟨rfl, b1⟩
      have a1 := (ha.below b1).more b1.size
      have d1 := (hb.below b1).more b1.size
      go_wp2_with fail
      refine (valT_any _ _ _ _ _ d1 hm' hs' (by unfold maxLen; omega)).mono ?_
      rintro e w2 ⟨rfl, hb2⟩
      have b2 := b1.trans (hb2.mono b1.size)
      have a2 := (a1.below hb2).more hb2.size
      have d2 := (d1.below hb2).more hb2.size
      go_wp2_with fail
      refine (trace_any _ _ (by omega)).mono ?_
      rintro e w3 ⟨D3, d3, rfl, hd3, hm3, r3, hb3⟩
      have b3 := b2.trans (hb3.mono b2.size)
      have a3 := (a2.below hb3).more hb3.size
      have dd3 := (d2.below hb3).more hb3.size
      go_wp2_with fail
      refine (applyT_any _ _ _ _ _ _ src.size _ r3 hd3 hm3 a3 q2 hs (by rw [HT0.out]; omega) (by rw [HT0.out]) (by rw [HT0.out]; exact q3)).mono ?_
      rintro e w4 ⟨D4, d4, rfl, hd4, hm4, r4, hb4⟩
      have b4 := b3.trans (hb4.mono b3.size)
      have d4' := (dd3.below hb4).more hb4.size
      go_wp2_with fail
      refine (applyT_any _ _ _ _ _ _ (applyB src a).size _ r4 hd4 hm4 d4' q5 hs' (by rw [HT1.out]; omega) (by rw [HT1.out]) (by rw [HT1.out]; exact q6)).mono ?_
      rintro e w5 ⟨D5, d5, rfl, hd5, hm5, r5, hb5⟩
      have b5 := b4.trans (hb5.mono b4.size)
      go_wp2_with fail
      refine (canon_any _ _ _ _ _ r5 (((Origins.trace _ (by rw [size_data]; omega)).apply a 0).apply b 0) (by have := hl2; unfold compT at this; omega) (by omega) (by omega)).mono ?_
      rintro e w6 ⟨A', c', rfl, hE, hb6⟩
      go_wp2_with fail
      go_ret2
      exact ⟨A', c', by rw [HL.out, HC.out]; rfl, by rw [HL.out]; exact hE, b5.trans (hb6.mono b5.size)⟩
    · have HC : Hid (compC src a b = valT (applyB src a).size b) := by unfold Hid compC; rw [if_pos h1, if_neg h2]
      have HL : Hid (compL src a b = []) := by unfold Hid compL; rw [HC.out, if_neg h2]
      have e1 : (valT src.size a == 0) = true := by simp [h1]
      have e2 : (valT (applyB src a).size b != 0) = true := by simp [h2]
      have hle := applyB_le src a
      clear h1 h2
      go_enter Try.func18, Try.ntmps18
      go_wp2_with fail
      refine (apply_any src A c a _ ha hm hs hsrc).mono ?_
      rintro e w1 ⟨rfl, b1⟩
      have d1 := (hb.below b1).more b1.size
      go_wp2_with fail
      refine (valT_any _ _ _ _ _ d1 hm' hs' (by unfold maxLen; omega)).mono ?_
      rintro e w2 ⟨rfl, hb2⟩
      go_wp2_with fail
      go_ret2
      exact ⟨none, 0, by rw [HL.out, HC.out]; rfl, by rw [HL.out]; intro h; simp at h, b1.trans (hb2.mono b1.size)⟩
  · have HC : Hid (compC src a b = valT src.size a) := by unfold Hid compC; rw [if_neg h1]
    have HL : Hid (compL src a b = []) := by unfold Hid compL; rw [HC.out, if_neg h1]
    have e1 : (valT src.size a == 0) = false := by simp [h1]
    have e2 : (valT src.size a != 0) = true := by simp [h1]
    clear h1
    go_enter Try.func18, Try.ntmps18
    go_wp2_with fail
    refine (apply_any src A c a _ ha hm hs hsrc).mono ?_
    rintro e w1 ⟨rfl, b1⟩
    go_wp2_with fail
    go_ret2
    exact ⟨none, 0, by rw [HL.out, HC.out]; rfl, by rw [HL.out]; intro h; simp at h, b1⟩
end Go.Proofs.Ytbnoejdhachhhaa
