/-
  textedit.Transform in one form.
-/
import Derived.Test.YtbnoejdhachhhaaTrf
namespace Go.Proofs.Ytbnoejdhachhhaa
open Go.RowKit

/-- textedit.Transform: the code, the two lists -/
def trfC (src : ByteArray) (a b : List Ed) : Int :=
  if valT src.size a = 0 then (if valT src.size b = 0 then (if 2000 < (trS src a b).ml.length ∨ 50 < (trL src a b).length ∨ 50 < (trR src a b).length then 2 else 0) else valT src.size b) else valT src.size a
def trfL (src : ByteArray) (a b : List Ed) : List Ed := if trfC src a b = 0 then trL src a b else []
def trfR (src : ByteArray) (a b : List Ed) : List Ed := if trfC src a b = 0 then trR src a b else []

set_option maxHeartbeats 800000 in
theorem trf_any (src : ByteArray) (A D : Option Addr) (c d : Nat) (a b : List Ed) (w : World) (ha : EdsAt w w.heap.size A a) (hb : EdsAt w w.heap.size D b) (hc : a.length ≤ c) (hd : b.length ≤ d) (hm : a.length ≤ maxLen) (hm' : b.length ≤ maxLen) (hs : Short a) (hs' : Short b) (hsrc : src.size ≤ maxLen) :
    Calls Try.prog 21 #[.string src, .slice A a.length c, .slice D b.length d] w fun e w' => ∃ A' c' D' d', e = .returned (.tuple #[.slice A' (trfL src a b).length c', .slice D' (trfR src a b).length d', .int .i64 (trfC src a b)]) ∧
      EdsAt w' w'.heap.size A' (trfL src a b) ∧ EdsAt w' w'.heap.size D' (trfR src a b) ∧ Below w.heap.size w w' := by
  by_cases h1 : valT src.size a = 0
  · by_cases h2 : valT src.size b = 0
    · have ht1 := text_le (valT_ok h1).2.2 (by omega) (by omega) (valT_ok h1).1 (by omega)
      have ht2 := text_le (valT_ok h2).2.2 (by omega) (by omega) (valT_ok h2).1 (by omega)
      refine (trf_core src A D c d a b w ha hb hc hd hm hm' hs hs' hsrc h1 h2 ht1 ht2).mono ?_
      intro e w' h
      obtain ⟨h3, h4⟩ := h
      by_cases hbig : 2000 < (trS src a b).ml.length ∨ 50 < (trL src a b).length ∨ 50 < (trR src a b).length
      · have hC : trfC src a b = 2 := by unfold trfC; rw [if_pos h1, if_pos h2, if_pos hbig]
        have hL : trfL src a b = [] := by unfold trfL; rw [hC]; rfl
        have hR : trfR src a b = [] := by unfold trfR; rw [hC]; rfl
        rw [if_pos hbig] at h3
        rw [hC, hL, hR]
        exact ⟨none, 0, none, 0, h3, fun h => by simp at h, fun h => by simp at h, h4⟩
      · have hC : trfC src a b = 0 := by unfold trfC; rw [if_pos h1, if_pos h2, if_neg hbig]
        have hL : trfL src a b = trL src a b := by unfold trfL; rw [if_pos hC]
        have hR : trfR src a b = trR src a b := by unfold trfR; rw [if_pos hC]
        rw [if_neg hbig] at h3
        obtain ⟨A', c', D', d', h5, h6, h7⟩ := h3
        rw [hC, hL, hR]
        exact ⟨A', c', D', d', h5, h6, h7, h4⟩
    · have HC : Hid (trfC src a b = valT src.size b) := by unfold Hid trfC; rw [if_pos h1, if_neg h2]
      have HL : Hid (trfL src a b = []) := by unfold Hid trfL; rw [HC.out, if_neg h2]
      have HR : Hid (trfR src a b = []) := by unfold Hid trfR; rw [HC.out, if_neg h2]
      have e1 : (valT src.size a != 0) = false := by simp [h1]
      have e2 : (valT src.size b != 0) = true := by simp [h2]
      clear h1 h2
      go_enter Try.func21, Try.ntmps21
      go_wp2_with fail
      refine (apply_any src A c a _ ha hm hs hsrc).mono ?_
      rintro e w1 ⟨rfl, b1⟩
      have d1 := (hb.below b1).more b1.size
      go_wp2_with fail
      refine (apply_any src D d b _ d1 hm' hs' hsrc).mono ?_
      rintro e w2 ⟨rfl, hb2⟩
      go_wp2_with fail
      go_ret3
      exact ⟨none, 0, none, 0, by rw [HL.out, HR.out, HC.out]; rfl, by rw [HL.out]; intro h; simp at h, by rw [HR.out]; intro h; simp at h, b1.trans (hb2.mono b1.size)⟩
  · have HC : Hid (trfC src a b = valT src.size a) := by unfold Hid trfC; rw [if_neg h1]
    have HL : Hid (trfL src a b = []) := by unfold Hid trfL; rw [HC.out, if_neg h1]
    have HR : Hid (trfR src a b = []) := by unfold Hid trfR; rw [HC.out, if_neg h1]
    have e1 : (valT src.size a != 0) = true := by simp [h1]
    clear h1
    go_enter Try.func21, Try.ntmps21
    go_wp2_with fail
    refine (apply_any src A c a _ ha hm hs hsrc).mono ?_
    rintro e w1 ⟨rfl, b1⟩
    go_wp2_with fail
    go_ret3
    exact ⟨none, 0, none, 0, by rw [HL.out, HR.out, HC.out]; rfl, by rw [HL.out]; intro h; simp at h, by rw [HR.out]; intro h; simp at h, b1⟩
end Go.Proofs.Ytbnoejdhachhhaa
