/-
  anchor.Map, MapRange, MapAll, glossatorref4.EqualInts: the walks.
-/
import Derived.Test.YtbnoejdhachhhaaValA
namespace Go.Proofs.Ytbnoejdhachhhaa
open Go.RowKit

def mapP (es : List Ed) (off : Int) (r : Bool) : Int := if valA es = 0 then (if off < 0 then 0 else mapOffW es off r 0) else 0
def mapE (es : List Ed) (off : Int) : Int := if valA es = 0 then (if off < 0 then 1 else 0) else valA es

theorem valLoop_vals (es : List Ed) (p : Int) : valLoop es p = 0 ∨ valLoop es p = 3 := by
  induction es generalizing p with
  | nil => exact .inl rfl
  | cons x xs ih => unfold valLoop; split; exact .inr rfl; exact ih _
theorem valA_vals (es : List Ed) : valA es = 0 ∨ valA es = 2 ∨ valA es = 3 := by
  unfold valA; split
  · exact .inr (.inl rfl)
  · rcases valLoop_vals es (-1) with h | h <;> simp [h]
theorem valA_len {es : List Ed} (h : valA es = 0) : es.length ≤ 50 := by
  unfold valA at h; split at h <;> omega

set_option maxHeartbeats 400000 in
theorem map_any (A : Option Addr) (c : Nat) (es : List Ed) (off : Int) (r : Bool) (w : World) (h : EdsAt w w.heap.size A es) (hm : es.length ≤ maxLen) :
    Calls Try.prog 14 #[.slice A es.length c, .int .i64 off, .bool r] w fun e w' => e = .returned (.tuple #[.int .i64 (mapP es off r), .int .i64 (mapE es off)]) ∧ Below w.heap.size w w' := by
  by_cases hv : valA es = 0
  · have h1 : (valA es == 0) = true := by simp [hv]
    have h2 : (valA es != 0) = false := by simp [hv]
    have hl := valA_len hv
    by_cases ho : off < 0
    · have HP : Hid (mapP es off r = 0 ∧ mapE es off = 1) := by unfold Hid; simp [mapP, mapE, hv, ho]
      clear hv
      go_enter Try.func14, Try.ntmps14
      go_wp2_with (go_at_call 26; refine (valA_any _ _ _ _ h hm).mono ?_; rintro e w1 ⟨rfl, hb1⟩)
      go_ret2
      exact ⟨by rw [HP.out.1, HP.out.2]; rfl, hb1⟩
    · have HP : Hid (mapP es off r = mapOffW es off r 0 ∧ mapE es off = 0) := by unfold Hid; simp [mapP, mapE, hv, ho]
      have HV := Lib.hid hv
      clear hv
      go_enter Try.func14, Try.ntmps14
      go_wp2_with (first | (go_at_call 26; refine (valA_any _ _ _ _ h hm).mono ?_; rintro e w1 ⟨rfl, hb1⟩) | (go_at_call 27; refine (mapOff_any _ _ _ _ _ _ ((h.below hb1).more hb1.size) hl).mono ?_; rintro e w2 ⟨rfl, hb2⟩))
      go_ret2
      exact ⟨by rw [HP.out.1, HP.out.2]; rfl, hb1.trans (hb2.mono hb1.size)⟩
  · have h1 : (valA es == 0) = false := by simp [hv]
    have h2 : (valA es != 0) = true := by simp [hv]
    have HP : Hid (mapP es off r = 0 ∧ mapE es off = valA es) := by unfold Hid; simp [mapP, mapE, hv]
    clear hv
    go_enter Try.func14, Try.ntmps14
    go_wp2_with (go_at_call 26; refine (valA_any _ _ _ _ h hm).mono ?_; rintro e w1 ⟨rfl, hb1⟩)
    go_ret2
    exact ⟨by rw [HP.out.1, HP.out.2]; rfl, hb1⟩
end Go.Proofs.Ytbnoejdhachhhaa
