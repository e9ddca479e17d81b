/-
  fuzzy.startsWord, fuzzy.points: the walks.
-/
import Derived.Test.YtbnoejdhachhhabInts
namespace Go.Proofs.Ytbnoejdhachhhab
open Go.RowKit
set_option linter.unusedVariables false

/-- a word starts at k -/
def starts (l : ByteArray) (k : Nat) : Bool := k == 0 || (l.data.toList.getD (k - 1) 0).toNat == 95 || (upB (l.data.toList.getD k 0) && !upB (l.data.toList.getD (k - 1) 0))
theorem getD_at (s : ByteArray) (k : Nat) (h : k < s.data.size) : s.data.toList.getD k 0 = s.data[k] := by
  rw [List.getD_eq_getElem?_getD, List.getElem?_eq_getElem (by rw [Array.length_toList]; exact h)]; simp

set_option maxHeartbeats 400000 in
theorem starts_any (s : ByteArray) (k : Nat) (hk : k < s.size) (hs : s.size ≤ maxLen) (w : World) : Calls Try.prog 31 #[.string s, .int .i64 k] w fun e w' => e = .returned (.bool (starts s k)) ∧ w' = w := by
  unfold maxLen at hs
  by_cases h0 : k = 0
  · subst h0
    have H : Hid (starts s 0 = true) := by unfold Hid; simp [starts]
    go_enter Try.func31, Try.ntmps31
    go_wp2_with fail
    go_ret
    exact ⟨by rw [H.out]; rfl, rfl⟩
  · have hk0 : ((k : Int) == 0) = false := beq_eq_false_iff_ne.2 (by omega)
    have hk3 : k < s.data.size := hk
    obtain ⟨j, hj⟩ : ∃ j, j = k - 1 := ⟨_, rfl⟩
    have hj4 : j < s.data.size := by omega
    have hjs : j < s.size := hj4
    have HS : Hid (starts s k = ((s[j].toNat == 95) || (upB s[k] && !upB s[j]))) := by
      unfold Hid starts
      rw [← hj, getD_at s k hk3, getD_at s j hj4, show (k == 0) = false from beq_eq_false_iff_ne.2 h0]
      rfl
    have hw : IntKind.i64.wrap ((k : Int) - 1) = (j : Int) := by rw [IntWalk.i64_in _ (by omega)]; omega
    have hsub : (k : Int) - 1 = (j : Int) := by omega
    clear hj h0
    by_cases h1 : (s[j].toNat == 95) = true
    · have i1 : ((s[j].toNat : Int) == 95) = true := by simp at h1 ⊢; omega
      have H : Hid (starts s k = true) := by unfold Hid; rw [HS.out, h1]; rfl
      clear h1 HS
      go_enter Try.func31, Try.ntmps31
      go_wp2_with fail
      go_ret
      exact ⟨by rw [H.out]; rfl, rfl⟩
    · have i1 : ((s[j].toNat : Int) == 95) = false := by simp at h1 ⊢; omega
      have HS2 : Hid (starts s k = (upB s[k] && !upB s[j])) := by unfold Hid; rw [HS.out, show (s[j].toNat == 95) = false by simpa using h1]; rfl
      clear h1 HS
      have HU := Lib.hid (fun (b : UInt8) (u : World) => up_any b u)
      go_enter Try.func31, Try.ntmps31
      go_wp2_with fail
      refine (up_any s[k] _).mono ?_
      rintro e w1 ⟨rfl, rfl⟩
      cases hu : upB s[k]
      · have H : Hid (starts s k = false) := by unfold Hid; rw [HS2.out, hu]; rfl
        go_wp2_with fail
        go_ret
        exact ⟨by rw [H.out]; rfl, rfl⟩
      · have H : Hid (starts s k = !upB s[j]) := by unfold Hid; rw [HS2.out, hu]; rfl
        go_wp2_with fail
        refine (up_any s[j] _).mono ?_
        rintro e w1 ⟨rfl, rfl⟩
        go_wp2_with fail
        go_ret
        exact ⟨by rw [H.out]; rfl, rfl⟩

/-- fuzzy.points -/
def ptsN (b : UInt8) (s : ByteArray) (k : Nat) : Int := 1 + (if b = s.data.toList.getD k 0 then 1 else 0) + (if starts s k then 4 else 0)
set_option maxHeartbeats 400000 in
theorem points_any (b : UInt8) (s : ByteArray) (k : Nat) (hk : k < s.size) (hs : s.size ≤ maxLen) (w : World) : Calls Try.prog 24 #[.int .u8 b.toNat, .string s, .int .i64 k] w fun e w' => e = .returned (.int .i64 (ptsN b s k)) ∧ w' = w := by
  have hk3 : k < s.data.size := hk
  have HS : Hid (ptsN b s k = 1 + (if b = s[k] then 1 else 0) + (if starts s k then 4 else 0)) := by unfold Hid ptsN; rw [getD_at s k hk3]; rfl
  have hst := fun u => starts_any s k hk hs u
  unfold maxLen at hs
  by_cases h1 : b = s[k]
  · have i1 : ((b.toNat : Int) == (s[k].toNat : Int)) = true := by rw [← h1]; simp
    have HS2 : Hid (ptsN b s k = 2 + (if starts s k then 4 else 0)) := by unfold Hid; rw [HS.out, if_pos h1]; rfl
    clear HS h1
    go_enter Try.func24, Try.ntmps24
    go_wp2_with fail
    refine (hst _).mono ?_
    rintro e w1 ⟨rfl, rfl⟩
    cases hu : starts s k
    · have H : Hid (ptsN b s k = 2) := by unfold Hid; rw [HS2.out, hu]; rfl
      go_wp2_with fail
      go_ret
      exact ⟨by rw [H.out]; rfl, rfl⟩
    · have H : Hid (ptsN b s k = 6) := by unfold Hid; rw [HS2.out, hu]; rfl
      go_wp2_with fail
      go_ret
      exact ⟨by rw [H.out]; rfl, rfl⟩
  · have i1 : ((b.toNat : Int) == (s[k].toNat : Int)) = false := beq_eq_false_iff_ne.2 (fun q => h1 (UInt8.toNat_inj.1 (by omega)))
    have HS2 : Hid (ptsN b s k = 1 + (if starts s k then 4 else 0)) := by unfold Hid; rw [HS.out, if_neg h1]; rfl
    clear HS h1
    go_enter Try.func24, Try.ntmps24
    go_wp2_with fail
    refine (hst _).mono ?_
    rintro e w1 ⟨rfl, rfl⟩
    cases hu : starts s k
    · have H : Hid (ptsN b s k = 1) := by unfold Hid; rw [HS2.out, hu]; rfl
      go_wp2_with fail
      go_ret
      exact ⟨by rw [H.out]; rfl, rfl⟩
    · have H : Hid (ptsN b s k = 5) := by unfold Hid; rw [HS2.out, hu]; rfl
      go_wp2_with fail
      go_ret
      exact ⟨by rw [H.out]; rfl, rfl⟩
end Go.Proofs.Ytbnoejdhachhhab
