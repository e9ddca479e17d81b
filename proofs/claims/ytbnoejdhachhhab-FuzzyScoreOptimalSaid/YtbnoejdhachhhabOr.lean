/-
  cmp.Or at int: the walk.
-/
import Derived.Test.YtbnoejdhachhhabStr
namespace Go.Proofs.Ytbnoejdhachhhab
open Go.RowKit
set_option linter.unusedVariables false

/-- the first that is not 0 -/
def orL : List Int → Int
  | [] => 0
  | x :: xs => if x = 0 then orL xs else x

set_option maxHeartbeats 400000 in
theorem or_any (A : Option Addr) (c : Nat) (xs : List Int) (w : World) (h : IntsAt w w.heap.size A xs) (hm : xs.length ≤ maxLen) :
    Calls Try.prog 18 #[.slice A xs.length c] w fun e w' => e = .returned (.int .i64 (orL xs)) ∧ w' = w := by
  unfold maxLen at hm
  go_enter Try.func18, Try.ntmps18
  go_wp2_with fail
  go_loopw [8] (fun i wr => ∃ k : Nat, k ≤ xs.length ∧ i = .int .i64 k ∧ Hid (orL (xs.drop k) = orL xs) ∧ wr = w) (fun i _ => xs.length - (intOf i).toNat)
  case atStart => exact ⟨0, Nat.zero_le _, rfl, rfl, rfl⟩
  case round =>
    obtain ⟨k, hk, rfl, HV, rfl⟩ := hrel
    by_cases hlt : k < xs.length
    · obtain ⟨b, off, rfl, hbb, hc⟩ := h (by omega)
      have c1 := hc k xs[k] (List.getElem?_eq_getElem hlt)
      have HD := Lib.hid (drop_cons xs k hlt)
      clear hc h
      generalize xs[k] = x at *
      by_cases h0 : x = 0
      · have HF : Hid (orL (xs.drop (k + 1)) = orL xs) := by unfold Hid; rw [← HV.out, HD.out, orL, if_pos h0]
        subst h0
        go_wp2
        go_roundw
        case rel => exact ⟨k + 1, by omega, by go_num, HF, by first | rfl | trivial⟩
        case measure => simp [intOf]; omega
      · have HF : Hid (orL xs = x) := by unfold Hid; rw [← HV.out, HD.out, orL, if_neg h0]
        have i0 : (x != 0) = true := by simp [h0]
        clear h0
        go_wp2
        go_ret
        exact ⟨by rw [HF.out]; rfl, by first | rfl | trivial⟩
    · have HF : Hid (orL xs = 0) := by unfold Hid; rw [← HV.out, List.drop_of_length_le (by omega)]; rfl
      go_wp2
      go_ret
      exact ⟨by rw [HF.out]; rfl, by first | rfl | trivial⟩
end Go.Proofs.Ytbnoejdhachhhab
