/-
  fuzzy.best: the walk.
-/
import Derived.Test.YtbnoejdhachhhabPts
namespace Go.Proofs.Ytbnoejdhachhhab
open Go.RowKit
set_option linter.unusedVariables false

/-- one entry's score -/
def adj (prev i n : Int) : Int := if n ≠ -1 ∧ 0 ≤ prev ∧ i = prev + 1 then n + 3 else n
/-- fuzzy.best's loop -/
def bestLoop (prev : Int) : List Int → Int → Int → Int → Int × Int
  | [], _, sc, off => (sc, off)
  | n :: ns, i, sc, off => if sc < adj prev i n then bestLoop prev ns (i + 1) (adj prev i n) i else bestLoop prev ns (i + 1) sc off
def bestL (row : List Int) (prev : Int) : Int × Int := bestLoop prev (row.drop (prev + 1).toNat) (prev + 1) (-1) (-1)

set_option maxHeartbeats 800000 in
theorem best_any (A : Option Addr) (c : Nat) (row : List Int) (prev : Int) (w : World) (h : IntsAt w w.heap.size A row) (hm : row.length ≤ 1000) (hp : -1 ≤ prev) (hp2 : prev ≤ 1000) (hr : ∀ x ∈ row, -1 ≤ x ∧ x ≤ 100000) :
    Calls Try.prog 15 #[.slice A row.length c, .int .i64 prev] w fun e w' => e = .returned (.tuple #[.int .i64 (bestL row prev).1, .int .i64 (bestL row prev).2]) ∧ w' = w := by
  obtain ⟨p, hpp⟩ : ∃ p : Nat, prev + 1 = p := ⟨(prev + 1).toNat, by omega⟩
  have HR := Lib.hid hr
  have HB : Hid (bestLoop prev (row.drop p) p (-1) (-1) = bestL row prev) := by unfold Hid bestL; rw [hpp, Int.toNat_natCast]
  clear hr
  go_enter Try.func15, Try.ntmps15
  go_wp2_with fail
  go_loopw [6, 7, 8] (fun s o i wr => ∃ (k : Nat) (sc off : Int), k ≤ 1001 ∧ prev + 1 ≤ k ∧ i = .int .i64 k ∧ s = .int .i64 sc ∧ o = .int .i64 off ∧ -1 ≤ sc ∧ sc ≤ 100003 ∧ Hid (bestLoop prev (row.drop k) k sc off = bestL row prev) ∧ wr = w) (fun _ _ i _ => row.length - (intOf i).toNat)
  case atStart => exact ⟨p, -1, -1, by omega, by omega, by first | rfl | rw [hpp], rfl, rfl, by omega, by omega, HB, rfl⟩
  case round =>
    obtain ⟨k, sc, off, hk, hpk, rfl, rfl, rfl, s1, s2, HV, rfl⟩ := hrel
    clear HB hpp
    by_cases hlt : k < row.length
    · obtain ⟨b, off', rfl, hbb, hc⟩ := h (by omega)
      have c1 := hc k row[k] (List.getElem?_eq_getElem hlt)
      have HD := Lib.hid (drop_cons row k hlt)
      obtain ⟨r1, r2⟩ := HR.out row[k] (List.getElem_mem hlt)
      clear hc h
      generalize row[k] = n at *
      by_cases h1 : n = -1
      · have i1 : (n != -1) = false := by rw [h1]; rfl
        have HA : Hid (adj prev k n = n) := by unfold Hid adj; rw [if_neg (by simp [h1])]
        have g : ¬ sc < n := by omega
        have HF : Hid (bestLoop prev (row.drop (k + 1)) ((k : Int) + 1) sc off = bestL row prev) := by unfold Hid; rw [← HV.out, HD.out, bestLoop, HA.out, if_neg g]
        clear HV HD HA HR h1
        go_wp2_with fail
        go_roundw
        case rel => exact ⟨k + 1, _, _, by omega, by omega, by go_num, rfl, rfl, by omega, by omega, by rw [show (((k + 1 : Nat)) : Int) = (k : Int) + 1 from by omega]; exact HF, by first | rfl | trivial⟩
        case measure => simp [intOf]; omega
      · have i1 : (n != -1) = true := by simp [h1]
        by_cases h2 : 0 ≤ prev
        · by_cases h3 : (k : Int) = prev + 1
          · have i3 : ((k : Int) == prev + 1) = true := by simp [h3]
            have HA : Hid (adj prev k n = n + 3) := by unfold Hid adj; rw [if_pos ⟨h1, h2, h3⟩]
            clear h1 h3
            by_cases g : sc < n + 3
            · have HF : Hid (bestLoop prev (row.drop (k + 1)) ((k : Int) + 1) (n + 3) k = bestL row prev) := by unfold Hid; rw [← HV.out, HD.out, bestLoop, HA.out, if_pos g]
              clear HV HD HA HR
              go_wp2_with fail
              go_roundw
              case rel => exact ⟨k + 1, _, _, by omega, by omega, by go_num, rfl, rfl, by omega, by omega, by rw [show (((k + 1 : Nat)) : Int) = (k : Int) + 1 from by omega]; exact HF, by first | rfl | trivial⟩
              case measure => simp [intOf]; omega
            · have HF : Hid (bestLoop prev (row.drop (k + 1)) ((k : Int) + 1) sc off = bestL row prev) := by unfold Hid; rw [← HV.out, HD.out, bestLoop, HA.out, if_neg g]
              clear HV HD HA HR
              go_wp2_with fail
              go_roundw
              case rel => exact ⟨k + 1, _, _, by omega, by omega, by go_num, rfl, rfl, by omega, by omega, by rw [show (((k + 1 : Nat)) : Int) = (k : Int) + 1 from by omega]; exact HF, by first | rfl | trivial⟩
              case measure => simp [intOf]; omega
          · have i3 : ((k : Int) == prev + 1) = false := by simp [h3]
            have HA : Hid (adj prev k n = n) := by unfold Hid adj; rw [if_neg (fun q => h3 q.2.2)]
            clear h1 h3
            by_cases g : sc < n
            · have HF : Hid (bestLoop prev (row.drop (k + 1)) ((k : Int) + 1) (n) k = bestL row prev) := by unfold Hid; rw [← HV.out, HD.out, bestLoop, HA.out, if_pos g]
              clear HV HD HA HR
              go_wp2_with fail
              go_roundw
              case rel => exact ⟨k + 1, _, _, by omega, by omega, by go_num, rfl, rfl, by omega, by omega, by rw [show (((k + 1 : Nat)) : Int) = (k : Int) + 1 from by omega]; exact HF, by first | rfl | trivial⟩
              case measure => simp [intOf]; omega
            · have HF : Hid (bestLoop prev (row.drop (k + 1)) ((k : Int) + 1) sc off = bestL row prev) := by unfold Hid; rw [← HV.out, HD.out, bestLoop, HA.out, if_neg g]
              clear HV HD HA HR
              go_wp2_with fail
              go_roundw
              case rel => exact ⟨k + 1, _, _, by omega, by omega, by go_num, rfl, rfl, by omega, by omega, by rw [show (((k + 1 : Nat)) : Int) = (k : Int) + 1 from by omega]; exact HF, by first | rfl | trivial⟩
              case measure => simp [intOf]; omega
        · have i2 : decide (0 ≤ prev) = false := by simp; omega
          have HA : Hid (adj prev k n = n) := by unfold Hid adj; rw [if_neg (fun q => h2 q.2.1)]
          clear h1
          by_cases g : sc < n
          · have HF : Hid (bestLoop prev (row.drop (k + 1)) ((k : Int) + 1) (n) k = bestL row prev) := by unfold Hid; rw [← HV.out, HD.out, bestLoop, HA.out, if_pos g]
            clear HV HD HA HR
            go_wp2_with fail
            go_roundw
            case rel => exact ⟨k + 1, _, _, by omega, by omega, by go_num, rfl, rfl, by omega, by omega, by rw [show (((k + 1 : Nat)) : Int) = (k : Int) + 1 from by omega]; exact HF, by first | rfl | trivial⟩
            case measure => simp [intOf]; omega
          · have HF : Hid (bestLoop prev (row.drop (k + 1)) ((k : Int) + 1) sc off = bestL row prev) := by unfold Hid; rw [← HV.out, HD.out, bestLoop, HA.out, if_neg g]
            clear HV HD HA HR
            go_wp2_with fail
            go_roundw
            case rel => exact ⟨k + 1, _, _, by omega, by omega, by go_num, rfl, rfl, by omega, by omega, by rw [show (((k + 1 : Nat)) : Int) = (k : Int) + 1 from by omega]; exact HF, by first | rfl | trivial⟩
            case measure => simp [intOf]; omega
    · have HF : Hid (bestL row prev = (sc, off)) := by unfold Hid; rw [← HV.out, List.drop_of_length_le (by omega)]; rfl
      go_wp2_with fail
      go_ret2
      exact ⟨by rw [HF.out]; rfl, rfl⟩
end Go.Proofs.Ytbnoejdhachhhab
