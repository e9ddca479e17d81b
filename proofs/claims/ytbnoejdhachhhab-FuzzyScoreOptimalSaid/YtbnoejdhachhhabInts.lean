/-
  glossatorref4.EqualInts; bytes: fuzzy.isUpper, lower, EqualFold: the walks.
-/
import Derived.Test.YtbnoejdhachhhabBase
namespace Go.Proofs.Ytbnoejdhachhhab
open Go.RowKit

def upB (b : UInt8) : Bool := decide (65 ≤ b.toNat) && decide (b.toNat ≤ 90)
def loN (b : UInt8) : Nat := if 65 ≤ b.toNat ∧ b.toNat ≤ 90 then b.toNat + 32 else b.toNat
def foldB (a b : UInt8) : Bool := loN a == loN b

theorem up_any (b : UInt8) (w : World) : Calls Try.prog 28 #[.int .u8 b.toNat] w fun e w' => e = .returned (.bool (upB b)) ∧ w' = w := by
  have hb := b.toNat_lt
  by_cases h1 : 65 ≤ b.toNat
  · by_cases h2 : b.toNat ≤ 90
    · have H : Hid (upB b = true) := by unfold Hid; simp [upB, h1, h2]
      have i1 : (65 : Int) ≤ b.toNat := by omega
      have i2 : (b.toNat : Int) ≤ 90 := by omega
      go_enter Try.func28, Try.ntmps28
      go_wp2
      go_ret
      exact ⟨by rw [H.out]; rfl, rfl⟩
    · have H : Hid (upB b = false) := by unfold Hid; simp [upB, h2]
      have i1 : (65 : Int) ≤ b.toNat := by omega
      have i2 : decide ((b.toNat : Int) ≤ 90) = false := by simp; omega
      go_enter Try.func28, Try.ntmps28
      go_wp2
      go_ret
      exact ⟨by rw [H.out]; rfl, rfl⟩
  · have H : Hid (upB b = false) := by unfold Hid; simp [upB, h1]
    have i1 : decide ((65 : Int) ≤ b.toNat) = false := by simp; omega
    go_enter Try.func28, Try.ntmps28
    go_wp2
    go_ret
    exact ⟨by rw [H.out]; rfl, rfl⟩
theorem lower_any (b : UInt8) (w : World) : Calls Try.prog 21 #[.int .u8 b.toNat] w fun e w' => e = .returned (.int .u8 (loN b)) ∧ w' = w := by
  have hb := b.toNat_lt
  cases hu : upB b
  · have H : Hid (loN b = b.toNat) := by
      unfold Hid loN; rw [if_neg]; intro q; simp [upB] at hu; omega
    go_enter Try.func21, Try.ntmps21
    go_wp2_with fail
    refine (up_any b _).mono ?_
    rintro e w1 ⟨rfl, rfl⟩
    rw [hu]
    go_wp2_with fail
    go_ret
    exact ⟨by rw [H.out]; rfl, rfl⟩
  · have hu2 : 65 ≤ b.toNat ∧ b.toNat ≤ 90 := by simpa [upB] using hu
    have H : Hid (loN b = b.toNat + 32) := by unfold Hid loN; rw [if_pos hu2]
    have h3 : (b.toNat : Int) + 97 ≤ 255 := by omega
    go_enter Try.func21, Try.ntmps21
    go_wp2_with fail
    refine (up_any b _).mono ?_
    rintro e w1 ⟨rfl, rfl⟩
    rw [hu]
    go_wp2_with fail
    go_ret
    exact ⟨by rw [H.out]; exact ret_int (by omega), rfl⟩
theorem fold_any (a b : UInt8) (w : World) : Calls Try.prog 13 #[.int .u8 a.toNat, .int .u8 b.toNat] w fun e w' => e = .returned (.bool (foldB a b)) ∧ w' = w := by
  have H : Hid (((loN a : Int) == (loN b : Int)) = foldB a b) := by
    unfold Hid foldB
    by_cases h : loN a = loN b
    · rw [h]; simp
    · rw [beq_eq_false_iff_ne.2 (by omega), beq_eq_false_iff_ne.2 h]
  go_enter Try.func13, Try.ntmps13
  go_wp2_with fail
  refine (lower_any a _).mono ?_
  rintro e w1 ⟨rfl, rfl⟩
  go_wp2_with fail
  refine (lower_any b _).mono ?_
  rintro e w1 ⟨rfl, rfl⟩
  generalize loN a = la at *
  generalize loN b = lb at *
  go_wp2_with fail
  go_ret
  exact ⟨by rw [← H.out]; rfl, rfl⟩

set_option maxHeartbeats 400000 in
theorem eqInts_any (A D : Option Addr) (c d : Nat) (xs ys : List Int) (w : World) (h : IntsAt w w.heap.size A xs) (h' : IntsAt w w.heap.size D ys) (hm : xs.length ≤ maxLen) (he : xs = ys) :
    Calls Try.prog 12 #[.slice A xs.length c, .slice D ys.length d] w fun e w' => e = .returned (.bool true) ∧ Below w.heap.size w w' := by
  unfold maxLen at hm
  subst he
  go_enter Try.func12, Try.ntmps12
  go_wp2
  go_loopw [5] (fun i wr => ∃ k : Nat, k ≤ xs.length ∧ i = .int .i64 k ∧ Below w.heap.size w wr) (fun i _ => xs.length - (intOf i).toNat)
  case atStart => exact ⟨0, Nat.zero_le _, rfl, Below.refl _ _⟩
  case round =>
    obtain ⟨k, hk, rfl, hb⟩ := hrel
    by_cases hlt : k < xs.length
    · obtain ⟨b, off, rfl, hbb, hc⟩ := (h.below hb) (by omega)
      obtain ⟨b', off', rfl, hbb', hc'⟩ := (h'.below hb) (by omega)
      have c1 := hc k xs[k] (List.getElem?_eq_getElem hlt)
      have c2 := hc' k xs[k] (List.getElem?_eq_getElem hlt)
      clear hc hc' h h'
      generalize xs[k] = x at *
      go_wp2
      go_quiet (fail)
      go_wp2
      go_roundw
      case rel => exact ⟨k + 1, by omega, by go_num, below_drewN hb _⟩
      case measure => simp [intOf]; omega
    · go_wp2
      go_ret
      exact ⟨rfl, hb⟩
end Go.Proofs.Ytbnoejdhachhhab
