/-
  textedit.Validate, glossatorref4.DeletesByte, glossatorref4.EqualEdits: the walks.
-/
import Derived.Test.YtbnoejdhachhhaaMapA
import Derived.Deep.RegionHeld3
import Derived.StillTailTactics
import Derived.Deep.DeepCutAuto
namespace Go.Proofs.Ytbnoejdhachhhaa
open Go.RowKit


/-- textedit.Validate's loop, for a source of n bytes -/
def valTLoop (n : Int) : List Ed → Int → Int → Int
  | [], _, len => if 2000 < len then 2 else 0
  | x :: xs, p, len => if x.s ≤ p ∨ x.e < x.s ∨ n < x.e then 3 else valTLoop n xs x.e (len + (x.t.size - (x.e - x.s)))
def valT (n : Int) (es : List Ed) : Int := if 2000 < n ∨ 50 < es.length then 2 else valTLoop n es (-1) n

set_option maxHeartbeats 800000 in
theorem valT_any (src : ByteArray) (A : Option Addr) (c : Nat) (es : List Ed) (w : World) (h : EdsAt w w.heap.size A es) (hm : es.length ≤ maxLen) (hs : Short es) (hsrc : src.size ≤ maxLen) :
    Calls Try.prog 22 #[.string src, .slice A es.length c] w fun e w' => e = .returned (.int .i64 (valT src.size es)) ∧ Below w.heap.size w w' := by
  unfold maxLen at hm hsrc
  by_cases h2000 : 2000 < src.size
  · have HF : Hid (valT src.size es = 2) := by unfold Hid valT; rw [if_pos (.inl (by omega))]
    go_enter Try.func22, Try.ntmps22
    go_wp2
    go_ret
    exact ⟨by rw [HF.out]; rfl, Below.refl _ _⟩
  by_cases h50 : 50 < es.length
  · have HF : Hid (valT src.size es = 2) := by unfold Hid valT; rw [if_pos (.inr h50)]
    go_enter Try.func22, Try.ntmps22
    go_wp2
    go_ret
    exact ⟨by rw [HF.out]; rfl, Below.refl _ _⟩
  have HA : Hid (valT src.size es = valTLoop src.size es (-1) src.size) := by unfold Hid valT; rw [if_neg (by omega)]
  go_enter Try.func22, Try.ntmps22
  go_wp2
  go_loopw [5, 6, 21] (fun p l i wr => ∃ (k : Nat) (pe len : Int), k ≤ es.length ∧ i = .int .i64 k ∧ p = .int .i64 pe ∧ l = .int .i64 len ∧ -1 ≤ pe ∧ pe ≤ 2000 ∧ -1 - pe ≤ len ∧ len ≤ 2000 + k * 140737488351232 ∧
    Hid (valTLoop src.size (es.drop k) pe len = valTLoop src.size es (-1) src.size) ∧ Below w.heap.size w wr) (fun _ _ i _ => es.length - (intOf i).toNat)
  case atStart => exact ⟨0, -1, src.size, Nat.zero_le _, rfl, rfl, rfl, by omega, by omega, by omega, by omega, rfl, Below.refl _ _⟩
  case round =>
    obtain ⟨k, pe, len, hk, rfl, rfl, rfl, q1, q2, q3, q4, HV, hb⟩ := hrel
    by_cases hlt : k < es.length
    · obtain ⟨b, off, rfl, hbb, hc⟩ := (h.below hb) (by omega)
      obtain ⟨c1, c2, c3⟩ := hc k es[k] (List.getElem?_eq_getElem hlt)
      have HD := Lib.hid (drop_cons es k hlt)
      have hsx := hs es[k] (List.getElem_mem hlt)
      clear hc h hs
      generalize es[k] = x at *
      have hbw := hb.alloc hb.size (.cells #[.int .i64 x.s, .int .i64 x.e, .string x.t] 31)
      by_cases hbad : x.s ≤ pe ∨ x.e < x.s ∨ src.size < x.e
      · have HF : Hid (valT src.size es = 3) := by unfold Hid; rw [HA.out, ← HV.out, HD.out, valTLoop, if_pos hbad]
        by_cases g1 : x.s ≤ pe
        · clear hbad
          go_wp2
          go_ret
          exact ⟨by rw [HF.out]; rfl, hbw⟩
        · by_cases g2 : x.e < x.s
          · clear hbad
            go_wp2
            go_ret
            exact ⟨by rw [HF.out]; rfl, hbw⟩
          · have g3 : (src.size : Int) < x.e := by omega
            clear hbad
            go_wp2
            go_ret
            exact ⟨by rw [HF.out]; rfl, hbw⟩
      · have HF : Hid (valTLoop src.size (es.drop (k + 1)) x.e (len + (x.t.size - (x.e - x.s))) = valTLoop src.size es (-1) src.size) := by unfold Hid; rw [← HV.out, HD.out, valTLoop, if_neg hbad]
        have hb1 : pe < x.s := by omega
        have hb2 : x.s ≤ x.e := by omega
        have hb3 : x.e ≤ src.size := by omega
        clear hbad
        go_wp2
        go_roundw
        case rel => exact ⟨k + 1, x.e, _, by omega, by go_num, rfl, rfl, by omega, by omega, by omega, by omega, HF, hbw⟩
        case measure => simp [intOf]; omega
    · have HF : Hid (valT src.size es = if 2000 < len then 2 else 0) := by unfold Hid; rw [HA.out, ← HV.out, List.drop_of_length_le (by omega)]; rfl
      by_cases g : 2000 < len
      · have HG : Hid (valT src.size es = 2) := by unfold Hid; rw [HF.out, if_pos g]
        go_wp2
        go_ret
        exact ⟨by rw [HG.out]; rfl, hb⟩
      · have HG : Hid (valT src.size es = 0) := by unfold Hid; rw [HF.out, if_neg g]
        go_wp2
        go_ret
        exact ⟨by rw [HG.out]; rfl, hb⟩

/-- glossatorref4.DeletesByte -/
def delB (es : List Ed) (off : Int) : Bool := es.any fun x => decide (x.s ≤ off) && decide (off < x.e)

set_option maxHeartbeats 400000 in
theorem delB_any (A : Option Addr) (c : Nat) (es : List Ed) (off : Int) (w : World) (h : EdsAt w w.heap.size A es) (hm : es.length ≤ maxLen) :
    Calls Try.prog 17 #[.slice A es.length c, .int .i64 off] w fun e w' => e = .returned (.bool (delB es off)) ∧ Below w.heap.size w w' := by
  unfold maxLen at hm
  go_enter Try.func17, Try.ntmps17
  go_wp2
  go_loopw [5] (fun i wr => ∃ k : Nat, k ≤ es.length ∧ i = .int .i64 k ∧ Hid (delB (es.drop k) off = delB es off) ∧ Below w.heap.size w wr) (fun i _ => es.length - (intOf i).toNat)
  case atStart => exact ⟨0, Nat.zero_le _, rfl, rfl, Below.refl _ _⟩
  case round =>
    obtain ⟨k, hk, rfl, HV, hb⟩ := hrel
    by_cases hlt : k < es.length
    · obtain ⟨b, off', rfl, hbb, hc⟩ := (h.below hb) (by omega)
      obtain ⟨c1, c2, c3⟩ := hc k es[k] (List.getElem?_eq_getElem hlt)
      have HD := Lib.hid (drop_cons es k hlt)
      clear hc h c3
      generalize es[k] = x at *
      have HE : Hid (delB es off = (decide (x.s ≤ off) && decide (off < x.e) || delB (es.drop (k + 1)) off)) := by unfold Hid; rw [← HV.out, HD.out]; simp [delB]
      by_cases g1 : x.s ≤ off
      · by_cases g2 : off < x.e
        · have HF : Hid (delB es off = true) := by unfold Hid; rw [HE.out]; simp [g1, g2]
          go_wp2
          go_ret
          exact ⟨by rw [HF.out]; rfl, hb⟩
        · have HF : Hid (delB (es.drop (k + 1)) off = delB es off) := by unfold Hid; rw [HE.out]; simp [g2]
          go_wp2
          go_roundw
          case rel => exact ⟨k + 1, by omega, by go_num, HF, hb⟩
          case measure => simp [intOf]; omega
      · have HF : Hid (delB (es.drop (k + 1)) off = delB es off) := by unfold Hid; rw [HE.out]; simp [g1]
        go_wp2
        go_roundw
        case rel => exact ⟨k + 1, by omega, by go_num, HF, hb⟩
        case measure => simp [intOf]; omega
    · have HF : Hid (delB es off = false) := by unfold Hid; rw [← HV.out, List.drop_of_length_le (by omega)]; rfl
      go_wp2
      go_ret
      exact ⟨by rw [HF.out]; rfl, hb⟩

set_option maxHeartbeats 400000 in
theorem eqEds_any (A D : Option Addr) (c d : Nat) (xs ys : List Ed) (w : World) (h : EdsAt w w.heap.size A xs) (h' : EdsAt w w.heap.size D ys) (hm : xs.length ≤ maxLen) (he : xs = ys) :
    Calls Try.prog 20 #[.slice A xs.length c, .slice D ys.length d] w fun e w' => e = .returned (.bool true) ∧ Below w.heap.size w w' := by
  unfold maxLen at hm
  subst he
  go_enter Try.func20, Try.ntmps20
  go_wp2
  go_loopw [5] (fun i wr => ∃ k : Nat, k ≤ xs.length ∧ i = .int .i64 k ∧ Below w.heap.size w wr) (fun i _ => xs.length - (intOf i).toNat)
  case atStart => exact ⟨0, Nat.zero_le _, rfl, Below.refl _ _⟩
  case round =>
    obtain ⟨k, hk, rfl, hb⟩ := hrel
    by_cases hlt : k < xs.length
    · obtain ⟨b, off, rfl, hbb, hc⟩ := (h.below hb) (by omega)
      obtain ⟨b', off', rfl, hbb', hc'⟩ := (h'.below hb) (by omega)
      obtain ⟨c1, c2, c3⟩ := hc k xs[k] (List.getElem?_eq_getElem hlt)
      obtain ⟨e1, e2, e3⟩ := hc' k xs[k] (List.getElem?_eq_getElem hlt)
      clear hc hc' h h'
      generalize xs[k] = x at *
      go_wp2
      go_quiet (fail)
      go_wp2
      go_roundw
      case rel => exact ⟨k + 1, by omega, by go_num, below_drewN hb _⟩
      case measure => simp [intOf]; omega
    · go_wp2
      go_ret
      exact ⟨rfl, hb⟩
end Go.Proofs.Ytbnoejdhachhhaa
