/-
  anchor.validate, anchor.mapOffset: the walks.
-/
import Derived.Test.YtbnoejdhachhhaaBase
namespace Go.Proofs.Ytbnoejdhachhhaa
open Go.RowKit

/-- anchor.validate's loop -/
def valLoop : List Ed → Int → Int
  | [], _ => 0
  | x :: xs, p => if x.s ≤ p ∨ x.e < x.s then 3 else valLoop xs x.e
def valA (es : List Ed) : Int := if 50 < es.length then 2 else valLoop es (-1)


set_option maxHeartbeats 400000 in
theorem valA_any (A : Option Addr) (c : Nat) (es : List Ed) (w : World) (h : EdsAt w w.heap.size A es) (hm : es.length ≤ maxLen) :
    Calls Try.prog 26 #[.slice A es.length c] w fun e w' => e = .returned (.int .i64 (valA es)) ∧ Below w.heap.size w w' := by
  unfold maxLen at hm
  by_cases h50 : 50 < es.length
  · go_enter Try.func26, Try.ntmps26
    go_wp2
    go_ret
    exact ⟨by simp [valA, h50], Below.refl _ _⟩
  · have HA : Hid (valA es = valLoop es (-1)) := by unfold Hid; simp [valA, h50]
    go_enter Try.func26, Try.ntmps26
    go_wp2
    go_loopw [3, 11] (fun p i wr => ∃ (k : Nat) (pe : Int), k ≤ es.length ∧ i = .int .i64 k ∧ p = .int .i64 pe ∧ Hid (valLoop (es.drop k) pe = valLoop es (-1)) ∧ Below w.heap.size w wr) (fun _ i _ => es.length - (intOf i).toNat)
    case atStart => exact ⟨0, -1, Nat.zero_le _, rfl, rfl, rfl, Below.refl _ _⟩
    case round =>
      obtain ⟨k, pe, hk, rfl, rfl, HV, hb⟩ := hrel
      by_cases hlt : k < es.length
      · obtain ⟨b, off, rfl, hbb, hc⟩ := (h.below hb) (by omega)
        obtain ⟨c1, c2, c3⟩ := hc k es[k] (List.getElem?_eq_getElem hlt)
        have HD := Lib.hid (drop_cons es k hlt)
        clear hc h
        generalize es[k] = x at *
        have hbw := hb.alloc hb.size (.cells #[.int .i64 x.s, .int .i64 x.e, .string x.t] 31)
        by_cases hbad : x.s ≤ pe ∨ x.e < x.s
        · have HF : Hid (valA es = 3) := by unfold Hid; rw [HA.out, ← HV.out, HD.out, valLoop, if_pos hbad]
          go_wp2
          all_goals
            go_ret
            exact ⟨by rw [HF.out]; rfl, hbw⟩
        · have HF : Hid (valLoop (es.drop (k + 1)) x.e = valLoop es (-1)) := by unfold Hid; rw [← HV.out, HD.out, valLoop, if_neg hbad]
          have hb1 : pe < x.s := by omega
          have hb2 : x.s ≤ x.e := by omega
          clear hbad
          go_wp2
          go_roundw
          case rel => exact ⟨k + 1, x.e, by omega, by go_num, rfl, HF, hbw⟩
          case measure => simp [intOf]; omega
      · have HF : Hid (valA es = 0) := by unfold Hid; rw [HA.out, ← HV.out, List.drop_of_length_le (by omega)]; rfl
        go_wp2
        go_ret
        exact ⟨by rw [HF.out]; rfl, hb⟩

/-- anchor.mapOffset, wraps and all -/
def mapOffW : List Ed → Int → Bool → Int → Int
  | [], off, _, sh => wrap64 (off + sh)
  | x :: xs, off, r, sh =>
    if x.e < off ∨ (x.e = off ∧ (x.s < off ∨ r = true)) then mapOffW xs off r (wrap64 (sh + wrap64 (x.t.size - wrap64 (x.e - x.s))))
    else if x.s < off ∧ r = true then wrap64 (wrap64 (x.s + sh) + x.t.size)
    else if x.s < off then wrap64 (x.s + sh)
    else wrap64 (off + sh)

set_option maxHeartbeats 1000000 in
theorem mapOff_any (A : Option Addr) (c : Nat) (es : List Ed) (off : Int) (r : Bool) (w : World) (h : EdsAt w w.heap.size A es) (hm : es.length ≤ 50) :
    Calls Try.prog 27 #[.slice A es.length c, .int .i64 off, .bool r] w fun e w' => e = .returned (.int .i64 (mapOffW es off r 0)) ∧ Below w.heap.size w w' := by
  go_enter Try.func27, Try.ntmps27
  go_wp2
  go_loopw [7, 12] (fun p i wr => ∃ (k : Nat) (sh : Int), k ≤ es.length ∧ i = .int .i64 k ∧ p = .int .i64 sh ∧ Hid (mapOffW (es.drop k) off r sh = mapOffW es off r 0) ∧ Below w.heap.size w wr) (fun _ i _ => es.length - (intOf i).toNat)
  case atStart => exact ⟨0, 0, Nat.zero_le _, rfl, rfl, rfl, Below.refl _ _⟩
  case round =>
    obtain ⟨k, sh, hk, rfl, rfl, HV, hb⟩ := hrel
    by_cases hlt : k < es.length
    · obtain ⟨b, off', rfl, hbb, hc⟩ := (h.below hb) (by omega)
      obtain ⟨c1, c2, c3⟩ := hc k es[k] (List.getElem?_eq_getElem hlt)
      have HD := Lib.hid (drop_cons es k hlt)
      clear hc h
      generalize es[k] = x at *
      have hbw := hb.alloc hb.size (.cells #[.int .i64 x.s, .int .i64 x.e, .string x.t] 31)
      by_cases hp : x.e < off ∨ (x.e = off ∧ (x.s < off ∨ r = true))
      · have HF : Hid (mapOffW (es.drop (k + 1)) off r (wrap64 (sh + wrap64 (x.t.size - wrap64 (x.e - x.s)))) = mapOffW es off r 0) := by unfold Hid; rw [← HV.out, HD.out, mapOffW, if_pos hp]
        by_cases h1 : x.e < off
        · clear hp
          go_wp2
          go_roundw
          case rel => exact ⟨k + 1, _, by omega, by go_num, rfl, HF, hbw⟩
          case measure => simp [intOf]; omega
        · have h2 : (x.e == off) = true := by simp; omega
          by_cases h3 : x.s < off
          · clear hp
            go_wp2
            go_roundw
            case rel => exact ⟨k + 1, _, by omega, by go_num, rfl, HF, hbw⟩
            case measure => simp [intOf]; omega
          · obtain rfl : r = true := by
              rcases hp with hp | ⟨_, hp | hp⟩
              · omega
              · omega
              · exact hp
            clear hp
            go_wp2
            go_roundw
            case rel => exact ⟨k + 1, _, by omega, by go_num, rfl, HF, hbw⟩
            case measure => simp [intOf]; omega
      · have HG : Hid (mapOffW es off r 0 = if x.s < off ∧ r = true then wrap64 (wrap64 (x.s + sh) + x.t.size) else if x.s < off then wrap64 (x.s + sh) else wrap64 (off + sh)) := by
          unfold Hid; rw [← HV.out, HD.out, mapOffW, if_neg hp]
        have h1 : ¬ x.e < off := fun h => hp (.inl h)
        by_cases h2 : (x.e == off) = true
        · have h3 : ¬ x.s < off := fun h => hp (.inr ⟨by simpa using h2, .inl h⟩)
          obtain rfl : r = false := by
            cases r
            · rfl
            · exact absurd (.inr ⟨by simpa using h2, .inr rfl⟩) hp
          clear hp
          have HF : Hid (mapOffW es off false 0 = wrap64 (off + sh)) := by unfold Hid; rw [HG.out]; simp [h3]
          go_wp2
          go_ret
          exact ⟨by rw [HF.out]; rfl, hbw⟩
        · have h2' : (x.e == off) = false := by simpa using h2
          clear h2 hp
          by_cases h3 : x.s < off
          · cases r
            · have HF : Hid (mapOffW es off false 0 = wrap64 (x.s + sh)) := by unfold Hid; rw [HG.out]; simp [h3]
              go_wp2
              go_ret
              exact ⟨by rw [HF.out]; rfl, hbw⟩
            · have HF : Hid (mapOffW es off true 0 = wrap64 (wrap64 (x.s + sh) + x.t.size)) := by unfold Hid; rw [HG.out]; simp [h3]
              go_wp2
              go_ret
              exact ⟨by rw [HF.out]; rfl, hbw⟩
          · have HF : Hid (mapOffW es off r 0 = wrap64 (off + sh)) := by unfold Hid; rw [HG.out]; simp [h3]
            go_wp2
            go_ret
            exact ⟨by rw [HF.out]; rfl, hbw⟩
    · have HF : Hid (mapOffW es off r 0 = wrap64 (off + sh)) := by unfold Hid; rw [← HV.out, List.drop_of_length_le (by omega)]; rfl
      go_wp2
      go_ret
      exact ⟨by rw [HF.out]; rfl, hb⟩
end Go.Proofs.Ytbnoejdhachhhaa
