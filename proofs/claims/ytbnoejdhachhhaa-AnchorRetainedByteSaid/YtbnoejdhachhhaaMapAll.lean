/-
  anchor.MapRange, anchor.MapAll, glossatorref4.EqualInts: the walks.
-/
import Derived.Test.YtbnoejdhachhhaaMapA
namespace Go.Proofs.Ytbnoejdhachhhaa
open Go.RowKit

set_option maxHeartbeats 400000 in
theorem mapRange_any (A : Option Addr) (c : Nat) (es : List Ed) (st en : Int) (r : Bool) (w : World) (h : EdsAt w w.heap.size A es) (hm : es.length ≤ maxLen) (hv : valA es = 0) (h0 : 0 ≤ st) (h1 : st ≤ en) :
    Calls Try.prog 23 #[.slice A es.length c, .int .i64 st, .int .i64 en, .bool r] w fun e w' => e = .returned (.tuple #[.int .i64 (mapOffW es st (!r) 0), .int .i64 (max (mapOffW es st (!r) 0) (mapOffW es en r 0)), .int .i64 0]) ∧ Below w.heap.size w w' := by
  have h1 : (valA es == 0) = true := by simp [hv]
  have h2 : (valA es != 0) = false := by simp [hv]
  have hl := valA_len hv
  have HV := Lib.hid hv
  clear hv
  go_enter Try.func23, Try.ntmps23
  go_wp2_with (go_at_call 26; refine (valA_any _ _ _ _ h hm).mono ?_; rintro e w1 ⟨rfl, hb1⟩)
  refine (mapOff_any _ _ _ _ _ _ ((h.below hb1).more hb1.size) hl).mono ?_
  rintro e w2 ⟨rfl, hb2⟩
  go_wp2_with fail
  have hb12 := hb1.trans (hb2.mono hb1.size)
  refine (mapOff_any _ _ _ _ _ _ ((h.below hb12).more hb12.size) hl).mono ?_
  rintro e w3 ⟨rfl, hb3⟩
  go_wp2_with fail
  all_goals
    go_ret3
    exact ⟨by simp; omega, hb12.trans (hb3.mono hb12.size)⟩

set_option maxHeartbeats 1000000 in
theorem mapAll_any (A D : Option Addr) (c d : Nat) (es : List Ed) (os : List Int) (r : Bool) (w : World) (h : EdsAt w w.heap.size A es) (ho : IntsAt w w.heap.size D os) (hm : es.length ≤ maxLen) (hv : valA es = 0)
    (hn : os.length ≤ 4294967296) (hp : ∀ x ∈ os, 0 ≤ x) :
    Calls Try.prog 24 #[.slice A es.length c, .slice D os.length d, .bool r] w fun e w' => ∃ D' d', e = .returned (.tuple #[.slice D' (os.map fun x => mapOffW es x r 0).length d', .int .i64 0]) ∧ IntsAt w' w'.heap.size D' (os.map fun x => mapOffW es x r 0) ∧ Below w.heap.size w w' := by
  have h2 : (valA es != 0) = false := by simp [hv]
  have hl := valA_len hv
  obtain ⟨i0, hi, hz0, hz1, hz2⟩ := info_parts info_int
  have HV := Lib.hid hv
  clear hv
  go_enter Try.func24, Try.ntmps24
  go_wp2_with (go_at_call 26; refine (valA_any _ _ _ _ h hm).mono ?_; rintro e w1 ⟨rfl, hb1⟩)
  go_loopw [9, 19] (fun v i wr => ∃ k : Nat, k ≤ os.length ∧ i = .int .i64 k ∧ wr.ownsRow w.heap.size 3 1 v k ((os.map fun x => Value.int .i64 (mapOffW es x r 0)).take k) ∧ Below w.heap.size w wr) (fun _ i _ => os.length - (intOf i).toNat)
  case atStart => exact ⟨0, Nat.zero_le _, rfl, World.ownsRow_nil _ _ _ _, hb1⟩
  case round =>
    obtain ⟨k, hk, rfl, hown, hb⟩ := hrel
    by_cases hlt : k < os.length
    · obtain ⟨b, off, rfl, hbb, hc⟩ := (ho.below hb) (by omega)
      have c1 := hc k os[k] (List.getElem?_eq_getElem hlt)
      have hx := hp os[k] (List.getElem_mem hlt)
      have HT := Lib.hid (show (os.map fun x => Value.int .i64 (mapOffW es x r 0)).take (k + 1) = (os.map fun x => Value.int .i64 (mapOffW es x r 0)).take k ++ [Value.int .i64 (mapOffW es os[k] r 0)] by rw [take_snoc _ _ (by simpa using hlt)]; simp)
      clear hc ho hp
      generalize os[k] = x at *
      go_wp2_with fail
      refine (mapOff_any _ _ _ _ _ _ ((h.below hb).more hb.size) hl).mono ?_
      rintro e w2 ⟨rfl, hb2⟩
      have hb12 := hb.trans (hb2.mono hb.size)
      have hown2 := own_below hown hb2
      generalize mapOffW es x r 0 = y at *
      go_wp2_with (at_builtin; refine wpList_append_lit rfl (.tmp 25) (.tmp 30) _ rfl w.heap.size 3 (.int .i64 0) 1 8 Try.underlying48 info_int rfl (by decide) _ _ _ rfl hown2 1 1 [.int .i64 y] rfl rfl ?c2 ?c3 ?c4 ?c5 ?_)
      case c2 => simp [Value.oneCell']
      case c3 => simp only [maxLen]; omega
      case c4 => omega
      case c5 => exact hb12.size
      intro v' w3 hown3 hg3 hat3
      have hb3 := grown_below hb12 hb12.size hown2 hg3
      go_wp2
      go_roundw
      case rel => exact ⟨k + 1, by omega, by go_num, by rw [HT.out]; exact hown3, hb3⟩
      case measure => simp [intOf]; omega
    · have hown' : wr.ownsRow w.heap.size 3 1 u9 (os.map fun x => mapOffW es x r 0).length ((os.map fun x => mapOffW es x r 0).map (Value.int .i64)) := by
        have e : k = os.length := by omega
        subst e
        rw [List.take_of_length_le (by simp)] at hown
        simpa [Function.comp_def] using hown
      obtain ⟨D', d', rfl, hD⟩ := IntsAt.of_own hown'
      clear hown hown' h ho hp
      go_wp2
      go_ret2
      exact ⟨D', d', by simp, hD, hb⟩

set_option maxHeartbeats 400000 in
theorem eqInts_any (A D : Option Addr) (c d : Nat) (xs ys : List Int) (w : World) (h : IntsAt w w.heap.size A xs) (h' : IntsAt w w.heap.size D ys) (hm : xs.length ≤ maxLen) (he : xs = ys) :
    Calls Try.prog 25 #[.slice A xs.length c, .slice D ys.length d] w fun e w' => e = .returned (.bool true) ∧ Below w.heap.size w w' := by
  unfold maxLen at hm
  subst he
  go_enter Try.func25, Try.ntmps25
  go_wp2
  go_loopw [5] (fun i wr => ∃ k : Nat, k ≤ xs.length ∧ i = .int .i64 k ∧ Below w.heap.size w wr) (fun i _ => xs.length - (intOf i).toNat)
  case atStart => exact ⟨0, Nat.zero_le _, rfl, Below.refl _ _⟩
  case round =>
    obtain ⟨k, hk, rfl, hb⟩ := hrel
    by_cases hlt : k < xs.length
    · obtain ⟨b, off, rfl, hbb, hc⟩ := (h.below hb) (by omega)
      obtain ⟨b', off', rfl, hbb', hc'⟩ := (h'.below hb) (by omega)
      have c1 := hc k xs[k] (List.getElem?_eq_getElem hlt)
      have c2 := hc' k xs[k] (List.getElem?_eq_getElem hlt)
      clear hc hc' h h'
      generalize xs[k] = x at *
      go_wp2
      go_quiet (fail)
      go_wp2
      go_roundw
      case rel => exact ⟨k + 1, by omega, by go_num, below_drewN hb _⟩
      case measure => simp [intOf]; omega
    · go_wp2
      go_ret
      exact ⟨rfl, hb⟩
end Go.Proofs.Ytbnoejdhachhhaa
