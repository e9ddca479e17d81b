/-
  textedit.merger.deletes: the walk.
-/
import Derived.Test.YtbnoejdhachhhaaMrg
namespace Go.Proofs.Ytbnoejdhachhhaa
open Go.RowKit

def delDrop (es : List Ed) (i : Int) : List Ed := es.dropWhile fun x => decide (x.e ≤ i)
def delRes (es : List Ed) (i : Int) : Bool := match delDrop es i with
  | [] => false
  | x :: _ => decide (x.s ≤ i)

theorem ed_tail {w : World} {B : Nat} {A : Option Addr} {x : Ed} {xs : List Ed} {c : Nat} (h : EdsAt w B A (x :: xs)) (hc : (x :: xs).length ≤ c) :
    ∃ A2, (∀ u : World, (Instr.slice 22 (.slice A (x :: xs).length c) (some (.int .i64 1)) none none).run Try.prog u = .ok (.slice A2 xs.length (c - 1)) u) ∧ EdsAt w B A2 xs := by
  refine ⟨if c = 1 then A else A.map fun a => a.add (1 * 3), fun u => ?_, ?_⟩
  · rw [run_slice_l u 22 A (x :: xs).length c (by kernel_rfl) .i64 1 (by omega) (by rw [List.length_cons]; omega)]
    have : (sizeOf (Try.prog.elem 22)).run Try.prog u = .ok 3 u := Try.sizeOf31 u
    rw [this]
    simp [Result.andThen, sliced]
  · intro hn
    obtain ⟨b, off, rfl, hb, hcc⟩ := h (by simp)
    rw [List.length_cons] at hc
    rw [if_neg (by omega)]
    refine ⟨b, off + 3, by simp [Addr.add], hb, fun k y hk => ?_⟩
    obtain ⟨h1, h2, h3⟩ := hcc (k + 1) y (by simpa using hk)
    rw [show off + 3 + k * 3 = off + (k + 1) * 3 from by omega]
    exact ⟨h1, h2, h3⟩
theorem Two.setEds {w : World} {B bl br : Nat} {Al Ar : Option Addr} {cl cr : Nat} {vl vr : Value} {el er : List Ed} {ol or_ : Int} {ml mr : List TB} (h : Two w B bl br Al Ar cl cr vl vr el er ol or_ ml mr) {A2 : Option Addr} {c2 : Nat} {es : List Ed} (hE : EdsAt w B A2 es) (hc : es.length ≤ c2) :
    Two (w.setCell ⟨bl, 0, none⟩ (.slice A2 es.length c2)) B bl br A2 Ar c2 cr vl vr es er ol or_ ml mr := by
  obtain ⟨⟨hb1, hb2, hb3⟩, h2, h3, h4, h5, h6, h7, h8, h9⟩ := h
  exact ⟨⟨hb1, hb2, hb3⟩, heap_set3_0 h2 _, heap_far h3 hb3.symm _ _, ⟨hc, h4.2⟩, hE.setCell (p := ⟨bl, 0, none⟩) hb1 _, h6.setCell (p := ⟨bl, 0, none⟩) hb1 _, own_set h7 h2 (by decide) _ _, own_set h8 h2 (by decide) _ _, h9⟩

set_option maxHeartbeats 1600000 in
theorem deletes_any (w : World) (B bl br : Nat) (Al Ar : Option Addr) (cl cr : Nat) (vl vr : Value) (el er : List Ed) (ol or_ : Int) (ml mr : List TB) (h : Two w B bl br Al Ar cl cr vl vr el er ol or_ ml mr) (i : Int) :
    Calls Try.prog 34 #[.pointer (some ⟨bl, 0, none⟩), .int .i64 i] w fun e w' => e = .returned (.bool (delRes el i)) ∧
      (∃ Al' cl', Two w' B bl br Al' Ar cl' cr vl vr (delDrop el i) er ol or_ ml mr) ∧ Below B w w' := by
  go_enter Try.func34, Try.ntmps34
  go_wp2_with fail
  go_loopg [] el.length (fun gk wr => ∃ (es : List Ed) (A : Option Addr) (c : Nat), es.length = gk ∧ Two wr B bl br A Ar c cr vl vr es er ol or_ ml mr ∧ Hid (delDrop es i = delDrop el i) ∧ Below B w wr)
  case atStart => exact ⟨el, Al, cl, rfl, h, rfl, Below.refl _ _⟩
  case round =>
    obtain ⟨es, A, c, hgk, hT, HD, hb⟩ := hrel
    have HGK := Lib.hid hgk
    clear hgk h
    obtain ⟨⟨hb1, _, _⟩, h2, _, ⟨h4, _⟩, h5, _⟩ := id hT
    obtain ⟨c0, c1, c2, f0, f1, f2⟩ := cell3 h2
    cases es with
    | nil =>
      have HR : Hid (delRes el i = false) := by unfold Hid delRes; rw [← HD.out]; rfl
      have HT : Hid (Two wr B bl br A Ar c cr vl vr (delDrop el i) er ol or_ ml mr) := by unfold Hid; rw [← HD.out]; exact hT
      simp only [List.length_nil] at c0
      clear h2 h5 hT
      go_wp2
      go_ret
      exact ⟨by rw [HR.out]; rfl, ⟨_, _, HT.out⟩, hb⟩
    | cons x xs =>
      obtain ⟨b, off, rfl, hbb, hcc⟩ := id h5 (by simp)
      obtain ⟨d0, d1, d2⟩ := hcc 0 x rfl
      simp only [Nat.zero_mul, Nat.add_zero] at d0 d1 d2
      obtain ⟨A2, hsl, hE2⟩ := ed_tail h5 h4
      have hl : (0 : Int) < ((x :: xs).length : Int) := by rw [List.length_cons]; omega
      have hl3 : 0 < (x :: xs).length := by rw [List.length_cons]; omega
      have HXL := Lib.hid (show (x :: xs).length = xs.length + 1 from rfl)
      have hc2 : xs.length ≤ c - 1 := by rw [List.length_cons] at h4; omega
      by_cases g : x.e ≤ i
      · have HD2 : Hid (delDrop xs i = delDrop el i) := by unfold Hid; rw [← HD.out]; simp [delDrop, g]
        have HT2 := Lib.hid (hT.setEds hE2 hc2)
        have HB2 := Lib.hid (hb.setCell (p := ⟨bl, 0, none⟩) hb1 (.slice A2 xs.length (c - 1)))
        generalize (x :: xs).length = n at *
        clear h2 h5 hT hcc hE2 hc2 hb
        go_wp2
        go_roundg xs.length
        case measure => have := HGK.out; have := HXL.out; omega
        case rel => exact ⟨xs, A2, _, rfl, HT2.out, HD2, HB2.out⟩
      · have HDx : Hid (delDrop el i = x :: xs) := by unfold Hid; rw [← HD.out]; simp [delDrop, g]
        have HT2 : Hid (Two wr B bl br (some ⟨b, off, none⟩) Ar c cr vl vr (delDrop el i) er ol or_ ml mr) := by unfold Hid; rw [HDx.out]; exact hT
        have HR : Hid (delRes el i = decide (x.s ≤ i)) := by unfold Hid delRes; rw [HDx.out]
        generalize (x :: xs).length = n at *
        clear h2 h5 hT hcc hE2 hc2 hsl
        by_cases g2 : x.s ≤ i
        · have HR2 : Hid (delRes el i = true) := by unfold Hid; rw [HR.out]; simp [g2]
          go_wp2
          go_ret
          exact ⟨by rw [HR2.out]; rfl, ⟨_, _, HT2.out⟩, hb⟩
        · have HR2 : Hid (delRes el i = false) := by unfold Hid; rw [HR.out]; simp [g2]
          go_wp2
          go_ret
          exact ⟨by rw [HR2.out]; rfl, ⟨_, _, HT2.out⟩, hb⟩
end Go.Proofs.Ytbnoejdhachhhaa
