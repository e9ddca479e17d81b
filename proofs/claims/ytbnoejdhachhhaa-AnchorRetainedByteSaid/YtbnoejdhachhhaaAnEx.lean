/-
  glossatorkeep4.anchorExamples: the walk.
-/
import Derived.Test.YtbnoejdhachhhaaMapAll
namespace Go.Proofs.Ytbnoejdhachhhaa
open Go.RowKit

def exEds : List Ed := [⟨2, 5, ⟨#[120]⟩⟩, ⟨7, 7, ⟨#[121, 121]⟩⟩]
theorem exEds_at (w : World) : EdsAt (w.alloc (.cells #[.int .i64 2, .int .i64 5, .string ⟨#[120]⟩, .int .i64 7, .int .i64 7, .string ⟨#[121, 121]⟩] 31)) (w.alloc (.cells #[.int .i64 2, .int .i64 5, .string ⟨#[120]⟩, .int .i64 7, .int .i64 7, .string ⟨#[121, 121]⟩] 31)).heap.size (some ⟨w.heap.size, 0, none⟩) exEds := by
  intro _
  refine ⟨_, 0, rfl, by simp, fun k x hx => ?_⟩
  simp only [World.cell?_alloc_new]
  match k, hx with
  | 0, hx => simp [exEds] at hx; subst hx; simp
  | 1, hx => simp [exEds] at hx; subst hx; simp
theorem map_ex {A : Option Addr} {w : World} (h : EdsAt w w.heap.size A exEds) (c : Nat) (off : Int) (r : Bool) (p : Int) (hp : mapP exEds off r = p) (he : mapE exEds off = 0) :
    Calls Try.prog 14 #[.slice A 2 c, .int .i64 off, .bool r] w fun e w' => e = .returned (.tuple #[.int .i64 p, .int .i64 0]) ∧ Below w.heap.size w w' := by
  have := map_any A c exEds off r w h (by decide)
  rw [hp, he] at this
  exact this
theorem exEds_val : valA exEds = 0 := by decide +kernel
theorem ints3_at (w : World) (a b c : Int) : IntsAt (w.alloc (.cells #[.int .i64 a, .int .i64 b, .int .i64 c] 3)) (w.alloc (.cells #[.int .i64 a, .int .i64 b, .int .i64 c] 3)).heap.size (some ⟨w.heap.size, 0, none⟩) [a, b, c] := by
  intro _
  refine ⟨_, 0, rfl, by simp, fun k x hx => ?_⟩
  rw [World.cell?_alloc_new]
  match k, hx with
  | 0, hx => simpa using hx
  | 1, hx => simpa using hx
  | 2, hx => simpa using hx

theorem mapRange_ex {A : Option Addr} {w : World} (h : EdsAt w w.heap.size A exEds) (c : Nat) :
    Calls Try.prog 23 #[.slice A 2 c, .int .i64 7, .int .i64 9, .bool true] w fun e w' => e = .returned (.tuple #[.int .i64 5, .int .i64 9, .int .i64 0]) ∧ Below w.heap.size w w' := by
  have := mapRange_any A c exEds 7 9 true w h (by decide) exEds_val (by decide) (by decide)
  rw [show mapOffW exEds 7 (!true) 0 = 5 from by decide +kernel, show mapOffW exEds 9 true 0 = 9 from by decide +kernel] at this
  exact this
theorem mapAll_ex {A D : Option Addr} {w : World} (h : EdsAt w w.heap.size A exEds) (ho : IntsAt w w.heap.size D [0, 6, 8]) (c d : Nat) :
    Calls Try.prog 24 #[.slice A 2 c, .slice D 3 d, .bool false] w fun e w' => ∃ D' d', e = .returned (.tuple #[.slice D' 3 d', .int .i64 0]) ∧ IntsAt w' w'.heap.size D' [0, 4, 8] ∧ Below w.heap.size w w' := by
  have := mapAll_any A D c d exEds [0, 6, 8] false w h ho (by decide) exEds_val (by decide) (by decide)
  rw [show [0, 6, 8].map (fun x => mapOffW exEds x false 0) = [0, 4, 8] from by decide +kernel] at this
  exact this

set_option maxHeartbeats 1000000 in
set_option maxRecDepth 100000 in
theorem anEx (w : World) : Calls Try.prog 13 #[] w fun e w' => e = .returned (.bool true) ∧ Below w.heap.size w w' := by
  have h0 := exEds_at w
  have b0 : Below w.heap.size w (w.alloc (.cells #[.int .i64 2, .int .i64 5, .string ⟨#[120]⟩, .int .i64 7, .int .i64 7, .string ⟨#[121, 121]⟩] 31)) := (Below.refl _ _).alloc (Nat.le_refl _) _
  go_enter Try.func13, Try.ntmps13
  go_wp2_with fail
  generalize (w.alloc (.cells #[.int .i64 2, .int .i64 5, .string ⟨#[120]⟩, .int .i64 7, .int .i64 7, .string ⟨#[121, 121]⟩] 31)) = w0 at *
  refine (map_ex h0 _ 3 false 2 (by decide +kernel) (by decide +kernel)).mono ?_
  rintro e w1 ⟨rfl, hb1⟩
  have h1 := (h0.below hb1).more hb1.size
  have b1 := b0.trans (hb1.mono b0.size)
  go_wp2_with fail
  refine (map_ex h1 _ 3 true 3 (by decide +kernel) (by decide +kernel)).mono ?_
  rintro e w2 ⟨rfl, hb2⟩
  have h2 := (h1.below hb2).more hb2.size
  have b2 := b1.trans (hb2.mono b1.size)
  go_wp2_with fail
  refine (map_ex h2 _ 7 false 5 (by decide +kernel) (by decide +kernel)).mono ?_
  rintro e w3 ⟨rfl, hb3⟩
  have h3 := (h2.below hb3).more hb3.size
  have b3 := b2.trans (hb3.mono b2.size)
  go_wp2_with fail
  refine (map_ex h3 _ 7 true 7 (by decide +kernel) (by decide +kernel)).mono ?_
  rintro e w4 ⟨rfl, hb4⟩
  have h4 := (h3.below hb4).more hb4.size
  have b4 := b3.trans (hb4.mono b3.size)
  go_wp2_with fail
  refine (mapRange_ex h4 _).mono ?_
  rintro e w5 ⟨rfl, hb5⟩
  have h5 := (h4.below hb5).more hb5.size
  have b5 := b4.trans (hb5.mono b4.size)
  go_wp2_with fail
  have i5 := ints3_at w5 0 6 8
  have hb6 : Below w5.heap.size w5 (w5.alloc (.cells #[.int .i64 0, .int .i64 6, .int .i64 8] 3)) := (Below.refl _ _).alloc (Nat.le_refl _) _
  have h6 := (h5.below hb6).more hb6.size
  have b6 := b5.trans (hb6.mono b5.size)
  refine (mapAll_ex h6 i5 _ _).mono ?_
  rintro e w7 ⟨D', d', rfl, hi7, hb7⟩
  have b7 := b6.trans (hb7.mono b6.size)
  go_wp2_with fail
  have i8 := ints3_at w7 0 4 8
  have hb8 : Below w7.heap.size w7 (w7.alloc (.cells #[.int .i64 0, .int .i64 4, .int .i64 8] 3)) := (Below.refl _ _).alloc (Nat.le_refl _) _
  have b8 := b7.trans (hb8.mono b7.size)
  refine (eqInts_any D' _ d' _ [0, 4, 8] [0, 4, 8] _ ((hi7.below hb8).more hb8.size) i8 (by decide) rfl).mono ?_
  rintro e w9 ⟨rfl, hb9⟩
  go_wp2_with fail
  go_ret
  exact ⟨rfl, b8.trans (hb9.mono b8.size)⟩
end Go.Proofs.Ytbnoejdhachhhaa
