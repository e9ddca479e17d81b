/-
  glossatorkeep4.texteditExamples: the walk.
-/
import Derived.Test.YtbnoejdhachhhaaTrfA
import Derived.ProofKit
namespace Go.Proofs.Ytbnoejdhachhhaa
open Go.RowKit

theorem eds1_at (w : World) (s e : Int) (t : ByteArray) : EdsAt (w.alloc (.cells #[.int .i64 s, .int .i64 e, .string t] 31)) (w.alloc (.cells #[.int .i64 s, .int .i64 e, .string t] 31)).heap.size (some ⟨w.heap.size, 0, none⟩) [⟨s, e, t⟩] := by
  intro _
  refine ⟨_, 0, rfl, by simp, fun k x hx => ?_⟩
  simp only [World.cell?_alloc_new]
  match k, hx with
  | 0, hx => simp at hx; subst hx; simp
theorem eds2_at (w : World) (s e : Int) (t : ByteArray) (s' e' : Int) (t' : ByteArray) : EdsAt (w.alloc (.cells #[.int .i64 s, .int .i64 e, .string t, .int .i64 s', .int .i64 e', .string t'] 31)) (w.alloc (.cells #[.int .i64 s, .int .i64 e, .string t, .int .i64 s', .int .i64 e', .string t'] 31)).heap.size (some ⟨w.heap.size, 0, none⟩) [⟨s, e, t⟩, ⟨s', e', t'⟩] := by
  intro _
  refine ⟨_, 0, rfl, by simp, fun k x hx => ?_⟩
  simp only [World.cell?_alloc_new]
  match k, hx with
  | 0, hx => simp at hx; subst hx; simp
  | 1, hx => simp at hx; subst hx; simp

def xSrc : ByteArray := ⟨#[97, 98, 99, 100, 101, 102]⟩
def xSrc3 : ByteArray := ⟨#[97, 98, 99]⟩
def xEds : List Ed := [⟨1, 2, ⟨#[120, 121]⟩⟩, ⟨4, 4, ⟨#[122]⟩⟩]
def xSec : List Ed := [⟨2, 4, ⟨#[]⟩⟩]
def xL : List Ed := [⟨1, 1, ⟨#[49]⟩⟩]
def xR : List Ed := [⟨0, 2, ⟨#[50]⟩⟩]

set_option maxRecDepth 100000 in
theorem x_val : valT xSrc.size xEds = 0 := by decide +kernel
set_option maxRecDepth 100000 in
theorem x_apply : applyB xSrc xEds = ⟨#[97, 120, 121, 99, 100, 122, 101, 102]⟩ := by kernel_rfl
set_option maxRecDepth 100000 in
theorem x_inv : invE xSrc xEds = [⟨1, 3, ⟨#[98]⟩⟩, ⟨5, 6, ⟨#[]⟩⟩] := by kernel_rfl
set_option maxRecDepth 100000 in
theorem x_compC : compC xSrc xEds xSec = 0 := by kernel_rfl
set_option maxRecDepth 100000 in
theorem x_comp : compL xSrc xEds xSec = [⟨1, 3, ⟨#[120]⟩⟩, ⟨4, 4, ⟨#[122]⟩⟩] := by kernel_rfl
set_option maxRecDepth 100000 in
theorem x_trfC : trfC xSrc3 xL xR = 0 := by kernel_rfl
set_option maxRecDepth 100000 in
theorem x_trfL : trfL xSrc3 xL xR = [⟨1, 1, ⟨#[49]⟩⟩] := by kernel_rfl
set_option maxRecDepth 100000 in
theorem x_trfR : trfR xSrc3 xL xR = [⟨0, 1, ⟨#[50]⟩⟩, ⟨2, 3, ⟨#[]⟩⟩] := by kernel_rfl

theorem sh_x : Short xEds := by intro x hx; simp [xEds] at hx; rcases hx with rfl | rfl <;> decide
theorem sh_s : Short xSec := by intro x hx; simp [xSec] at hx; subst hx; decide
theorem sh_l : Short xL := by intro x hx; simp [xL] at hx; subst hx; decide
theorem sh_r : Short xR := by intro x hx; simp [xR] at hx; subst hx; decide

theorem applyEx {A : Option Addr} {w : World} (h : EdsAt w w.heap.size A xEds) (c : Nat) :
    Calls Try.prog 16 #[.string ⟨#[97, 98, 99, 100, 101, 102]⟩, .slice A 2 c] w fun e w' => e = .returned (.tuple #[.string ⟨#[97, 120, 121, 99, 100, 122, 101, 102]⟩, .int .i64 0]) ∧ Below w.heap.size w w' := by
  have := apply_any xSrc A c xEds w h (by decide) sh_x (by decide)
  rw [x_apply, x_val] at this
  exact this
theorem invEx {A : Option Addr} {w : World} (h : EdsAt w w.heap.size A xEds) (c : Nat) :
    Calls Try.prog 15 #[.string ⟨#[97, 98, 99, 100, 101, 102]⟩, .slice A 2 c] w fun e w' => ∃ A' c', e = .returned (.tuple #[.slice A' 2 c', .int .i64 0]) ∧ EdsAt w' w'.heap.size A' [⟨1, 3, ⟨#[98]⟩⟩, ⟨5, 6, ⟨#[]⟩⟩] ∧ Below w.heap.size w w' := by
  have := inv_any xSrc A c xEds w h (by decide) sh_x (by decide)
  rw [x_inv, x_val] at this
  exact this
theorem compEx {A D : Option Addr} {w : World} (h : EdsAt w w.heap.size A xEds) (h' : EdsAt w w.heap.size D xSec) (c d : Nat) :
    Calls Try.prog 18 #[.string ⟨#[97, 98, 99, 100, 101, 102]⟩, .slice A 2 c, .slice D 1 d] w fun e w' => ∃ A' c', e = .returned (.tuple #[.slice A' 2 c', .int .i64 0]) ∧ EdsAt w' w'.heap.size A' [⟨1, 3, ⟨#[120]⟩⟩, ⟨4, 4, ⟨#[122]⟩⟩] ∧ Below w.heap.size w w' := by
  have := comp_any xSrc A D c d xEds xSec w h h' (by decide) (by decide) sh_x sh_s (by decide)
  rw [x_comp, x_compC] at this
  exact this
theorem trfEx {A D : Option Addr} {w : World} (h : EdsAt w w.heap.size A xL) (h' : EdsAt w w.heap.size D xR) :
    Calls Try.prog 21 #[.string ⟨#[97, 98, 99]⟩, .slice A 1 1, .slice D 1 1] w fun e w' => ∃ A' c' D' d', e = .returned (.tuple #[.slice A' 1 c', .slice D' 2 d', .int .i64 0]) ∧
      EdsAt w' w'.heap.size A' [⟨1, 1, ⟨#[49]⟩⟩] ∧ EdsAt w' w'.heap.size D' [⟨0, 1, ⟨#[50]⟩⟩, ⟨2, 3, ⟨#[]⟩⟩] ∧ Below w.heap.size w w' := by
  have := trf_any xSrc3 A D 1 1 xL xR w h h' (by decide) (by decide) (by decide) (by decide) sh_l sh_r (by decide)
  rw [x_trfL, x_trfR, x_trfC] at this
  exact this

set_option maxHeartbeats 1000000 in
set_option maxRecDepth 100000 in
theorem txEx (w : World) : Calls Try.prog 19 #[] w fun e w' => e = .returned (.bool true) ∧ Below w.heap.size w w' := by
  have h0 := eds2_at w 1 2 ⟨#[120, 121]⟩ 4 4 ⟨#[122]⟩
  have b0 : Below w.heap.size w (w.alloc (.cells #[.int .i64 1, .int .i64 2, .string ⟨#[120, 121]⟩, .int .i64 4, .int .i64 4, .string ⟨#[122]⟩] 31)) := (Below.refl _ _).alloc (Nat.le_refl _) _
  go_enter Try.func19, Try.ntmps19
  go_wp2_with fail
  generalize (w.alloc (.cells #[.int .i64 1, .int .i64 2, .string ⟨#[120, 121]⟩, .int .i64 4, .int .i64 4, .string ⟨#[122]⟩] 31)) = w0 at *
  refine (applyEx h0 _).mono ?_
  rintro e w1 ⟨rfl, hb1⟩
  have h1 := (h0.below hb1).more hb1.size
  have b1 := b0.trans (hb1.mono b0.size)
  go_wp2_with fail
  refine (invEx h1 _).mono ?_
  rintro e w2 ⟨A2, c2, rfl, i2, hb2⟩
  have h2 := (h1.below hb2).more hb2.size
  have b2 := b1.trans (hb2.mono b1.size)
  go_wp2_with fail
  have g3 := eds1_at w2 2 4 ⟨#[]⟩
  have hb3 : Below w2.heap.size w2 (w2.alloc (.cells #[.int .i64 2, .int .i64 4, .string ⟨#[]⟩] 31)) := (Below.refl _ _).alloc (Nat.le_refl _) _
  have h3 := (h2.below hb3).more hb3.size
  have i3 := (i2.below hb3).more hb3.size
  have b3 := b2.trans (hb3.mono b2.size)
  generalize (w2.alloc (.cells #[.int .i64 2, .int .i64 4, .string ⟨#[]⟩] 31)) = w3 at *
  refine (compEx h3 g3 _ _).mono ?_
  rintro e w4 ⟨A4, c4, rfl, j4, hb4⟩
  have i4 := (i3.below hb4).more hb4.size
  have b4 := b3.trans (hb4.mono b3.size)
  clear h0 h1 h2 h3 hb1 hb2 hb3 i2 b0 b1 b2 b3 g3 i3 hb4
  have g5 := eds1_at w4 1 1 ⟨#[49]⟩
  have hb5 : Below w4.heap.size w4 (w4.alloc (.cells #[.int .i64 1, .int .i64 1, .string ⟨#[49]⟩] 31)) := (Below.refl _ _).alloc (Nat.le_refl _) _
  have hw5 : (w4.alloc (.cells #[.int .i64 1, .int .i64 1, .string ⟨#[49]⟩] 31)).heap.size = w4.heap.size + 1 := by simp
  have HW5 := Lib.hid hw5
  go_wp2_with fail
  clear hw5
  generalize (w4.alloc (.cells #[.int .i64 1, .int .i64 1, .string ⟨#[49]⟩] 31)) = w5 at *
  have g6 := eds1_at w5 0 2 ⟨#[50]⟩
  have hb6 : Below w5.heap.size w5 (w5.alloc (.cells #[.int .i64 0, .int .i64 2, .string ⟨#[50]⟩] 31)) := (Below.refl _ _).alloc (Nat.le_refl _) _
  have i5 := (i4.below hb5).more hb5.size
  have j5 := (j4.below hb5).more hb5.size
  have b5 := b4.trans (hb5.mono b4.size)
  have i6 := (i5.below hb6).more hb6.size
  have j6 := (j5.below hb6).more hb6.size
  have g5' := (g5.below hb6).more hb6.size
  have b6 := b5.trans (hb6.mono b5.size)
  rw [HW5.out] at g6
  clear i4 j4 i5 j5 b4 b5 hb5 hb6 g5
  generalize (w5.alloc (.cells #[.int .i64 0, .int .i64 2, .string ⟨#[50]⟩] 31)) = w6 at *
  refine (trfEx g5' g6).mono ?_
  rintro e w7 ⟨A7, c7, D7, d7, rfl, m7, n7, hb7⟩
  have i7 := (i6.below hb7).more hb7.size
  have j7 := (j6.below hb7).more hb7.size
  have b7 := b6.trans (hb7.mono b6.size)
  clear i6 j6 g5' g6 hb7 b6
  go_wp2_with fail
  have g8 := eds2_at w7 1 3 ⟨#[98]⟩ 5 6 ⟨#[]⟩
  have hb8 : Below w7.heap.size w7 (w7.alloc (.cells #[.int .i64 1, .int .i64 3, .string ⟨#[98]⟩, .int .i64 5, .int .i64 6, .string ⟨#[]⟩] 31)) := (Below.refl _ _).alloc (Nat.le_refl _) _
  have i8 := (i7.below hb8).more hb8.size
  have j8 := (j7.below hb8).more hb8.size
  have m8 := (m7.below hb8).more hb8.size
  have n8 := (n7.below hb8).more hb8.size
  have b8 := b7.trans (hb8.mono b7.size)
  clear i7 j7 m7 n7 b7
  generalize (w7.alloc (.cells #[.int .i64 1, .int .i64 3, .string ⟨#[98]⟩, .int .i64 5, .int .i64 6, .string ⟨#[]⟩] 31)) = w8 at *
  refine (eqEds_any A2 _ c2 _ [⟨1, 3, ⟨#[98]⟩⟩, ⟨5, 6, ⟨#[]⟩⟩] [⟨1, 3, ⟨#[98]⟩⟩, ⟨5, 6, ⟨#[]⟩⟩] _ i8 g8 (by simp [maxLen]) rfl).mono ?_
  rintro e w9 ⟨rfl, hb9⟩
  have j9 := (j8.below hb9).more hb9.size
  have m9 := (m8.below hb9).more hb9.size
  have n9 := (n8.below hb9).more hb9.size
  have b9 := b8.trans (hb9.mono b8.size)
  clear i8 j8 m8 n8 b8 hb8 hb9 g8
  go_wp2_with fail
  have g10 := eds2_at w9 1 3 ⟨#[120]⟩ 4 4 ⟨#[122]⟩
  have hb10 : Below w9.heap.size w9 (w9.alloc (.cells #[.int .i64 1, .int .i64 3, .string ⟨#[120]⟩, .int .i64 4, .int .i64 4, .string ⟨#[122]⟩] 31)) := (Below.refl _ _).alloc (Nat.le_refl _) _
  have j10 := (j9.below hb10).more hb10.size
  have m10 := (m9.below hb10).more hb10.size
  have n10 := (n9.below hb10).more hb10.size
  have b10 := b9.trans (hb10.mono b9.size)
  clear j9 m9 n9 b9
  generalize (w9.alloc (.cells #[.int .i64 1, .int .i64 3, .string ⟨#[120]⟩, .int .i64 4, .int .i64 4, .string ⟨#[122]⟩] 31)) = w10 at *
  refine (eqEds_any A4 _ c4 _ [⟨1, 3, ⟨#[120]⟩⟩, ⟨4, 4, ⟨#[122]⟩⟩] [⟨1, 3, ⟨#[120]⟩⟩, ⟨4, 4, ⟨#[122]⟩⟩] _ j10 g10 (by simp [maxLen]) rfl).mono ?_
  rintro e w11 ⟨rfl, hb11⟩
  have m11 := (m10.below hb11).more hb11.size
  have n11 := (n10.below hb11).more hb11.size
  have b11 := b10.trans (hb11.mono b10.size)
  clear j10 m10 n10 b10 hb10 hb11 g10
  go_wp2_with fail
  have g12 := eds1_at w11 1 1 ⟨#[49]⟩
  have hb12 : Below w11.heap.size w11 (w11.alloc (.cells #[.int .i64 1, .int .i64 1, .string ⟨#[49]⟩] 31)) := (Below.refl _ _).alloc (Nat.le_refl _) _
  have m12 := (m11.below hb12).more hb12.size
  have n12 := (n11.below hb12).more hb12.size
  have b12 := b11.trans (hb12.mono b11.size)
  clear m11 n11 b11
  generalize (w11.alloc (.cells #[.int .i64 1, .int .i64 1, .string ⟨#[49]⟩] 31)) = w12 at *
  refine (eqEds_any A7 _ c7 _ [⟨1, 1, ⟨#[49]⟩⟩] [⟨1, 1, ⟨#[49]⟩⟩] _ m12 g12 (by simp [maxLen]) rfl).mono ?_
  rintro e w13 ⟨rfl, hb13⟩
  have n13 := (n12.below hb13).more hb13.size
  have b13 := b12.trans (hb13.mono b12.size)
  clear m12 n12 b12 hb12 hb13 g12
  go_wp2_with fail
  have g14 := eds2_at w13 0 1 ⟨#[50]⟩ 2 3 ⟨#[]⟩
  have hb14 : Below w13.heap.size w13 (w13.alloc (.cells #[.int .i64 0, .int .i64 1, .string ⟨#[50]⟩, .int .i64 2, .int .i64 3, .string ⟨#[]⟩] 31)) := (Below.refl _ _).alloc (Nat.le_refl _) _
  have n14 := (n13.below hb14).more hb14.size
  have b14 := b13.trans (hb14.mono b13.size)
  clear n13 b13
  generalize (w13.alloc (.cells #[.int .i64 0, .int .i64 1, .string ⟨#[50]⟩, .int .i64 2, .int .i64 3, .string ⟨#[]⟩] 31)) = w14 at *
  refine (eqEds_any D7 _ d7 _ [⟨0, 1, ⟨#[50]⟩⟩, ⟨2, 3, ⟨#[]⟩⟩] [⟨0, 1, ⟨#[50]⟩⟩, ⟨2, 3, ⟨#[]⟩⟩] _ n14 g14 (by simp [maxLen]) rfl).mono ?_
  rintro e w15 ⟨rfl, hb15⟩
  have b15 := b14.trans (hb15.mono b14.size)
  clear n14 b14 hb14 hb15 g14
  go_wp2_with fail
  go_ret
  exact ⟨rfl, b15⟩
end Go.Proofs.Ytbnoejdhachhhaa
