/-
  slices.rotateCmpFunc: plain law, the walk.
-/
import Derived.Test.YtbnoejdhachhhabSwr
namespace Go.Proofs.Ytbnoejdhachhhab
open Go.RowKit Go.Shelf
set_option linter.unusedVariables false

/-- what stands at p when [lo, m) and [m, hi) have changed places -/
def rotAt (d : Array Nat) (lo m hi p : Nat) : Nat := if lo ≤ p ∧ p < hi then (if p < lo + (hi - m) then d[p - lo + m]! else d[p - (hi - m)]!) else d[p]!

theorem rot_gt (d : Array Nat) (m i j : Nat) (hij : j < i) (hj : 0 < j) (hi : i ≤ m) (hs : m + j ≤ d.size) (p : Nat) :
    rotAt d (m - i) m (m + j) p = rotAt (swpR d (m - i) m j) (m - (i - j)) m (m + j) p := by
  have S := swpR_at d (m - i) m j (by omega) (by omega)
  unfold rotAt
  rw [show m + j - m = j by omega]
  by_cases c : m - i ≤ p ∧ p < m + j
  · rw [if_pos c]
    by_cases c1 : p < m - i + j
    · rw [if_pos c1, if_neg (show ¬ (m - (i - j) ≤ p ∧ p < m + j) by omega), S, if_pos (by omega)]
    · rw [if_neg c1, if_pos (show m - (i - j) ≤ p ∧ p < m + j by omega)]
      by_cases c2 : p < m - (i - j) + j
      · have n1 : ¬ (m - i ≤ p - (m - (i - j)) + m ∧ p - (m - (i - j)) + m < m - i + j) := by omega
        have n2 : m ≤ p - (m - (i - j)) + m ∧ p - (m - (i - j)) + m < m + j := by omega
        rw [if_pos c2, S, if_neg n1, if_pos n2]; congr 1; omega
      · have n1 : ¬ (m - i ≤ p - j ∧ p - j < m - i + j) := by omega
        have n2 : ¬ (m ≤ p - j ∧ p - j < m + j) := by omega
        rw [if_neg c2, S, if_neg n1, if_neg n2]
  · have n1 : ¬ (m - i ≤ p ∧ p < m - i + j) := by omega
    have n2 : ¬ (m ≤ p ∧ p < m + j) := by omega
    rw [if_neg c, if_neg (show ¬ (m - (i - j) ≤ p ∧ p < m + j) by omega), S, if_neg n1, if_neg n2]
theorem rot_lt (d : Array Nat) (m i j : Nat) (hij : i < j) (hi0 : 0 < i) (hi : i ≤ m) (hs : m + j ≤ d.size) (p : Nat) :
    rotAt d (m - i) m (m + j) p = rotAt (swpR d (m - i) (m + j - i) i) (m - i) m (m + (j - i)) p := by
  have S := swpR_at d (m - i) (m + j - i) i (by omega) (by omega)
  unfold rotAt
  rw [show m + j - m = j by omega, show m + (j - i) - m = j - i by omega]
  by_cases c : m - i ≤ p ∧ p < m + j
  · rw [if_pos c]
    by_cases c1 : p < m + (j - i)
    · have k1 : p < m - i + j := by omega
      have k2 : m - i ≤ p ∧ p < m + (j - i) := by omega
      rw [if_pos k1, if_pos k2]
      by_cases c2 : p < m - i + (j - i)
      · have n1 : ¬ (m - i ≤ p - (m - i) + m ∧ p - (m - i) + m < m - i + i) := by omega
        have n2 : ¬ (m + j - i ≤ p - (m - i) + m ∧ p - (m - i) + m < m + j - i + i) := by omega
        rw [if_pos c2, S, if_neg n1, if_neg n2]
      · have n1 : m - i ≤ p - (j - i) ∧ p - (j - i) < m - i + i := by omega
        rw [if_neg c2, S, if_pos n1]; congr 1; omega
    · have k1 : ¬ p < m - i + j := by omega
      have k2 : ¬ (m - i ≤ p ∧ p < m + (j - i)) := by omega
      have n1 : ¬ (m - i ≤ p ∧ p < m - i + i) := by omega
      have n2 : m + j - i ≤ p ∧ p < m + j - i + i := by omega
      rw [if_neg k1, if_neg k2, S, if_neg n1, if_pos n2]; congr 1; omega
  · have k2 : ¬ (m - i ≤ p ∧ p < m + (j - i)) := by omega
    have n1 : ¬ (m - i ≤ p ∧ p < m - i + i) := by omega
    have n2 : ¬ (m + j - i ≤ p ∧ p < m + j - i + i) := by omega
    rw [if_neg c, if_neg k2, S, if_neg n1, if_neg n2]
theorem rot_eq (d : Array Nat) (m i : Nat) (hi : i ≤ m) (hs : m + i ≤ d.size) (p : Nat) : rotAt d (m - i) m (m + i) p = (swpR d (m - i) m i)[p]! := by
  have S := swpR_at d (m - i) m i (by omega) (by omega)
  unfold rotAt
  rw [show m + i - m = i by omega, S]
  by_cases c : m - i ≤ p ∧ p < m + i
  · rw [if_pos c]
    by_cases c1 : p < m - i + i
    · have n1 : m - i ≤ p ∧ p < m - i + i := by omega
      rw [if_pos c1, if_pos n1]
    · have n1 : ¬ (m - i ≤ p ∧ p < m - i + i) := by omega
      have n2 : m ≤ p ∧ p < m + i := by omega
      rw [if_neg c1, if_neg n1, if_pos n2]; congr 1; omega
  · have n1 : ¬ (m - i ≤ p ∧ p < m - i + i) := by omega
    have n2 : ¬ (m ≤ p ∧ p < m + i) := by omega
    rw [if_neg c, if_neg n1, if_neg n2]

/-- rotated -/
def Rot (d : Array Nat) (a m b N : Nat) (d' : Array Nat) : Prop := d'.size = d.size ∧ Sort.PermIn a b d d' ∧ AllLt d' N ∧ ∀ p, d'[p]! = rotAt d a m b p

set_option maxRecDepth 100000 in
set_option maxHeartbeats 1000000 in
theorem rot_any (W0 : World) (g : Nat) (fv : Value) (N : Nat) (d : Array Nat) (extra : List Value) (a m b cap : Nat) (w : World)
    (hW : W0.grownBy w (some g)) (hR : RowG w g d extra) (hN : AllLt d N) (hm : d.size ≤ 1000) (ham : a < m) (hmb : m < b) (hb : b ≤ d.size) (hcap : d.size ≤ cap) :
    Calls Try.prog 37 #[.slice (some ⟨g, 0, none⟩) d.size cap, .int .i64 a, .int .i64 m, .int .i64 b, fv] w fun e w' => e = .returned (.tuple #[]) ∧ W0.grownBy w' (some g) ∧ ∃ d', Rot d a m b N d' ∧ RowG w' g d' extra := by
  obtain ⟨n, hn⟩ : ∃ n, d.size = n := ⟨_, rfl⟩
  have HR := Lib.hid hR
  have HW := Lib.hid hW
  have HD := Lib.hid hn
  have HN := Lib.hid hN
  have HS := Lib.hid (fun (d' : Array Nat) (a b k : Nat) (w : World) (h1 : d'.size = n) (hW : W0.grownBy w (some g)) (hR : RowG w g d' extra) (ha : a + k ≤ n) (hb : b + k ≤ n) (hab : a < b) => (h1 ▸ swr_any W0 g fv N d' extra a b k cap w hW hR (by omega) (by omega) (by omega) hab (by omega) : Calls Try.prog 38 #[.slice (some ⟨g, 0, none⟩) n cap, .int .i64 a, .int .i64 b, .int .i64 k, fv] w fun e w' => e = .returned (.tuple #[]) ∧ W0.grownBy w' (some g) ∧ RowG w' g (swpR d' a b k) extra))
  rw [hn] at hm hb hcap ⊢
  obtain ⟨i0, hi0⟩ : ∃ i0, i0 = m - a := ⟨_, rfl⟩
  obtain ⟨j0, hj0⟩ : ∃ j0, j0 = b - m := ⟨_, rfl⟩
  have HI0 := Lib.hid hi0
  have HJ0 := Lib.hid hj0
  have e1 : (m : Int) - (a : Int) = (i0 : Int) := by omega
  have e2 : (b : Int) - (m : Int) = (j0 : Int) := by omega
  clear hR hn hW hN hi0 hj0
  go_enter Try.func37, Try.ntmps37
  go_wp2_with fail
  go_loopw [10, 11] (fun vi vj wr => ∃ (i j : Nat) (d' : Array Nat), 0 < i ∧ 0 < j ∧ i ≤ m - a ∧ j ≤ b - m ∧ vi = .int .i64 i ∧ vj = .int .i64 j ∧ Hid (d'.size = n ∧ W0.grownBy wr (some g) ∧ RowG wr g d' extra ∧ Sort.PermIn a b d d' ∧ AllLt d' N ∧ ∀ p, rotAt d a m b p = rotAt d' (m - i) m (m + j) p)) (fun vi vj _ => (intOf vi).toNat + (intOf vj).toNat)
  case atStart =>
    have h1 := HI0.out
    have h2 := HJ0.out
    exact ⟨i0, j0, d, by omega, by omega, by omega, by omega, rfl, rfl, HD.out, HW.out, HR.out, Sort.permIn_refl _ _ _, HN.out, fun p => by rw [show m - i0 = a by omega, show m + j0 = b by omega]⟩
  case round =>
    obtain ⟨i, j, d', hi, hj, hia, hjb, rfl, rfl, HX⟩ := hrel
    clear HR HW HN e1 e2 HI0 HJ0
    obtain ⟨x1, x2, x3, x4, x5, x6⟩ := HX.out
    obtain ⟨lo, hlo⟩ : ∃ lo, lo = m - i := ⟨_, rfl⟩
    have s1 : (m : Int) - (i : Int) = (lo : Int) := by omega
    by_cases heq : i = j
    · subst heq
      have hcall := Lib.hid (HS.out d' lo m i wr x1 x2 x3 (by omega) (by omega) (by omega))
      have HE := Lib.hid (show Rot d a m b N (swpR d' lo m i) from
        ⟨by rw [swpR_size, x1, HD.out], Sort.permIn_trans _ _ _ _ _ x4 (swpR_perm d' lo m a b (by omega) (by omega) (by omega) i (by omega) (by omega)), swpR_allLt d' lo m N x5 i (by omega) (by omega), fun p => by rw [x6 p, hlo, rot_eq d' m i (by omega) (by omega)]⟩)
      clear x1 x2 x3 x4 x5 x6 HX hlo HS
      go_wp2_with fail
      refine hcall.out.mono ?_
      rintro e w1 ⟨rfl, h1, h2⟩
      have H1 := Lib.hid h1
      have H2 := Lib.hid h2
      clear h1 h2
      go_wp2_with fail
      go_end0
      exact ⟨rfl, H1.out, _, HE.out, H2.out⟩
    · have hne : ¬ j = i := fun h => heq h.symm
      by_cases hgt : j < i
      · obtain ⟨i2, hi2⟩ : ∃ i2, i2 = i - j := ⟨_, rfl⟩
        have s2 : (i : Int) - (j : Int) = (i2 : Int) := by omega
        have hcall := Lib.hid (HS.out d' lo m j wr x1 x2 x3 (by omega) (by omega) (by omega))
        have HE := Lib.hid (show (swpR d' lo m j).size = n ∧ Sort.PermIn a b d (swpR d' lo m j) ∧ AllLt (swpR d' lo m j) N ∧ ∀ p, rotAt d a m b p = rotAt (swpR d' lo m j) (m - i2) m (m + j) p from
          ⟨by rw [swpR_size, x1], Sort.permIn_trans _ _ _ _ _ x4 (swpR_perm d' lo m a b (by omega) (by omega) (by omega) j (by omega) (by omega)), swpR_allLt d' lo m N x5 j (by omega) (by omega), fun p => by rw [x6 p, hlo, rot_gt d' m i j hgt hj (by omega) (by omega), hi2]⟩)
        have HI2 := Lib.hid (show 0 < i2 ∧ i2 ≤ m - a ∧ i2 + j < i + j by omega)
        clear x1 x2 x3 x4 x5 x6 HX hlo HS hi2
        go_wp2_with fail
        refine hcall.out.mono ?_
        rintro e w1 ⟨rfl, h1, h2⟩
        have H1 := Lib.hid h1
        have H2 := Lib.hid h2
        clear h1 h2
        go_wp2_with fail
        go_roundw
        case rel => exact ⟨i2, j, _, HI2.out.1, hj, HI2.out.2.1, hjb, rfl, rfl, HE.out.1, H1.out, H2.out, HE.out.2⟩
        case measure => simp only [intOf, Int.toNat_natCast]; exact HI2.out.2.2
      · obtain ⟨j2, hj2⟩ : ∃ j2, j2 = j - i := ⟨_, rfl⟩
        obtain ⟨q, hq⟩ : ∃ q, q = m + j := ⟨_, rfl⟩
        obtain ⟨q2, hq2⟩ : ∃ q2, q2 = q - i := ⟨_, rfl⟩
        have s2 : (j : Int) - (i : Int) = (j2 : Int) := by omega
        have s3 : (m : Int) + (j : Int) = (q : Int) := by omega
        have s4 : (q : Int) - (i : Int) = (q2 : Int) := by omega
        have hlt : i < j := by omega
        have hcall := Lib.hid (HS.out d' lo q2 i wr x1 x2 x3 (by omega) (by omega) (by omega))
        have HE := Lib.hid (show (swpR d' lo q2 i).size = n ∧ Sort.PermIn a b d (swpR d' lo q2 i) ∧ AllLt (swpR d' lo q2 i) N ∧ ∀ p, rotAt d a m b p = rotAt (swpR d' lo q2 i) (m - i) m (m + j2) p from
          ⟨by rw [swpR_size, x1], Sort.permIn_trans _ _ _ _ _ x4 (swpR_perm d' lo q2 a b (by omega) (by omega) (by omega) i (by omega) (by omega)), swpR_allLt d' lo q2 N x5 i (by omega) (by omega), fun p => by rw [x6 p, hlo, rot_lt d' m i j hlt hi (by omega) (by omega), hj2, hq2, hq]⟩)
        have HI2 := Lib.hid (show 0 < j2 ∧ j2 ≤ b - m ∧ i + j2 < i + j by omega)
        clear x1 x2 x3 x4 x5 x6 HX hlo HS hj2 hq hq2
        go_wp2_with fail
        refine hcall.out.mono ?_
        rintro e w1 ⟨rfl, h1, h2⟩
        have H1 := Lib.hid h1
        have H2 := Lib.hid h2
        clear h1 h2
        go_wp2_with fail
        go_roundw
        case rel => exact ⟨i, j2, _, hi, HI2.out.1, hia, HI2.out.2.1, rfl, rfl, HE.out.1, H1.out, H2.out, HE.out.2⟩
        case measure => simp only [intOf, Int.toNat_natCast]; exact HI2.out.2.2
end Go.Proofs.Ytbnoejdhachhhab
