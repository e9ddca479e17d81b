/-
  slices.symMergeCmpFunc where one side holds one element: the walks.
-/
import Derived.Test.YtbnoejdhachhhabSym
namespace Go.Proofs.Ytbnoejdhachhhab
open Go.RowKit Go.Shelf
set_option linter.unusedVariables false

/-- merged -/
def Mrg (c : Nat → Nat → Int) (d : Array Nat) (a b N : Nat) (d' : Array Nat) : Prop := d'.size = d.size ∧ Sort.PermIn a b d d' ∧ AllLt d' N ∧ Sort.SortedIn (ltC c) a b d'
def MrgPost (W0 : World) (g : Nat) (extra : List Value) (c : Nat → Nat → Int) (d : Array Nat) (a b N : Nat) (e : Ending) (w' : World) : Prop :=
  e = .returned (.tuple #[]) ∧ W0.grownBy w' (some g) ∧ ∃ d', Mrg c d a b N d' ∧ RowG w' g d' extra

set_option maxRecDepth 100000 in
set_option maxHeartbeats 2000000 in
theorem sym_first (W0 : World) (g : Nat) (q1 q2 : Value) (N : Nat) (c : Nat → Nat → Int) (hC : CmpOk W0 g q1 q2 N c) (hS : Sort.SWO (ltC c)) (d : Array Nat) (extra : List Value) (a m b cap : Nat) (w : World)
    (hW : W0.grownBy w (some g)) (hR : RowG w g d extra) (hN : AllLt d N) (hm : d.size ≤ 1000) (ham : a + 1 = m) (hmb : m < b) (hb : b ≤ d.size) (hcap : d.size ≤ cap) (hs : Sort.SortedIn (ltC c) m b d) :
    Calls Try.prog 33 #[.slice (some ⟨g, 0, none⟩) d.size cap, .int .i64 a, .int .i64 m, .int .i64 b, .func (.func 17) #[] #[q1, q2]] w (MrgPost W0 g extra c d a b N) := by
  have HCmp := Lib.hid hC
  obtain ⟨n, hn⟩ : ∃ n, d.size = n := ⟨_, rfl⟩
  have HX := Lib.hid (And.intro hn (And.intro hN hs))
  have HR := Lib.hid hR
  have HW := Lib.hid hW
  rw [hn] at hm hb hcap ⊢
  have HAM := Lib.hid ham
  have e1 : (m : Int) - (a : Int) = 1 := by omega
  have ham2 : a < m := by omega
  clear hR hN hn hW hC hs ham
  go_enter Try.func33, Try.ntmps33
  go_wp2_with fail
  go_loopw [10, 11] (fun vi vj wr => ∃ i j : Nat, m ≤ i ∧ i ≤ j ∧ j ≤ b ∧ vi = .int .i64 i ∧ vj = .int .i64 j ∧ Hid (W0.grownBy wr (some g) ∧ RowG wr g d extra ∧ (i = m ∨ ltC c d[i - 1]! d[a]! = true) ∧ (j = b ∨ ltC c d[j]! d[a]! = false))) (fun vi vj _ => (intOf vj).toNat - (intOf vi).toNat)
  case atStart => exact ⟨m, b, by omega, by omega, by omega, rfl, rfl, HW.out, HR.out, .inl rfl, .inl rfl⟩
  case round =>
    obtain ⟨i, j, hi, hij, hjb, rfl, rfl, HY⟩ := hrel
    clear HW HR
    by_cases hlt : i < j
    · have hltI : (i : Int) < j := by omega
      obtain ⟨h, hh⟩ : ∃ h, h = (i + j) / 2 := ⟨_, rfl⟩
      have s1 : ((i : Int) + (j : Int)) / 2 = (h : Int) := by omega
      obtain ⟨x1, x2, x3⟩ := HX.out
      obtain ⟨y1, y2, y3, y4⟩ := HY.out
      have hhn : h < d.size := by omega
      have han : a < d.size := by omega
      have hhI : (h : Int) < n := by omega
      have haI : (a : Int) < n := by omega
      have c1 := y2.cell h hhn
      have c2 := y2.cell a han
      have hx := x2 h hhn
      have hy := x2 a han
      obtain ⟨x, hxe⟩ : ∃ x, d[h]! = x := ⟨_, rfl⟩
      obtain ⟨y, hye⟩ : ∃ y, d[a]! = y := ⟨_, rfl⟩
      rw [hxe] at c1 hx
      rw [hye] at c2 hy
      have hcall := Lib.hid (HCmp.out wr.drew x y (grown_drewOf y1) hx hy)
      obtain ⟨r, hr⟩ : ∃ r, c x y = r := ⟨_, rfl⟩
      rw [hr] at hcall
      have HH := Lib.hid (show i ≤ h ∧ h < j by omega)
      by_cases hneg : r < 0
      · have HL := Lib.hid (show ltC c d[h + 1 - 1]! d[a]! = true by rw [Nat.add_sub_cancel, hxe, hye]; unfold ltC; rw [hr]; exact decide_eq_true hneg)
        have HZ := Lib.hid (And.intro y1 (And.intro y2 y4))
        clear x1 x2 x3 y1 y2 y3 y4 hxe hye hr hh hhn han HY
        go_wp2_with fail
        refine wp_region_still_tail 9 (by kernel_rfl) (by kernel_rfl) ?_
        simp only [List.take_succ_cons, List.take_zero, List.drop_succ_cons, List.drop_zero]
        repeat still_step
        refine wpStill_nil ?_
        go_wp2_with fail
        refine hcall.out.mono ?_
        rintro e w1 ⟨rfl, hb1⟩
        have HB := Lib.hid hb1
        clear hb1
        go_wp2_with fail
        go_roundw
        case rel => exact ⟨h + 1, j, by have := HH.out; omega, by have := HH.out; omega, hjb, by go_num, rfl, grown_below' (grown_drewOf HZ.out.1) HB.out, HZ.out.2.1.drew.below HB.out, .inr HL.out, HZ.out.2.2⟩
        case measure => have := HH.out; simp [intOf]; omega
      · have HL := Lib.hid (show ltC c d[h]! d[a]! = false by rw [hxe, hye]; unfold ltC; rw [hr]; exact decide_eq_false hneg)
        have HZ := Lib.hid (And.intro y1 (And.intro y2 y3))
        clear x1 x2 x3 y1 y2 y3 y4 hxe hye hr hh hhn han HY
        go_wp2_with fail
        refine wp_region_still_tail 9 (by kernel_rfl) (by kernel_rfl) ?_
        simp only [List.take_succ_cons, List.take_zero, List.drop_succ_cons, List.drop_zero]
        repeat still_step
        refine wpStill_nil ?_
        go_wp2_with fail
        refine hcall.out.mono ?_
        rintro e w1 ⟨rfl, hb1⟩
        have HB := Lib.hid hb1
        clear hb1
        go_wp2_with fail
        go_roundw
        case rel => exact ⟨i, h, hi, HH.out.1, by have := HH.out; omega, rfl, rfl, grown_below' (grown_drewOf HZ.out.1) HB.out, HZ.out.2.1.drew.below HB.out, HZ.out.2.2, .inr HL.out⟩
        case measure => have := HH.out; simp only [intOf, Int.toNat_natCast]; omega
    · obtain rfl : i = j := by omega
      have hi1 : (i : Int) - 1 = ((i - 1 : Nat) : Int) := by omega
      obtain ⟨l, hl⟩ : ∃ l, i - 1 = l := ⟨_, rfl⟩
      rw [hl] at hi1
      have HL := Lib.hid hl
      have HE := Lib.hid (And.intro HY.out.2.2.1 HY.out.2.2.2)
      have HZ := Lib.hid (And.intro HY.out.1 HY.out.2.1)
      clear hl HY
      go_wp2_with fail
      go_loopw [13] (fun vk wr => ∃ k : Nat, a ≤ k ∧ k ≤ l ∧ vk = .int .i64 k ∧ Hid (W0.grownBy wr (some g) ∧ RowG wr g (shU d a (k - a)) extra)) (fun vk _ => l - (intOf vk).toNat)
      case atStart => exact ⟨a, by omega, by have := HL.out; omega, rfl, HZ.out.1, by rw [Nat.sub_self]; exact HZ.out.2⟩
      case round =>
        obtain ⟨k, hk1, hk2, rfl, HY⟩ := hrel
        clear HZ
        have hln : l < n := by have := HL.out; omega
        by_cases hkl : k < l
        · have hklI : (k : Int) < l := by omega
          obtain ⟨q, hq⟩ : ∃ q, q = k + 1 := ⟨_, rfl⟩
          obtain ⟨r, hr⟩ : ∃ r, r = k - a := ⟨_, rfl⟩
          obtain ⟨y1, y2⟩ := HY.out
          rw [← hr] at y2
          obtain ⟨x1, x2, x3⟩ := HX.out
          have hks : k < (shU d a r).size := by rw [shU_size]; omega
          have hqs : q < (shU d a r).size := by rw [shU_size]; omega
          have hkn : (k : Int) < n := by omega
          have hqn : (q : Int) < n := by omega
          have hkq : k ≠ q := by omega
          have s2 : (k : Int) + 1 = (q : Int) := by omega
          have w2 : IntKind.i64.wrap ((k : Int) + 1) = (q : Int) := by rw [IntWalk.i64_in _ (by omega)]; omega
          have w4 : IntKind.i64.wrap (q : Int) = (q : Int) := by rw [IntWalk.i64_in _ (by omega)]
          have c1 := y2.cell k hks
          have c2 := y2.cell q hqs
          have f1 := y2.free k
          have f2 := y2.free q
          have e1 := y2.swap k q hks hqs
          generalize (shU d a r)[k]! = x at *
          generalize (shU d a r)[q]! = y at *
          have HN : Hid (W0.grownBy ((wr.setCell ⟨g, k, none⟩ (.int .i64 (y : Int))).setCell ⟨g, q, none⟩ (.int .i64 (x : Int))) (some g) ∧ RowG ((wr.setCell ⟨g, k, none⟩ (.int .i64 (y : Int))).setCell ⟨g, q, none⟩ (.int .i64 (x : Int))) g (shU d a (q - a)) extra) := by
            refine ⟨grown_set (grown_set y1 _ _) _ _, ?_⟩
            rw [show q - a = r + 1 by omega, shU, show a + r = k by omega, ← hq]
            exact e1
          have HQ := Lib.hid hq
          clear y1 y2 e1 HY hq hr x1 x2 x3 hks hqs
          go_wp2_with fail
          go_region
          all_goals go_wp2_with fail
          all_goals go_roundw
          case rel => exact ⟨q, by have := HQ.out; omega, by have := HQ.out; omega, rfl, by first | exact ⟨grown_drewOf HN.out.1, HN.out.2⟩ | exact HN.out⟩
          case measure => have := HQ.out; simp only [intOf, Int.toNat_natCast]; omega
        · have hklI : (l : Int) ≤ k := by omega
          obtain rfl : k = l := by omega
          have HF : Hid (W0.grownBy wr (some g) ∧ ∃ d', Mrg c d a b N d' ∧ RowG wr g d' extra) := by
            obtain ⟨x1, x2, x3⟩ := HX.out
            have hl := HL.out
            refine ⟨HY.out.1, _, ⟨by rw [shU_size], shU_perm d a a b (Nat.le_refl _) (by omega) _ (by omega), shU_allLt d a N x2 _ (by omega), ?_⟩, HY.out.2⟩
            rw [show k - a = i - 1 - a by omega]
            exact merge_first hS d a m b i HAM.out hi hjb (by omega) x3 HE.out.1 HE.out.2
          clear HY HE
          go_wp2_with fail
          go_end0
          exact ⟨rfl, HF.out⟩
end Go.Proofs.Ytbnoejdhachhhab
