/-
  slices.symMergeCmpFunc where the right side holds one element: the walk.
-/
import Derived.Test.YtbnoejdhachhhabSya
namespace Go.Proofs.Ytbnoejdhachhhab
open Go.RowKit Go.Shelf
set_option linter.unusedVariables false

set_option maxRecDepth 100000 in
set_option maxHeartbeats 2000000 in
theorem sym_last (W0 : World) (g : Nat) (q1 q2 : Value) (N : Nat) (c : Nat → Nat → Int) (hC : CmpOk W0 g q1 q2 N c) (hS : Sort.SWO (ltC c)) (d : Array Nat) (extra : List Value) (a m b cap : Nat) (w : World)
    (hW : W0.grownBy w (some g)) (hR : RowG w g d extra) (hN : AllLt d N) (hm : d.size ≤ 1000) (ham : a + 1 < m) (hmb : m + 1 = b) (hb : b ≤ d.size) (hcap : d.size ≤ cap) (hs : Sort.SortedIn (ltC c) a m d) :
    Calls Try.prog 33 #[.slice (some ⟨g, 0, none⟩) d.size cap, .int .i64 a, .int .i64 m, .int .i64 b, .func (.func 17) #[] #[q1, q2]] w (MrgPost W0 g extra c d a b N) := by
  have HCmp := Lib.hid hC
  obtain ⟨n, hn⟩ : ∃ n, d.size = n := ⟨_, rfl⟩
  have HX := Lib.hid (And.intro hn (And.intro hN hs))
  have HR := Lib.hid hR
  have HW := Lib.hid hW
  rw [hn] at hm hb hcap ⊢
  have HMB := Lib.hid hmb
  obtain ⟨u, hu⟩ : ∃ u, u = m - a := ⟨_, rfl⟩
  have e1 : (m : Int) - (a : Int) = (u : Int) := by omega
  have e2 : (b : Int) - (m : Int) = 1 := by omega
  have e3 : ((u : Int) == 1) = false := beq_eq_false_iff_ne.2 (by omega)
  have e4 : ¬ u = 1 := by omega
  have hmb2 : m < b := by omega
  clear hR hN hn hW hC hs hmb hu
  go_enter Try.func33, Try.ntmps33
  go_wp2_with fail
  go_loopw [14, 15] (fun vi vj wr => ∃ i j : Nat, a ≤ i ∧ i ≤ j ∧ j ≤ m ∧ vi = .int .i64 i ∧ vj = .int .i64 j ∧ Hid (W0.grownBy wr (some g) ∧ RowG wr g d extra ∧ (i = a ∨ ltC c d[m]! d[i - 1]! = false) ∧ (j = m ∨ ltC c d[m]! d[j]! = true))) (fun vi vj _ => (intOf vj).toNat - (intOf vi).toNat)
  case atStart => exact ⟨a, m, by omega, by omega, by omega, rfl, rfl, HW.out, HR.out, .inl rfl, .inl rfl⟩
  case round =>
    obtain ⟨i, j, hi, hij, hjb, rfl, rfl, HY⟩ := hrel
    clear HW HR
    by_cases hlt : i < j
    · have hltI : (i : Int) < j := by omega
      obtain ⟨h, hh⟩ : ∃ h, h = (i + j) / 2 := ⟨_, rfl⟩
      have s1 : ((i : Int) + (j : Int)) / 2 = (h : Int) := by omega
      obtain ⟨x1, x2, x3⟩ := HX.out
      obtain ⟨y1, y2, y3, y4⟩ := HY.out
      have hhn : h < d.size := by omega
      have han : m < d.size := by omega
      have hhI : (h : Int) < n := by omega
      have haI : (m : Int) < n := by omega
      have c1 := y2.cell h hhn
      have c2 := y2.cell m han
      have hx := x2 h hhn
      have hy := x2 m han
      obtain ⟨x, hxe⟩ : ∃ x, d[h]! = x := ⟨_, rfl⟩
      obtain ⟨y, hye⟩ : ∃ y, d[m]! = y := ⟨_, rfl⟩
      rw [hxe] at c1 hx
      rw [hye] at c2 hy
      have hcall := Lib.hid (HCmp.out wr.drew y x (grown_drewOf y1) hy hx)
      obtain ⟨r, hr⟩ : ∃ r, c y x = r := ⟨_, rfl⟩
      rw [hr] at hcall
      have HH := Lib.hid (show i ≤ h ∧ h < j by omega)
      by_cases hneg : r < 0
      · have HL := Lib.hid (show ltC c d[m]! d[h]! = true by rw [hxe, hye]; unfold ltC; rw [hr]; exact decide_eq_true hneg)
        have HZ := Lib.hid (And.intro y1 (And.intro y2 y3))
        clear x1 x2 x3 y1 y2 y3 y4 hxe hye hr hh hhn han HY
        go_wp2_with fail
        refine wp_region_still_tail 9 (by kernel_rfl) (by kernel_rfl) ?_
        simp only [List.take_succ_cons, List.take_zero, List.drop_succ_cons, List.drop_zero]
        repeat still_step
        refine wpStill_nil ?_
        go_wp2_with fail
        refine hcall.out.mono ?_
        rintro e w1 ⟨rfl, hb1⟩
        have HB := Lib.hid hb1
        clear hb1
        go_wp2_with fail
        go_roundw
        case rel => exact ⟨i, h, hi, HH.out.1, by have := HH.out; omega, rfl, rfl, grown_below' (grown_drewOf HZ.out.1) HB.out, HZ.out.2.1.drew.below HB.out, HZ.out.2.2, .inr HL.out⟩
        case measure => have := HH.out; simp only [intOf, Int.toNat_natCast]; omega
      · have hd1 : decide (r < 0) = false := decide_eq_false hneg
        have hd2 : 0 ≤ r := by omega
        have HL := Lib.hid (show ltC c d[m]! d[h + 1 - 1]! = false by rw [Nat.add_sub_cancel, hxe, hye]; unfold ltC; rw [hr]; exact decide_eq_false hneg)
        have HZ := Lib.hid (And.intro y1 (And.intro y2 y4))
        clear x1 x2 x3 y1 y2 y3 y4 hxe hye hr hh hhn han HY
        go_wp2_with fail
        refine wp_region_still_tail 9 (by kernel_rfl) (by kernel_rfl) ?_
        simp only [List.take_succ_cons, List.take_zero, List.drop_succ_cons, List.drop_zero]
        repeat still_step
        refine wpStill_nil ?_
        go_wp2_with fail
        refine hcall.out.mono ?_
        rintro e w1 ⟨rfl, hb1⟩
        have HB := Lib.hid hb1
        clear hb1
        go_wp2_with fail
        go_roundw
        case rel => exact ⟨h + 1, j, by have := HH.out; omega, by have := HH.out; omega, hjb, by go_num, rfl, grown_below' (grown_drewOf HZ.out.1) HB.out, HZ.out.2.1.drew.below HB.out, .inr HL.out, HZ.out.2.2⟩
        case measure => have := HH.out; simp [intOf]; omega
    · obtain rfl : i = j := by omega
      have HE := Lib.hid (And.intro HY.out.2.2.1 HY.out.2.2.2)
      have HZ := Lib.hid (And.intro HY.out.1 HY.out.2.1)
      clear HY
      go_wp2_with fail
      go_loopw [17] (fun vk wr => ∃ k : Nat, i ≤ k ∧ k ≤ m ∧ vk = .int .i64 k ∧ Hid (W0.grownBy wr (some g) ∧ RowG wr g (shD d m (m - k)) extra)) (fun vk _ => (intOf vk).toNat - i)
      case atStart => exact ⟨m, by omega, by omega, rfl, HZ.out.1, by rw [Nat.sub_self]; exact HZ.out.2⟩
      case round =>
        obtain ⟨k, hk1, hk2, rfl, HY⟩ := hrel
        clear HZ
        by_cases hkl : i < k
        · have hklI : (i : Int) < k := by omega
          obtain ⟨q, hq⟩ : ∃ q, q = k - 1 := ⟨_, rfl⟩
          obtain ⟨r, hr⟩ : ∃ r, r = m - k := ⟨_, rfl⟩
          obtain ⟨y1, y2⟩ := HY.out
          rw [← hr] at y2
          obtain ⟨x1, x2, x3⟩ := HX.out
          have hks : k < (shD d m r).size := by rw [shD_size]; omega
          have hqs : q < (shD d m r).size := by rw [shD_size]; omega
          have hkn : (k : Int) < n := by omega
          have hqn : (q : Int) < n := by omega
          have hkq : k ≠ q := by omega
          have s2 : (k : Int) - 1 = (q : Int) := by omega
          have w2 : IntKind.i64.wrap ((k : Int) - 1) = (q : Int) := by rw [IntWalk.i64_in _ (by omega)]; omega
          have w4 : IntKind.i64.wrap (q : Int) = (q : Int) := by rw [IntWalk.i64_in _ (by omega)]
          have c1 := y2.cell k hks
          have c2 := y2.cell q hqs
          have f1 := y2.free k
          have f2 := y2.free q
          have e1 := y2.swap k q hks hqs
          generalize (shD d m r)[k]! = x at *
          generalize (shD d m r)[q]! = y at *
          have HN : Hid (W0.grownBy ((wr.setCell ⟨g, k, none⟩ (.int .i64 (y : Int))).setCell ⟨g, q, none⟩ (.int .i64 (x : Int))) (some g) ∧ RowG ((wr.setCell ⟨g, k, none⟩ (.int .i64 (y : Int))).setCell ⟨g, q, none⟩ (.int .i64 (x : Int))) g (shD d m (m - q)) extra) := by
            refine ⟨grown_set (grown_set y1 _ _) _ _, ?_⟩
            rw [show m - q = r + 1 by omega, shD, show m - r = k by omega, ← hq]
            exact e1
          have HQ := Lib.hid hq
          clear y1 y2 e1 HY hq hr x1 x2 x3 hks hqs
          go_wp2_with fail
          go_region
          all_goals go_wp2_with fail
          all_goals go_roundw
          case rel => exact ⟨q, by have := HQ.out; omega, by have := HQ.out; omega, rfl, by first | exact ⟨grown_drewOf HN.out.1, HN.out.2⟩ | exact HN.out⟩
          case measure => have := HQ.out; simp only [intOf, Int.toNat_natCast]; omega
        · have hklI : (k : Int) ≤ i := by omega
          obtain rfl : k = i := by omega
          have HF : Hid (W0.grownBy wr (some g) ∧ ∃ d', Mrg c d a b N d' ∧ RowG wr g d' extra) := by
            obtain ⟨x1, x2, x3⟩ := HX.out
            exact ⟨HY.out.1, _, ⟨by rw [shD_size], shD_perm d m a b (by omega) (by omega) _ (by omega), shD_allLt d m N x2 (by omega) _ (by omega), merge_last hS d a m b k HMB.out hi hjb (by omega) x3 HE.out.1 HE.out.2⟩, HY.out.2⟩
          clear HY HE
          go_wp2_with fail
          go_end0
          exact ⟨rfl, HF.out⟩
end Go.Proofs.Ytbnoejdhachhhab
