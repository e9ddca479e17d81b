/-
  slices.symMergeCmpFunc: the general case, the recursion.
-/
import Derived.Test.YtbnoejdhachhhabSyb
import Derived.Deep.DeepCutAuto
namespace Go.Proofs.Ytbnoejdhachhhab
open Go.RowKit Go.Shelf
set_option linter.unusedVariables false

def SymAt (W0 : World) (g : Nat) (q1 q2 : Value) (N : Nat) (c : Nat → Nat → Int) (extra : List Value) (n cap k : Nat) : Prop :=
  ∀ (d : Array Nat) (a m b : Nat) (w : World), b - a ≤ k → d.size = n → W0.grownBy w (some g) → RowG w g d extra → AllLt d N → a < m → m < b → b ≤ n → Sort.SortedIn (ltC c) a m d → Sort.SortedIn (ltC c) m b d →
    Calls Try.prog 33 #[.slice (some ⟨g, 0, none⟩) n cap, .int .i64 a, .int .i64 m, .int .i64 b, .func (.func 17) #[] #[q1, q2]] w (MrgPost W0 g extra c d a b N)

/-- what the cut leaves for the two halves -/
def Cuts (lt : Nat → Nat → Bool) (d1 : Array Nat) (a mid b s e m : Nat) : Prop :=
  a ≤ s ∧ s ≤ mid ∧ s ≤ m ∧ m ≤ e ∧ mid ≤ e ∧ e ≤ b ∧ Sort.SortedIn lt a s d1 ∧ Sort.SortedIn lt s mid d1 ∧ Sort.SortedIn lt mid e d1 ∧ Sort.SortedIn lt e b d1 ∧ Cross lt a mid b d1
theorem Cuts.right {lt : Nat → Nat → Bool} {d1 d2 : Array Nat} {a mid b s e m : Nat} (h : Cuts lt d1 a mid b s e m) (p : Sort.PermIn a mid d1 d2) : Sort.SortedIn lt mid e d2 ∧ Sort.SortedIn lt e b d2 := by
  obtain ⟨b1, b2, b3, b4, b5, b6, _, _, s3, s4, _⟩ := h
  have e2 : ∀ j, mid ≤ j → d2[j]! = d1[j]! := fun j q => p.2.1 j (.inr q)
  exact ⟨fun i j q1 q2 q3 => by rw [e2 i q1, e2 j (by omega)]; exact s3 i j q1 q2 q3, fun i j q1 q2 q3 => by rw [e2 i (by omega), e2 j (by omega)]; exact s4 i j q1 q2 q3⟩
theorem sorted_one {lt : Nat → Nat → Bool} {d : Array Nat} {a s mid : Nat} (h1 : Sort.SortedIn lt a s d) (h2 : Sort.SortedIn lt s mid d) (hn : ¬ (a < s ∧ s < mid)) (q1 : a ≤ s) (q2 : s ≤ mid) : Sort.SortedIn lt a mid d := by
  by_cases c : s = mid
  · rw [c] at h1; exact h1
  · have : s = a := by omega
    rw [this] at h2; exact h2

set_option maxRecDepth 100000 in
set_option maxHeartbeats 4000000 in
theorem sym_step (W0 : World) (g : Nat) (q1 q2 : Value) (N : Nat) (c : Nat → Nat → Int) (hC : CmpOk W0 g q1 q2 N c) (hS : Sort.SWO (ltC c)) (extra : List Value) (n cap kk : Nat) (hIH : SymAt W0 g q1 q2 N c extra n cap kk)
    (d : Array Nat) (a m b : Nat) (w : World) (hk : b - a ≤ kk + 1) (hn : d.size = n)
    (hW : W0.grownBy w (some g)) (hR : RowG w g d extra) (hN : AllLt d N) (hm : n ≤ 1000) (ham : a + 1 < m) (hmb : m + 1 < b) (hb : b ≤ n) (hcap : n ≤ cap) (hs1 : Sort.SortedIn (ltC c) a m d) (hs2 : Sort.SortedIn (ltC c) m b d) :
    Calls Try.prog 33 #[.slice (some ⟨g, 0, none⟩) n cap, .int .i64 a, .int .i64 m, .int .i64 b, .func (.func 17) #[] #[q1, q2]] w (MrgPost W0 g extra c d a b N) := by
  have HCmp := Lib.hid hC
  have HIH := Lib.hid hIH
  have HX := Lib.hid (And.intro hn (And.intro hN (And.intro hs1 hs2)))
  have HR := Lib.hid hR
  have HW := Lib.hid hW
  have HROT := Lib.hid (fun (s e : Nat) (w : World) (hW : W0.grownBy w (some g)) (hR : RowG w g d extra) (h1 : s < m) (h2 : m < e) (h3 : e ≤ n) => (hn ▸ rot_any W0 g (.func (.func 17) #[] #[q1, q2]) N d extra s m e cap w hW hR hN (by omega) h1 h2 (by omega) (by omega) : Calls Try.prog 37 #[.slice (some ⟨g, 0, none⟩) n cap, .int .i64 s, .int .i64 m, .int .i64 e, .func (.func 17) #[] #[q1, q2]] w fun e' w' => e' = .returned (.tuple #[]) ∧ W0.grownBy w' (some g) ∧ ∃ d', Rot d s m e N d' ∧ RowG w' g d' extra))
  obtain ⟨u, hu⟩ : ∃ u, u = m - a := ⟨_, rfl⟩
  obtain ⟨v, hv⟩ : ∃ v, v = b - m := ⟨_, rfl⟩
  obtain ⟨mid, hmid⟩ : ∃ mid, mid = (a + b) / 2 := ⟨_, rfl⟩
  obtain ⟨t, ht⟩ : ∃ t, t = mid + m := ⟨_, rfl⟩
  obtain ⟨p, hp⟩ : ∃ p, p = t - 1 := ⟨_, rfl⟩
  have e1 : (m : Int) - (a : Int) = (u : Int) := by omega
  have e2 : (b : Int) - (m : Int) = (v : Int) := by omega
  have e3 : ((u : Int) == 1) = false := beq_eq_false_iff_ne.2 (by omega)
  have e4 : ¬ u = 1 := by omega
  have e5 : ((v : Int) == 1) = false := beq_eq_false_iff_ne.2 (by omega)
  have e6 : ¬ v = 1 := by omega
  have e7 : ((a : Int) + (b : Int)) / 2 = (mid : Int) := by omega
  have e8 : (mid : Int) + (m : Int) = (t : Int) := by omega
  have e9 : (t : Int) - 1 = (p : Int) := by omega
  have hb0 : a < mid ∧ mid < b ∧ t ≤ 2000 ∧ 0 < t := by omega
  obtain ⟨hb1, hb2, hb3, hb4⟩ := hb0
  have HM := Lib.hid (show mid = (a + b) / 2 ∧ t = mid + m ∧ p = t - 1 from ⟨hmid, ht, hp⟩)
  clear hR hN hn hW hC hs1 hs2 hu hv hIH hmid ht hp
  go_enter Try.func33, Try.ntmps33
  go_upto_if 140 with fail
  go_cut [20, 21] (fun vs vr wx => ∃ s0 r0 : Nat, vs = .int .i64 s0 ∧ vr = .int .i64 r0 ∧ Hid (s0 = (if mid < m then mid + m - b else a) ∧ r0 = (if mid < m then mid else m)) ∧ wx = w)
  case first =>
    by_cases hc : mid < m
    · obtain ⟨s0, hs0⟩ : ∃ s0, s0 = t - b := ⟨_, rfl⟩
      have f1 : (t : Int) - (b : Int) = (s0 : Int) := by have := HM.out; omega
      have HS0 : Hid (s0 = (if mid < m then mid + m - b else a) ∧ mid = (if mid < m then mid else m)) := ⟨by rw [if_pos hc]; have := HM.out; omega, by rw [if_pos hc]⟩
      have hcI : (mid : Int) < m := by omega
      clear hs0
      go_wp2_with fail
      go_meet
      exact ⟨s0, mid, rfl, rfl, HS0, by first | rfl | trivial⟩
    · have HS0 : Hid (a = (if mid < m then mid + m - b else a) ∧ m = (if mid < m then mid else m)) := ⟨by rw [if_neg hc], by rw [if_neg hc]⟩
      have hcI : (m : Int) ≤ mid := by omega
      go_wp2_with fail
      go_meet
      exact ⟨a, m, rfl, rfl, HS0, by first | rfl | trivial⟩
  case rest =>
    obtain ⟨s0, r0, rfl, rfl, HS0, rfl⟩ := hcut
    have hb5 : a ≤ s0 ∧ s0 ≤ r0 ∧ r0 ≤ mid ∧ r0 ≤ m := by
      obtain ⟨k1, k2⟩ := HS0.out
      obtain ⟨k3, k4, k5⟩ := HM.out
      by_cases hc : mid < m
      · rw [if_pos hc] at k1 k2; omega
      · rw [if_neg hc] at k1 k2; omega
    have hb6 : t ≤ s0 + b := by
      obtain ⟨k1, k2⟩ := HS0.out
      obtain ⟨k3, k4, k5⟩ := HM.out
      by_cases hc : mid < m
      · rw [if_pos hc] at k1 k2; omega
      · rw [if_neg hc] at k1 k2; omega
    obtain ⟨hb7, hb8, hb9, hb10⟩ := hb5
    go_wp2_with fail
    go_loopw [20, 21] (fun vs vr wr => ∃ s r : Nat, s0 ≤ s ∧ s ≤ r ∧ r ≤ r0 ∧ vs = .int .i64 s ∧ vr = .int .i64 r ∧ Hid (W0.grownBy wr (some g) ∧ RowG wr g d extra ∧ (s = s0 ∨ ltC c d[p - (s - 1)]! d[s - 1]! = false) ∧ (r = r0 ∨ ltC c d[p - r]! d[r]! = true))) (fun vs vr _ => (intOf vr).toNat - (intOf vs).toNat)
    case atStart => exact ⟨s0, r0, Nat.le_refl _, by omega, Nat.le_refl _, rfl, rfl, HW.out, HR.out, .inl rfl, .inl rfl⟩
    case round =>
      obtain ⟨s, r, hs, hsr, hr0, rfl, rfl, HY⟩ := hrel
      clear HW HR
      by_cases hlt : s < r
      · have hltI : (s : Int) < r := by omega
        obtain ⟨h, hh⟩ : ∃ h, h = (s + r) / 2 := ⟨_, rfl⟩
        have f1 : ((s : Int) + (r : Int)) / 2 = (h : Int) := by omega
        obtain ⟨z, hz⟩ : ∃ z, z = p - h := ⟨_, rfl⟩
        have f2 : (p : Int) - (h : Int) = (z : Int) := by have := HM.out; omega
        obtain ⟨x1, x2, x3⟩ := HX.out
        obtain ⟨y1, y2, y3, y4⟩ := HY.out
        have hhn : h < d.size := by omega
        have hzn : z < d.size := by have := HM.out; omega
        have hhI : (h : Int) < n := by omega
        have hzI : (z : Int) < n := by omega
        have w1 : IntKind.i64.wrap ((p : Int) - (h : Int)) = (z : Int) := by rw [IntWalk.i64_in _ (by omega)]; exact f2
        have w2 : IntKind.i64.wrap (z : Int) = (z : Int) := by rw [IntWalk.i64_in _ (by omega)]
        have c1 := y2.cell h hhn
        have c2 := y2.cell z hzn
        have hx := x2 h hhn
        have hy := x2 z hzn
        obtain ⟨x, hxe⟩ : ∃ x, d[h]! = x := ⟨_, rfl⟩
        obtain ⟨y, hye⟩ : ∃ y, d[z]! = y := ⟨_, rfl⟩
        rw [hxe] at c1 hx
        rw [hye] at c2 hy
        have hcall := Lib.hid (HCmp.out wr.drew y x (grown_drewOf y1) hy hx)
        obtain ⟨q, hq⟩ : ∃ q, c y x = q := ⟨_, rfl⟩
        rw [hq] at hcall
        have HH := Lib.hid (show s ≤ h ∧ h < r by omega)
        by_cases hneg : q < 0
        · have HL := Lib.hid (show ltC c d[p - h]! d[h]! = true by rw [← hz, hxe, hye]; unfold ltC; rw [hq]; exact decide_eq_true hneg)
          have HZ := Lib.hid (And.intro y1 (And.intro y2 y3))
          clear x1 x2 x3 y1 y2 y3 y4 hxe hye hq hh hhn hzn HY hz
          go_wp2_with fail
          refine wp_region_still_tail 11 (by kernel_rfl) (by kernel_rfl) ?_
          simp only [List.take_succ_cons, List.take_zero, List.drop_succ_cons, List.drop_zero]
          repeat still_step
          refine wpStill_nil ?_
          go_wp2_with fail
          refine hcall.out.mono ?_
          rintro e w1 ⟨rfl, hb1⟩
          have HB := Lib.hid hb1
          clear hb1
          go_wp2_with fail
          go_roundw
          case rel => exact ⟨s, h, hs, HH.out.1, by have := HH.out; omega, rfl, rfl, grown_below' (grown_drewOf HZ.out.1) HB.out, HZ.out.2.1.drew.below HB.out, HZ.out.2.2, .inr HL.out⟩
          case measure => have := HH.out; simp only [intOf, Int.toNat_natCast]; omega
        · have hd1 : decide (q < 0) = false := decide_eq_false hneg
          have hd2 : 0 ≤ q := by omega
          have HL := Lib.hid (show ltC c d[p - (h + 1 - 1)]! d[h + 1 - 1]! = false by rw [Nat.add_sub_cancel, ← hz, hxe, hye]; unfold ltC; rw [hq]; exact decide_eq_false hneg)
          have HZ := Lib.hid (And.intro y1 (And.intro y2 y4))
          clear x1 x2 x3 y1 y2 y3 y4 hxe hye hq hh hhn hzn HY hz
          go_wp2_with fail
          refine wp_region_still_tail 11 (by kernel_rfl) (by kernel_rfl) ?_
          simp only [List.take_succ_cons, List.take_zero, List.drop_succ_cons, List.drop_zero]
          repeat still_step
          refine wpStill_nil ?_
          go_wp2_with fail
          refine hcall.out.mono ?_
          rintro e w1 ⟨rfl, hb1⟩
          have HB := Lib.hid hb1
          clear hb1
          go_wp2_with fail
          go_roundw
          case rel => exact ⟨h + 1, r, by have := HH.out; omega, by have := HH.out; omega, hr0, by go_num, rfl, grown_below' (grown_drewOf HZ.out.1) HB.out, HZ.out.2.1.drew.below HB.out, .inr HL.out, HZ.out.2.2⟩
          case measure => have := HH.out; simp [intOf]; omega
      · obtain rfl : s = r := by omega
        obtain ⟨e, he⟩ : ∃ e, e = t - s := ⟨_, rfl⟩
        have f3 : (t : Int) - (s : Int) = (e : Int) := by have := HM.out; omega
        have HE := Lib.hid he
        have HCUT : Hid (∀ d1, (∀ q, d1[q]! = rotAt d s m e q) → Cuts (ltC c) d1 a mid b s e m) := by
          intro d1 hd1
          obtain ⟨k3, k4, k5⟩ := HM.out
          obtain ⟨k1, k2⟩ := HS0.out
          obtain ⟨x1, x2, x3, x4⟩ := HX.out
          obtain ⟨y1, y2, y3, y4⟩ := HY.out
          have he2 := HE.out
          refine merge_cut hS d d1 a m b mid s e (by omega) (by omega) k3 (by omega) x3 x4 hd1 ?_ ?_ ?_
          · by_cases hc : mid < m
            · rw [if_pos hc] at k1 k2 ⊢; omega
            · rw [if_neg hc] at k1 k2 ⊢; omega
          · rw [← k1]
            rcases y3 with h | h
            · exact .inl h
            · by_cases hs0 : s = s0
              · exact .inl hs0
              · rw [show p - (s - 1) = e by omega] at h
                exact .inr h
          · rw [← k2]
            rcases y4 with h | h
            · exact .inl h
            · rw [show p - s = e - 1 by omega] at h
              exact .inr h
        have heb : m ≤ e ∧ e ≤ b := by have := HE.out; have := HM.out; omega
        obtain ⟨heb1, heb2⟩ := heb
        have HY2 := Lib.hid (And.intro HY.out.1 HY.out.2.1)
        clear HY he
        by_cases hrot : s < m ∧ m < e
        · have i1 : (s : Int) < m := by omega
          have i2 : (m : Int) < e := by omega
          have hcallR := Lib.hid (HROT.out s e wr HY2.out.1 HY2.out.2 hrot.1 hrot.2 (by omega))
          clear hrot
          go_wp2_with fail
          refine hcallR.out.mono ?_
          rintro e' w1 ⟨rfl, g1, d1, r1, g2⟩
          have HD1 := Lib.hid (show d1.size = n ∧ Sort.PermIn a b d d1 ∧ AllLt d1 N ∧ Cuts (ltC c) d1 a mid b s e m ∧ W0.grownBy w1 (some g) ∧ RowG w1 g d1 extra from
            ⟨by rw [r1.1]; exact HX.out.1, Sort.permIn_mono _ _ _ _ _ _ (by omega) (by omega) (by have := HX.out.1; omega) r1.2.1, r1.2.2.1, HCUT.out d1 r1.2.2.2, g1, g2⟩)
          clear g1 g2 r1 hcallR HY2
          by_cases hle : a < s ∧ s < mid
          · have k1 : (a : Int) < s := by omega
            have k2 : (s : Int) < mid := by omega
            have hcallA := Lib.hid (HIH.out d1 a s mid w1 (by omega) HD1.out.1 HD1.out.2.2.2.2.1 HD1.out.2.2.2.2.2 HD1.out.2.2.1 hle.1 hle.2 (by omega) HD1.out.2.2.2.1.2.2.2.2.2.2.1 HD1.out.2.2.2.1.2.2.2.2.2.2.2.1)
            clear hle
            go_wp2_with fail
            refine hcallA.out.mono ?_
            rintro e' w2 ⟨rfl, g1, d2, r1, g2⟩
            have HD2 := Lib.hid (show d2.size = n ∧ Sort.PermIn a mid d1 d2 ∧ AllLt d2 N ∧ Sort.SortedIn (ltC c) a mid d2 ∧ True ∧ W0.grownBy w2 (some g) ∧ RowG w2 g d2 extra from
              ⟨by rw [r1.1]; exact HD1.out.1, r1.2.1, r1.2.2.1, r1.2.2.2, trivial, g1, g2⟩)
            clear g1 g2 r1 hcallA
            by_cases hri : mid < e ∧ e < b
            · have j1 : (mid : Int) < e := by omega
              have j2 : (e : Int) < b := by omega
              have hcallB := Lib.hid (HIH.out d2 mid e b w2 (by omega) HD2.out.1 HD2.out.2.2.2.2.2.1 HD2.out.2.2.2.2.2.2 HD2.out.2.2.1 hri.1 hri.2 hb (HD1.out.2.2.2.1.right HD2.out.2.1).1 (HD1.out.2.2.2.1.right HD2.out.2.1).2)
              clear hri
              go_wp2_with fail
              refine hcallB.out.mono ?_
              rintro e' w3 ⟨rfl, g1, d3, r1, g2⟩
              have HF : Hid (W0.grownBy w3 (some g) ∧ ∃ d', Mrg c d a b N d' ∧ RowG w3 g d' extra) := by
                obtain ⟨k1, k2, k3, k4, k5, k6⟩ := HD1.out
                obtain ⟨l1, l2, l3, l4, l5, l6, l7⟩ := HD2.out
                exact ⟨g1, d3, ⟨r1.1.trans (l1.trans HX.out.1.symm), Sort.permIn_trans _ _ _ _ _ (Sort.permIn_trans _ _ _ _ _ k2 (Sort.permIn_mono _ _ _ _ _ _ (Nat.le_refl _) (by omega) (by omega) l2)) (Sort.permIn_mono _ _ _ _ _ _ (by omega) (Nat.le_refl _) (by omega) r1.2.1), r1.2.2.1, merge_join hS d1 d2 d3 a mid b (by omega) (by omega) (by omega) k4.2.2.2.2.2.2.2.2.2.2 l2 l4 r1.2.1 r1.2.2.2⟩, g2⟩
              clear g1 g2 r1 hcallB HD1 HD2
              go_wp2_with fail
              go_end0
              exact ⟨rfl, HF.out⟩
            · have HF : Hid (W0.grownBy w2 (some g) ∧ ∃ d', Mrg c d a b N d' ∧ RowG w2 g d' extra) := by
                obtain ⟨k1, k2, k3, k4, k5, k6⟩ := HD1.out
                obtain ⟨l1, l2, l3, l4, l5, l6, l7⟩ := HD2.out
                have rr := k4.right l2
                exact ⟨l6, d2, ⟨l1.trans HX.out.1.symm, Sort.permIn_trans _ _ _ _ _ k2 (Sort.permIn_mono _ _ _ _ _ _ (Nat.le_refl _) (by omega) (by omega) l2), l3, merge_join hS d1 d2 d2 a mid b (by omega) (by omega) (by omega) k4.2.2.2.2.2.2.2.2.2.2 l2 l4 (Sort.permIn_refl _ _ _) (sorted_one rr.1 rr.2 hri k4.2.2.2.2.1 k4.2.2.2.2.2.1)⟩, l7⟩
              clear HD1 HD2
              by_cases hq3 : mid < e
              · have j1 : (mid : Int) < e := by omega
                have j2 : decide ((e : Int) < b) = false := by simp; omega
                have j3 : decide (e < b) = false := by simp; omega
                clear hri
                go_wp2_with fail
                go_end0
                exact ⟨rfl, HF.out⟩
              · have j1 : decide ((mid : Int) < e) = false := by simp; omega
                have j3 : decide (mid < e) = false := by simp; omega
                clear hri
                go_wp2_with fail
                go_end0
                exact ⟨rfl, HF.out⟩
          · have HD2 := Lib.hid (show d1.size = n ∧ Sort.PermIn a mid d1 d1 ∧ AllLt d1 N ∧ Sort.SortedIn (ltC c) a mid d1 ∧ True ∧ W0.grownBy w1 (some g) ∧ RowG w1 g d1 extra from
              ⟨HD1.out.1, Sort.permIn_refl _ _ _, HD1.out.2.2.1, sorted_one HD1.out.2.2.2.1.2.2.2.2.2.2.1 HD1.out.2.2.2.1.2.2.2.2.2.2.2.1 hle HD1.out.2.2.2.1.1 HD1.out.2.2.2.1.2.1, trivial, HD1.out.2.2.2.2⟩)
            by_cases hq2 : a < s
            · have k1 : (a : Int) < s := by omega
              have k2 : decide ((s : Int) < mid) = false := by simp; omega
              have k3 : decide (s < mid) = false := by simp; omega
              clear hle
              by_cases hri : mid < e ∧ e < b
              · have j1 : (mid : Int) < e := by omega
                have j2 : (e : Int) < b := by omega
                have hcallB := Lib.hid (HIH.out d1 mid e b w1 (by omega) HD2.out.1 HD2.out.2.2.2.2.2.1 HD2.out.2.2.2.2.2.2 HD2.out.2.2.1 hri.1 hri.2 hb (HD1.out.2.2.2.1.right HD2.out.2.1).1 (HD1.out.2.2.2.1.right HD2.out.2.1).2)
                clear hri
                go_wp2_with fail
                refine hcallB.out.mono ?_
                rintro e' w3 ⟨rfl, g1, d3, r1, g2⟩
                have HF : Hid (W0.grownBy w3 (some g) ∧ ∃ d', Mrg c d a b N d' ∧ RowG w3 g d' extra) := by
                  obtain ⟨k1, k2, k3, k4, k5, k6⟩ := HD1.out
                  obtain ⟨l1, l2, l3, l4, l5, l6, l7⟩ := HD2.out
                  exact ⟨g1, d3, ⟨r1.1.trans (l1.trans HX.out.1.symm), Sort.permIn_trans _ _ _ _ _ (Sort.permIn_trans _ _ _ _ _ k2 (Sort.permIn_mono _ _ _ _ _ _ (Nat.le_refl _) (by omega) (by omega) l2)) (Sort.permIn_mono _ _ _ _ _ _ (by omega) (Nat.le_refl _) (by omega) r1.2.1), r1.2.2.1, merge_join hS d1 d1 d3 a mid b (by omega) (by omega) (by omega) k4.2.2.2.2.2.2.2.2.2.2 l2 l4 r1.2.1 r1.2.2.2⟩, g2⟩
                clear g1 g2 r1 hcallB HD1 HD2
                go_wp2_with fail
                go_end0
                exact ⟨rfl, HF.out⟩
              · have HF : Hid (W0.grownBy w1 (some g) ∧ ∃ d', Mrg c d a b N d' ∧ RowG w1 g d' extra) := by
                  obtain ⟨k1, k2, k3, k4, k5, k6⟩ := HD1.out
                  obtain ⟨l1, l2, l3, l4, l5, l6, l7⟩ := HD2.out
                  have rr := k4.right l2
                  exact ⟨l6, d1, ⟨l1.trans HX.out.1.symm, Sort.permIn_trans _ _ _ _ _ k2 (Sort.permIn_mono _ _ _ _ _ _ (Nat.le_refl _) (by omega) (by omega) l2), l3, merge_join hS d1 d1 d1 a mid b (by omega) (by omega) (by omega) k4.2.2.2.2.2.2.2.2.2.2 l2 l4 (Sort.permIn_refl _ _ _) (sorted_one rr.1 rr.2 hri k4.2.2.2.2.1 k4.2.2.2.2.2.1)⟩, l7⟩
                clear HD1 HD2
                by_cases hq3 : mid < e
                · have j1 : (mid : Int) < e := by omega
                  have j2 : decide ((e : Int) < b) = false := by simp; omega
                  have j3 : decide (e < b) = false := by simp; omega
                  clear hri
                  go_wp2_with fail
                  go_end0
                  exact ⟨rfl, HF.out⟩
                · have j1 : decide ((mid : Int) < e) = false := by simp; omega
                  have j3 : decide (mid < e) = false := by simp; omega
                  clear hri
                  go_wp2_with fail
                  go_end0
                  exact ⟨rfl, HF.out⟩
            · have k1 : decide ((a : Int) < s) = false := by simp; omega
              have k3 : decide (a < s) = false := by simp; omega
              clear hle
              by_cases hri : mid < e ∧ e < b
              · have j1 : (mid : Int) < e := by omega
                have j2 : (e : Int) < b := by omega
                have hcallB := Lib.hid (HIH.out d1 mid e b w1 (by omega) HD2.out.1 HD2.out.2.2.2.2.2.1 HD2.out.2.2.2.2.2.2 HD2.out.2.2.1 hri.1 hri.2 hb (HD1.out.2.2.2.1.right HD2.out.2.1).1 (HD1.out.2.2.2.1.right HD2.out.2.1).2)
                clear hri
                go_wp2_with fail
                refine hcallB.out.mono ?_
                rintro e' w3 ⟨rfl, g1, d3, r1, g2⟩
                have HF : Hid (W0.grownBy w3 (some g) ∧ ∃ d', Mrg c d a b N d' ∧ RowG w3 g d' extra) := by
                  obtain ⟨k1, k2, k3, k4, k5, k6⟩ := HD1.out
                  obtain ⟨l1, l2, l3, l4, l5, l6, l7⟩ := HD2.out
                  exact ⟨g1, d3, ⟨r1.1.trans (l1.trans HX.out.1.symm), Sort.permIn_trans _ _ _ _ _ (Sort.permIn_trans _ _ _ _ _ k2 (Sort.permIn_mono _ _ _ _ _ _ (Nat.le_refl _) (by omega) (by omega) l2)) (Sort.permIn_mono _ _ _ _ _ _ (by omega) (Nat.le_refl _) (by omega) r1.2.1), r1.2.2.1, merge_join hS d1 d1 d3 a mid b (by omega) (by omega) (by omega) k4.2.2.2.2.2.2.2.2.2.2 l2 l4 r1.2.1 r1.2.2.2⟩, g2⟩
                clear g1 g2 r1 hcallB HD1 HD2
                go_wp2_with fail
                go_end0
                exact ⟨rfl, HF.out⟩
              · have HF : Hid (W0.grownBy w1 (some g) ∧ ∃ d', Mrg c d a b N d' ∧ RowG w1 g d' extra) := by
                  obtain ⟨k1, k2, k3, k4, k5, k6⟩ := HD1.out
                  obtain ⟨l1, l2, l3, l4, l5, l6, l7⟩ := HD2.out
                  have rr := k4.right l2
                  exact ⟨l6, d1, ⟨l1.trans HX.out.1.symm, Sort.permIn_trans _ _ _ _ _ k2 (Sort.permIn_mono _ _ _ _ _ _ (Nat.le_refl _) (by omega) (by omega) l2), l3, merge_join hS d1 d1 d1 a mid b (by omega) (by omega) (by omega) k4.2.2.2.2.2.2.2.2.2.2 l2 l4 (Sort.permIn_refl _ _ _) (sorted_one rr.1 rr.2 hri k4.2.2.2.2.1 k4.2.2.2.2.2.1)⟩, l7⟩
                clear HD1 HD2
                by_cases hq3 : mid < e
                · have j1 : (mid : Int) < e := by omega
                  have j2 : decide ((e : Int) < b) = false := by simp; omega
                  have j3 : decide (e < b) = false := by simp; omega
                  clear hri
                  go_wp2_with fail
                  go_end0
                  exact ⟨rfl, HF.out⟩
                · have j1 : decide ((mid : Int) < e) = false := by simp; omega
                  have j3 : decide (mid < e) = false := by simp; omega
                  clear hri
                  go_wp2_with fail
                  go_end0
                  exact ⟨rfl, HF.out⟩
        · have HD1 := Lib.hid (show d.size = n ∧ Sort.PermIn a b d d ∧ AllLt d N ∧ Cuts (ltC c) d a mid b s e m ∧ W0.grownBy wr (some g) ∧ RowG wr g d extra from
            ⟨HX.out.1, Sort.permIn_refl _ _ _, HX.out.2.1, HCUT.out d (rot_id d s m e hrot (by omega) heb1), HY2.out⟩)
          clear HY2
          by_cases hq1 : s < m
          · have i1 : (s : Int) < m := by omega
            have i2 : decide ((m : Int) < e) = false := by simp; omega
            have i3 : decide (m < e) = false := by simp; omega
            clear hrot
            by_cases hle : a < s ∧ s < mid
            · have k1 : (a : Int) < s := by omega
              have k2 : (s : Int) < mid := by omega
              have hcallA := Lib.hid (HIH.out d a s mid wr (by omega) HD1.out.1 HD1.out.2.2.2.2.1 HD1.out.2.2.2.2.2 HD1.out.2.2.1 hle.1 hle.2 (by omega) HD1.out.2.2.2.1.2.2.2.2.2.2.1 HD1.out.2.2.2.1.2.2.2.2.2.2.2.1)
              clear hle
              go_wp2_with fail
              refine hcallA.out.mono ?_
              rintro e' w2 ⟨rfl, g1, d2, r1, g2⟩
              have HD2 := Lib.hid (show d2.size = n ∧ Sort.PermIn a mid d d2 ∧ AllLt d2 N ∧ Sort.SortedIn (ltC c) a mid d2 ∧ True ∧ W0.grownBy w2 (some g) ∧ RowG w2 g d2 extra from
                ⟨by rw [r1.1]; exact HD1.out.1, r1.2.1, r1.2.2.1, r1.2.2.2, trivial, g1, g2⟩)
              clear g1 g2 r1 hcallA
              by_cases hri : mid < e ∧ e < b
              · have j1 : (mid : Int) < e := by omega
                have j2 : (e : Int) < b := by omega
                have hcallB := Lib.hid (HIH.out d2 mid e b w2 (by omega) HD2.out.1 HD2.out.2.2.2.2.2.1 HD2.out.2.2.2.2.2.2 HD2.out.2.2.1 hri.1 hri.2 hb (HD1.out.2.2.2.1.right HD2.out.2.1).1 (HD1.out.2.2.2.1.right HD2.out.2.1).2)
                clear hri
                go_wp2_with fail
                refine hcallB.out.mono ?_
                rintro e' w3 ⟨rfl, g1, d3, r1, g2⟩
                have HF : Hid (W0.grownBy w3 (some g) ∧ ∃ d', Mrg c d a b N d' ∧ RowG w3 g d' extra) := by
                  obtain ⟨k1, k2, k3, k4, k5, k6⟩ := HD1.out
                  obtain ⟨l1, l2, l3, l4, l5, l6, l7⟩ := HD2.out
                  exact ⟨g1, d3, ⟨r1.1.trans (l1.trans HX.out.1.symm), Sort.permIn_trans _ _ _ _ _ (Sort.permIn_trans _ _ _ _ _ k2 (Sort.permIn_mono _ _ _ _ _ _ (Nat.le_refl _) (by omega) (by omega) l2)) (Sort.permIn_mono _ _ _ _ _ _ (by omega) (Nat.le_refl _) (by omega) r1.2.1), r1.2.2.1, merge_join hS d d2 d3 a mid b (by omega) (by omega) (by omega) k4.2.2.2.2.2.2.2.2.2.2 l2 l4 r1.2.1 r1.2.2.2⟩, g2⟩
                clear g1 g2 r1 hcallB HD1 HD2
                go_wp2_with fail
                go_end0
                exact ⟨rfl, HF.out⟩
              · have HF : Hid (W0.grownBy w2 (some g) ∧ ∃ d', Mrg c d a b N d' ∧ RowG w2 g d' extra) := by
                  obtain ⟨k1, k2, k3, k4, k5, k6⟩ := HD1.out
                  obtain ⟨l1, l2, l3, l4, l5, l6, l7⟩ := HD2.out
                  have rr := k4.right l2
                  exact ⟨l6, d2, ⟨l1.trans HX.out.1.symm, Sort.permIn_trans _ _ _ _ _ k2 (Sort.permIn_mono _ _ _ _ _ _ (Nat.le_refl _) (by omega) (by omega) l2), l3, merge_join hS d d2 d2 a mid b (by omega) (by omega) (by omega) k4.2.2.2.2.2.2.2.2.2.2 l2 l4 (Sort.permIn_refl _ _ _) (sorted_one rr.1 rr.2 hri k4.2.2.2.2.1 k4.2.2.2.2.2.1)⟩, l7⟩
                clear HD1 HD2
                by_cases hq3 : mid < e
                · have j1 : (mid : Int) < e := by omega
                  have j2 : decide ((e : Int) < b) = false := by simp; omega
                  have j3 : decide (e < b) = false := by simp; omega
                  clear hri
                  go_wp2_with fail
                  go_end0
                  exact ⟨rfl, HF.out⟩
                · have j1 : decide ((mid : Int) < e) = false := by simp; omega
                  have j3 : decide (mid < e) = false := by simp; omega
                  clear hri
                  go_wp2_with fail
                  go_end0
                  exact ⟨rfl, HF.out⟩
            · have HD2 := Lib.hid (show d.size = n ∧ Sort.PermIn a mid d d ∧ AllLt d N ∧ Sort.SortedIn (ltC c) a mid d ∧ True ∧ W0.grownBy wr (some g) ∧ RowG wr g d extra from
                ⟨HD1.out.1, Sort.permIn_refl _ _ _, HD1.out.2.2.1, sorted_one HD1.out.2.2.2.1.2.2.2.2.2.2.1 HD1.out.2.2.2.1.2.2.2.2.2.2.2.1 hle HD1.out.2.2.2.1.1 HD1.out.2.2.2.1.2.1, trivial, HD1.out.2.2.2.2⟩)
              by_cases hq2 : a < s
              · have k1 : (a : Int) < s := by omega
                have k2 : decide ((s : Int) < mid) = false := by simp; omega
                have k3 : decide (s < mid) = false := by simp; omega
                clear hle
                by_cases hri : mid < e ∧ e < b
                · have j1 : (mid : Int) < e := by omega
                  have j2 : (e : Int) < b := by omega
                  have hcallB := Lib.hid (HIH.out d mid e b wr (by omega) HD2.out.1 HD2.out.2.2.2.2.2.1 HD2.out.2.2.2.2.2.2 HD2.out.2.2.1 hri.1 hri.2 hb (HD1.out.2.2.2.1.right HD2.out.2.1).1 (HD1.out.2.2.2.1.right HD2.out.2.1).2)
                  clear hri
                  go_wp2_with fail
                  refine hcallB.out.mono ?_
                  rintro e' w3 ⟨rfl, g1, d3, r1, g2⟩
                  have HF : Hid (W0.grownBy w3 (some g) ∧ ∃ d', Mrg c d a b N d' ∧ RowG w3 g d' extra) := by
                    obtain ⟨k1, k2, k3, k4, k5, k6⟩ := HD1.out
                    obtain ⟨l1, l2, l3, l4, l5, l6, l7⟩ := HD2.out
                    exact ⟨g1, d3, ⟨r1.1.trans (l1.trans HX.out.1.symm), Sort.permIn_trans _ _ _ _ _ (Sort.permIn_trans _ _ _ _ _ k2 (Sort.permIn_mono _ _ _ _ _ _ (Nat.le_refl _) (by omega) (by omega) l2)) (Sort.permIn_mono _ _ _ _ _ _ (by omega) (Nat.le_refl _) (by omega) r1.2.1), r1.2.2.1, merge_join hS d d d3 a mid b (by omega) (by omega) (by omega) k4.2.2.2.2.2.2.2.2.2.2 l2 l4 r1.2.1 r1.2.2.2⟩, g2⟩
                  clear g1 g2 r1 hcallB HD1 HD2
                  go_wp2_with fail
                  go_end0
                  exact ⟨rfl, HF.out⟩
                · have HF : Hid (W0.grownBy wr (some g) ∧ ∃ d', Mrg c d a b N d' ∧ RowG wr g d' extra) := by
                    obtain ⟨k1, k2, k3, k4, k5, k6⟩ := HD1.out
                    obtain ⟨l1, l2, l3, l4, l5, l6, l7⟩ := HD2.out
                    have rr := k4.right l2
                    exact ⟨l6, d, ⟨l1.trans HX.out.1.symm, Sort.permIn_trans _ _ _ _ _ k2 (Sort.permIn_mono _ _ _ _ _ _ (Nat.le_refl _) (by omega) (by omega) l2), l3, merge_join hS d d d a mid b (by omega) (by omega) (by omega) k4.2.2.2.2.2.2.2.2.2.2 l2 l4 (Sort.permIn_refl _ _ _) (sorted_one rr.1 rr.2 hri k4.2.2.2.2.1 k4.2.2.2.2.2.1)⟩, l7⟩
                  clear HD1 HD2
                  by_cases hq3 : mid < e
                  · have j1 : (mid : Int) < e := by omega
                    have j2 : decide ((e : Int) < b) = false := by simp; omega
                    have j3 : decide (e < b) = false := by simp; omega
                    clear hri
                    go_wp2_with fail
                    go_end0
                    exact ⟨rfl, HF.out⟩
                  · have j1 : decide ((mid : Int) < e) = false := by simp; omega
                    have j3 : decide (mid < e) = false := by simp; omega
                    clear hri
                    go_wp2_with fail
                    go_end0
                    exact ⟨rfl, HF.out⟩
              · have k1 : decide ((a : Int) < s) = false := by simp; omega
                have k3 : decide (a < s) = false := by simp; omega
                clear hle
                by_cases hri : mid < e ∧ e < b
                · have j1 : (mid : Int) < e := by omega
                  have j2 : (e : Int) < b := by omega
                  have hcallB := Lib.hid (HIH.out d mid e b wr (by omega) HD2.out.1 HD2.out.2.2.2.2.2.1 HD2.out.2.2.2.2.2.2 HD2.out.2.2.1 hri.1 hri.2 hb (HD1.out.2.2.2.1.right HD2.out.2.1).1 (HD1.out.2.2.2.1.right HD2.out.2.1).2)
                  clear hri
                  go_wp2_with fail
                  refine hcallB.out.mono ?_
                  rintro e' w3 ⟨rfl, g1, d3, r1, g2⟩
                  have HF : Hid (W0.grownBy w3 (some g) ∧ ∃ d', Mrg c d a b N d' ∧ RowG w3 g d' extra) := by
                    obtain ⟨k1, k2, k3, k4, k5, k6⟩ := HD1.out
                    obtain ⟨l1, l2, l3, l4, l5, l6, l7⟩ := HD2.out
                    exact ⟨g1, d3, ⟨r1.1.trans (l1.trans HX.out.1.symm), Sort.permIn_trans _ _ _ _ _ (Sort.permIn_trans _ _ _ _ _ k2 (Sort.permIn_mono _ _ _ _ _ _ (Nat.le_refl _) (by omega) (by omega) l2)) (Sort.permIn_mono _ _ _ _ _ _ (by omega) (Nat.le_refl _) (by omega) r1.2.1), r1.2.2.1, merge_join hS d d d3 a mid b (by omega) (by omega) (by omega) k4.2.2.2.2.2.2.2.2.2.2 l2 l4 r1.2.1 r1.2.2.2⟩, g2⟩
                  clear g1 g2 r1 hcallB HD1 HD2
                  go_wp2_with fail
                  go_end0
                  exact ⟨rfl, HF.out⟩
                · have HF : Hid (W0.grownBy wr (some g) ∧ ∃ d', Mrg c d a b N d' ∧ RowG wr g d' extra) := by
                    obtain ⟨k1, k2, k3, k4, k5, k6⟩ := HD1.out
                    obtain ⟨l1, l2, l3, l4, l5, l6, l7⟩ := HD2.out
                    have rr := k4.right l2
                    exact ⟨l6, d, ⟨l1.trans HX.out.1.symm, Sort.permIn_trans _ _ _ _ _ k2 (Sort.permIn_mono _ _ _ _ _ _ (Nat.le_refl _) (by omega) (by omega) l2), l3, merge_join hS d d d a mid b (by omega) (by omega) (by omega) k4.2.2.2.2.2.2.2.2.2.2 l2 l4 (Sort.permIn_refl _ _ _) (sorted_one rr.1 rr.2 hri k4.2.2.2.2.1 k4.2.2.2.2.2.1)⟩, l7⟩
                  clear HD1 HD2
                  by_cases hq3 : mid < e
                  · have j1 : (mid : Int) < e := by omega
                    have j2 : decide ((e : Int) < b) = false := by simp; omega
                    have j3 : decide (e < b) = false := by simp; omega
                    clear hri
                    go_wp2_with fail
                    go_end0
                    exact ⟨rfl, HF.out⟩
                  · have j1 : decide ((mid : Int) < e) = false := by simp; omega
                    have j3 : decide (mid < e) = false := by simp; omega
                    clear hri
                    go_wp2_with fail
                    go_end0
                    exact ⟨rfl, HF.out⟩
          · have i1 : decide ((s : Int) < m) = false := by simp; omega
            have i3 : decide (s < m) = false := by simp; omega
            clear hrot
            by_cases hle : a < s ∧ s < mid
            · have k1 : (a : Int) < s := by omega
              have k2 : (s : Int) < mid := by omega
              have hcallA := Lib.hid (HIH.out d a s mid wr (by omega) HD1.out.1 HD1.out.2.2.2.2.1 HD1.out.2.2.2.2.2 HD1.out.2.2.1 hle.1 hle.2 (by omega) HD1.out.2.2.2.1.2.2.2.2.2.2.1 HD1.out.2.2.2.1.2.2.2.2.2.2.2.1)
              clear hle
              go_wp2_with fail
              refine hcallA.out.mono ?_
              rintro e' w2 ⟨rfl, g1, d2, r1, g2⟩
              have HD2 := Lib.hid (show d2.size = n ∧ Sort.PermIn a mid d d2 ∧ AllLt d2 N ∧ Sort.SortedIn (ltC c) a mid d2 ∧ True ∧ W0.grownBy w2 (some g) ∧ RowG w2 g d2 extra from
                ⟨by rw [r1.1]; exact HD1.out.1, r1.2.1, r1.2.2.1, r1.2.2.2, trivial, g1, g2⟩)
              clear g1 g2 r1 hcallA
              by_cases hri : mid < e ∧ e < b
              · have j1 : (mid : Int) < e := by omega
                have j2 : (e : Int) < b := by omega
                have hcallB := Lib.hid (HIH.out d2 mid e b w2 (by omega) HD2.out.1 HD2.out.2.2.2.2.2.1 HD2.out.2.2.2.2.2.2 HD2.out.2.2.1 hri.1 hri.2 hb (HD1.out.2.2.2.1.right HD2.out.2.1).1 (HD1.out.2.2.2.1.right HD2.out.2.1).2)
                clear hri
                go_wp2_with fail
                refine hcallB.out.mono ?_
                rintro e' w3 ⟨rfl, g1, d3, r1, g2⟩
                have HF : Hid (W0.grownBy w3 (some g) ∧ ∃ d', Mrg c d a b N d' ∧ RowG w3 g d' extra) := by
                  obtain ⟨k1, k2, k3, k4, k5, k6⟩ := HD1.out
                  obtain ⟨l1, l2, l3, l4, l5, l6, l7⟩ := HD2.out
                  exact ⟨g1, d3, ⟨r1.1.trans (l1.trans HX.out.1.symm), Sort.permIn_trans _ _ _ _ _ (Sort.permIn_trans _ _ _ _ _ k2 (Sort.permIn_mono _ _ _ _ _ _ (Nat.le_refl _) (by omega) (by omega) l2)) (Sort.permIn_mono _ _ _ _ _ _ (by omega) (Nat.le_refl _) (by omega) r1.2.1), r1.2.2.1, merge_join hS d d2 d3 a mid b (by omega) (by omega) (by omega) k4.2.2.2.2.2.2.2.2.2.2 l2 l4 r1.2.1 r1.2.2.2⟩, g2⟩
                clear g1 g2 r1 hcallB HD1 HD2
                go_wp2_with fail
                go_end0
                exact ⟨rfl, HF.out⟩
              · have HF : Hid (W0.grownBy w2 (some g) ∧ ∃ d', Mrg c d a b N d' ∧ RowG w2 g d' extra) := by
                  obtain ⟨k1, k2, k3, k4, k5, k6⟩ := HD1.out
                  obtain ⟨l1, l2, l3, l4, l5, l6, l7⟩ := HD2.out
                  have rr := k4.right l2
                  exact ⟨l6, d2, ⟨l1.trans HX.out.1.symm, Sort.permIn_trans _ _ _ _ _ k2 (Sort.permIn_mono _ _ _ _ _ _ (Nat.le_refl _) (by omega) (by omega) l2), l3, merge_join hS d d2 d2 a mid b (by omega) (by omega) (by omega) k4.2.2.2.2.2.2.2.2.2.2 l2 l4 (Sort.permIn_refl _ _ _) (sorted_one rr.1 rr.2 hri k4.2.2.2.2.1 k4.2.2.2.2.2.1)⟩, l7⟩
                clear HD1 HD2
                by_cases hq3 : mid < e
                · have j1 : (mid : Int) < e := by omega
                  have j2 : decide ((e : Int) < b) = false := by simp; omega
                  have j3 : decide (e < b) = false := by simp; omega
                  clear hri
                  go_wp2_with fail
                  go_end0
                  exact ⟨rfl, HF.out⟩
                · have j1 : decide ((mid : Int) < e) = false := by simp; omega
                  have j3 : decide (mid < e) = false := by simp; omega
                  clear hri
                  go_wp2_with fail
                  go_end0
                  exact ⟨rfl, HF.out⟩
            · have HD2 := Lib.hid (show d.size = n ∧ Sort.PermIn a mid d d ∧ AllLt d N ∧ Sort.SortedIn (ltC c) a mid d ∧ True ∧ W0.grownBy wr (some g) ∧ RowG wr g d extra from
                ⟨HD1.out.1, Sort.permIn_refl _ _ _, HD1.out.2.2.1, sorted_one HD1.out.2.2.2.1.2.2.2.2.2.2.1 HD1.out.2.2.2.1.2.2.2.2.2.2.2.1 hle HD1.out.2.2.2.1.1 HD1.out.2.2.2.1.2.1, trivial, HD1.out.2.2.2.2⟩)
              by_cases hq2 : a < s
              · have k1 : (a : Int) < s := by omega
                have k2 : decide ((s : Int) < mid) = false := by simp; omega
                have k3 : decide (s < mid) = false := by simp; omega
                clear hle
                by_cases hri : mid < e ∧ e < b
                · have j1 : (mid : Int) < e := by omega
                  have j2 : (e : Int) < b := by omega
                  have hcallB := Lib.hid (HIH.out d mid e b wr (by omega) HD2.out.1 HD2.out.2.2.2.2.2.1 HD2.out.2.2.2.2.2.2 HD2.out.2.2.1 hri.1 hri.2 hb (HD1.out.2.2.2.1.right HD2.out.2.1).1 (HD1.out.2.2.2.1.right HD2.out.2.1).2)
                  clear hri
                  go_wp2_with fail
                  refine hcallB.out.mono ?_
                  rintro e' w3 ⟨rfl, g1, d3, r1, g2⟩
                  have HF : Hid (W0.grownBy w3 (some g) ∧ ∃ d', Mrg c d a b N d' ∧ RowG w3 g d' extra) := by
                    obtain ⟨k1, k2, k3, k4, k5, k6⟩ := HD1.out
                    obtain ⟨l1, l2, l3, l4, l5, l6, l7⟩ := HD2.out
                    exact ⟨g1, d3, ⟨r1.1.trans (l1.trans HX.out.1.symm), Sort.permIn_trans _ _ _ _ _ (Sort.permIn_trans _ _ _ _ _ k2 (Sort.permIn_mono _ _ _ _ _ _ (Nat.le_refl _) (by omega) (by omega) l2)) (Sort.permIn_mono _ _ _ _ _ _ (by omega) (Nat.le_refl _) (by omega) r1.2.1), r1.2.2.1, merge_join hS d d d3 a mid b (by omega) (by omega) (by omega) k4.2.2.2.2.2.2.2.2.2.2 l2 l4 r1.2.1 r1.2.2.2⟩, g2⟩
                  clear g1 g2 r1 hcallB HD1 HD2
                  go_wp2_with fail
                  go_end0
                  exact ⟨rfl, HF.out⟩
                · have HF : Hid (W0.grownBy wr (some g) ∧ ∃ d', Mrg c d a b N d' ∧ RowG wr g d' extra) := by
                    obtain ⟨k1, k2, k3, k4, k5, k6⟩ := HD1.out
                    obtain ⟨l1, l2, l3, l4, l5, l6, l7⟩ := HD2.out
                    have rr := k4.right l2
                    exact ⟨l6, d, ⟨l1.trans HX.out.1.symm, Sort.permIn_trans _ _ _ _ _ k2 (Sort.permIn_mono _ _ _ _ _ _ (Nat.le_refl _) (by omega) (by omega) l2), l3, merge_join hS d d d a mid b (by omega) (by omega) (by omega) k4.2.2.2.2.2.2.2.2.2.2 l2 l4 (Sort.permIn_refl _ _ _) (sorted_one rr.1 rr.2 hri k4.2.2.2.2.1 k4.2.2.2.2.2.1)⟩, l7⟩
                  clear HD1 HD2
                  by_cases hq3 : mid < e
                  · have j1 : (mid : Int) < e := by omega
                    have j2 : decide ((e : Int) < b) = false := by simp; omega
                    have j3 : decide (e < b) = false := by simp; omega
                    clear hri
                    go_wp2_with fail
                    go_end0
                    exact ⟨rfl, HF.out⟩
                  · have j1 : decide ((mid : Int) < e) = false := by simp; omega
                    have j3 : decide (mid < e) = false := by simp; omega
                    clear hri
                    go_wp2_with fail
                    go_end0
                    exact ⟨rfl, HF.out⟩
              · have k1 : decide ((a : Int) < s) = false := by simp; omega
                have k3 : decide (a < s) = false := by simp; omega
                clear hle
                by_cases hri : mid < e ∧ e < b
                · have j1 : (mid : Int) < e := by omega
                  have j2 : (e : Int) < b := by omega
                  have hcallB := Lib.hid (HIH.out d mid e b wr (by omega) HD2.out.1 HD2.out.2.2.2.2.2.1 HD2.out.2.2.2.2.2.2 HD2.out.2.2.1 hri.1 hri.2 hb (HD1.out.2.2.2.1.right HD2.out.2.1).1 (HD1.out.2.2.2.1.right HD2.out.2.1).2)
                  clear hri
                  go_wp2_with fail
                  refine hcallB.out.mono ?_
                  rintro e' w3 ⟨rfl, g1, d3, r1, g2⟩
                  have HF : Hid (W0.grownBy w3 (some g) ∧ ∃ d', Mrg c d a b N d' ∧ RowG w3 g d' extra) := by
                    obtain ⟨k1, k2, k3, k4, k5, k6⟩ := HD1.out
                    obtain ⟨l1, l2, l3, l4, l5, l6, l7⟩ := HD2.out
                    exact ⟨g1, d3, ⟨r1.1.trans (l1.trans HX.out.1.symm), Sort.permIn_trans _ _ _ _ _ (Sort.permIn_trans _ _ _ _ _ k2 (Sort.permIn_mono _ _ _ _ _ _ (Nat.le_refl _) (by omega) (by omega) l2)) (Sort.permIn_mono _ _ _ _ _ _ (by omega) (Nat.le_refl _) (by omega) r1.2.1), r1.2.2.1, merge_join hS d d d3 a mid b (by omega) (by omega) (by omega) k4.2.2.2.2.2.2.2.2.2.2 l2 l4 r1.2.1 r1.2.2.2⟩, g2⟩
                  clear g1 g2 r1 hcallB HD1 HD2
                  go_wp2_with fail
                  go_end0
                  exact ⟨rfl, HF.out⟩
                · have HF : Hid (W0.grownBy wr (some g) ∧ ∃ d', Mrg c d a b N d' ∧ RowG wr g d' extra) := by
                    obtain ⟨k1, k2, k3, k4, k5, k6⟩ := HD1.out
                    obtain ⟨l1, l2, l3, l4, l5, l6, l7⟩ := HD2.out
                    have rr := k4.right l2
                    exact ⟨l6, d, ⟨l1.trans HX.out.1.symm, Sort.permIn_trans _ _ _ _ _ k2 (Sort.permIn_mono _ _ _ _ _ _ (Nat.le_refl _) (by omega) (by omega) l2), l3, merge_join hS d d d a mid b (by omega) (by omega) (by omega) k4.2.2.2.2.2.2.2.2.2.2 l2 l4 (Sort.permIn_refl _ _ _) (sorted_one rr.1 rr.2 hri k4.2.2.2.2.1 k4.2.2.2.2.2.1)⟩, l7⟩
                  clear HD1 HD2
                  by_cases hq3 : mid < e
                  · have j1 : (mid : Int) < e := by omega
                    have j2 : decide ((e : Int) < b) = false := by simp; omega
                    have j3 : decide (e < b) = false := by simp; omega
                    clear hri
                    go_wp2_with fail
                    go_end0
                    exact ⟨rfl, HF.out⟩
                  · have j1 : decide ((mid : Int) < e) = false := by simp; omega
                    have j3 : decide (mid < e) = false := by simp; omega
                    clear hri
                    go_wp2_with fail
                    go_end0
                    exact ⟨rfl, HF.out⟩

theorem sym_all (W0 : World) (g : Nat) (q1 q2 : Value) (N : Nat) (c : Nat → Nat → Int) (hC : CmpOk W0 g q1 q2 N c) (hS : Sort.SWO (ltC c)) (extra : List Value) (n cap : Nat) (hm : n ≤ 1000) (hcap : n ≤ cap) : ∀ k, SymAt W0 g q1 q2 N c extra n cap k
  | 0 => fun d a m b w hk hn hW hR hN ham hmb hb hs1 hs2 => by omega
  | k + 1 => fun d a m b w hk hn hW hR hN ham hmb hb hs1 hs2 => by
    by_cases h1 : a + 1 = m
    · subst hn
      exact sym_first W0 g q1 q2 N c hC hS d extra a m b cap w hW hR hN hm h1 hmb hb hcap hs2
    · by_cases h2 : m + 1 = b
      · subst hn
        exact sym_last W0 g q1 q2 N c hC hS d extra a m b cap w hW hR hN hm (by omega) h2 hb hcap hs1
      · exact sym_step W0 g q1 q2 N c hC hS extra n cap k (sym_all W0 g q1 q2 N c hC hS extra n cap hm hcap k) d a m b w hk hn hW hR hN hm (by omega) (by omega) hb hcap hs1 hs2
end Go.Proofs.Ytbnoejdhachhhab
