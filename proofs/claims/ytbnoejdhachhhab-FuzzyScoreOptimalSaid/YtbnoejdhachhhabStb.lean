/-
  slices.stableCmpFunc, slices.SortStableFunc: plain law, the walks.
-/
import Derived.Test.YtbnoejdhachhhabSyc
namespace Go.Proofs.Ytbnoejdhachhhab
open Go.RowKit Go.Shelf
open Go.Sort (PermIn SortedIn SWO)
set_option linter.unusedVariables false

/-- every window of bs elements that begins at a multiple of bs is sorted -/
def Blk (lt : Nat → Nat → Bool) (bs lo hi : Nat) (d : Array Nat) : Prop := ∀ s, bs ∣ s → lo ≤ s → SortedIn lt s (min (s + bs) hi) d
theorem mul_next {bs s a : Nat} (h1 : bs ∣ s) (h2 : bs ∣ a) (h : s < a) : s + bs ≤ a := by
  have := Nat.le_of_dvd (by omega) (Nat.dvd_sub h2 h1)
  omega
theorem Blk.grow {lt : Nat → Nat → Bool} {bs a b : Nat} {d d' : Array Nat} (h : Blk lt bs 0 a d) (ha : bs ∣ a) (hab : a ≤ b) (hb : b ≤ a + bs) (hs : SortedIn lt a b d') (he : ∀ i, i < a → d'[i]! = d[i]!) : Blk lt bs 0 b d' := by
  intro s hd _ i j q1 q2 q3
  have q3' : j < s + bs ∧ j < b := by omega
  by_cases c : s < a
  · have := mul_next hd ha c
    rw [he i (by omega), he j (by omega)]
    exact h s hd (by omega) i j q1 q2 (by omega)
  · by_cases c2 : s = a
    · subst c2; exact hs i j q1 q2 q3'.2
    · exfalso
      have := mul_next ha hd (by omega)
      omega
theorem Blk.rest {lt : Nat → Nat → Bool} {bs a b n : Nat} {d d' : Array Nat} (h : Blk lt bs a n d) (hab : a ≤ b) (he : ∀ i, b ≤ i → d'[i]! = d[i]!) : Blk lt bs b n d' := by
  intro s hd hs i j q1 q2 q3
  rw [he i (by omega), he j (by omega)]
  exact h s hd (by omega) i j q1 q2 q3
theorem Blk.two {lt : Nat → Nat → Bool} {bs a n : Nat} {d : Array Nat} (h : Blk lt bs a n d) (ha : bs ∣ a) (b : Nat) (hb : b ≤ n) (hb2 : b ≤ a + bs + bs) (hb3 : b = n ∨ b = a + bs + bs) (h2 : a + bs ≤ n) : SortedIn lt a (a + bs) d ∧ SortedIn lt (a + bs) b d := by
  have h1 := h a ha (Nat.le_refl _)
  have h3 := h (a + bs) (Nat.dvd_add ha (Nat.dvd_refl _)) (by omega)
  rw [Nat.min_eq_left h2] at h1
  refine ⟨h1, ?_⟩
  intro i j q1 q2 q3
  exact h3 i j q1 q2 (by omega)

/-- what the sort leaves -/
def SrtPost (W0 : World) (g : Nat) (extra : List Value) (c : Nat → Nat → Int) (d : Array Nat) (n N : Nat) (e : Ending) (w' : World) : Prop :=
  e = .returned (.tuple #[]) ∧ W0.grownBy w' (some g) ∧ ∃ d', Mrg c d 0 n N d' ∧ RowG w' g d' extra

set_option maxRecDepth 100000 in
set_option maxHeartbeats 4000000 in
theorem stb_any (W0 : World) (g : Nat) (q1 q2 : Value) (N : Nat) (c : Nat → Nat → Int) (hC : CmpOk W0 g q1 q2 N c) (hS : SWO (ltC c)) (extra : List Value) (n cap : Nat)
    (d : Array Nat) (w : World) (hn : d.size = n) (hW : W0.grownBy w (some g)) (hR : RowG w g d extra) (hN : AllLt d N) (hm : n ≤ 1000) (hcap : n ≤ cap) :
    Calls Try.prog 25 #[.slice (some ⟨g, 0, none⟩) n cap, .int .i64 n, .func (.func 17) #[] #[q1, q2]] w (SrtPost W0 g extra c d n N) := by
  have HX := Lib.hid (And.intro hn hN)
  have HR := Lib.hid hR
  have HW := Lib.hid hW
  have HINS := Lib.hid (fun (d' : Array Nat) (a b : Nat) (w : World) (h1 : d'.size = n) (hW : W0.grownBy w (some g)) (hR : RowG w g d' extra) (hN : AllLt d' N) (hb : b ≤ n) (ha : a ≤ b) =>
    (h1 ▸ ins_any W0 g q1 q2 N c hC d' extra a b cap w hW hR hN (by omega) (by omega) ha (by omega) : Calls Try.prog 32 #[.slice (some ⟨g, 0, none⟩) n cap, .int .i64 a, .int .i64 b, .func (.func 17) #[] #[q1, q2]] w fun e w' => e = .returned (.tuple #[]) ∧ W0.grownBy w' (some g) ∧ RowG w' g (Sort.insertionSort (ltC c) d' a b) extra))
  have HI := Lib.hid (fun (d' : Array Nat) (a b : Nat) (h1 : d'.size = n) (hN : AllLt d' N) (hb : b ≤ n) (ha : a ≤ b) =>
    (show PermIn a b d' (Sort.insertionSort (ltC c) d' a b) ∧ SortedIn (ltC c) a b (Sort.insertionSort (ltC c) d' a b) ∧ AllLt (Sort.insertionSort (ltC c) d' a b) N from by
      have h := Sort.insertionSort_holds hS d' a b ha (by omega)
      refine ⟨h.1, h.2, ?_⟩
      intro i hi
      rw [h.1.1] at hi
      by_cases c1 : a ≤ i ∧ i < b
      · exact Sort.permIn_all d' _ a b (fun x => x < N) (by omega) h.1 (fun i h1 h2 => hN i (by omega)) i c1.1 c1.2
      · rw [h.1.2.1 i (by omega)]; exact hN i hi))
  have HSYM := Lib.hid (sym_all W0 g q1 q2 N c hC hS extra n cap hm hcap n)
  clear hR hN hn hW hC
  go_enter Try.func25, Try.ntmps25
  go_wp2_with fail
  go_loopw [7, 8] (fun va vb wr => ∃ (a : Nat) (d' : Array Nat), a ≤ n ∧ va = .int .i64 a ∧ vb = .int .i64 ((a : Int) + 20) ∧ Hid (d'.size = n ∧ AllLt d' N ∧ W0.grownBy wr (some g) ∧ RowG wr g d' extra ∧ PermIn 0 n d d' ∧ 20 ∣ a ∧ Blk (ltC c) 20 0 a d')) (fun va _ _ => n - (intOf va).toNat)
  case atStart => exact ⟨0, d, by omega, rfl, rfl, HX.out.1, HX.out.2, HW.out, HR.out, Sort.permIn_refl _ _ _, ⟨0, rfl⟩, fun s _ _ i j q1 q2 q3 => by omega⟩
  case round =>
    obtain ⟨a, d', ha, rfl, rfl, HY⟩ := hrel
    clear HW HR
    by_cases hle : a + 20 ≤ n
    · have hleI : (a : Int) + 20 ≤ n := by omega
      obtain ⟨b, hb⟩ : ∃ b, b = a + 20 := ⟨_, rfl⟩
      have hbI : (a : Int) + 20 = (b : Int) := by omega
      obtain ⟨y1, y2, y3, y4, y5, y6, y7⟩ := HY.out
      have hcall := Lib.hid (HINS.out d' a b wr y1 y3 y4 y2 (by omega) (by omega))
      have hi := HI.out d' a b y1 y2 (by omega) (by omega)
      have HZ := Lib.hid (show (Sort.insertionSort (ltC c) d' a b).size = n ∧ AllLt (Sort.insertionSort (ltC c) d' a b) N ∧ PermIn 0 n d (Sort.insertionSort (ltC c) d' a b) ∧ 20 ∣ b ∧ Blk (ltC c) 20 0 b (Sort.insertionSort (ltC c) d' a b) from
        ⟨by rw [hi.1.1]; exact y1, hi.2.2, Sort.permIn_trans _ _ _ _ _ y5 (Sort.permIn_mono _ _ _ _ _ _ (by omega) (by omega) (by omega) hi.1), by rw [hb]; exact Nat.dvd_add y6 ⟨1, rfl⟩, y7.grow y6 (by omega) (by omega) hi.2.1 (fun i q => hi.1.2.1 i (.inl q))⟩)
      have HB := Lib.hid hb
      have hbn : b ≤ n := by omega
      clear y1 y2 y3 y4 y5 y6 y7 hi HY hb
      go_wp2_with fail
      refine hcall.out.mono ?_
      rintro e w1 ⟨rfl, g1, g2⟩
      have H1 := Lib.hid g1
      have H2 := Lib.hid g2
      clear g1 g2
      go_wp2_with fail
      go_roundw
      case rel => exact ⟨b, _, hbn, rfl, rfl, HZ.out.1, HZ.out.2.1, H1.out, H2.out, HZ.out.2.2⟩
      case measure => have := HB.out; simp only [intOf, Int.toNat_natCast]; omega
    · have hleI : (n : Int) < (a : Int) + 20 := by omega
      obtain ⟨y1, y2, y3, y4, y5, y6, y7⟩ := HY.out
      have hcall := Lib.hid (HINS.out d' a n wr y1 y3 y4 y2 (by omega) (by omega))
      have hi := HI.out d' a n y1 y2 (by omega) (by omega)
      have HZ := Lib.hid (show (Sort.insertionSort (ltC c) d' a n).size = n ∧ AllLt (Sort.insertionSort (ltC c) d' a n) N ∧ PermIn 0 n d (Sort.insertionSort (ltC c) d' a n) ∧ Blk (ltC c) 20 0 n (Sort.insertionSort (ltC c) d' a n) from
        ⟨by rw [hi.1.1]; exact y1, hi.2.2, Sort.permIn_trans _ _ _ _ _ y5 (Sort.permIn_mono _ _ _ _ _ _ (by omega) (by omega) (by omega) hi.1), y7.grow y6 (by omega) (by omega) hi.2.1 (fun i q => hi.1.2.1 i (.inl q))⟩)
      clear y1 y2 y3 y4 y5 y6 y7 hi HY HINS HI
      go_wp2_with fail
      refine hcall.out.mono ?_
      rintro e w1 ⟨rfl, g1, g2⟩
      have H1 := Lib.hid g1
      have H2 := Lib.hid g2
      clear g1 g2 hcall
      go_wp2_with fail
      go_loopw [6] (fun vs wr => ∃ (bs : Nat) (d' : Array Nat), 0 < bs ∧ bs ≤ 2000 ∧ vs = .int .i64 bs ∧ Hid (d'.size = n ∧ AllLt d' N ∧ W0.grownBy wr (some g) ∧ RowG wr g d' extra ∧ PermIn 0 n d d' ∧ Blk (ltC c) bs 0 n d')) (fun vs _ => 2000 - (intOf vs).toNat)
      case atStart => exact ⟨20, _, by omega, by omega, rfl, HZ.out.1, HZ.out.2.1, H1.out, H2.out, HZ.out.2.2⟩
      case round =>
        obtain ⟨bs, db, hbs, hbs2, rfl, HY⟩ := hrel
        clear H1 H2 HZ
        by_cases hlt : bs < n
        · have hltI : (bs : Int) < n := by omega
          obtain ⟨t, ht⟩ : ∃ t, t = 2 * bs := ⟨_, rfl⟩
          have m1 : (2 : Int) * (bs : Int) = (t : Int) := by omega
          have m2 : (bs : Int) * 2 = (t : Int) := by omega
          have HT := Lib.hid ht
          have hDV := Lib.hid (show bs ∣ t from ⟨2, by omega⟩)
          have ht2 : 0 < t ∧ t ≤ 2000 := by omega
          obtain ⟨ht3, ht4⟩ := ht2
          clear ht
          go_wp2_with fail
          go_loopw [7, 8] (fun va vb wr => ∃ (a b : Nat) (d' : Array Nat), a ≤ n ∧ b ≤ n + t ∧ va = .int .i64 a ∧ vb = .int .i64 b ∧ Hid (b = a + t ∧ d'.size = n ∧ AllLt d' N ∧ W0.grownBy wr (some g) ∧ RowG wr g d' extra ∧ PermIn 0 n d d' ∧ t ∣ a ∧ Blk (ltC c) t 0 a d' ∧ Blk (ltC c) bs a n d')) (fun va _ _ => n - (intOf va).toNat)
          case atStart =>
            obtain ⟨y1, y2, y3, y4, y5, y6⟩ := HY.out
            exact ⟨0, t, db, by omega, by omega, rfl, rfl, by omega, y1, y2, y3, y4, y5, ⟨0, by omega⟩, fun s _ _ i j q1 q2 q3 => by omega, y6⟩
          case round =>
            obtain ⟨a, b, d', ha, hb, rfl, rfl, HV⟩ := hrel
            clear HY
            obtain ⟨q, hq⟩ : ∃ q, q = a + bs := ⟨_, rfl⟩
            have hqI : (a : Int) + (bs : Int) = (q : Int) := by omega
            by_cases hle : b ≤ n
            · have hleI : (b : Int) ≤ n := by omega
              obtain ⟨b2, hb2⟩ : ∃ b2, b2 = b + t := ⟨_, rfl⟩
              have hb2I : (b : Int) + (t : Int) = (b2 : Int) := by omega
              obtain ⟨v0, v1, v2, v3, v4, v5, v6, v7, v8⟩ := HV.out
              have hT := HT.out
              have ht' := v8.two (Nat.dvd_trans hDV.out v6) b hle (by omega) (by omega) (by omega)
              rw [← hq] at ht'
              have hcall := Lib.hid (HSYM.out d' a q b wr (by omega) v1 v3 v4 v2 (by omega) (by omega) hle ht'.1 ht'.2)
              have HK := Lib.hid (fun (d2 : Array Nat) (h : Mrg c d' a b N d2) => (show b2 = b + t ∧ d2.size = n ∧ AllLt d2 N ∧ PermIn 0 n d d2 ∧ t ∣ b ∧ Blk (ltC c) t 0 b d2 ∧ Blk (ltC c) bs b n d2 from
                ⟨hb2, h.1.trans v1, h.2.2.1, Sort.permIn_trans _ _ _ _ _ v5 (Sort.permIn_mono _ _ _ _ _ _ (by omega) hle (by omega) h.2.1), by rw [v0]; exact Nat.dvd_add v6 (Nat.dvd_refl _), v7.grow v6 (by omega) (by omega) h.2.2.2 (fun i q => h.2.1.2.1 i (.inl q)), v8.rest (by omega) (fun i q => h.2.1.2.1 i (.inr q))⟩))
              have HB := Lib.hid (show b2 ≤ n + t ∧ a < b by omega)
              clear v0 v1 v2 v3 v4 v5 v6 v7 v8 hT ht' HV hq hb2
              go_wp2_with fail
              refine hcall.out.mono ?_
              rintro e w2 ⟨rfl, g1, d2, r1, g2⟩
              have H1 := Lib.hid g1
              have H2 := Lib.hid g2
              have H3 := Lib.hid r1
              clear g1 g2 r1
              go_wp2_with fail
              go_roundw
              case rel => exact ⟨b, b2, d2, hle, HB.out.1, rfl, rfl, (HK.out d2 H3.out).1, (HK.out d2 H3.out).2.1, (HK.out d2 H3.out).2.2.1, H1.out, H2.out, (HK.out d2 H3.out).2.2.2⟩
              case measure => have := HB.out; simp only [intOf, Int.toNat_natCast]; omega
            · have hleI : (n : Int) < b := by omega
              by_cases hqn : q < n
              · have hqnI : (q : Int) < n := by omega
                obtain ⟨v0, v1, v2, v3, v4, v5, v6, v7, v8⟩ := HV.out
                have hT := HT.out
                have ht' := v8.two (Nat.dvd_trans hDV.out v6) n (Nat.le_refl _) (by omega) (.inl rfl) (by omega)
                rw [← hq] at ht'
                have hcall := Lib.hid (HSYM.out d' a q n wr (by omega) v1 v3 v4 v2 (by omega) hqn (Nat.le_refl _) ht'.1 ht'.2)
                have HK := Lib.hid (fun (d2 : Array Nat) (h : Mrg c d' a n N d2) => (show d2.size = n ∧ AllLt d2 N ∧ PermIn 0 n d d2 ∧ Blk (ltC c) t 0 n d2 from
                  ⟨h.1.trans v1, h.2.2.1, Sort.permIn_trans _ _ _ _ _ v5 (Sort.permIn_mono _ _ _ _ _ _ (by omega) (Nat.le_refl _) (by omega) h.2.1), v7.grow v6 (by omega) (by omega) h.2.2.2 (fun i q => h.2.1.2.1 i (.inl q))⟩))
                have HB := Lib.hid (show bs < t by omega)
                clear v0 v1 v2 v3 v4 v5 v6 v7 v8 hT ht' HV hq
                go_wp2_with fail
                refine hcall.out.mono ?_
                rintro e w2 ⟨rfl, g1, d2, r1, g2⟩
                have H1 := Lib.hid g1
                have H2 := Lib.hid g2
                have H3 := Lib.hid r1
                clear g1 g2 r1
                go_wp2_with fail
                go_roundw
                case rel => exact ⟨t, d2, ht3, ht4, rfl, (HK.out d2 H3.out).1, (HK.out d2 H3.out).2.1, H1.out, H2.out, (HK.out d2 H3.out).2.2⟩
                case measure => have := HB.out; simp only [intOf, Int.toNat_natCast]; omega
              · have hqnI : (n : Int) ≤ q := by omega
                obtain ⟨v0, v1, v2, v3, v4, v5, v6, v7, v8⟩ := HV.out
                have hT := HT.out
                have hb1 := v8 a (Nat.dvd_trans hDV.out v6) (Nat.le_refl _)
                rw [Nat.min_eq_right (by omega)] at hb1
                have HK := Lib.hid (show d'.size = n ∧ AllLt d' N ∧ W0.grownBy wr (some g) ∧ RowG wr g d' extra ∧ PermIn 0 n d d' ∧ Blk (ltC c) t 0 n d' from
                  ⟨v1, v2, v3, v4, v5, v7.grow v6 (by omega) (by omega) hb1 (fun i q => rfl)⟩)
                have HB := Lib.hid (show bs < t by omega)
                clear v0 v1 v2 v3 v4 v5 v6 v7 v8 hT hb1 HV hq
                go_wp2_with fail
                go_roundw
                case rel => exact ⟨t, d', ht3, ht4, rfl, HK.out⟩
                case measure => have := HB.out; simp only [intOf, Int.toNat_natCast]; omega
        · have hltI : (n : Int) ≤ bs := by omega
          have HF : Hid (W0.grownBy wr (some g) ∧ ∃ d', Mrg c d 0 n N d' ∧ RowG wr g d' extra) := by
            obtain ⟨y1, y2, y3, y4, y5, y6⟩ := HY.out
            have := y6 0 ⟨0, by omega⟩ (Nat.le_refl _)
            rw [Nat.min_eq_right (by omega)] at this
            exact ⟨y3, db, ⟨y1.trans HX.out.1.symm, y5, y2, this⟩, y4⟩
          clear HY
          go_wp2_with fail
          go_end0
          exact ⟨rfl, HF.out⟩

theorem srt_any (W0 : World) (g : Nat) (q1 q2 : Value) (N : Nat) (c : Nat → Nat → Int) (hC : CmpOk W0 g q1 q2 N c) (hS : SWO (ltC c)) (extra : List Value) (n cap : Nat)
    (d : Array Nat) (w : World) (hn : d.size = n) (hW : W0.grownBy w (some g)) (hR : RowG w g d extra) (hN : AllLt d N) (hm : n ≤ 1000) (hcap : n ≤ cap) :
    Calls Try.prog 16 #[.slice (some ⟨g, 0, none⟩) n cap, .func (.func 17) #[] #[q1, q2]] w (SrtPost W0 g extra c d n N) := by
  have h := Lib.hid (stb_any W0 g q1 q2 N c hC hS extra n cap d w hn hW hR hN hm hcap)
  clear hn hW hR hN hC
  go_enter Try.func16, Try.ntmps16
  go_wp2_with fail
  refine h.out.mono ?_
  rintro e w1 ⟨rfl, g1⟩
  have H1 := Lib.hid g1
  clear g1
  go_wp2_with fail
  go_end0
  exact ⟨rfl, H1.out⟩
end Go.Proofs.Ytbnoejdhachhhab
