/-
  WORDS for the sort; slices.insertionSortCmpFunc: the walk.
-/
import Derived.Test.YtbnoejdhachhhabCmp
import Derived.Sort.LotA
import Derived.Sort.Lot0
namespace Go.Proofs.Ytbnoejdhachhhab
open Go.RowKit Go.Shelf
set_option linter.unusedVariables false

/-- block g's first cells are the indices d -/
def RowG (w : World) (g : Nat) (d : Array Nat) (extra : List Value) : Prop := w.heap[g]? = some (.cells (d.toList.map (fun k : Nat => Value.int .i64 (k : Int)) ++ extra).toArray 3 (0, 0))
theorem get_bang (d : Array Nat) (i : Nat) (h : i < d.size) : d[i]! = d[i] := by simp [h]
theorem RowG.cell {w : World} {g : Nat} {d : Array Nat} {extra : List Value} (h : RowG w g d extra) (i : Nat) (hi : i < d.size) : w.cell? ⟨g, i, none⟩ = some (.int .i64 (d[i]! : Int)) := by
  rw [Lib.cell_of_heap h, get_bang d i hi]
  simp [List.getElem?_append_left, hi]
theorem RowG.free {w : World} {g : Nat} {d : Array Nat} {extra : List Value} (h : RowG w g d extra) (i : Nat) : w.frozen? ⟨g, i, none⟩ = false := Lib.frozen_of_heap h i
theorem RowG.set {w : World} {g : Nat} {d : Array Nat} {extra : List Value} (h : RowG w g d extra) (i k : Nat) (hi : i < d.size) : RowG (w.setCell ⟨g, i, none⟩ (.int .i64 (k : Int))) g (d.setIfInBounds i k) extra := by
  unfold RowG at *
  rw [set_block h]
  congr 3
  rw [List.set_append_left _ _ (by simpa using hi), Array.toList_setIfInBounds, List.map_set]
theorem RowG.drew {w : World} {g : Nat} {d : Array Nat} {extra : List Value} (h : RowG w g d extra) : RowG w.drew g d extra := h
theorem RowG.swap {w : World} {g : Nat} {d : Array Nat} {extra : List Value} (h : RowG w g d extra) (i j : Nat) (hi : i < d.size) (hj : j < d.size) : RowG ((w.setCell ⟨g, i, none⟩ (.int .i64 (d[j]! : Int))).setCell ⟨g, j, none⟩ (.int .i64 (d[i]! : Int))) g (Sort.swp d i j) extra :=
  (h.set i _ hi).set j _ (by simpa using hj)
def AllLt (d : Array Nat) (N : Nat) : Prop := ∀ i, i < d.size → d[i]! < N
theorem AllLt.swp {d : Array Nat} {N : Nat} (h : AllLt d N) (i j : Nat) (hi : i < d.size) (hj : j < d.size) : AllLt (Sort.swp d i j) N := by
  intro k hk
  rw [Sort.size_swp] at hk
  by_cases h2 : k = j
  · subst h2; rw [Sort.swp_right d i k hj]; exact h i hi
  · by_cases h1 : k = i
    · subst h1; rw [Sort.swp_left d k j hi h2]; exact h j hj
    · rw [Sort.swp_other d i j k h1 h2]; exact h k hk
/-- the comparison's contract, in every world that is W0 but for block g and what is new -/
def CmpOk (W0 : World) (g : Nat) (q1 q2 : Value) (N : Nat) (c : Nat → Nat → Int) : Prop :=
  ∀ (u : World) (a b : Nat), W0.grownBy u (some g) → a < N → b < N → Calls Try.prog 17 #[.int .i64 a, .int .i64 b, q1, q2] u fun e w' => e = .returned (.int .i64 (c a b)) ∧ Below u.heap.size u w'
/-- less -/
def ltC (c : Nat → Nat → Int) (a b : Nat) : Bool := decide (c a b < 0)
theorem grown_below' {W u w' : World} {row : Option Nat} (h : W.grownBy u row) (hb : Below u.heap.size u w') : W.grownBy w' row :=
  ⟨hb.os.trans h.os, hb.tape.trans h.tape, hb.output.trans h.output, Nat.le_trans h.size hb.size, fun k hk hne => (hb.block k (Nat.lt_of_lt_of_le hk h.size)).trans (h.block k hk hne)⟩
theorem grown_drewOf {W u : World} {row : Option Nat} (h : W.grownBy u row) : W.grownBy u.drew row := grown_trans h (grown_drew _ _)
theorem grown_drewN {W u : World} {row : Option Nat} (h : W.grownBy u row) (n : Nat) : W.grownBy (u.drewN n) row := ⟨h.os, h.tape, h.output, h.size, h.block⟩
theorem grown_set {W u : World} {g : Nat} (h : W.grownBy u (some g)) (i : Nat) (v : Value) : W.grownBy (u.setCell ⟨g, i, none⟩ v) (some g) := grown_trans h (grown_setCell _ _ _ _)
theorem RowG.below {w w' : World} {g : Nat} {d : Array Nat} {extra : List Value} (h : RowG w g d extra) (hb : Below w.heap.size w w') : RowG w' g d extra := (hb.block _ (lt_of_heap h)).trans h

theorem insInner_stop (lt : Nat → Nat → Bool) (a j : Nat) (d : Array Nat) (h : j ≤ a) : Sort.insInner lt a j d = d := by
  cases j with
  | zero => rfl
  | succ j => unfold Sort.insInner; rw [if_neg (by simp; omega)]
theorem insInner_no (lt : Nat → Nat → Bool) (a j m : Nat) (d : Array Nat) (hm : m = j - 1) (h : a < j) (hl : lt d[j]! d[m]! = false) : Sort.insInner lt a j d = d := by
  cases j with
  | zero => rfl
  | succ j => obtain rfl : m = j := by omega
              unfold Sort.insInner; rw [if_neg (by simp [hl])]
theorem insInner_yes (lt : Nat → Nat → Bool) (a j m : Nat) (d : Array Nat) (hm : m = j - 1) (h : a < j) (hl : lt d[j]! d[m]! = true) : Sort.insInner lt a j d = Sort.insInner lt a m (Sort.swp d j m) := by
  cases j with
  | zero => omega
  | succ j => obtain rfl : m = j := by omega
              conv => lhs; unfold Sort.insInner
              rw [if_pos (by simp [hl]; omega)]
theorem insOuter_go (lt : Nat → Nat → Bool) (a b i : Nat) (d : Array Nat) (h : i < b) : Sort.insOuter lt a b i d = Sort.insOuter lt a b (i + 1) (Sort.insInner lt a i d) := by
  conv => lhs; unfold Sort.insOuter
  rw [if_pos h]
theorem insOuter_end (lt : Nat → Nat → Bool) (a b i : Nat) (d : Array Nat) (h : ¬ i < b) : Sort.insOuter lt a b i d = d := by unfold Sort.insOuter; rw [if_neg h]

set_option maxRecDepth 100000 in
set_option maxHeartbeats 1000000 in
theorem ins_any (W0 : World) (g : Nat) (q1 q2 : Value) (N : Nat) (c : Nat → Nat → Int) (hC : CmpOk W0 g q1 q2 N c) (d : Array Nat) (extra : List Value) (a b cap : Nat) (w : World)
    (hW : W0.grownBy w (some g)) (hR : RowG w g d extra) (hN : AllLt d N) (hm : d.size ≤ 1000) (hb : b ≤ d.size) (ha : a ≤ b) (hcap : d.size ≤ cap) :
    Calls Try.prog 32 #[.slice (some ⟨g, 0, none⟩) d.size cap, .int .i64 a, .int .i64 b, .func (.func 17) #[] #[q1, q2]] w fun e w' => e = .returned (.tuple #[]) ∧ W0.grownBy w' (some g) ∧ RowG w' g (Sort.insertionSort (ltC c) d a b) extra := by
  have HCmp := Lib.hid hC
  obtain ⟨n, hn⟩ : ∃ n, d.size = n := ⟨_, rfl⟩
  have HR := Lib.hid hR
  have HN := Lib.hid hN
  have HW := Lib.hid hW
  have HD := Lib.hid hn
  rw [hn] at hm hb hcap ⊢
  clear hR hN hn hW hC
  go_enter Try.func32, Try.ntmps32
  go_wp2_with fail
  go_loopw [8] (fun vi wr => ∃ (i : Nat) (d' : Array Nat), a + 1 ≤ i ∧ i ≤ b + 1 ∧ vi = .int .i64 i ∧ Hid (d'.size = n ∧ Sort.insOuter (ltC c) a b i d' = Sort.insertionSort (ltC c) d a b ∧ AllLt d' N ∧ W0.grownBy wr (some g) ∧ RowG wr g d' extra)) (fun vi _ => b + 1 - (intOf vi).toNat)
  case atStart => exact ⟨a + 1, d, by omega, by omega, by go_num, HD.out, rfl, HN.out, HW.out, HR.out⟩
  case round =>
    obtain ⟨i, d', hi1, hi2, rfl, HX⟩ := hrel
    clear HR HN HW
    by_cases hlt : i < b
    · have hltI : (i : Int) < b := by omega
      go_wp2_with fail
      go_loopw [9] (fun vj wr => ∃ (j : Nat) (dj : Array Nat), a ≤ j ∧ j ≤ i ∧ vj = .int .i64 j ∧ Hid (dj.size = n ∧ Sort.insOuter (ltC c) a b (i + 1) (Sort.insInner (ltC c) a j dj) = Sort.insertionSort (ltC c) d a b ∧ AllLt dj N ∧ W0.grownBy wr (some g) ∧ RowG wr g dj extra)) (fun vj _ => (intOf vj).toNat)
      case atStart =>
        obtain ⟨x1, x2, x3⟩ := HX.out
        exact ⟨i, d', by omega, by omega, rfl, x1, by rw [← x2, insOuter_go _ _ _ _ _ hlt], x3⟩
      case round =>
        clear HX
        obtain ⟨j, dj, hj1, hj2, rfl, HX⟩ := hrel
        by_cases hja : a < j
        · obtain ⟨m, hmj⟩ : ∃ m, m = j - 1 := ⟨_, rfl⟩
          obtain ⟨x1, x2, x3, x4, x5⟩ := HX.out
          have hjn : j < dj.size := by omega
          have hmn : m < dj.size := by omega
          have hjI : (a : Int) < j := by omega
          have hjnI : (j : Int) < n := by omega
          have hmnI : (m : Int) < n := by omega
          have hm0 : (0 : Int) ≤ m := by omega
          have hsub : (j : Int) - 1 = (m : Int) := by omega
          have hw : IntKind.i64.wrap ((j : Int) - 1) = (m : Int) := by rw [IntWalk.i64_in _ (by omega)]; omega
          have hwm : IntKind.i64.wrap (m : Int) = (m : Int) := by rw [IntWalk.i64_in _ (by omega)]
          have HM := Lib.hid hmj
          have c1 := x5.cell j hjn
          have c2 := x5.cell m hmn
          have hx := x3 j hjn
          have hy := x3 m hmn
          obtain ⟨x, hxe⟩ : ∃ x, dj[j]! = x := ⟨_, rfl⟩
          obtain ⟨y, hye⟩ : ∃ y, dj[m]! = y := ⟨_, rfl⟩
          rw [hxe] at c1 hx
          rw [hye] at c2 hy
          have HXE := Lib.hid hxe
          have HYE := Lib.hid hye
          have hcall := Lib.hid (HCmp.out wr.drew x y (grown_drewOf x4) hx hy)
          obtain ⟨r, hr⟩ : ∃ r, c x y = r := ⟨_, rfl⟩
          rw [hr] at hcall
          by_cases hneg : r < 0
          · have HL := Lib.hid (insInner_yes (ltC c) a j m dj hmj hja (by rw [hxe, hye]; unfold ltC; rw [hr]; exact decide_eq_true hneg))
            clear x1 x2 x3 x4 x5 hmj hxe hye hr hja
            go_wp2_with fail
            refine wp_region_still_tail 14 (by kernel_rfl) (by kernel_rfl) ?_
            simp only [List.take_succ_cons, List.take_zero, List.drop_succ_cons, List.drop_zero]
            repeat still_step
            refine wpStill_nil ?_
            go_wp2_with fail
            refine hcall.out.mono ?_
            rintro e w1 ⟨rfl, hb1⟩
            obtain ⟨x1, x2, x3, x4, x5⟩ := HX.out
            have y5 : RowG w1 g dj extra := x5.drew.below hb1
            have y4 : W0.grownBy w1 (some g) := grown_below' (grown_drewOf x4) hb1
            have hjn : j < dj.size := by have := HM.out; omega
            have hmn : m < dj.size := by have := HM.out; omega
            have c1 := y5.cell j hjn
            have c2 := y5.cell m hmn
            have f1 := y5.free j
            have f2 := y5.free m
            have e1 := y5.swap j m hjn hmn
            rw [HXE.out] at c1 e1
            rw [HYE.out] at c2 e1
            have HSW := Lib.hid (show (Sort.swp dj j m).size = n ∧ Sort.insOuter (ltC c) a b (i + 1) (Sort.insInner (ltC c) a m (Sort.swp dj j m)) = Sort.insertionSort (ltC c) d a b ∧ AllLt (Sort.swp dj j m) N ∧ W0.grownBy ((w1.setCell ⟨g, j, none⟩ (.int .i64 (y : Int))).setCell ⟨g, m, none⟩ (.int .i64 (x : Int))) (some g) ∧ RowG ((w1.setCell ⟨g, j, none⟩ (.int .i64 (y : Int))).setCell ⟨g, m, none⟩ (.int .i64 (x : Int))) g (Sort.swp dj j m) extra from
              ⟨by rw [Sort.size_swp]; exact x1, by rw [← HL.out]; exact x2, x3.swp j m hjn hmn, grown_set (grown_set y4 _ _) _ _, e1⟩)
            clear x1 x2 x3 x4 x5 y4 y5 e1 hcall HX HL hb1 HXE HYE
            go_wp2_with fail
            go_region
            all_goals go_wp2_with fail
            all_goals go_roundw
            case rel => exact ⟨m, _, by have := HM.out; omega, by have := HM.out; omega, rfl, HSW.out.1, HSW.out.2.1, HSW.out.2.2.1, by first | exact HSW.out.2.2.2.1 | exact grown_drewOf HSW.out.2.2.2.1, HSW.out.2.2.2.2⟩
            case measure => simp only [intOf]; omega
          · have HL := Lib.hid (insInner_no (ltC c) a j m dj hmj hja (by rw [hxe, hye]; unfold ltC; rw [hr]; exact decide_eq_false hneg))
            clear x1 x2 x3 x4 x5 hmj hxe hye hr hja
            go_wp2_with fail
            refine wp_region_still_tail 14 (by kernel_rfl) (by kernel_rfl) ?_
            simp only [List.take_succ_cons, List.take_zero, List.drop_succ_cons, List.drop_zero]
            repeat still_step
            refine wpStill_nil ?_
            go_wp2_with fail
            refine hcall.out.mono ?_
            rintro e w1 ⟨rfl, hb1⟩
            obtain ⟨x1, x2, x3, x4, x5⟩ := HX.out
            have HSW := Lib.hid (show dj.size = n ∧ Sort.insOuter (ltC c) a b (i + 1) dj = Sort.insertionSort (ltC c) d a b ∧ AllLt dj N ∧ W0.grownBy w1 (some g) ∧ RowG w1 g dj extra from
              ⟨x1, by rw [← x2, HL.out], x3, grown_below' (grown_drewOf x4) hb1, x5.drew.below hb1⟩)
            clear x1 x2 x3 x4 x5 hcall HX HL hb1 HXE HYE
            go_wp2_with fail
            go_roundw
            case rel => exact ⟨i + 1, dj, by omega, by omega, by go_num, HSW.out⟩
            case measure => simp [intOf]; omega
        · have hja2 : decide (a < j) = false := by simp; omega
          have HL := Lib.hid (insInner_stop (ltC c) a j dj (by omega))
          obtain ⟨x1, x2, x3, x4, x5⟩ := HX.out
          have HSW := Lib.hid (show dj.size = n ∧ Sort.insOuter (ltC c) a b (i + 1) dj = Sort.insertionSort (ltC c) d a b ∧ AllLt dj N ∧ W0.grownBy wr (some g) ∧ RowG wr g dj extra from
              ⟨x1, by rw [← x2, HL.out], x3, x4, x5⟩)
          clear x1 x2 x3 x4 x5 HX HL hja
          go_wp2_with fail
          go_quiet (fail)
          go_wp2_with fail
          go_roundw
          case rel => exact ⟨i + 1, dj, by omega, by omega, by go_num, HSW.out.1, HSW.out.2.1, HSW.out.2.2.1, grown_drewN HSW.out.2.2.2.1 _, HSW.out.2.2.2.2⟩
          case measure => simp [intOf]; omega
    · obtain ⟨x1, x2, x3, x4, x5⟩ := HX.out
      have HE := Lib.hid (show W0.grownBy wr (some g) ∧ RowG wr g (Sort.insertionSort (ltC c) d a b) extra from ⟨x4, by rw [← x2, insOuter_end _ _ _ _ _ hlt]; exact x5⟩)
      clear x1 x2 x3 x4 x5 HX
      go_wp2_with fail
      go_end0
      exact ⟨rfl, HE.out⟩
end Go.Proofs.Ytbnoejdhachhhab
