import Derived.Test.YtpibenilagloaaaGreatDoorMzas
import Derived.Test.YtpibenilagloaaaGreatDoorMzag
import Derived.Test.YtpibenilagloaaaGreatDoorSya
import Derived.Test.YtpibenilagloaaaGreatDoorSyb
namespace Go.Proofs.YtpibenilagloaaaGreatDoor
open Go.RowKit
set_option linter.unusedVariables false
theorem fields_to (lit : ByteArray) (ss : List ByteArray) (h1 : lit.size < 4294967281) (h2 : lit.data.toList.all (fun b => decide (b.toNat < 128)) = true) (h3 : (Lib.fields lit.data.toList).map (fun l => (⟨l.toArray⟩ : ByteArray)) = ss) (n : Nat) (hn : ss.length = n) (w : World) (hA : AscAt w) :
    Calls Tryz.prog 206 #[.string lit] w fun e w' => ∃ A, e = .returned (.slice A n n) ∧ StrsAt w' A ss ∧ Below w.heap.size w w' := by
  subst hn
  refine (fields_at lit ss h1 h2 h3 w hA).mono ?_
  rintro e w' ⟨rfl, rfl⟩
  exact ⟨_, rfl, StrsAt.new w ss 9 _ rfl, (Below.refl _ _).alloc (Nat.le_refl _) _⟩
def kwS : List ByteArray := keywordsL.map ofL
def twoS : List ByteArray := twoL.map ofL
theorem ofL_inj {a b : List UInt8} (h : ofL a = ofL b) : a = b := by
  unfold ofL at h
  injection h with h
  have := congrArg Array.toList h
  simpa using this
theorem any_of (L : List (List UInt8)) (x : List UInt8) : ((L.map ofL).any fun t => decide (t = ofL x)) = decide (x ∈ L) := by
  rw [Bool.eq_iff_iff]
  simp only [List.any_map, List.any_eq_true, Function.comp, decide_eq_true_eq]
  constructor
  · rintro ⟨y, hy, he⟩
    rw [← ofL_inj he]; exact hy
  · intro h
    exact ⟨x, h, rfl⟩
set_option maxRecDepth 100000 in
theorem keywords_any (w : World) (hA : AscAt w) : Calls Tryz.prog 167 #[] w fun e w' => ∃ A, e = .returned (.slice A 22 22) ∧ StrsAt w' A kwS ∧ Below w.heap.size w w' := by
  go_enter Tryz.func167, Tryz.ntmps167
  go_wp2_with fail
  refine (fields_to _ kwS (by decide) (by decide) (by decide) 22 rfl _ hA).mono ?_
  rintro e w1 ⟨A, rfl, h1, h2⟩
  go_wp2_with fail
  go_ret
  exact ⟨A, rfl, h1, h2⟩
set_option maxRecDepth 100000 in
theorem two_any (w : World) (hA : AscAt w) : Calls Tryz.prog 169 #[] w fun e w' => ∃ A, e = .returned (.slice A 6 6) ∧ StrsAt w' A twoS ∧ Below w.heap.size w w' := by
  go_enter Tryz.func169, Tryz.ntmps169
  go_wp2_with fail
  refine (fields_to _ twoS (by decide) (by decide) (by decide) 6 rfl _ hA).mono ?_
  rintro e w1 ⟨A, rfl, h1, h2⟩
  go_wp2_with fail
  go_ret
  exact ⟨A, rfl, h1, h2⟩
theorem extract_take (s : ByteArray) (k : Nat) : s.extract 0 k = ofL (s.data.toList.take k) := by
  unfold ofL
  apply ByteArray.ext
  apply Array.toList_inj.1
  simp
theorem extract_rest (s : ByteArray) (k : Nat) : s.extract k s.size = ofL (s.data.toList.drop k) := by
  unfold ofL
  apply ByteArray.ext
  apply Array.toList_inj.1
  simp
  try exact List.take_of_length_le (by simp)
theorem prefix2 (l : List UInt8) : Lib.hasPrefix l [47, 47] = decide (l.take 2 = [47, 47]) := by
  unfold Lib.hasPrefix
  match l with
  | [] => rfl
  | [a] => rw [Bool.eq_iff_iff]; simp [List.isPrefixOf]
  | a :: b :: r =>
    rw [Bool.eq_iff_iff]
    simp only [List.isPrefixOf, Bool.and_true, Bool.and_eq_true, beq_iff_eq, List.take_succ_cons, List.take_zero, decide_eq_true_eq, List.cons.injEq, and_true]
    exact ⟨fun ⟨h1, h2⟩ => ⟨h1.symm, h2.symm⟩, fun ⟨h1, h2⟩ => ⟨h1.symm, h2.symm⟩⟩
theorem firstL_cons (c : UInt8) (r : List UInt8) : firstL (c :: r) = ((if isSpaceB c then (scanL isSpaceB (c :: r), 101) else if (c :: r).take 2 = [47, 47] then (scanL notNlB (c :: r), 102) else if isLetterB c then (scanL isWordB (c :: r), if (c :: r).take (scanL isWordB (c :: r)) ∈ keywordsL then 104 else 103) else if isDigitB c then (scanL isDigitB (c :: r), 105) else if c.toNat = 34 then strL (c :: r) else if 1 < (c :: r).length ∧ (c :: r).take 2 ∈ twoL then (2, 107) else if c ∈ punctL then (1, 107) else (1, 108)) : Nat × Int) := rfl
theorem firstL_of (s : ByteArray) (h : 0 < s.size) : firstL s.data.toList = ((if isSpaceB s[0] then (scanL isSpaceB s.data.toList, 101) else if s.data.toList.take 2 = [47, 47] then (scanL notNlB s.data.toList, 102) else if isLetterB s[0] then (scanL isWordB s.data.toList, if s.data.toList.take (scanL isWordB s.data.toList) ∈ keywordsL then 104 else 103) else if isDigitB s[0] then (scanL isDigitB s.data.toList, 105) else if s[0].toNat = 34 then strL s.data.toList else if 1 < s.size ∧ s.data.toList.take 2 ∈ twoL then (2, 107) else if s[0] ∈ punctL then (1, 107) else (1, 108)) : Nat × Int) := by
  have hl : s.data.toList.length = s.size := by simp
  have hb : s.data.toList[0]? = some s[0] := by rw [List.getElem?_eq_getElem (by rw [hl]; exact h), byte_at s 0 h]
  generalize s[0] = c0 at *
  generalize s.data.toList = l at *
  cases l with
  | nil => simp at hl; omega
  | cons c r =>
    simp only [List.getElem?_cons_zero, Option.some.injEq] at hb
    rw [← hb, ← hl]
    exact firstL_cons c r
theorem scan0 (s : ByteArray) (fid : FuncId) (pred : UInt8 → Bool) (hp : PredOk fid pred) (w : World) (hs : s.size ≤ 2000) :
    Calls Tryz.prog 161 #[.string s, .int .i64 0, .func (.func fid) #[] #[]] w fun e w' => e = .returned (.int .i64 ((scanL pred s.data.toList : Nat) : Int)) ∧ w' = w := by
  have := scan_any s 0 fid pred hp w hs (Nat.zero_le _)
  rw [Nat.zero_add, List.drop_zero] at this
  exact this
theorem scanL_le (p : UInt8 → Bool) (l : List UInt8) : scanL p l ≤ l.length := by
  unfold scanL
  induction l with
  | nil => simp
  | cons c r ih => rw [List.takeWhile_cons]; split <;> simp; omega
set_option maxRecDepth 100000 in
set_option maxHeartbeats 3200000 in
theorem first_any (s : ByteArray) (w : World) (hA : AscAt w) (hs : s.size ≤ 2000) (h0 : 0 < s.size) :
    Calls Tryz.prog 102 #[.string s] w fun e w' => e = .returned (.tuple #[.int .i64 ((firstL s.data.toList).1 : Nat), .int .i64 (firstL s.data.toList).2]) ∧ Below w.heap.size w w' := by
  rw [firstL_of s h0]
  have HSP := Lib.hid (fun w0 => isSpace_any s[0] w0)
  have HLT := Lib.hid (fun w0 => isLetter_any s[0] w0)
  have HDG := Lib.hid (fun w0 => isDigit_any s[0] w0)
  have HPR := Lib.hid (fun w0 => Tryz.strings_HasPrefix s ⟨#[47, 47]⟩ w0)
  rw [show (⟨#[47, 47]⟩ : ByteArray).data.toList = [47, 47] from rfl, prefix2] at HPR
  have hlen : s.data.toList.length = s.size := by simp
  cases c1 : isSpaceB s[0]
  · rw [c1] at HSP
    rw [if_neg (by decide)]
    clear c1
    by_cases c2 : s.data.toList.take 2 = [47, 47]
    · rw [decide_eq_true c2] at HPR
      rw [if_pos c2]
      have HSC := Lib.hid (scan0 s _ _ ok_line w hs)
      clear c2
      generalize scanL notNlB s.data.toList = N at *
      go_enter Tryz.func102, Tryz.ntmps102
      go_wp2_with fail
      refine (HSP.out _).mono ?_
      rintro e w1 ⟨rfl, rfl⟩
      go_wp2_with fail
      refine (HPR.out _).mono ?_
      rintro e w1 ⟨rfl, rfl⟩
      go_wp2_with fail
      refine HSC.out.mono ?_
      rintro e w1 ⟨rfl, rfl⟩
      go_wp2_with fail
      go_ret2
      exact ⟨rfl, Below.refl _ _⟩
    · rw [decide_eq_false c2] at HPR
      rw [if_neg c2]
      clear c2
      cases c3 : isLetterB s[0]
      · rw [c3] at HLT
        rw [if_neg (by decide)]
        clear c3
        cases c4 : isDigitB s[0]
        · rw [c4] at HDG
          rw [if_neg (by decide)]
          clear c4
          obtain ⟨n1, n2⟩ := ne_bool s[0] 34 34 rfl
          by_cases c5 : s[0].toNat = 34
          · rw [decide_eq_true c5] at n1 n2
            rw [if_pos c5]
            have HST := Lib.hid (scanString_any s w hs h0)
            clear c5
            generalize strL s.data.toList = Q at *
            go_enter Tryz.func102, Tryz.ntmps102
            go_wp2_with fail
            refine (HSP.out _).mono ?_
            rintro e w1 ⟨rfl, rfl⟩
            go_wp2_with fail
            refine (HPR.out _).mono ?_
            rintro e w1 ⟨rfl, rfl⟩
            go_wp2_with fail
            refine (HLT.out _).mono ?_
            rintro e w1 ⟨rfl, rfl⟩
            go_wp2_with fail
            refine (HDG.out _).mono ?_
            rintro e w1 ⟨rfl, rfl⟩
            go_wp2_with fail
            refine HST.out.mono ?_
            rintro e w1 ⟨rfl, rfl⟩
            go_wp2_with fail
            go_ret2
            exact ⟨rfl, Below.refl _ _⟩
          · rw [decide_eq_false c5] at n1 n2
            rw [if_neg c5]
            clear c5
            have HIX := Lib.hid (fun w0 => Tryz.strings_IndexByte ⟨#[40, 41, 123, 125, 91, 93, 60, 62, 44, 59, 58, 46, 61, 43, 45, 42, 47, 33, 38, 124]⟩ (s[0].toNat : Int) w0)
            rw [show ((s[0].toNat : Int)).toNat.toUInt8 = s[0] by simp] at HIX
            have hpu : (0 ≤ Lib.indexByte (⟨#[40, 41, 123, 125, 91, 93, 60, 62, 44, 59, 58, 46, 61, 43, 45, 42, 47, 33, 38, 124]⟩ : ByteArray).data.toList s[0]) ↔ s[0] ∈ punctL := by have := index_ge punctL s[0]; rw [decide_eq_decide] at this; exact this
            generalize Lib.indexByte (⟨#[40, 41, 123, 125, 91, 93, 60, 62, 44, 59, 58, 46, 61, 43, 45, 42, 47, 33, 38, 124]⟩ : ByteArray).data.toList s[0] = ix at *
            by_cases c6 : 1 < s.size
            · have hc6 : (1 : Int) < s.size := by omega
              have hc62 : (2 : Int) ≤ s.size := by omega
              have HTW := Lib.hid (fun w0 hA0 => two_any w0 hA0)
              have HCT := Lib.hid (fun (w0 : World) (A : Option Addr) (hS : StrsAt w0 A twoS) => contains_any A 6 twoS (ofL (s.data.toList.take 2)) w0 hS (by decide))
              rw [show twoS.length = 6 from rfl, show twoS = twoL.map ofL from rfl, any_of] at HCT
              have HX := Lib.hid (show s.extract 0 2 = ofL (s.data.toList.take 2) from extract_take s 2)
              by_cases c7 : s.data.toList.take 2 ∈ twoL
              · rw [if_pos ⟨c6, c7⟩]
                rw [decide_eq_true c7] at HCT
                clear c6 c7 hlen HIX hpu
                go_enter Tryz.func102, Tryz.ntmps102
                go_wp2_with fail
                refine (HSP.out _).mono ?_
                rintro e w1 ⟨rfl, rfl⟩
                go_wp2_with fail
                refine (HPR.out _).mono ?_
                rintro e w1 ⟨rfl, rfl⟩
                go_wp2_with fail
                refine (HLT.out _).mono ?_
                rintro e w1 ⟨rfl, rfl⟩
                go_wp2_with fail
                refine (HDG.out _).mono ?_
                rintro e w1 ⟨rfl, rfl⟩
                go_wp2_with fail
                have HD1 := AscAt.below hA ((Below.refl _ _).drew)
                go_region_with (first
                  | (go_at_call 169; refine (HTW.out _ HD1).mono ?_; rintro e w2 ⟨A, rfl, hS, hB⟩)
                  | (go_at_call 166; rw [HX.out]; refine (HCT.out _ A hS).mono ?_; rintro e w3 ⟨rfl, rfl⟩))
                all_goals
                  go_wp2_with fail
                  go_ret2
                  exact ⟨rfl, (((Below.refl _ _).drew)).trans hB⟩
              · rw [if_neg (fun h => c7 h.2)]
                rw [decide_eq_false c7] at HCT
                clear c6 c7 hlen
                by_cases c8 : s[0] ∈ punctL
                · rw [if_pos c8]
                  have hix : 0 ≤ ix := hpu.2 c8
                  clear c8 hpu
                  go_enter Tryz.func102, Tryz.ntmps102
                  go_wp2_with fail
                  refine (HSP.out _).mono ?_
                  rintro e w1 ⟨rfl, rfl⟩
                  go_wp2_with fail
                  refine (HPR.out _).mono ?_
                  rintro e w1 ⟨rfl, rfl⟩
                  go_wp2_with fail
                  refine (HLT.out _).mono ?_
                  rintro e w1 ⟨rfl, rfl⟩
                  go_wp2_with fail
                  refine (HDG.out _).mono ?_
                  rintro e w1 ⟨rfl, rfl⟩
                  go_wp2_with fail
                  have HD1 := AscAt.below hA ((Below.refl _ _).drew)
                  go_region_with (first
                    | (go_at_call 169; refine (HTW.out _ HD1).mono ?_; rintro e w2 ⟨A, rfl, hS, hB⟩)
                    | (go_at_call 166; rw [HX.out]; refine (HCT.out _ A hS).mono ?_; rintro e w3 ⟨rfl, rfl⟩))
                  all_goals
                    go_wp2_with fail
                    refine (HIX.out _).mono ?_
                    rintro e w4 ⟨rfl, rfl⟩
                    go_wp2_with fail
                    go_ret2
                    exact ⟨rfl, (((Below.refl _ _).drew)).trans hB⟩
                · rw [if_neg c8]
                  have hix : ix < 0 := by
                    rcases Int.lt_or_le ix 0 with h | h
                    · exact h
                    · exact absurd (hpu.1 h) c8
                  clear c8 hpu
                  go_enter Tryz.func102, Tryz.ntmps102
                  go_wp2_with fail
                  refine (HSP.out _).mono ?_
                  rintro e w1 ⟨rfl, rfl⟩
                  go_wp2_with fail
                  refine (HPR.out _).mono ?_
                  rintro e w1 ⟨rfl, rfl⟩
                  go_wp2_with fail
                  refine (HLT.out _).mono ?_
                  rintro e w1 ⟨rfl, rfl⟩
                  go_wp2_with fail
                  refine (HDG.out _).mono ?_
                  rintro e w1 ⟨rfl, rfl⟩
                  go_wp2_with fail
                  have HD1 := AscAt.below hA ((Below.refl _ _).drew)
                  go_region_with (first
                    | (go_at_call 169; refine (HTW.out _ HD1).mono ?_; rintro e w2 ⟨A, rfl, hS, hB⟩)
                    | (go_at_call 166; rw [HX.out]; refine (HCT.out _ A hS).mono ?_; rintro e w3 ⟨rfl, rfl⟩))
                  all_goals
                    go_wp2_with fail
                    refine (HIX.out _).mono ?_
                    rintro e w4 ⟨rfl, rfl⟩
                    go_wp2_with fail
                    go_ret2
                    exact ⟨rfl, (((Below.refl _ _).drew)).trans hB⟩
            · have hc6 : ¬ ((1 : Int) < s.size) := by omega
              have hc62 : ((s.size : Int) ≤ 1) := by omega
              have hc63 : decide ((1 : Int) < s.size) = false := decide_eq_false hc6
              rw [if_neg (fun h => c6 h.1)]
              clear c6 hlen
              by_cases c8 : s[0] ∈ punctL
              · rw [if_pos c8]
                have hix : 0 ≤ ix := hpu.2 c8
                clear c8 hpu
                go_enter Tryz.func102, Tryz.ntmps102
                go_wp2_with fail
                refine (HSP.out _).mono ?_
                rintro e w1 ⟨rfl, rfl⟩
                go_wp2_with fail
                refine (HPR.out _).mono ?_
                rintro e w1 ⟨rfl, rfl⟩
                go_wp2_with fail
                refine (HLT.out _).mono ?_
                rintro e w1 ⟨rfl, rfl⟩
                go_wp2_with fail
                refine (HDG.out _).mono ?_
                rintro e w1 ⟨rfl, rfl⟩
                go_wp2_with fail
                go_region
                all_goals
                  go_wp2_with fail
                  refine (HIX.out _).mono ?_
                  rintro e w4 ⟨rfl, rfl⟩
                  go_wp2_with fail
                  go_ret2
                  exact ⟨rfl, (Below.refl _ _).drew⟩
              · rw [if_neg c8]
                have hix : ix < 0 := by
                  rcases Int.lt_or_le ix 0 with h | h
                  · exact h
                  · exact absurd (hpu.1 h) c8
                clear c8 hpu
                go_enter Tryz.func102, Tryz.ntmps102
                go_wp2_with fail
                refine (HSP.out _).mono ?_
                rintro e w1 ⟨rfl, rfl⟩
                go_wp2_with fail
                refine (HPR.out _).mono ?_
                rintro e w1 ⟨rfl, rfl⟩
                go_wp2_with fail
                refine (HLT.out _).mono ?_
                rintro e w1 ⟨rfl, rfl⟩
                go_wp2_with fail
                refine (HDG.out _).mono ?_
                rintro e w1 ⟨rfl, rfl⟩
                go_wp2_with fail
                go_region
                all_goals
                  go_wp2_with fail
                  refine (HIX.out _).mono ?_
                  rintro e w4 ⟨rfl, rfl⟩
                  go_wp2_with fail
                  go_ret2
                  exact ⟨rfl, (Below.refl _ _).drew⟩
        · rw [c4] at HDG
          rw [if_pos rfl]
          have HSC := Lib.hid (scan0 s _ _ ok_digit w hs)
          clear c4
          generalize scanL isDigitB s.data.toList = N at *
          go_enter Tryz.func102, Tryz.ntmps102
          go_wp2_with fail
          refine (HSP.out _).mono ?_
          rintro e w1 ⟨rfl, rfl⟩
          go_wp2_with fail
          refine (HPR.out _).mono ?_
          rintro e w1 ⟨rfl, rfl⟩
          go_wp2_with fail
          refine (HLT.out _).mono ?_
          rintro e w1 ⟨rfl, rfl⟩
          go_wp2_with fail
          refine (HDG.out _).mono ?_
          rintro e w1 ⟨rfl, rfl⟩
          go_wp2_with fail
          refine HSC.out.mono ?_
          rintro e w1 ⟨rfl, rfl⟩
          go_wp2_with fail
          go_ret2
          exact ⟨rfl, Below.refl _ _⟩
      · rw [c3] at HLT
        rw [if_pos rfl]
        have HSC := Lib.hid (scan0 s _ _ ok_word w hs)
        have hN := scanL_le isWordB s.data.toList
        rw [hlen] at hN
        clear c3
        generalize scanL isWordB s.data.toList = N at *
        have HKW := Lib.hid (fun w0 hA0 => keywords_any w0 hA0)
        have HCT := Lib.hid (fun (w0 : World) (A : Option Addr) (hS : StrsAt w0 A kwS) => contains_any A 22 kwS (ofL (s.data.toList.take N)) w0 hS (by decide))
        rw [show kwS.length = 22 from rfl, show kwS = keywordsL.map ofL from rfl, any_of] at HCT
        have HX := Lib.hid (show s.extract 0 N = ofL (s.data.toList.take N) from extract_take s N)
        have hNI : (N : Int) ≤ s.size := by omega
        have hN0 : (0 : Int) ≤ N := by omega
        clear hlen
        by_cases c4 : s.data.toList.take N ∈ keywordsL
        · rw [if_pos c4]
          rw [decide_eq_true c4] at HCT
          clear c4
          go_enter Tryz.func102, Tryz.ntmps102
          go_wp2_with fail
          refine (HSP.out _).mono ?_
          rintro e w1 ⟨rfl, rfl⟩
          go_wp2_with fail
          refine (HPR.out _).mono ?_
          rintro e w1 ⟨rfl, rfl⟩
          go_wp2_with fail
          refine (HLT.out _).mono ?_
          rintro e w1 ⟨rfl, rfl⟩
          go_wp2_with fail
          refine HSC.out.mono ?_
          rintro e w1 ⟨rfl, rfl⟩
          go_wp2_with fail
          have HD1 := AscAt.below hA ((Below.refl _ _).drew)
          go_region_with (first
            | (go_at_call 167; refine (HKW.out _ HD1).mono ?_; rintro e w2 ⟨A, rfl, hS, hB⟩)
            | (go_at_call 166; rw [HX.out]; refine (HCT.out _ A hS).mono ?_; rintro e w3 ⟨rfl, rfl⟩))
          all_goals
            go_wp2_with fail
            go_ret2
            exact ⟨rfl, (((Below.refl _ _).drew)).trans hB⟩
        · rw [if_neg c4]
          rw [decide_eq_false c4] at HCT
          clear c4
          go_enter Tryz.func102, Tryz.ntmps102
          go_wp2_with fail
          refine (HSP.out _).mono ?_
          rintro e w1 ⟨rfl, rfl⟩
          go_wp2_with fail
          refine (HPR.out _).mono ?_
          rintro e w1 ⟨rfl, rfl⟩
          go_wp2_with fail
          refine (HLT.out _).mono ?_
          rintro e w1 ⟨rfl, rfl⟩
          go_wp2_with fail
          refine HSC.out.mono ?_
          rintro e w1 ⟨rfl, rfl⟩
          go_wp2_with fail
          have HD1 := AscAt.below hA ((Below.refl _ _).drew)
          go_region_with (first
            | (go_at_call 167; refine (HKW.out _ HD1).mono ?_; rintro e w2 ⟨A, rfl, hS, hB⟩)
            | (go_at_call 166; rw [HX.out]; refine (HCT.out _ A hS).mono ?_; rintro e w3 ⟨rfl, rfl⟩))
          all_goals
            go_wp2_with fail
            go_ret2
            exact ⟨rfl, (((Below.refl _ _).drew)).trans hB⟩
  · rw [c1] at HSP
    rw [if_pos rfl]
    have HSC := Lib.hid (scan0 s _ _ ok_space w hs)
    clear c1
    generalize scanL isSpaceB s.data.toList = N at *
    go_enter Tryz.func102, Tryz.ntmps102
    go_wp2_with fail
    refine (HSP.out _).mono ?_
    rintro e w1 ⟨rfl, rfl⟩
    go_wp2_with fail
    refine HSC.out.mono ?_
    rintro e w1 ⟨rfl, rfl⟩
    go_wp2_with fail
    go_ret2
    exact ⟨rfl, Below.refl _ _⟩

def isIdB (s : ByteArray) : Bool := decide (0 < s.size ∧ s.size ≤ 30 ∧ (firstL s.data.toList).1 = s.size ∧ (firstL s.data.toList).2 = 103)
set_option maxRecDepth 100000 in
set_option maxHeartbeats 1600000 in
theorem ident_any (s : ByteArray) (w : World) (hA : AscAt w) :
    Calls Tryz.prog 81 #[.string s] w fun e w' => e = .returned (.bool (isIdB s)) ∧ Below w.heap.size w w' := by
  obtain ⟨r, hr⟩ : ∃ r, isIdB s = r := ⟨_, rfl⟩
  rw [hr]
  by_cases h0 : s.size = 0
  · have hf : r = false := by rw [← hr]; simp [isIdB, h0]
    subst hf
    have g0 : (s.size : Int) = 0 := by omega
    clear hr
    go_enter Tryz.func81, Tryz.ntmps81
    go_wp2_with fail
    go_ret
    exact ⟨rfl, Below.refl _ _⟩
  · by_cases h1 : 30 < s.size
    · have hf : r = false := by rw [← hr]; simp [isIdB]; omega
      subst hf
      have g0 : ¬ (s.size : Int) = 0 := by omega
      have g1 : (30 : Int) < s.size := by omega
      clear hr
      go_enter Tryz.func81, Tryz.ntmps81
      go_wp2_with fail
      go_ret
      exact ⟨rfl, Below.refl _ _⟩
    · have HFI := Lib.hid (first_any s w hA (by omega) (by omega))
      have hr2 : r = decide ((firstL s.data.toList).1 = s.size ∧ (firstL s.data.toList).2 = 103) := by
        rw [← hr]
        unfold isIdB
        refine decide_eq_decide.2 ⟨fun h => h.2.2, fun h => ⟨by omega, by omega, h⟩⟩
      have g0 : ¬ (s.size : Int) = 0 := by omega
      have g1 : ¬ (30 : Int) < s.size := by omega
      clear hA hr
      obtain ⟨f1, f2, hf⟩ : ∃ f1 f2, firstL s.data.toList = (f1, f2) := ⟨_, _, rfl⟩
      rw [hf] at HFI hr2
      simp only at HFI hr2
      have HR2 := Lib.hid hr2
      clear hf hr2
      by_cases e1 : f1 = s.size
      · have e1I : (f1 : Int) = s.size := by omega
        have HE := Lib.hid e1
        clear e1
        go_enter Tryz.func81, Tryz.ntmps81
        go_wp2_with fail
        refine HFI.out.mono ?_
        rintro e w1 ⟨rfl, hb1⟩
        have HB1 := Lib.hid hb1
        clear hb1
        go_wp2_with fail
        go_ret
        exact ⟨by rw [HR2.out, HE.out]; simp; try exact Bool.beq_eq_decide_eq _ _, HB1.out⟩
      · have e1I : ¬ (f1 : Int) = s.size := by omega
        have HE := Lib.hid e1
        clear e1
        go_enter Tryz.func81, Tryz.ntmps81
        go_wp2_with fail
        refine HFI.out.mono ?_
        rintro e w1 ⟨rfl, hb1⟩
        have HB1 := Lib.hid hb1
        clear hb1
        go_wp2_with fail
        go_ret
        exact ⟨by rw [HR2.out]; simp [HE.out], HB1.out⟩
set_option maxHeartbeats 1600000 in
theorem big_pred (nm src : ByteArray) (w : World) :
    Calls Tryz.prog 79 #[.agg #[.string nm, .string src]] w fun e w' => e = .returned (.bool (decide (2000 < src.size))) ∧ Below w.heap.size w w' := by
  have HB := Lib.hid (fun o => (Below.refl w.heap.size w).alloc (Nat.le_refl _) o)
  have HD := Lib.hid (show decide ((2000 : Int) < src.size) = decide (2000 < src.size) by simp; omega)
  go_enter Tryz.func79, Tryz.ntmps79
  go_wp2_with fail
  go_ret
  first
    | exact ⟨by rw [← HD.out]; rfl, HB.out _⟩
    | exact ⟨rfl, HB.out _⟩
    | exact ⟨by simp, HB.out _⟩
set_option maxHeartbeats 1600000 in
theorem name_pred (nm src : ByteArray) (w : World) (hA : AscAt w) :
    Calls Tryz.prog 80 #[.agg #[.string nm, .string src]] w fun e w' => e = .returned (.bool (!isIdB nm)) ∧ Below w.heap.size w w' := by
  have HB := Lib.hid (fun o => (Below.refl w.heap.size w).alloc (Nat.le_refl _) o)
  have HI := Lib.hid (fun w' (hb : Below w.heap.size w w') => ident_any nm w' (AscAt.below hA hb))
  generalize isIdB nm = r at *
  clear hA
  go_enter Tryz.func80, Tryz.ntmps80
  go_wp2_with fail
  refine (HI.out _ (HB.out _)).mono ?_
  rintro e w1 ⟨rfl, hb1⟩
  have HB1 := Lib.hid ((HB.out _).trans (hb1.mono (by simp)))
  clear hb1
  go_wp2_with fail
  go_ret
  exact ⟨rfl, HB1.out⟩

theorem idxs_snoc (p : Sym → Bool) : ∀ (l : List Sym) (i : Nat) (y : Sym), idxsFrom p i (l ++ [y]) = idxsFrom p i l ++ (if p y then [((i + l.length : Nat) : Int)] else [])
  | [], i, y => by
    simp only [List.nil_append, idxsFrom, List.length_nil, Nat.add_zero]
  | x :: r, i, y => by
    rw [List.cons_append, idxsFrom, idxsFrom, idxs_snoc p r (i + 1) y, List.length_cons, show i + 1 + r.length = i + (r.length + 1) by omega]
    split
    · rw [List.cons_append]
    · rfl
theorem idxs_len (p : Sym → Bool) : ∀ (l : List Sym) (i : Nat), (idxsFrom p i l).length ≤ l.length
  | [], i => by simp [idxsFrom]
  | x :: r, i => by
    have := idxs_len p r (i + 1)
    unfold idxsFrom
    split <;> simp <;> omega
theorem unique_any (xs : List Int) (A : Option Addr) (c : Nat) (w : World) (h : inD.At w (Lt w) A xs) :
    Calls Tryz.prog 296 #[.slice A xs.length c] w fun e w' => e = .returned (.tuple #[.int .i64 (uniqueL xs).1, .int .i64 (uniqueL xs).2]) ∧ w' = w := by
  match xs, h with
  | [], h =>
    go_enter Tryz.func296, Tryz.ntmps296
    go_wp2_with fail
    go_ret2
    exact ⟨rfl, rfl⟩
  | [x], h =>
    obtain ⟨b, off, rfl, hb, hc⟩ := flat_get h 0 x rfl
    have c0 := hc 0 _ rfl
    simp only [Nat.zero_mul, Nat.add_zero] at c0
    have hb2 : b < w.heap.size := hb
    clear hc h hb
    go_enter Tryz.func296, Tryz.ntmps296
    go_wp2_with fail
    go_ret2
    exact ⟨rfl, rfl⟩
  | x :: y :: r, h =>
    obtain ⟨n, hn⟩ : ∃ n, (x :: y :: r).length = n := ⟨_, rfl⟩
    have h2 : 2 ≤ n := by rw [← hn]; simp
    rw [hn]
    have e0 : ¬ (n : Int) = 0 := by omega
    have e1 : ¬ (n : Int) = 1 := by omega
    have e2 : ¬ n = 0 := by omega
    have e3 : ¬ n = 1 := by omega
    clear hn h
    go_enter Tryz.func296, Tryz.ntmps296
    go_wp2_with fail
    go_ret2
    exact ⟨rfl, rfl⟩
set_option maxRecDepth 100000 in
set_option maxHeartbeats 1600000 in
theorem members_any (p : Nat) (ss : List Sym) (xs : List Xpt) (par q : Int) (nm : ByteArray) (Ak : Option Addr) (ck : Nat) (w : World) (h : PgV w p ss xs) (hk : inD.At w (Lt w) Ak [q]) (hm : ss.length ≤ 1000000) :
    Calls Tryz.prog 290 #[.pointer (some ⟨p, 0, none⟩), .int .i64 par, .string nm, .slice Ak 1 ck] w fun e w' => ∃ A c, e = .returned (.slice A (membersL ss par nm [q]).length c) ∧ inD.At w' (Nw w w') A (membersL ss par nm [q]) ∧ Below w.heap.size w w' := by
  obtain ⟨A, c, hc3, hat⟩ := h.sy
  obtain ⟨kb, koff, rfl, hkl, hkc⟩ := flat_get hk 0 q rfl
  have hkc0 := hkc 0 _ rfl
  simp only [Nat.zero_mul, Nat.add_zero] at hkc0
  have HKL := Lib.hid (show kb < w.heap.size from hkl)
  have HKC := Lib.hid hkc0
  have hpl := h.lt
  obtain ⟨n, hn⟩ : ∃ n, ss.length = n := ⟨_, rfl⟩
  have HN := Lib.hid hn
  have HA := Lib.hid hat
  rw [hn] at hc3 hm
  clear hn hat h hk hkc hkc0 hkl
  go_enter Tryz.func290, Tryz.ntmps290
  go_wp2_with fail
  have hq0 : inD.Own w w.heap.size 3 (OF w.heap.size (.slice none 0 0) w) (.slice none 0 0) [] [] := Dat.Own.nil
  go_loopw [9, 17] (fun v i wr => ∃ (j : Nat) (vs : List Value), i = .int .i64 (j : Int) ∧ j ≤ n ∧ inD.Own wr w.heap.size 3 (OF w.heap.size v wr) v (membersL (ss.take j) par nm [q]) vs ∧ Below w.heap.size w wr) (fun _ i _ => n - (intOf i).toNat)
  case atStart => exact ⟨0, [], rfl, Nat.zero_le _, by simpa [membersL, idxsFrom] using hq0, Below.refl _ _⟩
  case round =>
    clear hq0
    obtain ⟨j, vs, rfl, hj, hown, hb⟩ := hrel
    by_cases hlt : j < n
    · have hjI : (j : Int) < n := by omega
      have hjl : j < ss.length := by rw [HN.out]; exact hlt
      obtain ⟨tb, off, rfl, htb, hxc⟩ := flat_get HA.out j ss[j] (List.getElem?_eq_getElem hjl)
      have htk : membersL (ss.take (j + 1)) par nm [q] = membersL (ss.take j) par nm [q] ++ (if (decide (ss[j].par = par) && (decide (ss[j].nm = nm) && [q].contains ss[j].kind)) then [(j : Int)] else []) := by
        unfold membersL
        rw [List.take_succ_eq_append_getElem hjl, idxs_snoc, List.length_take, Nat.zero_add, Nat.min_eq_left (by omega)]
      have hlen : (membersL (ss.take j) par nm [q]).length ≤ j := by
        unfold membersL
        refine Nat.le_trans (idxs_len _ _ _) ?_; rw [List.length_take]; omega
      generalize ss[j] = x at *
      obtain ⟨x0, x1, x2, x3, x4, x5⟩ := x
      simp only at htk
      have hbs := hb.size
      have htl : tb < w.heap.size := htb
      have cc : ∀ i u, ([.int .i64 x0, .int .i64 x1, .int .i64 x2, .int .i64 x3, .string x4, .bool x5] : List Value)[i]? = some u → wr.cell? ⟨tb, off + j * 6 + i, none⟩ = some u := fun i u hu => (hb.cell (p := ⟨tb, _, none⟩) htl).trans (hxc i u hu)
      have d0 := cc 0 _ rfl
      have d1 := cc 1 _ rfl
      have d2 := cc 2 _ rfl
      have d3 := cc 3 _ rfl
      have d4 := cc 4 _ rfl
      have d5 := cc 5 _ rfl
      rw [Nat.add_zero] at d0
      have htl2 : tb < wr.heap.size := Nat.lt_of_lt_of_le htl hbs
      have HTK := Lib.hid htk
      have HOW := Lib.hid hown
      have HB := Lib.hid hb
      have HLE := Lib.hid hlen
      clear cc hxc htk hown hb hlen hc3
      by_cases g1 : par = x3
      · subst g1
        by_cases g2 : nm = x4
        · subst g2
          by_cases g3 : q = x0
          · subst g3
            have HQQ := Lib.hid (show (([q] : List Int).take 1).contains q = true by simp)
            have HCQ : Hid (Calls Tryz.prog 106 #[.slice (some ⟨kb, koff, none⟩) 1 ck, .int .i64 q] (wr.alloc (.cells #[.int .i64 q, .int .i64 x1, .int .i64 x2, .int .i64 par, .string nm, .bool x5] 89)) fun e w' => e = .returned (.bool ((([q] : List Int).take 1).contains q)) ∧ w' = wr.alloc (.cells #[.int .i64 q, .int .i64 x1, .int .i64 x2, .int .i64 par, .string nm, .bool x5] 89)) := Tryz.slices_Contains_int kb koff 1 ck [q] q _ (Nat.le_refl _) (by decide) (fun j hj => by
              obtain rfl : j = 0 := by simpa using hj
              exact (((HB.out.alloc hbs _).cell (p := ⟨kb, koff, none⟩) HKL.out).trans HKC.out))
            have HF := Lib.hid (show membersL (ss.take (j + 1)) par nm [q] = membersL (ss.take j) par nm [q] ++ [(j : Int)] by rw [HTK.out, if_pos (by simp)])
            clear HTK
            have hbl : Below wr.heap.size wr (wr.alloc (.cells #[.int .i64 q, .int .i64 x1, .int .i64 x2, .int .i64 par, .string nm, .bool x5] 89)) := (Below.refl _ _).alloc (Nat.le_refl _) _
            have hown1 := HOW.out.below hbl
            obtain ⟨n0, hn0⟩ : ∃ n0, (membersL (ss.take j) par nm [q]).length = n0 := ⟨_, rfl⟩
            have ho1 := hown1.1
            have hn0b : n0 ≤ j := by rw [← hn0]; exact HLE.out
            rw [hn0] at ho1
            have ho1' : (wr.alloc (.cells #[.int .i64 q, .int .i64 x1, .int .i64 x2, .int .i64 par, .string nm, .bool x5] 89)).ownsRow w.heap.size 3 1 u9 n0 vs := ho1
            have HO1 := Lib.hid hown1
            have HBL := Lib.hid hbl
            have HN0 := Lib.hid hn0
            have hbB : w.heap.size ≤ (wr.alloc (.cells #[.int .i64 q, .int .i64 x1, .int .i64 x2, .int .i64 par, .string nm, .bool x5] 89)).heap.size := by simp; omega
            clear hn0 hown1 hbl ho1
            go_wp2_with fail
            refine HCQ.out.mono ?_
            rintro e w3 ⟨rfl, rfl⟩
            rw [HQQ.out]
            go_wp2_with (at_builtin; refine wpList_append_litH rfl (.tmp 38) (.tmp 40) _ rfl w.heap.size 3 _ 1 8 Tryz.underlying76 info_in rfl (by decide) _ _ _ rfl ho1' 1 1 (wr.heap.size + 1) (by simp) [.int .i64 (j : Int)] rfl rfl ?a1 ?a2 ?a3 hbB ?_)
            case a1 => simp [Value.oneCell']
            case a2 => simp only [maxLen]; omega
            case a3 => omega
            intro v2 w2 hown2 hg2 hat2
            have h2 : inD.Own w2 w.heap.size 3 (OF w.heap.size v2 w2) v2 (membersL (ss.take (j + 1)) par nm [q]) (vs ++ [.int .i64 (j : Int)]) := by
              rw [HF.out]
              exact HO1.out.grow (ys := [(j : Int)]) (Dat.Row.single (D := inD) rfl) hg2 (by rw [HN0.out]; exact hown2) (hat2.imp_right fun ⟨g, h1, h2⟩ => ⟨g, h1, by simp; exact h2⟩)
            have hb2 : Below w.heap.size w w2 := (HB.out.trans (HBL.out.mono hbs)).grown hg2 hbB (fun q hq => (HO1.out.1.lt q hq).1)
            have H2 := Lib.hid h2
            have HB2 := Lib.hid hb2
            clear h2 hb2 hown2 hg2 hat2
            go_wp2_with fail
            go_roundw
            case rel => exact ⟨j + 1, _, by go_num, by omega, H2.out, HB2.out⟩
            case measure => simp [intOf]; omega
          · have g3' : ¬ x0 = q := fun e => g3 e.symm
            have HQQ := Lib.hid (show (([q] : List Int).take 1).contains x0 = false by simp [g3'])
            have HCQ : Hid (Calls Tryz.prog 106 #[.slice (some ⟨kb, koff, none⟩) 1 ck, .int .i64 x0] (wr.alloc (.cells #[.int .i64 x0, .int .i64 x1, .int .i64 x2, .int .i64 par, .string nm, .bool x5] 89)) fun e w' => e = .returned (.bool ((([q] : List Int).take 1).contains x0)) ∧ w' = wr.alloc (.cells #[.int .i64 x0, .int .i64 x1, .int .i64 x2, .int .i64 par, .string nm, .bool x5] 89)) := Tryz.slices_Contains_int kb koff 1 ck [q] x0 _ (Nat.le_refl _) (by decide) (fun j hj => by
              obtain rfl : j = 0 := by simpa using hj
              exact (((HB.out.alloc hbs _).cell (p := ⟨kb, koff, none⟩) HKL.out).trans HKC.out))
            have HF := Lib.hid (show membersL (ss.take (j + 1)) par nm [q] = membersL (ss.take j) par nm [q] by rw [HTK.out, if_neg (by simp [g3']), List.append_nil])
            clear HTK
            go_wp2_with fail
            refine HCQ.out.mono ?_
            rintro e w3 ⟨rfl, rfl⟩
            rw [HQQ.out]
            go_wp2_with fail
            go_roundw
            case rel => exact ⟨j + 1, vs, by go_num, by omega, by rw [HF.out]; exact HOW.out.below ((Below.refl _ _).alloc (Nat.le_refl _) _), HB.out.alloc hbs _⟩
            case measure => simp [intOf]; omega
        · have gs : ¬ x4.toList = nm.toList := fun e => g2 (ba_inj e).symm
          have g2' : ¬ x4 = nm := fun e => g2 e.symm
          have HF := Lib.hid (show membersL (ss.take (j + 1)) par nm [q] = membersL (ss.take j) par nm [q] by rw [HTK.out, if_neg (by simp [g2']), List.append_nil])
          clear HTK
          go_wp2_with fail
          go_roundw
          case rel => exact ⟨j + 1, vs, by go_num, by omega, by rw [HF.out]; exact HOW.out.below ((Below.refl _ _).alloc (Nat.le_refl _) _), HB.out.alloc hbs _⟩
          case measure => simp [intOf]; omega
      · have g1' : ¬ x3 = par := fun e => g1 e.symm
        have HF := Lib.hid (show membersL (ss.take (j + 1)) par nm [q] = membersL (ss.take j) par nm [q] by rw [HTK.out, if_neg (by simp [g1']), List.append_nil])
        clear HTK
        go_wp2_with fail
        go_roundw
        case rel => exact ⟨j + 1, vs, by go_num, by omega, by rw [HF.out]; exact HOW.out.below ((Below.refl _ _).alloc (Nat.le_refl _) _), HB.out.alloc hbs _⟩
        case measure => simp [intOf]; omega
    · have hjI : ¬ (j : Int) < n := by omega
      have htk : ss.take j = ss := List.take_of_length_le (by rw [HN.out]; omega)
      rw [htk] at hown
      have HB := Lib.hid hb
      obtain ⟨A3, c3, hv, hAt, _⟩ := hown.at (F' := Nw w wr) (fun c hc => ⟨hc.1, hc.2.1⟩) (fun c hc => hown.1.lt c hc)
      subst hv
      have HAt := Lib.hid hAt
      obtain ⟨z, hz⟩ : ∃ z, (membersL ss par nm [q]).length = z := ⟨_, rfl⟩
      have HQ := Lib.hid hz
      rw [hz]
      clear hb hAt hown htk hz
      go_wp2_with fail
      go_ret
      first
        | exact ⟨A3, c3, by rw [HQ.out]; rfl, HAt.out, HB.out⟩
        | exact ⟨A3, ⟨c3, by rw [HQ.out]; rfl⟩, HAt.out, HB.out⟩

theorem idx_pred (nm : ByteArray) (B : Nat) (w : World) (hB : B < w.heap.size) (hcell : w.cell? ⟨B, 0, none⟩ = some (.string nm)) :
    PredBelow Tryz.prog 127 #[.pointer (some ⟨B, 0, none⟩)] (fun x : Mdl => .agg (mdC x).toArray) (fun x => decide (x.nm = nm)) w := fun W x hb => by
  have hc : W.cell? ⟨B, 0, none⟩ = some (.string nm) := (hb.cell (p := ⟨B, 0, none⟩) hB).trans hcell
  have hBW : B < W.heap.size := Nat.lt_of_lt_of_le hB hb.size
  have hne : B ≠ W.heap.size := by omega
  obtain ⟨x0, x1⟩ := x
  have HB := Lib.hid hb
  clear hb
  show Calls Tryz.prog 127 #[.agg #[.string x0, .string x1], .pointer (some ⟨B, 0, none⟩)] W _
  by_cases g : nm = x0
  · subst g
    go_enter Tryz.func127, Tryz.ntmps127
    go_wp2_with fail
    go_ret
    exact ⟨by simp, HB.out.alloc HB.out.size _⟩
  · have gs : ¬ x0.toList = nm.toList := fun e => g (ba_inj e).symm
    go_enter Tryz.func127, Tryz.ntmps127
    go_wp2_with fail
    go_ret
    have g' : ¬ x0 = nm := fun e => g e.symm
    exact ⟨by simp [g', gs], HB.out.alloc HB.out.size _⟩
set_option maxHeartbeats 1000000 in
theorem indexOf_any (b off n c : Nat) (zs : List Mdl) (nm : ByteArray) (w : World) (hz : n ≤ zs.length) (hbig : n ≤ 9223372036854775807) (hb : b < w.heap.size)
    (hc : ∀ j x, zs[j]? = some x → ∀ i u, (mdC x)[i]? = some u → w.cell? ⟨b, off + j * 2 + i, none⟩ = some u) :
    Calls Tryz.prog 82 #[.slice (some ⟨b, off, none⟩) n c, .string nm] w fun e w' => e = .returned (.int .i64 (idxOf (zs.take n) nm)) ∧ Below w.heap.size w w' := by
  have eg : ∀ args w, (callFunc 127 args).run Tryz.prog w = .ok (.enter 127 args) w := enters_of Tryz.func127 (by kernel_rfl) rfl
  have hcon := AnyQ.slices_IndexFunc Tryz.idxMd 2 Tryz.isAgg48 Tryz.sizeOf48 mdC (fun _ => rfl) (fun x => decide (x.nm = nm)) 127 #[.pointer (some ⟨w.heap.size, 0, none⟩)] eg b off n c zs (w.alloc (.cells #[.string nm] 9))
    (idx_pred nm w.heap.size _ (by simp) (by simp)) hz hbig (by simp; omega) (fun j hj i v hi => by
      refine Lib.cell?_alloc_some _ ?_
      have e : zs[j]? = some zs[j]! := by rw [List.getElem!_eq_getElem?_getD, List.getElem?_eq_getElem hj]; rfl
      exact hc j _ e i v hi)
  change Calls Tryz.prog 126 _ _ _ at hcon
  have HC := Lib.hid hcon
  have HI := Lib.hid (show idxOf (zs.take n) nm = Lib.idxBy (fun _ y => decide (y.nm = nm)) (zs.take n) default from rfl)
  generalize Lib.idxBy (fun _ (y : Mdl) => decide (y.nm = nm)) (zs.take n) default = r at *
  rw [HI.out]
  clear hc hcon
  go_enter Tryz.func82, Tryz.ntmps82
  go_wp2_with fail
  refine HC.out.mono ?_
  rintro e w' ⟨rfl, hb'⟩
  go_wp2_with fail
  go_ret
  exact ⟨rfl, ((Below.refl _ w).alloc (Nat.le_refl _) _).trans (hb'.mono (by simp))⟩
end Go.Proofs.YtpibenilagloaaaGreatDoor
