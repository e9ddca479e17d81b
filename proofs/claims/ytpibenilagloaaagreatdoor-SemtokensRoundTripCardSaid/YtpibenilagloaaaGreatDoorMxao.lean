import Derived.Test.YtpibenilagloaaaGreatDoorMxan
/-
  The parser's functions: the walks (printed by gen_walk.py).
-/
namespace Go.Proofs.YtpibenilagloaaaGreatDoor
open Go.RowKit
set_option linter.unusedVariables false

set_option maxRecDepth 100000 in
set_option maxHeartbeats 1600000 in
theorem acts_postfix_1 {n : Nat} {p : Nat} {toks : List Tok} (hI : AllOk n p toks) (b0 : Nat) : ActsC n (Cmd.seq .bump (.seq .bump (.call .arguments))) (Bx b0 (.pointer (some ⟨p, 0, none⟩))) 353 #[] #[.pointer (some ⟨b0, 0, none⟩)] p toks := by
  refine actsC_of (Bx.stays _ _) (ent_of Tryz.func353 (by kernel_rfl) (by kernel_rfl)) ?_
  intro low kind M0 w0 w s s' h0 hs
  show Calls Tryz.prog 353 #[.pointer (some ⟨b0, 0, none⟩)] w _
  have x0 := h0.bx (fun _ _ e => e)
  go_enter Tryz.func353, Tryz.ntmps353
  obtain ⟨u1, r2, r3⟩ := R.seq hs
  obtain ⟨u4, r5, r6⟩ := R.seq r3
  go_wp2_with fail
  refine (Cx.bump h0 r2).mono ?_
  rintro e w8 ⟨rfl, h7⟩
  clear x0 h0
  have x0 := h7.bx (fun _ _ e => e)
  clear r2
  go_wp2_with fail
  refine (Cx.bump h7 r5).mono ?_
  rintro e w10 ⟨rfl, h9⟩
  clear x0 h7
  have x0 := h9.bx (fun _ _ e => e)
  clear r5
  go_wp2_with fail
  refine (Cx.fn .arguments hI h9 r6 True.intro).mono ?_
  rintro e w12 ⟨rfl, h11⟩
  clear x0 h9
  have x0 := h11.bx (fun _ _ e => e)
  clear r6
  go_wp2_with fail
  go_end0
  exact ⟨rfl, h11⟩

set_option maxRecDepth 100000 in
set_option maxHeartbeats 1600000 in
theorem acts_postfix_2 {n : Nat} {p : Nat} {toks : List Tok} (hI : AllOk n p toks) (b0 : Nat) : ActsC n (Cmd.seq .bump Cmd.expectIdent) (Bx b0 (.pointer (some ⟨p, 0, none⟩))) 354 #[] #[.pointer (some ⟨b0, 0, none⟩)] p toks := by
  refine actsC_of (Bx.stays _ _) (ent_of Tryz.func354 (by kernel_rfl) (by kernel_rfl)) ?_
  intro low kind M0 w0 w s s' h0 hs
  show Calls Tryz.prog 354 #[.pointer (some ⟨b0, 0, none⟩)] w _
  have x0 := h0.bx (fun _ _ e => e)
  go_enter Tryz.func354, Tryz.ntmps354
  obtain ⟨u1, r2, r3⟩ := R.seq hs
  go_wp2_with fail
  refine (Cx.bump h0 r2).mono ?_
  rintro e w5 ⟨rfl, h4⟩
  clear x0 h0
  have x0 := h4.bx (fun _ _ e => e)
  clear r2
  go_wp2_with fail
  refine (Cx.expectIdent h4 r3).mono ?_
  rintro e w7 ⟨rfl, h6⟩
  clear x0 h4
  have x0 := h6.bx (fun _ _ e => e)
  clear r3
  go_wp2_with fail
  go_end0
  exact ⟨rfl, h6⟩

set_option maxRecDepth 100000 in
set_option maxHeartbeats 1600000 in
theorem acts_primary_1 {n : Nat} {p : Nat} {toks : List Tok} (hI : AllOk n p toks) (b0 : Nat) : ActsC n (Cmd.seq .bump (.call .arguments)) (Bx b0 (.pointer (some ⟨p, 0, none⟩))) 345 #[] #[.pointer (some ⟨b0, 0, none⟩)] p toks := by
  refine actsC_of (Bx.stays _ _) (ent_of Tryz.func345 (by kernel_rfl) (by kernel_rfl)) ?_
  intro low kind M0 w0 w s s' h0 hs
  show Calls Tryz.prog 345 #[.pointer (some ⟨b0, 0, none⟩)] w _
  have x0 := h0.bx (fun _ _ e => e)
  go_enter Tryz.func345, Tryz.ntmps345
  obtain ⟨u1, r2, r3⟩ := R.seq hs
  go_wp2_with fail
  refine (Cx.bump h0 r2).mono ?_
  rintro e w5 ⟨rfl, h4⟩
  clear x0 h0
  have x0 := h4.bx (fun _ _ e => e)
  clear r2
  go_wp2_with fail
  refine (Cx.fn .arguments hI h4 r3 True.intro).mono ?_
  rintro e w7 ⟨rfl, h6⟩
  clear x0 h4
  have x0 := h6.bx (fun _ _ e => e)
  clear r3
  go_wp2_with fail
  go_end0
  exact ⟨rfl, h6⟩

set_option maxRecDepth 100000 in
set_option maxHeartbeats 1600000 in
theorem acts_primary_2 {n : Nat} {p : Nat} {toks : List Tok} (hI : AllOk n p toks) (b0 : Nat) : ActsC n (Cmd.seq .bump (.seq (.call .expr) (Cmd.expect pRp))) (Bx b0 (.pointer (some ⟨p, 0, none⟩))) 347 #[] #[.pointer (some ⟨b0, 0, none⟩)] p toks := by
  refine actsC_of (Bx.stays _ _) (ent_of Tryz.func347 (by kernel_rfl) (by kernel_rfl)) ?_
  intro low kind M0 w0 w s s' h0 hs
  show Calls Tryz.prog 347 #[.pointer (some ⟨b0, 0, none⟩)] w _
  have x0 := h0.bx (fun _ _ e => e)
  go_enter Tryz.func347, Tryz.ntmps347
  obtain ⟨u1, r2, r3⟩ := R.seq hs
  obtain ⟨u4, r5, r6⟩ := R.seq r3
  go_wp2_with fail
  refine (Cx.bump h0 r2).mono ?_
  rintro e w8 ⟨rfl, h7⟩
  clear x0 h0
  have x0 := h7.bx (fun _ _ e => e)
  clear r2
  go_wp2_with fail
  refine (Cx.fn .expr hI h7 r5 True.intro).mono ?_
  rintro e w10 ⟨rfl, h9⟩
  clear x0 h7
  have x0 := h9.bx (fun _ _ e => e)
  clear r5
  go_wp2_with fail
  refine (Cx.expect h9 r6).mono ?_
  rintro e w12 ⟨rfl, h11⟩
  clear x0 h9
  have x0 := h11.bx (fun _ _ e => e)
  clear r6
  go_wp2_with fail
  go_end0
  exact ⟨rfl, h11⟩

set_option maxRecDepth 100000 in
set_option maxHeartbeats 1600000 in
theorem acts_pattern_1 {n : Nat} {p : Nat} {toks : List Tok} (hI : AllOk n p toks) (b0 : Nat) : ActsC n (Cmd.seq .bump Cmd.expectIdent) (Bx b0 (.pointer (some ⟨p, 0, none⟩))) 358 #[] #[.pointer (some ⟨b0, 0, none⟩)] p toks := by
  refine actsC_of (Bx.stays _ _) (ent_of Tryz.func358 (by kernel_rfl) (by kernel_rfl)) ?_
  intro low kind M0 w0 w s s' h0 hs
  show Calls Tryz.prog 358 #[.pointer (some ⟨b0, 0, none⟩)] w _
  have x0 := h0.bx (fun _ _ e => e)
  go_enter Tryz.func358, Tryz.ntmps358
  obtain ⟨u1, r2, r3⟩ := R.seq hs
  go_wp2_with fail
  refine (Cx.bump h0 r2).mono ?_
  rintro e w5 ⟨rfl, h4⟩
  clear x0 h0
  have x0 := h4.bx (fun _ _ e => e)
  clear r2
  go_wp2_with fail
  refine (Cx.expectIdent h4 r3).mono ?_
  rintro e w7 ⟨rfl, h6⟩
  clear x0 h4
  have x0 := h6.bx (fun _ _ e => e)
  clear r3
  go_wp2_with fail
  go_end0
  exact ⟨rfl, h6⟩

set_option maxRecDepth 100000 in
set_option maxHeartbeats 1600000 in
theorem acts_pattern_2 {n : Nat} {p : Nat} {toks : List Tok} (hI : AllOk n p toks) (b0 : Nat) : ActsC n (Cmd.seq (.call (.path false)) (.ite (.at [pLp]) (.seq .bump (Cmd.list pRp (.call .pattern))) .skip)) (Bx b0 (.pointer (some ⟨p, 0, none⟩))) 359 #[] #[.pointer (some ⟨b0, 0, none⟩)] p toks := by
  refine actsC_of (Bx.stays _ _) (ent_of Tryz.func359 (by kernel_rfl) (by kernel_rfl)) ?_
  intro low kind M0 w0 w s s' h0 hs
  show Calls Tryz.prog 359 #[.pointer (some ⟨b0, 0, none⟩)] w _
  have x0 := h0.bx (fun _ _ e => e)
  go_enter Tryz.func359, Tryz.ntmps359
  obtain ⟨u1, r2, r3⟩ := R.seq hs
  go_wp2_with fail
  refine (Cx.fn (.path false) hI h0 r2 True.intro).mono ?_
  rintro e w5 ⟨rfl, h4⟩
  clear x0 h0
  have x0 := h4.bx (fun _ _ e => e)
  clear r2
  cases ht6 : atB [pLp] u1.rest
  · have r3f := R.no r3 ht6
    have ht6' := Lib.hid ht6
    clear ht6 r3
    go_wp2_with fail
    refine (Cx.acceptF h4 ht6'.out (by simp)).mono ?_
    rintro e w8 ⟨rfl, h7⟩
    clear x0 h4
    have x0 := h7.bx (fun _ _ e => e)
    have h9 := h7.eq r3f.skip
    clear h7 r3f
    go_wp2_with fail
    go_end0
    exact ⟨rfl, h9⟩
  · obtain ⟨u10, r11, r12⟩ := R.seq (R.yes r3 ht6)
    have r11b := Lib.hid r11.bump
    have ht6' := Lib.hid ht6
    clear ht6 r3 r11
    go_wp2_with fail
    refine (Cx.acceptT h4 ht6'.out r11b.out (by simp)).mono ?_
    rintro e w14 ⟨rfl, h13⟩
    clear x0 h4
    have x0 := h13.bx (fun _ _ e => e)
    go_wp2_with fail
    refine (Cx.list h13 r12 (actsC_fn _ .pattern hI ent_pattern True.intro (fun _ => rfl) rfl)).mono ?_
    rintro e w16 ⟨rfl, h15⟩
    clear x0 h13
    have x0 := h15.bx (fun _ _ e => e)
    clear r12
    go_wp2_with fail
    go_end0
    exact ⟨rfl, h15⟩

set_option maxRecDepth 100000 in
set_option maxHeartbeats 1600000 in
theorem acts_statement_1 {n : Nat} {p : Nat} {toks : List Tok} (hI : AllOk n p toks) (b0 : Nat) : ActsC n (Cmd.seq .bump (.seq (.call .expr) (.call .block))) (Bx b0 (.pointer (some ⟨p, 0, none⟩))) 330 #[] #[.pointer (some ⟨b0, 0, none⟩)] p toks := by
  refine actsC_of (Bx.stays _ _) (ent_of Tryz.func330 (by kernel_rfl) (by kernel_rfl)) ?_
  intro low kind M0 w0 w s s' h0 hs
  show Calls Tryz.prog 330 #[.pointer (some ⟨b0, 0, none⟩)] w _
  have x0 := h0.bx (fun _ _ e => e)
  go_enter Tryz.func330, Tryz.ntmps330
  obtain ⟨u1, r2, r3⟩ := R.seq hs
  obtain ⟨u4, r5, r6⟩ := R.seq r3
  go_wp2_with fail
  refine (Cx.bump h0 r2).mono ?_
  rintro e w8 ⟨rfl, h7⟩
  clear x0 h0
  have x0 := h7.bx (fun _ _ e => e)
  clear r2
  go_wp2_with fail
  refine (Cx.fn .expr hI h7 r5 True.intro).mono ?_
  rintro e w10 ⟨rfl, h9⟩
  clear x0 h7
  have x0 := h9.bx (fun _ _ e => e)
  clear r5
  go_wp2_with fail
  refine (Cx.fn .block hI h9 r6 True.intro).mono ?_
  rintro e w12 ⟨rfl, h11⟩
  clear x0 h9
  have x0 := h11.bx (fun _ _ e => e)
  clear r6
  go_wp2_with fail
  go_end0
  exact ⟨rfl, h11⟩

set_option maxRecDepth 100000 in
set_option maxHeartbeats 1600000 in
theorem acts_statement_2 {n : Nat} {p : Nat} {toks : List Tok} (hI : AllOk n p toks) (b0 : Nat) : ActsC n (Cmd.seq .bump (.seq (.call .expr) (Cmd.expect pSemi))) (Bx b0 (.pointer (some ⟨p, 0, none⟩))) 333 #[] #[.pointer (some ⟨b0, 0, none⟩)] p toks := by
  refine actsC_of (Bx.stays _ _) (ent_of Tryz.func333 (by kernel_rfl) (by kernel_rfl)) ?_
  intro low kind M0 w0 w s s' h0 hs
  show Calls Tryz.prog 333 #[.pointer (some ⟨b0, 0, none⟩)] w _
  have x0 := h0.bx (fun _ _ e => e)
  go_enter Tryz.func333, Tryz.ntmps333
  obtain ⟨u1, r2, r3⟩ := R.seq hs
  obtain ⟨u4, r5, r6⟩ := R.seq r3
  go_wp2_with fail
  refine (Cx.bump h0 r2).mono ?_
  rintro e w8 ⟨rfl, h7⟩
  clear x0 h0
  have x0 := h7.bx (fun _ _ e => e)
  clear r2
  go_wp2_with fail
  refine (Cx.fn .expr hI h7 r5 True.intro).mono ?_
  rintro e w10 ⟨rfl, h9⟩
  clear x0 h7
  have x0 := h9.bx (fun _ _ e => e)
  clear r5
  go_wp2_with fail
  refine (Cx.expect h9 r6).mono ?_
  rintro e w12 ⟨rfl, h11⟩
  clear x0 h9
  have x0 := h11.bx (fun _ _ e => e)
  clear r6
  go_wp2_with fail
  go_end0
  exact ⟨rfl, h11⟩

set_option maxRecDepth 100000 in
set_option maxHeartbeats 1600000 in
theorem acts_statement_3_true {n : Nat} {p : Nat} {toks : List Tok} (hI : AllOk n p toks) (b0 : Nat) (b1 : Nat) : ActsC n (Cmd.ite (.at [pSemi]) .bump .skip) (And2 (Bx b0 (.pointer (some ⟨p, 0, none⟩))) (Bx b1 (.bool true))) 334 #[] #[.pointer (some ⟨b0, 0, none⟩), .pointer (some ⟨b1, 0, none⟩)] p toks := by
  refine actsC_of (And2.stays (Bx.stays _ _) (Bx.stays _ _)) (ent_of Tryz.func334 (by kernel_rfl) (by kernel_rfl)) ?_
  intro low kind M0 w0 w s s' h0 hs
  show Calls Tryz.prog 334 #[.pointer (some ⟨b0, 0, none⟩), .pointer (some ⟨b1, 0, none⟩)] w _
  have x0 := h0.bx (fun _ _ e => e.1)
  have x1 := h0.bx (fun _ _ e => e.2)
  go_enter Tryz.func334, Tryz.ntmps334
  cases ht1 : atB [pSemi] s.rest
  · have hsf := R.no hs ht1
    have ht1' := Lib.hid ht1
    clear ht1 hs
    go_wp2_with fail
    refine (Cx.acceptF h0 ht1'.out (by simp)).mono ?_
    rintro e w3 ⟨rfl, h2⟩
    clear x0 x1 h0
    have x0 := h2.bx (fun _ _ e => e.1)
    have x1 := h2.bx (fun _ _ e => e.2)
    have h4 := h2.eq hsf.skip
    clear h2 hsf
    go_wp2_with fail
    go_end0
    exact ⟨rfl, h4⟩
  · have hsb := Lib.hid (R.bump (R.yes hs ht1))
    have ht1' := Lib.hid ht1
    clear ht1 hs
    go_wp2_with fail
    refine (Cx.acceptT h0 ht1'.out hsb.out (by simp)).mono ?_
    rintro e w6 ⟨rfl, h5⟩
    clear x0 x1 h0
    have x0 := h5.bx (fun _ _ e => e.1)
    have x1 := h5.bx (fun _ _ e => e.2)
    go_wp2_with fail
    go_end0
    exact ⟨rfl, h5⟩

set_option maxRecDepth 100000 in
set_option maxHeartbeats 1600000 in
theorem acts_statement_3_false {n : Nat} {p : Nat} {toks : List Tok} (hI : AllOk n p toks) (b0 : Nat) (b1 : Nat) : ActsC n (Cmd.ite (.at [pSemi]) .bump (.leaf 108)) (And2 (Bx b0 (.pointer (some ⟨p, 0, none⟩))) (Bx b1 (.bool false))) 334 #[] #[.pointer (some ⟨b0, 0, none⟩), .pointer (some ⟨b1, 0, none⟩)] p toks := by
  refine actsC_of (And2.stays (Bx.stays _ _) (Bx.stays _ _)) (ent_of Tryz.func334 (by kernel_rfl) (by kernel_rfl)) ?_
  intro low kind M0 w0 w s s' h0 hs
  show Calls Tryz.prog 334 #[.pointer (some ⟨b0, 0, none⟩), .pointer (some ⟨b1, 0, none⟩)] w _
  have x0 := h0.bx (fun _ _ e => e.1)
  have x1 := h0.bx (fun _ _ e => e.2)
  go_enter Tryz.func334, Tryz.ntmps334
  cases ht1 : atB [pSemi] s.rest
  · have hsf := R.no hs ht1
    have ht1' := Lib.hid ht1
    clear ht1 hs
    go_wp2_with fail
    refine (Cx.acceptF h0 ht1'.out (by simp)).mono ?_
    rintro e w3 ⟨rfl, h2⟩
    clear x0 x1 h0
    have x0 := h2.bx (fun _ _ e => e.1)
    have x1 := h2.bx (fun _ _ e => e.2)
    go_wp2_with fail
    refine (Cx.missingToken h2 hsf).mono ?_
    rintro e w5 ⟨rfl, h4⟩
    clear x0 x1 h2
    have x0 := h4.bx (fun _ _ e => e.1)
    have x1 := h4.bx (fun _ _ e => e.2)
    clear hsf
    go_wp2_with fail
    go_end0
    exact ⟨rfl, h4⟩
  · have hsb := Lib.hid (R.bump (R.yes hs ht1))
    have ht1' := Lib.hid ht1
    clear ht1 hs
    go_wp2_with fail
    refine (Cx.acceptT h0 ht1'.out hsb.out (by simp)).mono ?_
    rintro e w7 ⟨rfl, h6⟩
    clear x0 x1 h0
    have x0 := h6.bx (fun _ _ e => e.1)
    have x1 := h6.bx (fun _ _ e => e.2)
    go_wp2_with fail
    go_end0
    exact ⟨rfl, h6⟩
end Go.Proofs.YtpibenilagloaaaGreatDoor

/-
  The parser's functions: the walks (printed by gen_walk.py).
-/
namespace Go.Proofs.YtpibenilagloaaaGreatDoor
open Go.RowKit
set_option linter.unusedVariables false

set_option maxRecDepth 100000 in
set_option maxHeartbeats 1600000 in
theorem fn_primary {n : Nat} {p : Nat} {toks : List Tok} (hI : AllOk n p toks) : FnOk n p toks .primary := by
  intro hd w M low kind s s' hp hs
  show Calls Tryz.prog 332 #[.pointer (some ⟨p, 0, none⟩)] w _
  have h0 := Cx.At.start hp (v := .pointer (some ⟨p, 0, none⟩)) (t := 174)
  clear hp
  have x0 := h0.bx (fun _ _ e => e)
  go_enter Tryz.func332, Tryz.ntmps332
  go_wp2_with fail
  refine (Cx.peek h0).mono ?_
  rintro e w3 ⟨rfl, h1⟩
  unfold Tok.val
  clear x0 h0
  have x0 := h1.bx (fun _ _ e => e)
  have hlt0 : w.heap.size < w3.heap.size := World.block_lt_of_cell? w3 _ x0
  clear x0
  have h2 := h1.tok (peekT s.rest) (t := 142) (n := w3.heap.size) rfl
  clear h1
  have x0 := h2.bx (fun _ _ e => e.1)
  obtain ⟨x1, y1⟩ := h2.tx (fun _ _ e => e.2)
  cases ht4 : (peekT s.rest).k == 105
  · have hsf := R.no hs ht4
    clear  hs
    cases ht5 : (peekT s.rest).k == 106
    · have hsff := R.no hsf ht5
      clear  hsf
      go_wp2_with fail
      refine (Cx.at2 h2 kTrue kFalse (by simp)).mono ?_
      rintro e w8 ⟨rfl, h7⟩
      clear x0 x1 y1 h2
      have x0 := h7.bx (fun _ _ e => e.1)
      obtain ⟨x1, y1⟩ := h7.tx (fun _ _ e => e.2)
      cases ht6 : atB [kTrue, kFalse] s.rest
      · have hsfff := R.no hsff ht6
        clear ht6 hsff
        cases ht9 : (peekT s.rest).k == 103
        · have hsffff := R.no hsfff ht9
          clear  hsfff
          go_wp2_with fail
          refine (Cx.at1 h7 pLp (by simp)).mono ?_
          rintro e w12 ⟨rfl, h11⟩
          clear x0 x1 y1 h7
          have x0 := h11.bx (fun _ _ e => e.1)
          obtain ⟨x1, y1⟩ := h11.tx (fun _ _ e => e.2)
          cases ht10 : atB [pLp] s.rest
          · have hsfffff := R.no hsffff ht10
            clear ht10 hsffff
            go_wp2_with fail
            refine (Cx.at1 h11 pLb (by simp)).mono ?_
            rintro e w15 ⟨rfl, h14⟩
            clear x0 x1 y1 h11
            have x0 := h14.bx (fun _ _ e => e.1)
            obtain ⟨x1, y1⟩ := h14.tx (fun _ _ e => e.2)
            cases ht13 : atB [pLb] s.rest
            · have hsffffff := R.no hsfffff ht13
              clear ht13 hsfffff
              go_wp2_with fail
              refine (Cx.at1 h14 kIf (by simp)).mono ?_
              rintro e w18 ⟨rfl, h17⟩
              clear x0 x1 y1 h14
              have x0 := h17.bx (fun _ _ e => e.1)
              obtain ⟨x1, y1⟩ := h17.tx (fun _ _ e => e.2)
              cases ht16 : atB [kIf] s.rest
              · have hsfffffff := R.no hsffffff ht16
                clear ht16 hsffffff
                go_wp2_with fail
                refine (Cx.at1 h17 kMatch (by simp)).mono ?_
                rintro e w21 ⟨rfl, h20⟩
                clear x0 x1 y1 h17
                have x0 := h20.bx (fun _ _ e => e.1)
                obtain ⟨x1, y1⟩ := h20.tx (fun _ _ e => e.2)
                cases ht19 : atB [kMatch] s.rest
                · have hsffffffff := R.no hsfffffff ht19
                  clear ht19 hsfffffff
                  go_wp2_with fail
                  refine (Cx.at1 h20 kNew (by simp)).mono ?_
                  rintro e w24 ⟨rfl, h23⟩
                  clear x0 x1 y1 h20
                  have x0 := h23.bx (fun _ _ e => e.1)
                  obtain ⟨x1, y1⟩ := h23.tx (fun _ _ e => e.2)
                  cases ht22 : atB [kNew] s.rest
                  · have hsfffffffff := R.no hsffffffff ht22
                    clear ht22 hsffffffff
                    go_wp2_with fail
                    refine (Cx.at2 h23 pBar pOr2 (by simp)).mono ?_
                    rintro e w27 ⟨rfl, h26⟩
                    clear x0 x1 y1 h23
                    have x0 := h26.bx (fun _ _ e => e.1)
                    obtain ⟨x1, y1⟩ := h26.tx (fun _ _ e => e.2)
                    cases ht25 : atB [pBar, pOr2] s.rest
                    · have hsffffffffff := R.no hsfffffffff ht25
                      clear ht25 hsfffffffff
                      go_wp2_with fail
                      refine (Cx.missingNode h26 hsffffffffff).mono ?_
                      rintro e w29 ⟨rfl, h28⟩
                      clear x0 x1 y1 h26
                      have x0 := h28.bx (fun _ _ e => e.1)
                      obtain ⟨x1, y1⟩ := h28.tx (fun _ _ e => e.2)
                      clear hsffffffffff
                      go_wp2_with fail
                      go_end0
                      exact h28.post
                    · have hsffffffffft := R.yes hsfffffffff ht25
                      clear ht25 hsfffffffff
                      go_wp2_with fail
                      refine (Cx.node h26 hsffffffffft (actsC_fn _ .lambda hI ent_lambda True.intro (fun _ => rfl) rfl)).mono ?_
                      rintro e w31 ⟨rfl, h30⟩
                      clear x0 x1 y1 h26
                      have x0 := h30.bx (fun _ _ e => e.1)
                      obtain ⟨x1, y1⟩ := h30.tx (fun _ _ e => e.2)
                      clear hsffffffffft
                      go_wp2_with fail
                      go_end0
                      exact h30.post
                  · have hsfffffffft := R.yes hsffffffff ht22
                    clear ht22 hsffffffff
                    go_wp2_with fail
                    refine (Cx.node h23 hsfffffffft (actsC_fn _ .structLit hI ent_structLit True.intro (fun _ => rfl) rfl)).mono ?_
                    rintro e w33 ⟨rfl, h32⟩
                    clear x0 x1 y1 h23
                    have x0 := h32.bx (fun _ _ e => e.1)
                    obtain ⟨x1, y1⟩ := h32.tx (fun _ _ e => e.2)
                    clear hsfffffffft
                    go_wp2_with fail
                    go_end0
                    exact h32.post
                · have hsffffffft := R.yes hsfffffff ht19
                  clear ht19 hsfffffff
                  go_wp2_with fail
                  refine (Cx.node h20 hsffffffft (actsC_fn _ .matchS hI ent_matchS True.intro (fun _ => rfl) rfl)).mono ?_
                  rintro e w35 ⟨rfl, h34⟩
                  clear x0 x1 y1 h20
                  have x0 := h34.bx (fun _ _ e => e.1)
                  obtain ⟨x1, y1⟩ := h34.tx (fun _ _ e => e.2)
                  clear hsffffffft
                  go_wp2_with fail
                  go_end0
                  exact h34.post
              · have hsfffffft := R.yes hsffffff ht16
                clear ht16 hsffffff
                go_wp2_with fail
                refine (Cx.fn .ifExpr hI h17 hsfffffft True.intro).mono ?_
                rintro e w37 ⟨rfl, h36⟩
                clear x0 x1 y1 h17
                have x0 := h36.bx (fun _ _ e => e.1)
                obtain ⟨x1, y1⟩ := h36.tx (fun _ _ e => e.2)
                clear hsfffffft
                go_wp2_with fail
                go_end0
                exact h36.post
            · have hsffffft := R.yes hsfffff ht13
              clear ht13 hsfffff
              go_wp2_with fail
              refine (Cx.fn .block hI h14 hsffffft True.intro).mono ?_
              rintro e w39 ⟨rfl, h38⟩
              clear x0 x1 y1 h14
              have x0 := h38.bx (fun _ _ e => e.1)
              obtain ⟨x1, y1⟩ := h38.tx (fun _ _ e => e.2)
              clear hsffffft
              go_wp2_with fail
              go_end0
              exact h38.post
          · have hsfffft := R.yes hsffff ht10
            clear ht10 hsffff
            go_wp2_with fail
            refine (Cx.node h11 hsfffft ((acts_primary_2 hI (w.heap.size)).weak (fun _ _ e => e.1))).mono ?_
            rintro e w41 ⟨rfl, h40⟩
            clear x0 x1 y1 h11
            have x0 := h40.bx (fun _ _ e => e.1)
            obtain ⟨x1, y1⟩ := h40.tx (fun _ _ e => e.2)
            clear hsfffft
            go_wp2_with fail
            go_end0
            exact h40.post
        · have hsffft := R.yes hsfff ht9
          clear  hsfff
          obtain ⟨u42, r43, r44⟩ := R.seq hsffft
          go_wp2_with fail
          refine (Cx.fn (.path false) hI h7 r43 True.intro).mono ?_
          rintro e w46 ⟨rfl, h45⟩
          clear x0 x1 y1 h7
          have x0 := h45.bx (fun _ _ e => e.1)
          obtain ⟨x1, y1⟩ := h45.tx (fun _ _ e => e.2)
          clear r43
          go_wp2_with fail
          refine (Cx.at1 h45 pBang (by simp)).mono ?_
          rintro e w48 ⟨rfl, h47⟩
          clear x0 x1 y1 h45
          have x0 := h47.bx (fun _ _ e => e.1)
          obtain ⟨x1, y1⟩ := h47.tx (fun _ _ e => e.2)
          cases ht49 : atB [pBang] u42.rest
          · have r44f := R.no r44 (by show (atB [pBang] u42.rest && atB [pLp] (after u42.rest)) = false; rw [ht49]; rfl)
            clear ht49 r44
            have h51 := h47.eq r44f.skip
            clear h47 r44f
            go_wp2_with fail
            go_end0
            exact h51.post
          · have ht49' := Lib.hid ht49
            clear ht49
            go_wp2_with fail
            refine (Cx.look h47).mono ?_
            rintro e w58 ⟨q52, Mq53, sq54, rfl, hq55, hr56, h57⟩
            clear x0 x1 y1 h47
            have x0 := h57.bx (fun _ _ e => e.1)
            obtain ⟨x1, y1⟩ := h57.tx (fun _ _ e => e.2)
            have hr56' := Lib.hid hr56
            clear hr56
            go_wp2_with fail
            refine (Cx.ahead1 h57 hq55 hr56'.out pLp (by simp)).mono ?_
            rintro e w60 ⟨rfl, h59⟩
            clear x0 x1 y1 h57
            have x0 := h59.bx (fun _ _ e => e.1)
            obtain ⟨x1, y1⟩ := h59.tx (fun _ _ e => e.2)
            cases ht50 : atB [pLp] (after u42.rest)
            · have r44f := R.no r44 (by show (atB [pBang] u42.rest && atB [pLp] (after u42.rest)) = false; rw [ht49'.out, ht50]; rfl)
              clear ht50 r44
              have h61 := h59.eq r44f.skip
              clear h59 r44f
              go_wp2_with fail
              go_end0
              exact h61.post
            · have r44t := R.yes r44 (by show (atB [pBang] u42.rest && atB [pLp] (after u42.rest)) = true; rw [ht49'.out, ht50]; rfl)
              clear ht50 r44
              go_wp2_with fail
              refine (Cx.wrap h59 r44t ((acts_primary_1 hI (w.heap.size)).weak (fun _ _ e => e.1))).mono ?_
              rintro e w63 ⟨rfl, h62⟩
              clear x0 x1 y1 h59
              have x0 := h62.bx (fun _ _ e => e.1)
              obtain ⟨x1, y1⟩ := h62.tx (fun _ _ e => e.2)
              clear r44t
              go_wp2_with fail
              go_end0
              exact h62.post
      · have hsfft := R.yes hsff ht6
        clear ht6 hsff
        go_wp2_with fail
        refine (Cx.node h7 hsfft (actsC_bump n _ p toks)).mono ?_
        rintro e w65 ⟨rfl, h64⟩
        clear x0 x1 y1 h7
        have x0 := h64.bx (fun _ _ e => e.1)
        obtain ⟨x1, y1⟩ := h64.tx (fun _ _ e => e.2)
        clear hsfft
        go_wp2_with fail
        go_end0
        exact h64.post
    · have hsft := R.yes hsf ht5
      clear  hsf
      go_wp2_with fail
      refine (Cx.node h2 hsft (actsC_bump n _ p toks)).mono ?_
      rintro e w67 ⟨rfl, h66⟩
      clear x0 x1 y1 h2
      have x0 := h66.bx (fun _ _ e => e.1)
      obtain ⟨x1, y1⟩ := h66.tx (fun _ _ e => e.2)
      clear hsft
      go_wp2_with fail
      go_end0
      exact h66.post
  · have hst := R.yes hs ht4
    clear  hs
    go_wp2_with fail
    refine (Cx.node h2 hst (actsC_bump n _ p toks)).mono ?_
    rintro e w69 ⟨rfl, h68⟩
    clear x0 x1 y1 h2
    have x0 := h68.bx (fun _ _ e => e.1)
    obtain ⟨x1, y1⟩ := h68.tx (fun _ _ e => e.2)
    clear hst
    go_wp2_with fail
    go_end0
    exact h68.post
end Go.Proofs.YtpibenilagloaaaGreatDoor

/-
  (*parser).pattern: the walk.
-/
namespace Go.Proofs.YtpibenilagloaaaGreatDoor
open Go.RowKit
set_option linter.unusedVariables false

def patB : Cmd := .ite (.and Cmd.ident (.text pUnd)) (.node 43 .bump) (.ite (.and Cmd.ident (.not (.ahead 1 (.at [pLp, pCC])))) (.node 44 .bump) (.ite Cmd.ident (.node 45 (.seq (.call (.path false)) (.ite (.at [pLp]) (.seq .bump (Cmd.list pRp (.call .pattern))) .skip))) (.ite (.kind 105) (.node 27 .bump) (.ite (.at [kTrue, kFalse]) (.node 28 .bump) (.leaf 46)))))
theorem body_pattern : body .pattern = .ite (.at [kMut]) (.node 44 (.seq .bump Cmd.expectIdent)) patB := rfl
theorem und_eq : (pUnd.toList == [95]) = true := by rw [show pUnd.toList = [95] from by rw [ByteArray.toList_eq]; rfl]; rfl
set_option maxRecDepth 100000 in
set_option maxHeartbeats 1600000 in
theorem fn_pattern {n : Nat} {p : Nat} {toks : List Tok} (hI : AllOk n p toks) : FnOk n p toks .pattern := by
  intro hd w M low kind s s' hp hs
  rw [body_pattern] at hs
  show Calls Tryz.prog 344 #[.pointer (some ⟨p, 0, none⟩)] w _
  have h0 := Cx.At.start hp (v := .pointer (some ⟨p, 0, none⟩)) (t := 174)
  clear hp
  have x0 := h0.bx (fun _ _ e => e)
  go_enter Tryz.func344, Tryz.ntmps344
  go_wp2_with fail
  refine (Cx.peek h0).mono ?_
  rintro e w1 ⟨rfl, h1⟩
  unfold Tok.val
  clear x0 h0
  have x0 := h1.bx (fun _ _ e => e)
  have hlt0 : w.heap.size < w1.heap.size := World.block_lt_of_cell? w1 _ x0
  clear x0
  have h2 := h1.tok (peekT s.rest) (t := 142) (n := w1.heap.size) rfl
  clear h1
  have x0 := h2.bx (fun _ _ e => e.1)
  obtain ⟨x1, y1⟩ := h2.tx (fun _ _ e => e.2)
  go_wp2_with fail
  refine (Cx.at1 h2 kMut (by simp)).mono ?_
  rintro e w2 ⟨rfl, h3⟩
  clear x0 x1 y1 h2
  have x0 := h3.bx (fun _ _ e => e.1)
  obtain ⟨x1, y1⟩ := h3.tx (fun _ _ e => e.2)
  cases ht : atB [kMut] s.rest
  · have r := R.no hs ht
    clear ht hs
    unfold patB at r
    go_wp2_with fail
    refine (Cx.ident h3).mono ?_
    rintro e w3 ⟨rfl, h4⟩
    clear x0 x1 y1 h3
    have x0 := h4.bx (fun _ _ e => e.1)
    obtain ⟨x1, y1⟩ := h4.tx (fun _ _ e => e.2)
    cases hi : (peekT s.rest).k == 103
    · have HI := Lib.hid hi
      have r1 := R.no r (show ((peekT s.rest).k == 103 && decide ((peekT s.rest).t = pUnd)) = false by rw [hi]; rfl)
      have r2 := R.no r1 (show ((peekT s.rest).k == 103 && !atB [pLp, pCC] (after s.rest)) = false by rw [hi]; rfl)
      have r3 := R.no r2 hi
      clear hi r r1 r2
      go_wp2_with fail
      refine (Cx.ident h4).mono ?_
      rintro e w4 ⟨rfl, h5⟩
      rw [HI.out]
      clear x0 x1 y1 h4
      have x0 := h5.bx (fun _ _ e => e.1)
      obtain ⟨x1, y1⟩ := h5.tx (fun _ _ e => e.2)
      go_wp2_with fail
      refine (Cx.ident h5).mono ?_
      rintro e w5 ⟨rfl, h6⟩
      rw [HI.out]
      clear x0 x1 y1 h5
      have x0 := h6.bx (fun _ _ e => e.1)
      obtain ⟨x1, y1⟩ := h6.tx (fun _ _ e => e.2)
      cases h105 : (peekT s.rest).k == 105
      · have r4 := R.no r3 h105
        clear r3
        go_wp2_with fail
        refine (Cx.at2 h6 kTrue kFalse (by simp)).mono ?_
        rintro e w6 ⟨rfl, h7⟩
        clear x0 x1 y1 h6 h105
        have x0 := h7.bx (fun _ _ e => e.1)
        cases htf : atB [kTrue, kFalse] s.rest
        · have r5 := R.no r4 htf
          clear htf r4
          go_wp2_with fail
          refine (Cx.missingNode h7 r5).mono ?_
          rintro e w7 ⟨rfl, h8⟩
          clear x0 h7 r5
          go_wp2_with fail
          go_end0
          exact h8.post
        · have r5 := R.yes r4 htf
          clear htf r4
          go_wp2_with fail
          refine (Cx.node h7 r5 (actsC_bump n _ p toks)).mono ?_
          rintro e w7 ⟨rfl, h8⟩
          clear x0 h7 r5
          go_wp2_with fail
          go_end0
          exact h8.post
      · have r4 := R.yes r3 h105
        clear r3
        go_wp2_with fail
        refine (Cx.node h6 r4 (actsC_bump n _ p toks)).mono ?_
        rintro e w6 ⟨rfl, h7⟩
        clear x0 x1 y1 h6 r4 h105
        go_wp2_with fail
        go_end0
        exact h7.post
    · have HI := Lib.hid hi
      clear hi
      by_cases hx : (peekT s.rest).t = pUnd
      · have r1 := R.yes r (show ((peekT s.rest).k == 103 && decide ((peekT s.rest).t = pUnd)) = true by rw [HI.out, hx]; decide)
        have hx2 : ((peekT s.rest).t.toList == [95]) = true := by rw [hx]; exact und_eq
        clear hx r
        go_wp2_with fail
        refine (Cx.node h4 r1 (actsC_bump n _ p toks)).mono ?_
        rintro e w5 ⟨rfl, h5⟩
        clear x0 x1 y1 h4 r1 hx2
        go_wp2_with fail
        go_end0
        exact h5.post
      · have r1 := R.no r (show ((peekT s.rest).k == 103 && decide ((peekT s.rest).t = pUnd)) = false by rw [HI.out, decide_eq_false hx]; rfl)
        have hx2 : ((peekT s.rest).t.toList == [95]) = false := by have := str_ne hx; rwa [show pUnd.toList = [95] from by rw [ByteArray.toList_eq]; rfl] at this
        clear hx r
        go_wp2_with fail
        refine (Cx.ident h4).mono ?_
        rintro e w4 ⟨rfl, h5⟩
        rw [HI.out]
        clear x0 x1 y1 h4 hx2
        have x0 := h5.bx (fun _ _ e => e.1)
        go_wp2_with fail
        refine (Cx.look h5).mono ?_
        rintro e w5 ⟨q, Mq, sq, rfl, hq, hr, h6⟩
        clear x0 h5
        have x0 := h6.bx (fun _ _ e => e.1)
        have HR := Lib.hid hr
        clear hr
        go_wp2_with fail
        refine (Cx.ahead2 h6 hq HR.out pLp pCC (by simp)).mono ?_
        rintro e w6 ⟨rfl, h7⟩
        clear x0 h6 hq
        have x0 := h7.bx (fun _ _ e => e.1)
        cases ha : atB [pLp, pCC] (after s.rest)
        · have r2 := R.yes r1 (show ((peekT s.rest).k == 103 && !atB [pLp, pCC] (after s.rest)) = true by rw [HI.out, ha]; rfl)
          clear ha r1
          go_wp2_with fail
          refine (Cx.node h7 r2 (actsC_bump n _ p toks)).mono ?_
          rintro e w7 ⟨rfl, h8⟩
          clear x0 h7 r2
          go_wp2_with fail
          go_end0
          exact h8.post
        · have r2 := R.no r1 (show ((peekT s.rest).k == 103 && !atB [pLp, pCC] (after s.rest)) = false by rw [HI.out, ha]; rfl)
          have r3 := R.yes r2 HI.out
          clear ha r1 r2
          go_wp2_with fail
          refine (Cx.ident h7).mono ?_
          rintro e w7 ⟨rfl, h8⟩
          rw [HI.out]
          clear x0 h7
          have x0 := h8.bx (fun _ _ e => e.1)
          go_wp2_with fail
          refine (Cx.node h8 r3 ((acts_pattern_2 hI _).weak (fun _ _ e => e.1))).mono ?_
          rintro e w8 ⟨rfl, h9⟩
          clear x0 h8 r3
          go_wp2_with fail
          go_end0
          exact h9.post
  · have r := R.yes hs ht
    clear ht hs
    go_wp2_with fail
    refine (Cx.node h3 r (((acts_pattern_1 hI _)).weak (fun _ _ e => e.1))).mono ?_
    rintro e w4 ⟨rfl, h4⟩
    clear x0 x1 y1 h3 r
    go_wp2_with fail
    go_end0
    exact h4.post
end Go.Proofs.YtpibenilagloaaaGreatDoor
