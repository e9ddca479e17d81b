import Derived.Test.YtpibenilagloaaaGreatDoorMxal
/-
  The parser's functions: the walks (printed by gen_walk.py).
-/
namespace Go.Proofs.YtpibenilagloaaaGreatDoor
open Go.RowKit
set_option linter.unusedVariables false

set_option maxRecDepth 100000 in
set_option maxHeartbeats 1600000 in
theorem fn_let {n : Nat} {p : Nat} {toks : List Tok} (hI : AllOk n p toks) : FnOk n p toks .letS := by
  intro hd w M low kind s s' hp hs
  show Calls Tryz.prog 329 #[.pointer (some ⟨p, 0, none⟩)] w _
  have h0 := Cx.At.bare hp
  clear hp
  go_enter Tryz.func329, Tryz.ntmps329
  obtain ⟨u1, r2, r3⟩ := R.seq hs
  obtain ⟨u4, r5, r6⟩ := R.seq r3
  obtain ⟨u7, r8, r9⟩ := R.seq r6
  obtain ⟨u10, r11, r12⟩ := R.seq r9
  obtain ⟨u13, r14, r15⟩ := R.seq r12
  go_wp2_with fail
  refine (Cx.bump h0 r2).mono ?_
  rintro e w17 ⟨rfl, h16⟩
  clear h0
  clear r2
  go_wp2_with fail
  refine (Cx.fn .pattern hI h16 r5 True.intro).mono ?_
  rintro e w19 ⟨rfl, h18⟩
  clear h16
  clear r5
  go_wp2_with fail
  refine (Cx.optional h18 r8 (actsC_fn _ .typeExpr hI ent_typeExpr True.intro (fun _ => rfl) rfl)).mono ?_
  rintro e w21 ⟨rfl, h20⟩
  clear h18
  clear r8
  go_wp2_with fail
  refine (Cx.expect h20 r11).mono ?_
  rintro e w23 ⟨rfl, h22⟩
  clear h20
  clear r11
  go_wp2_with fail
  refine (Cx.fn .expr hI h22 r14 True.intro).mono ?_
  rintro e w25 ⟨rfl, h24⟩
  clear h22
  clear r14
  go_wp2_with fail
  refine (Cx.expect h24 r15).mono ?_
  rintro e w27 ⟨rfl, h26⟩
  clear h24
  clear r15
  go_wp2_with fail
  go_end0
  exact h26.post

set_option maxRecDepth 100000 in
set_option maxHeartbeats 1600000 in
theorem fn_returnStmt {n : Nat} {p : Nat} {toks : List Tok} (hI : AllOk n p toks) : FnOk n p toks .returnS := by
  intro hd w M low kind s s' hp hs
  show Calls Tryz.prog 331 #[.pointer (some ⟨p, 0, none⟩)] w _
  have h0 := Cx.At.bare hp
  clear hp
  go_enter Tryz.func331, Tryz.ntmps331
  obtain ⟨u1, r2, r3⟩ := R.seq hs
  obtain ⟨u4, r5, r6⟩ := R.seq r3
  go_wp2_with fail
  refine (Cx.bump h0 r2).mono ?_
  rintro e w8 ⟨rfl, h7⟩
  clear h0
  clear r2
  go_wp2_with fail
  refine (Cx.at1 h7 pSemi (by simp)).mono ?_
  rintro e w11 ⟨rfl, h10⟩
  clear h7
  cases ht9 : atB [pSemi] u1.rest
  · have r5f := R.no r5 ht9
    clear ht9 r5
    go_wp2_with fail
    refine (Cx.fn .expr hI h10 r5f True.intro).mono ?_
    rintro e w13 ⟨rfl, h12⟩
    clear h10
    clear r5f
    go_wp2_with fail
    refine (Cx.expect h12 r6).mono ?_
    rintro e w15 ⟨rfl, h14⟩
    clear h12
    clear r6
    go_wp2_with fail
    go_end0
    exact h14.post
  · have r5t := R.yes r5 ht9
    clear ht9 r5
    go_wp2_with fail
    refine (Cx.absent h10 r5t).mono ?_
    rintro e w17 ⟨rfl, h16⟩
    clear h10
    clear r5t
    go_wp2_with fail
    refine (Cx.expect h16 r6).mono ?_
    rintro e w19 ⟨rfl, h18⟩
    clear h16
    clear r6
    go_wp2_with fail
    go_end0
    exact h18.post

set_option maxRecDepth 100000 in
set_option maxHeartbeats 1600000 in
theorem acts_unary_1 {n : Nat} {p : Nat} {toks : List Tok} (hI : AllOk n p toks) (b0 : Nat) : ActsC n (Cmd.seq .bump (.call .unary)) (Bx b0 (.pointer (some ⟨p, 0, none⟩))) 336 #[] #[.pointer (some ⟨b0, 0, none⟩)] p toks := by
  refine actsC_of (Bx.stays _ _) (ent_of Tryz.func336 (by kernel_rfl) (by kernel_rfl)) ?_
  intro low kind M0 w0 w s s' h0 hs
  show Calls Tryz.prog 336 #[.pointer (some ⟨b0, 0, none⟩)] w _
  have x0 := h0.bx (fun _ _ e => e)
  go_enter Tryz.func336, Tryz.ntmps336
  obtain ⟨u1, r2, r3⟩ := R.seq hs
  go_wp2_with fail
  refine (Cx.bump h0 r2).mono ?_
  rintro e w5 ⟨rfl, h4⟩
  clear x0 h0
  have x0 := h4.bx (fun _ _ e => e)
  clear r2
  go_wp2_with fail
  refine (Cx.fn .unary hI h4 r3 True.intro).mono ?_
  rintro e w7 ⟨rfl, h6⟩
  clear x0 h4
  have x0 := h6.bx (fun _ _ e => e)
  clear r3
  go_wp2_with fail
  go_end0
  exact ⟨rfl, h6⟩

set_option maxRecDepth 100000 in
set_option maxHeartbeats 1600000 in
theorem acts_unary_2 {n : Nat} {p : Nat} {toks : List Tok} (hI : AllOk n p toks) (b0 : Nat) : ActsC n (Cmd.seq .bump (.seq (Cmd.accept [kMut]) (.call .unary))) (Bx b0 (.pointer (some ⟨p, 0, none⟩))) 337 #[] #[.pointer (some ⟨b0, 0, none⟩)] p toks := by
  refine actsC_of (Bx.stays _ _) (ent_of Tryz.func337 (by kernel_rfl) (by kernel_rfl)) ?_
  intro low kind M0 w0 w s s' h0 hs
  show Calls Tryz.prog 337 #[.pointer (some ⟨b0, 0, none⟩)] w _
  have x0 := h0.bx (fun _ _ e => e)
  go_enter Tryz.func337, Tryz.ntmps337
  obtain ⟨u1, r2, r3⟩ := R.seq hs
  obtain ⟨u4, r5, r6⟩ := R.seq r3
  go_wp2_with fail
  refine (Cx.bump h0 r2).mono ?_
  rintro e w8 ⟨rfl, h7⟩
  clear x0 h0
  have x0 := h7.bx (fun _ _ e => e)
  clear r2
  go_wp2_with fail
  refine (Cx.accept h7 r5 (by simp)).mono ?_
  rintro e w10 ⟨rfl, h9⟩
  clear x0 h7
  have x0 := h9.bx (fun _ _ e => e)
  clear r5
  go_wp2_with fail
  refine (Cx.fn .unary hI h9 r6 True.intro).mono ?_
  rintro e w12 ⟨rfl, h11⟩
  clear x0 h9
  have x0 := h11.bx (fun _ _ e => e)
  clear r6
  go_wp2_with fail
  go_end0
  exact ⟨rfl, h11⟩

set_option maxRecDepth 100000 in
set_option maxHeartbeats 1600000 in
theorem fn_unary {n : Nat} {p : Nat} {toks : List Tok} (hI : AllOk n p toks) : FnOk n p toks .unary := by
  intro hd w M low kind s s' hp hs
  show Calls Tryz.prog 312 #[.pointer (some ⟨p, 0, none⟩)] w _
  have h0 := Cx.At.start hp (v := .pointer (some ⟨p, 0, none⟩)) (t := 174)
  clear hp
  have x0 := h0.bx (fun _ _ e => e)
  go_enter Tryz.func312, Tryz.ntmps312
  go_wp2_with fail
  refine (Cx.at3 h0 pMinus pBang pStar (by simp)).mono ?_
  rintro e w3 ⟨rfl, h2⟩
  clear x0 h0
  have x0 := h2.bx (fun _ _ e => e)
  cases ht1 : atB [pMinus, pBang, pStar] s.rest
  · have hsf := R.no hs ht1
    clear ht1 hs
    go_wp2_with fail
    refine (Cx.at1 h2 pAmp (by simp)).mono ?_
    rintro e w6 ⟨rfl, h5⟩
    clear x0 h2
    have x0 := h5.bx (fun _ _ e => e)
    cases ht4 : atB [pAmp] s.rest
    · have hsff := R.no hsf ht4
      clear ht4 hsf
      obtain ⟨u7, r8, r9⟩ := R.seq hsff
      go_wp2_with fail
      refine (Cx.fn .primary hI h5 r8 True.intro).mono ?_
      rintro e w11 ⟨rfl, h10⟩
      clear x0 h5
      have x0 := h10.bx (fun _ _ e => e)
      clear r8
      go_wp2_with fail
      refine (Cx.fn .postfixS hI h10 r9 True.intro).mono ?_
      rintro e w13 ⟨rfl, h12⟩
      clear x0 h10
      have x0 := h12.bx (fun _ _ e => e)
      clear r9
      go_wp2_with fail
      go_end0
      exact h12.post
    · have hsft := R.yes hsf ht4
      clear ht4 hsf
      go_wp2_with fail
      refine (Cx.node h5 hsft (acts_unary_2 hI (w.heap.size))).mono ?_
      rintro e w15 ⟨rfl, h14⟩
      clear x0 h5
      have x0 := h14.bx (fun _ _ e => e)
      clear hsft
      go_wp2_with fail
      go_end0
      exact h14.post
  · have hst := R.yes hs ht1
    clear ht1 hs
    go_wp2_with fail
    refine (Cx.node h2 hst (acts_unary_1 hI (w.heap.size))).mono ?_
    rintro e w17 ⟨rfl, h16⟩
    clear x0 h2
    have x0 := h16.bx (fun _ _ e => e)
    clear hst
    go_wp2_with fail
    go_end0
    exact h16.post

set_option maxRecDepth 100000 in
set_option maxHeartbeats 1600000 in
theorem fn_arguments {n : Nat} {p : Nat} {toks : List Tok} (hI : AllOk n p toks) : FnOk n p toks .arguments := by
  intro hd w M low kind s s' hp hs
  show Calls Tryz.prog 346 #[.pointer (some ⟨p, 0, none⟩)] w _
  have h0 := Cx.At.bare hp
  clear hp
  go_enter Tryz.func346, Tryz.ntmps346
  obtain ⟨u1, r2, r3⟩ := R.seq hs
  go_wp2_with fail
  refine (Cx.bump h0 r2).mono ?_
  rintro e w5 ⟨rfl, h4⟩
  clear h0
  clear r2
  go_wp2_with fail
  refine (Cx.list h4 r3 (actsC_fn _ .expr hI ent_expr True.intro (fun _ => rfl) rfl)).mono ?_
  rintro e w7 ⟨rfl, h6⟩
  clear h4
  clear r3
  go_wp2_with fail
  go_end0
  exact h6.post

set_option maxRecDepth 100000 in
set_option maxHeartbeats 1600000 in
theorem acts_ifExpr_1_1 {n : Nat} {p : Nat} {toks : List Tok} (hI : AllOk n p toks) (b0 : Nat) : ActsC n (Cmd.ite (.at [kIf]) (.call .ifExpr) (.call .block)) (Bx b0 (.pointer (some ⟨p, 0, none⟩))) 361 #[] #[.pointer (some ⟨b0, 0, none⟩)] p toks := by
  refine actsC_of (Bx.stays _ _) (ent_of Tryz.func361 (by kernel_rfl) (by kernel_rfl)) ?_
  intro low kind M0 w0 w s s' h0 hs
  show Calls Tryz.prog 361 #[.pointer (some ⟨b0, 0, none⟩)] w _
  have x0 := h0.bx (fun _ _ e => e)
  go_enter Tryz.func361, Tryz.ntmps361
  go_wp2_with fail
  refine (Cx.at1 h0 kIf (by simp)).mono ?_
  rintro e w3 ⟨rfl, h2⟩
  clear x0 h0
  have x0 := h2.bx (fun _ _ e => e)
  cases ht1 : atB [kIf] s.rest
  · have hsf := R.no hs ht1
    clear ht1 hs
    go_wp2_with fail
    refine (Cx.fn .block hI h2 hsf True.intro).mono ?_
    rintro e w5 ⟨rfl, h4⟩
    clear x0 h2
    have x0 := h4.bx (fun _ _ e => e)
    clear hsf
    go_wp2_with fail
    go_end0
    exact ⟨rfl, h4⟩
  · have hst := R.yes hs ht1
    clear ht1 hs
    go_wp2_with fail
    refine (Cx.fn .ifExpr hI h2 hst True.intro).mono ?_
    rintro e w7 ⟨rfl, h6⟩
    clear x0 h2
    have x0 := h6.bx (fun _ _ e => e)
    clear hst
    go_wp2_with fail
    go_end0
    exact ⟨rfl, h6⟩

set_option maxRecDepth 100000 in
set_option maxHeartbeats 1600000 in
theorem acts_ifExpr_1 {n : Nat} {p : Nat} {toks : List Tok} (hI : AllOk n p toks) (b0 : Nat) : ActsC n (Cmd.seq .bump (.seq (.call .expr) (.seq (.call .block) (Cmd.optional kElse (.ite (.at [kIf]) (.call .ifExpr) (.call .block)))))) (Bx b0 (.pointer (some ⟨p, 0, none⟩))) 360 #[] #[.pointer (some ⟨b0, 0, none⟩)] p toks := by
  refine actsC_of (Bx.stays _ _) (ent_of Tryz.func360 (by kernel_rfl) (by kernel_rfl)) ?_
  intro low kind M0 w0 w s s' h0 hs
  show Calls Tryz.prog 360 #[.pointer (some ⟨b0, 0, none⟩)] w _
  have x0 := h0.bx (fun _ _ e => e)
  go_enter Tryz.func360, Tryz.ntmps360
  obtain ⟨u1, r2, r3⟩ := R.seq hs
  obtain ⟨u4, r5, r6⟩ := R.seq r3
  obtain ⟨u7, r8, r9⟩ := R.seq r6
  go_wp2_with fail
  refine (Cx.bump h0 r2).mono ?_
  rintro e w11 ⟨rfl, h10⟩
  clear x0 h0
  have x0 := h10.bx (fun _ _ e => e)
  clear r2
  go_wp2_with fail
  refine (Cx.fn .expr hI h10 r5 True.intro).mono ?_
  rintro e w13 ⟨rfl, h12⟩
  clear x0 h10
  have x0 := h12.bx (fun _ _ e => e)
  clear r5
  go_wp2_with fail
  refine (Cx.fn .block hI h12 r8 True.intro).mono ?_
  rintro e w15 ⟨rfl, h14⟩
  clear x0 h12
  have x0 := h14.bx (fun _ _ e => e)
  clear r8
  go_wp2_with fail
  refine (Cx.optional h14 r9 (acts_ifExpr_1_1 hI (b0))).mono ?_
  rintro e w17 ⟨rfl, h16⟩
  clear x0 h14
  have x0 := h16.bx (fun _ _ e => e)
  clear r9
  go_wp2_with fail
  go_end0
  exact ⟨rfl, h16⟩

set_option maxRecDepth 100000 in
set_option maxHeartbeats 1600000 in
theorem fn_ifExpr {n : Nat} {p : Nat} {toks : List Tok} (hI : AllOk n p toks) : FnOk n p toks .ifExpr := by
  intro hd w M low kind s s' hp hs
  show Calls Tryz.prog 348 #[.pointer (some ⟨p, 0, none⟩)] w _
  have h0 := Cx.At.start hp (v := .pointer (some ⟨p, 0, none⟩)) (t := 174)
  clear hp
  have x0 := h0.bx (fun _ _ e => e)
  go_enter Tryz.func348, Tryz.ntmps348
  go_wp2_with fail
  refine (Cx.node h0 hs (acts_ifExpr_1 hI (w.heap.size))).mono ?_
  rintro e w2 ⟨rfl, h1⟩
  clear x0 h0
  have x0 := h1.bx (fun _ _ e => e)
  clear hs
  go_wp2_with fail
  go_end0
  exact h1.post

set_option maxRecDepth 100000 in
set_option maxHeartbeats 1600000 in
theorem acts_structLit_1_1 {n : Nat} {p : Nat} {toks : List Tok} (hI : AllOk n p toks) (b0 : Nat) : ActsC n (Cmd.seq .bump (.seq (Cmd.expect pColon) (.call .expr))) (Bx b0 (.pointer (some ⟨p, 0, none⟩))) 366 #[] #[.pointer (some ⟨b0, 0, none⟩)] p toks := by
  refine actsC_of (Bx.stays _ _) (ent_of Tryz.func366 (by kernel_rfl) (by kernel_rfl)) ?_
  intro low kind M0 w0 w s s' h0 hs
  show Calls Tryz.prog 366 #[.pointer (some ⟨b0, 0, none⟩)] w _
  have x0 := h0.bx (fun _ _ e => e)
  go_enter Tryz.func366, Tryz.ntmps366
  obtain ⟨u1, r2, r3⟩ := R.seq hs
  obtain ⟨u4, r5, r6⟩ := R.seq r3
  go_wp2_with fail
  refine (Cx.bump h0 r2).mono ?_
  rintro e w8 ⟨rfl, h7⟩
  clear x0 h0
  have x0 := h7.bx (fun _ _ e => e)
  clear r2
  go_wp2_with fail
  refine (Cx.expect h7 r5).mono ?_
  rintro e w10 ⟨rfl, h9⟩
  clear x0 h7
  have x0 := h9.bx (fun _ _ e => e)
  clear r5
  go_wp2_with fail
  refine (Cx.fn .expr hI h9 r6 True.intro).mono ?_
  rintro e w12 ⟨rfl, h11⟩
  clear x0 h9
  have x0 := h11.bx (fun _ _ e => e)
  clear r6
  go_wp2_with fail
  go_end0
  exact ⟨rfl, h11⟩

set_option maxRecDepth 100000 in
set_option maxHeartbeats 1600000 in
theorem acts_structLit_1 {n : Nat} {p : Nat} {toks : List Tok} (hI : AllOk n p toks) (b0 : Nat) : ActsC n (Cmd.ite Cmd.ident (.node 34 (.seq .bump (.seq (Cmd.expect pColon) (.call .expr)))) .skip) (Bx b0 (.pointer (some ⟨p, 0, none⟩))) 365 #[] #[.pointer (some ⟨b0, 0, none⟩)] p toks := by
  refine actsC_of (Bx.stays _ _) (ent_of Tryz.func365 (by kernel_rfl) (by kernel_rfl)) ?_
  intro low kind M0 w0 w s s' h0 hs
  show Calls Tryz.prog 365 #[.pointer (some ⟨b0, 0, none⟩)] w _
  have x0 := h0.bx (fun _ _ e => e)
  go_enter Tryz.func365, Tryz.ntmps365
  go_wp2_with fail
  refine (Cx.ident h0).mono ?_
  rintro e w3 ⟨rfl, h2⟩
  clear x0 h0
  have x0 := h2.bx (fun _ _ e => e)
  cases ht1 : (peekT s.rest).k == 103
  · have hsf := R.no hs ht1
    clear ht1 hs
    have h4 := h2.eq hsf.skip
    clear h2 hsf
    go_wp2_with fail
    go_end0
    exact ⟨rfl, h4⟩
  · have hst := R.yes hs ht1
    clear ht1 hs
    go_wp2_with fail
    refine (Cx.node h2 hst (acts_structLit_1_1 hI (b0))).mono ?_
    rintro e w6 ⟨rfl, h5⟩
    clear x0 h2
    have x0 := h5.bx (fun _ _ e => e)
    clear hst
    go_wp2_with fail
    go_end0
    exact ⟨rfl, h5⟩

set_option maxRecDepth 100000 in
set_option maxHeartbeats 1600000 in
theorem fn_structLit {n : Nat} {p : Nat} {toks : List Tok} (hI : AllOk n p toks) : FnOk n p toks .structLit := by
  intro hd w M low kind s s' hp hs
  show Calls Tryz.prog 350 #[.pointer (some ⟨p, 0, none⟩)] w _
  have h0 := Cx.At.start hp (v := .pointer (some ⟨p, 0, none⟩)) (t := 174)
  clear hp
  have x0 := h0.bx (fun _ _ e => e)
  go_enter Tryz.func350, Tryz.ntmps350
  obtain ⟨u1, r2, r3⟩ := R.seq hs
  obtain ⟨u4, r5, r6⟩ := R.seq r3
  obtain ⟨u7, r8, r9⟩ := R.seq r6
  go_wp2_with fail
  refine (Cx.bump h0 r2).mono ?_
  rintro e w11 ⟨rfl, h10⟩
  clear x0 h0
  have x0 := h10.bx (fun _ _ e => e)
  clear r2
  go_wp2_with fail
  refine (Cx.fn (.path false) hI h10 r5 True.intro).mono ?_
  rintro e w13 ⟨rfl, h12⟩
  clear x0 h10
  have x0 := h12.bx (fun _ _ e => e)
  clear r5
  go_wp2_with fail
  refine (Cx.expect h12 r8).mono ?_
  rintro e w15 ⟨rfl, h14⟩
  clear x0 h12
  have x0 := h14.bx (fun _ _ e => e)
  clear r8
  go_wp2_with fail
  refine (Cx.list h14 r9 (acts_structLit_1 hI (w.heap.size))).mono ?_
  rintro e w17 ⟨rfl, h16⟩
  clear x0 h14
  have x0 := h16.bx (fun _ _ e => e)
  clear r9
  go_wp2_with fail
  go_end0
  exact h16.post

set_option maxRecDepth 100000 in
set_option maxHeartbeats 1600000 in
theorem acts_lambda_1 {n : Nat} {p : Nat} {toks : List Tok} (hI : AllOk n p toks) : ActsC n (Cmd.skip) (fun _ _ => True) 367 #[] #[] p toks := by
  refine actsC_of (fun _ _ _ _ _ _ => True.intro) (ent_of Tryz.func367 (by kernel_rfl) (by kernel_rfl)) ?_
  intro low kind M0 w0 w s s' h0 hs
  show Calls Tryz.prog 367 #[] w _
  go_enter Tryz.func367, Tryz.ntmps367
  have h1 := h0.eq hs.skip
  clear h0 hs
  go_wp2_with fail
  go_end0
  exact ⟨rfl, h1⟩

set_option maxRecDepth 100000 in
set_option maxHeartbeats 1600000 in
theorem fn_lambda {n : Nat} {p : Nat} {toks : List Tok} (hI : AllOk n p toks) : FnOk n p toks .lambda := by
  intro hd w M low kind s s' hp hs
  show Calls Tryz.prog 351 #[.pointer (some ⟨p, 0, none⟩)] w _
  have h0 := Cx.At.bare hp
  clear hp
  go_enter Tryz.func351, Tryz.ntmps351
  obtain ⟨u1, r2, r3⟩ := R.seq hs
  go_wp2_with fail
  refine (Cx.at1 h0 pOr2 (by simp)).mono ?_
  rintro e w6 ⟨rfl, h5⟩
  clear h0
  cases ht4 : atB [pOr2] s.rest
  · have r2f := R.no r2 ht4
    clear ht4 r2
    obtain ⟨u7, r8, r9⟩ := R.seq r2f
    go_wp2_with fail
    refine (Cx.bump h5 r8).mono ?_
    rintro e w11 ⟨rfl, h10⟩
    clear h5
    clear r8
    go_wp2_with fail
    refine (Cx.fn (.params pBar) hI h10 r9 True.intro).mono ?_
    rintro e w13 ⟨rfl, h12⟩
    clear h10
    clear r9
    go_wp2_with fail
    refine (Cx.fn .expr hI h12 r3 True.intro).mono ?_
    rintro e w15 ⟨rfl, h14⟩
    clear h12
    clear r3
    go_wp2_with fail
    go_end0
    exact h14.post
  · have r2t := R.yes r2 ht4
    clear ht4 r2
    obtain ⟨u16, r17, r18⟩ := R.seq r2t
    go_wp2_with fail
    refine (Cx.bump h5 r17).mono ?_
    rintro e w20 ⟨rfl, h19⟩
    clear h5
    clear r17
    go_wp2_with fail
    refine (Cx.node h19 r18 (acts_lambda_1 hI )).mono ?_
    rintro e w22 ⟨rfl, h21⟩
    clear h19
    clear r18
    go_wp2_with fail
    refine (Cx.fn .expr hI h21 r3 True.intro).mono ?_
    rintro e w24 ⟨rfl, h23⟩
    clear h21
    clear r3
    go_wp2_with fail
    go_end0
    exact h23.post

set_option maxRecDepth 100000 in
set_option maxHeartbeats 1600000 in
theorem fn_expr {n : Nat} {p : Nat} {toks : List Tok} (hI : AllOk n p toks) : FnOk n p toks .expr := by
  intro hd w M low kind s s' hp hs
  show Calls Tryz.prog 218 #[.pointer (some ⟨p, 0, none⟩)] w _
  have h0 := Cx.At.bare hp
  clear hp
  go_enter Tryz.func218, Tryz.ntmps218
  go_wp2_with fail
  refine (Cx.fn (.binary 0) hI h0 hs (Nat.zero_le _)).mono ?_
  rintro e w2 ⟨rfl, h1⟩
  clear h0
  clear hs
  go_wp2_with fail
  go_end0
  exact h1.post
end Go.Proofs.YtpibenilagloaaaGreatDoor

/-
  The parser's functions: the walks (printed by gen_walk.py).
-/
namespace Go.Proofs.YtpibenilagloaaaGreatDoor
open Go.RowKit
set_option linter.unusedVariables false

def patT : Test := .or Cmd.ident (.or (.kind 105) (.at [kTrue, kFalse, kMut]))
theorem patT_eval (f : Bool) (r : List Tok) : patT.eval f r = ((peekT r).k == 103 || ((peekT r).k == 105 || atB [kTrue, kFalse, kMut] r)) := rfl
set_option maxRecDepth 100000 in
theorem Cx.atPattern {c : Cx} {w : World} {s : PS} (h : c.At w s) : CallsAt c 363 #[.pointer (some ⟨c.p, 0, none⟩)] w (.bool (patT.eval s.flag s.rest)) s := by
  rw [patT_eval]
  cases h1 : (peekT s.rest).k == 103
  · have H1 := Lib.hid h1
    clear h1
    cases h2 : (peekT s.rest).k == 105
    · have H2 := Lib.hid h2
      clear h2
      go_enter Tryz.func363, Tryz.ntmps363
      go_wp2_with fail
      refine (Cx.ident h).mono ?_
      rintro e w1 ⟨rfl, k1⟩
      rw [H1.out]
      go_wp2_with fail
      refine (Cx.peek k1).mono ?_
      rintro e w2 ⟨rfl, k2⟩
      unfold Tok.val
      have kf := fun u => tok_field0 (.int .i64 (peekT s.rest).k) (.string (peekT s.rest).t) u
      have h2 := H2.out
      go_wp2_with fail
      clear h2 kf
      refine (Cx.at3 k2 kTrue kFalse kMut (by simp)).mono ?_
      rintro e w3 ⟨rfl, k3⟩
      go_wp2_with fail
      go_ret
      exact ⟨by simp, k3⟩
    · have H2 := Lib.hid h2
      clear h2
      go_enter Tryz.func363, Tryz.ntmps363
      go_wp2_with fail
      refine (Cx.ident h).mono ?_
      rintro e w1 ⟨rfl, k1⟩
      rw [H1.out]
      go_wp2_with fail
      refine (Cx.peek k1).mono ?_
      rintro e w2 ⟨rfl, k2⟩
      unfold Tok.val
      have kf := fun u => tok_field0 (.int .i64 (peekT s.rest).k) (.string (peekT s.rest).t) u
      have h2 := H2.out
      go_wp2_with fail
      clear h2 kf
      go_ret
      exact ⟨by simp, k2⟩
  · have H1 := Lib.hid h1
    clear h1
    go_enter Tryz.func363, Tryz.ntmps363
    go_wp2_with fail
    refine (Cx.ident h).mono ?_
    rintro e w1 ⟨rfl, k1⟩
    rw [H1.out]
    go_wp2_with fail
    go_ret
    exact ⟨by simp, k1⟩

set_option maxRecDepth 100000 in
set_option maxHeartbeats 1600000 in
theorem acts_match_1_1 {n : Nat} {p : Nat} {toks : List Tok} (hI : AllOk n p toks) (b0 : Nat) : ActsC n (Cmd.seq (.call .pattern) (.seq (Cmd.expect pFat) (.call .expr))) (Bx b0 (.pointer (some ⟨p, 0, none⟩))) 364 #[] #[.pointer (some ⟨b0, 0, none⟩)] p toks := by
  refine actsC_of (Bx.stays _ _) (ent_of Tryz.func364 (by kernel_rfl) (by kernel_rfl)) ?_
  intro low kind M0 w0 w s s' h0 hs
  show Calls Tryz.prog 364 #[.pointer (some ⟨b0, 0, none⟩)] w _
  have x0 := h0.bx (fun _ _ e => e)
  go_enter Tryz.func364, Tryz.ntmps364
  obtain ⟨u1, r2, r3⟩ := R.seq hs
  obtain ⟨u4, r5, r6⟩ := R.seq r3
  go_wp2_with fail
  refine (Cx.fn .pattern hI h0 r2 True.intro).mono ?_
  rintro e w8 ⟨rfl, h7⟩
  clear x0 h0
  have x0 := h7.bx (fun _ _ e => e)
  clear r2
  go_wp2_with fail
  refine (Cx.expect h7 r5).mono ?_
  rintro e w10 ⟨rfl, h9⟩
  clear x0 h7
  have x0 := h9.bx (fun _ _ e => e)
  clear r5
  go_wp2_with fail
  refine (Cx.fn .expr hI h9 r6 True.intro).mono ?_
  rintro e w12 ⟨rfl, h11⟩
  clear x0 h9
  have x0 := h11.bx (fun _ _ e => e)
  clear r6
  go_wp2_with fail
  go_end0
  exact ⟨rfl, h11⟩

set_option maxRecDepth 100000 in
set_option maxHeartbeats 1600000 in
theorem acts_match_1 {n : Nat} {p : Nat} {toks : List Tok} (hI : AllOk n p toks) (b0 : Nat) : ActsC n (Cmd.ite patT (.node 36 (.seq (.call .pattern) (.seq (Cmd.expect pFat) (.call .expr)))) .skip) (Bx b0 (.pointer (some ⟨p, 0, none⟩))) 362 #[] #[.pointer (some ⟨b0, 0, none⟩)] p toks := by
  refine actsC_of (Bx.stays _ _) (ent_of Tryz.func362 (by kernel_rfl) (by kernel_rfl)) ?_
  intro low kind M0 w0 w s s' h0 hs
  show Calls Tryz.prog 362 #[.pointer (some ⟨b0, 0, none⟩)] w _
  have x0 := h0.bx (fun _ _ e => e)
  go_enter Tryz.func362, Tryz.ntmps362
  go_wp2_with fail
  refine (Cx.atPattern h0).mono ?_
  rintro e w3 ⟨rfl, h2⟩
  clear x0 h0
  have x0 := h2.bx (fun _ _ e => e)
  cases ht1 : patT.eval s.flag s.rest
  · have hsf := R.no hs ht1
    clear ht1 hs
    have h4 := h2.eq hsf.skip
    clear h2 hsf
    go_wp2_with fail
    go_end0
    exact ⟨rfl, h4⟩
  · have hst := R.yes hs ht1
    clear ht1 hs
    go_wp2_with fail
    refine (Cx.node h2 hst (acts_match_1_1 hI (b0))).mono ?_
    rintro e w6 ⟨rfl, h5⟩
    clear x0 h2
    have x0 := h5.bx (fun _ _ e => e)
    clear hst
    go_wp2_with fail
    go_end0
    exact ⟨rfl, h5⟩

set_option maxRecDepth 100000 in
set_option maxHeartbeats 1600000 in
theorem fn_match {n : Nat} {p : Nat} {toks : List Tok} (hI : AllOk n p toks) : FnOk n p toks .matchS := by
  intro hd w M low kind s s' hp hs
  show Calls Tryz.prog 349 #[.pointer (some ⟨p, 0, none⟩)] w _
  have h0 := Cx.At.start hp (v := .pointer (some ⟨p, 0, none⟩)) (t := 174)
  clear hp
  have x0 := h0.bx (fun _ _ e => e)
  go_enter Tryz.func349, Tryz.ntmps349
  obtain ⟨u1, r2, r3⟩ := R.seq hs
  obtain ⟨u4, r5, r6⟩ := R.seq r3
  obtain ⟨u7, r8, r9⟩ := R.seq r6
  go_wp2_with fail
  refine (Cx.bump h0 r2).mono ?_
  rintro e w11 ⟨rfl, h10⟩
  clear x0 h0
  have x0 := h10.bx (fun _ _ e => e)
  clear r2
  go_wp2_with fail
  refine (Cx.fn .expr hI h10 r5 True.intro).mono ?_
  rintro e w13 ⟨rfl, h12⟩
  clear x0 h10
  have x0 := h12.bx (fun _ _ e => e)
  clear r5
  go_wp2_with fail
  refine (Cx.expect h12 r8).mono ?_
  rintro e w15 ⟨rfl, h14⟩
  clear x0 h12
  have x0 := h14.bx (fun _ _ e => e)
  clear r8
  go_wp2_with fail
  refine (Cx.list h14 r9 (acts_match_1 hI (w.heap.size))).mono ?_
  rintro e w17 ⟨rfl, h16⟩
  clear x0 h14
  have x0 := h16.bx (fun _ _ e => e)
  clear r9
  go_wp2_with fail
  go_end0
  exact h16.post

set_option maxRecDepth 100000 in
set_option maxHeartbeats 1600000 in
theorem acts_path_1_1_false {n : Nat} {p : Nat} {toks : List Tok} (hI : AllOk n p toks) (b0 : Nat) (b1 : Nat) : ActsC n (Cmd.seq Cmd.expectIdent .skip) (And2 (Bx b0 (.pointer (some ⟨p, 0, none⟩))) (Bx b1 (.bool false))) 311 #[] #[.pointer (some ⟨b0, 0, none⟩), .pointer (some ⟨b1, 0, none⟩)] p toks := by
  refine actsC_of (And2.stays (Bx.stays _ _) (Bx.stays _ _)) (ent_of Tryz.func311 (by kernel_rfl) (by kernel_rfl)) ?_
  intro low kind M0 w0 w s s' h0 hs
  show Calls Tryz.prog 311 #[.pointer (some ⟨b0, 0, none⟩), .pointer (some ⟨b1, 0, none⟩)] w _
  have x0 := h0.bx (fun _ _ e => e.1)
  have x1 := h0.bx (fun _ _ e => e.2)
  go_enter Tryz.func311, Tryz.ntmps311
  obtain ⟨u1, r2, r3⟩ := R.seq hs
  go_wp2_with fail
  refine (Cx.expectIdent h0 r2).mono ?_
  rintro e w5 ⟨rfl, h4⟩
  clear x0 x1 h0
  have x0 := h4.bx (fun _ _ e => e.1)
  have x1 := h4.bx (fun _ _ e => e.2)
  clear r2
  have h6 := h4.eq r3.skip
  clear h4 r3
  go_wp2_with fail
  go_end0
  exact ⟨rfl, h6⟩

set_option maxRecDepth 100000 in
set_option maxHeartbeats 1600000 in
theorem acts_path_1_1_true {n : Nat} {p : Nat} {toks : List Tok} (hI : AllOk n p toks) (b0 : Nat) (b1 : Nat) : ActsC n (Cmd.seq Cmd.expectIdent (.ite (.at [pLt]) (.seq .bump (Cmd.list pGt (.call .typeExpr))) .skip)) (And2 (Bx b0 (.pointer (some ⟨p, 0, none⟩))) (Bx b1 (.bool true))) 311 #[] #[.pointer (some ⟨b0, 0, none⟩), .pointer (some ⟨b1, 0, none⟩)] p toks := by
  refine actsC_of (And2.stays (Bx.stays _ _) (Bx.stays _ _)) (ent_of Tryz.func311 (by kernel_rfl) (by kernel_rfl)) ?_
  intro low kind M0 w0 w s s' h0 hs
  show Calls Tryz.prog 311 #[.pointer (some ⟨b0, 0, none⟩), .pointer (some ⟨b1, 0, none⟩)] w _
  have x0 := h0.bx (fun _ _ e => e.1)
  have x1 := h0.bx (fun _ _ e => e.2)
  go_enter Tryz.func311, Tryz.ntmps311
  obtain ⟨u1, r2, r3⟩ := R.seq hs
  go_wp2_with fail
  refine (Cx.expectIdent h0 r2).mono ?_
  rintro e w5 ⟨rfl, h4⟩
  clear x0 x1 h0
  have x0 := h4.bx (fun _ _ e => e.1)
  have x1 := h4.bx (fun _ _ e => e.2)
  clear r2
  cases ht6 : atB [pLt] u1.rest
  · have r3f := R.no r3 ht6
    have ht6' := Lib.hid ht6
    clear ht6 r3
    go_wp2_with fail
    refine (Cx.acceptF h4 ht6'.out (by simp)).mono ?_
    rintro e w8 ⟨rfl, h7⟩
    clear x0 x1 h4
    have x0 := h7.bx (fun _ _ e => e.1)
    have x1 := h7.bx (fun _ _ e => e.2)
    have h9 := h7.eq r3f.skip
    clear h7 r3f
    go_wp2_with fail
    go_end0
    exact ⟨rfl, h9⟩
  · obtain ⟨u10, r11, r12⟩ := R.seq (R.yes r3 ht6)
    have r11b := Lib.hid r11.bump
    have ht6' := Lib.hid ht6
    clear ht6 r3 r11
    go_wp2_with fail
    refine (Cx.acceptT h4 ht6'.out r11b.out (by simp)).mono ?_
    rintro e w14 ⟨rfl, h13⟩
    clear x0 x1 h4
    have x0 := h13.bx (fun _ _ e => e.1)
    have x1 := h13.bx (fun _ _ e => e.2)
    go_wp2_with fail
    refine (Cx.list h13 r12 (actsC_fn _ .typeExpr hI ent_typeExpr True.intro (fun _ => rfl) rfl)).mono ?_
    rintro e w16 ⟨rfl, h15⟩
    clear x0 x1 h13
    have x0 := h15.bx (fun _ _ e => e.1)
    have x1 := h15.bx (fun _ _ e => e.2)
    clear r12
    go_wp2_with fail
    go_end0
    exact ⟨rfl, h15⟩

/-- the run of a path's segments: 'first' is true at the head of the first round -/
def PathRun (n m : Nat) (c : Cmd) (first : Bool) (s s' : PS) : Prop := if first = true then ∃ u m', m = m' + 1 ∧ R n c s u ∧ RL n m' (.at [pCC]) (.seq .bump c) u s' else RL n m (.at [pCC]) (.seq .bump c) s s'
theorem PathRun.start {n : Nat} {c : Cmd} {s s' : PS} (h : R n (.seq c (.loop (.at [pCC]) (.seq .bump c))) s s') : ∃ m, PathRun n m c true s s' := by
  obtain ⟨u, h1, h2⟩ := h.seq
  obtain ⟨m, h3⟩ := h2.loop
  exact ⟨m + 1, by unfold PathRun; rw [if_pos rfl]; exact ⟨u, m, rfl, h1, h3⟩⟩
theorem PathRun.one {n m : Nat} {c : Cmd} {s s' : PS} (h : PathRun n m c true s s') : ∃ u m', m' < m ∧ R n c s u ∧ PathRun n m' c false u s' := by
  unfold PathRun at h
  rw [if_pos rfl] at h
  obtain ⟨u, m', rfl, h1, h2⟩ := h
  exact ⟨u, m', Nat.lt_succ_self _, h1, by unfold PathRun; rw [if_neg (by decide)]; exact h2⟩
theorem PathRun.more {n m : Nat} {c : Cmd} {s s' : PS} (h : PathRun n m c false s s') (ht : atB [pCC] s.rest = true) : ∃ v u m', m' < m ∧ s.bump = some v ∧ R n c v u ∧ PathRun n m' c false u s' := by
  unfold PathRun at h
  rw [if_neg (by decide)] at h
  obtain ⟨k, u, hk, hc, hl⟩ := h.yes ht
  obtain ⟨v, h1, h2⟩ := hc.seq
  exact ⟨v, u, k, hk, h1.bump, h2, by unfold PathRun; rw [if_neg (by decide)]; exact hl⟩
theorem PathRun.stop {n m : Nat} {c : Cmd} {s s' : PS} (h : PathRun n m c false s s') (ht : atB [pCC] s.rest = false) : s' = s := by
  unfold PathRun at h
  rw [if_neg (by decide)] at h
  exact h.no ht

set_option maxRecDepth 100000 in
set_option maxHeartbeats 1600000 in
theorem acts_path_1_false {n : Nat} {p : Nat} {toks : List Tok} (hI : AllOk n p toks) (b0 b1 : Nat) : ActsC n (.seq (.node 18 (Cmd.seq Cmd.expectIdent .skip)) (.loop (.at [pCC]) (.seq .bump (.node 18 (Cmd.seq Cmd.expectIdent .skip))))) (And2 (Bx b0 (.pointer (some ⟨p, 0, none⟩))) (Bx b1 (.bool false))) 310 #[] #[.pointer (some ⟨b0, 0, none⟩), .pointer (some ⟨b1, 0, none⟩)] p toks := by
  refine actsC_of (And2.stays (Bx.stays _ _) (Bx.stays _ _)) (ent_of Tryz.func310 (by kernel_rfl) (by kernel_rfl)) ?_
  intro low kind M0 w0 w s s' h0 hs
  show Calls Tryz.prog 310 #[.pointer (some ⟨b0, 0, none⟩), .pointer (some ⟨b1, 0, none⟩)] w _
  obtain ⟨m, hl⟩ := PathRun.start hs
  clear hs
  go_enter Tryz.func310, Tryz.ntmps310
  go_wp2_with fail
  go_loopg [2] m (fun gk vf wr => ∃ s1 first, vf = .bool first ∧ (⟨(And2 (Bx b0 (.pointer (some ⟨p, 0, none⟩))) (Bx b1 (.bool false))), p, toks, low, kind, M0, w0⟩ : Cx).At wr s1 ∧ PathRun n gk (.node 18 (Cmd.seq Cmd.expectIdent .skip)) first s1 s')
  case atStart => exact ⟨s, true, rfl, h0, hl⟩
  case round =>
    clear h0 hl
    obtain ⟨s1, first, rfl, h1, hl⟩ := hrel
    have x0 := h1.bx (fun _ _ e => e.1)
    have x1 := h1.bx (fun _ _ e => e.2)
    cases first
    · cases ht : atB [pCC] s1.rest
      · have hz := Lib.hid (hl.stop ht)
        have ht' := Lib.hid ht
        clear ht hl
        go_wp2_with fail
        refine (Cx.acceptF h1 ht'.out (by simp)).mono ?_
        rintro e w2 ⟨rfl, h2⟩
        clear x0 x1 h1
        go_wp2_with fail
        go_end0
        exact ⟨rfl, h2.eq hz.out⟩
      · obtain ⟨v, u, k, hk, hb, hc, hl2⟩ := hl.more ht
        have ht' := Lib.hid ht
        have hb' := Lib.hid hb
        clear ht hl hb
        go_wp2_with fail
        refine (Cx.acceptT h1 ht'.out hb'.out (by simp)).mono ?_
        rintro e w2 ⟨rfl, h2⟩
        clear x0 x1 h1
        have x0 := h2.bx (fun _ _ e => e.1)
        have x1 := h2.bx (fun _ _ e => e.2)
        go_wp2_with fail
        refine (Cx.node h2 hc (acts_path_1_1_false hI b0 b1)).mono ?_
        rintro e w3 ⟨rfl, h3⟩
        clear x0 x1 h2 hc
        go_wp2_with fail
        go_roundg k
        case rel => exact ⟨u, false, rfl, h3, hl2⟩
        case measure => exact hk
    · obtain ⟨u, k, hk, hc, hl2⟩ := hl.one
      clear hl
      go_wp2_with fail
      refine (Cx.node h1 hc (acts_path_1_1_false hI b0 b1)).mono ?_
      rintro e w3 ⟨rfl, h3⟩
      clear x0 x1 h1 hc
      go_wp2_with fail
      go_roundg k
      case rel => exact ⟨u, false, rfl, h3, hl2⟩
      case measure => exact hk

set_option maxRecDepth 100000 in
set_option maxHeartbeats 1600000 in
theorem fn_path_false {n : Nat} {p : Nat} {toks : List Tok} (hI : AllOk n p toks) : FnOk n p toks (.path false) := by
  intro hd w M low kind s s' hp hs
  show Calls Tryz.prog 275 #[.pointer (some ⟨p, 0, none⟩), .bool false] w _
  have h0 := Cx.At.start hp (v := .pointer (some ⟨p, 0, none⟩)) (t := 174)
  replace h0 := h0.box (v := .bool false) (t := 4) (n := w.heap.size + 1) (by simp)
  clear hp
  have x0 := h0.bx (fun _ _ e => e.1)
  have x1 := h0.bx (fun _ _ e => e.2)
  go_enter Tryz.func275, Tryz.ntmps275
  go_wp2_with fail
  refine (Cx.node h0 hs (acts_path_1_false hI (w.heap.size) (w.heap.size + 1))).mono ?_
  rintro e w2 ⟨rfl, h1⟩
  clear x0 x1 h0
  have x0 := h1.bx (fun _ _ e => e.1)
  have x1 := h1.bx (fun _ _ e => e.2)
  clear hs
  go_wp2_with fail
  go_end0
  exact h1.post

set_option maxRecDepth 100000 in
set_option maxHeartbeats 1600000 in
theorem acts_path_1_true {n : Nat} {p : Nat} {toks : List Tok} (hI : AllOk n p toks) (b0 b1 : Nat) : ActsC n (.seq (.node 18 (Cmd.seq Cmd.expectIdent (.ite (.at [pLt]) (.seq .bump (Cmd.list pGt (.call .typeExpr))) .skip))) (.loop (.at [pCC]) (.seq .bump (.node 18 (Cmd.seq Cmd.expectIdent (.ite (.at [pLt]) (.seq .bump (Cmd.list pGt (.call .typeExpr))) .skip)))))) (And2 (Bx b0 (.pointer (some ⟨p, 0, none⟩))) (Bx b1 (.bool true))) 310 #[] #[.pointer (some ⟨b0, 0, none⟩), .pointer (some ⟨b1, 0, none⟩)] p toks := by
  refine actsC_of (And2.stays (Bx.stays _ _) (Bx.stays _ _)) (ent_of Tryz.func310 (by kernel_rfl) (by kernel_rfl)) ?_
  intro low kind M0 w0 w s s' h0 hs
  show Calls Tryz.prog 310 #[.pointer (some ⟨b0, 0, none⟩), .pointer (some ⟨b1, 0, none⟩)] w _
  obtain ⟨m, hl⟩ := PathRun.start hs
  clear hs
  go_enter Tryz.func310, Tryz.ntmps310
  go_wp2_with fail
  go_loopg [2] m (fun gk vf wr => ∃ s1 first, vf = .bool first ∧ (⟨(And2 (Bx b0 (.pointer (some ⟨p, 0, none⟩))) (Bx b1 (.bool true))), p, toks, low, kind, M0, w0⟩ : Cx).At wr s1 ∧ PathRun n gk (.node 18 (Cmd.seq Cmd.expectIdent (.ite (.at [pLt]) (.seq .bump (Cmd.list pGt (.call .typeExpr))) .skip))) first s1 s')
  case atStart => exact ⟨s, true, rfl, h0, hl⟩
  case round =>
    clear h0 hl
    obtain ⟨s1, first, rfl, h1, hl⟩ := hrel
    have x0 := h1.bx (fun _ _ e => e.1)
    have x1 := h1.bx (fun _ _ e => e.2)
    cases first
    · cases ht : atB [pCC] s1.rest
      · have hz := Lib.hid (hl.stop ht)
        have ht' := Lib.hid ht
        clear ht hl
        go_wp2_with fail
        refine (Cx.acceptF h1 ht'.out (by simp)).mono ?_
        rintro e w2 ⟨rfl, h2⟩
        clear x0 x1 h1
        go_wp2_with fail
        go_end0
        exact ⟨rfl, h2.eq hz.out⟩
      · obtain ⟨v, u, k, hk, hb, hc, hl2⟩ := hl.more ht
        have ht' := Lib.hid ht
        have hb' := Lib.hid hb
        clear ht hl hb
        go_wp2_with fail
        refine (Cx.acceptT h1 ht'.out hb'.out (by simp)).mono ?_
        rintro e w2 ⟨rfl, h2⟩
        clear x0 x1 h1
        have x0 := h2.bx (fun _ _ e => e.1)
        have x1 := h2.bx (fun _ _ e => e.2)
        go_wp2_with fail
        refine (Cx.node h2 hc (acts_path_1_1_true hI b0 b1)).mono ?_
        rintro e w3 ⟨rfl, h3⟩
        clear x0 x1 h2 hc
        go_wp2_with fail
        go_roundg k
        case rel => exact ⟨u, false, rfl, h3, hl2⟩
        case measure => exact hk
    · obtain ⟨u, k, hk, hc, hl2⟩ := hl.one
      clear hl
      go_wp2_with fail
      refine (Cx.node h1 hc (acts_path_1_1_true hI b0 b1)).mono ?_
      rintro e w3 ⟨rfl, h3⟩
      clear x0 x1 h1 hc
      go_wp2_with fail
      go_roundg k
      case rel => exact ⟨u, false, rfl, h3, hl2⟩
      case measure => exact hk

set_option maxRecDepth 100000 in
set_option maxHeartbeats 1600000 in
theorem fn_path_true {n : Nat} {p : Nat} {toks : List Tok} (hI : AllOk n p toks) : FnOk n p toks (.path true) := by
  intro hd w M low kind s s' hp hs
  show Calls Tryz.prog 275 #[.pointer (some ⟨p, 0, none⟩), .bool true] w _
  have h0 := Cx.At.start hp (v := .pointer (some ⟨p, 0, none⟩)) (t := 174)
  replace h0 := h0.box (v := .bool true) (t := 4) (n := w.heap.size + 1) (by simp)
  clear hp
  have x0 := h0.bx (fun _ _ e => e.1)
  have x1 := h0.bx (fun _ _ e => e.2)
  go_enter Tryz.func275, Tryz.ntmps275
  go_wp2_with fail
  refine (Cx.node h0 hs (acts_path_1_true hI (w.heap.size) (w.heap.size + 1))).mono ?_
  rintro e w2 ⟨rfl, h1⟩
  clear x0 x1 h0
  have x0 := h1.bx (fun _ _ e => e.1)
  have x1 := h1.bx (fun _ _ e => e.2)
  clear hs
  go_wp2_with fail
  go_end0
  exact h1.post
end Go.Proofs.YtpibenilagloaaaGreatDoor
