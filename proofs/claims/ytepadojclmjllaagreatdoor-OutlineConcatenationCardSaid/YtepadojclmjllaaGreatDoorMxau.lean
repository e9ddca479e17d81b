import Derived.Test.YtepadojclmjllaaGreatDoorMxat
/-
  The parser's functions: the walks (printed by gen_walk.py).
-/
namespace Go.Proofs.YtepadojclmjllaaGreatDoor
open Go.RowKit
set_option linter.unusedVariables false

set_option maxRecDepth 100000 in
set_option maxHeartbeats 1600000 in
theorem fn_let {n : Nat} {p : Nat} {toks : List Tok} (hI : AllOk n p toks) : FnOk n p toks .letS := by
  intro hd w M low kind s s' hp hs
  show Calls Tryz.prog 181 #[.pointer (some ⟨p, 0, none⟩)] w _
  have h0 := Cx.At.bare hp
  clear hp
  go_enter Tryz.func181, Tryz.ntmps181
  obtain ⟨u1, r2, r3⟩ := R.seq hs
  obtain ⟨u4, r5, r6⟩ := R.seq r3
  obtain ⟨u7, r8, r9⟩ := R.seq r6
  obtain ⟨u10, r11, r12⟩ := R.seq r9
  obtain ⟨u13, r14, r15⟩ := R.seq r12
  go_wp2_with fail
  refine (Cx.bump h0 r2).mono ?_
  rintro e w17 ⟨rfl, h16⟩
  clear h0
  clear r2
  go_wp2_with fail
  refine (Cx.fn .pattern hI h16 r5 True.intro).mono ?_
  rintro e w19 ⟨rfl, h18⟩
  clear h16
  clear r5
  go_wp2_with fail
  refine (Cx.optional h18 r8 (actsC_fn _ .typeExpr hI ent_typeExpr True.intro (fun _ => rfl) rfl)).mono ?_
  rintro e w21 ⟨rfl, h20⟩
  clear h18
  clear r8
  go_wp2_with fail
  refine (Cx.expect h20 r11).mono ?_
  rintro e w23 ⟨rfl, h22⟩
  clear h20
  clear r11
  go_wp2_with fail
  refine (Cx.fn .expr hI h22 r14 True.intro).mono ?_
  rintro e w25 ⟨rfl, h24⟩
  clear h22
  clear r14
  go_wp2_with fail
  refine (Cx.expect h24 r15).mono ?_
  rintro e w27 ⟨rfl, h26⟩
  clear h24
  clear r15
  go_wp2_with fail
  go_end0
  exact h26.post

set_option maxRecDepth 100000 in
set_option maxHeartbeats 1600000 in
theorem fn_returnStmt {n : Nat} {p : Nat} {toks : List Tok} (hI : AllOk n p toks) : FnOk n p toks .returnS := by
  intro hd w M low kind s s' hp hs
  show Calls Tryz.prog 183 #[.pointer (some ⟨p, 0, none⟩)] w _
  have h0 := Cx.At.bare hp
  clear hp
  go_enter Tryz.func183, Tryz.ntmps183
  obtain ⟨u1, r2, r3⟩ := R.seq hs
  obtain ⟨u4, r5, r6⟩ := R.seq r3
  go_wp2_with fail
  refine (Cx.bump h0 r2).mono ?_
  rintro e w8 ⟨rfl, h7⟩
  clear h0
  clear r2
  go_wp2_with fail
  refine (Cx.at1 h7 pSemi (by simp)).mono ?_
  rintro e w11 ⟨rfl, h10⟩
  clear h7
  cases ht9 : atB [pSemi] u1.rest
  · have r5f := R.no r5 ht9
    clear ht9 r5
    go_wp2_with fail
    refine (Cx.fn .expr hI h10 r5f True.intro).mono ?_
    rintro e w13 ⟨rfl, h12⟩
    clear h10
    clear r5f
    go_wp2_with fail
    refine (Cx.expect h12 r6).mono ?_
    rintro e w15 ⟨rfl, h14⟩
    clear h12
    clear r6
    go_wp2_with fail
    go_end0
    exact h14.post
  · have r5t := R.yes r5 ht9
    clear ht9 r5
    go_wp2_with fail
    refine (Cx.absent h10 r5t).mono ?_
    rintro e w17 ⟨rfl, h16⟩
    clear h10
    clear r5t
    go_wp2_with fail
    refine (Cx.expect h16 r6).mono ?_
    rintro e w19 ⟨rfl, h18⟩
    clear h16
    clear r6
    go_wp2_with fail
    go_end0
    exact h18.post

set_option maxRecDepth 100000 in
set_option maxHeartbeats 1600000 in
theorem acts_unary_1 {n : Nat} {p : Nat} {toks : List Tok} (hI : AllOk n p toks) (b0 : Nat) : ActsC n (Cmd.seq .bump (.call .unary)) (Bx b0 (.pointer (some ⟨p, 0, none⟩))) 188 #[] #[.pointer (some ⟨b0, 0, none⟩)] p toks := by
  refine actsC_of (Bx.stays _ _) (ent_of Tryz.func188 (by kernel_rfl) (by kernel_rfl)) ?_
  intro low kind M0 w0 w s s' h0 hs
  show Calls Tryz.prog 188 #[.pointer (some ⟨b0, 0, none⟩)] w _
  have x0 := h0.bx (fun _ _ e => e)
  go_enter Tryz.func188, Tryz.ntmps188
  obtain ⟨u1, r2, r3⟩ := R.seq hs
  go_wp2_with fail
  refine (Cx.bump h0 r2).mono ?_
  rintro e w5 ⟨rfl, h4⟩
  clear x0 h0
  have x0 := h4.bx (fun _ _ e => e)
  clear r2
  go_wp2_with fail
  refine (Cx.fn .unary hI h4 r3 True.intro).mono ?_
  rintro e w7 ⟨rfl, h6⟩
  clear x0 h4
  have x0 := h6.bx (fun _ _ e => e)
  clear r3
  go_wp2_with fail
  go_end0
  exact ⟨rfl, h6⟩

set_option maxRecDepth 100000 in
set_option maxHeartbeats 1600000 in
theorem acts_unary_2 {n : Nat} {p : Nat} {toks : List Tok} (hI : AllOk n p toks) (b0 : Nat) : ActsC n (Cmd.seq .bump (.seq (Cmd.accept [kMut]) (.call .unary))) (Bx b0 (.pointer (some ⟨p, 0, none⟩))) 189 #[] #[.pointer (some ⟨b0, 0, none⟩)] p toks := by
  refine actsC_of (Bx.stays _ _) (ent_of Tryz.func189 (by kernel_rfl) (by kernel_rfl)) ?_
  intro low kind M0 w0 w s s' h0 hs
  show Calls Tryz.prog 189 #[.pointer (some ⟨b0, 0, none⟩)] w _
  have x0 := h0.bx (fun _ _ e => e)
  go_enter Tryz.func189, Tryz.ntmps189
  obtain ⟨u1, r2, r3⟩ := R.seq hs
  obtain ⟨u4, r5, r6⟩ := R.seq r3
  go_wp2_with fail
  refine (Cx.bump h0 r2).mono ?_
  rintro e w8 ⟨rfl, h7⟩
  clear x0 h0
  have x0 := h7.bx (fun _ _ e => e)
  clear r2
  go_wp2_with fail
  refine (Cx.accept h7 r5 (by simp)).mono ?_
  rintro e w10 ⟨rfl, h9⟩
  clear x0 h7
  have x0 := h9.bx (fun _ _ e => e)
  clear r5
  go_wp2_with fail
  refine (Cx.fn .unary hI h9 r6 True.intro).mono ?_
  rintro e w12 ⟨rfl, h11⟩
  clear x0 h9
  have x0 := h11.bx (fun _ _ e => e)
  clear r6
  go_wp2_with fail
  go_end0
  exact ⟨rfl, h11⟩

set_option maxRecDepth 100000 in
set_option maxHeartbeats 1600000 in
theorem fn_unary {n : Nat} {p : Nat} {toks : List Tok} (hI : AllOk n p toks) : FnOk n p toks .unary := by
  intro hd w M low kind s s' hp hs
  show Calls Tryz.prog 167 #[.pointer (some ⟨p, 0, none⟩)] w _
  have h0 := Cx.At.start hp (v := .pointer (some ⟨p, 0, none⟩)) (t := 74)
  clear hp
  have x0 := h0.bx (fun _ _ e => e)
  go_enter Tryz.func167, Tryz.ntmps167
  go_wp2_with fail
  refine (Cx.at3 h0 pMinus pBang pStar (by simp)).mono ?_
  rintro e w3 ⟨rfl, h2⟩
  clear x0 h0
  have x0 := h2.bx (fun _ _ e => e)
  cases ht1 : atB [pMinus, pBang, pStar] s.rest
  · have hsf := R.no hs ht1
    clear ht1 hs
    go_wp2_with fail
    refine (Cx.at1 h2 pAmp (by simp)).mono ?_
    rintro e w6 ⟨rfl, h5⟩
    clear x0 h2
    have x0 := h5.bx (fun _ _ e => e)
    cases ht4 : atB [pAmp] s.rest
    · have hsff := R.no hsf ht4
      clear ht4 hsf
      obtain ⟨u7, r8, r9⟩ := R.seq hsff
      go_wp2_with fail
      refine (Cx.fn .primary hI h5 r8 True.intro).mono ?_
      rintro e w11 ⟨rfl, h10⟩
      clear x0 h5
      have x0 := h10.bx (fun _ _ e => e)
      clear r8
      go_wp2_with fail
      refine (Cx.fn .postfixS hI h10 r9 True.intro).mono ?_
      rintro e w13 ⟨rfl, h12⟩
      clear x0 h10
      have x0 := h12.bx (fun _ _ e => e)
      clear r9
      go_wp2_with fail
      go_end0
      exact h12.post
    · have hsft := R.yes hsf ht4
      clear ht4 hsf
      go_wp2_with fail
      refine (Cx.node h5 hsft (acts_unary_2 hI (w.heap.size))).mono ?_
      rintro e w15 ⟨rfl, h14⟩
      clear x0 h5
      have x0 := h14.bx (fun _ _ e => e)
      clear hsft
      go_wp2_with fail
      go_end0
      exact h14.post
  · have hst := R.yes hs ht1
    clear ht1 hs
    go_wp2_with fail
    refine (Cx.node h2 hst (acts_unary_1 hI (w.heap.size))).mono ?_
    rintro e w17 ⟨rfl, h16⟩
    clear x0 h2
    have x0 := h16.bx (fun _ _ e => e)
    clear hst
    go_wp2_with fail
    go_end0
    exact h16.post

set_option maxRecDepth 100000 in
set_option maxHeartbeats 1600000 in
theorem fn_arguments {n : Nat} {p : Nat} {toks : List Tok} (hI : AllOk n p toks) : FnOk n p toks .arguments := by
  intro hd w M low kind s s' hp hs
  show Calls Tryz.prog 197 #[.pointer (some ⟨p, 0, none⟩)] w _
  have h0 := Cx.At.bare hp
  clear hp
  go_enter Tryz.func197, Tryz.ntmps197
  obtain ⟨u1, r2, r3⟩ := R.seq hs
  go_wp2_with fail
  refine (Cx.bump h0 r2).mono ?_
  rintro e w5 ⟨rfl, h4⟩
  clear h0
  clear r2
  go_wp2_with fail
  refine (Cx.list h4 r3 (actsC_fn _ .expr hI ent_expr True.intro (fun _ => rfl) rfl)).mono ?_
  rintro e w7 ⟨rfl, h6⟩
  clear h4
  clear r3
  go_wp2_with fail
  go_end0
  exact h6.post

set_option maxRecDepth 100000 in
set_option maxHeartbeats 1600000 in
theorem acts_ifExpr_1_1 {n : Nat} {p : Nat} {toks : List Tok} (hI : AllOk n p toks) (b0 : Nat) : ActsC n (Cmd.ite (.at [kIf]) (.call .ifExpr) (.call .block)) (Bx b0 (.pointer (some ⟨p, 0, none⟩))) 212 #[] #[.pointer (some ⟨b0, 0, none⟩)] p toks := by
  refine actsC_of (Bx.stays _ _) (ent_of Tryz.func212 (by kernel_rfl) (by kernel_rfl)) ?_
  intro low kind M0 w0 w s s' h0 hs
  show Calls Tryz.prog 212 #[.pointer (some ⟨b0, 0, none⟩)] w _
  have x0 := h0.bx (fun _ _ e => e)
  go_enter Tryz.func212, Tryz.ntmps212
  go_wp2_with fail
  refine (Cx.at1 h0 kIf (by simp)).mono ?_
  rintro e w3 ⟨rfl, h2⟩
  clear x0 h0
  have x0 := h2.bx (fun _ _ e => e)
  cases ht1 : atB [kIf] s.rest
  · have hsf := R.no hs ht1
    clear ht1 hs
    go_wp2_with fail
    refine (Cx.fn .block hI h2 hsf True.intro).mono ?_
    rintro e w5 ⟨rfl, h4⟩
    clear x0 h2
    have x0 := h4.bx (fun _ _ e => e)
    clear hsf
    go_wp2_with fail
    go_end0
    exact ⟨rfl, h4⟩
  · have hst := R.yes hs ht1
    clear ht1 hs
    go_wp2_with fail
    refine (Cx.fn .ifExpr hI h2 hst True.intro).mono ?_
    rintro e w7 ⟨rfl, h6⟩
    clear x0 h2
    have x0 := h6.bx (fun _ _ e => e)
    clear hst
    go_wp2_with fail
    go_end0
    exact ⟨rfl, h6⟩

set_option maxRecDepth 100000 in
set_option maxHeartbeats 1600000 in
theorem acts_ifExpr_1 {n : Nat} {p : Nat} {toks : List Tok} (hI : AllOk n p toks) (b0 : Nat) : ActsC n (Cmd.seq .bump (.seq (.call .expr) (.seq (.call .block) (Cmd.optional kElse (.ite (.at [kIf]) (.call .ifExpr) (.call .block)))))) (Bx b0 (.pointer (some ⟨p, 0, none⟩))) 211 #[] #[.pointer (some ⟨b0, 0, none⟩)] p toks := by
  refine actsC_of (Bx.stays _ _) (ent_of Tryz.func211 (by kernel_rfl) (by kernel_rfl)) ?_
  intro low kind M0 w0 w s s' h0 hs
  show Calls Tryz.prog 211 #[.pointer (some ⟨b0, 0, none⟩)] w _
  have x0 := h0.bx (fun _ _ e => e)
  go_enter Tryz.func211, Tryz.ntmps211
  obtain ⟨u1, r2, r3⟩ := R.seq hs
  obtain ⟨u4, r5, r6⟩ := R.seq r3
  obtain ⟨u7, r8, r9⟩ := R.seq r6
  go_wp2_with fail
  refine (Cx.bump h0 r2).mono ?_
  rintro e w11 ⟨rfl, h10⟩
  clear x0 h0
  have x0 := h10.bx (fun _ _ e => e)
  clear r2
  go_wp2_with fail
  refine (Cx.fn .expr hI h10 r5 True.intro).mono ?_
  rintro e w13 ⟨rfl, h12⟩
  clear x0 h10
  have x0 := h12.bx (fun _ _ e => e)
  clear r5
  go_wp2_with fail
  refine (Cx.fn .block hI h12 r8 True.intro).mono ?_
  rintro e w15 ⟨rfl, h14⟩
  clear x0 h12
  have x0 := h14.bx (fun _ _ e => e)
  clear r8
  go_wp2_with fail
  refine (Cx.optional h14 r9 (acts_ifExpr_1_1 hI (b0))).mono ?_
  rintro e w17 ⟨rfl, h16⟩
  clear x0 h14
  have x0 := h16.bx (fun _ _ e => e)
  clear r9
  go_wp2_with fail
  go_end0
  exact ⟨rfl, h16⟩

set_option maxRecDepth 100000 in
set_option maxHeartbeats 1600000 in
theorem fn_ifExpr {n : Nat} {p : Nat} {toks : List Tok} (hI : AllOk n p toks) : FnOk n p toks .ifExpr := by
  intro hd w M low kind s s' hp hs
  show Calls Tryz.prog 199 #[.pointer (some ⟨p, 0, none⟩)] w _
  have h0 := Cx.At.start hp (v := .pointer (some ⟨p, 0, none⟩)) (t := 74)
  clear hp
  have x0 := h0.bx (fun _ _ e => e)
  go_enter Tryz.func199, Tryz.ntmps199
  go_wp2_with fail
  refine (Cx.node h0 hs (acts_ifExpr_1 hI (w.heap.size))).mono ?_
  rintro e w2 ⟨rfl, h1⟩
  clear x0 h0
  have x0 := h1.bx (fun _ _ e => e)
  clear hs
  go_wp2_with fail
  go_end0
  exact h1.post

set_option maxRecDepth 100000 in
set_option maxHeartbeats 1600000 in
theorem acts_structLit_1_1 {n : Nat} {p : Nat} {toks : List Tok} (hI : AllOk n p toks) (b0 : Nat) : ActsC n (Cmd.seq .bump (.seq (Cmd.expect pColon) (.call .expr))) (Bx b0 (.pointer (some ⟨p, 0, none⟩))) 217 #[] #[.pointer (some ⟨b0, 0, none⟩)] p toks := by
  refine actsC_of (Bx.stays _ _) (ent_of Tryz.func217 (by kernel_rfl) (by kernel_rfl)) ?_
  intro low kind M0 w0 w s s' h0 hs
  show Calls Tryz.prog 217 #[.pointer (some ⟨b0, 0, none⟩)] w _
  have x0 := h0.bx (fun _ _ e => e)
  go_enter Tryz.func217, Tryz.ntmps217
  obtain ⟨u1, r2, r3⟩ := R.seq hs
  obtain ⟨u4, r5, r6⟩ := R.seq r3
  go_wp2_with fail
  refine (Cx.bump h0 r2).mono ?_
  rintro e w8 ⟨rfl, h7⟩
  clear x0 h0
  have x0 := h7.bx (fun _ _ e => e)
  clear r2
  go_wp2_with fail
  refine (Cx.expect h7 r5).mono ?_
  rintro e w10 ⟨rfl, h9⟩
  clear x0 h7
  have x0 := h9.bx (fun _ _ e => e)
  clear r5
  go_wp2_with fail
  refine (Cx.fn .expr hI h9 r6 True.intro).mono ?_
  rintro e w12 ⟨rfl, h11⟩
  clear x0 h9
  have x0 := h11.bx (fun _ _ e => e)
  clear r6
  go_wp2_with fail
  go_end0
  exact ⟨rfl, h11⟩

set_option maxRecDepth 100000 in
set_option maxHeartbeats 1600000 in
theorem acts_structLit_1 {n : Nat} {p : Nat} {toks : List Tok} (hI : AllOk n p toks) (b0 : Nat) : ActsC n (Cmd.ite Cmd.ident (.node 34 (.seq .bump (.seq (Cmd.expect pColon) (.call .expr)))) .skip) (Bx b0 (.pointer (some ⟨p, 0, none⟩))) 216 #[] #[.pointer (some ⟨b0, 0, none⟩)] p toks := by
  refine actsC_of (Bx.stays _ _) (ent_of Tryz.func216 (by kernel_rfl) (by kernel_rfl)) ?_
  intro low kind M0 w0 w s s' h0 hs
  show Calls Tryz.prog 216 #[.pointer (some ⟨b0, 0, none⟩)] w _
  have x0 := h0.bx (fun _ _ e => e)
  go_enter Tryz.func216, Tryz.ntmps216
  go_wp2_with fail
  refine (Cx.ident h0).mono ?_
  rintro e w3 ⟨rfl, h2⟩
  clear x0 h0
  have x0 := h2.bx (fun _ _ e => e)
  cases ht1 : (peekT s.rest).k == 103
  · have hsf := R.no hs ht1
    clear ht1 hs
    have h4 := h2.eq hsf.skip
    clear h2 hsf
    go_wp2_with fail
    go_end0
    exact ⟨rfl, h4⟩
  · have hst := R.yes hs ht1
    clear ht1 hs
    go_wp2_with fail
    refine (Cx.node h2 hst (acts_structLit_1_1 hI (b0))).mono ?_
    rintro e w6 ⟨rfl, h5⟩
    clear x0 h2
    have x0 := h5.bx (fun _ _ e => e)
    clear hst
    go_wp2_with fail
    go_end0
    exact ⟨rfl, h5⟩

set_option maxRecDepth 100000 in
set_option maxHeartbeats 1600000 in
theorem fn_structLit {n : Nat} {p : Nat} {toks : List Tok} (hI : AllOk n p toks) : FnOk n p toks .structLit := by
  intro hd w M low kind s s' hp hs
  show Calls Tryz.prog 201 #[.pointer (some ⟨p, 0, none⟩)] w _
  have h0 := Cx.At.start hp (v := .pointer (some ⟨p, 0, none⟩)) (t := 74)
  clear hp
  have x0 := h0.bx (fun _ _ e => e)
  go_enter Tryz.func201, Tryz.ntmps201
  obtain ⟨u1, r2, r3⟩ := R.seq hs
  obtain ⟨u4, r5, r6⟩ := R.seq r3
  obtain ⟨u7, r8, r9⟩ := R.seq r6
  go_wp2_with fail
  refine (Cx.bump h0 r2).mono ?_
  rintro e w11 ⟨rfl, h10⟩
  clear x0 h0
  have x0 := h10.bx (fun _ _ e => e)
  clear r2
  go_wp2_with fail
  refine (Cx.fn (.path false) hI h10 r5 True.intro).mono ?_
  rintro e w13 ⟨rfl, h12⟩
  clear x0 h10
  have x0 := h12.bx (fun _ _ e => e)
  clear r5
  go_wp2_with fail
  refine (Cx.expect h12 r8).mono ?_
  rintro e w15 ⟨rfl, h14⟩
  clear x0 h12
  have x0 := h14.bx (fun _ _ e => e)
  clear r8
  go_wp2_with fail
  refine (Cx.list h14 r9 (acts_structLit_1 hI (w.heap.size))).mono ?_
  rintro e w17 ⟨rfl, h16⟩
  clear x0 h14
  have x0 := h16.bx (fun _ _ e => e)
  clear r9
  go_wp2_with fail
  go_end0
  exact h16.post

set_option maxRecDepth 100000 in
set_option maxHeartbeats 1600000 in
theorem acts_lambda_1 {n : Nat} {p : Nat} {toks : List Tok} (hI : AllOk n p toks) : ActsC n (Cmd.skip) (fun _ _ => True) 218 #[] #[] p toks := by
  refine actsC_of (fun _ _ _ _ _ _ => True.intro) (ent_of Tryz.func218 (by kernel_rfl) (by kernel_rfl)) ?_
  intro low kind M0 w0 w s s' h0 hs
  show Calls Tryz.prog 218 #[] w _
  go_enter Tryz.func218, Tryz.ntmps218
  have h1 := h0.eq hs.skip
  clear h0 hs
  go_wp2_with fail
  go_end0
  exact ⟨rfl, h1⟩

set_option maxRecDepth 100000 in
set_option maxHeartbeats 1600000 in
theorem fn_lambda {n : Nat} {p : Nat} {toks : List Tok} (hI : AllOk n p toks) : FnOk n p toks .lambda := by
  intro hd w M low kind s s' hp hs
  show Calls Tryz.prog 202 #[.pointer (some ⟨p, 0, none⟩)] w _
  have h0 := Cx.At.bare hp
  clear hp
  go_enter Tryz.func202, Tryz.ntmps202
  obtain ⟨u1, r2, r3⟩ := R.seq hs
  go_wp2_with fail
  refine (Cx.at1 h0 pOr2 (by simp)).mono ?_
  rintro e w6 ⟨rfl, h5⟩
  clear h0
  cases ht4 : atB [pOr2] s.rest
  · have r2f := R.no r2 ht4
    clear ht4 r2
    obtain ⟨u7, r8, r9⟩ := R.seq r2f
    go_wp2_with fail
    refine (Cx.bump h5 r8).mono ?_
    rintro e w11 ⟨rfl, h10⟩
    clear h5
    clear r8
    go_wp2_with fail
    refine (Cx.fn (.params pBar) hI h10 r9 True.intro).mono ?_
    rintro e w13 ⟨rfl, h12⟩
    clear h10
    clear r9
    go_wp2_with fail
    refine (Cx.fn .expr hI h12 r3 True.intro).mono ?_
    rintro e w15 ⟨rfl, h14⟩
    clear h12
    clear r3
    go_wp2_with fail
    go_end0
    exact h14.post
  · have r2t := R.yes r2 ht4
    clear ht4 r2
    obtain ⟨u16, r17, r18⟩ := R.seq r2t
    go_wp2_with fail
    refine (Cx.bump h5 r17).mono ?_
    rintro e w20 ⟨rfl, h19⟩
    clear h5
    clear r17
    go_wp2_with fail
    refine (Cx.node h19 r18 (acts_lambda_1 hI )).mono ?_
    rintro e w22 ⟨rfl, h21⟩
    clear h19
    clear r18
    go_wp2_with fail
    refine (Cx.fn .expr hI h21 r3 True.intro).mono ?_
    rintro e w24 ⟨rfl, h23⟩
    clear h21
    clear r3
    go_wp2_with fail
    go_end0
    exact h23.post

set_option maxRecDepth 100000 in
set_option maxHeartbeats 1600000 in
theorem fn_expr {n : Nat} {p : Nat} {toks : List Tok} (hI : AllOk n p toks) : FnOk n p toks .expr := by
  intro hd w M low kind s s' hp hs
  show Calls Tryz.prog 108 #[.pointer (some ⟨p, 0, none⟩)] w _
  have h0 := Cx.At.bare hp
  clear hp
  go_enter Tryz.func108, Tryz.ntmps108
  go_wp2_with fail
  refine (Cx.fn (.binary 0) hI h0 hs (Nat.zero_le _)).mono ?_
  rintro e w2 ⟨rfl, h1⟩
  clear h0
  clear hs
  go_wp2_with fail
  go_end0
  exact h1.post
end Go.Proofs.YtepadojclmjllaaGreatDoor
