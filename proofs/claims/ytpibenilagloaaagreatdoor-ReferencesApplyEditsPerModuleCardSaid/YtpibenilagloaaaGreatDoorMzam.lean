import Derived.Test.YtpibenilagloaaaGreatDoorMzal
namespace Go.Proofs.YtpibenilagloaaaGreatDoor
open Go.RowKit
set_option linter.unusedVariables false
set_option maxRecDepth 100000 in
set_option maxHeartbeats 1600000 in
theorem acts_dataType_1_1 {n : Nat} {p : Nat} {toks : List Tok} (hI : AllOk n p toks) (b0 : Nat) : ActsC n (Cmd.seq .bump (.seq (Cmd.expect pColon) (.call .typeExpr))) (Bx b0 (.pointer (some ⟨p, 0, none⟩))) 267 #[] #[.pointer (some ⟨b0, 0, none⟩)] p toks := by
  refine actsC_of (Bx.stays _ _) (ent_of Tryz.func267 (by kernel_rfl) (by kernel_rfl)) ?_
  intro low kind M0 w0 w s s' h0 hs
  show Calls Tryz.prog 267 #[.pointer (some ⟨b0, 0, none⟩)] w _
  have x0 := h0.bx (fun _ _ e => e)
  go_enter Tryz.func267, Tryz.ntmps267
  obtain ⟨u1, r2, r3⟩ := R.seq hs
  obtain ⟨u4, r5, r6⟩ := R.seq r3
  go_wp2_with fail
  refine (Cx.bump h0 r2).mono ?_
  rintro e w8 ⟨rfl, h7⟩
  clear x0 h0
  have x0 := h7.bx (fun _ _ e => e)
  clear r2
  go_wp2_with fail
  refine (Cx.expect h7 r5).mono ?_
  rintro e w10 ⟨rfl, h9⟩
  clear x0 h7
  have x0 := h9.bx (fun _ _ e => e)
  clear r5
  go_wp2_with fail
  refine (Cx.fn .typeExpr hI h9 r6 True.intro).mono ?_
  rintro e w12 ⟨rfl, h11⟩
  clear x0 h9
  have x0 := h11.bx (fun _ _ e => e)
  clear r6
  go_wp2_with fail
  go_end0
  exact ⟨rfl, h11⟩
set_option maxRecDepth 100000 in
set_option maxHeartbeats 1600000 in
theorem acts_dataType_1_2 {n : Nat} {p : Nat} {toks : List Tok} (hI : AllOk n p toks) (b0 : Nat) : ActsC n (Cmd.seq .bump (.ite (.at [pLp]) (.seq .bump (Cmd.list pRp (.call .typeExpr))) .skip)) (Bx b0 (.pointer (some ⟨p, 0, none⟩))) 268 #[] #[.pointer (some ⟨b0, 0, none⟩)] p toks := by
  refine actsC_of (Bx.stays _ _) (ent_of Tryz.func268 (by kernel_rfl) (by kernel_rfl)) ?_
  intro low kind M0 w0 w s s' h0 hs
  show Calls Tryz.prog 268 #[.pointer (some ⟨b0, 0, none⟩)] w _
  have x0 := h0.bx (fun _ _ e => e)
  go_enter Tryz.func268, Tryz.ntmps268
  obtain ⟨u1, r2, r3⟩ := R.seq hs
  go_wp2_with fail
  refine (Cx.bump h0 r2).mono ?_
  rintro e w5 ⟨rfl, h4⟩
  clear x0 h0
  have x0 := h4.bx (fun _ _ e => e)
  clear r2
  cases ht6 : atB [pLp] u1.rest
  · have r3f := R.no r3 ht6
    have ht6' := Lib.hid ht6
    clear ht6 r3
    go_wp2_with fail
    refine (Cx.acceptF h4 ht6'.out (by simp)).mono ?_
    rintro e w8 ⟨rfl, h7⟩
    clear x0 h4
    have x0 := h7.bx (fun _ _ e => e)
    have h9 := h7.eq r3f.skip
    clear h7 r3f
    go_wp2_with fail
    go_end0
    exact ⟨rfl, h9⟩
  · obtain ⟨u10, r11, r12⟩ := R.seq (R.yes r3 ht6)
    have r11b := Lib.hid r11.bump
    have ht6' := Lib.hid ht6
    clear ht6 r3 r11
    go_wp2_with fail
    refine (Cx.acceptT h4 ht6'.out r11b.out (by simp)).mono ?_
    rintro e w14 ⟨rfl, h13⟩
    clear x0 h4
    have x0 := h13.bx (fun _ _ e => e)
    go_wp2_with fail
    refine (Cx.list h13 r12 (actsC_fn _ .typeExpr hI ent_typeExpr True.intro (fun _ => rfl) rfl)).mono ?_
    rintro e w16 ⟨rfl, h15⟩
    clear x0 h13
    have x0 := h15.bx (fun _ _ e => e)
    clear r12
    go_wp2_with fail
    go_end0
    exact ⟨rfl, h15⟩
set_option maxRecDepth 100000 in
set_option maxHeartbeats 1600000 in
theorem acts_dataType_1_k4 {n : Nat} {p : Nat} {toks : List Tok} (hI : AllOk n p toks) (b0 : Nat) (b1 : Nat) : ActsC n (Cmd.ite Cmd.ident (.node 14 (.seq .bump (.seq (Cmd.expect pColon) (.call .typeExpr)))) .skip) (And2 (Bx b0 (.pointer (some ⟨p, 0, none⟩))) (Bx b1 (.int .i64 4))) 265 #[] #[.pointer (some ⟨b0, 0, none⟩), .pointer (some ⟨b1, 0, none⟩)] p toks := by
  refine actsC_of (And2.stays (Bx.stays _ _) (Bx.stays _ _)) (ent_of Tryz.func265 (by kernel_rfl) (by kernel_rfl)) ?_
  intro low kind M0 w0 w s s' h0 hs
  show Calls Tryz.prog 265 #[.pointer (some ⟨b0, 0, none⟩), .pointer (some ⟨b1, 0, none⟩)] w _
  have x0 := h0.bx (fun _ _ e => e.1)
  have x1 := h0.bx (fun _ _ e => e.2)
  go_enter Tryz.func265, Tryz.ntmps265
  go_wp2_with fail
  refine (Cx.ident h0).mono ?_
  rintro e w3 ⟨rfl, h2⟩
  clear x0 x1 h0
  have x0 := h2.bx (fun _ _ e => e.1)
  have x1 := h2.bx (fun _ _ e => e.2)
  cases ht1 : (peekT s.rest).k == 103
  · have hsf := R.no hs ht1
    clear ht1 hs
    have h4 := h2.eq hsf.skip
    clear h2 hsf
    go_wp2_with fail
    go_end0
    exact ⟨rfl, h4⟩
  · have hst := R.yes hs ht1
    clear ht1 hs
    go_wp2_with fail
    refine (Cx.node h2 hst ((acts_dataType_1_1 hI (b0)).weak (fun _ _ e => e.1))).mono ?_
    rintro e w6 ⟨rfl, h5⟩
    clear x0 x1 h2
    have x0 := h5.bx (fun _ _ e => e.1)
    have x1 := h5.bx (fun _ _ e => e.2)
    clear hst
    go_wp2_with fail
    go_end0
    exact ⟨rfl, h5⟩
set_option maxRecDepth 100000 in
set_option maxHeartbeats 1600000 in
theorem fn_dataType4 {n : Nat} {p : Nat} {toks : List Tok} (hI : AllOk n p toks) : FnOk n p toks (.dataType 4) := by
  intro hd w M low kind s s' hp hs
  show Calls Tryz.prog 212 #[.pointer (some ⟨p, 0, none⟩), .int .i64 4] w _
  have h0 := Cx.At.start hp (v := .pointer (some ⟨p, 0, none⟩)) (t := 174)
  replace h0 := h0.box (v := .int .i64 4) (t := 3) (n := w.heap.size + 1) (by simp)
  clear hp
  have x0 := h0.bx (fun _ _ e => e.1)
  have x1 := h0.bx (fun _ _ e => e.2)
  go_enter Tryz.func212, Tryz.ntmps212
  obtain ⟨u1, r2, r3⟩ := R.seq hs
  obtain ⟨u4, r5, r6⟩ := R.seq r3
  obtain ⟨u7, r8, r9⟩ := R.seq r6
  go_wp2_with fail
  refine (Cx.expectIdent h0 r2).mono ?_
  rintro e w11 ⟨rfl, h10⟩
  clear x0 x1 h0
  have x0 := h10.bx (fun _ _ e => e.1)
  have x1 := h10.bx (fun _ _ e => e.2)
  clear r2
  go_wp2_with fail
  refine (Cx.fn .typeParams hI h10 r5 True.intro).mono ?_
  rintro e w13 ⟨rfl, h12⟩
  clear x0 x1 h10
  have x0 := h12.bx (fun _ _ e => e.1)
  have x1 := h12.bx (fun _ _ e => e.2)
  clear r5
  go_wp2_with fail
  refine (Cx.expect h12 r8).mono ?_
  rintro e w15 ⟨rfl, h14⟩
  clear x0 x1 h12
  have x0 := h14.bx (fun _ _ e => e.1)
  have x1 := h14.bx (fun _ _ e => e.2)
  clear r8
  go_wp2_with fail
  refine (Cx.list h14 r9 (acts_dataType_1_k4 hI (w.heap.size) (w.heap.size + 1))).mono ?_
  rintro e w17 ⟨rfl, h16⟩
  clear x0 x1 h14
  have x0 := h16.bx (fun _ _ e => e.1)
  have x1 := h16.bx (fun _ _ e => e.2)
  clear r9
  go_wp2_with fail
  go_end0
  exact h16.post
set_option maxRecDepth 100000 in
set_option maxHeartbeats 1600000 in
theorem acts_dataType_1_k5 {n : Nat} {p : Nat} {toks : List Tok} (hI : AllOk n p toks) (b0 : Nat) (b1 : Nat) : ActsC n (Cmd.ite Cmd.ident (.node 15 (.seq .bump (.ite (.at [pLp]) (.seq .bump (Cmd.list pRp (.call .typeExpr))) .skip))) .skip) (And2 (Bx b0 (.pointer (some ⟨p, 0, none⟩))) (Bx b1 (.int .i64 5))) 265 #[] #[.pointer (some ⟨b0, 0, none⟩), .pointer (some ⟨b1, 0, none⟩)] p toks := by
  refine actsC_of (And2.stays (Bx.stays _ _) (Bx.stays _ _)) (ent_of Tryz.func265 (by kernel_rfl) (by kernel_rfl)) ?_
  intro low kind M0 w0 w s s' h0 hs
  show Calls Tryz.prog 265 #[.pointer (some ⟨b0, 0, none⟩), .pointer (some ⟨b1, 0, none⟩)] w _
  have x0 := h0.bx (fun _ _ e => e.1)
  have x1 := h0.bx (fun _ _ e => e.2)
  go_enter Tryz.func265, Tryz.ntmps265
  go_wp2_with fail
  refine (Cx.ident h0).mono ?_
  rintro e w3 ⟨rfl, h2⟩
  clear x0 x1 h0
  have x0 := h2.bx (fun _ _ e => e.1)
  have x1 := h2.bx (fun _ _ e => e.2)
  cases ht1 : (peekT s.rest).k == 103
  · have hsf := R.no hs ht1
    clear ht1 hs
    have h4 := h2.eq hsf.skip
    clear h2 hsf
    go_wp2_with fail
    go_end0
    exact ⟨rfl, h4⟩
  · have hst := R.yes hs ht1
    clear ht1 hs
    go_wp2_with fail
    refine (Cx.node h2 hst ((acts_dataType_1_2 hI (b0)).weak (fun _ _ e => e.1))).mono ?_
    rintro e w6 ⟨rfl, h5⟩
    clear x0 x1 h2
    have x0 := h5.bx (fun _ _ e => e.1)
    have x1 := h5.bx (fun _ _ e => e.2)
    clear hst
    go_wp2_with fail
    go_end0
    exact ⟨rfl, h5⟩
set_option maxRecDepth 100000 in
set_option maxHeartbeats 1600000 in
theorem fn_dataType5 {n : Nat} {p : Nat} {toks : List Tok} (hI : AllOk n p toks) : FnOk n p toks (.dataType 5) := by
  intro hd w M low kind s s' hp hs
  show Calls Tryz.prog 212 #[.pointer (some ⟨p, 0, none⟩), .int .i64 5] w _
  have h0 := Cx.At.start hp (v := .pointer (some ⟨p, 0, none⟩)) (t := 174)
  replace h0 := h0.box (v := .int .i64 5) (t := 3) (n := w.heap.size + 1) (by simp)
  clear hp
  have x0 := h0.bx (fun _ _ e => e.1)
  have x1 := h0.bx (fun _ _ e => e.2)
  go_enter Tryz.func212, Tryz.ntmps212
  obtain ⟨u1, r2, r3⟩ := R.seq hs
  obtain ⟨u4, r5, r6⟩ := R.seq r3
  obtain ⟨u7, r8, r9⟩ := R.seq r6
  go_wp2_with fail
  refine (Cx.expectIdent h0 r2).mono ?_
  rintro e w11 ⟨rfl, h10⟩
  clear x0 x1 h0
  have x0 := h10.bx (fun _ _ e => e.1)
  have x1 := h10.bx (fun _ _ e => e.2)
  clear r2
  go_wp2_with fail
  refine (Cx.fn .typeParams hI h10 r5 True.intro).mono ?_
  rintro e w13 ⟨rfl, h12⟩
  clear x0 x1 h10
  have x0 := h12.bx (fun _ _ e => e.1)
  have x1 := h12.bx (fun _ _ e => e.2)
  clear r5
  go_wp2_with fail
  refine (Cx.expect h12 r8).mono ?_
  rintro e w15 ⟨rfl, h14⟩
  clear x0 x1 h12
  have x0 := h14.bx (fun _ _ e => e.1)
  have x1 := h14.bx (fun _ _ e => e.2)
  clear r8
  go_wp2_with fail
  refine (Cx.list h14 r9 (acts_dataType_1_k5 hI (w.heap.size) (w.heap.size + 1))).mono ?_
  rintro e w17 ⟨rfl, h16⟩
  clear x0 x1 h14
  have x0 := h16.bx (fun _ _ e => e.1)
  have x1 := h16.bx (fun _ _ e => e.2)
  clear r9
  go_wp2_with fail
  go_end0
  exact h16.post
set_option maxRecDepth 100000 in
set_option maxHeartbeats 1600000 in
theorem acts_members_1 {n : Nat} {p : Nat} {toks : List Tok} (hI : AllOk n p toks) (b0 : Nat) : ActsC n (Cmd.seq .bump (.call (.function false))) (Bx b0 (.pointer (some ⟨p, 0, none⟩))) 270 #[] #[.pointer (some ⟨b0, 0, none⟩)] p toks := by
  refine actsC_of (Bx.stays _ _) (ent_of Tryz.func270 (by kernel_rfl) (by kernel_rfl)) ?_
  intro low kind M0 w0 w s s' h0 hs
  show Calls Tryz.prog 270 #[.pointer (some ⟨b0, 0, none⟩)] w _
  have x0 := h0.bx (fun _ _ e => e)
  go_enter Tryz.func270, Tryz.ntmps270
  obtain ⟨u1, r2, r3⟩ := R.seq hs
  go_wp2_with fail
  refine (Cx.bump h0 r2).mono ?_
  rintro e w5 ⟨rfl, h4⟩
  clear x0 h0
  have x0 := h4.bx (fun _ _ e => e)
  clear r2
  go_wp2_with fail
  refine (Cx.fn (.function false) hI h4 r3 True.intro).mono ?_
  rintro e w7 ⟨rfl, h6⟩
  clear x0 h4
  have x0 := h6.bx (fun _ _ e => e)
  clear r3
  go_wp2_with fail
  go_end0
  exact ⟨rfl, h6⟩
set_option maxRecDepth 100000 in
set_option maxHeartbeats 1600000 in
theorem acts_members_2 {n : Nat} {p : Nat} {toks : List Tok} (hI : AllOk n p toks) (b0 : Nat) : ActsC n (Cmd.seq .bump (.seq Cmd.expectIdent (.seq (Cmd.optional pEq (.call .typeExpr)) (Cmd.expect pSemi)))) (Bx b0 (.pointer (some ⟨p, 0, none⟩))) 271 #[] #[.pointer (some ⟨b0, 0, none⟩)] p toks := by
  refine actsC_of (Bx.stays _ _) (ent_of Tryz.func271 (by kernel_rfl) (by kernel_rfl)) ?_
  intro low kind M0 w0 w s s' h0 hs
  show Calls Tryz.prog 271 #[.pointer (some ⟨b0, 0, none⟩)] w _
  have x0 := h0.bx (fun _ _ e => e)
  go_enter Tryz.func271, Tryz.ntmps271
  obtain ⟨u1, r2, r3⟩ := R.seq hs
  obtain ⟨u4, r5, r6⟩ := R.seq r3
  obtain ⟨u7, r8, r9⟩ := R.seq r6
  go_wp2_with fail
  refine (Cx.bump h0 r2).mono ?_
  rintro e w11 ⟨rfl, h10⟩
  clear x0 h0
  have x0 := h10.bx (fun _ _ e => e)
  clear r2
  go_wp2_with fail
  refine (Cx.expectIdent h10 r5).mono ?_
  rintro e w13 ⟨rfl, h12⟩
  clear x0 h10
  have x0 := h12.bx (fun _ _ e => e)
  clear r5
  go_wp2_with fail
  refine (Cx.optional h12 r8 (actsC_fn _ .typeExpr hI ent_typeExpr True.intro (fun _ => rfl) rfl)).mono ?_
  rintro e w15 ⟨rfl, h14⟩
  clear x0 h12
  have x0 := h14.bx (fun _ _ e => e)
  clear r8
  go_wp2_with fail
  refine (Cx.expect h14 r9).mono ?_
  rintro e w17 ⟨rfl, h16⟩
  clear x0 h14
  have x0 := h16.bx (fun _ _ e => e)
  clear r9
  go_wp2_with fail
  go_end0
  exact ⟨rfl, h16⟩
set_option maxRecDepth 100000 in
set_option maxHeartbeats 1600000 in
theorem fn_members {n : Nat} {p : Nat} {toks : List Tok} (hI : AllOk n p toks) : FnOk n p toks .members := by
  intro hd w M low kind s s' hp hs
  show Calls Tryz.prog 214 #[.pointer (some ⟨p, 0, none⟩)] w _
  have h0 := Cx.At.start hp (v := .pointer (some ⟨p, 0, none⟩)) (t := 174)
  clear hp
  have x0 := h0.bx (fun _ _ e => e)
  go_enter Tryz.func214, Tryz.ntmps214
  obtain ⟨u1, r2, r3⟩ := R.seq hs
  obtain ⟨u4, r5, r6⟩ := R.seq r3
  go_wp2_with fail
  refine (Cx.expect h0 r2).mono ?_
  rintro e w8 ⟨rfl, h7⟩
  clear x0 h0
  have x0 := h7.bx (fun _ _ e => e)
  clear r2
  obtain ⟨m9, hl10⟩ := R.loop r5
  go_wp2_with fail
  go_loopg [] m9 (fun gk wr => ∃ s1, (⟨(Bx w.heap.size (.pointer (some ⟨p, 0, none⟩))), p, toks, low, kind, M, w⟩ : Cx).At wr s1 ∧ RL n gk (.at [kType, kFn]) (.ite (.at [kFn]) (.node 3 (.seq .bump (.call (.function false)))) (.node 16 (.seq .bump (.seq Cmd.expectIdent (.seq (Cmd.optional pEq (.call .typeExpr)) (Cmd.expect pSemi)))))) s1 u4)
  case atStart => exact ⟨_, h7, hl10⟩
  case round =>
    clear h7 hl10 r5 x0
    obtain ⟨s11, h17, hl10⟩ := hrel
    have x0 := h17.bx (fun _ _ e => e)
    go_wp2_with fail
    refine (Cx.at2 h17 kType kFn (by simp)).mono ?_
    rintro e w21 ⟨rfl, h20⟩
    clear x0 h17
    have x0 := h20.bx (fun _ _ e => e)
    cases ht18 : atB [kType, kFn] s11.rest
    · have z19 := Lib.hid (hl10.no ht18)
      clear ht18 hl10
      go_wp2_with fail
      have h22 := h20.eq z19.out
      clear h20 z19
      go_wp2_with fail
      refine (Cx.expect h22 r6).mono ?_
      rintro e w24 ⟨rfl, h23⟩
      clear x0 h22
      have x0 := h23.bx (fun _ _ e => e)
      clear r6
      go_wp2_with fail
      go_end0
      exact h23.post
    · obtain ⟨k12, u13, hk14, hc15, hl16⟩ := hl10.yes ht18
      clear ht18 hl10
      go_wp2_with fail
      refine (Cx.at1 h20 kFn (by simp)).mono ?_
      rintro e w27 ⟨rfl, h26⟩
      clear x0 h20
      have x0 := h26.bx (fun _ _ e => e)
      cases ht25 : atB [kFn] s11.rest
      · have hc15f := R.no hc15 ht25
        clear ht25 hc15
        go_wp2_with fail
        refine (Cx.node h26 hc15f (acts_members_2 hI (w.heap.size))).mono ?_
        rintro e w29 ⟨rfl, h28⟩
        clear x0 h26
        have x0 := h28.bx (fun _ _ e => e)
        clear hc15f
        go_wp2_with fail
        go_roundg k12
        case rel => exact ⟨u13, h28, hl16⟩
        case measure => exact hk14
      · have hc15t := R.yes hc15 ht25
        clear ht25 hc15
        go_wp2_with fail
        refine (Cx.node h26 hc15t (acts_members_1 hI (w.heap.size))).mono ?_
        rintro e w31 ⟨rfl, h30⟩
        clear x0 h26
        have x0 := h30.bx (fun _ _ e => e)
        clear hc15t
        go_wp2_with fail
        go_roundg k12
        case rel => exact ⟨u13, h30, hl16⟩
        case measure => exact hk14

set_option maxRecDepth 100000 in
set_option maxHeartbeats 1600000 in
theorem fn_let {n : Nat} {p : Nat} {toks : List Tok} (hI : AllOk n p toks) : FnOk n p toks .letS := by
  intro hd w M low kind s s' hp hs
  show Calls Tryz.prog 329 #[.pointer (some ⟨p, 0, none⟩)] w _
  have h0 := Cx.At.bare hp
  clear hp
  go_enter Tryz.func329, Tryz.ntmps329
  obtain ⟨u1, r2, r3⟩ := R.seq hs
  obtain ⟨u4, r5, r6⟩ := R.seq r3
  obtain ⟨u7, r8, r9⟩ := R.seq r6
  obtain ⟨u10, r11, r12⟩ := R.seq r9
  obtain ⟨u13, r14, r15⟩ := R.seq r12
  go_wp2_with fail
  refine (Cx.bump h0 r2).mono ?_
  rintro e w17 ⟨rfl, h16⟩
  clear h0
  clear r2
  go_wp2_with fail
  refine (Cx.fn .pattern hI h16 r5 True.intro).mono ?_
  rintro e w19 ⟨rfl, h18⟩
  clear h16
  clear r5
  go_wp2_with fail
  refine (Cx.optional h18 r8 (actsC_fn _ .typeExpr hI ent_typeExpr True.intro (fun _ => rfl) rfl)).mono ?_
  rintro e w21 ⟨rfl, h20⟩
  clear h18
  clear r8
  go_wp2_with fail
  refine (Cx.expect h20 r11).mono ?_
  rintro e w23 ⟨rfl, h22⟩
  clear h20
  clear r11
  go_wp2_with fail
  refine (Cx.fn .expr hI h22 r14 True.intro).mono ?_
  rintro e w25 ⟨rfl, h24⟩
  clear h22
  clear r14
  go_wp2_with fail
  refine (Cx.expect h24 r15).mono ?_
  rintro e w27 ⟨rfl, h26⟩
  clear h24
  clear r15
  go_wp2_with fail
  go_end0
  exact h26.post
set_option maxRecDepth 100000 in
set_option maxHeartbeats 1600000 in
theorem fn_returnStmt {n : Nat} {p : Nat} {toks : List Tok} (hI : AllOk n p toks) : FnOk n p toks .returnS := by
  intro hd w M low kind s s' hp hs
  show Calls Tryz.prog 331 #[.pointer (some ⟨p, 0, none⟩)] w _
  have h0 := Cx.At.bare hp
  clear hp
  go_enter Tryz.func331, Tryz.ntmps331
  obtain ⟨u1, r2, r3⟩ := R.seq hs
  obtain ⟨u4, r5, r6⟩ := R.seq r3
  go_wp2_with fail
  refine (Cx.bump h0 r2).mono ?_
  rintro e w8 ⟨rfl, h7⟩
  clear h0
  clear r2
  go_wp2_with fail
  refine (Cx.at1 h7 pSemi (by simp)).mono ?_
  rintro e w11 ⟨rfl, h10⟩
  clear h7
  cases ht9 : atB [pSemi] u1.rest
  · have r5f := R.no r5 ht9
    clear ht9 r5
    go_wp2_with fail
    refine (Cx.fn .expr hI h10 r5f True.intro).mono ?_
    rintro e w13 ⟨rfl, h12⟩
    clear h10
    clear r5f
    go_wp2_with fail
    refine (Cx.expect h12 r6).mono ?_
    rintro e w15 ⟨rfl, h14⟩
    clear h12
    clear r6
    go_wp2_with fail
    go_end0
    exact h14.post
  · have r5t := R.yes r5 ht9
    clear ht9 r5
    go_wp2_with fail
    refine (Cx.absent h10 r5t).mono ?_
    rintro e w17 ⟨rfl, h16⟩
    clear h10
    clear r5t
    go_wp2_with fail
    refine (Cx.expect h16 r6).mono ?_
    rintro e w19 ⟨rfl, h18⟩
    clear h16
    clear r6
    go_wp2_with fail
    go_end0
    exact h18.post
set_option maxRecDepth 100000 in
set_option maxHeartbeats 1600000 in
theorem acts_unary_1 {n : Nat} {p : Nat} {toks : List Tok} (hI : AllOk n p toks) (b0 : Nat) : ActsC n (Cmd.seq .bump (.call .unary)) (Bx b0 (.pointer (some ⟨p, 0, none⟩))) 336 #[] #[.pointer (some ⟨b0, 0, none⟩)] p toks := by
  refine actsC_of (Bx.stays _ _) (ent_of Tryz.func336 (by kernel_rfl) (by kernel_rfl)) ?_
  intro low kind M0 w0 w s s' h0 hs
  show Calls Tryz.prog 336 #[.pointer (some ⟨b0, 0, none⟩)] w _
  have x0 := h0.bx (fun _ _ e => e)
  go_enter Tryz.func336, Tryz.ntmps336
  obtain ⟨u1, r2, r3⟩ := R.seq hs
  go_wp2_with fail
  refine (Cx.bump h0 r2).mono ?_
  rintro e w5 ⟨rfl, h4⟩
  clear x0 h0
  have x0 := h4.bx (fun _ _ e => e)
  clear r2
  go_wp2_with fail
  refine (Cx.fn .unary hI h4 r3 True.intro).mono ?_
  rintro e w7 ⟨rfl, h6⟩
  clear x0 h4
  have x0 := h6.bx (fun _ _ e => e)
  clear r3
  go_wp2_with fail
  go_end0
  exact ⟨rfl, h6⟩
set_option maxRecDepth 100000 in
set_option maxHeartbeats 1600000 in
theorem acts_unary_2 {n : Nat} {p : Nat} {toks : List Tok} (hI : AllOk n p toks) (b0 : Nat) : ActsC n (Cmd.seq .bump (.seq (Cmd.accept [kMut]) (.call .unary))) (Bx b0 (.pointer (some ⟨p, 0, none⟩))) 337 #[] #[.pointer (some ⟨b0, 0, none⟩)] p toks := by
  refine actsC_of (Bx.stays _ _) (ent_of Tryz.func337 (by kernel_rfl) (by kernel_rfl)) ?_
  intro low kind M0 w0 w s s' h0 hs
  show Calls Tryz.prog 337 #[.pointer (some ⟨b0, 0, none⟩)] w _
  have x0 := h0.bx (fun _ _ e => e)
  go_enter Tryz.func337, Tryz.ntmps337
  obtain ⟨u1, r2, r3⟩ := R.seq hs
  obtain ⟨u4, r5, r6⟩ := R.seq r3
  go_wp2_with fail
  refine (Cx.bump h0 r2).mono ?_
  rintro e w8 ⟨rfl, h7⟩
  clear x0 h0
  have x0 := h7.bx (fun _ _ e => e)
  clear r2
  go_wp2_with fail
  refine (Cx.accept h7 r5 (by simp)).mono ?_
  rintro e w10 ⟨rfl, h9⟩
  clear x0 h7
  have x0 := h9.bx (fun _ _ e => e)
  clear r5
  go_wp2_with fail
  refine (Cx.fn .unary hI h9 r6 True.intro).mono ?_
  rintro e w12 ⟨rfl, h11⟩
  clear x0 h9
  have x0 := h11.bx (fun _ _ e => e)
  clear r6
  go_wp2_with fail
  go_end0
  exact ⟨rfl, h11⟩
set_option maxRecDepth 100000 in
set_option maxHeartbeats 1600000 in
theorem fn_unary {n : Nat} {p : Nat} {toks : List Tok} (hI : AllOk n p toks) : FnOk n p toks .unary := by
  intro hd w M low kind s s' hp hs
  show Calls Tryz.prog 312 #[.pointer (some ⟨p, 0, none⟩)] w _
  have h0 := Cx.At.start hp (v := .pointer (some ⟨p, 0, none⟩)) (t := 174)
  clear hp
  have x0 := h0.bx (fun _ _ e => e)
  go_enter Tryz.func312, Tryz.ntmps312
  go_wp2_with fail
  refine (Cx.at3 h0 pMinus pBang pStar (by simp)).mono ?_
  rintro e w3 ⟨rfl, h2⟩
  clear x0 h0
  have x0 := h2.bx (fun _ _ e => e)
  cases ht1 : atB [pMinus, pBang, pStar] s.rest
  · have hsf := R.no hs ht1
    clear ht1 hs
    go_wp2_with fail
    refine (Cx.at1 h2 pAmp (by simp)).mono ?_
    rintro e w6 ⟨rfl, h5⟩
    clear x0 h2
    have x0 := h5.bx (fun _ _ e => e)
    cases ht4 : atB [pAmp] s.rest
    · have hsff := R.no hsf ht4
      clear ht4 hsf
      obtain ⟨u7, r8, r9⟩ := R.seq hsff
      go_wp2_with fail
      refine (Cx.fn .primary hI h5 r8 True.intro).mono ?_
      rintro e w11 ⟨rfl, h10⟩
      clear x0 h5
      have x0 := h10.bx (fun _ _ e => e)
      clear r8
      go_wp2_with fail
      refine (Cx.fn .postfixS hI h10 r9 True.intro).mono ?_
      rintro e w13 ⟨rfl, h12⟩
      clear x0 h10
      have x0 := h12.bx (fun _ _ e => e)
      clear r9
      go_wp2_with fail
      go_end0
      exact h12.post
    · have hsft := R.yes hsf ht4
      clear ht4 hsf
      go_wp2_with fail
      refine (Cx.node h5 hsft (acts_unary_2 hI (w.heap.size))).mono ?_
      rintro e w15 ⟨rfl, h14⟩
      clear x0 h5
      have x0 := h14.bx (fun _ _ e => e)
      clear hsft
      go_wp2_with fail
      go_end0
      exact h14.post
  · have hst := R.yes hs ht1
    clear ht1 hs
    go_wp2_with fail
    refine (Cx.node h2 hst (acts_unary_1 hI (w.heap.size))).mono ?_
    rintro e w17 ⟨rfl, h16⟩
    clear x0 h2
    have x0 := h16.bx (fun _ _ e => e)
    clear hst
    go_wp2_with fail
    go_end0
    exact h16.post
set_option maxRecDepth 100000 in
set_option maxHeartbeats 1600000 in
theorem fn_arguments {n : Nat} {p : Nat} {toks : List Tok} (hI : AllOk n p toks) : FnOk n p toks .arguments := by
  intro hd w M low kind s s' hp hs
  show Calls Tryz.prog 346 #[.pointer (some ⟨p, 0, none⟩)] w _
  have h0 := Cx.At.bare hp
  clear hp
  go_enter Tryz.func346, Tryz.ntmps346
  obtain ⟨u1, r2, r3⟩ := R.seq hs
  go_wp2_with fail
  refine (Cx.bump h0 r2).mono ?_
  rintro e w5 ⟨rfl, h4⟩
  clear h0
  clear r2
  go_wp2_with fail
  refine (Cx.list h4 r3 (actsC_fn _ .expr hI ent_expr True.intro (fun _ => rfl) rfl)).mono ?_
  rintro e w7 ⟨rfl, h6⟩
  clear h4
  clear r3
  go_wp2_with fail
  go_end0
  exact h6.post
set_option maxRecDepth 100000 in
set_option maxHeartbeats 1600000 in
theorem acts_ifExpr_1_1 {n : Nat} {p : Nat} {toks : List Tok} (hI : AllOk n p toks) (b0 : Nat) : ActsC n (Cmd.ite (.at [kIf]) (.call .ifExpr) (.call .block)) (Bx b0 (.pointer (some ⟨p, 0, none⟩))) 361 #[] #[.pointer (some ⟨b0, 0, none⟩)] p toks := by
  refine actsC_of (Bx.stays _ _) (ent_of Tryz.func361 (by kernel_rfl) (by kernel_rfl)) ?_
  intro low kind M0 w0 w s s' h0 hs
  show Calls Tryz.prog 361 #[.pointer (some ⟨b0, 0, none⟩)] w _
  have x0 := h0.bx (fun _ _ e => e)
  go_enter Tryz.func361, Tryz.ntmps361
  go_wp2_with fail
  refine (Cx.at1 h0 kIf (by simp)).mono ?_
  rintro e w3 ⟨rfl, h2⟩
  clear x0 h0
  have x0 := h2.bx (fun _ _ e => e)
  cases ht1 : atB [kIf] s.rest
  · have hsf := R.no hs ht1
    clear ht1 hs
    go_wp2_with fail
    refine (Cx.fn .block hI h2 hsf True.intro).mono ?_
    rintro e w5 ⟨rfl, h4⟩
    clear x0 h2
    have x0 := h4.bx (fun _ _ e => e)
    clear hsf
    go_wp2_with fail
    go_end0
    exact ⟨rfl, h4⟩
  · have hst := R.yes hs ht1
    clear ht1 hs
    go_wp2_with fail
    refine (Cx.fn .ifExpr hI h2 hst True.intro).mono ?_
    rintro e w7 ⟨rfl, h6⟩
    clear x0 h2
    have x0 := h6.bx (fun _ _ e => e)
    clear hst
    go_wp2_with fail
    go_end0
    exact ⟨rfl, h6⟩
set_option maxRecDepth 100000 in
set_option maxHeartbeats 1600000 in
theorem acts_ifExpr_1 {n : Nat} {p : Nat} {toks : List Tok} (hI : AllOk n p toks) (b0 : Nat) : ActsC n (Cmd.seq .bump (.seq (.call .expr) (.seq (.call .block) (Cmd.optional kElse (.ite (.at [kIf]) (.call .ifExpr) (.call .block)))))) (Bx b0 (.pointer (some ⟨p, 0, none⟩))) 360 #[] #[.pointer (some ⟨b0, 0, none⟩)] p toks := by
  refine actsC_of (Bx.stays _ _) (ent_of Tryz.func360 (by kernel_rfl) (by kernel_rfl)) ?_
  intro low kind M0 w0 w s s' h0 hs
  show Calls Tryz.prog 360 #[.pointer (some ⟨b0, 0, none⟩)] w _
  have x0 := h0.bx (fun _ _ e => e)
  go_enter Tryz.func360, Tryz.ntmps360
  obtain ⟨u1, r2, r3⟩ := R.seq hs
  obtain ⟨u4, r5, r6⟩ := R.seq r3
  obtain ⟨u7, r8, r9⟩ := R.seq r6
  go_wp2_with fail
  refine (Cx.bump h0 r2).mono ?_
  rintro e w11 ⟨rfl, h10⟩
  clear x0 h0
  have x0 := h10.bx (fun _ _ e => e)
  clear r2
  go_wp2_with fail
  refine (Cx.fn .expr hI h10 r5 True.intro).mono ?_
  rintro e w13 ⟨rfl, h12⟩
  clear x0 h10
  have x0 := h12.bx (fun _ _ e => e)
  clear r5
  go_wp2_with fail
  refine (Cx.fn .block hI h12 r8 True.intro).mono ?_
  rintro e w15 ⟨rfl, h14⟩
  clear x0 h12
  have x0 := h14.bx (fun _ _ e => e)
  clear r8
  go_wp2_with fail
  refine (Cx.optional h14 r9 (acts_ifExpr_1_1 hI (b0))).mono ?_
  rintro e w17 ⟨rfl, h16⟩
  clear x0 h14
  have x0 := h16.bx (fun _ _ e => e)
  clear r9
  go_wp2_with fail
  go_end0
  exact ⟨rfl, h16⟩
set_option maxRecDepth 100000 in
set_option maxHeartbeats 1600000 in
theorem fn_ifExpr {n : Nat} {p : Nat} {toks : List Tok} (hI : AllOk n p toks) : FnOk n p toks .ifExpr := by
  intro hd w M low kind s s' hp hs
  show Calls Tryz.prog 348 #[.pointer (some ⟨p, 0, none⟩)] w _
  have h0 := Cx.At.start hp (v := .pointer (some ⟨p, 0, none⟩)) (t := 174)
  clear hp
  have x0 := h0.bx (fun _ _ e => e)
  go_enter Tryz.func348, Tryz.ntmps348
  go_wp2_with fail
  refine (Cx.node h0 hs (acts_ifExpr_1 hI (w.heap.size))).mono ?_
  rintro e w2 ⟨rfl, h1⟩
  clear x0 h0
  have x0 := h1.bx (fun _ _ e => e)
  clear hs
  go_wp2_with fail
  go_end0
  exact h1.post
set_option maxRecDepth 100000 in
set_option maxHeartbeats 1600000 in
theorem acts_structLit_1_1 {n : Nat} {p : Nat} {toks : List Tok} (hI : AllOk n p toks) (b0 : Nat) : ActsC n (Cmd.seq .bump (.seq (Cmd.expect pColon) (.call .expr))) (Bx b0 (.pointer (some ⟨p, 0, none⟩))) 366 #[] #[.pointer (some ⟨b0, 0, none⟩)] p toks := by
  refine actsC_of (Bx.stays _ _) (ent_of Tryz.func366 (by kernel_rfl) (by kernel_rfl)) ?_
  intro low kind M0 w0 w s s' h0 hs
  show Calls Tryz.prog 366 #[.pointer (some ⟨b0, 0, none⟩)] w _
  have x0 := h0.bx (fun _ _ e => e)
  go_enter Tryz.func366, Tryz.ntmps366
  obtain ⟨u1, r2, r3⟩ := R.seq hs
  obtain ⟨u4, r5, r6⟩ := R.seq r3
  go_wp2_with fail
  refine (Cx.bump h0 r2).mono ?_
  rintro e w8 ⟨rfl, h7⟩
  clear x0 h0
  have x0 := h7.bx (fun _ _ e => e)
  clear r2
  go_wp2_with fail
  refine (Cx.expect h7 r5).mono ?_
  rintro e w10 ⟨rfl, h9⟩
  clear x0 h7
  have x0 := h9.bx (fun _ _ e => e)
  clear r5
  go_wp2_with fail
  refine (Cx.fn .expr hI h9 r6 True.intro).mono ?_
  rintro e w12 ⟨rfl, h11⟩
  clear x0 h9
  have x0 := h11.bx (fun _ _ e => e)
  clear r6
  go_wp2_with fail
  go_end0
  exact ⟨rfl, h11⟩
set_option maxRecDepth 100000 in
set_option maxHeartbeats 1600000 in
theorem acts_structLit_1 {n : Nat} {p : Nat} {toks : List Tok} (hI : AllOk n p toks) (b0 : Nat) : ActsC n (Cmd.ite Cmd.ident (.node 34 (.seq .bump (.seq (Cmd.expect pColon) (.call .expr)))) .skip) (Bx b0 (.pointer (some ⟨p, 0, none⟩))) 365 #[] #[.pointer (some ⟨b0, 0, none⟩)] p toks := by
  refine actsC_of (Bx.stays _ _) (ent_of Tryz.func365 (by kernel_rfl) (by kernel_rfl)) ?_
  intro low kind M0 w0 w s s' h0 hs
  show Calls Tryz.prog 365 #[.pointer (some ⟨b0, 0, none⟩)] w _
  have x0 := h0.bx (fun _ _ e => e)
  go_enter Tryz.func365, Tryz.ntmps365
  go_wp2_with fail
  refine (Cx.ident h0).mono ?_
  rintro e w3 ⟨rfl, h2⟩
  clear x0 h0
  have x0 := h2.bx (fun _ _ e => e)
  cases ht1 : (peekT s.rest).k == 103
  · have hsf := R.no hs ht1
    clear ht1 hs
    have h4 := h2.eq hsf.skip
    clear h2 hsf
    go_wp2_with fail
    go_end0
    exact ⟨rfl, h4⟩
  · have hst := R.yes hs ht1
    clear ht1 hs
    go_wp2_with fail
    refine (Cx.node h2 hst (acts_structLit_1_1 hI (b0))).mono ?_
    rintro e w6 ⟨rfl, h5⟩
    clear x0 h2
    have x0 := h5.bx (fun _ _ e => e)
    clear hst
    go_wp2_with fail
    go_end0
    exact ⟨rfl, h5⟩
set_option maxRecDepth 100000 in
set_option maxHeartbeats 1600000 in
theorem fn_structLit {n : Nat} {p : Nat} {toks : List Tok} (hI : AllOk n p toks) : FnOk n p toks .structLit := by
  intro hd w M low kind s s' hp hs
  show Calls Tryz.prog 350 #[.pointer (some ⟨p, 0, none⟩)] w _
  have h0 := Cx.At.start hp (v := .pointer (some ⟨p, 0, none⟩)) (t := 174)
  clear hp
  have x0 := h0.bx (fun _ _ e => e)
  go_enter Tryz.func350, Tryz.ntmps350
  obtain ⟨u1, r2, r3⟩ := R.seq hs
  obtain ⟨u4, r5, r6⟩ := R.seq r3
  obtain ⟨u7, r8, r9⟩ := R.seq r6
  go_wp2_with fail
  refine (Cx.bump h0 r2).mono ?_
  rintro e w11 ⟨rfl, h10⟩
  clear x0 h0
  have x0 := h10.bx (fun _ _ e => e)
  clear r2
  go_wp2_with fail
  refine (Cx.fn (.path false) hI h10 r5 True.intro).mono ?_
  rintro e w13 ⟨rfl, h12⟩
  clear x0 h10
  have x0 := h12.bx (fun _ _ e => e)
  clear r5
  go_wp2_with fail
  refine (Cx.expect h12 r8).mono ?_
  rintro e w15 ⟨rfl, h14⟩
  clear x0 h12
  have x0 := h14.bx (fun _ _ e => e)
  clear r8
  go_wp2_with fail
  refine (Cx.list h14 r9 (acts_structLit_1 hI (w.heap.size))).mono ?_
  rintro e w17 ⟨rfl, h16⟩
  clear x0 h14
  have x0 := h16.bx (fun _ _ e => e)
  clear r9
  go_wp2_with fail
  go_end0
  exact h16.post
set_option maxRecDepth 100000 in
set_option maxHeartbeats 1600000 in
theorem acts_lambda_1 {n : Nat} {p : Nat} {toks : List Tok} (hI : AllOk n p toks) : ActsC n (Cmd.skip) (fun _ _ => True) 367 #[] #[] p toks := by
  refine actsC_of (fun _ _ _ _ _ _ => True.intro) (ent_of Tryz.func367 (by kernel_rfl) (by kernel_rfl)) ?_
  intro low kind M0 w0 w s s' h0 hs
  show Calls Tryz.prog 367 #[] w _
  go_enter Tryz.func367, Tryz.ntmps367
  have h1 := h0.eq hs.skip
  clear h0 hs
  go_wp2_with fail
  go_end0
  exact ⟨rfl, h1⟩
set_option maxRecDepth 100000 in
set_option maxHeartbeats 1600000 in
theorem fn_lambda {n : Nat} {p : Nat} {toks : List Tok} (hI : AllOk n p toks) : FnOk n p toks .lambda := by
  intro hd w M low kind s s' hp hs
  show Calls Tryz.prog 351 #[.pointer (some ⟨p, 0, none⟩)] w _
  have h0 := Cx.At.bare hp
  clear hp
  go_enter Tryz.func351, Tryz.ntmps351
  obtain ⟨u1, r2, r3⟩ := R.seq hs
  go_wp2_with fail
  refine (Cx.at1 h0 pOr2 (by simp)).mono ?_
  rintro e w6 ⟨rfl, h5⟩
  clear h0
  cases ht4 : atB [pOr2] s.rest
  · have r2f := R.no r2 ht4
    clear ht4 r2
    obtain ⟨u7, r8, r9⟩ := R.seq r2f
    go_wp2_with fail
    refine (Cx.bump h5 r8).mono ?_
    rintro e w11 ⟨rfl, h10⟩
    clear h5
    clear r8
    go_wp2_with fail
    refine (Cx.fn (.params pBar) hI h10 r9 True.intro).mono ?_
    rintro e w13 ⟨rfl, h12⟩
    clear h10
    clear r9
    go_wp2_with fail
    refine (Cx.fn .expr hI h12 r3 True.intro).mono ?_
    rintro e w15 ⟨rfl, h14⟩
    clear h12
    clear r3
    go_wp2_with fail
    go_end0
    exact h14.post
  · have r2t := R.yes r2 ht4
    clear ht4 r2
    obtain ⟨u16, r17, r18⟩ := R.seq r2t
    go_wp2_with fail
    refine (Cx.bump h5 r17).mono ?_
    rintro e w20 ⟨rfl, h19⟩
    clear h5
    clear r17
    go_wp2_with fail
    refine (Cx.node h19 r18 (acts_lambda_1 hI )).mono ?_
    rintro e w22 ⟨rfl, h21⟩
    clear h19
    clear r18
    go_wp2_with fail
    refine (Cx.fn .expr hI h21 r3 True.intro).mono ?_
    rintro e w24 ⟨rfl, h23⟩
    clear h21
    clear r3
    go_wp2_with fail
    go_end0
    exact h23.post
set_option maxRecDepth 100000 in
set_option maxHeartbeats 1600000 in
theorem fn_expr {n : Nat} {p : Nat} {toks : List Tok} (hI : AllOk n p toks) : FnOk n p toks .expr := by
  intro hd w M low kind s s' hp hs
  show Calls Tryz.prog 218 #[.pointer (some ⟨p, 0, none⟩)] w _
  have h0 := Cx.At.bare hp
  clear hp
  go_enter Tryz.func218, Tryz.ntmps218
  go_wp2_with fail
  refine (Cx.fn (.binary 0) hI h0 hs (Nat.zero_le _)).mono ?_
  rintro e w2 ⟨rfl, h1⟩
  clear h0
  clear hs
  go_wp2_with fail
  go_end0
  exact h1.post
end Go.Proofs.YtpibenilagloaaaGreatDoor
