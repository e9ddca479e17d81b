import Derived.Test.YtpibenilagloaaaGreatDoorMxak
/-
  The parser's functions: the walks (printed by gen_walk.py).
-/
namespace Go.Proofs.YtpibenilagloaaaGreatDoor
open Go.RowKit
set_option linter.unusedVariables false

set_option maxRecDepth 100000 in
set_option maxHeartbeats 1600000 in
theorem acts_typeExpr_1 {n : Nat} {p : Nat} {toks : List Tok} (hI : AllOk n p toks) (b0 : Nat) : ActsC n (Cmd.seq .bump (.seq (Cmd.accept [kMut]) (.call .typeExpr))) (Bx b0 (.pointer (some ⟨p, 0, none⟩))) 273 #[] #[.pointer (some ⟨b0, 0, none⟩)] p toks := by
  refine actsC_of (Bx.stays _ _) (ent_of Tryz.func273 (by kernel_rfl) (by kernel_rfl)) ?_
  intro low kind M0 w0 w s s' h0 hs
  show Calls Tryz.prog 273 #[.pointer (some ⟨b0, 0, none⟩)] w _
  have x0 := h0.bx (fun _ _ e => e)
  go_enter Tryz.func273, Tryz.ntmps273
  obtain ⟨u1, r2, r3⟩ := R.seq hs
  obtain ⟨u4, r5, r6⟩ := R.seq r3
  go_wp2_with fail
  refine (Cx.bump h0 r2).mono ?_
  rintro e w8 ⟨rfl, h7⟩
  clear x0 h0
  have x0 := h7.bx (fun _ _ e => e)
  clear r2
  go_wp2_with fail
  refine (Cx.accept h7 r5 (by simp)).mono ?_
  rintro e w10 ⟨rfl, h9⟩
  clear x0 h7
  have x0 := h9.bx (fun _ _ e => e)
  clear r5
  go_wp2_with fail
  refine (Cx.fn .typeExpr hI h9 r6 True.intro).mono ?_
  rintro e w12 ⟨rfl, h11⟩
  clear x0 h9
  have x0 := h11.bx (fun _ _ e => e)
  clear r6
  go_wp2_with fail
  go_end0
  exact ⟨rfl, h11⟩

set_option maxRecDepth 100000 in
set_option maxHeartbeats 1600000 in
theorem acts_typeExpr_2 {n : Nat} {p : Nat} {toks : List Tok} (hI : AllOk n p toks) (b0 : Nat) : ActsC n (Cmd.seq .bump (.seq (Cmd.expect pLp) (.seq (Cmd.list pRp (.call .typeExpr)) (Cmd.optional pArr (.call .typeExpr))))) (Bx b0 (.pointer (some ⟨p, 0, none⟩))) 274 #[] #[.pointer (some ⟨b0, 0, none⟩)] p toks := by
  refine actsC_of (Bx.stays _ _) (ent_of Tryz.func274 (by kernel_rfl) (by kernel_rfl)) ?_
  intro low kind M0 w0 w s s' h0 hs
  show Calls Tryz.prog 274 #[.pointer (some ⟨b0, 0, none⟩)] w _
  have x0 := h0.bx (fun _ _ e => e)
  go_enter Tryz.func274, Tryz.ntmps274
  obtain ⟨u1, r2, r3⟩ := R.seq hs
  obtain ⟨u4, r5, r6⟩ := R.seq r3
  obtain ⟨u7, r8, r9⟩ := R.seq r6
  go_wp2_with fail
  refine (Cx.bump h0 r2).mono ?_
  rintro e w11 ⟨rfl, h10⟩
  clear x0 h0
  have x0 := h10.bx (fun _ _ e => e)
  clear r2
  go_wp2_with fail
  refine (Cx.expect h10 r5).mono ?_
  rintro e w13 ⟨rfl, h12⟩
  clear x0 h10
  have x0 := h12.bx (fun _ _ e => e)
  clear r5
  go_wp2_with fail
  refine (Cx.list h12 r8 (actsC_fn _ .typeExpr hI ent_typeExpr True.intro (fun _ => rfl) rfl)).mono ?_
  rintro e w15 ⟨rfl, h14⟩
  clear x0 h12
  have x0 := h14.bx (fun _ _ e => e)
  clear r8
  go_wp2_with fail
  refine (Cx.optional h14 r9 (actsC_fn _ .typeExpr hI ent_typeExpr True.intro (fun _ => rfl) rfl)).mono ?_
  rintro e w17 ⟨rfl, h16⟩
  clear x0 h14
  have x0 := h16.bx (fun _ _ e => e)
  clear r9
  go_wp2_with fail
  go_end0
  exact ⟨rfl, h16⟩

set_option maxRecDepth 100000 in
set_option maxHeartbeats 1600000 in
theorem fn_typeExpr {n : Nat} {p : Nat} {toks : List Tok} (hI : AllOk n p toks) : FnOk n p toks .typeExpr := by
  intro hd w M low kind s s' hp hs
  show Calls Tryz.prog 217 #[.pointer (some ⟨p, 0, none⟩)] w _
  have h0 := Cx.At.start hp (v := .pointer (some ⟨p, 0, none⟩)) (t := 174)
  clear hp
  have x0 := h0.bx (fun _ _ e => e)
  go_enter Tryz.func217, Tryz.ntmps217
  go_wp2_with fail
  refine (Cx.at1 h0 pAmp (by simp)).mono ?_
  rintro e w3 ⟨rfl, h2⟩
  clear x0 h0
  have x0 := h2.bx (fun _ _ e => e)
  cases ht1 : atB [pAmp] s.rest
  · have hsf := R.no hs ht1
    clear ht1 hs
    go_wp2_with fail
    refine (Cx.at1 h2 kFn (by simp)).mono ?_
    rintro e w6 ⟨rfl, h5⟩
    clear x0 h2
    have x0 := h5.bx (fun _ _ e => e)
    cases ht4 : atB [kFn] s.rest
    · have hsff := R.no hsf ht4
      clear ht4 hsf
      go_wp2_with fail
      refine (Cx.ident h5).mono ?_
      rintro e w9 ⟨rfl, h8⟩
      clear x0 h5
      have x0 := h8.bx (fun _ _ e => e)
      cases ht7 : (peekT s.rest).k == 103
      · have hsfff := R.no hsff ht7
        clear ht7 hsff
        go_wp2_with fail
        refine (Cx.missingNode h8 hsfff).mono ?_
        rintro e w11 ⟨rfl, h10⟩
        clear x0 h8
        have x0 := h10.bx (fun _ _ e => e)
        clear hsfff
        go_wp2_with fail
        go_end0
        exact h10.post
      · have hsfft := R.yes hsff ht7
        clear ht7 hsff
        go_wp2_with fail
        refine (Cx.fn (.path true) hI h8 hsfft True.intro).mono ?_
        rintro e w13 ⟨rfl, h12⟩
        clear x0 h8
        have x0 := h12.bx (fun _ _ e => e)
        clear hsfft
        go_wp2_with fail
        go_end0
        exact h12.post
    · have hsft := R.yes hsf ht4
      clear ht4 hsf
      go_wp2_with fail
      refine (Cx.node h5 hsft (acts_typeExpr_2 hI (w.heap.size))).mono ?_
      rintro e w15 ⟨rfl, h14⟩
      clear x0 h5
      have x0 := h14.bx (fun _ _ e => e)
      clear hsft
      go_wp2_with fail
      go_end0
      exact h14.post
  · have hst := R.yes hs ht1
    clear ht1 hs
    go_wp2_with fail
    refine (Cx.node h2 hst (acts_typeExpr_1 hI (w.heap.size))).mono ?_
    rintro e w17 ⟨rfl, h16⟩
    clear x0 h2
    have x0 := h16.bx (fun _ _ e => e)
    clear hst
    go_wp2_with fail
    go_end0
    exact h16.post

set_option maxRecDepth 100000 in
set_option maxHeartbeats 1600000 in
theorem acts_typeParams_1 {n : Nat} {p : Nat} {toks : List Tok} (hI : AllOk n p toks) (b0 : Nat) : ActsC n (Cmd.ite (.at [pLt]) (.seq .bump (Cmd.list pGt (.call .typeParam))) .skip) (Bx b0 (.pointer (some ⟨p, 0, none⟩))) 302 #[] #[.pointer (some ⟨b0, 0, none⟩)] p toks := by
  refine actsC_of (Bx.stays _ _) (ent_of Tryz.func302 (by kernel_rfl) (by kernel_rfl)) ?_
  intro low kind M0 w0 w s s' h0 hs
  show Calls Tryz.prog 302 #[.pointer (some ⟨b0, 0, none⟩)] w _
  have x0 := h0.bx (fun _ _ e => e)
  go_enter Tryz.func302, Tryz.ntmps302
  cases ht1 : atB [pLt] s.rest
  · have hsf := R.no hs ht1
    have ht1' := Lib.hid ht1
    clear ht1 hs
    go_wp2_with fail
    refine (Cx.acceptF h0 ht1'.out (by simp)).mono ?_
    rintro e w3 ⟨rfl, h2⟩
    clear x0 h0
    have x0 := h2.bx (fun _ _ e => e)
    have h4 := h2.eq hsf.skip
    clear h2 hsf
    go_wp2_with fail
    go_end0
    exact ⟨rfl, h4⟩
  · obtain ⟨u5, r6, r7⟩ := R.seq (R.yes hs ht1)
    have r6b := Lib.hid r6.bump
    have ht1' := Lib.hid ht1
    clear ht1 hs r6
    go_wp2_with fail
    refine (Cx.acceptT h0 ht1'.out r6b.out (by simp)).mono ?_
    rintro e w9 ⟨rfl, h8⟩
    clear x0 h0
    have x0 := h8.bx (fun _ _ e => e)
    go_wp2_with fail
    refine (Cx.list h8 r7 (actsC_fn _ .typeParam hI ent_typeParam True.intro (fun _ => rfl) rfl)).mono ?_
    rintro e w11 ⟨rfl, h10⟩
    clear x0 h8
    have x0 := h10.bx (fun _ _ e => e)
    clear r7
    go_wp2_with fail
    go_end0
    exact ⟨rfl, h10⟩

set_option maxRecDepth 100000 in
set_option maxHeartbeats 1600000 in
theorem fn_typeParams {n : Nat} {p : Nat} {toks : List Tok} (hI : AllOk n p toks) : FnOk n p toks .typeParams := by
  intro hd w M low kind s s' hp hs
  show Calls Tryz.prog 260 #[.pointer (some ⟨p, 0, none⟩)] w _
  have h0 := Cx.At.start hp (v := .pointer (some ⟨p, 0, none⟩)) (t := 174)
  clear hp
  have x0 := h0.bx (fun _ _ e => e)
  go_enter Tryz.func260, Tryz.ntmps260
  go_wp2_with fail
  refine (Cx.node h0 hs (acts_typeParams_1 hI (w.heap.size))).mono ?_
  rintro e w2 ⟨rfl, h1⟩
  clear x0 h0
  have x0 := h1.bx (fun _ _ e => e)
  clear hs
  go_wp2_with fail
  go_end0
  exact h1.post

set_option maxRecDepth 100000 in
set_option maxHeartbeats 1600000 in
theorem acts_typeParam_1 {n : Nat} {p : Nat} {toks : List Tok} (hI : AllOk n p toks) (b0 : Nat) : ActsC n (Cmd.seq .bump (.ite (.at [pColon]) (.seq .bump (.seq (.call (.path true)) (.loop (.at [pPlus]) (.seq .bump (.call (.path true)))))) .skip)) (Bx b0 (.pointer (some ⟨p, 0, none⟩))) 328 #[] #[.pointer (some ⟨b0, 0, none⟩)] p toks := by
  refine actsC_of (Bx.stays _ _) (ent_of Tryz.func328 (by kernel_rfl) (by kernel_rfl)) ?_
  intro low kind M0 w0 w s s' h0 hs
  show Calls Tryz.prog 328 #[.pointer (some ⟨b0, 0, none⟩)] w _
  have x0 := h0.bx (fun _ _ e => e)
  go_enter Tryz.func328, Tryz.ntmps328
  obtain ⟨u1, r2, r3⟩ := R.seq hs
  go_wp2_with fail
  refine (Cx.bump h0 r2).mono ?_
  rintro e w5 ⟨rfl, h4⟩
  clear x0 h0
  have x0 := h4.bx (fun _ _ e => e)
  clear r2
  cases ht6 : atB [pColon] u1.rest
  · have r3f := R.no r3 ht6
    have ht6' := Lib.hid ht6
    clear ht6 r3
    go_wp2_with fail
    refine (Cx.acceptF h4 ht6'.out (by simp)).mono ?_
    rintro e w8 ⟨rfl, h7⟩
    clear x0 h4
    have x0 := h7.bx (fun _ _ e => e)
    have h9 := h7.eq r3f.skip
    clear h7 r3f
    go_wp2_with fail
    go_end0
    exact ⟨rfl, h9⟩
  · obtain ⟨u10, r11, r12⟩ := R.seq (R.yes r3 ht6)
    have r11b := Lib.hid r11.bump
    have ht6' := Lib.hid ht6
    clear ht6 r3 r11
    go_wp2_with fail
    refine (Cx.acceptT h4 ht6'.out r11b.out (by simp)).mono ?_
    rintro e w14 ⟨rfl, h13⟩
    clear x0 h4
    have x0 := h13.bx (fun _ _ e => e)
    obtain ⟨u15, r16, r17⟩ := R.seq r12
    go_wp2_with fail
    refine (Cx.fn (.path true) hI h13 r16 True.intro).mono ?_
    rintro e w19 ⟨rfl, h18⟩
    clear x0 h13
    have x0 := h18.bx (fun _ _ e => e)
    clear r16
    obtain ⟨m20, hl21⟩ := R.loop r17
    go_wp2_with fail
    go_loopg [] m20 (fun gk wr => ∃ s1, (⟨(Bx b0 (.pointer (some ⟨p, 0, none⟩))), p, toks, low, kind, M0, w0⟩ : Cx).At wr s1 ∧ RL n gk (.at [pPlus]) (.seq .bump (.call (.path true))) s1 s')
    case atStart => exact ⟨_, h18, hl21⟩
    case round =>
      clear h18 hl21 r17 x0
      obtain ⟨s22, h28, hl21⟩ := hrel
      have x0 := h28.bx (fun _ _ e => e)
      cases ht29 : atB [pPlus] s22.rest
      · have z30 := Lib.hid (hl21.no ht29)
        have ht29' := Lib.hid ht29
        clear ht29 hl21
        go_wp2_with fail
        refine (Cx.acceptF h28 ht29'.out (by simp)).mono ?_
        rintro e w32 ⟨rfl, h31⟩
        clear x0 h28
        have x0 := h31.bx (fun _ _ e => e)
        go_wp2_with fail
        have h33 := h31.eq z30.out
        clear h31 z30
        go_wp2_with fail
        go_end0
        exact ⟨rfl, h33⟩
      · obtain ⟨k23, u24, hk25, hc26, hl27⟩ := hl21.yes ht29
        obtain ⟨u34, r35, r36⟩ := R.seq hc26
        have r35b := Lib.hid r35.bump
        have ht29' := Lib.hid ht29
        clear ht29 hl21 hc26 r35
        go_wp2_with fail
        refine (Cx.acceptT h28 ht29'.out r35b.out (by simp)).mono ?_
        rintro e w38 ⟨rfl, h37⟩
        clear x0 h28
        have x0 := h37.bx (fun _ _ e => e)
        go_wp2_with fail
        refine (Cx.fn (.path true) hI h37 r36 True.intro).mono ?_
        rintro e w40 ⟨rfl, h39⟩
        clear x0 h37
        have x0 := h39.bx (fun _ _ e => e)
        clear r36
        go_wp2_with fail
        go_roundg k23
        case rel => exact ⟨u24, h39, hl27⟩
        case measure => exact hk25

set_option maxRecDepth 100000 in
set_option maxHeartbeats 1600000 in
theorem fn_typeParam {n : Nat} {p : Nat} {toks : List Tok} (hI : AllOk n p toks) : FnOk n p toks .typeParam := by
  intro hd w M low kind s s' hp hs
  show Calls Tryz.prog 303 #[.pointer (some ⟨p, 0, none⟩)] w _
  have h0 := Cx.At.start hp (v := .pointer (some ⟨p, 0, none⟩)) (t := 174)
  clear hp
  have x0 := h0.bx (fun _ _ e => e)
  go_enter Tryz.func303, Tryz.ntmps303
  go_wp2_with fail
  refine (Cx.ident h0).mono ?_
  rintro e w3 ⟨rfl, h2⟩
  clear x0 h0
  have x0 := h2.bx (fun _ _ e => e)
  cases ht1 : (peekT s.rest).k == 103
  · have hsf := R.no hs ht1
    clear ht1 hs
    have h4 := h2.eq hsf.skip
    clear h2 hsf
    go_wp2_with fail
    go_end0
    exact h4.post
  · have hst := R.yes hs ht1
    clear ht1 hs
    go_wp2_with fail
    refine (Cx.node h2 hst (acts_typeParam_1 hI (w.heap.size))).mono ?_
    rintro e w6 ⟨rfl, h5⟩
    clear x0 h2
    have x0 := h5.bx (fun _ _ e => e)
    clear hst
    go_wp2_with fail
    go_end0
    exact h5.post
end Go.Proofs.YtpibenilagloaaaGreatDoor

/-
  The parser's functions: the walks (printed by gen_walk.py).
-/
namespace Go.Proofs.YtpibenilagloaaaGreatDoor
open Go.RowKit
set_option linter.unusedVariables false

set_option maxRecDepth 100000 in
set_option maxHeartbeats 1600000 in
theorem acts_params_1_1_1 {n : Nat} {p : Nat} {toks : List Tok} (hI : AllOk n p toks) (b0 : Nat) : ActsC n (Cmd.seq .bump (Cmd.optional pColon (.call .typeExpr))) (Bx b0 (.pointer (some ⟨p, 0, none⟩))) 280 #[] #[.pointer (some ⟨b0, 0, none⟩)] p toks := by
  refine actsC_of (Bx.stays _ _) (ent_of Tryz.func280 (by kernel_rfl) (by kernel_rfl)) ?_
  intro low kind M0 w0 w s s' h0 hs
  show Calls Tryz.prog 280 #[.pointer (some ⟨b0, 0, none⟩)] w _
  have x0 := h0.bx (fun _ _ e => e)
  go_enter Tryz.func280, Tryz.ntmps280
  obtain ⟨u1, r2, r3⟩ := R.seq hs
  go_wp2_with fail
  refine (Cx.bump h0 r2).mono ?_
  rintro e w5 ⟨rfl, h4⟩
  clear x0 h0
  have x0 := h4.bx (fun _ _ e => e)
  clear r2
  go_wp2_with fail
  refine (Cx.optional h4 r3 (actsC_fn _ .typeExpr hI ent_typeExpr True.intro (fun _ => rfl) rfl)).mono ?_
  rintro e w7 ⟨rfl, h6⟩
  clear x0 h4
  have x0 := h6.bx (fun _ _ e => e)
  clear r3
  go_wp2_with fail
  go_end0
  exact ⟨rfl, h6⟩

set_option maxRecDepth 100000 in
set_option maxHeartbeats 1600000 in
theorem acts_params_1_1 {n : Nat} {p : Nat} {toks : List Tok} (hI : AllOk n p toks) (b0 : Nat) : ActsC n (Cmd.ite Cmd.ident (.node 13 (.seq .bump (Cmd.optional pColon (.call .typeExpr)))) .skip) (Bx b0 (.pointer (some ⟨p, 0, none⟩))) 279 #[] #[.pointer (some ⟨b0, 0, none⟩)] p toks := by
  refine actsC_of (Bx.stays _ _) (ent_of Tryz.func279 (by kernel_rfl) (by kernel_rfl)) ?_
  intro low kind M0 w0 w s s' h0 hs
  show Calls Tryz.prog 279 #[.pointer (some ⟨b0, 0, none⟩)] w _
  have x0 := h0.bx (fun _ _ e => e)
  go_enter Tryz.func279, Tryz.ntmps279
  go_wp2_with fail
  refine (Cx.ident h0).mono ?_
  rintro e w3 ⟨rfl, h2⟩
  clear x0 h0
  have x0 := h2.bx (fun _ _ e => e)
  cases ht1 : (peekT s.rest).k == 103
  · have hsf := R.no hs ht1
    clear ht1 hs
    have h4 := h2.eq hsf.skip
    clear h2 hsf
    go_wp2_with fail
    go_end0
    exact ⟨rfl, h4⟩
  · have hst := R.yes hs ht1
    clear ht1 hs
    go_wp2_with fail
    refine (Cx.node h2 hst (acts_params_1_1_1 hI (b0))).mono ?_
    rintro e w6 ⟨rfl, h5⟩
    clear x0 h2
    have x0 := h5.bx (fun _ _ e => e)
    clear hst
    go_wp2_with fail
    go_end0
    exact ⟨rfl, h5⟩

set_option maxRecDepth 100000 in
set_option maxHeartbeats 1600000 in
theorem acts_params_1 {n : Nat} {p : Nat} {toks : List Tok} (hI : AllOk n p toks) (closing : ByteArray) (b0 : Nat) (b1 : Nat) : ActsC n (Cmd.list closing (.ite Cmd.ident (.node 13 (.seq .bump (Cmd.optional pColon (.call .typeExpr)))) .skip)) (And2 (Bx b0 (.pointer (some ⟨p, 0, none⟩))) (Bx b1 (.string closing))) 278 #[] #[.pointer (some ⟨b0, 0, none⟩), .pointer (some ⟨b1, 0, none⟩)] p toks := by
  refine actsC_of (And2.stays (Bx.stays _ _) (Bx.stays _ _)) (ent_of Tryz.func278 (by kernel_rfl) (by kernel_rfl)) ?_
  intro low kind M0 w0 w s s' h0 hs
  show Calls Tryz.prog 278 #[.pointer (some ⟨b0, 0, none⟩), .pointer (some ⟨b1, 0, none⟩)] w _
  have x0 := h0.bx (fun _ _ e => e.1)
  have x1 := h0.bx (fun _ _ e => e.2)
  go_enter Tryz.func278, Tryz.ntmps278
  go_wp2_with fail
  refine (Cx.list h0 hs ((acts_params_1_1 hI (b0)).weak (fun _ _ e => e.1))).mono ?_
  rintro e w2 ⟨rfl, h1⟩
  clear x0 x1 h0
  have x0 := h1.bx (fun _ _ e => e.1)
  have x1 := h1.bx (fun _ _ e => e.2)
  clear hs
  go_wp2_with fail
  go_end0
  exact ⟨rfl, h1⟩

set_option maxRecDepth 100000 in
set_option maxHeartbeats 1600000 in
theorem fn_params {n : Nat} {p : Nat} {toks : List Tok} (hI : AllOk n p toks) (closing : ByteArray) : FnOk n p toks (.params closing) := by
  intro hd w M low kind s s' hp hs
  show Calls Tryz.prog 219 #[.pointer (some ⟨p, 0, none⟩), .string closing] w _
  have h0 := Cx.At.start hp (v := .pointer (some ⟨p, 0, none⟩)) (t := 174)
  replace h0 := h0.box (v := .string closing) (t := 9) (n := w.heap.size + 1) (by simp)
  clear hp
  have x0 := h0.bx (fun _ _ e => e.1)
  have x1 := h0.bx (fun _ _ e => e.2)
  go_enter Tryz.func219, Tryz.ntmps219
  go_wp2_with fail
  refine (Cx.node h0 hs (acts_params_1 hI closing (w.heap.size) (w.heap.size + 1))).mono ?_
  rintro e w2 ⟨rfl, h1⟩
  clear x0 x1 h0
  have x0 := h1.bx (fun _ _ e => e.1)
  have x1 := h1.bx (fun _ _ e => e.2)
  clear hs
  go_wp2_with fail
  go_end0
  exact h1.post

set_option maxRecDepth 100000 in
set_option maxHeartbeats 1600000 in
theorem fn_functionT {n : Nat} {p : Nat} {toks : List Tok} (hI : AllOk n p toks) : FnOk n p toks (.function true) := by
  intro hd w M low kind s s' hp hs
  show Calls Tryz.prog 211 #[.pointer (some ⟨p, 0, none⟩), .bool true] w _
  have h0 := Cx.At.bare hp
  clear hp
  go_enter Tryz.func211, Tryz.ntmps211
  obtain ⟨u1, r2, r3⟩ := R.seq hs
  obtain ⟨u4, r5, r6⟩ := R.seq r3
  obtain ⟨u7, r8, r9⟩ := R.seq r6
  obtain ⟨u10, r11, r12⟩ := R.seq r9
  obtain ⟨u13, r14, r15⟩ := R.seq r12
  go_wp2_with fail
  refine (Cx.expectIdent h0 r2).mono ?_
  rintro e w17 ⟨rfl, h16⟩
  clear h0
  clear r2
  go_wp2_with fail
  refine (Cx.fn .typeParams hI h16 r5 True.intro).mono ?_
  rintro e w19 ⟨rfl, h18⟩
  clear h16
  clear r5
  go_wp2_with fail
  refine (Cx.expect h18 r8).mono ?_
  rintro e w21 ⟨rfl, h20⟩
  clear h18
  clear r8
  go_wp2_with fail
  refine (Cx.fn (.params pRp) hI h20 r11 True.intro).mono ?_
  rintro e w23 ⟨rfl, h22⟩
  clear h20
  clear r11
  go_wp2_with fail
  refine (Cx.optional h22 r14 (actsC_fn _ .typeExpr hI ent_typeExpr True.intro (fun _ => rfl) rfl)).mono ?_
  rintro e w25 ⟨rfl, h24⟩
  clear h22
  clear r14
  go_wp2_with fail
  refine (Cx.fn .block hI h24 r15 True.intro).mono ?_
  rintro e w27 ⟨rfl, h26⟩
  clear h24
  clear r15
  go_wp2_with fail
  go_end0
  exact h26.post

set_option maxRecDepth 100000 in
set_option maxHeartbeats 1600000 in
theorem fn_functionF {n : Nat} {p : Nat} {toks : List Tok} (hI : AllOk n p toks) : FnOk n p toks (.function false) := by
  intro hd w M low kind s s' hp hs
  show Calls Tryz.prog 211 #[.pointer (some ⟨p, 0, none⟩), .bool false] w _
  have h0 := Cx.At.bare hp
  clear hp
  go_enter Tryz.func211, Tryz.ntmps211
  obtain ⟨u1, r2, r3⟩ := R.seq hs
  obtain ⟨u4, r5, r6⟩ := R.seq r3
  obtain ⟨u7, r8, r9⟩ := R.seq r6
  obtain ⟨u10, r11, r12⟩ := R.seq r9
  obtain ⟨u13, r14, r15⟩ := R.seq r12
  go_wp2_with fail
  refine (Cx.expectIdent h0 r2).mono ?_
  rintro e w17 ⟨rfl, h16⟩
  clear h0
  clear r2
  go_wp2_with fail
  refine (Cx.fn .typeParams hI h16 r5 True.intro).mono ?_
  rintro e w19 ⟨rfl, h18⟩
  clear h16
  clear r5
  go_wp2_with fail
  refine (Cx.expect h18 r8).mono ?_
  rintro e w21 ⟨rfl, h20⟩
  clear h18
  clear r8
  go_wp2_with fail
  refine (Cx.fn (.params pRp) hI h20 r11 True.intro).mono ?_
  rintro e w23 ⟨rfl, h22⟩
  clear h20
  clear r11
  go_wp2_with fail
  refine (Cx.optional h22 r14 (actsC_fn _ .typeExpr hI ent_typeExpr True.intro (fun _ => rfl) rfl)).mono ?_
  rintro e w25 ⟨rfl, h24⟩
  clear h22
  clear r14
  cases ht26 : atB [pSemi] u13.rest
  · have r15f := R.no r15 ht26
    have ht26' := Lib.hid ht26
    clear ht26 r15
    go_wp2_with fail
    refine (Cx.acceptF h24 ht26'.out (by simp)).mono ?_
    rintro e w28 ⟨rfl, h27⟩
    clear h24
    go_wp2_with fail
    refine (Cx.fn .block hI h27 r15f True.intro).mono ?_
    rintro e w30 ⟨rfl, h29⟩
    clear h27
    clear r15f
    go_wp2_with fail
    go_end0
    exact h29.post
  · obtain ⟨u31, r32, r33⟩ := R.seq (R.yes r15 ht26)
    have r32b := Lib.hid r32.bump
    have ht26' := Lib.hid ht26
    clear ht26 r15 r32
    go_wp2_with fail
    refine (Cx.acceptT h24 ht26'.out r32b.out (by simp)).mono ?_
    rintro e w35 ⟨rfl, h34⟩
    clear h24
    go_wp2_with fail
    refine (Cx.absent h34 r33).mono ?_
    rintro e w37 ⟨rfl, h36⟩
    clear h34
    clear r33
    go_wp2_with fail
    go_end0
    exact h36.post
end Go.Proofs.YtpibenilagloaaaGreatDoor

/-
  The parser's functions: the walks (printed by gen_walk.py).
-/
namespace Go.Proofs.YtpibenilagloaaaGreatDoor
open Go.RowKit
set_option linter.unusedVariables false

set_option maxRecDepth 100000 in
set_option maxHeartbeats 1600000 in
theorem acts_dataType_1_1 {n : Nat} {p : Nat} {toks : List Tok} (hI : AllOk n p toks) (b0 : Nat) : ActsC n (Cmd.seq .bump (.seq (Cmd.expect pColon) (.call .typeExpr))) (Bx b0 (.pointer (some ⟨p, 0, none⟩))) 267 #[] #[.pointer (some ⟨b0, 0, none⟩)] p toks := by
  refine actsC_of (Bx.stays _ _) (ent_of Tryz.func267 (by kernel_rfl) (by kernel_rfl)) ?_
  intro low kind M0 w0 w s s' h0 hs
  show Calls Tryz.prog 267 #[.pointer (some ⟨b0, 0, none⟩)] w _
  have x0 := h0.bx (fun _ _ e => e)
  go_enter Tryz.func267, Tryz.ntmps267
  obtain ⟨u1, r2, r3⟩ := R.seq hs
  obtain ⟨u4, r5, r6⟩ := R.seq r3
  go_wp2_with fail
  refine (Cx.bump h0 r2).mono ?_
  rintro e w8 ⟨rfl, h7⟩
  clear x0 h0
  have x0 := h7.bx (fun _ _ e => e)
  clear r2
  go_wp2_with fail
  refine (Cx.expect h7 r5).mono ?_
  rintro e w10 ⟨rfl, h9⟩
  clear x0 h7
  have x0 := h9.bx (fun _ _ e => e)
  clear r5
  go_wp2_with fail
  refine (Cx.fn .typeExpr hI h9 r6 True.intro).mono ?_
  rintro e w12 ⟨rfl, h11⟩
  clear x0 h9
  have x0 := h11.bx (fun _ _ e => e)
  clear r6
  go_wp2_with fail
  go_end0
  exact ⟨rfl, h11⟩

set_option maxRecDepth 100000 in
set_option maxHeartbeats 1600000 in
theorem acts_dataType_1_2 {n : Nat} {p : Nat} {toks : List Tok} (hI : AllOk n p toks) (b0 : Nat) : ActsC n (Cmd.seq .bump (.ite (.at [pLp]) (.seq .bump (Cmd.list pRp (.call .typeExpr))) .skip)) (Bx b0 (.pointer (some ⟨p, 0, none⟩))) 268 #[] #[.pointer (some ⟨b0, 0, none⟩)] p toks := by
  refine actsC_of (Bx.stays _ _) (ent_of Tryz.func268 (by kernel_rfl) (by kernel_rfl)) ?_
  intro low kind M0 w0 w s s' h0 hs
  show Calls Tryz.prog 268 #[.pointer (some ⟨b0, 0, none⟩)] w _
  have x0 := h0.bx (fun _ _ e => e)
  go_enter Tryz.func268, Tryz.ntmps268
  obtain ⟨u1, r2, r3⟩ := R.seq hs
  go_wp2_with fail
  refine (Cx.bump h0 r2).mono ?_
  rintro e w5 ⟨rfl, h4⟩
  clear x0 h0
  have x0 := h4.bx (fun _ _ e => e)
  clear r2
  cases ht6 : atB [pLp] u1.rest
  · have r3f := R.no r3 ht6
    have ht6' := Lib.hid ht6
    clear ht6 r3
    go_wp2_with fail
    refine (Cx.acceptF h4 ht6'.out (by simp)).mono ?_
    rintro e w8 ⟨rfl, h7⟩
    clear x0 h4
    have x0 := h7.bx (fun _ _ e => e)
    have h9 := h7.eq r3f.skip
    clear h7 r3f
    go_wp2_with fail
    go_end0
    exact ⟨rfl, h9⟩
  · obtain ⟨u10, r11, r12⟩ := R.seq (R.yes r3 ht6)
    have r11b := Lib.hid r11.bump
    have ht6' := Lib.hid ht6
    clear ht6 r3 r11
    go_wp2_with fail
    refine (Cx.acceptT h4 ht6'.out r11b.out (by simp)).mono ?_
    rintro e w14 ⟨rfl, h13⟩
    clear x0 h4
    have x0 := h13.bx (fun _ _ e => e)
    go_wp2_with fail
    refine (Cx.list h13 r12 (actsC_fn _ .typeExpr hI ent_typeExpr True.intro (fun _ => rfl) rfl)).mono ?_
    rintro e w16 ⟨rfl, h15⟩
    clear x0 h13
    have x0 := h15.bx (fun _ _ e => e)
    clear r12
    go_wp2_with fail
    go_end0
    exact ⟨rfl, h15⟩

set_option maxRecDepth 100000 in
set_option maxHeartbeats 1600000 in
theorem acts_dataType_1_k4 {n : Nat} {p : Nat} {toks : List Tok} (hI : AllOk n p toks) (b0 : Nat) (b1 : Nat) : ActsC n (Cmd.ite Cmd.ident (.node 14 (.seq .bump (.seq (Cmd.expect pColon) (.call .typeExpr)))) .skip) (And2 (Bx b0 (.pointer (some ⟨p, 0, none⟩))) (Bx b1 (.int .i64 4))) 265 #[] #[.pointer (some ⟨b0, 0, none⟩), .pointer (some ⟨b1, 0, none⟩)] p toks := by
  refine actsC_of (And2.stays (Bx.stays _ _) (Bx.stays _ _)) (ent_of Tryz.func265 (by kernel_rfl) (by kernel_rfl)) ?_
  intro low kind M0 w0 w s s' h0 hs
  show Calls Tryz.prog 265 #[.pointer (some ⟨b0, 0, none⟩), .pointer (some ⟨b1, 0, none⟩)] w _
  have x0 := h0.bx (fun _ _ e => e.1)
  have x1 := h0.bx (fun _ _ e => e.2)
  go_enter Tryz.func265, Tryz.ntmps265
  go_wp2_with fail
  refine (Cx.ident h0).mono ?_
  rintro e w3 ⟨rfl, h2⟩
  clear x0 x1 h0
  have x0 := h2.bx (fun _ _ e => e.1)
  have x1 := h2.bx (fun _ _ e => e.2)
  cases ht1 : (peekT s.rest).k == 103
  · have hsf := R.no hs ht1
    clear ht1 hs
    have h4 := h2.eq hsf.skip
    clear h2 hsf
    go_wp2_with fail
    go_end0
    exact ⟨rfl, h4⟩
  · have hst := R.yes hs ht1
    clear ht1 hs
    go_wp2_with fail
    refine (Cx.node h2 hst ((acts_dataType_1_1 hI (b0)).weak (fun _ _ e => e.1))).mono ?_
    rintro e w6 ⟨rfl, h5⟩
    clear x0 x1 h2
    have x0 := h5.bx (fun _ _ e => e.1)
    have x1 := h5.bx (fun _ _ e => e.2)
    clear hst
    go_wp2_with fail
    go_end0
    exact ⟨rfl, h5⟩

set_option maxRecDepth 100000 in
set_option maxHeartbeats 1600000 in
theorem fn_dataType4 {n : Nat} {p : Nat} {toks : List Tok} (hI : AllOk n p toks) : FnOk n p toks (.dataType 4) := by
  intro hd w M low kind s s' hp hs
  show Calls Tryz.prog 212 #[.pointer (some ⟨p, 0, none⟩), .int .i64 4] w _
  have h0 := Cx.At.start hp (v := .pointer (some ⟨p, 0, none⟩)) (t := 174)
  replace h0 := h0.box (v := .int .i64 4) (t := 3) (n := w.heap.size + 1) (by simp)
  clear hp
  have x0 := h0.bx (fun _ _ e => e.1)
  have x1 := h0.bx (fun _ _ e => e.2)
  go_enter Tryz.func212, Tryz.ntmps212
  obtain ⟨u1, r2, r3⟩ := R.seq hs
  obtain ⟨u4, r5, r6⟩ := R.seq r3
  obtain ⟨u7, r8, r9⟩ := R.seq r6
  go_wp2_with fail
  refine (Cx.expectIdent h0 r2).mono ?_
  rintro e w11 ⟨rfl, h10⟩
  clear x0 x1 h0
  have x0 := h10.bx (fun _ _ e => e.1)
  have x1 := h10.bx (fun _ _ e => e.2)
  clear r2
  go_wp2_with fail
  refine (Cx.fn .typeParams hI h10 r5 True.intro).mono ?_
  rintro e w13 ⟨rfl, h12⟩
  clear x0 x1 h10
  have x0 := h12.bx (fun _ _ e => e.1)
  have x1 := h12.bx (fun _ _ e => e.2)
  clear r5
  go_wp2_with fail
  refine (Cx.expect h12 r8).mono ?_
  rintro e w15 ⟨rfl, h14⟩
  clear x0 x1 h12
  have x0 := h14.bx (fun _ _ e => e.1)
  have x1 := h14.bx (fun _ _ e => e.2)
  clear r8
  go_wp2_with fail
  refine (Cx.list h14 r9 (acts_dataType_1_k4 hI (w.heap.size) (w.heap.size + 1))).mono ?_
  rintro e w17 ⟨rfl, h16⟩
  clear x0 x1 h14
  have x0 := h16.bx (fun _ _ e => e.1)
  have x1 := h16.bx (fun _ _ e => e.2)
  clear r9
  go_wp2_with fail
  go_end0
  exact h16.post

set_option maxRecDepth 100000 in
set_option maxHeartbeats 1600000 in
theorem acts_dataType_1_k5 {n : Nat} {p : Nat} {toks : List Tok} (hI : AllOk n p toks) (b0 : Nat) (b1 : Nat) : ActsC n (Cmd.ite Cmd.ident (.node 15 (.seq .bump (.ite (.at [pLp]) (.seq .bump (Cmd.list pRp (.call .typeExpr))) .skip))) .skip) (And2 (Bx b0 (.pointer (some ⟨p, 0, none⟩))) (Bx b1 (.int .i64 5))) 265 #[] #[.pointer (some ⟨b0, 0, none⟩), .pointer (some ⟨b1, 0, none⟩)] p toks := by
  refine actsC_of (And2.stays (Bx.stays _ _) (Bx.stays _ _)) (ent_of Tryz.func265 (by kernel_rfl) (by kernel_rfl)) ?_
  intro low kind M0 w0 w s s' h0 hs
  show Calls Tryz.prog 265 #[.pointer (some ⟨b0, 0, none⟩), .pointer (some ⟨b1, 0, none⟩)] w _
  have x0 := h0.bx (fun _ _ e => e.1)
  have x1 := h0.bx (fun _ _ e => e.2)
  go_enter Tryz.func265, Tryz.ntmps265
  go_wp2_with fail
  refine (Cx.ident h0).mono ?_
  rintro e w3 ⟨rfl, h2⟩
  clear x0 x1 h0
  have x0 := h2.bx (fun _ _ e => e.1)
  have x1 := h2.bx (fun _ _ e => e.2)
  cases ht1 : (peekT s.rest).k == 103
  · have hsf := R.no hs ht1
    clear ht1 hs
    have h4 := h2.eq hsf.skip
    clear h2 hsf
    go_wp2_with fail
    go_end0
    exact ⟨rfl, h4⟩
  · have hst := R.yes hs ht1
    clear ht1 hs
    go_wp2_with fail
    refine (Cx.node h2 hst ((acts_dataType_1_2 hI (b0)).weak (fun _ _ e => e.1))).mono ?_
    rintro e w6 ⟨rfl, h5⟩
    clear x0 x1 h2
    have x0 := h5.bx (fun _ _ e => e.1)
    have x1 := h5.bx (fun _ _ e => e.2)
    clear hst
    go_wp2_with fail
    go_end0
    exact ⟨rfl, h5⟩

set_option maxRecDepth 100000 in
set_option maxHeartbeats 1600000 in
theorem fn_dataType5 {n : Nat} {p : Nat} {toks : List Tok} (hI : AllOk n p toks) : FnOk n p toks (.dataType 5) := by
  intro hd w M low kind s s' hp hs
  show Calls Tryz.prog 212 #[.pointer (some ⟨p, 0, none⟩), .int .i64 5] w _
  have h0 := Cx.At.start hp (v := .pointer (some ⟨p, 0, none⟩)) (t := 174)
  replace h0 := h0.box (v := .int .i64 5) (t := 3) (n := w.heap.size + 1) (by simp)
  clear hp
  have x0 := h0.bx (fun _ _ e => e.1)
  have x1 := h0.bx (fun _ _ e => e.2)
  go_enter Tryz.func212, Tryz.ntmps212
  obtain ⟨u1, r2, r3⟩ := R.seq hs
  obtain ⟨u4, r5, r6⟩ := R.seq r3
  obtain ⟨u7, r8, r9⟩ := R.seq r6
  go_wp2_with fail
  refine (Cx.expectIdent h0 r2).mono ?_
  rintro e w11 ⟨rfl, h10⟩
  clear x0 x1 h0
  have x0 := h10.bx (fun _ _ e => e.1)
  have x1 := h10.bx (fun _ _ e => e.2)
  clear r2
  go_wp2_with fail
  refine (Cx.fn .typeParams hI h10 r5 True.intro).mono ?_
  rintro e w13 ⟨rfl, h12⟩
  clear x0 x1 h10
  have x0 := h12.bx (fun _ _ e => e.1)
  have x1 := h12.bx (fun _ _ e => e.2)
  clear r5
  go_wp2_with fail
  refine (Cx.expect h12 r8).mono ?_
  rintro e w15 ⟨rfl, h14⟩
  clear x0 x1 h12
  have x0 := h14.bx (fun _ _ e => e.1)
  have x1 := h14.bx (fun _ _ e => e.2)
  clear r8
  go_wp2_with fail
  refine (Cx.list h14 r9 (acts_dataType_1_k5 hI (w.heap.size) (w.heap.size + 1))).mono ?_
  rintro e w17 ⟨rfl, h16⟩
  clear x0 x1 h14
  have x0 := h16.bx (fun _ _ e => e.1)
  have x1 := h16.bx (fun _ _ e => e.2)
  clear r9
  go_wp2_with fail
  go_end0
  exact h16.post

set_option maxRecDepth 100000 in
set_option maxHeartbeats 1600000 in
theorem acts_members_1 {n : Nat} {p : Nat} {toks : List Tok} (hI : AllOk n p toks) (b0 : Nat) : ActsC n (Cmd.seq .bump (.call (.function false))) (Bx b0 (.pointer (some ⟨p, 0, none⟩))) 270 #[] #[.pointer (some ⟨b0, 0, none⟩)] p toks := by
  refine actsC_of (Bx.stays _ _) (ent_of Tryz.func270 (by kernel_rfl) (by kernel_rfl)) ?_
  intro low kind M0 w0 w s s' h0 hs
  show Calls Tryz.prog 270 #[.pointer (some ⟨b0, 0, none⟩)] w _
  have x0 := h0.bx (fun _ _ e => e)
  go_enter Tryz.func270, Tryz.ntmps270
  obtain ⟨u1, r2, r3⟩ := R.seq hs
  go_wp2_with fail
  refine (Cx.bump h0 r2).mono ?_
  rintro e w5 ⟨rfl, h4⟩
  clear x0 h0
  have x0 := h4.bx (fun _ _ e => e)
  clear r2
  go_wp2_with fail
  refine (Cx.fn (.function false) hI h4 r3 True.intro).mono ?_
  rintro e w7 ⟨rfl, h6⟩
  clear x0 h4
  have x0 := h6.bx (fun _ _ e => e)
  clear r3
  go_wp2_with fail
  go_end0
  exact ⟨rfl, h6⟩

set_option maxRecDepth 100000 in
set_option maxHeartbeats 1600000 in
theorem acts_members_2 {n : Nat} {p : Nat} {toks : List Tok} (hI : AllOk n p toks) (b0 : Nat) : ActsC n (Cmd.seq .bump (.seq Cmd.expectIdent (.seq (Cmd.optional pEq (.call .typeExpr)) (Cmd.expect pSemi)))) (Bx b0 (.pointer (some ⟨p, 0, none⟩))) 271 #[] #[.pointer (some ⟨b0, 0, none⟩)] p toks := by
  refine actsC_of (Bx.stays _ _) (ent_of Tryz.func271 (by kernel_rfl) (by kernel_rfl)) ?_
  intro low kind M0 w0 w s s' h0 hs
  show Calls Tryz.prog 271 #[.pointer (some ⟨b0, 0, none⟩)] w _
  have x0 := h0.bx (fun _ _ e => e)
  go_enter Tryz.func271, Tryz.ntmps271
  obtain ⟨u1, r2, r3⟩ := R.seq hs
  obtain ⟨u4, r5, r6⟩ := R.seq r3
  obtain ⟨u7, r8, r9⟩ := R.seq r6
  go_wp2_with fail
  refine (Cx.bump h0 r2).mono ?_
  rintro e w11 ⟨rfl, h10⟩
  clear x0 h0
  have x0 := h10.bx (fun _ _ e => e)
  clear r2
  go_wp2_with fail
  refine (Cx.expectIdent h10 r5).mono ?_
  rintro e w13 ⟨rfl, h12⟩
  clear x0 h10
  have x0 := h12.bx (fun _ _ e => e)
  clear r5
  go_wp2_with fail
  refine (Cx.optional h12 r8 (actsC_fn _ .typeExpr hI ent_typeExpr True.intro (fun _ => rfl) rfl)).mono ?_
  rintro e w15 ⟨rfl, h14⟩
  clear x0 h12
  have x0 := h14.bx (fun _ _ e => e)
  clear r8
  go_wp2_with fail
  refine (Cx.expect h14 r9).mono ?_
  rintro e w17 ⟨rfl, h16⟩
  clear x0 h14
  have x0 := h16.bx (fun _ _ e => e)
  clear r9
  go_wp2_with fail
  go_end0
  exact ⟨rfl, h16⟩

set_option maxRecDepth 100000 in
set_option maxHeartbeats 1600000 in
theorem fn_members {n : Nat} {p : Nat} {toks : List Tok} (hI : AllOk n p toks) : FnOk n p toks .members := by
  intro hd w M low kind s s' hp hs
  show Calls Tryz.prog 214 #[.pointer (some ⟨p, 0, none⟩)] w _
  have h0 := Cx.At.start hp (v := .pointer (some ⟨p, 0, none⟩)) (t := 174)
  clear hp
  have x0 := h0.bx (fun _ _ e => e)
  go_enter Tryz.func214, Tryz.ntmps214
  obtain ⟨u1, r2, r3⟩ := R.seq hs
  obtain ⟨u4, r5, r6⟩ := R.seq r3
  go_wp2_with fail
  refine (Cx.expect h0 r2).mono ?_
  rintro e w8 ⟨rfl, h7⟩
  clear x0 h0
  have x0 := h7.bx (fun _ _ e => e)
  clear r2
  obtain ⟨m9, hl10⟩ := R.loop r5
  go_wp2_with fail
  go_loopg [] m9 (fun gk wr => ∃ s1, (⟨(Bx w.heap.size (.pointer (some ⟨p, 0, none⟩))), p, toks, low, kind, M, w⟩ : Cx).At wr s1 ∧ RL n gk (.at [kType, kFn]) (.ite (.at [kFn]) (.node 3 (.seq .bump (.call (.function false)))) (.node 16 (.seq .bump (.seq Cmd.expectIdent (.seq (Cmd.optional pEq (.call .typeExpr)) (Cmd.expect pSemi)))))) s1 u4)
  case atStart => exact ⟨_, h7, hl10⟩
  case round =>
    clear h7 hl10 r5 x0
    obtain ⟨s11, h17, hl10⟩ := hrel
    have x0 := h17.bx (fun _ _ e => e)
    go_wp2_with fail
    refine (Cx.at2 h17 kType kFn (by simp)).mono ?_
    rintro e w21 ⟨rfl, h20⟩
    clear x0 h17
    have x0 := h20.bx (fun _ _ e => e)
    cases ht18 : atB [kType, kFn] s11.rest
    · have z19 := Lib.hid (hl10.no ht18)
      clear ht18 hl10
      go_wp2_with fail
      have h22 := h20.eq z19.out
      clear h20 z19
      go_wp2_with fail
      refine (Cx.expect h22 r6).mono ?_
      rintro e w24 ⟨rfl, h23⟩
      clear x0 h22
      have x0 := h23.bx (fun _ _ e => e)
      clear r6
      go_wp2_with fail
      go_end0
      exact h23.post
    · obtain ⟨k12, u13, hk14, hc15, hl16⟩ := hl10.yes ht18
      clear ht18 hl10
      go_wp2_with fail
      refine (Cx.at1 h20 kFn (by simp)).mono ?_
      rintro e w27 ⟨rfl, h26⟩
      clear x0 h20
      have x0 := h26.bx (fun _ _ e => e)
      cases ht25 : atB [kFn] s11.rest
      · have hc15f := R.no hc15 ht25
        clear ht25 hc15
        go_wp2_with fail
        refine (Cx.node h26 hc15f (acts_members_2 hI (w.heap.size))).mono ?_
        rintro e w29 ⟨rfl, h28⟩
        clear x0 h26
        have x0 := h28.bx (fun _ _ e => e)
        clear hc15f
        go_wp2_with fail
        go_roundg k12
        case rel => exact ⟨u13, h28, hl16⟩
        case measure => exact hk14
      · have hc15t := R.yes hc15 ht25
        clear ht25 hc15
        go_wp2_with fail
        refine (Cx.node h26 hc15t (acts_members_1 hI (w.heap.size))).mono ?_
        rintro e w31 ⟨rfl, h30⟩
        clear x0 h26
        have x0 := h30.bx (fun _ _ e => e)
        clear hc15t
        go_wp2_with fail
        go_roundg k12
        case rel => exact ⟨u13, h30, hl16⟩
        case measure => exact hk14
end Go.Proofs.YtpibenilagloaaaGreatDoor
