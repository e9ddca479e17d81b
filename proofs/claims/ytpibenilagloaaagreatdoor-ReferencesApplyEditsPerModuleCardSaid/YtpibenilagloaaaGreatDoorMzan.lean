import Derived.Test.YtpibenilagloaaaGreatDoorMzam
namespace Go.Proofs.YtpibenilagloaaaGreatDoor
open Go.RowKit
set_option linter.unusedVariables false
def patT : Test := .or Cmd.ident (.or (.kind 105) (.at [kTrue, kFalse, kMut]))
theorem patT_eval (f : Bool) (r : List Tok) : patT.eval f r = ((peekT r).k == 103 || ((peekT r).k == 105 || atB [kTrue, kFalse, kMut] r)) := rfl
set_option maxRecDepth 100000 in
theorem Cx.atPattern {c : Cx} {w : World} {s : PS} (h : c.At w s) : CallsAt c 363 #[.pointer (some ⟨c.p, 0, none⟩)] w (.bool (patT.eval s.flag s.rest)) s := by
  rw [patT_eval]
  cases h1 : (peekT s.rest).k == 103
  · have H1 := Lib.hid h1
    clear h1
    cases h2 : (peekT s.rest).k == 105
    · have H2 := Lib.hid h2
      clear h2
      go_enter Tryz.func363, Tryz.ntmps363
      go_wp2_with fail
      refine (Cx.ident h).mono ?_
      rintro e w1 ⟨rfl, k1⟩
      rw [H1.out]
      go_wp2_with fail
      refine (Cx.peek k1).mono ?_
      rintro e w2 ⟨rfl, k2⟩
      unfold Tok.val
      have kf := fun u => tok_field0 (.int .i64 (peekT s.rest).k) (.string (peekT s.rest).t) u
      have h2 := H2.out
      go_wp2_with fail
      clear h2 kf
      refine (Cx.at3 k2 kTrue kFalse kMut (by simp)).mono ?_
      rintro e w3 ⟨rfl, k3⟩
      go_wp2_with fail
      go_ret
      exact ⟨by simp, k3⟩
    · have H2 := Lib.hid h2
      clear h2
      go_enter Tryz.func363, Tryz.ntmps363
      go_wp2_with fail
      refine (Cx.ident h).mono ?_
      rintro e w1 ⟨rfl, k1⟩
      rw [H1.out]
      go_wp2_with fail
      refine (Cx.peek k1).mono ?_
      rintro e w2 ⟨rfl, k2⟩
      unfold Tok.val
      have kf := fun u => tok_field0 (.int .i64 (peekT s.rest).k) (.string (peekT s.rest).t) u
      have h2 := H2.out
      go_wp2_with fail
      clear h2 kf
      go_ret
      exact ⟨by simp, k2⟩
  · have H1 := Lib.hid h1
    clear h1
    go_enter Tryz.func363, Tryz.ntmps363
    go_wp2_with fail
    refine (Cx.ident h).mono ?_
    rintro e w1 ⟨rfl, k1⟩
    rw [H1.out]
    go_wp2_with fail
    go_ret
    exact ⟨by simp, k1⟩
set_option maxRecDepth 100000 in
set_option maxHeartbeats 1600000 in
theorem acts_match_1_1 {n : Nat} {p : Nat} {toks : List Tok} (hI : AllOk n p toks) (b0 : Nat) : ActsC n (Cmd.seq (.call .pattern) (.seq (Cmd.expect pFat) (.call .expr))) (Bx b0 (.pointer (some ⟨p, 0, none⟩))) 364 #[] #[.pointer (some ⟨b0, 0, none⟩)] p toks := by
  refine actsC_of (Bx.stays _ _) (ent_of Tryz.func364 (by kernel_rfl) (by kernel_rfl)) ?_
  intro low kind M0 w0 w s s' h0 hs
  show Calls Tryz.prog 364 #[.pointer (some ⟨b0, 0, none⟩)] w _
  have x0 := h0.bx (fun _ _ e => e)
  go_enter Tryz.func364, Tryz.ntmps364
  obtain ⟨u1, r2, r3⟩ := R.seq hs
  obtain ⟨u4, r5, r6⟩ := R.seq r3
  go_wp2_with fail
  refine (Cx.fn .pattern hI h0 r2 True.intro).mono ?_
  rintro e w8 ⟨rfl, h7⟩
  clear x0 h0
  have x0 := h7.bx (fun _ _ e => e)
  clear r2
  go_wp2_with fail
  refine (Cx.expect h7 r5).mono ?_
  rintro e w10 ⟨rfl, h9⟩
  clear x0 h7
  have x0 := h9.bx (fun _ _ e => e)
  clear r5
  go_wp2_with fail
  refine (Cx.fn .expr hI h9 r6 True.intro).mono ?_
  rintro e w12 ⟨rfl, h11⟩
  clear x0 h9
  have x0 := h11.bx (fun _ _ e => e)
  clear r6
  go_wp2_with fail
  go_end0
  exact ⟨rfl, h11⟩
set_option maxRecDepth 100000 in
set_option maxHeartbeats 1600000 in
theorem acts_match_1 {n : Nat} {p : Nat} {toks : List Tok} (hI : AllOk n p toks) (b0 : Nat) : ActsC n (Cmd.ite patT (.node 36 (.seq (.call .pattern) (.seq (Cmd.expect pFat) (.call .expr)))) .skip) (Bx b0 (.pointer (some ⟨p, 0, none⟩))) 362 #[] #[.pointer (some ⟨b0, 0, none⟩)] p toks := by
  refine actsC_of (Bx.stays _ _) (ent_of Tryz.func362 (by kernel_rfl) (by kernel_rfl)) ?_
  intro low kind M0 w0 w s s' h0 hs
  show Calls Tryz.prog 362 #[.pointer (some ⟨b0, 0, none⟩)] w _
  have x0 := h0.bx (fun _ _ e => e)
  go_enter Tryz.func362, Tryz.ntmps362
  go_wp2_with fail
  refine (Cx.atPattern h0).mono ?_
  rintro e w3 ⟨rfl, h2⟩
  clear x0 h0
  have x0 := h2.bx (fun _ _ e => e)
  cases ht1 : patT.eval s.flag s.rest
  · have hsf := R.no hs ht1
    clear ht1 hs
    have h4 := h2.eq hsf.skip
    clear h2 hsf
    go_wp2_with fail
    go_end0
    exact ⟨rfl, h4⟩
  · have hst := R.yes hs ht1
    clear ht1 hs
    go_wp2_with fail
    refine (Cx.node h2 hst (acts_match_1_1 hI (b0))).mono ?_
    rintro e w6 ⟨rfl, h5⟩
    clear x0 h2
    have x0 := h5.bx (fun _ _ e => e)
    clear hst
    go_wp2_with fail
    go_end0
    exact ⟨rfl, h5⟩
set_option maxRecDepth 100000 in
set_option maxHeartbeats 1600000 in
theorem fn_match {n : Nat} {p : Nat} {toks : List Tok} (hI : AllOk n p toks) : FnOk n p toks .matchS := by
  intro hd w M low kind s s' hp hs
  show Calls Tryz.prog 349 #[.pointer (some ⟨p, 0, none⟩)] w _
  have h0 := Cx.At.start hp (v := .pointer (some ⟨p, 0, none⟩)) (t := 174)
  clear hp
  have x0 := h0.bx (fun _ _ e => e)
  go_enter Tryz.func349, Tryz.ntmps349
  obtain ⟨u1, r2, r3⟩ := R.seq hs
  obtain ⟨u4, r5, r6⟩ := R.seq r3
  obtain ⟨u7, r8, r9⟩ := R.seq r6
  go_wp2_with fail
  refine (Cx.bump h0 r2).mono ?_
  rintro e w11 ⟨rfl, h10⟩
  clear x0 h0
  have x0 := h10.bx (fun _ _ e => e)
  clear r2
  go_wp2_with fail
  refine (Cx.fn .expr hI h10 r5 True.intro).mono ?_
  rintro e w13 ⟨rfl, h12⟩
  clear x0 h10
  have x0 := h12.bx (fun _ _ e => e)
  clear r5
  go_wp2_with fail
  refine (Cx.expect h12 r8).mono ?_
  rintro e w15 ⟨rfl, h14⟩
  clear x0 h12
  have x0 := h14.bx (fun _ _ e => e)
  clear r8
  go_wp2_with fail
  refine (Cx.list h14 r9 (acts_match_1 hI (w.heap.size))).mono ?_
  rintro e w17 ⟨rfl, h16⟩
  clear x0 h14
  have x0 := h16.bx (fun _ _ e => e)
  clear r9
  go_wp2_with fail
  go_end0
  exact h16.post
set_option maxRecDepth 100000 in
set_option maxHeartbeats 1600000 in
theorem acts_path_1_1_false {n : Nat} {p : Nat} {toks : List Tok} (hI : AllOk n p toks) (b0 : Nat) (b1 : Nat) : ActsC n (Cmd.seq Cmd.expectIdent .skip) (And2 (Bx b0 (.pointer (some ⟨p, 0, none⟩))) (Bx b1 (.bool false))) 311 #[] #[.pointer (some ⟨b0, 0, none⟩), .pointer (some ⟨b1, 0, none⟩)] p toks := by
  refine actsC_of (And2.stays (Bx.stays _ _) (Bx.stays _ _)) (ent_of Tryz.func311 (by kernel_rfl) (by kernel_rfl)) ?_
  intro low kind M0 w0 w s s' h0 hs
  show Calls Tryz.prog 311 #[.pointer (some ⟨b0, 0, none⟩), .pointer (some ⟨b1, 0, none⟩)] w _
  have x0 := h0.bx (fun _ _ e => e.1)
  have x1 := h0.bx (fun _ _ e => e.2)
  go_enter Tryz.func311, Tryz.ntmps311
  obtain ⟨u1, r2, r3⟩ := R.seq hs
  go_wp2_with fail
  refine (Cx.expectIdent h0 r2).mono ?_
  rintro e w5 ⟨rfl, h4⟩
  clear x0 x1 h0
  have x0 := h4.bx (fun _ _ e => e.1)
  have x1 := h4.bx (fun _ _ e => e.2)
  clear r2
  have h6 := h4.eq r3.skip
  clear h4 r3
  go_wp2_with fail
  go_end0
  exact ⟨rfl, h6⟩
set_option maxRecDepth 100000 in
set_option maxHeartbeats 1600000 in
theorem acts_path_1_1_true {n : Nat} {p : Nat} {toks : List Tok} (hI : AllOk n p toks) (b0 : Nat) (b1 : Nat) : ActsC n (Cmd.seq Cmd.expectIdent (.ite (.at [pLt]) (.seq .bump (Cmd.list pGt (.call .typeExpr))) .skip)) (And2 (Bx b0 (.pointer (some ⟨p, 0, none⟩))) (Bx b1 (.bool true))) 311 #[] #[.pointer (some ⟨b0, 0, none⟩), .pointer (some ⟨b1, 0, none⟩)] p toks := by
  refine actsC_of (And2.stays (Bx.stays _ _) (Bx.stays _ _)) (ent_of Tryz.func311 (by kernel_rfl) (by kernel_rfl)) ?_
  intro low kind M0 w0 w s s' h0 hs
  show Calls Tryz.prog 311 #[.pointer (some ⟨b0, 0, none⟩), .pointer (some ⟨b1, 0, none⟩)] w _
  have x0 := h0.bx (fun _ _ e => e.1)
  have x1 := h0.bx (fun _ _ e => e.2)
  go_enter Tryz.func311, Tryz.ntmps311
  obtain ⟨u1, r2, r3⟩ := R.seq hs
  go_wp2_with fail
  refine (Cx.expectIdent h0 r2).mono ?_
  rintro e w5 ⟨rfl, h4⟩
  clear x0 x1 h0
  have x0 := h4.bx (fun _ _ e => e.1)
  have x1 := h4.bx (fun _ _ e => e.2)
  clear r2
  cases ht6 : atB [pLt] u1.rest
  · have r3f := R.no r3 ht6
    have ht6' := Lib.hid ht6
    clear ht6 r3
    go_wp2_with fail
    refine (Cx.acceptF h4 ht6'.out (by simp)).mono ?_
    rintro e w8 ⟨rfl, h7⟩
    clear x0 x1 h4
    have x0 := h7.bx (fun _ _ e => e.1)
    have x1 := h7.bx (fun _ _ e => e.2)
    have h9 := h7.eq r3f.skip
    clear h7 r3f
    go_wp2_with fail
    go_end0
    exact ⟨rfl, h9⟩
  · obtain ⟨u10, r11, r12⟩ := R.seq (R.yes r3 ht6)
    have r11b := Lib.hid r11.bump
    have ht6' := Lib.hid ht6
    clear ht6 r3 r11
    go_wp2_with fail
    refine (Cx.acceptT h4 ht6'.out r11b.out (by simp)).mono ?_
    rintro e w14 ⟨rfl, h13⟩
    clear x0 x1 h4
    have x0 := h13.bx (fun _ _ e => e.1)
    have x1 := h13.bx (fun _ _ e => e.2)
    go_wp2_with fail
    refine (Cx.list h13 r12 (actsC_fn _ .typeExpr hI ent_typeExpr True.intro (fun _ => rfl) rfl)).mono ?_
    rintro e w16 ⟨rfl, h15⟩
    clear x0 x1 h13
    have x0 := h15.bx (fun _ _ e => e.1)
    have x1 := h15.bx (fun _ _ e => e.2)
    clear r12
    go_wp2_with fail
    go_end0
    exact ⟨rfl, h15⟩
def PathRun (n m : Nat) (c : Cmd) (first : Bool) (s s' : PS) : Prop := if first = true then ∃ u m', m = m' + 1 ∧ R n c s u ∧ RL n m' (.at [pCC]) (.seq .bump c) u s' else RL n m (.at [pCC]) (.seq .bump c) s s'
theorem PathRun.start {n : Nat} {c : Cmd} {s s' : PS} (h : R n (.seq c (.loop (.at [pCC]) (.seq .bump c))) s s') : ∃ m, PathRun n m c true s s' := by
  obtain ⟨u, h1, h2⟩ := h.seq
  obtain ⟨m, h3⟩ := h2.loop
  exact ⟨m + 1, by unfold PathRun; rw [if_pos rfl]; exact ⟨u, m, rfl, h1, h3⟩⟩
theorem PathRun.one {n m : Nat} {c : Cmd} {s s' : PS} (h : PathRun n m c true s s') : ∃ u m', m' < m ∧ R n c s u ∧ PathRun n m' c false u s' := by
  unfold PathRun at h
  rw [if_pos rfl] at h
  obtain ⟨u, m', rfl, h1, h2⟩ := h
  exact ⟨u, m', Nat.lt_succ_self _, h1, by unfold PathRun; rw [if_neg (by decide)]; exact h2⟩
theorem PathRun.more {n m : Nat} {c : Cmd} {s s' : PS} (h : PathRun n m c false s s') (ht : atB [pCC] s.rest = true) : ∃ v u m', m' < m ∧ s.bump = some v ∧ R n c v u ∧ PathRun n m' c false u s' := by
  unfold PathRun at h
  rw [if_neg (by decide)] at h
  obtain ⟨k, u, hk, hc, hl⟩ := h.yes ht
  obtain ⟨v, h1, h2⟩ := hc.seq
  exact ⟨v, u, k, hk, h1.bump, h2, by unfold PathRun; rw [if_neg (by decide)]; exact hl⟩
theorem PathRun.stop {n m : Nat} {c : Cmd} {s s' : PS} (h : PathRun n m c false s s') (ht : atB [pCC] s.rest = false) : s' = s := by
  unfold PathRun at h
  rw [if_neg (by decide)] at h
  exact h.no ht
set_option maxRecDepth 100000 in
set_option maxHeartbeats 1600000 in
theorem acts_path_1_false {n : Nat} {p : Nat} {toks : List Tok} (hI : AllOk n p toks) (b0 b1 : Nat) : ActsC n (.seq (.node 18 (Cmd.seq Cmd.expectIdent .skip)) (.loop (.at [pCC]) (.seq .bump (.node 18 (Cmd.seq Cmd.expectIdent .skip))))) (And2 (Bx b0 (.pointer (some ⟨p, 0, none⟩))) (Bx b1 (.bool false))) 310 #[] #[.pointer (some ⟨b0, 0, none⟩), .pointer (some ⟨b1, 0, none⟩)] p toks := by
  refine actsC_of (And2.stays (Bx.stays _ _) (Bx.stays _ _)) (ent_of Tryz.func310 (by kernel_rfl) (by kernel_rfl)) ?_
  intro low kind M0 w0 w s s' h0 hs
  show Calls Tryz.prog 310 #[.pointer (some ⟨b0, 0, none⟩), .pointer (some ⟨b1, 0, none⟩)] w _
  obtain ⟨m, hl⟩ := PathRun.start hs
  clear hs
  go_enter Tryz.func310, Tryz.ntmps310
  go_wp2_with fail
  go_loopg [2] m (fun gk vf wr => ∃ s1 first, vf = .bool first ∧ (⟨(And2 (Bx b0 (.pointer (some ⟨p, 0, none⟩))) (Bx b1 (.bool false))), p, toks, low, kind, M0, w0⟩ : Cx).At wr s1 ∧ PathRun n gk (.node 18 (Cmd.seq Cmd.expectIdent .skip)) first s1 s')
  case atStart => exact ⟨s, true, rfl, h0, hl⟩
  case round =>
    clear h0 hl
    obtain ⟨s1, first, rfl, h1, hl⟩ := hrel
    have x0 := h1.bx (fun _ _ e => e.1)
    have x1 := h1.bx (fun _ _ e => e.2)
    cases first
    · cases ht : atB [pCC] s1.rest
      · have hz := Lib.hid (hl.stop ht)
        have ht' := Lib.hid ht
        clear ht hl
        go_wp2_with fail
        refine (Cx.acceptF h1 ht'.out (by simp)).mono ?_
        rintro e w2 ⟨rfl, h2⟩
        clear x0 x1 h1
        go_wp2_with fail
        go_end0
        exact ⟨rfl, h2.eq hz.out⟩
      · obtain ⟨v, u, k, hk, hb, hc, hl2⟩ := hl.more ht
        have ht' := Lib.hid ht
        have hb' := Lib.hid hb
        clear ht hl hb
        go_wp2_with fail
        refine (Cx.acceptT h1 ht'.out hb'.out (by simp)).mono ?_
        rintro e w2 ⟨rfl, h2⟩
        clear x0 x1 h1
        have x0 := h2.bx (fun _ _ e => e.1)
        have x1 := h2.bx (fun _ _ e => e.2)
        go_wp2_with fail
        refine (Cx.node h2 hc (acts_path_1_1_false hI b0 b1)).mono ?_
        rintro e w3 ⟨rfl, h3⟩
        clear x0 x1 h2 hc
        go_wp2_with fail
        go_roundg k
        case rel => exact ⟨u, false, rfl, h3, hl2⟩
        case measure => exact hk
    · obtain ⟨u, k, hk, hc, hl2⟩ := hl.one
      clear hl
      go_wp2_with fail
      refine (Cx.node h1 hc (acts_path_1_1_false hI b0 b1)).mono ?_
      rintro e w3 ⟨rfl, h3⟩
      clear x0 x1 h1 hc
      go_wp2_with fail
      go_roundg k
      case rel => exact ⟨u, false, rfl, h3, hl2⟩
      case measure => exact hk
set_option maxRecDepth 100000 in
set_option maxHeartbeats 1600000 in
theorem fn_path_false {n : Nat} {p : Nat} {toks : List Tok} (hI : AllOk n p toks) : FnOk n p toks (.path false) := by
  intro hd w M low kind s s' hp hs
  show Calls Tryz.prog 275 #[.pointer (some ⟨p, 0, none⟩), .bool false] w _
  have h0 := Cx.At.start hp (v := .pointer (some ⟨p, 0, none⟩)) (t := 174)
  replace h0 := h0.box (v := .bool false) (t := 4) (n := w.heap.size + 1) (by simp)
  clear hp
  have x0 := h0.bx (fun _ _ e => e.1)
  have x1 := h0.bx (fun _ _ e => e.2)
  go_enter Tryz.func275, Tryz.ntmps275
  go_wp2_with fail
  refine (Cx.node h0 hs (acts_path_1_false hI (w.heap.size) (w.heap.size + 1))).mono ?_
  rintro e w2 ⟨rfl, h1⟩
  clear x0 x1 h0
  have x0 := h1.bx (fun _ _ e => e.1)
  have x1 := h1.bx (fun _ _ e => e.2)
  clear hs
  go_wp2_with fail
  go_end0
  exact h1.post
set_option maxRecDepth 100000 in
set_option maxHeartbeats 1600000 in
theorem acts_path_1_true {n : Nat} {p : Nat} {toks : List Tok} (hI : AllOk n p toks) (b0 b1 : Nat) : ActsC n (.seq (.node 18 (Cmd.seq Cmd.expectIdent (.ite (.at [pLt]) (.seq .bump (Cmd.list pGt (.call .typeExpr))) .skip))) (.loop (.at [pCC]) (.seq .bump (.node 18 (Cmd.seq Cmd.expectIdent (.ite (.at [pLt]) (.seq .bump (Cmd.list pGt (.call .typeExpr))) .skip)))))) (And2 (Bx b0 (.pointer (some ⟨p, 0, none⟩))) (Bx b1 (.bool true))) 310 #[] #[.pointer (some ⟨b0, 0, none⟩), .pointer (some ⟨b1, 0, none⟩)] p toks := by
  refine actsC_of (And2.stays (Bx.stays _ _) (Bx.stays _ _)) (ent_of Tryz.func310 (by kernel_rfl) (by kernel_rfl)) ?_
  intro low kind M0 w0 w s s' h0 hs
  show Calls Tryz.prog 310 #[.pointer (some ⟨b0, 0, none⟩), .pointer (some ⟨b1, 0, none⟩)] w _
  obtain ⟨m, hl⟩ := PathRun.start hs
  clear hs
  go_enter Tryz.func310, Tryz.ntmps310
  go_wp2_with fail
  go_loopg [2] m (fun gk vf wr => ∃ s1 first, vf = .bool first ∧ (⟨(And2 (Bx b0 (.pointer (some ⟨p, 0, none⟩))) (Bx b1 (.bool true))), p, toks, low, kind, M0, w0⟩ : Cx).At wr s1 ∧ PathRun n gk (.node 18 (Cmd.seq Cmd.expectIdent (.ite (.at [pLt]) (.seq .bump (Cmd.list pGt (.call .typeExpr))) .skip))) first s1 s')
  case atStart => exact ⟨s, true, rfl, h0, hl⟩
  case round =>
    clear h0 hl
    obtain ⟨s1, first, rfl, h1, hl⟩ := hrel
    have x0 := h1.bx (fun _ _ e => e.1)
    have x1 := h1.bx (fun _ _ e => e.2)
    cases first
    · cases ht : atB [pCC] s1.rest
      · have hz := Lib.hid (hl.stop ht)
        have ht' := Lib.hid ht
        clear ht hl
        go_wp2_with fail
        refine (Cx.acceptF h1 ht'.out (by simp)).mono ?_
        rintro e w2 ⟨rfl, h2⟩
        clear x0 x1 h1
        go_wp2_with fail
        go_end0
        exact ⟨rfl, h2.eq hz.out⟩
      · obtain ⟨v, u, k, hk, hb, hc, hl2⟩ := hl.more ht
        have ht' := Lib.hid ht
        have hb' := Lib.hid hb
        clear ht hl hb
        go_wp2_with fail
        refine (Cx.acceptT h1 ht'.out hb'.out (by simp)).mono ?_
        rintro e w2 ⟨rfl, h2⟩
        clear x0 x1 h1
        have x0 := h2.bx (fun _ _ e => e.1)
        have x1 := h2.bx (fun _ _ e => e.2)
        go_wp2_with fail
        refine (Cx.node h2 hc (acts_path_1_1_true hI b0 b1)).mono ?_
        rintro e w3 ⟨rfl, h3⟩
        clear x0 x1 h2 hc
        go_wp2_with fail
        go_roundg k
        case rel => exact ⟨u, false, rfl, h3, hl2⟩
        case measure => exact hk
    · obtain ⟨u, k, hk, hc, hl2⟩ := hl.one
      clear hl
      go_wp2_with fail
      refine (Cx.node h1 hc (acts_path_1_1_true hI b0 b1)).mono ?_
      rintro e w3 ⟨rfl, h3⟩
      clear x0 x1 h1 hc
      go_wp2_with fail
      go_roundg k
      case rel => exact ⟨u, false, rfl, h3, hl2⟩
      case measure => exact hk
set_option maxRecDepth 100000 in
set_option maxHeartbeats 1600000 in
theorem fn_path_true {n : Nat} {p : Nat} {toks : List Tok} (hI : AllOk n p toks) : FnOk n p toks (.path true) := by
  intro hd w M low kind s s' hp hs
  show Calls Tryz.prog 275 #[.pointer (some ⟨p, 0, none⟩), .bool true] w _
  have h0 := Cx.At.start hp (v := .pointer (some ⟨p, 0, none⟩)) (t := 174)
  replace h0 := h0.box (v := .bool true) (t := 4) (n := w.heap.size + 1) (by simp)
  clear hp
  have x0 := h0.bx (fun _ _ e => e.1)
  have x1 := h0.bx (fun _ _ e => e.2)
  go_enter Tryz.func275, Tryz.ntmps275
  go_wp2_with fail
  refine (Cx.node h0 hs (acts_path_1_true hI (w.heap.size) (w.heap.size + 1))).mono ?_
  rintro e w2 ⟨rfl, h1⟩
  clear x0 x1 h0
  have x0 := h1.bx (fun _ _ e => e.1)
  have x1 := h1.bx (fun _ _ e => e.2)
  clear hs
  go_wp2_with fail
  go_end0
  exact h1.post

theorem allocs_size (os : List Obj) : ∀ w : World, (os.foldl World.alloc w).heap.size = w.heap.size + os.length := by
  induction os with
  | nil => intro w; rfl
  | cons o os ih => intro w; rw [List.foldl_cons, ih]; simp; omega
theorem allocs_below (os : List Obj) : ∀ w : World, Below w.heap.size w (os.foldl World.alloc w) := by
  induction os with
  | nil => intro w; exact Below.refl _ _
  | cons o os ih =>
    intro w
    rw [List.foldl_cons]
    exact ((Below.refl _ _).alloc (Nat.le_refl _) o).trans ((ih _).mono (by simp))
theorem strs_in (w : World) (os1 os2 : List Obj) (ss : List ByteArray) (t : TypeId) (n : Nat) (hn : n = w.heap.size + os1.length) : StrsAt ((os1 ++ Obj.cells (ss.map Value.string).toArray t (0, 0) :: os2).foldl World.alloc w) (some ⟨n, 0, none⟩) ss := by
  rw [List.foldl_append, List.foldl_cons]
  exact (StrsAt.new _ ss t _ (by rw [allocs_size]; exact hn)).below (allocs_below os2 _)
def o1 (a : ByteArray) : Obj := .cells #[.string a] 9 (0, 0)
def o2 (a b : ByteArray) : Obj := .cells #[.string a, .string b] 9 (0, 0)
set_option maxRecDepth 100000 in
set_option maxHeartbeats 1600000 in
theorem binops_any (l : Nat) (hl : l ≤ 4) (w : World) : Calls Tryz.prog 313 #[.int .i64 (l : Int)] w fun e w' => ∃ A, e = .returned (.slice A (opsOf l).length (opsOf l).length) ∧ StrsAt w' A (opsOf l) ∧ Below w.heap.size w w' := by
  rcases (show l = 0 ∨ l = 1 ∨ l = 2 ∨ l = 3 ∨ l = 4 by omega) with rfl | rfl | rfl | rfl | rfl
  · show Calls Tryz.prog 313 #[.int .i64 0] w _
    go_enter Tryz.func313, Tryz.ntmps313
    go_wp2_with fail
    go_ret
    exact ⟨_, rfl, strs_in w [] [o1 pAnd2, o2 pEqEq pLt, o2 pPlus pMinus, o2 pStar pSlash, _] [pOr2] 9 _ rfl, allocs_below [o1 pOr2, o1 pAnd2, o2 pEqEq pLt, o2 pPlus pMinus, o2 pStar pSlash, _] w⟩
  · show Calls Tryz.prog 313 #[.int .i64 1] w _
    go_enter Tryz.func313, Tryz.ntmps313
    go_wp2_with fail
    go_ret
    exact ⟨_, rfl, strs_in w [o1 pOr2] [o2 pEqEq pLt, o2 pPlus pMinus, o2 pStar pSlash, _] [pAnd2] 9 _ rfl, allocs_below [o1 pOr2, o1 pAnd2, o2 pEqEq pLt, o2 pPlus pMinus, o2 pStar pSlash, _] w⟩
  · show Calls Tryz.prog 313 #[.int .i64 2] w _
    go_enter Tryz.func313, Tryz.ntmps313
    go_wp2_with fail
    go_ret
    exact ⟨_, rfl, strs_in w [o1 pOr2, o1 pAnd2] [o2 pPlus pMinus, o2 pStar pSlash, _] [pEqEq, pLt] 9 _ rfl, allocs_below [o1 pOr2, o1 pAnd2, o2 pEqEq pLt, o2 pPlus pMinus, o2 pStar pSlash, _] w⟩
  · show Calls Tryz.prog 313 #[.int .i64 3] w _
    go_enter Tryz.func313, Tryz.ntmps313
    go_wp2_with fail
    go_ret
    exact ⟨_, rfl, strs_in w [o1 pOr2, o1 pAnd2, o2 pEqEq pLt] [o2 pStar pSlash, _] [pPlus, pMinus] 9 _ rfl, allocs_below [o1 pOr2, o1 pAnd2, o2 pEqEq pLt, o2 pPlus pMinus, o2 pStar pSlash, _] w⟩
  · show Calls Tryz.prog 313 #[.int .i64 4] w _
    go_enter Tryz.func313, Tryz.ntmps313
    go_wp2_with fail
    go_ret
    exact ⟨_, rfl, strs_in w [o1 pOr2, o1 pAnd2, o2 pEqEq pLt, o2 pPlus pMinus] [_] [pStar, pSlash] 9 _ rfl, allocs_below [o1 pOr2, o1 pAnd2, o2 pEqEq pLt, o2 pPlus pMinus, o2 pStar pSlash, _] w⟩
set_option maxRecDepth 100000 in
theorem acts_binary_1 {n : Nat} {p : Nat} {toks : List Tok} (hI : AllOk n p toks) (l : Nat) (hl : l ≤ 4) (b0 b1 : Nat) : ActsC n (.seq .bump (.call (.binary (l + 1)))) (And2 (Bx b0 (.pointer (some ⟨p, 0, none⟩))) (Bx b1 (.int .i64 (l : Int)))) 315 #[] #[.pointer (some ⟨b0, 0, none⟩), .pointer (some ⟨b1, 0, none⟩)] p toks := by
  refine actsC_of (And2.stays (Bx.stays _ _) (Bx.stays _ _)) (ent_of Tryz.func315 (by kernel_rfl) (by kernel_rfl)) ?_
  intro low kind M0 w0 w s s' h0 hs
  show Calls Tryz.prog 315 #[.pointer (some ⟨b0, 0, none⟩), .pointer (some ⟨b1, 0, none⟩)] w _
  obtain ⟨u, r1, r2⟩ := R.seq hs
  have x0 := h0.bx (fun _ _ e => e.1)
  have x1 := h0.bx (fun _ _ e => e.2)
  have hlI : (l : Int) ≤ 4 := by omega
  go_enter Tryz.func315, Tryz.ntmps315
  go_wp2_with fail
  refine (Cx.bump h0 r1).mono ?_
  rintro e w1 ⟨rfl, h1⟩
  clear x0 x1 h0 r1
  have x0 := h1.bx (fun _ _ e => e.1)
  have x1 := h1.bx (fun _ _ e => e.2)
  go_wp2_with fail
  refine (Cx.fn (.binary (l + 1)) hI h1 r2 (by show l + 1 ≤ 5; omega)).mono ?_
  rintro e w2 ⟨rfl, h2⟩
  clear x0 x1 h1 r2
  go_wp2_with fail
  go_end0
  exact ⟨rfl, h2⟩
set_option maxRecDepth 100000 in
theorem fn_binary5 {n : Nat} {p : Nat} {toks : List Tok} (hI : AllOk n p toks) : FnOk n p toks (.binary 5) := by
  intro hd w M low kind s s' hp hs
  show Calls Tryz.prog 277 #[.pointer (some ⟨p, 0, none⟩), .int .i64 5] w _
  have h0 := Cx.At.start hp (v := .pointer (some ⟨p, 0, none⟩)) (t := 174)
  replace h0 := h0.box (v := .int .i64 5) (t := 3) (n := w.heap.size + 1) (by simp)
  clear hp
  have x0 := h0.bx (fun _ _ e => e.1)
  have x1 := h0.bx (fun _ _ e => e.2)
  go_enter Tryz.func277, Tryz.ntmps277
  go_wp2_with fail
  refine (Cx.fn .unary hI h0 hs True.intro).mono ?_
  rintro e w2 ⟨rfl, h2⟩
  clear x0 x1 h0 hs
  go_wp2_with fail
  go_end0
  exact h2.post
theorem body_binary (l : Nat) (hl : l ≤ 4) (h2 : l ≠ 2) : body (.binary l) = .seq (.call (.binary (l + 1))) (.loop (.at (opsOf l)) (.wrap 39 (.seq .bump (.call (.binary (l + 1)))))) := by
  unfold body
  simp only [if_neg (show ¬ l = 5 by omega), if_neg h2]
theorem body_binary2 : body (.binary 2) = .seq (.call (.binary 3)) (.ite (.at (opsOf 2)) (.wrap 39 (.seq .bump (.call (.binary 3)))) .skip) := rfl
theorem ops_len (l : Nat) : (opsOf l).length ≤ 1000000 := by
  unfold opsOf
  split <;> simp
set_option maxRecDepth 100000 in
set_option maxHeartbeats 1600000 in
theorem fn_binaryL {n : Nat} {p : Nat} {toks : List Tok} (hI : AllOk n p toks) (l : Nat) (hl : l ≤ 4) (h2 : l ≠ 2) : FnOk n p toks (.binary l) := by
  intro hd w M low kind s s' hp hs
  show Calls Tryz.prog 277 #[.pointer (some ⟨p, 0, none⟩), .int .i64 (l : Int)] w _
  rw [body_binary l hl h2] at hs
  obtain ⟨u, r1, r2⟩ := R.seq hs
  obtain ⟨m, hl1⟩ := R.loop r2
  have h0 := Cx.At.start hp (v := .pointer (some ⟨p, 0, none⟩)) (t := 174)
  replace h0 := h0.box (v := .int .i64 (l : Int)) (t := 3) (n := w.heap.size + 1) (by simp)
  clear hp hs r2 hd
  have x0 := h0.bx (fun _ _ e => e.1)
  have x1 := h0.bx (fun _ _ e => e.2)
  have hlI : (l : Int) ≤ 4 := by omega
  have hl5 : ((l : Int) == 5) = false := beq_eq_false_iff_ne.2 (by omega)
  have hl2 : ((l : Int) == 2) = false := beq_eq_false_iff_ne.2 (by omega)
  have HOP := Lib.hid (fun w0 => binops_any l hl w0)
  go_enter Tryz.func277, Tryz.ntmps277
  go_wp2_with fail
  refine (Cx.fn (.binary (l + 1)) hI h0 r1 (by show l + 1 ≤ 5; omega)).mono ?_
  rintro e w2 ⟨rfl, h2⟩
  clear x0 x1 h0 r1
  go_wp2_with fail
  go_loopg [] m (fun gk wr => ∃ s1, (⟨And2 (Bx w.heap.size (.pointer (some ⟨p, 0, none⟩))) (Bx (w.heap.size + 1) (.int .i64 (l : Int))), p, toks, low, kind, M, w⟩ : Cx).At wr s1 ∧ RL n gk (.at (opsOf l)) (.wrap 39 (.seq .bump (.call (.binary (l + 1))))) s1 s')
  case atStart => exact ⟨_, h2, hl1⟩
  case round =>
    clear h2 hl1
    obtain ⟨s1, h1, hl1⟩ := hrel
    have x0 := h1.bx (fun _ _ e => e.1)
    have x1 := h1.bx (fun _ _ e => e.2)
    have HD := h1.below ((Below.refl _ _).drew)
    go_wp2_with fail
    go_region_with (first
      | (go_at_call 313; refine (HOP.out _).mono ?_; rintro e w3 ⟨A, rfl, hA, hB⟩; have h3 := HD.below hB; have x3 := h3.bx (fun _ _ e => e.1); have x4 := h3.bx (fun _ _ e => e.2); clear hB)
      | (go_at_call 130; refine (Cx.atL h3 hA rfl (ops_len l)).mono ?_; rintro e w4 ⟨rfl, h4⟩))
    all_goals
      clear HD h3 x3 x4 x0 x1 h1 hA
      cases ht : atB (opsOf l) s1.rest
      · have hz := Lib.hid (hl1.no ht)
        clear ht hl1
        go_wp2_with fail
        go_end0
        exact (h4.eq hz.out).post
      · obtain ⟨k, v, hk, hc, hl3⟩ := hl1.yes ht
        clear ht hl1
        have x0 := h4.bx (fun _ _ e => e.1)
        have x1 := h4.bx (fun _ _ e => e.2)
        go_wp2_with fail
        refine (Cx.wrap h4 hc (acts_binary_1 hI l hl _ _)).mono ?_
        rintro e w5 ⟨rfl, h5⟩
        clear x0 x1 h4 hc
        have x0 := h5.bx (fun _ _ e => e.1)
        have x1 := h5.bx (fun _ _ e => e.2)
        go_wp2_with fail
        go_roundg k
        case rel => exact ⟨v, h5, hl3⟩
        case measure => exact hk
set_option maxRecDepth 100000 in
set_option maxHeartbeats 1600000 in
theorem fn_binary2 {n : Nat} {p : Nat} {toks : List Tok} (hI : AllOk n p toks) : FnOk n p toks (.binary 2) := by
  intro hd w M low kind s s' hp hs
  show Calls Tryz.prog 277 #[.pointer (some ⟨p, 0, none⟩), .int .i64 2] w _
  rw [body_binary2] at hs
  obtain ⟨u, r1, r2⟩ := R.seq hs
  have h0 := Cx.At.start hp (v := .pointer (some ⟨p, 0, none⟩)) (t := 174)
  replace h0 := h0.box (v := .int .i64 2) (t := 3) (n := w.heap.size + 1) (by simp)
  clear hp hs hd
  have x0 := h0.bx (fun _ _ e => e.1)
  have x1 := h0.bx (fun _ _ e => e.2)
  have HOP := Lib.hid (fun w0 => binops_any 2 (by omega) w0)
  go_enter Tryz.func277, Tryz.ntmps277
  go_wp2_with fail
  refine (Cx.fn (.binary 3) hI h0 r1 (by show 3 ≤ 5; omega)).mono ?_
  rintro e w2 ⟨rfl, h2⟩
  clear x0 x1 h0 r1
  obtain ⟨gm, hgm⟩ : ∃ gm : Nat, gm = 1 := ⟨1, rfl⟩
  have HG := Lib.hid hgm
  clear hgm
  go_wp2_with fail
  go_loopg [] gm (fun gk wr => gk = 1 ∧ (⟨And2 (Bx w.heap.size (.pointer (some ⟨p, 0, none⟩))) (Bx (w.heap.size + 1) (.int .i64 2)), p, toks, low, kind, M, w⟩ : Cx).At wr u)
  case atStart => exact ⟨HG.out, h2⟩
  case round =>
    clear h2
    obtain ⟨hgk, h1⟩ := hrel
    have x0 := h1.bx (fun _ _ e => e.1)
    have x1 := h1.bx (fun _ _ e => e.2)
    have HD := h1.below ((Below.refl _ _).drew)
    clear hgk
    go_wp2_with fail
    go_region_with (first
      | (go_at_call 313; refine (HOP.out _).mono ?_; rintro e w3 ⟨A, rfl, hA, hB⟩; have h3 := HD.below hB; have x3 := h3.bx (fun _ _ e => e.1); have x4 := h3.bx (fun _ _ e => e.2); clear hB)
      | (go_at_call 130; refine (Cx.atL h3 hA rfl (ops_len 2)).mono ?_; rintro e w4 ⟨rfl, h4⟩))
    all_goals
      clear HD h3 x3 x4 x0 x1 h1 hA
      cases ht : atB (opsOf 2) u.rest
      · have hz := Lib.hid (r2.no ht).skip
        clear ht r2
        go_wp2_with fail
        go_end0
        exact (h4.eq hz.out).post
      · have hc := r2.yes ht
        clear ht r2
        have x0 := h4.bx (fun _ _ e => e.1)
        have x1 := h4.bx (fun _ _ e => e.2)
        go_wp2_with fail
        refine (Cx.wrap h4 hc (acts_binary_1 hI 2 (by omega) _ _)).mono ?_
        rintro e w5 ⟨rfl, h5⟩
        clear x0 x1 h4 hc
        have x0 := h5.bx (fun _ _ e => e.1)
        have x1 := h5.bx (fun _ _ e => e.2)
        go_wp2_with fail
        go_end0
        exact h5.post
theorem fn_binary {n : Nat} {p : Nat} {toks : List Tok} (hI : AllOk n p toks) (l : Nat) : FnOk n p toks (.binary l) := by
  intro hd
  rcases (show l = 5 ∨ l = 2 ∨ (l ≤ 4 ∧ l ≠ 2) by have : l ≤ 5 := hd; omega) with rfl | rfl | ⟨h1, h2⟩
  · exact fn_binary5 hI hd
  · exact fn_binary2 hI hd
  · exact fn_binaryL hI l h1 h2 hd
end Go.Proofs.YtpibenilagloaaaGreatDoor
