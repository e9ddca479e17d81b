import Derived.Test.YtpibenilagloaaaGreatDoorMzak
namespace Go.Proofs.YtpibenilagloaaaGreatDoor
open Go.RowKit
set_option linter.unusedVariables false
def fnum : Fn → FuncId
  | .typeExpr => 217
  | .path _ => 275
  | .typeParams => 260
  | .typeParam => 303
  | .params _ => 219
  | .pattern => 344
  | .block => 263
  | .statement => 305
  | .letS => 329
  | .returnS => 331
  | .expr => 218
  | .binary _ => 277
  | .unary => 312
  | .arguments => 346
  | .postfixS => 338
  | .primary => 332
  | .ifExpr => 348
  | .matchS => 349
  | .structLit => 350
  | .lambda => 351
  | .item => 85
  | .skipToItem => 133
  | .itemBody _ => 138
  | .useS => 210
  | .function _ => 211
  | .dataType _ => 212
  | .members => 214
  | .implS => 215
def fcall : Fn → Nat → Array Value
  | .path b, p => #[.pointer (some ⟨p, 0, none⟩), .bool b]
  | .params t, p => #[.pointer (some ⟨p, 0, none⟩), .string t]
  | .binary l, p => #[.pointer (some ⟨p, 0, none⟩), .int .i64 (l : Int)]
  | .itemBody k, p => #[.pointer (some ⟨p, 0, none⟩), .int .i64 k]
  | .function b, p => #[.pointer (some ⟨p, 0, none⟩), .bool b]
  | .dataType k, p => #[.pointer (some ⟨p, 0, none⟩), .int .i64 k]
  | _, p => #[.pointer (some ⟨p, 0, none⟩)]
def fres : Fn → PS → Value
  | .statement, s => .bool s.flag
  | _, _ => .tuple #[]
def Dom : Fn → Prop
  | .binary l => l ≤ 5
  | .itemBody k => 2 ≤ k ∧ k ≤ 9
  | .dataType k => k = 4 ∨ k = 5
  | _ => True
def FnOk (n : Nat) (p : Nat) (toks : List Tok) (f : Fn) : Prop := Dom f → ∀ w M low kind s s', PAt w p M toks low kind s → R n (body f) s s' → Calls Tryz.prog (fnum f) (fcall f p) w (Post M w p toks low kind s' (fres f s'))
def AllOk (n : Nat) (p : Nat) (toks : List Tok) : Prop := ∀ f, Dom f → ∀ w M low kind s s', PAt w p M toks low kind s → R n (.call f) s s' → Calls Tryz.prog (fnum f) (fcall f p) w (Post M w p toks low kind s' (fres f s'))
theorem Cx.fn {n : Nat} {c : Cx} (f : Fn) (hI : AllOk n c.p c.toks) {w : World} {s s' : PS} (h : c.At w s) (hs : R n (.call f) s s') (hd : Dom f) : CallsAt c (fnum f) (fcall f c.p) w (fres f s') s' :=
  Cx.step h (Below.refl _ _) fun M h1 => hI f hd w M c.low c.kind s s' h1 hs
theorem actsC_fn {n : Nat} {p : Nat} {toks : List Tok} (E : WE) (f : Fn) (hI : AllOk n p toks) (he : Ent (fnum f)) (hd : Dom f) (hr : ∀ s, fres f s = .tuple #[]) (ha : fcall f p = #[.pointer (some ⟨p, 0, none⟩)]) : ActsC n (.call f) E (fnum f) #[.pointer (some ⟨p, 0, none⟩)] #[] p toks :=
  ⟨he, fun w M low kind s s' _ h hs => by
    have := hI f hd w M low kind s s' h hs
    rw [hr, ha] at this
    exact this⟩
theorem Cx.acceptT {c : Cx} {w : World} {s u : PS} (h : c.At w s) {t : ByteArray} (ht : atB [t] s.rest = true) (hs : s.bump = some u) {z : Nat} (hz : z = w.heap.size) : CallsAt c 136 #[.pointer (some ⟨c.p, 0, none⟩), .slice (some ⟨z, 0, none⟩) 1 1] (w.alloc (.cells #[.string t] 9)) (.bool true) u :=
  Cx.step h ((Below.refl _ _).alloc (Nat.le_refl _) _) fun M h1 => by
    have := accept_any _ c.p M c.toks c.low c.kind s u h1 (some ⟨z, 0, none⟩) 1 1 [t] (StrsAt.new w [t] 9 _ hz) rfl (by decide) (by rw [ht]; exact hs)
    rw [ht] at this
    exact this
theorem Cx.acceptF {c : Cx} {w : World} {s : PS} (h : c.At w s) {t : ByteArray} (ht : atB [t] s.rest = false) {z : Nat} (hz : z = w.heap.size) : CallsAt c 136 #[.pointer (some ⟨c.p, 0, none⟩), .slice (some ⟨z, 0, none⟩) 1 1] (w.alloc (.cells #[.string t] 9)) (.bool false) s :=
  Cx.step h ((Below.refl _ _).alloc (Nat.le_refl _) _) fun M h1 => by
    have := accept_any _ c.p M c.toks c.low c.kind s s h1 (some ⟨z, 0, none⟩) 1 1 [t] (StrsAt.new w [t] 9 _ hz) rfl (by decide) (by rw [ht]; rfl)
    rw [ht] at this
    exact this
theorem Cx.wrap {n : Nat} {c : Cx} {w : World} {s s' : PS} (h : c.At w s) {k : Int} {cmd : Cmd} (hs : R n (.wrap k cmd) s s') {fid : FuncId} {bs cs : Array Value} (hA : ActsC n cmd c.E fid bs cs c.p c.toks) :
    CallsAt c 314 #[.pointer (some ⟨c.p, 0, none⟩), .int .i64 k, .func (.func fid) bs cs] w (.tuple #[]) s' := by
  obtain ⟨hE, M, h1, h2, h3⟩ := h
  obtain ⟨x, hx, hg, u, hu, rfl⟩ := hs.wrap
  exact (wrap_any w c.p M c.toks c.low c.kind s u h1 k (R n cmd) c.E hE fid bs cs hA.1 hA.2 h3 x hx hg hu (hu.gas (by show 0 < s.gas - 1; omega))).mono fun e w' ⟨k1, k2⟩ => ⟨k1, Cx.At.next hE h2 h3 k2⟩
theorem actsC_of {n : Nat} {cmd : Cmd} {E : WE} {fid : FuncId} {bs cs : Array Value} {p : Nat} {toks : List Tok} (hE : Stays E) (he : Ent fid) (hb : ∀ (low : List LowF) (kind : Int) (M : MM) (w0 w : World) (s s' : PS), (⟨E, p, toks, low, kind, M, w0⟩ : Cx).At w s → R n cmd s s' → CallsAt ⟨E, p, toks, low, kind, M, w0⟩ fid (bs ++ cs) w (.tuple #[]) s') : ActsC n cmd E fid bs cs p toks :=
  ⟨he, fun w M low kind s s' e h hs => (hb low kind M w w s s' (Cx.At.closure hE e h) hs).mono fun _ _ ⟨k1, k2⟩ => by rw [k1]; exact k2.post⟩

theorem Cx.At.eq {c : Cx} {w : World} {s t : PS} (h : c.At w s) (e : t = s) : c.At w t := e ▸ h
theorem ent_typeExpr : Ent (fnum .typeExpr) := ent_of Tryz.func217 (by kernel_rfl) (by kernel_rfl)
theorem ent_typeParam : Ent (fnum .typeParam) := ent_of Tryz.func303 (by kernel_rfl) (by kernel_rfl)
theorem ent_letS : Ent (fnum .letS) := ent_of Tryz.func329 (by kernel_rfl) (by kernel_rfl)
theorem ent_returnS : Ent (fnum .returnS) := ent_of Tryz.func331 (by kernel_rfl) (by kernel_rfl)
theorem ent_arguments : Ent (fnum .arguments) := ent_of Tryz.func346 (by kernel_rfl) (by kernel_rfl)
theorem ent_matchS : Ent (fnum .matchS) := ent_of Tryz.func349 (by kernel_rfl) (by kernel_rfl)
theorem ent_structLit : Ent (fnum .structLit) := ent_of Tryz.func350 (by kernel_rfl) (by kernel_rfl)
theorem ent_lambda : Ent (fnum .lambda) := ent_of Tryz.func351 (by kernel_rfl) (by kernel_rfl)
theorem ent_expr : Ent (fnum .expr) := ent_of Tryz.func218 (by kernel_rfl) (by kernel_rfl)
theorem ent_pattern : Ent (fnum .pattern) := ent_of Tryz.func344 (by kernel_rfl) (by kernel_rfl)
theorem actsC_ident (n : Nat) (E : WE) (p : Nat) (toks : List Tok) : ActsC n Cmd.expectIdent E 213 #[.pointer (some ⟨p, 0, none⟩)] #[] p toks :=
  ⟨ent_of Tryz.func213 (by kernel_rfl) (by kernel_rfl), fun w M low kind s s' _ h hr => expectIdent_any w p M toks low kind s s' h hr.expectIdent⟩

set_option maxRecDepth 100000 in
set_option maxHeartbeats 1600000 in
theorem acts_typeExpr_1 {n : Nat} {p : Nat} {toks : List Tok} (hI : AllOk n p toks) (b0 : Nat) : ActsC n (Cmd.seq .bump (.seq (Cmd.accept [kMut]) (.call .typeExpr))) (Bx b0 (.pointer (some ⟨p, 0, none⟩))) 273 #[] #[.pointer (some ⟨b0, 0, none⟩)] p toks := by
  refine actsC_of (Bx.stays _ _) (ent_of Tryz.func273 (by kernel_rfl) (by kernel_rfl)) ?_
  intro low kind M0 w0 w s s' h0 hs
  show Calls Tryz.prog 273 #[.pointer (some ⟨b0, 0, none⟩)] w _
  have x0 := h0.bx (fun _ _ e => e)
  go_enter Tryz.func273, Tryz.ntmps273
  obtain ⟨u1, r2, r3⟩ := R.seq hs
  obtain ⟨u4, r5, r6⟩ := R.seq r3
  go_wp2_with fail
  refine (Cx.bump h0 r2).mono ?_
  rintro e w8 ⟨rfl, h7⟩
  clear x0 h0
  have x0 := h7.bx (fun _ _ e => e)
  clear r2
  go_wp2_with fail
  refine (Cx.accept h7 r5 (by simp)).mono ?_
  rintro e w10 ⟨rfl, h9⟩
  clear x0 h7
  have x0 := h9.bx (fun _ _ e => e)
  clear r5
  go_wp2_with fail
  refine (Cx.fn .typeExpr hI h9 r6 True.intro).mono ?_
  rintro e w12 ⟨rfl, h11⟩
  clear x0 h9
  have x0 := h11.bx (fun _ _ e => e)
  clear r6
  go_wp2_with fail
  go_end0
  exact ⟨rfl, h11⟩
set_option maxRecDepth 100000 in
set_option maxHeartbeats 1600000 in
theorem acts_typeExpr_2 {n : Nat} {p : Nat} {toks : List Tok} (hI : AllOk n p toks) (b0 : Nat) : ActsC n (Cmd.seq .bump (.seq (Cmd.expect pLp) (.seq (Cmd.list pRp (.call .typeExpr)) (Cmd.optional pArr (.call .typeExpr))))) (Bx b0 (.pointer (some ⟨p, 0, none⟩))) 274 #[] #[.pointer (some ⟨b0, 0, none⟩)] p toks := by
  refine actsC_of (Bx.stays _ _) (ent_of Tryz.func274 (by kernel_rfl) (by kernel_rfl)) ?_
  intro low kind M0 w0 w s s' h0 hs
  show Calls Tryz.prog 274 #[.pointer (some ⟨b0, 0, none⟩)] w _
  have x0 := h0.bx (fun _ _ e => e)
  go_enter Tryz.func274, Tryz.ntmps274
  obtain ⟨u1, r2, r3⟩ := R.seq hs
  obtain ⟨u4, r5, r6⟩ := R.seq r3
  obtain ⟨u7, r8, r9⟩ := R.seq r6
  go_wp2_with fail
  refine (Cx.bump h0 r2).mono ?_
  rintro e w11 ⟨rfl, h10⟩
  clear x0 h0
  have x0 := h10.bx (fun _ _ e => e)
  clear r2
  go_wp2_with fail
  refine (Cx.expect h10 r5).mono ?_
  rintro e w13 ⟨rfl, h12⟩
  clear x0 h10
  have x0 := h12.bx (fun _ _ e => e)
  clear r5
  go_wp2_with fail
  refine (Cx.list h12 r8 (actsC_fn _ .typeExpr hI ent_typeExpr True.intro (fun _ => rfl) rfl)).mono ?_
  rintro e w15 ⟨rfl, h14⟩
  clear x0 h12
  have x0 := h14.bx (fun _ _ e => e)
  clear r8
  go_wp2_with fail
  refine (Cx.optional h14 r9 (actsC_fn _ .typeExpr hI ent_typeExpr True.intro (fun _ => rfl) rfl)).mono ?_
  rintro e w17 ⟨rfl, h16⟩
  clear x0 h14
  have x0 := h16.bx (fun _ _ e => e)
  clear r9
  go_wp2_with fail
  go_end0
  exact ⟨rfl, h16⟩
set_option maxRecDepth 100000 in
set_option maxHeartbeats 1600000 in
theorem fn_typeExpr {n : Nat} {p : Nat} {toks : List Tok} (hI : AllOk n p toks) : FnOk n p toks .typeExpr := by
  intro hd w M low kind s s' hp hs
  show Calls Tryz.prog 217 #[.pointer (some ⟨p, 0, none⟩)] w _
  have h0 := Cx.At.start hp (v := .pointer (some ⟨p, 0, none⟩)) (t := 174)
  clear hp
  have x0 := h0.bx (fun _ _ e => e)
  go_enter Tryz.func217, Tryz.ntmps217
  go_wp2_with fail
  refine (Cx.at1 h0 pAmp (by simp)).mono ?_
  rintro e w3 ⟨rfl, h2⟩
  clear x0 h0
  have x0 := h2.bx (fun _ _ e => e)
  cases ht1 : atB [pAmp] s.rest
  · have hsf := R.no hs ht1
    clear ht1 hs
    go_wp2_with fail
    refine (Cx.at1 h2 kFn (by simp)).mono ?_
    rintro e w6 ⟨rfl, h5⟩
    clear x0 h2
    have x0 := h5.bx (fun _ _ e => e)
    cases ht4 : atB [kFn] s.rest
    · have hsff := R.no hsf ht4
      clear ht4 hsf
      go_wp2_with fail
      refine (Cx.ident h5).mono ?_
      rintro e w9 ⟨rfl, h8⟩
      clear x0 h5
      have x0 := h8.bx (fun _ _ e => e)
      cases ht7 : (peekT s.rest).k == 103
      · have hsfff := R.no hsff ht7
        clear ht7 hsff
        go_wp2_with fail
        refine (Cx.missingNode h8 hsfff).mono ?_
        rintro e w11 ⟨rfl, h10⟩
        clear x0 h8
        have x0 := h10.bx (fun _ _ e => e)
        clear hsfff
        go_wp2_with fail
        go_end0
        exact h10.post
      · have hsfft := R.yes hsff ht7
        clear ht7 hsff
        go_wp2_with fail
        refine (Cx.fn (.path true) hI h8 hsfft True.intro).mono ?_
        rintro e w13 ⟨rfl, h12⟩
        clear x0 h8
        have x0 := h12.bx (fun _ _ e => e)
        clear hsfft
        go_wp2_with fail
        go_end0
        exact h12.post
    · have hsft := R.yes hsf ht4
      clear ht4 hsf
      go_wp2_with fail
      refine (Cx.node h5 hsft (acts_typeExpr_2 hI (w.heap.size))).mono ?_
      rintro e w15 ⟨rfl, h14⟩
      clear x0 h5
      have x0 := h14.bx (fun _ _ e => e)
      clear hsft
      go_wp2_with fail
      go_end0
      exact h14.post
  · have hst := R.yes hs ht1
    clear ht1 hs
    go_wp2_with fail
    refine (Cx.node h2 hst (acts_typeExpr_1 hI (w.heap.size))).mono ?_
    rintro e w17 ⟨rfl, h16⟩
    clear x0 h2
    have x0 := h16.bx (fun _ _ e => e)
    clear hst
    go_wp2_with fail
    go_end0
    exact h16.post
set_option maxRecDepth 100000 in
set_option maxHeartbeats 1600000 in
theorem acts_typeParams_1 {n : Nat} {p : Nat} {toks : List Tok} (hI : AllOk n p toks) (b0 : Nat) : ActsC n (Cmd.ite (.at [pLt]) (.seq .bump (Cmd.list pGt (.call .typeParam))) .skip) (Bx b0 (.pointer (some ⟨p, 0, none⟩))) 302 #[] #[.pointer (some ⟨b0, 0, none⟩)] p toks := by
  refine actsC_of (Bx.stays _ _) (ent_of Tryz.func302 (by kernel_rfl) (by kernel_rfl)) ?_
  intro low kind M0 w0 w s s' h0 hs
  show Calls Tryz.prog 302 #[.pointer (some ⟨b0, 0, none⟩)] w _
  have x0 := h0.bx (fun _ _ e => e)
  go_enter Tryz.func302, Tryz.ntmps302
  cases ht1 : atB [pLt] s.rest
  · have hsf := R.no hs ht1
    have ht1' := Lib.hid ht1
    clear ht1 hs
    go_wp2_with fail
    refine (Cx.acceptF h0 ht1'.out (by simp)).mono ?_
    rintro e w3 ⟨rfl, h2⟩
    clear x0 h0
    have x0 := h2.bx (fun _ _ e => e)
    have h4 := h2.eq hsf.skip
    clear h2 hsf
    go_wp2_with fail
    go_end0
    exact ⟨rfl, h4⟩
  · obtain ⟨u5, r6, r7⟩ := R.seq (R.yes hs ht1)
    have r6b := Lib.hid r6.bump
    have ht1' := Lib.hid ht1
    clear ht1 hs r6
    go_wp2_with fail
    refine (Cx.acceptT h0 ht1'.out r6b.out (by simp)).mono ?_
    rintro e w9 ⟨rfl, h8⟩
    clear x0 h0
    have x0 := h8.bx (fun _ _ e => e)
    go_wp2_with fail
    refine (Cx.list h8 r7 (actsC_fn _ .typeParam hI ent_typeParam True.intro (fun _ => rfl) rfl)).mono ?_
    rintro e w11 ⟨rfl, h10⟩
    clear x0 h8
    have x0 := h10.bx (fun _ _ e => e)
    clear r7
    go_wp2_with fail
    go_end0
    exact ⟨rfl, h10⟩
set_option maxRecDepth 100000 in
set_option maxHeartbeats 1600000 in
theorem fn_typeParams {n : Nat} {p : Nat} {toks : List Tok} (hI : AllOk n p toks) : FnOk n p toks .typeParams := by
  intro hd w M low kind s s' hp hs
  show Calls Tryz.prog 260 #[.pointer (some ⟨p, 0, none⟩)] w _
  have h0 := Cx.At.start hp (v := .pointer (some ⟨p, 0, none⟩)) (t := 174)
  clear hp
  have x0 := h0.bx (fun _ _ e => e)
  go_enter Tryz.func260, Tryz.ntmps260
  go_wp2_with fail
  refine (Cx.node h0 hs (acts_typeParams_1 hI (w.heap.size))).mono ?_
  rintro e w2 ⟨rfl, h1⟩
  clear x0 h0
  have x0 := h1.bx (fun _ _ e => e)
  clear hs
  go_wp2_with fail
  go_end0
  exact h1.post
set_option maxRecDepth 100000 in
set_option maxHeartbeats 1600000 in
theorem acts_typeParam_1 {n : Nat} {p : Nat} {toks : List Tok} (hI : AllOk n p toks) (b0 : Nat) : ActsC n (Cmd.seq .bump (.ite (.at [pColon]) (.seq .bump (.seq (.call (.path true)) (.loop (.at [pPlus]) (.seq .bump (.call (.path true)))))) .skip)) (Bx b0 (.pointer (some ⟨p, 0, none⟩))) 328 #[] #[.pointer (some ⟨b0, 0, none⟩)] p toks := by
  refine actsC_of (Bx.stays _ _) (ent_of Tryz.func328 (by kernel_rfl) (by kernel_rfl)) ?_
  intro low kind M0 w0 w s s' h0 hs
  show Calls Tryz.prog 328 #[.pointer (some ⟨b0, 0, none⟩)] w _
  have x0 := h0.bx (fun _ _ e => e)
  go_enter Tryz.func328, Tryz.ntmps328
  obtain ⟨u1, r2, r3⟩ := R.seq hs
  go_wp2_with fail
  refine (Cx.bump h0 r2).mono ?_
  rintro e w5 ⟨rfl, h4⟩
  clear x0 h0
  have x0 := h4.bx (fun _ _ e => e)
  clear r2
  cases ht6 : atB [pColon] u1.rest
  · have r3f := R.no r3 ht6
    have ht6' := Lib.hid ht6
    clear ht6 r3
    go_wp2_with fail
    refine (Cx.acceptF h4 ht6'.out (by simp)).mono ?_
    rintro e w8 ⟨rfl, h7⟩
    clear x0 h4
    have x0 := h7.bx (fun _ _ e => e)
    have h9 := h7.eq r3f.skip
    clear h7 r3f
    go_wp2_with fail
    go_end0
    exact ⟨rfl, h9⟩
  · obtain ⟨u10, r11, r12⟩ := R.seq (R.yes r3 ht6)
    have r11b := Lib.hid r11.bump
    have ht6' := Lib.hid ht6
    clear ht6 r3 r11
    go_wp2_with fail
    refine (Cx.acceptT h4 ht6'.out r11b.out (by simp)).mono ?_
    rintro e w14 ⟨rfl, h13⟩
    clear x0 h4
    have x0 := h13.bx (fun _ _ e => e)
    obtain ⟨u15, r16, r17⟩ := R.seq r12
    go_wp2_with fail
    refine (Cx.fn (.path true) hI h13 r16 True.intro).mono ?_
    rintro e w19 ⟨rfl, h18⟩
    clear x0 h13
    have x0 := h18.bx (fun _ _ e => e)
    clear r16
    obtain ⟨m20, hl21⟩ := R.loop r17
    go_wp2_with fail
    go_loopg [] m20 (fun gk wr => ∃ s1, (⟨(Bx b0 (.pointer (some ⟨p, 0, none⟩))), p, toks, low, kind, M0, w0⟩ : Cx).At wr s1 ∧ RL n gk (.at [pPlus]) (.seq .bump (.call (.path true))) s1 s')
    case atStart => exact ⟨_, h18, hl21⟩
    case round =>
      clear h18 hl21 r17 x0
      obtain ⟨s22, h28, hl21⟩ := hrel
      have x0 := h28.bx (fun _ _ e => e)
      cases ht29 : atB [pPlus] s22.rest
      · have z30 := Lib.hid (hl21.no ht29)
        have ht29' := Lib.hid ht29
        clear ht29 hl21
        go_wp2_with fail
        refine (Cx.acceptF h28 ht29'.out (by simp)).mono ?_
        rintro e w32 ⟨rfl, h31⟩
        clear x0 h28
        have x0 := h31.bx (fun _ _ e => e)
        go_wp2_with fail
        have h33 := h31.eq z30.out
        clear h31 z30
        go_wp2_with fail
        go_end0
        exact ⟨rfl, h33⟩
      · obtain ⟨k23, u24, hk25, hc26, hl27⟩ := hl21.yes ht29
        obtain ⟨u34, r35, r36⟩ := R.seq hc26
        have r35b := Lib.hid r35.bump
        have ht29' := Lib.hid ht29
        clear ht29 hl21 hc26 r35
        go_wp2_with fail
        refine (Cx.acceptT h28 ht29'.out r35b.out (by simp)).mono ?_
        rintro e w38 ⟨rfl, h37⟩
        clear x0 h28
        have x0 := h37.bx (fun _ _ e => e)
        go_wp2_with fail
        refine (Cx.fn (.path true) hI h37 r36 True.intro).mono ?_
        rintro e w40 ⟨rfl, h39⟩
        clear x0 h37
        have x0 := h39.bx (fun _ _ e => e)
        clear r36
        go_wp2_with fail
        go_roundg k23
        case rel => exact ⟨u24, h39, hl27⟩
        case measure => exact hk25
set_option maxRecDepth 100000 in
set_option maxHeartbeats 1600000 in
theorem fn_typeParam {n : Nat} {p : Nat} {toks : List Tok} (hI : AllOk n p toks) : FnOk n p toks .typeParam := by
  intro hd w M low kind s s' hp hs
  show Calls Tryz.prog 303 #[.pointer (some ⟨p, 0, none⟩)] w _
  have h0 := Cx.At.start hp (v := .pointer (some ⟨p, 0, none⟩)) (t := 174)
  clear hp
  have x0 := h0.bx (fun _ _ e => e)
  go_enter Tryz.func303, Tryz.ntmps303
  go_wp2_with fail
  refine (Cx.ident h0).mono ?_
  rintro e w3 ⟨rfl, h2⟩
  clear x0 h0
  have x0 := h2.bx (fun _ _ e => e)
  cases ht1 : (peekT s.rest).k == 103
  · have hsf := R.no hs ht1
    clear ht1 hs
    have h4 := h2.eq hsf.skip
    clear h2 hsf
    go_wp2_with fail
    go_end0
    exact h4.post
  · have hst := R.yes hs ht1
    clear ht1 hs
    go_wp2_with fail
    refine (Cx.node h2 hst (acts_typeParam_1 hI (w.heap.size))).mono ?_
    rintro e w6 ⟨rfl, h5⟩
    clear x0 h2
    have x0 := h5.bx (fun _ _ e => e)
    clear hst
    go_wp2_with fail
    go_end0
    exact h5.post

set_option maxRecDepth 100000 in
set_option maxHeartbeats 1600000 in
theorem acts_params_1_1_1 {n : Nat} {p : Nat} {toks : List Tok} (hI : AllOk n p toks) (b0 : Nat) : ActsC n (Cmd.seq .bump (Cmd.optional pColon (.call .typeExpr))) (Bx b0 (.pointer (some ⟨p, 0, none⟩))) 280 #[] #[.pointer (some ⟨b0, 0, none⟩)] p toks := by
  refine actsC_of (Bx.stays _ _) (ent_of Tryz.func280 (by kernel_rfl) (by kernel_rfl)) ?_
  intro low kind M0 w0 w s s' h0 hs
  show Calls Tryz.prog 280 #[.pointer (some ⟨b0, 0, none⟩)] w _
  have x0 := h0.bx (fun _ _ e => e)
  go_enter Tryz.func280, Tryz.ntmps280
  obtain ⟨u1, r2, r3⟩ := R.seq hs
  go_wp2_with fail
  refine (Cx.bump h0 r2).mono ?_
  rintro e w5 ⟨rfl, h4⟩
  clear x0 h0
  have x0 := h4.bx (fun _ _ e => e)
  clear r2
  go_wp2_with fail
  refine (Cx.optional h4 r3 (actsC_fn _ .typeExpr hI ent_typeExpr True.intro (fun _ => rfl) rfl)).mono ?_
  rintro e w7 ⟨rfl, h6⟩
  clear x0 h4
  have x0 := h6.bx (fun _ _ e => e)
  clear r3
  go_wp2_with fail
  go_end0
  exact ⟨rfl, h6⟩
set_option maxRecDepth 100000 in
set_option maxHeartbeats 1600000 in
theorem acts_params_1_1 {n : Nat} {p : Nat} {toks : List Tok} (hI : AllOk n p toks) (b0 : Nat) : ActsC n (Cmd.ite Cmd.ident (.node 13 (.seq .bump (Cmd.optional pColon (.call .typeExpr)))) .skip) (Bx b0 (.pointer (some ⟨p, 0, none⟩))) 279 #[] #[.pointer (some ⟨b0, 0, none⟩)] p toks := by
  refine actsC_of (Bx.stays _ _) (ent_of Tryz.func279 (by kernel_rfl) (by kernel_rfl)) ?_
  intro low kind M0 w0 w s s' h0 hs
  show Calls Tryz.prog 279 #[.pointer (some ⟨b0, 0, none⟩)] w _
  have x0 := h0.bx (fun _ _ e => e)
  go_enter Tryz.func279, Tryz.ntmps279
  go_wp2_with fail
  refine (Cx.ident h0).mono ?_
  rintro e w3 ⟨rfl, h2⟩
  clear x0 h0
  have x0 := h2.bx (fun _ _ e => e)
  cases ht1 : (peekT s.rest).k == 103
  · have hsf := R.no hs ht1
    clear ht1 hs
    have h4 := h2.eq hsf.skip
    clear h2 hsf
    go_wp2_with fail
    go_end0
    exact ⟨rfl, h4⟩
  · have hst := R.yes hs ht1
    clear ht1 hs
    go_wp2_with fail
    refine (Cx.node h2 hst (acts_params_1_1_1 hI (b0))).mono ?_
    rintro e w6 ⟨rfl, h5⟩
    clear x0 h2
    have x0 := h5.bx (fun _ _ e => e)
    clear hst
    go_wp2_with fail
    go_end0
    exact ⟨rfl, h5⟩
set_option maxRecDepth 100000 in
set_option maxHeartbeats 1600000 in
theorem acts_params_1 {n : Nat} {p : Nat} {toks : List Tok} (hI : AllOk n p toks) (closing : ByteArray) (b0 : Nat) (b1 : Nat) : ActsC n (Cmd.list closing (.ite Cmd.ident (.node 13 (.seq .bump (Cmd.optional pColon (.call .typeExpr)))) .skip)) (And2 (Bx b0 (.pointer (some ⟨p, 0, none⟩))) (Bx b1 (.string closing))) 278 #[] #[.pointer (some ⟨b0, 0, none⟩), .pointer (some ⟨b1, 0, none⟩)] p toks := by
  refine actsC_of (And2.stays (Bx.stays _ _) (Bx.stays _ _)) (ent_of Tryz.func278 (by kernel_rfl) (by kernel_rfl)) ?_
  intro low kind M0 w0 w s s' h0 hs
  show Calls Tryz.prog 278 #[.pointer (some ⟨b0, 0, none⟩), .pointer (some ⟨b1, 0, none⟩)] w _
  have x0 := h0.bx (fun _ _ e => e.1)
  have x1 := h0.bx (fun _ _ e => e.2)
  go_enter Tryz.func278, Tryz.ntmps278
  go_wp2_with fail
  refine (Cx.list h0 hs ((acts_params_1_1 hI (b0)).weak (fun _ _ e => e.1))).mono ?_
  rintro e w2 ⟨rfl, h1⟩
  clear x0 x1 h0
  have x0 := h1.bx (fun _ _ e => e.1)
  have x1 := h1.bx (fun _ _ e => e.2)
  clear hs
  go_wp2_with fail
  go_end0
  exact ⟨rfl, h1⟩
set_option maxRecDepth 100000 in
set_option maxHeartbeats 1600000 in
theorem fn_params {n : Nat} {p : Nat} {toks : List Tok} (hI : AllOk n p toks) (closing : ByteArray) : FnOk n p toks (.params closing) := by
  intro hd w M low kind s s' hp hs
  show Calls Tryz.prog 219 #[.pointer (some ⟨p, 0, none⟩), .string closing] w _
  have h0 := Cx.At.start hp (v := .pointer (some ⟨p, 0, none⟩)) (t := 174)
  replace h0 := h0.box (v := .string closing) (t := 9) (n := w.heap.size + 1) (by simp)
  clear hp
  have x0 := h0.bx (fun _ _ e => e.1)
  have x1 := h0.bx (fun _ _ e => e.2)
  go_enter Tryz.func219, Tryz.ntmps219
  go_wp2_with fail
  refine (Cx.node h0 hs (acts_params_1 hI closing (w.heap.size) (w.heap.size + 1))).mono ?_
  rintro e w2 ⟨rfl, h1⟩
  clear x0 x1 h0
  have x0 := h1.bx (fun _ _ e => e.1)
  have x1 := h1.bx (fun _ _ e => e.2)
  clear hs
  go_wp2_with fail
  go_end0
  exact h1.post
set_option maxRecDepth 100000 in
set_option maxHeartbeats 1600000 in
theorem fn_functionT {n : Nat} {p : Nat} {toks : List Tok} (hI : AllOk n p toks) : FnOk n p toks (.function true) := by
  intro hd w M low kind s s' hp hs
  show Calls Tryz.prog 211 #[.pointer (some ⟨p, 0, none⟩), .bool true] w _
  have h0 := Cx.At.bare hp
  clear hp
  go_enter Tryz.func211, Tryz.ntmps211
  obtain ⟨u1, r2, r3⟩ := R.seq hs
  obtain ⟨u4, r5, r6⟩ := R.seq r3
  obtain ⟨u7, r8, r9⟩ := R.seq r6
  obtain ⟨u10, r11, r12⟩ := R.seq r9
  obtain ⟨u13, r14, r15⟩ := R.seq r12
  go_wp2_with fail
  refine (Cx.expectIdent h0 r2).mono ?_
  rintro e w17 ⟨rfl, h16⟩
  clear h0
  clear r2
  go_wp2_with fail
  refine (Cx.fn .typeParams hI h16 r5 True.intro).mono ?_
  rintro e w19 ⟨rfl, h18⟩
  clear h16
  clear r5
  go_wp2_with fail
  refine (Cx.expect h18 r8).mono ?_
  rintro e w21 ⟨rfl, h20⟩
  clear h18
  clear r8
  go_wp2_with fail
  refine (Cx.fn (.params pRp) hI h20 r11 True.intro).mono ?_
  rintro e w23 ⟨rfl, h22⟩
  clear h20
  clear r11
  go_wp2_with fail
  refine (Cx.optional h22 r14 (actsC_fn _ .typeExpr hI ent_typeExpr True.intro (fun _ => rfl) rfl)).mono ?_
  rintro e w25 ⟨rfl, h24⟩
  clear h22
  clear r14
  go_wp2_with fail
  refine (Cx.fn .block hI h24 r15 True.intro).mono ?_
  rintro e w27 ⟨rfl, h26⟩
  clear h24
  clear r15
  go_wp2_with fail
  go_end0
  exact h26.post
set_option maxRecDepth 100000 in
set_option maxHeartbeats 1600000 in
theorem fn_functionF {n : Nat} {p : Nat} {toks : List Tok} (hI : AllOk n p toks) : FnOk n p toks (.function false) := by
  intro hd w M low kind s s' hp hs
  show Calls Tryz.prog 211 #[.pointer (some ⟨p, 0, none⟩), .bool false] w _
  have h0 := Cx.At.bare hp
  clear hp
  go_enter Tryz.func211, Tryz.ntmps211
  obtain ⟨u1, r2, r3⟩ := R.seq hs
  obtain ⟨u4, r5, r6⟩ := R.seq r3
  obtain ⟨u7, r8, r9⟩ := R.seq r6
  obtain ⟨u10, r11, r12⟩ := R.seq r9
  obtain ⟨u13, r14, r15⟩ := R.seq r12
  go_wp2_with fail
  refine (Cx.expectIdent h0 r2).mono ?_
  rintro e w17 ⟨rfl, h16⟩
  clear h0
  clear r2
  go_wp2_with fail
  refine (Cx.fn .typeParams hI h16 r5 True.intro).mono ?_
  rintro e w19 ⟨rfl, h18⟩
  clear h16
  clear r5
  go_wp2_with fail
  refine (Cx.expect h18 r8).mono ?_
  rintro e w21 ⟨rfl, h20⟩
  clear h18
  clear r8
  go_wp2_with fail
  refine (Cx.fn (.params pRp) hI h20 r11 True.intro).mono ?_
  rintro e w23 ⟨rfl, h22⟩
  clear h20
  clear r11
  go_wp2_with fail
  refine (Cx.optional h22 r14 (actsC_fn _ .typeExpr hI ent_typeExpr True.intro (fun _ => rfl) rfl)).mono ?_
  rintro e w25 ⟨rfl, h24⟩
  clear h22
  clear r14
  cases ht26 : atB [pSemi] u13.rest
  · have r15f := R.no r15 ht26
    have ht26' := Lib.hid ht26
    clear ht26 r15
    go_wp2_with fail
    refine (Cx.acceptF h24 ht26'.out (by simp)).mono ?_
    rintro e w28 ⟨rfl, h27⟩
    clear h24
    go_wp2_with fail
    refine (Cx.fn .block hI h27 r15f True.intro).mono ?_
    rintro e w30 ⟨rfl, h29⟩
    clear h27
    clear r15f
    go_wp2_with fail
    go_end0
    exact h29.post
  · obtain ⟨u31, r32, r33⟩ := R.seq (R.yes r15 ht26)
    have r32b := Lib.hid r32.bump
    have ht26' := Lib.hid ht26
    clear ht26 r15 r32
    go_wp2_with fail
    refine (Cx.acceptT h24 ht26'.out r32b.out (by simp)).mono ?_
    rintro e w35 ⟨rfl, h34⟩
    clear h24
    go_wp2_with fail
    refine (Cx.absent h34 r33).mono ?_
    rintro e w37 ⟨rfl, h36⟩
    clear h34
    clear r33
    go_wp2_with fail
    go_end0
    exact h36.post
end Go.Proofs.YtpibenilagloaaaGreatDoor
