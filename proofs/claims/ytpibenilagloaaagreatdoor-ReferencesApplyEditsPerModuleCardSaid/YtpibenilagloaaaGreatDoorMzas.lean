import Derived.Test.YtpibenilagloaaaGreatDoorMzar
import Derived.Test.YtpibenilagloaaaGreatDoorMzao
namespace Go.Proofs.YtpibenilagloaaaGreatDoor
open Go.RowKit
set_option linter.unusedVariables false
theorem body_impl : body .implS = .seq (.call .typeParams) (.seq (.call .typeExpr) (.seq (.ite (.at [kFor]) (.seq .bump (.call .typeExpr)) .insNone) (.call .members))) := rfl
theorem Cx.At.ins {n : Nat} {c : Cx} {w : World} {s s' : PS} (h : c.At w s) (hs : R n .insNone s s') : ∃ g cap b k cc, w.cell? ⟨c.p, 2, none⟩ = some (.slice (some ⟨g, 0, none⟩) (c.low.length + 1) cap) ∧ w.cell? ⟨g, c.low.length * 3 + 2, none⟩ = some (.slice (some ⟨b, 0, none⟩) (k + 1) cc) ∧ g < w.heap.size ∧ k + 1 ≤ cc ∧ k ≤ 1000000 ∧ c.low.length ≤ 1000000 ∧ c.p < w.heap.size ∧
    ∀ W vb, Below w.heap.size w W → W.heap[vb]? = some (.cells #[.int .i64 0, .string ⟨#[]⟩, .slice none 0 0] 121 (0, 0)) → w.heap.size ≤ vb →
      Calls Tryz.prog 272 #[.slice (some ⟨b, 0, none⟩) (k + 1) cc, .int .i64 k, .slice (some ⟨vb, 0, none⟩) 1 1] W (fun e w' => ∃ b' cc', e = .returned (.slice (some ⟨b', 0, none⟩) (k + 2) cc') ∧ (w'.cell? ⟨g, c.low.length * 3 + 2, none⟩ = some (.slice (some ⟨b, 0, none⟩) (k + 1) cc) ∧ w'.frozen? ⟨g, c.low.length * 3 + 2, none⟩ = false ∧ g < w'.heap.size) ∧ c.At (w'.setCell ⟨g, c.low.length * 3 + 2, none⟩ (.slice (some ⟨b', 0, none⟩) (k + 2) cc')) s') := by
  obtain ⟨x, hx, hgas, hs'⟩ := hs.insNone
  obtain ⟨hE, M, ⟨g, cap, v, At, ct, hX⟩, hst, hen⟩ := h
  obtain ⟨pre, hpre⟩ : ∃ pre, s.ch.dropLast = pre := ⟨_, rfl⟩
  have hch := append_last hx
  rw [hpre] at hch hs'
  obtain ⟨xs, hown, hrow⟩ := hX.kids
  rw [hch] at hrow
  obtain ⟨us, v0, v1, v2, rfl, hr, ht⟩ := RowV.last _ _ _ hrow
  have hul := hr.length
  rw [hch, List.length_append, List.length_singleton] at hown
  obtain ⟨b, cc, rfl, hkc⟩ : ∃ b cc, v = .slice (some ⟨b, 0, none⟩) (pre.length + 1) cc ∧ pre.length + 1 ≤ cc := by
    rcases hown.2 with ⟨_, h0⟩ | ⟨b, cc, cur, rfl, _, _, hnc, _⟩
    · omega
    · exact ⟨b, cc, rfl, hnc⟩
  obtain ⟨xk, xt, xch⟩ := x
  obtain ⟨A2, m2, c2, rfl, rfl, rfl⟩ : ∃ A2 m2 c2, v0 = .int .i64 xk ∧ v1 = .string xt ∧ v2 = .slice A2 m2 c2 := by
    unfold TreeV at ht
    obtain ⟨h0, h1, A, c, h2, _⟩ := ht
    exact ⟨A, _, c, h0, h1, h2⟩
  have hbc := hX.bch
  rw [hch, List.length_append, List.length_singleton] at hbc
  have hglt := (hX.row.lt g rfl).2
  have hblt := hX.kids.lt b rfl
  have hbg : b ≠ g := fun e => hX.apart.2.2.1 (by rw [← e]; rfl)
  refine ⟨g, cap, b, pre.length, cc, hX.cells.2.2, hX.top.2.2, hglt, hkc, by omega, by have := hX.blow; omega, lt_of_heap hX.blk, fun W vb hb hvb hvlt => ?_⟩
  have hXW := hX.below hb
  refine (insert_any W b pre.length cc vb us _ _ _ _ _ _ (own_below' hown hb) hvb (by omega) (by omega) (by simp [Value.oneCell']) (by simp [Value.oneCell']) hul hkc).mono ?_
  rintro e w' ⟨b', cc', rfl, hown', hgr, hb'⟩
  have hgW : some g ≠ some b := fun e => hbg (by injection e with e; exact e.symm)
  refine ⟨b', cc', rfl, ⟨(hgr.cell_far ⟨g, _, none⟩ (Nat.lt_of_lt_of_le hglt hb.size) hgW).trans hXW.top.2.2, (hgr.frozen_far ⟨g, _, none⟩ (Nat.lt_of_lt_of_le hglt hb.size) hgW).trans (hXW.row.frozenAt _), Nat.lt_of_lt_of_le (Nat.lt_of_lt_of_le hglt hb.size) hgr.size⟩, ?_⟩
  have hbg' : b' ≠ g := by
    rcases hb' with e | e
    · rw [e]; exact hbg
    · have := hb.size; omega
  obtain ⟨o4, q4⟩ := (hXW.row.kept hgr (.inr (fun e => hgW e))).stored (c.low.length * 3 + 2) (.slice (some ⟨b', 0, none⟩) (pre.length + 2) cc')
  rw [← lowCells_length c.low, List.set_append_right _ _ (by omega), Nat.add_sub_cancel_left, lowCells_length c.low] at o4
  obtain ⟨X0, T0⟩ := hXW.retop (wf := w'.setCell ⟨g, c.low.length * 3 + 2, none⟩ (.slice (some ⟨b', 0, none⟩) (pre.length + 2) cc')) (.slice (some ⟨b', 0, none⟩) (pre.length + 2) cc') s' hgr.os hgr.tape hgr.output (by rw [World.size_setCell]; exact hgr.size)
    (fun d hlt hdg hdv => by
      rw [Below.heap_setCell _ _ _ _ hdg]
      exact hgr.block d hlt (fun e => hdv (by rw [e]; rfl)))
    (by
      rcases hb' with e | e
      · exact .inr (.inl (by rw [e]; rfl))
      · exact .inr (.inr ⟨b', rfl, e⟩))
    o4
    (fun hfix hsame => by
      have hsame2 : ∀ d, Fix w M d → (w'.setCell ⟨g, c.low.length * 3 + 2, none⟩ (.slice (some ⟨b', 0, none⟩) (pre.length + 2) cc')).heap[d]? = w.heap[d]? := fun d hd => (hsame d ⟨Nat.lt_of_lt_of_le hd.1 hb.size, hd.2, hd.3⟩).trans (hb.block d hd.1)
      have hfix2 : ∀ d, Fix w M d → Fix (w'.setCell ⟨g, c.low.length * 3 + 2, none⟩ (.slice (some ⟨b', 0, none⟩) (pre.length + 2) cc')) (With M (.slice (some ⟨b', 0, none⟩) (pre.length + 2) cc')) d := fun d hd => hfix d ⟨Nat.lt_of_lt_of_le hd.1 hb.size, hd.2, hd.3⟩
      refine ⟨us ++ [.int .i64 0, .string ⟨#[]⟩, .slice none 0 0] ++ [.int .i64 xk, .string xt, .slice A2 m2 c2], ?_, ?_⟩
      · have hl : s'.ch.length = pre.length + 2 := by rw [hs']; simp
        rw [hl]
        exact ownsRow_below hown' (fun d hd => Below.heap_setCell _ _ _ _ (by
          simp only [Value.ownBlock, Option.some.injEq] at hd
          rw [← hd]; exact hbg'))
      · rw [hs']
        show RowV _ _ _ (pre ++ [.mk 0 .empty [], .mk xk xt xch])
        rw [show pre ++ [Tree.mk 0 .empty [], .mk xk xt xch] = (pre ++ [Tree.mk 0 .empty []]) ++ [.mk xk xt xch] by simp]
        refine RowV.append _ _ (RowV.append _ _ (RowV.keep hfix2 hsame2 _ _ hr) _ _ ?_) _ _ ?_
        · unfold RowV
          exact ⟨by unfold TreeV; exact ⟨rfl, rfl, none, 0, rfl, .inl rfl⟩, by unfold RowV; trivial⟩
        · unfold RowV
          exact ⟨TreeV.keep hfix2 hsame2 _ _ _ _ ht, by unfold RowV; trivial⟩)
    (by rw [hs']) (by rw [hs']; simp; omega) (by rw [hs']; have := hX.blow; show c.low.length + (s.gas - 1) ≤ 1000000; omega)
  exact ⟨hE, _, ⟨_, _, _, _, _, X0⟩, (hst.trans (Step.of_below hb)).trans T0, hE _ _ _ _ (hE _ _ _ _ hen (Step.of_below hb)) T0⟩
set_option maxRecDepth 100000 in
set_option maxHeartbeats 1600000 in
theorem fn_impl {n : Nat} {p : Nat} {toks : List Tok} (hI : AllOk n p toks) : FnOk n p toks .implS := by
  intro hd w M low kind s s' hp hs
  rw [body_impl] at hs
  show Calls Tryz.prog 215 #[.pointer (some ⟨p, 0, none⟩)] w _
  obtain ⟨u1, r1, hs⟩ := R.seq hs
  obtain ⟨u2, r2, hs⟩ := R.seq hs
  obtain ⟨u3, r3, r4⟩ := R.seq hs
  have h0 := Cx.At.bare hp
  clear hp hs
  go_enter Tryz.func215, Tryz.ntmps215
  go_wp2_with fail
  refine (Cx.fn .typeParams hI h0 r1 True.intro).mono ?_
  rintro e w1 ⟨rfl, h1⟩
  clear h0 r1
  go_wp2_with fail
  refine (Cx.fn .typeExpr hI h1 r2 True.intro).mono ?_
  rintro e w2 ⟨rfl, h2⟩
  clear h1 r2
  cases ht : atB [kFor] u2.rest
  · have r5 := R.no r3 ht
    have ht' := Lib.hid ht
    clear ht r3
    go_wp2_with fail
    refine (Cx.acceptF h2 ht'.out (by simp)).mono ?_
    rintro e w3 ⟨rfl, h3⟩
    clear h2
    obtain ⟨g, cap, b, k, cc, c2, d2, hgl, hkc, hk9, hl9, hpl, hcall⟩ := h3.ins r5
    simp only at c2 d2 hl9 hpl hcall
    have HC := Lib.hid (hcall ((w3.alloc (.cells #[.int .i64 0, .string ⟨#[]⟩, .slice none 0 0] 121)).drew) w3.heap.size (((Below.refl _ _).alloc (Nat.le_refl _) _).drew) (heap_alloc_new _ _) (Nat.le_refl _))
    clear hcall h3 r5
    have hkI : (0 : Int) ≤ k := by omega
    have hLI : (0 : Int) ≤ low.length := by omega
    have hLI2 : (low.length : Int) < (low.length : Int) + 1 := by omega
    have hLI3 : (low.length : Int) < ((low.length + 1 : Nat) : Int) := by omega
    go_wp2_with fail
    go_region
    go_wp2_with fail
    refine HC.out.mono ?_
    rintro e w4 ⟨b', cc', rfl, ⟨k1, k2, k3⟩, h4⟩
    clear HC c2 d2
    go_wp2_with fail
    refine (Cx.fn .members hI h4 r4 True.intro).mono ?_
    rintro e w5 ⟨rfl, h5⟩
    clear h4 r4 k1 k2
    go_wp2_with fail
    go_end0
    exact h5.post
  · obtain ⟨v, r6, r7⟩ := R.seq (R.yes r3 ht)
    have ht' := Lib.hid ht
    have r6b := Lib.hid r6.bump
    clear ht r3 r6
    go_wp2_with fail
    refine (Cx.acceptT h2 ht'.out r6b.out (by simp)).mono ?_
    rintro e w3 ⟨rfl, h3⟩
    clear h2
    go_wp2_with fail
    refine (Cx.fn .typeExpr hI h3 r7 True.intro).mono ?_
    rintro e w4 ⟨rfl, h4⟩
    clear h3 r7
    go_wp2_with fail
    refine (Cx.fn .members hI h4 r4 True.intro).mono ?_
    rintro e w5 ⟨rfl, h5⟩
    clear h4 r4
    go_wp2_with fail
    go_end0
    exact h5.post

def postT : Test := .and (.ahead 1 Cmd.ident) (.ahead 2 (.at [pLp]))
theorem postT_eval (f : Bool) (r : List Tok) : postT.eval f r = ((peekT (after r)).k == 103 && atB [pLp] (after (after r))) := rfl
set_option maxRecDepth 100000 in
set_option maxHeartbeats 1600000 in
theorem fn_postfix {n : Nat} {p : Nat} {toks : List Tok} (hI : AllOk n p toks) : FnOk n p toks .postfixS := by
  intro hd w M low kind s s' hp hs
  show Calls Tryz.prog 338 #[.pointer (some ⟨p, 0, none⟩)] w _
  have h0 := Cx.At.start hp (v := .pointer (some ⟨p, 0, none⟩)) (t := 174)
  clear hp
  have x0 := h0.bx (fun _ _ e => e)
  obtain ⟨m, hl⟩ := R.loop hs
  clear hs
  go_enter Tryz.func338, Tryz.ntmps338
  go_wp2_with fail
  go_loopg [2] m (fun gk v2 wr => ∃ s1, (⟨(Bx (w.heap.size) (.pointer (some ⟨p, 0, none⟩))), p, toks, low, kind, M, w⟩ : Cx).At wr s1 ∧ RL n gk (.at [pLp, pDot]) (.ite (.at [pLp]) (.wrap 30 (.call .arguments)) (.ite postT (.wrap 31 (.seq .bump (.seq .bump (.call .arguments)))) (.wrap 32 (.seq .bump Cmd.expectIdent)))) s1 s')
  case atStart => exact ⟨_, h0, hl⟩
  case round =>
    clear h0 hl x0
    obtain ⟨s1, h1, hl⟩ := hrel
    have x0 := h1.bx (fun _ _ e => e)
    go_wp2_with fail
    refine (Cx.at2 h1 pLp pDot (by simp)).mono ?_
    rintro e w2 ⟨rfl, h2⟩
    clear x0 h1
    have x0 := h2.bx (fun _ _ e => e)
    cases ht : atB [pLp, pDot] s1.rest
    · have hz := Lib.hid (hl.no ht)
      clear ht hl
      go_wp2_with fail
      have h3 := h2.eq hz.out
      clear h2 hz
      go_end0
      exact h3.post
    · obtain ⟨k, u, hk, hc, hl2⟩ := hl.yes ht
      clear ht hl
      go_wp2_with fail
      refine (Cx.at1 h2 pLp (by simp)).mono ?_
      rintro e w3 ⟨rfl, h3⟩
      clear x0 h2
      have x0 := h3.bx (fun _ _ e => e)
      cases ht : atB [pLp] s1.rest
      · have hc2 := R.no hc ht
        clear ht hc
        go_wp2_with fail
        refine (Cx.look h3).mono ?_
        rintro e w4 ⟨q, Mq, sq, rfl, hq, hr, h4⟩
        clear x0 h3
        have x0 := h4.bx (fun _ _ e => e)
        have HR := Lib.hid hr
        clear hr
        go_wp2_with fail
        refine (Cx.identQ h4 hq).mono ?_
        rintro e w5 ⟨rfl, h5, hq5⟩
        clear x0 h4 hq
        have x0 := h5.bx (fun _ _ e => e)
        rw [HR.out]
        cases hi : (peekT (after s1.rest)).k == 103
        · have hc3 := R.no hc2 (by show postT.eval s1.flag s1.rest = false; rw [postT_eval, hi]; rfl)
          clear hi hc2
          go_wp2_with fail
          refine (Cx.wrap h5 hc3 (acts_postfix_2 hI _)).mono ?_
          rintro e w6 ⟨rfl, h6⟩
          clear x0 h5 hc3
          go_wp2_with fail
          go_roundg k
          case rel => exact ⟨u, h6, hl2⟩
          case measure => exact hk
        · have HI := Lib.hid hi
          clear hi
          go_wp2_with fail
          refine (Cx.lookQ h5 hq5).mono ?_
          rintro e w6 ⟨q2, Mq2, sq2, rfl, hq6, hr2, h6⟩
          clear x0 h5 hq5
          have x0 := h6.bx (fun _ _ e => e)
          have HR2 := Lib.hid (hr2.trans (by rw [HR.out]))
          clear hr2
          go_wp2_with fail
          refine (Cx.ahead1 h6 hq6 HR2.out pLp (by simp)).mono ?_
          rintro e w7 ⟨rfl, h7⟩
          clear x0 h6 hq6
          have x0 := h7.bx (fun _ _ e => e)
          cases ha : atB [pLp] (after (after s1.rest))
          · have hc3 := R.no hc2 (by show postT.eval s1.flag s1.rest = false; rw [postT_eval, HI.out, ha]; rfl)
            clear ha hc2
            go_wp2_with fail
            refine (Cx.wrap h7 hc3 (acts_postfix_2 hI _)).mono ?_
            rintro e w8 ⟨rfl, h8⟩
            clear x0 h7 hc3
            go_wp2_with fail
            go_roundg k
            case rel => exact ⟨u, h8, hl2⟩
            case measure => exact hk
          · have hc3 := R.yes hc2 (by show postT.eval s1.flag s1.rest = true; rw [postT_eval, HI.out, ha]; rfl)
            clear ha hc2
            go_wp2_with fail
            refine (Cx.wrap h7 hc3 (acts_postfix_1 hI _)).mono ?_
            rintro e w8 ⟨rfl, h8⟩
            clear x0 h7 hc3
            go_wp2_with fail
            go_roundg k
            case rel => exact ⟨u, h8, hl2⟩
            case measure => exact hk
      · have hc2 := R.yes hc ht
        clear ht hc
        go_wp2_with fail
        refine (Cx.wrap h3 hc2 (actsC_fn _ .arguments hI ent_arguments True.intro (fun _ => rfl) rfl)).mono ?_
        rintro e w4 ⟨rfl, h4⟩
        clear x0 h3 hc2
        go_wp2_with fail
        go_roundg k
        case rel => exact ⟨u, h4, hl2⟩
        case measure => exact hk

theorem fn_all {n : Nat} {p : Nat} {toks : List Tok} (hI : AllOk n p toks) : ∀ f, FnOk n p toks f
  | .typeExpr => fn_typeExpr hI
  | .path true => fn_path_true hI
  | .path false => fn_path_false hI
  | .typeParams => fn_typeParams hI
  | .typeParam => fn_typeParam hI
  | .params c => fn_params hI c
  | .pattern => fn_pattern hI
  | .block => fn_block hI
  | .statement => fn_statement hI
  | .letS => fn_let hI
  | .returnS => fn_returnStmt hI
  | .expr => fn_expr hI
  | .binary l => fn_binary hI l
  | .unary => fn_unary hI
  | .arguments => fn_arguments hI
  | .postfixS => fn_postfix hI
  | .primary => fn_primary hI
  | .ifExpr => fn_ifExpr hI
  | .matchS => fn_match hI
  | .structLit => fn_structLit hI
  | .lambda => fn_lambda hI
  | .item => fn_item hI
  | .skipToItem => fn_skipToItem hI
  | .itemBody k => fn_itemBody hI k
  | .useS => fn_use hI
  | .function true => fn_functionT hI
  | .function false => fn_functionF hI
  | .dataType k => fn_dataType hI k
  | .members => fn_members hI
  | .implS => fn_impl hI
theorem all_ok (n : Nat) (p : Nat) (toks : List Tok) : AllOk n p toks := by
  induction n with
  | zero =>
    intro f hd w M low kind s s' hp hs
    obtain ⟨m, h1, _⟩ := hs
    omega
  | succ n ih =>
    intro f hd w M low kind s s' hp hs
    exact fn_all ih f hd w M low kind s s' hp hs.call

theorem index_ge (l : List UInt8) (c : UInt8) : decide (0 ≤ Lib.indexByte l c) = decide (c ∈ l) := by
  induction l with
  | nil => rfl
  | cons x r ih =>
    have hge := Lib.indexByte_ge r c
    unfold Lib.indexByte
    by_cases h : x = c
    · subst h; simp
    · have h' : ¬ c = x := fun e => h e.symm
      have e1 : decide (c ∈ x :: r) = decide (c ∈ r) := by simp [h']
      rw [e1, ← ih]
      have hx : (x == c) = false := by simpa using h
      simp only [hx, Bool.false_eq_true, if_false]
      split
      · next hm =>
        have : Lib.indexByte r c = -1 := by simpa using hm
        rw [this]
      · next hm =>
        have : Lib.indexByte r c ≠ -1 := by simpa using hm
        rw [decide_eq_true (by omega), decide_eq_true (by omega)]
def PredOk (fid : FuncId) (pred : UInt8 → Bool) : Prop := Ent fid ∧ ∀ (c : UInt8) (w : World), Calls Tryz.prog fid #[.int .u8 (c.toNat : Int)] w fun e w' => e = .returned (.bool (pred c)) ∧ w' = w
theorem byte_lt (c : UInt8) : c.toNat < 256 := c.toNat_lt
set_option maxRecDepth 100000 in
theorem isSpace_any (c : UInt8) (w : World) : Calls Tryz.prog 160 #[.int .u8 (c.toNat : Int)] w fun e w' => e = .returned (.bool (isSpaceB c)) ∧ w' = w := by
  have hcall := Tryz.strings_IndexByte ⟨#[32, 9, 10, 13]⟩ (c.toNat : Int) w
  have he : isSpaceB c = decide (0 ≤ Lib.indexByte [32, 9, 10, 13] c) := by rw [index_ge]; rfl
  have hc : ((c.toNat : Int)).toNat.toUInt8 = c := by simp
  rw [hc] at hcall
  rw [he]
  have HC := Lib.hid hcall
  clear hcall he hc
  go_enter Tryz.func160, Tryz.ntmps160
  go_wp2_with fail
  refine HC.out.mono ?_
  rintro e w1 ⟨rfl, rfl⟩
  go_wp2_with fail
  go_ret
  exact ⟨rfl, rfl⟩
theorem ret_bool {a b : Bool} (h : a = b) : Ending.returned (.bool a) = .returned (.bool b) := by rw [h]
set_option maxRecDepth 100000 in
set_option maxHeartbeats 1600000 in
theorem isDigit_any (c : UInt8) (w : World) : Calls Tryz.prog 165 #[.int .u8 (c.toNat : Int)] w fun e w' => e = .returned (.bool (isDigitB c)) ∧ w' = w := by
  have h1 := byte_lt c
  unfold isDigitB
  generalize c.toNat = n at *
  go_enter Tryz.func165, Tryz.ntmps165
  go_wp2_with fail
  all_goals
    go_ret
    refine ⟨ret_bool ?_, rfl⟩
    rw [Bool.eq_iff_iff]
    simp
    try omega
set_option maxRecDepth 100000 in
set_option maxHeartbeats 1600000 in
theorem isLetter_any (c : UInt8) (w : World) : Calls Tryz.prog 163 #[.int .u8 (c.toNat : Int)] w fun e w' => e = .returned (.bool (isLetterB c)) ∧ w' = w := by
  have h1 := byte_lt c
  unfold isLetterB
  generalize c.toNat = n at *
  go_enter Tryz.func163, Tryz.ntmps163
  go_wp2_with fail
  all_goals
    go_ret
    refine ⟨ret_bool ?_, rfl⟩
    rw [Bool.eq_iff_iff]
    simp
    try omega
set_option maxRecDepth 100000 in
set_option maxHeartbeats 1600000 in
theorem first1_any (c : UInt8) (w : World) : Calls Tryz.prog 162 #[.int .u8 (c.toNat : Int)] w fun e w' => e = .returned (.bool (notNlB c)) ∧ w' = w := by
  have h1 := byte_lt c
  unfold notNlB
  generalize c.toNat = n at *
  go_enter Tryz.func162, Tryz.ntmps162
  go_wp2_with fail
  all_goals
    go_ret
    refine ⟨ret_bool ?_, rfl⟩
    rw [Bool.eq_iff_iff]
    simp
    try omega
set_option maxRecDepth 100000 in
set_option maxHeartbeats 1600000 in
theorem scanStr1_any (c : UInt8) (w : World) : Calls Tryz.prog 228 #[.int .u8 (c.toNat : Int)] w fun e w' => e = .returned (.bool (notNlB c)) ∧ w' = w := by
  have h1 := byte_lt c
  unfold notNlB
  generalize c.toNat = n at *
  go_enter Tryz.func228, Tryz.ntmps228
  go_wp2_with fail
  all_goals
    go_ret
    refine ⟨ret_bool ?_, rfl⟩
    rw [Bool.eq_iff_iff]
    simp
    try omega
set_option maxRecDepth 100000 in
theorem first2_any (c : UInt8) (w : World) : Calls Tryz.prog 164 #[.int .u8 (c.toNat : Int)] w fun e w' => e = .returned (.bool (isWordB c)) ∧ w' = w := by
  have H1 := Lib.hid (isLetter_any c w)
  have H2 := Lib.hid (isDigit_any c w)
  unfold isWordB
  cases hl : isLetterB c
  · rw [hl] at H1
    clear hl
    go_enter Tryz.func164, Tryz.ntmps164
    go_wp2_with fail
    refine H1.out.mono ?_
    rintro e w1 ⟨rfl, rfl⟩
    go_wp2_with fail
    refine H2.out.mono ?_
    rintro e w1 ⟨rfl, rfl⟩
    go_wp2_with fail
    go_ret
    exact ⟨by simp, rfl⟩
  · rw [hl] at H1
    clear hl
    go_enter Tryz.func164, Tryz.ntmps164
    go_wp2_with fail
    refine H1.out.mono ?_
    rintro e w1 ⟨rfl, rfl⟩
    go_wp2_with fail
    go_ret
    exact ⟨by simp, rfl⟩
theorem ent_ex {f : FuncId} {fn : Func} (hf : Tryz.prog.funcs[f]? = some fn) (hn : (fn.name == "runtime.NumGoroutine") = false) (hb : fn.body.isNone = false) {pred : UInt8 → Bool} (h : ∀ (c : UInt8) (w : World), Calls Tryz.prog f #[.int .u8 (c.toNat : Int)] w fun e w' => e = .returned (.bool (pred c)) ∧ w' = w) : PredOk f pred := ⟨ent_of hf hn hb, h⟩
theorem ok_space : PredOk 160 isSpaceB := ent_ex Tryz.func160 (by kernel_rfl) (by kernel_rfl) isSpace_any
theorem ok_digit : PredOk 165 isDigitB := ent_ex Tryz.func165 (by kernel_rfl) (by kernel_rfl) isDigit_any
theorem ok_line : PredOk 162 notNlB := ent_ex Tryz.func162 (by kernel_rfl) (by kernel_rfl) first1_any
theorem ok_line2 : PredOk 228 notNlB := ent_ex Tryz.func228 (by kernel_rfl) (by kernel_rfl) scanStr1_any
theorem ok_word : PredOk 164 isWordB := ent_ex Tryz.func164 (by kernel_rfl) (by kernel_rfl) first2_any
theorem scan_step (l : List UInt8) (p : UInt8 → Bool) (k : Nat) (hk : k < l.length) : ((l.drop k).takeWhile p).length = if p l[k] then ((l.drop (k + 1)).takeWhile p).length + 1 else 0 := by
  rw [List.drop_eq_getElem_cons hk, List.takeWhile_cons]
  split <;> simp
theorem byte_at (s : ByteArray) (k : Nat) (hk : k < s.size) : s.data.toList[k]'(by simpa using hk) = s[k] := by
  simp only [Array.getElem_toList]
  rfl
set_option maxRecDepth 100000 in
set_option maxHeartbeats 1600000 in
theorem scan_any (s : ByteArray) (start : Nat) (fid : FuncId) (pred : UInt8 → Bool) (hp : PredOk fid pred) (w : World) (hs : s.size ≤ 2000) (hst : start ≤ s.size) :
    Calls Tryz.prog 161 #[.string s, .int .i64 (start : Int), .func (.func fid) #[] #[]] w fun e w' => e = .returned (.int .i64 ((start + ((s.data.toList.drop start).takeWhile pred).length : Nat) : Int)) ∧ w' = w := by
  generalize hN : start + ((s.data.toList.drop start).takeWhile pred).length = N
  have HN := Lib.hid hN
  clear hN
  have HP := Lib.hid hp.2
  have hent2 : ∀ (args : Array Value) (w0 : World), Sem.run Tryz.prog (callFunc fid args) w0 = .ok (.enter fid args) w0 := fun args w0 => hp.1 _ _
  clear hp
  go_enter Tryz.func161, Tryz.ntmps161
  go_wp2_with fail
  go_loop [1] (fun v => ∃ k : Nat, k ≤ s.size ∧ v = .int .i64 (k : Int) ∧ Hid (k + ((s.data.toList.drop k).takeWhile pred).length = N)) (fun v => s.size - (intOf v).toNat)
  case atStart => exact ⟨start, hst, rfl, HN⟩
  case round =>
    obtain ⟨k, hk, rfl, hr⟩ := hrel
    by_cases hlt : k < s.size
    · have hstep := scan_step s.data.toList pred k (by simpa using hlt)
      rw [byte_at s k hlt] at hstep
      cases hpk : pred s[k]
      · rw [hpk] at hstep
        have HE := Lib.hid (show k = N by have := hr.out; rw [hstep] at this; simpa using this)
        have HC := HP.out s[k] w
        rw [hpk] at HC
        have HC := Lib.hid HC
        clear hstep hpk hr
        go_wp2_with fail
        refine HC.out.mono ?_
        rintro e w1 ⟨rfl, rfl⟩
        go_wp2_with fail
        go_ret
        exact ⟨by rw [← HE.out]; rfl, rfl⟩
      · rw [hpk, if_pos rfl] at hstep
        have HE := Lib.hid (show (k + 1) + ((s.data.toList.drop (k + 1)).takeWhile pred).length = N by have := hr.out; rw [hstep] at this; omega)
        have HC := HP.out s[k] w
        rw [hpk] at HC
        have HC := Lib.hid HC
        clear hstep hpk hr
        go_wp2_with fail
        refine HC.out.mono ?_
        rintro e w1 ⟨rfl, rfl⟩
        go_wp2_with fail
        go_round
        case rel => exact ⟨k + 1, by omega, by go_num, HE⟩
        case measure => simp [intOf]; omega
    · have hk2 : k = s.size := by omega
      have hd : s.data.toList.drop k = [] := List.drop_eq_nil_of_le (by rw [hk2]; simp)
      have HE := Lib.hid (show k = N by have := hr.out; rw [hd] at this; simpa using this)
      clear hd hr hk2
      go_wp2_with fail
      go_ret
      exact ⟨by rw [← HE.out]; rfl, rfl⟩

theorem strEnd_drop (l : List UInt8) (k : Nat) (hk : k < l.length) : strEnd (l.drop k) k = if l[k].toNat = 10 then none else if l[k].toNat = 34 then some (k + 1) else if l[k].toNat = 92 then (if h : k + 1 < l.length then (if l[k + 1].toNat = 10 then strEnd (l.drop (k + 1)) (k + 1) else strEnd (l.drop (k + 2)) (k + 2)) else none) else strEnd (l.drop (k + 1)) (k + 1) := by
  rw [List.drop_eq_getElem_cons hk]
  conv => lhs; unfold strEnd
  split
  · rfl
  · split
    · rfl
    · split
      · by_cases h : k + 1 < l.length
        · rw [dif_pos h, List.drop_eq_getElem_cons h]
        · rw [dif_neg h, List.drop_eq_nil_of_le (by omega)]
      · rfl
theorem ne_bool (x : UInt8) (n : Nat) (m : Int) (h : m = n) : (((x.toNat : Int) == m) = decide (x.toNat = n)) ∧ (((x.toNat : Int) != m) = !decide (x.toNat = n)) := by
  subst h
  have : ((x.toNat : Int) == (n : Int)) = decide (x.toNat = n) := by
    rw [Bool.eq_iff_iff]; simp; omega
  exact ⟨this, by rw [bne, this]⟩
def strR (m : Nat) : Option Nat → Nat × Int
  | some n => (n, 106)
  | none => (m, 108)
theorem strL_eq (l : List UInt8) : strL l = strR (1 + ((l.drop 1).takeWhile notNlB).length) (strEnd (l.drop 1) 1) := by
  unfold strL strR scanL
  rfl
set_option maxRecDepth 100000 in
set_option maxHeartbeats 3200000 in
theorem scanString_any (s : ByteArray) (w : World) (hs : s.size ≤ 2000) (h0 : 0 < s.size) :
    Calls Tryz.prog 168 #[.string s] w fun e w' => e = .returned (.tuple #[.int .i64 ((strL s.data.toList).1 : Nat), .int .i64 (strL s.data.toList).2]) ∧ w' = w := by
  have HSC := Lib.hid (scan_any s 1 _ _ ok_line2 w hs h0)
  have HL := Lib.hid (show s.data.toList.length = s.size by simp)
  rw [strL_eq]
  generalize hZ : strEnd (s.data.toList.drop 1) 1 = Z
  generalize 1 + ((s.data.toList.drop 1).takeWhile notNlB).length = N at *
  have HZ := Lib.hid hZ
  clear hZ
  go_enter Tryz.func168, Tryz.ntmps168
  go_wp2_with fail
  go_loop [4] (fun v => ∃ k : Nat, k ≤ s.size ∧ v = .int .i64 (k : Int) ∧ Hid (strEnd (s.data.toList.drop k) k = Z)) (fun v => s.size - (intOf v).toNat)
  case atStart => exact ⟨1, h0, rfl, HZ⟩
  case round =>
    obtain ⟨k, hk, rfl, hr⟩ := hrel
    by_cases hlt : k < s.size
    · have hstep := strEnd_drop s.data.toList k (by rw [HL.out]; exact hlt)
      rw [byte_at s k hlt, hr.out] at hstep
      obtain ⟨n1, n2⟩ := ne_bool s[k] 10 10 rfl
      obtain ⟨n3, n4⟩ := ne_bool s[k] 34 34 rfl
      obtain ⟨n5, n6⟩ := ne_bool s[k] 92 92 rfl
      by_cases c1 : s[k].toNat = 10
      · rw [if_pos c1] at hstep
        rw [decide_eq_true c1] at n1 n2
        have HN := Lib.hid hstep
        clear hstep c1 n3 n4 n5 n6 hr
        go_wp2_with fail
        refine HSC.out.mono ?_
        rintro e w1 ⟨rfl, rfl⟩
        go_wp2_with fail
        go_ret2
        rw [HN.out]
        exact ⟨rfl, rfl⟩
      · rw [if_neg c1] at hstep
        rw [decide_eq_false c1] at n1 n2
        by_cases c2 : s[k].toNat = 34
        · rw [if_pos c2] at hstep
          rw [decide_eq_true c2] at n3 n4
          have HN := Lib.hid hstep
          clear hstep c1 c2 n5 n6 hr
          go_wp2_with fail
          go_ret2
          rw [HN.out]
          exact ⟨rfl, rfl⟩
        · rw [if_neg c2] at hstep
          rw [decide_eq_false c2] at n3 n4
          by_cases c3 : s[k].toNat = 92
          · rw [if_pos c3] at hstep
            rw [decide_eq_true c3] at n5 n6
            by_cases hl2 : k + 1 < s.size
            · rw [dif_pos (by rw [HL.out]; exact hl2), byte_at s (k + 1) hl2] at hstep
              obtain ⟨m1, m2⟩ := ne_bool s[k + 1] 10 10 rfl
              have hlI : (k : Int) + 1 < s.size := by omega
              by_cases c4 : s[k + 1].toNat = 10
              · rw [if_pos c4] at hstep
                rw [decide_eq_true c4] at m1 m2
                have HN := Lib.hid hstep.symm
                clear hstep c1 c2 c3 c4 hr
                go_wp2_with fail
                all_goals first | exact ⟨⟨k + 1, by omega, by go_num, HN⟩, by simp [intOf]; omega⟩ | (go_round; (case rel => exact ⟨k + 1, by omega, by go_num, HN⟩); (case measure => simp [intOf]; omega))
              · rw [if_neg c4] at hstep
                rw [decide_eq_false c4] at m1 m2
                have HN := Lib.hid hstep.symm
                clear hstep c1 c2 c3 c4 hr
                go_wp2_with fail
                all_goals first | exact ⟨⟨k + 2, by omega, by go_num, HN⟩, by simp [intOf]; omega⟩ | (go_round; (case rel => exact ⟨k + 2, by omega, by go_num, HN⟩); (case measure => simp [intOf]; omega))
            · rw [dif_neg (by rw [HL.out]; exact hl2)] at hstep
              have hlI : ¬ ((k : Int) + 1 < s.size) := by omega
              have hd : strEnd (s.data.toList.drop (k + 1)) (k + 1) = none := by
                rw [List.drop_eq_nil_of_le (by rw [HL.out]; omega)]; rfl
              have HN := Lib.hid (hd.trans hstep.symm)
              clear hstep c1 c2 c3 hr hd
              go_wp2_with fail
              all_goals first | exact ⟨⟨k + 1, by omega, by go_num, HN⟩, by simp [intOf]; omega⟩ | (go_round; (case rel => exact ⟨k + 1, by omega, by go_num, HN⟩); (case measure => simp [intOf]; omega))
          · rw [if_neg c3] at hstep
            rw [decide_eq_false c3] at n5 n6
            have HN := Lib.hid hstep.symm
            clear hstep c1 c2 c3 hr
            go_wp2_with fail
            all_goals first | exact ⟨⟨k + 1, by omega, by go_num, HN⟩, by simp [intOf]; omega⟩ | (go_round; (case rel => exact ⟨k + 1, by omega, by go_num, HN⟩); (case measure => simp [intOf]; omega))
    · have hd : strEnd (s.data.toList.drop k) k = none := by
        rw [List.drop_eq_nil_of_le (by rw [HL.out]; omega)]; rfl
      have HN := Lib.hid (hr.out.symm.trans hd)
      clear hd hr
      go_wp2_with fail
      refine HSC.out.mono ?_
      rintro e w1 ⟨rfl, rfl⟩
      go_wp2_with fail
      go_ret2
      rw [HN.out]
      exact ⟨rfl, rfl⟩
end Go.Proofs.YtpibenilagloaaaGreatDoor
