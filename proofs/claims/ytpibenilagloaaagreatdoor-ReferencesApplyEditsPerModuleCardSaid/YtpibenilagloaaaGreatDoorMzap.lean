import Derived.Test.YtpibenilagloaaaGreatDoorMzao
namespace Go.Proofs.YtpibenilagloaaaGreatDoor
open Go.RowKit
set_option linter.unusedVariables false
set_option maxRecDepth 100000 in
set_option maxHeartbeats 1600000 in
theorem fn_primary {n : Nat} {p : Nat} {toks : List Tok} (hI : AllOk n p toks) : FnOk n p toks .primary := by
  intro hd w M low kind s s' hp hs
  show Calls Tryz.prog 332 #[.pointer (some ⟨p, 0, none⟩)] w _
  have h0 := Cx.At.start hp (v := .pointer (some ⟨p, 0, none⟩)) (t := 174)
  clear hp
  have x0 := h0.bx (fun _ _ e => e)
  go_enter Tryz.func332, Tryz.ntmps332
  go_wp2_with fail
  refine (Cx.peek h0).mono ?_
  rintro e w3 ⟨rfl, h1⟩
  unfold Tok.val
  clear x0 h0
  have x0 := h1.bx (fun _ _ e => e)
  have hlt0 : w.heap.size < w3.heap.size := World.block_lt_of_cell? w3 _ x0
  clear x0
  have h2 := h1.tok (peekT s.rest) (t := 142) (n := w3.heap.size) rfl
  clear h1
  have x0 := h2.bx (fun _ _ e => e.1)
  obtain ⟨x1, y1⟩ := h2.tx (fun _ _ e => e.2)
  cases ht4 : (peekT s.rest).k == 105
  · have hsf := R.no hs ht4
    clear  hs
    cases ht5 : (peekT s.rest).k == 106
    · have hsff := R.no hsf ht5
      clear  hsf
      go_wp2_with fail
      refine (Cx.at2 h2 kTrue kFalse (by simp)).mono ?_
      rintro e w8 ⟨rfl, h7⟩
      clear x0 x1 y1 h2
      have x0 := h7.bx (fun _ _ e => e.1)
      obtain ⟨x1, y1⟩ := h7.tx (fun _ _ e => e.2)
      cases ht6 : atB [kTrue, kFalse] s.rest
      · have hsfff := R.no hsff ht6
        clear ht6 hsff
        cases ht9 : (peekT s.rest).k == 103
        · have hsffff := R.no hsfff ht9
          clear  hsfff
          go_wp2_with fail
          refine (Cx.at1 h7 pLp (by simp)).mono ?_
          rintro e w12 ⟨rfl, h11⟩
          clear x0 x1 y1 h7
          have x0 := h11.bx (fun _ _ e => e.1)
          obtain ⟨x1, y1⟩ := h11.tx (fun _ _ e => e.2)
          cases ht10 : atB [pLp] s.rest
          · have hsfffff := R.no hsffff ht10
            clear ht10 hsffff
            go_wp2_with fail
            refine (Cx.at1 h11 pLb (by simp)).mono ?_
            rintro e w15 ⟨rfl, h14⟩
            clear x0 x1 y1 h11
            have x0 := h14.bx (fun _ _ e => e.1)
            obtain ⟨x1, y1⟩ := h14.tx (fun _ _ e => e.2)
            cases ht13 : atB [pLb] s.rest
            · have hsffffff := R.no hsfffff ht13
              clear ht13 hsfffff
              go_wp2_with fail
              refine (Cx.at1 h14 kIf (by simp)).mono ?_
              rintro e w18 ⟨rfl, h17⟩
              clear x0 x1 y1 h14
              have x0 := h17.bx (fun _ _ e => e.1)
              obtain ⟨x1, y1⟩ := h17.tx (fun _ _ e => e.2)
              cases ht16 : atB [kIf] s.rest
              · have hsfffffff := R.no hsffffff ht16
                clear ht16 hsffffff
                go_wp2_with fail
                refine (Cx.at1 h17 kMatch (by simp)).mono ?_
                rintro e w21 ⟨rfl, h20⟩
                clear x0 x1 y1 h17
                have x0 := h20.bx (fun _ _ e => e.1)
                obtain ⟨x1, y1⟩ := h20.tx (fun _ _ e => e.2)
                cases ht19 : atB [kMatch] s.rest
                · have hsffffffff := R.no hsfffffff ht19
                  clear ht19 hsfffffff
                  go_wp2_with fail
                  refine (Cx.at1 h20 kNew (by simp)).mono ?_
                  rintro e w24 ⟨rfl, h23⟩
                  clear x0 x1 y1 h20
                  have x0 := h23.bx (fun _ _ e => e.1)
                  obtain ⟨x1, y1⟩ := h23.tx (fun _ _ e => e.2)
                  cases ht22 : atB [kNew] s.rest
                  · have hsfffffffff := R.no hsffffffff ht22
                    clear ht22 hsffffffff
                    go_wp2_with fail
                    refine (Cx.at2 h23 pBar pOr2 (by simp)).mono ?_
                    rintro e w27 ⟨rfl, h26⟩
                    clear x0 x1 y1 h23
                    have x0 := h26.bx (fun _ _ e => e.1)
                    obtain ⟨x1, y1⟩ := h26.tx (fun _ _ e => e.2)
                    cases ht25 : atB [pBar, pOr2] s.rest
                    · have hsffffffffff := R.no hsfffffffff ht25
                      clear ht25 hsfffffffff
                      go_wp2_with fail
                      refine (Cx.missingNode h26 hsffffffffff).mono ?_
                      rintro e w29 ⟨rfl, h28⟩
                      clear x0 x1 y1 h26
                      have x0 := h28.bx (fun _ _ e => e.1)
                      obtain ⟨x1, y1⟩ := h28.tx (fun _ _ e => e.2)
                      clear hsffffffffff
                      go_wp2_with fail
                      go_end0
                      exact h28.post
                    · have hsffffffffft := R.yes hsfffffffff ht25
                      clear ht25 hsfffffffff
                      go_wp2_with fail
                      refine (Cx.node h26 hsffffffffft (actsC_fn _ .lambda hI ent_lambda True.intro (fun _ => rfl) rfl)).mono ?_
                      rintro e w31 ⟨rfl, h30⟩
                      clear x0 x1 y1 h26
                      have x0 := h30.bx (fun _ _ e => e.1)
                      obtain ⟨x1, y1⟩ := h30.tx (fun _ _ e => e.2)
                      clear hsffffffffft
                      go_wp2_with fail
                      go_end0
                      exact h30.post
                  · have hsfffffffft := R.yes hsffffffff ht22
                    clear ht22 hsffffffff
                    go_wp2_with fail
                    refine (Cx.node h23 hsfffffffft (actsC_fn _ .structLit hI ent_structLit True.intro (fun _ => rfl) rfl)).mono ?_
                    rintro e w33 ⟨rfl, h32⟩
                    clear x0 x1 y1 h23
                    have x0 := h32.bx (fun _ _ e => e.1)
                    obtain ⟨x1, y1⟩ := h32.tx (fun _ _ e => e.2)
                    clear hsfffffffft
                    go_wp2_with fail
                    go_end0
                    exact h32.post
                · have hsffffffft := R.yes hsfffffff ht19
                  clear ht19 hsfffffff
                  go_wp2_with fail
                  refine (Cx.node h20 hsffffffft (actsC_fn _ .matchS hI ent_matchS True.intro (fun _ => rfl) rfl)).mono ?_
                  rintro e w35 ⟨rfl, h34⟩
                  clear x0 x1 y1 h20
                  have x0 := h34.bx (fun _ _ e => e.1)
                  obtain ⟨x1, y1⟩ := h34.tx (fun _ _ e => e.2)
                  clear hsffffffft
                  go_wp2_with fail
                  go_end0
                  exact h34.post
              · have hsfffffft := R.yes hsffffff ht16
                clear ht16 hsffffff
                go_wp2_with fail
                refine (Cx.fn .ifExpr hI h17 hsfffffft True.intro).mono ?_
                rintro e w37 ⟨rfl, h36⟩
                clear x0 x1 y1 h17
                have x0 := h36.bx (fun _ _ e => e.1)
                obtain ⟨x1, y1⟩ := h36.tx (fun _ _ e => e.2)
                clear hsfffffft
                go_wp2_with fail
                go_end0
                exact h36.post
            · have hsffffft := R.yes hsfffff ht13
              clear ht13 hsfffff
              go_wp2_with fail
              refine (Cx.fn .block hI h14 hsffffft True.intro).mono ?_
              rintro e w39 ⟨rfl, h38⟩
              clear x0 x1 y1 h14
              have x0 := h38.bx (fun _ _ e => e.1)
              obtain ⟨x1, y1⟩ := h38.tx (fun _ _ e => e.2)
              clear hsffffft
              go_wp2_with fail
              go_end0
              exact h38.post
          · have hsfffft := R.yes hsffff ht10
            clear ht10 hsffff
            go_wp2_with fail
            refine (Cx.node h11 hsfffft ((acts_primary_2 hI (w.heap.size)).weak (fun _ _ e => e.1))).mono ?_
            rintro e w41 ⟨rfl, h40⟩
            clear x0 x1 y1 h11
            have x0 := h40.bx (fun _ _ e => e.1)
            obtain ⟨x1, y1⟩ := h40.tx (fun _ _ e => e.2)
            clear hsfffft
            go_wp2_with fail
            go_end0
            exact h40.post
        · have hsffft := R.yes hsfff ht9
          clear  hsfff
          obtain ⟨u42, r43, r44⟩ := R.seq hsffft
          go_wp2_with fail
          refine (Cx.fn (.path false) hI h7 r43 True.intro).mono ?_
          rintro e w46 ⟨rfl, h45⟩
          clear x0 x1 y1 h7
          have x0 := h45.bx (fun _ _ e => e.1)
          obtain ⟨x1, y1⟩ := h45.tx (fun _ _ e => e.2)
          clear r43
          go_wp2_with fail
          refine (Cx.at1 h45 pBang (by simp)).mono ?_
          rintro e w48 ⟨rfl, h47⟩
          clear x0 x1 y1 h45
          have x0 := h47.bx (fun _ _ e => e.1)
          obtain ⟨x1, y1⟩ := h47.tx (fun _ _ e => e.2)
          cases ht49 : atB [pBang] u42.rest
          · have r44f := R.no r44 (by show (atB [pBang] u42.rest && atB [pLp] (after u42.rest)) = false; rw [ht49]; rfl)
            clear ht49 r44
            have h51 := h47.eq r44f.skip
            clear h47 r44f
            go_wp2_with fail
            go_end0
            exact h51.post
          · have ht49' := Lib.hid ht49
            clear ht49
            go_wp2_with fail
            refine (Cx.look h47).mono ?_
            rintro e w58 ⟨q52, Mq53, sq54, rfl, hq55, hr56, h57⟩
            clear x0 x1 y1 h47
            have x0 := h57.bx (fun _ _ e => e.1)
            obtain ⟨x1, y1⟩ := h57.tx (fun _ _ e => e.2)
            have hr56' := Lib.hid hr56
            clear hr56
            go_wp2_with fail
            refine (Cx.ahead1 h57 hq55 hr56'.out pLp (by simp)).mono ?_
            rintro e w60 ⟨rfl, h59⟩
            clear x0 x1 y1 h57
            have x0 := h59.bx (fun _ _ e => e.1)
            obtain ⟨x1, y1⟩ := h59.tx (fun _ _ e => e.2)
            cases ht50 : atB [pLp] (after u42.rest)
            · have r44f := R.no r44 (by show (atB [pBang] u42.rest && atB [pLp] (after u42.rest)) = false; rw [ht49'.out, ht50]; rfl)
              clear ht50 r44
              have h61 := h59.eq r44f.skip
              clear h59 r44f
              go_wp2_with fail
              go_end0
              exact h61.post
            · have r44t := R.yes r44 (by show (atB [pBang] u42.rest && atB [pLp] (after u42.rest)) = true; rw [ht49'.out, ht50]; rfl)
              clear ht50 r44
              go_wp2_with fail
              refine (Cx.wrap h59 r44t ((acts_primary_1 hI (w.heap.size)).weak (fun _ _ e => e.1))).mono ?_
              rintro e w63 ⟨rfl, h62⟩
              clear x0 x1 y1 h59
              have x0 := h62.bx (fun _ _ e => e.1)
              obtain ⟨x1, y1⟩ := h62.tx (fun _ _ e => e.2)
              clear r44t
              go_wp2_with fail
              go_end0
              exact h62.post
      · have hsfft := R.yes hsff ht6
        clear ht6 hsff
        go_wp2_with fail
        refine (Cx.node h7 hsfft (actsC_bump n _ p toks)).mono ?_
        rintro e w65 ⟨rfl, h64⟩
        clear x0 x1 y1 h7
        have x0 := h64.bx (fun _ _ e => e.1)
        obtain ⟨x1, y1⟩ := h64.tx (fun _ _ e => e.2)
        clear hsfft
        go_wp2_with fail
        go_end0
        exact h64.post
    · have hsft := R.yes hsf ht5
      clear  hsf
      go_wp2_with fail
      refine (Cx.node h2 hsft (actsC_bump n _ p toks)).mono ?_
      rintro e w67 ⟨rfl, h66⟩
      clear x0 x1 y1 h2
      have x0 := h66.bx (fun _ _ e => e.1)
      obtain ⟨x1, y1⟩ := h66.tx (fun _ _ e => e.2)
      clear hsft
      go_wp2_with fail
      go_end0
      exact h66.post
  · have hst := R.yes hs ht4
    clear  hs
    go_wp2_with fail
    refine (Cx.node h2 hst (actsC_bump n _ p toks)).mono ?_
    rintro e w69 ⟨rfl, h68⟩
    clear x0 x1 y1 h2
    have x0 := h68.bx (fun _ _ e => e.1)
    obtain ⟨x1, y1⟩ := h68.tx (fun _ _ e => e.2)
    clear hst
    go_wp2_with fail
    go_end0
    exact h68.post

def patB : Cmd := .ite (.and Cmd.ident (.text pUnd)) (.node 43 .bump) (.ite (.and Cmd.ident (.not (.ahead 1 (.at [pLp, pCC])))) (.node 44 .bump) (.ite Cmd.ident (.node 45 (.seq (.call (.path false)) (.ite (.at [pLp]) (.seq .bump (Cmd.list pRp (.call .pattern))) .skip))) (.ite (.kind 105) (.node 27 .bump) (.ite (.at [kTrue, kFalse]) (.node 28 .bump) (.leaf 46)))))
theorem body_pattern : body .pattern = .ite (.at [kMut]) (.node 44 (.seq .bump Cmd.expectIdent)) patB := rfl
theorem und_eq : (pUnd.toList == [95]) = true := by rw [show pUnd.toList = [95] from by rw [ByteArray.toList_eq]; rfl]; rfl
set_option maxRecDepth 100000 in
set_option maxHeartbeats 1600000 in
theorem fn_pattern {n : Nat} {p : Nat} {toks : List Tok} (hI : AllOk n p toks) : FnOk n p toks .pattern := by
  intro hd w M low kind s s' hp hs
  rw [body_pattern] at hs
  show Calls Tryz.prog 344 #[.pointer (some ⟨p, 0, none⟩)] w _
  have h0 := Cx.At.start hp (v := .pointer (some ⟨p, 0, none⟩)) (t := 174)
  clear hp
  have x0 := h0.bx (fun _ _ e => e)
  go_enter Tryz.func344, Tryz.ntmps344
  go_wp2_with fail
  refine (Cx.peek h0).mono ?_
  rintro e w1 ⟨rfl, h1⟩
  unfold Tok.val
  clear x0 h0
  have x0 := h1.bx (fun _ _ e => e)
  have hlt0 : w.heap.size < w1.heap.size := World.block_lt_of_cell? w1 _ x0
  clear x0
  have h2 := h1.tok (peekT s.rest) (t := 142) (n := w1.heap.size) rfl
  clear h1
  have x0 := h2.bx (fun _ _ e => e.1)
  obtain ⟨x1, y1⟩ := h2.tx (fun _ _ e => e.2)
  go_wp2_with fail
  refine (Cx.at1 h2 kMut (by simp)).mono ?_
  rintro e w2 ⟨rfl, h3⟩
  clear x0 x1 y1 h2
  have x0 := h3.bx (fun _ _ e => e.1)
  obtain ⟨x1, y1⟩ := h3.tx (fun _ _ e => e.2)
  cases ht : atB [kMut] s.rest
  · have r := R.no hs ht
    clear ht hs
    unfold patB at r
    go_wp2_with fail
    refine (Cx.ident h3).mono ?_
    rintro e w3 ⟨rfl, h4⟩
    clear x0 x1 y1 h3
    have x0 := h4.bx (fun _ _ e => e.1)
    obtain ⟨x1, y1⟩ := h4.tx (fun _ _ e => e.2)
    cases hi : (peekT s.rest).k == 103
    · have HI := Lib.hid hi
      have r1 := R.no r (show ((peekT s.rest).k == 103 && decide ((peekT s.rest).t = pUnd)) = false by rw [hi]; rfl)
      have r2 := R.no r1 (show ((peekT s.rest).k == 103 && !atB [pLp, pCC] (after s.rest)) = false by rw [hi]; rfl)
      have r3 := R.no r2 hi
      clear hi r r1 r2
      go_wp2_with fail
      refine (Cx.ident h4).mono ?_
      rintro e w4 ⟨rfl, h5⟩
      rw [HI.out]
      clear x0 x1 y1 h4
      have x0 := h5.bx (fun _ _ e => e.1)
      obtain ⟨x1, y1⟩ := h5.tx (fun _ _ e => e.2)
      go_wp2_with fail
      refine (Cx.ident h5).mono ?_
      rintro e w5 ⟨rfl, h6⟩
      rw [HI.out]
      clear x0 x1 y1 h5
      have x0 := h6.bx (fun _ _ e => e.1)
      obtain ⟨x1, y1⟩ := h6.tx (fun _ _ e => e.2)
      cases h105 : (peekT s.rest).k == 105
      · have r4 := R.no r3 h105
        clear r3
        go_wp2_with fail
        refine (Cx.at2 h6 kTrue kFalse (by simp)).mono ?_
        rintro e w6 ⟨rfl, h7⟩
        clear x0 x1 y1 h6 h105
        have x0 := h7.bx (fun _ _ e => e.1)
        cases htf : atB [kTrue, kFalse] s.rest
        · have r5 := R.no r4 htf
          clear htf r4
          go_wp2_with fail
          refine (Cx.missingNode h7 r5).mono ?_
          rintro e w7 ⟨rfl, h8⟩
          clear x0 h7 r5
          go_wp2_with fail
          go_end0
          exact h8.post
        · have r5 := R.yes r4 htf
          clear htf r4
          go_wp2_with fail
          refine (Cx.node h7 r5 (actsC_bump n _ p toks)).mono ?_
          rintro e w7 ⟨rfl, h8⟩
          clear x0 h7 r5
          go_wp2_with fail
          go_end0
          exact h8.post
      · have r4 := R.yes r3 h105
        clear r3
        go_wp2_with fail
        refine (Cx.node h6 r4 (actsC_bump n _ p toks)).mono ?_
        rintro e w6 ⟨rfl, h7⟩
        clear x0 x1 y1 h6 r4 h105
        go_wp2_with fail
        go_end0
        exact h7.post
    · have HI := Lib.hid hi
      clear hi
      by_cases hx : (peekT s.rest).t = pUnd
      · have r1 := R.yes r (show ((peekT s.rest).k == 103 && decide ((peekT s.rest).t = pUnd)) = true by rw [HI.out, hx]; decide)
        have hx2 : ((peekT s.rest).t.toList == [95]) = true := by rw [hx]; exact und_eq
        clear hx r
        go_wp2_with fail
        refine (Cx.node h4 r1 (actsC_bump n _ p toks)).mono ?_
        rintro e w5 ⟨rfl, h5⟩
        clear x0 x1 y1 h4 r1 hx2
        go_wp2_with fail
        go_end0
        exact h5.post
      · have r1 := R.no r (show ((peekT s.rest).k == 103 && decide ((peekT s.rest).t = pUnd)) = false by rw [HI.out, decide_eq_false hx]; rfl)
        have hx2 : ((peekT s.rest).t.toList == [95]) = false := by have := str_ne hx; rwa [show pUnd.toList = [95] from by rw [ByteArray.toList_eq]; rfl] at this
        clear hx r
        go_wp2_with fail
        refine (Cx.ident h4).mono ?_
        rintro e w4 ⟨rfl, h5⟩
        rw [HI.out]
        clear x0 x1 y1 h4 hx2
        have x0 := h5.bx (fun _ _ e => e.1)
        go_wp2_with fail
        refine (Cx.look h5).mono ?_
        rintro e w5 ⟨q, Mq, sq, rfl, hq, hr, h6⟩
        clear x0 h5
        have x0 := h6.bx (fun _ _ e => e.1)
        have HR := Lib.hid hr
        clear hr
        go_wp2_with fail
        refine (Cx.ahead2 h6 hq HR.out pLp pCC (by simp)).mono ?_
        rintro e w6 ⟨rfl, h7⟩
        clear x0 h6 hq
        have x0 := h7.bx (fun _ _ e => e.1)
        cases ha : atB [pLp, pCC] (after s.rest)
        · have r2 := R.yes r1 (show ((peekT s.rest).k == 103 && !atB [pLp, pCC] (after s.rest)) = true by rw [HI.out, ha]; rfl)
          clear ha r1
          go_wp2_with fail
          refine (Cx.node h7 r2 (actsC_bump n _ p toks)).mono ?_
          rintro e w7 ⟨rfl, h8⟩
          clear x0 h7 r2
          go_wp2_with fail
          go_end0
          exact h8.post
        · have r2 := R.no r1 (show ((peekT s.rest).k == 103 && !atB [pLp, pCC] (after s.rest)) = false by rw [HI.out, ha]; rfl)
          have r3 := R.yes r2 HI.out
          clear ha r1 r2
          go_wp2_with fail
          refine (Cx.ident h7).mono ?_
          rintro e w7 ⟨rfl, h8⟩
          rw [HI.out]
          clear x0 h7
          have x0 := h8.bx (fun _ _ e => e.1)
          go_wp2_with fail
          refine (Cx.node h8 r3 ((acts_pattern_2 hI _).weak (fun _ _ e => e.1))).mono ?_
          rintro e w8 ⟨rfl, h9⟩
          clear x0 h8 r3
          go_wp2_with fail
          go_end0
          exact h9.post
  · have r := R.yes hs ht
    clear ht hs
    go_wp2_with fail
    refine (Cx.node h3 r (((acts_pattern_1 hI _)).weak (fun _ _ e => e.1))).mono ?_
    rintro e w4 ⟨rfl, h4⟩
    clear x0 x1 y1 h3 r
    go_wp2_with fail
    go_end0
    exact h4.post

theorem PAtX.cutTop {w : World} {p : Nat} {M : MM} {toks : List Tok} {low : List LowF} {kind : Int} {s : PS} {g cap : Nat} {At : Option Addr} {ct b n c : Nat} {pre : List Tree} (hX : PAtX w p M toks low kind s g cap (.slice (some ⟨b, 0, none⟩) (n + 1) c) At ct) (hK : KidsAt w (Fix w M) (.slice (some ⟨b, 0, none⟩) n c) pre) (hn : pre.length + 1 ≤ s.ch.length) :
    PAt (w.setCell ⟨g, low.length * 3 + 2, none⟩ (.slice (some ⟨b, 0, none⟩) n c)) p (With M (.slice (some ⟨b, 0, none⟩) n c)) toks low kind { s with ch := pre } ∧ Step M w (With M (.slice (some ⟨b, 0, none⟩) n c)) (w.setCell ⟨g, low.length * 3 + 2, none⟩ (.slice (some ⟨b, 0, none⟩) n c)) := by
  have hblt := hX.kids.lt b rfl
  have hbg : b ≠ g := fun e => hX.apart.2.2.1 (by rw [← e]; rfl)
  have hown2 := hX.row
  obtain ⟨X0, T0⟩ := hX.retop (wf := w.setCell ⟨g, low.length * 3 + 2, none⟩ (.slice (some ⟨b, 0, none⟩) n c)) (.slice (some ⟨b, 0, none⟩) n c) { s with ch := pre } rfl rfl rfl (by simp)
    (fun b' hlt hbg hbv => Below.heap_setCell _ _ _ _ hbg)
    (.inr (.inl rfl))
    (by
      have h1 := (hown2.stored (low.length * 3 + 2) (.slice (some ⟨b, 0, none⟩) n c)).1
      rw [← lowCells_length low, List.set_append_right _ _ (by omega), Nat.add_sub_cancel_left, lowCells_length low] at h1
      exact h1)
    (fun hfix hsame => hK.keep hfix hsame (fun k hk => by
        simp only [Value.ownBlock, Option.some.injEq] at hk
        subst hk
        exact Below.heap_setCell _ _ _ _ hbg))
    rfl (by have := hX.bch; show pre.length + s.gas ≤ 1000000; omega) hX.blow
  exact ⟨⟨_, _, _, _, _, X0⟩, T0⟩
theorem Cx.At.cut {n : Nat} {c : Cx} {w : World} {u ud : PS} (h : c.At w u) (hd : R n .dropLast u ud) : ∃ g cap b k cc, w.cell? ⟨c.p, 2, none⟩ = some (.slice (some ⟨g, 0, none⟩) (c.low.length + 1) cap) ∧ w.cell? ⟨g, c.low.length * 3 + 2, none⟩ = some (.slice (some ⟨b, 0, none⟩) (k + 1) cc) ∧ w.frozen? ⟨g, c.low.length * 3 + 2, none⟩ = false ∧ g < w.heap.size ∧ k + 1 ≤ cc ∧ k + 1 ≤ 1000000 ∧ c.low.length ≤ 1000000 ∧
    c.At (w.setCell ⟨g, c.low.length * 3 + 2, none⟩ (.slice (some ⟨b, 0, none⟩) k cc)) ud := by
  obtain ⟨hne, hud⟩ := hd.dropLast
  obtain ⟨hE, M, ⟨g, cap, v, At, ct, hX⟩, hst, hen⟩ := h
  have hch : u.ch = u.ch.dropLast ++ [u.ch.getLast hne] := (List.dropLast_concat_getLast hne).symm
  have hk := hX.kids
  rw [hch] at hk
  obtain ⟨b, cc, v0, v1, v2, rfl, hnc, hvb, hblt, _, _, _, _, hK⟩ := last_child hk
  have hlen : u.ch.dropLast.length + 1 = u.ch.length := by
    have := congrArg List.length hch
    rw [List.length_append, List.length_singleton] at this
    exact this.symm
  obtain ⟨P1, P2⟩ := hX.cutTop hK (by omega)
  have hb := hX.bch
  have hl := hX.blow
  exact ⟨g, cap, b, u.ch.dropLast.length, cc, hX.cells.2.2, hX.top.2.2, hX.row.frozenAt _, (hX.row.lt g rfl).2, hnc, by omega, by omega, hE, _, by rw [hud]; exact P1, hst.trans P2, hE _ _ _ _ hen P2⟩
def tailS (c : Cmd) (bl : Bool) : Cmd := stmtTail c bl
theorem body_statement : body .statement = .ite (.at [kLet]) (.seq (.node 22 (.call .letS)) (.setFlag false)) (.ite (.at [kWhile]) (.seq (.node 24 (.seq .bump (.seq (.call .expr) (.call .block)))) (.setFlag false)) (.ite (.at [kReturn]) (.seq (.node 25 (.call .returnS)) (.setFlag false)) (.ite (.at [kIf, kMatch, pLb]) (tailS (.call .primary) true) (tailS (.call .expr) false)))) := rfl
theorem tail_eq (c : Cmd) (bl : Bool) : tailS c bl = .moved c (.seq .dropLast (.seq Cmd.unexpected (.setFlag false))) (.ite (.at [pRb]) (.setFlag true) (.ite (.at [pEq]) (.seq (.wrap 23 (.seq .bump (.seq (.call .expr) (Cmd.expect pSemi)))) (.setFlag false)) (.seq (.wrap 26 (.ite (.at [pSemi]) .bump (if bl then .skip else .leaf 108))) (.setFlag false)))) := rfl
set_option maxRecDepth 100000 in
set_option maxHeartbeats 3200000 in
theorem fn_statement {n : Nat} {p : Nat} {toks : List Tok} (hI : AllOk n p toks) : FnOk n p toks .statement := by
  intro hd w M low kind s s' hp hs
  rw [body_statement] at hs
  show Calls Tryz.prog 305 #[.pointer (some ⟨p, 0, none⟩)] w _
  have h0 := Cx.At.start hp (v := .pointer (some ⟨p, 0, none⟩)) (t := 174)
  clear hp
  have x0 := h0.bx (fun _ _ e => e)
  go_enter Tryz.func305, Tryz.ntmps305
  go_wp2_with fail
  refine (Cx.at1 h0 kLet (by simp)).mono ?_
  rintro e w1 ⟨rfl, h1⟩
  clear x0 h0
  have x0 := h1.bx (fun _ _ e => e)
  cases ht : atB [kLet] s.rest
  · have r := R.no hs ht
    clear ht hs
    go_wp2_with fail
    refine (Cx.at1 h1 kWhile (by simp)).mono ?_
    rintro e w2 ⟨rfl, h2⟩
    clear x0 h1
    have x0 := h2.bx (fun _ _ e => e)
    cases ht : atB [kWhile] s.rest
    · have r2 := R.no r ht
      clear ht r
      go_wp2_with fail
      refine (Cx.at1 h2 kReturn (by simp)).mono ?_
      rintro e w3 ⟨rfl, h3⟩
      clear x0 h2
      have x0 := h3.bx (fun _ _ e => e)
      cases ht : atB [kReturn] s.rest
      · have r3 := R.no r2 ht
        clear ht r2
        obtain ⟨m1, hm1, c1⟩ := h3.pos
        have HM1 := Lib.hid hm1
        clear hm1
        go_wp2_with fail
        refine (Cx.at3 h3 kIf kMatch pLb (by simp)).mono ?_
        rintro e w4 ⟨rfl, h4⟩
        clear x0 c1 h3
        have hlt0 : w.heap.size < w4.heap.size := World.block_lt_of_cell? w4 _ (h4.bx (fun _ _ e => e))
        cases ht : atB [kIf, kMatch, pLb] s.rest
        all_goals
          first
            | (have r4 := R.no r3 ht; have h5 := h4.box (v := .bool false) (t := 4) (n := w4.heap.size) rfl)
            | (have r4 := R.yes r3 ht; have h5 := h4.box (v := .bool true) (t := 4) (n := w4.heap.size) rfl)
          rw [tail_eq] at r4
          obtain ⟨u, rc, rm⟩ := r4.moved
          clear ht r3 r4 h4
          have x0 := h5.bx (fun _ _ e => e.1)
          have x1 := h5.bx (fun _ _ e => e.2)
          go_wp2_with fail
          first
            | (refine (Cx.fn .expr hI h5 rc True.intro).mono ?_)
            | (refine (Cx.fn .primary hI h5 rc True.intro).mono ?_)
          rintro e w5 ⟨rfl, h6⟩
          clear x0 x1 h5 rc
          have x0 := h6.bx (fun _ _ e => e.1)
          have x1 := h6.bx (fun _ _ e => e.2)
          rcases rm with ⟨he, rd⟩ | ⟨he, rt⟩
          · obtain ⟨ud, rd1, rd2⟩ := R.seq rd
            obtain ⟨uu, ru, rf⟩ := R.seq rd2
            obtain ⟨m2, hm2, c1⟩ := h6.pos
            simp only at hm2 c1
            have hmm : m2 = m1 := by have := HM1.out; omega
            subst hmm
            obtain ⟨g, cap, b, k, cc, c2, d2, f2, hgl, hkc, hkm, hlm, h7⟩ := h6.cut rd1
            simp only at c2 d2 f2 hlm
            have hz := Lib.hid rf.setFlag
            have HE := Lib.hid he
            have HM2 := Lib.hid hm2
            clear rd rd1 rd2 rf he hm2 h6
            have hkI : (0 : Int) ≤ k := by omega
            have hkI2 : (k : Int) + 1 ≤ cc := by omega
            have hkI4 : (k : Int) ≤ cc := by omega
            have hLI : (0 : Int) ≤ low.length := by omega
            have hLI2 : (low.length : Int) < (low.length : Int) + 1 := by omega
            have hLI3 : (low.length : Int) < ((low.length + 1 : Nat) : Int) := by omega
            go_wp2_with fail
            go_region
            go_wp2_with fail
            go_region
            go_wp2_with fail
            have h8 := h7.below (((Below.refl _ _).drew).drew)
            clear h7 c1 c2 d2 f2 x0 x1
            have x0 := h8.bx (fun _ _ e => e.1)
            refine (Cx.unexpected h8 ru).mono ?_
            rintro e w6 ⟨rfl, h9⟩
            clear h8 x0 ru
            go_wp2_with fail
            go_ret
            rw [hz.out]
            exact (h9.flag false).post
          · obtain ⟨m2, hm2, c1⟩ := h6.pos
            simp only at hm2 c1
            have hmm : ((m2 : Int) == (m1 : Int)) = false := beq_eq_false_iff_ne.2 (by have := HM1.out; omega)
            have HE := Lib.hid he
            have HM2 := Lib.hid hm2
            clear he hm2
            go_wp2_with fail
            refine (Cx.at1 h6 pRb (by simp)).mono ?_
            rintro e w6 ⟨rfl, h7⟩
            clear x0 x1 h6 c1 hmm
            have x0 := h7.bx (fun _ _ e => e.1)
            have x1 := h7.bx (fun _ _ e => e.2)
            cases ht : atB [pRb] u.rest
            · have rt2 := R.no rt ht
              clear ht rt
              go_wp2_with fail
              refine (Cx.at1 h7 pEq (by simp)).mono ?_
              rintro e w7 ⟨rfl, h8⟩
              clear x0 x1 h7
              have x0 := h8.bx (fun _ _ e => e.1)
              have x1 := h8.bx (fun _ _ e => e.2)
              cases ht : atB [pEq] u.rest
              · have rt3 := R.no rt2 ht
                clear ht rt2
                obtain ⟨v, rw1, rf⟩ := R.seq rt3
                have hz := Lib.hid rf.setFlag
                clear rt3 rf
                go_wp2_with fail
                first
                  | (refine (Cx.wrap h8 rw1 (acts_statement_3_false hI _ _)).mono ?_)
                  | (refine (Cx.wrap h8 rw1 (acts_statement_3_true hI _ _)).mono ?_)
                rintro e w8 ⟨rfl, h9⟩
                clear x0 x1 h8 rw1
                go_wp2_with fail
                go_ret
                rw [hz.out]
                exact (h9.flag false).post
              · have rt3 := R.yes rt2 ht
                clear ht rt2
                obtain ⟨v, rw1, rf⟩ := R.seq rt3
                have hz := Lib.hid rf.setFlag
                clear rt3 rf
                go_wp2_with fail
                refine (Cx.wrap h8 rw1 ((acts_statement_2 hI _).weak (fun _ _ e => e.1))).mono ?_
                rintro e w8 ⟨rfl, h9⟩
                clear x0 x1 h8 rw1
                go_wp2_with fail
                go_ret
                rw [hz.out]
                exact (h9.flag false).post
            · have hz := Lib.hid (R.setFlag (R.yes rt ht))
              clear ht rt
              go_wp2_with fail
              go_ret
              rw [hz.out]
              exact (h7.flag true).post
      · have r3 := R.yes r2 ht
        clear ht r2
        obtain ⟨u, r4, r5⟩ := R.seq r3
        have hz := Lib.hid r5.setFlag
        clear r3 r5
        go_wp2_with fail
        refine (Cx.node h3 r4 (actsC_fn _ .returnS hI ent_returnS True.intro (fun _ => rfl) rfl)).mono ?_
        rintro e w4 ⟨rfl, h4⟩
        clear x0 h3 r4
        go_wp2_with fail
        go_ret
        rw [hz.out]
        exact (h4.flag false).post
    · have r3 := R.yes r ht
      clear ht r
      obtain ⟨u, r4, r5⟩ := R.seq r3
      have hz := Lib.hid r5.setFlag
      clear r3 r5
      go_wp2_with fail
      refine (Cx.node h2 r4 (acts_statement_1 hI _)).mono ?_
      rintro e w4 ⟨rfl, h4⟩
      clear x0 h2 r4
      go_wp2_with fail
      go_ret
      rw [hz.out]
      exact (h4.flag false).post
  · have r3 := R.yes hs ht
    clear ht hs
    obtain ⟨u, r4, r5⟩ := R.seq r3
    have hz := Lib.hid r5.setFlag
    clear r3 r5
    go_wp2_with fail
    refine (Cx.node h1 r4 (actsC_fn _ .letS hI ent_letS True.intro (fun _ => rfl) rfl)).mono ?_
    rintro e w4 ⟨rfl, h4⟩
    clear x0 h1 r4
    go_wp2_with fail
    go_ret
    rw [hz.out]
    exact (h4.flag false).post

def blkT : Test := .and (.not .flag) (.and (.not (.at [pRb])) (.and (.not Cmd.eof) (.not (.at Cmd.items))))
theorem blkT_eval (f : Bool) (r : List Tok) : blkT.eval f r = (!f && (!atB [pRb] r && (!((peekT r).k == 100) && !atB Cmd.items r))) := rfl
def blkC : Cmd := .seq (Cmd.expect pLb) (.seq (.setFlag false) (.seq (.loop blkT (.call .statement)) (.seq (.ite .flag .skip (.leaf 0)) (Cmd.expect pRb))))
theorem body_block : body .block = .node 21 blkC := rfl
set_option maxRecDepth 100000 in
set_option maxHeartbeats 6000000 in
theorem acts_block_1 {n : Nat} {p : Nat} {toks : List Tok} (hI : AllOk n p toks) (b0 : Nat) : ActsC n blkC (Bx b0 (.pointer (some ⟨p, 0, none⟩))) 304 #[] #[.pointer (some ⟨b0, 0, none⟩)] p toks := by
  refine actsC_of (Bx.stays _ _) (ent_of Tryz.func304 (by kernel_rfl) (by kernel_rfl)) ?_
  intro low kind M0 w0 w s s' h0 hs
  show Calls Tryz.prog 304 #[.pointer (some ⟨b0, 0, none⟩)] w _
  unfold blkC at hs
  obtain ⟨u1, r1, hs⟩ := R.seq hs
  obtain ⟨u2, r2, hs⟩ := R.seq hs
  obtain ⟨z, r3, hs⟩ := R.seq hs
  obtain ⟨z2, r4, r5⟩ := R.seq hs
  obtain ⟨m, hl⟩ := R.loop r3
  have hf := Lib.hid r2.setFlag
  clear hs r3 r2
  have x0 := h0.bx (fun _ _ e => e)
  go_enter Tryz.func304, Tryz.ntmps304
  go_wp2_with fail
  refine (Cx.expect h0 r1).mono ?_
  rintro e w1 ⟨rfl, h1⟩
  clear x0 h0 r1
  have h2 := (h1.flag false).eq hf.out
  have hfl := Lib.hid (show u2.flag = false by rw [hf.out])
  clear h1 hf
  go_wp2_with fail
  go_loopg [1] m (fun gk v1 wr => ∃ s1, v1 = .bool s1.flag ∧ (⟨Bx b0 (.pointer (some ⟨p, 0, none⟩)), p, toks, low, kind, M0, w0⟩ : Cx).At wr s1 ∧ RL n gk blkT (.call .statement) s1 z)
  case atStart => exact ⟨u2, by rw [hfl.out], h2, hl⟩
  case round =>
    clear h2 hl hfl
    obtain ⟨s1, rfl, h1, hl⟩ := hrel
    have x0 := h1.bx (fun _ _ e => e)
    have hlt0 : b0 < wr.heap.size := World.block_lt_of_cell? wr _ x0
    have HD := h1.below ((Below.refl _ _).drew)
    cases hf : s1.flag
    · have HF := Lib.hid hf
      clear hf
      cases hb : atB [pRb] s1.rest
      · have HB := Lib.hid hb
        clear hb
        cases he : (peekT s1.rest).k == 100
        · have HE := Lib.hid he
          clear he
          go_wp2_with fail
          go_region_with (first
            | (go_at_call 130; refine (Cx.atL h4 hS rfl (by decide)).mono ?_; rintro e w5 ⟨rfl, h5⟩)
            | (go_at_call 130; refine (Cx.at1 HD pRb (by simp)).mono ?_; rintro e w2 ⟨rfl, h2⟩; rw [HB.out]; have x2 := h2.bx (fun _ _ e => e))
            | (go_at_call 84; refine (Cx.eof h2).mono ?_; rintro e w3 ⟨rfl, h3⟩; rw [HE.out]; have x3 := h3.bx (fun _ _ e => e); have hlt3 : b0 < w3.heap.size := World.block_lt_of_cell? w3 _ x3)
            | (go_at_call 208; refine (itemKeywords_any _ h3.asc).mono ?_; rintro e w4 ⟨rfl, rfl⟩; have h4 := h3.below ((Below.refl _ _).alloc (Nat.le_refl _) (.cells (Cmd.items.map Value.string).toArray 9)); have hS := StrsAt.new _ Cmd.items 9 _ (rfl : _ = w3.heap.size); have x4 := h4.bx (fun _ _ e => e)))
          all_goals
            clear x0 HD h1 x2 h2 x3 h3 x4 h4 hS hlt0 hlt3
            have x0 := h5.bx (fun _ _ e => e)
            cases ht : atB Cmd.items s1.rest
            · obtain ⟨k, v, hk, hc, hl2⟩ := hl.yes (by rw [blkT_eval, HF.out, HB.out, HE.out, ht]; rfl)
              clear ht hl
              go_wp2_with fail
              refine (Cx.fn .statement hI h5 hc True.intro).mono ?_
              rintro e w6 ⟨rfl, h6⟩
              clear x0 h5 hc
              go_wp2_with fail
              go_roundg k
              case rel => exact ⟨v, rfl, h6, hl2⟩
              case measure => exact hk
            · have HT := Lib.hid ht
              clear ht x0
              have hz := Lib.hid (hl.no (by rw [blkT_eval, HT.out]; simp))
              have ra := R.no r4 (show z.flag = false by rw [hz.out]; exact HF.out)
              have hh := h5.eq hz.out
              clear hl hz h5
              have x0 := hh.bx (fun _ _ e => e)
              go_wp2_with fail
              refine (Cx.absent hh ra).mono ?_
              rintro e w6 ⟨rfl, h6⟩
              clear x0 hh ra
              have x0 := h6.bx (fun _ _ e => e)
              go_wp2_with fail
              refine (Cx.expect h6 r5).mono ?_
              rintro e w7 ⟨rfl, h7⟩
              clear x0 h6
              go_wp2_with fail
              go_end0
              exact ⟨rfl, h7⟩
        · have HE := Lib.hid he
          clear he
          go_wp2_with fail
          go_region_with (first
            | (go_at_call 130; refine (Cx.at1 HD pRb (by simp)).mono ?_; rintro e w2 ⟨rfl, h2⟩; rw [HB.out]; have x2 := h2.bx (fun _ _ e => e))
            | (go_at_call 84; refine (Cx.eof h2).mono ?_; rintro e w3 ⟨rfl, h3⟩; rw [HE.out]))
          all_goals
            clear x0 HD h1 x2 h2 hlt0
            have hz := Lib.hid (hl.no (by rw [blkT_eval, HE.out]; simp))
            have ra := R.no r4 (show z.flag = false by rw [hz.out]; exact HF.out)
            have hh := h3.eq hz.out
            clear hl hz h3
            have x0 := hh.bx (fun _ _ e => e)
            go_wp2_with fail
            refine (Cx.absent hh ra).mono ?_
            rintro e w6 ⟨rfl, h6⟩
            clear x0 hh ra
            have x0 := h6.bx (fun _ _ e => e)
            go_wp2_with fail
            refine (Cx.expect h6 r5).mono ?_
            rintro e w7 ⟨rfl, h7⟩
            clear x0 h6
            go_wp2_with fail
            go_end0
            exact ⟨rfl, h7⟩
      · have HB := Lib.hid hb
        clear hb
        go_wp2_with fail
        go_region_with (go_at_call 130; refine (Cx.at1 HD pRb (by simp)).mono ?_; rintro e w2 ⟨rfl, h2⟩; rw [HB.out]; have x2 := h2.bx (fun _ _ e => e))
        all_goals
          clear x0 HD h1 x2 hlt0
          have hz := Lib.hid (hl.no (by rw [blkT_eval, HB.out]; simp))
          have ra := R.no r4 (show z.flag = false by rw [hz.out]; exact HF.out)
          have hh := h2.eq hz.out
          clear hl hz h2
          have x0 := hh.bx (fun _ _ e => e)
          go_wp2_with fail
          refine (Cx.absent hh ra).mono ?_
          rintro e w6 ⟨rfl, h6⟩
          clear x0 hh ra
          have x0 := h6.bx (fun _ _ e => e)
          go_wp2_with fail
          refine (Cx.expect h6 r5).mono ?_
          rintro e w7 ⟨rfl, h7⟩
          clear x0 h6
          go_wp2_with fail
          go_end0
          exact ⟨rfl, h7⟩
    · have HF := Lib.hid hf
      clear hf
      go_wp2_with fail
      go_region
      all_goals
        clear x0 h1 hlt0
        have hz := Lib.hid (hl.no (by rw [blkT_eval, HF.out]; rfl))
        have ra := (R.yes r4 (show z.flag = true by rw [hz.out]; exact HF.out)).skip
        have hra := Lib.hid (ra.trans hz.out)
        have hh := HD.eq hra.out
        clear hl hz HD ra hra
        have x0 := hh.bx (fun _ _ e => e)
        go_wp2_with fail
        refine (Cx.expect hh r5).mono ?_
        rintro e w7 ⟨rfl, h7⟩
        clear x0 hh
        go_wp2_with fail
        go_end0
        exact ⟨rfl, h7⟩
set_option maxRecDepth 100000 in
theorem fn_block {n : Nat} {p : Nat} {toks : List Tok} (hI : AllOk n p toks) : FnOk n p toks .block := by
  intro hd w M low kind s s' hp hs
  rw [body_block] at hs
  show Calls Tryz.prog 263 #[.pointer (some ⟨p, 0, none⟩)] w _
  have h0 := Cx.At.start hp (v := .pointer (some ⟨p, 0, none⟩)) (t := 174)
  clear hp
  have x0 := h0.bx (fun _ _ e => e)
  go_enter Tryz.func263, Tryz.ntmps263
  go_wp2_with fail
  refine (Cx.node h0 hs (acts_block_1 hI (w.heap.size))).mono ?_
  rintro e w1 ⟨rfl, h1⟩
  clear x0 h0 hs
  go_wp2_with fail
  go_end0
  exact h1.post
end Go.Proofs.YtpibenilagloaaaGreatDoor
