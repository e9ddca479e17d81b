import Derived.Test.YtpibenilagloaaaGreatDoorMxao
/-
  (*parser).statement: the walk.
-/
namespace Go.Proofs.YtpibenilagloaaaGreatDoor
open Go.RowKit
set_option linter.unusedVariables false

/-- the last child of the innermost node is taken away -/
theorem PAtX.cutTop {w : World} {p : Nat} {M : MM} {toks : List Tok} {low : List LowF} {kind : Int} {s : PS} {g cap : Nat} {At : Option Addr} {ct b n c : Nat} {pre : List Tree} (hX : PAtX w p M toks low kind s g cap (.slice (some ⟨b, 0, none⟩) (n + 1) c) At ct) (hK : KidsAt w (Fix w M) (.slice (some ⟨b, 0, none⟩) n c) pre) (hn : pre.length + 1 ≤ s.ch.length) :
    PAt (w.setCell ⟨g, low.length * 3 + 2, none⟩ (.slice (some ⟨b, 0, none⟩) n c)) p (With M (.slice (some ⟨b, 0, none⟩) n c)) toks low kind { s with ch := pre } ∧ Step M w (With M (.slice (some ⟨b, 0, none⟩) n c)) (w.setCell ⟨g, low.length * 3 + 2, none⟩ (.slice (some ⟨b, 0, none⟩) n c)) := by
  have hblt := hX.kids.lt b rfl
  have hbg : b ≠ g := fun e => hX.apart.2.2.1 (by rw [← e]; rfl)
  have hown2 := hX.row
  obtain ⟨X0, T0⟩ := hX.retop (wf := w.setCell ⟨g, low.length * 3 + 2, none⟩ (.slice (some ⟨b, 0, none⟩) n c)) (.slice (some ⟨b, 0, none⟩) n c) { s with ch := pre } rfl rfl rfl (by simp)
    (fun b' hlt hbg hbv => Below.heap_setCell _ _ _ _ hbg)
    (.inr (.inl rfl))
    (by
      have h1 := (hown2.stored (low.length * 3 + 2) (.slice (some ⟨b, 0, none⟩) n c)).1
      rw [← lowCells_length low, List.set_append_right _ _ (by omega), Nat.add_sub_cancel_left, lowCells_length low] at h1
      exact h1)
    (fun hfix hsame => hK.keep hfix hsame (fun k hk => by
        simp only [Value.ownBlock, Option.some.injEq] at hk
        subst hk
        exact Below.heap_setCell _ _ _ _ hbg))
    rfl (by have := hX.bch; show pre.length + s.gas ≤ 1000000; omega) hX.blow
  exact ⟨⟨_, _, _, _, _, X0⟩, T0⟩
theorem Cx.At.cut {n : Nat} {c : Cx} {w : World} {u ud : PS} (h : c.At w u) (hd : R n .dropLast u ud) : ∃ g cap b k cc, w.cell? ⟨c.p, 2, none⟩ = some (.slice (some ⟨g, 0, none⟩) (c.low.length + 1) cap) ∧ w.cell? ⟨g, c.low.length * 3 + 2, none⟩ = some (.slice (some ⟨b, 0, none⟩) (k + 1) cc) ∧ w.frozen? ⟨g, c.low.length * 3 + 2, none⟩ = false ∧ g < w.heap.size ∧ k + 1 ≤ cc ∧ k + 1 ≤ 1000000 ∧ c.low.length ≤ 1000000 ∧
    c.At (w.setCell ⟨g, c.low.length * 3 + 2, none⟩ (.slice (some ⟨b, 0, none⟩) k cc)) ud := by
  obtain ⟨hne, hud⟩ := hd.dropLast
  obtain ⟨hE, M, ⟨g, cap, v, At, ct, hX⟩, hst, hen⟩ := h
  have hch : u.ch = u.ch.dropLast ++ [u.ch.getLast hne] := (List.dropLast_concat_getLast hne).symm
  have hk := hX.kids
  rw [hch] at hk
  obtain ⟨b, cc, v0, v1, v2, rfl, hnc, hvb, hblt, _, _, _, _, hK⟩ := last_child hk
  have hlen : u.ch.dropLast.length + 1 = u.ch.length := by
    have := congrArg List.length hch
    rw [List.length_append, List.length_singleton] at this
    exact this.symm
  obtain ⟨P1, P2⟩ := hX.cutTop hK (by omega)
  have hb := hX.bch
  have hl := hX.blow
  exact ⟨g, cap, b, u.ch.dropLast.length, cc, hX.cells.2.2, hX.top.2.2, hX.row.frozenAt _, (hX.row.lt g rfl).2, hnc, by omega, by omega, hE, _, by rw [hud]; exact P1, hst.trans P2, hE _ _ _ _ hen P2⟩
def tailS (c : Cmd) (bl : Bool) : Cmd := stmtTail c bl
theorem body_statement : body .statement = .ite (.at [kLet]) (.seq (.node 22 (.call .letS)) (.setFlag false)) (.ite (.at [kWhile]) (.seq (.node 24 (.seq .bump (.seq (.call .expr) (.call .block)))) (.setFlag false)) (.ite (.at [kReturn]) (.seq (.node 25 (.call .returnS)) (.setFlag false)) (.ite (.at [kIf, kMatch, pLb]) (tailS (.call .primary) true) (tailS (.call .expr) false)))) := rfl
theorem tail_eq (c : Cmd) (bl : Bool) : tailS c bl = .moved c (.seq .dropLast (.seq Cmd.unexpected (.setFlag false))) (.ite (.at [pRb]) (.setFlag true) (.ite (.at [pEq]) (.seq (.wrap 23 (.seq .bump (.seq (.call .expr) (Cmd.expect pSemi)))) (.setFlag false)) (.seq (.wrap 26 (.ite (.at [pSemi]) .bump (if bl then .skip else .leaf 108))) (.setFlag false)))) := rfl

set_option maxRecDepth 100000 in
set_option maxHeartbeats 3200000 in
theorem fn_statement {n : Nat} {p : Nat} {toks : List Tok} (hI : AllOk n p toks) : FnOk n p toks .statement := by
  intro hd w M low kind s s' hp hs
  rw [body_statement] at hs
  show Calls Tryz.prog 305 #[.pointer (some ⟨p, 0, none⟩)] w _
  have h0 := Cx.At.start hp (v := .pointer (some ⟨p, 0, none⟩)) (t := 174)
  clear hp
  have x0 := h0.bx (fun _ _ e => e)
  go_enter Tryz.func305, Tryz.ntmps305
  go_wp2_with fail
  refine (Cx.at1 h0 kLet (by simp)).mono ?_
  rintro e w1 ⟨rfl, h1⟩
  clear x0 h0
  have x0 := h1.bx (fun _ _ e => e)
  cases ht : atB [kLet] s.rest
  · have r := R.no hs ht
    clear ht hs
    go_wp2_with fail
    refine (Cx.at1 h1 kWhile (by simp)).mono ?_
    rintro e w2 ⟨rfl, h2⟩
    clear x0 h1
    have x0 := h2.bx (fun _ _ e => e)
    cases ht : atB [kWhile] s.rest
    · have r2 := R.no r ht
      clear ht r
      go_wp2_with fail
      refine (Cx.at1 h2 kReturn (by simp)).mono ?_
      rintro e w3 ⟨rfl, h3⟩
      clear x0 h2
      have x0 := h3.bx (fun _ _ e => e)
      cases ht : atB [kReturn] s.rest
      · have r3 := R.no r2 ht
        clear ht r2
        obtain ⟨m1, hm1, c1⟩ := h3.pos
        have HM1 := Lib.hid hm1
        clear hm1
        go_wp2_with fail
        refine (Cx.at3 h3 kIf kMatch pLb (by simp)).mono ?_
        rintro e w4 ⟨rfl, h4⟩
        clear x0 c1 h3
        have hlt0 : w.heap.size < w4.heap.size := World.block_lt_of_cell? w4 _ (h4.bx (fun _ _ e => e))
        cases ht : atB [kIf, kMatch, pLb] s.rest
        all_goals
          first
            | (have r4 := R.no r3 ht; have h5 := h4.box (v := .bool false) (t := 4) (n := w4.heap.size) rfl)
            | (have r4 := R.yes r3 ht; have h5 := h4.box (v := .bool true) (t := 4) (n := w4.heap.size) rfl)
          rw [tail_eq] at r4
          obtain ⟨u, rc, rm⟩ := r4.moved
          clear ht r3 r4 h4
          have x0 := h5.bx (fun _ _ e => e.1)
          have x1 := h5.bx (fun _ _ e => e.2)
          go_wp2_with fail
          first
            | (refine (Cx.fn .expr hI h5 rc True.intro).mono ?_)
            | (refine (Cx.fn .primary hI h5 rc True.intro).mono ?_)
          rintro e w5 ⟨rfl, h6⟩
          clear x0 x1 h5 rc
          have x0 := h6.bx (fun _ _ e => e.1)
          have x1 := h6.bx (fun _ _ e => e.2)
          rcases rm with ⟨he, rd⟩ | ⟨he, rt⟩
          · obtain ⟨ud, rd1, rd2⟩ := R.seq rd
            obtain ⟨uu, ru, rf⟩ := R.seq rd2
            obtain ⟨m2, hm2, c1⟩ := h6.pos
            simp only at hm2 c1
            have hmm : m2 = m1 := by have := HM1.out; omega
            subst hmm
            obtain ⟨g, cap, b, k, cc, c2, d2, f2, hgl, hkc, hkm, hlm, h7⟩ := h6.cut rd1
            simp only at c2 d2 f2 hlm
            have hz := Lib.hid rf.setFlag
            have HE := Lib.hid he
            have HM2 := Lib.hid hm2
            clear rd rd1 rd2 rf he hm2 h6
            have hkI : (0 : Int) ≤ k := by omega
            have hkI2 : (k : Int) + 1 ≤ cc := by omega
            have hkI4 : (k : Int) ≤ cc := by omega
            have hLI : (0 : Int) ≤ low.length := by omega
            have hLI2 : (low.length : Int) < (low.length : Int) + 1 := by omega
            have hLI3 : (low.length : Int) < ((low.length + 1 : Nat) : Int) := by omega
            go_wp2_with fail
            go_region
            go_wp2_with fail
            go_region
            go_wp2_with fail
            have h8 := h7.below (((Below.refl _ _).drew).drew)
            clear h7 c1 c2 d2 f2 x0 x1
            have x0 := h8.bx (fun _ _ e => e.1)
            refine (Cx.unexpected h8 ru).mono ?_
            rintro e w6 ⟨rfl, h9⟩
            clear h8 x0 ru
            go_wp2_with fail
            go_ret
            rw [hz.out]
            exact (h9.flag false).post
          · obtain ⟨m2, hm2, c1⟩ := h6.pos
            simp only at hm2 c1
            have hmm : ((m2 : Int) == (m1 : Int)) = false := beq_eq_false_iff_ne.2 (by have := HM1.out; omega)
            have HE := Lib.hid he
            have HM2 := Lib.hid hm2
            clear he hm2
            go_wp2_with fail
            refine (Cx.at1 h6 pRb (by simp)).mono ?_
            rintro e w6 ⟨rfl, h7⟩
            clear x0 x1 h6 c1 hmm
            have x0 := h7.bx (fun _ _ e => e.1)
            have x1 := h7.bx (fun _ _ e => e.2)
            cases ht : atB [pRb] u.rest
            · have rt2 := R.no rt ht
              clear ht rt
              go_wp2_with fail
              refine (Cx.at1 h7 pEq (by simp)).mono ?_
              rintro e w7 ⟨rfl, h8⟩
              clear x0 x1 h7
              have x0 := h8.bx (fun _ _ e => e.1)
              have x1 := h8.bx (fun _ _ e => e.2)
              cases ht : atB [pEq] u.rest
              · have rt3 := R.no rt2 ht
                clear ht rt2
                obtain ⟨v, rw1, rf⟩ := R.seq rt3
                have hz := Lib.hid rf.setFlag
                clear rt3 rf
                go_wp2_with fail
                first
                  | (refine (Cx.wrap h8 rw1 (acts_statement_3_false hI _ _)).mono ?_)
                  | (refine (Cx.wrap h8 rw1 (acts_statement_3_true hI _ _)).mono ?_)
                rintro e w8 ⟨rfl, h9⟩
                clear x0 x1 h8 rw1
                go_wp2_with fail
                go_ret
                rw [hz.out]
                exact (h9.flag false).post
              · have rt3 := R.yes rt2 ht
                clear ht rt2
                obtain ⟨v, rw1, rf⟩ := R.seq rt3
                have hz := Lib.hid rf.setFlag
                clear rt3 rf
                go_wp2_with fail
                refine (Cx.wrap h8 rw1 ((acts_statement_2 hI _).weak (fun _ _ e => e.1))).mono ?_
                rintro e w8 ⟨rfl, h9⟩
                clear x0 x1 h8 rw1
                go_wp2_with fail
                go_ret
                rw [hz.out]
                exact (h9.flag false).post
            · have hz := Lib.hid (R.setFlag (R.yes rt ht))
              clear ht rt
              go_wp2_with fail
              go_ret
              rw [hz.out]
              exact (h7.flag true).post
      · have r3 := R.yes r2 ht
        clear ht r2
        obtain ⟨u, r4, r5⟩ := R.seq r3
        have hz := Lib.hid r5.setFlag
        clear r3 r5
        go_wp2_with fail
        refine (Cx.node h3 r4 (actsC_fn _ .returnS hI ent_returnS True.intro (fun _ => rfl) rfl)).mono ?_
        rintro e w4 ⟨rfl, h4⟩
        clear x0 h3 r4
        go_wp2_with fail
        go_ret
        rw [hz.out]
        exact (h4.flag false).post
    · have r3 := R.yes r ht
      clear ht r
      obtain ⟨u, r4, r5⟩ := R.seq r3
      have hz := Lib.hid r5.setFlag
      clear r3 r5
      go_wp2_with fail
      refine (Cx.node h2 r4 (acts_statement_1 hI _)).mono ?_
      rintro e w4 ⟨rfl, h4⟩
      clear x0 h2 r4
      go_wp2_with fail
      go_ret
      rw [hz.out]
      exact (h4.flag false).post
  · have r3 := R.yes hs ht
    clear ht hs
    obtain ⟨u, r4, r5⟩ := R.seq r3
    have hz := Lib.hid r5.setFlag
    clear r3 r5
    go_wp2_with fail
    refine (Cx.node h1 r4 (actsC_fn _ .letS hI ent_letS True.intro (fun _ => rfl) rfl)).mono ?_
    rintro e w4 ⟨rfl, h4⟩
    clear x0 h1 r4
    go_wp2_with fail
    go_ret
    rw [hz.out]
    exact (h4.flag false).post
end Go.Proofs.YtpibenilagloaaaGreatDoor

/-
  (*parser).block: the walk.
-/
namespace Go.Proofs.YtpibenilagloaaaGreatDoor
open Go.RowKit
set_option linter.unusedVariables false

def blkT : Test := .and (.not .flag) (.and (.not (.at [pRb])) (.and (.not Cmd.eof) (.not (.at Cmd.items))))
theorem blkT_eval (f : Bool) (r : List Tok) : blkT.eval f r = (!f && (!atB [pRb] r && (!((peekT r).k == 100) && !atB Cmd.items r))) := rfl
def blkC : Cmd := .seq (Cmd.expect pLb) (.seq (.setFlag false) (.seq (.loop blkT (.call .statement)) (.seq (.ite .flag .skip (.leaf 0)) (Cmd.expect pRb))))
theorem body_block : body .block = .node 21 blkC := rfl
set_option maxRecDepth 100000 in
set_option maxHeartbeats 6000000 in
theorem acts_block_1 {n : Nat} {p : Nat} {toks : List Tok} (hI : AllOk n p toks) (b0 : Nat) : ActsC n blkC (Bx b0 (.pointer (some ⟨p, 0, none⟩))) 304 #[] #[.pointer (some ⟨b0, 0, none⟩)] p toks := by
  refine actsC_of (Bx.stays _ _) (ent_of Tryz.func304 (by kernel_rfl) (by kernel_rfl)) ?_
  intro low kind M0 w0 w s s' h0 hs
  show Calls Tryz.prog 304 #[.pointer (some ⟨b0, 0, none⟩)] w _
  unfold blkC at hs
  obtain ⟨u1, r1, hs⟩ := R.seq hs
  obtain ⟨u2, r2, hs⟩ := R.seq hs
  obtain ⟨z, r3, hs⟩ := R.seq hs
  obtain ⟨z2, r4, r5⟩ := R.seq hs
  obtain ⟨m, hl⟩ := R.loop r3
  have hf := Lib.hid r2.setFlag
  clear hs r3 r2
  have x0 := h0.bx (fun _ _ e => e)
  go_enter Tryz.func304, Tryz.ntmps304
  go_wp2_with fail
  refine (Cx.expect h0 r1).mono ?_
  rintro e w1 ⟨rfl, h1⟩
  clear x0 h0 r1
  have h2 := (h1.flag false).eq hf.out
  have hfl := Lib.hid (show u2.flag = false by rw [hf.out])
  clear h1 hf
  go_wp2_with fail
  go_loopg [1] m (fun gk v1 wr => ∃ s1, v1 = .bool s1.flag ∧ (⟨Bx b0 (.pointer (some ⟨p, 0, none⟩)), p, toks, low, kind, M0, w0⟩ : Cx).At wr s1 ∧ RL n gk blkT (.call .statement) s1 z)
  case atStart => exact ⟨u2, by rw [hfl.out], h2, hl⟩
  case round =>
    clear h2 hl hfl
    obtain ⟨s1, rfl, h1, hl⟩ := hrel
    have x0 := h1.bx (fun _ _ e => e)
    have hlt0 : b0 < wr.heap.size := World.block_lt_of_cell? wr _ x0
    have HD := h1.below ((Below.refl _ _).drew)
    cases hf : s1.flag
    · have HF := Lib.hid hf
      clear hf
      cases hb : atB [pRb] s1.rest
      · have HB := Lib.hid hb
        clear hb
        cases he : (peekT s1.rest).k == 100
        · have HE := Lib.hid he
          clear he
          go_wp2_with fail
          go_region_with (first
            | (go_at_call 130; refine (Cx.atL h4 hS rfl (by decide)).mono ?_; rintro e w5 ⟨rfl, h5⟩)
            | (go_at_call 130; refine (Cx.at1 HD pRb (by simp)).mono ?_; rintro e w2 ⟨rfl, h2⟩; rw [HB.out]; have x2 := h2.bx (fun _ _ e => e))
            | (go_at_call 84; refine (Cx.eof h2).mono ?_; rintro e w3 ⟨rfl, h3⟩; rw [HE.out]; have x3 := h3.bx (fun _ _ e => e); have hlt3 : b0 < w3.heap.size := World.block_lt_of_cell? w3 _ x3)
            | (go_at_call 208; refine (itemKeywords_any _ h3.asc).mono ?_; rintro e w4 ⟨rfl, rfl⟩; have h4 := h3.below ((Below.refl _ _).alloc (Nat.le_refl _) (.cells (Cmd.items.map Value.string).toArray 9)); have hS := StrsAt.new _ Cmd.items 9 _ (rfl : _ = w3.heap.size); have x4 := h4.bx (fun _ _ e => e)))
          all_goals
            clear x0 HD h1 x2 h2 x3 h3 x4 h4 hS hlt0 hlt3
            have x0 := h5.bx (fun _ _ e => e)
            cases ht : atB Cmd.items s1.rest
            · obtain ⟨k, v, hk, hc, hl2⟩ := hl.yes (by rw [blkT_eval, HF.out, HB.out, HE.out, ht]; rfl)
              clear ht hl
              go_wp2_with fail
              refine (Cx.fn .statement hI h5 hc True.intro).mono ?_
              rintro e w6 ⟨rfl, h6⟩
              clear x0 h5 hc
              go_wp2_with fail
              go_roundg k
              case rel => exact ⟨v, rfl, h6, hl2⟩
              case measure => exact hk
            · have HT := Lib.hid ht
              clear ht x0
              have hz := Lib.hid (hl.no (by rw [blkT_eval, HT.out]; simp))
              have ra := R.no r4 (show z.flag = false by rw [hz.out]; exact HF.out)
              have hh := h5.eq hz.out
              clear hl hz h5
              have x0 := hh.bx (fun _ _ e => e)
              go_wp2_with fail
              refine (Cx.absent hh ra).mono ?_
              rintro e w6 ⟨rfl, h6⟩
              clear x0 hh ra
              have x0 := h6.bx (fun _ _ e => e)
              go_wp2_with fail
              refine (Cx.expect h6 r5).mono ?_
              rintro e w7 ⟨rfl, h7⟩
              clear x0 h6
              go_wp2_with fail
              go_end0
              exact ⟨rfl, h7⟩
        · have HE := Lib.hid he
          clear he
          go_wp2_with fail
          go_region_with (first
            | (go_at_call 130; refine (Cx.at1 HD pRb (by simp)).mono ?_; rintro e w2 ⟨rfl, h2⟩; rw [HB.out]; have x2 := h2.bx (fun _ _ e => e))
            | (go_at_call 84; refine (Cx.eof h2).mono ?_; rintro e w3 ⟨rfl, h3⟩; rw [HE.out]))
          all_goals
            clear x0 HD h1 x2 h2 hlt0
            have hz := Lib.hid (hl.no (by rw [blkT_eval, HE.out]; simp))
            have ra := R.no r4 (show z.flag = false by rw [hz.out]; exact HF.out)
            have hh := h3.eq hz.out
            clear hl hz h3
            have x0 := hh.bx (fun _ _ e => e)
            go_wp2_with fail
            refine (Cx.absent hh ra).mono ?_
            rintro e w6 ⟨rfl, h6⟩
            clear x0 hh ra
            have x0 := h6.bx (fun _ _ e => e)
            go_wp2_with fail
            refine (Cx.expect h6 r5).mono ?_
            rintro e w7 ⟨rfl, h7⟩
            clear x0 h6
            go_wp2_with fail
            go_end0
            exact ⟨rfl, h7⟩
      · have HB := Lib.hid hb
        clear hb
        go_wp2_with fail
        go_region_with (go_at_call 130; refine (Cx.at1 HD pRb (by simp)).mono ?_; rintro e w2 ⟨rfl, h2⟩; rw [HB.out]; have x2 := h2.bx (fun _ _ e => e))
        all_goals
          clear x0 HD h1 x2 hlt0
          have hz := Lib.hid (hl.no (by rw [blkT_eval, HB.out]; simp))
          have ra := R.no r4 (show z.flag = false by rw [hz.out]; exact HF.out)
          have hh := h2.eq hz.out
          clear hl hz h2
          have x0 := hh.bx (fun _ _ e => e)
          go_wp2_with fail
          refine (Cx.absent hh ra).mono ?_
          rintro e w6 ⟨rfl, h6⟩
          clear x0 hh ra
          have x0 := h6.bx (fun _ _ e => e)
          go_wp2_with fail
          refine (Cx.expect h6 r5).mono ?_
          rintro e w7 ⟨rfl, h7⟩
          clear x0 h6
          go_wp2_with fail
          go_end0
          exact ⟨rfl, h7⟩
    · have HF := Lib.hid hf
      clear hf
      go_wp2_with fail
      go_region
      all_goals
        clear x0 h1 hlt0
        have hz := Lib.hid (hl.no (by rw [blkT_eval, HF.out]; rfl))
        have ra := (R.yes r4 (show z.flag = true by rw [hz.out]; exact HF.out)).skip
        have hra := Lib.hid (ra.trans hz.out)
        have hh := HD.eq hra.out
        clear hl hz HD ra hra
        have x0 := hh.bx (fun _ _ e => e)
        go_wp2_with fail
        refine (Cx.expect hh r5).mono ?_
        rintro e w7 ⟨rfl, h7⟩
        clear x0 hh
        go_wp2_with fail
        go_end0
        exact ⟨rfl, h7⟩
set_option maxRecDepth 100000 in
theorem fn_block {n : Nat} {p : Nat} {toks : List Tok} (hI : AllOk n p toks) : FnOk n p toks .block := by
  intro hd w M low kind s s' hp hs
  rw [body_block] at hs
  show Calls Tryz.prog 263 #[.pointer (some ⟨p, 0, none⟩)] w _
  have h0 := Cx.At.start hp (v := .pointer (some ⟨p, 0, none⟩)) (t := 174)
  clear hp
  have x0 := h0.bx (fun _ _ e => e)
  go_enter Tryz.func263, Tryz.ntmps263
  go_wp2_with fail
  refine (Cx.node h0 hs (acts_block_1 hI (w.heap.size))).mono ?_
  rintro e w1 ⟨rfl, h1⟩
  clear x0 h0 hs
  go_wp2_with fail
  go_end0
  exact h1.post
end Go.Proofs.YtpibenilagloaaaGreatDoor

/-
  A write into a box that the parser's data do not reach.
-/
namespace Go.Proofs.YtpibenilagloaaaGreatDoor
open Go.RowKit
set_option linter.unusedVariables false

mutual
theorem TreeV.poke {w w' : World} {F : Nat → Prop} {n : Nat} {x : Bool} (hn : w.cell? ⟨n, 0, none⟩ = some (.bool x)) (hw : ∀ b, b ≠ n → w'.heap[b]? = w.heap[b]?) : ∀ (t : Tree) (v0 v1 v2 : Value), TreeV w F t v0 v1 v2 → TreeV w' F t v0 v1 v2
  | .mk k t ch, v0, v1, v2, h => by
    unfold TreeV at h ⊢
    obtain ⟨h0, h1, A, c, h2, h3⟩ := h
    refine ⟨h0, h1, A, c, h2, ?_⟩
    cases ch with
    | nil => exact .inl rfl
    | cons y r =>
      rcases h3 with h3 | ⟨b, hA, hb, h3⟩
      · cases h3
      · have hbn : b ≠ n := by
          intro e
          subst e
          obtain ⟨yk, yt, yc⟩ := y
          unfold TreesV at h3
          obtain ⟨⟨u0, u1, u2, g0, _, _, g3⟩, _⟩ := h3
          unfold TreeV at g3
          rw [g0, g3.1] at hn
          cases hn
        exact .inr ⟨b, hA, hb, TreesV.poke hn hw (y :: r) b 0 hbn h3⟩
theorem TreesV.poke {w w' : World} {F : Nat → Prop} {n : Nat} {x : Bool} (hn : w.cell? ⟨n, 0, none⟩ = some (.bool x)) (hw : ∀ b, b ≠ n → w'.heap[b]? = w.heap[b]?) : ∀ (xs : List Tree) (b i : Nat), b ≠ n → TreesV w F xs b i → TreesV w' F xs b i
  | [], _, _, _, _ => by unfold TreesV; trivial
  | y :: r, b, i, hb, h => by
    unfold TreesV at h ⊢
    obtain ⟨⟨v0, v1, v2, h0, h1, h2, h3⟩, h4⟩ := h
    have e := fun j => World.cell?_of_block (w := w) (w' := w') (a := ⟨b, j, none⟩) (hw b hb)
    exact ⟨⟨v0, v1, v2, (e _).trans h0, (e _).trans h1, (e _).trans h2, TreeV.poke hn hw y v0 v1 v2 h3⟩, TreesV.poke hn hw r b (i + 3) hb h4⟩
end
theorem RowV.poke {w w' : World} {F : Nat → Prop} {n : Nat} {x : Bool} (hn : w.cell? ⟨n, 0, none⟩ = some (.bool x)) (hw : ∀ b, b ≠ n → w'.heap[b]? = w.heap[b]?) : ∀ (vs : List Value) (xs : List Tree), RowV w F vs xs → RowV w' F vs xs
  | v0 :: v1 :: v2 :: r, y :: xs, h => by
    unfold RowV at h ⊢
    exact ⟨TreeV.poke hn hw y v0 v1 v2 h.1, RowV.poke hn hw r xs h.2⟩
  | [], [], _ => by unfold RowV; trivial
  | [], _ :: _, h => by simp [RowV] at h
  | [_], _, h => by simp [RowV] at h
  | [_, _], _, h => by simp [RowV] at h
  | _ :: _ :: _ :: _, [], h => by simp [RowV] at h
theorem KidsAt.poke {w w' : World} {F F' : Nat → Prop} {n : Nat} {x : Bool} {v : Value} {ch : List Tree} (h : KidsAt w F v ch) (hn : w.cell? ⟨n, 0, none⟩ = some (.bool x)) (hw : ∀ b, b ≠ n → w'.heap[b]? = w.heap[b]?) (hv : v.ownBlock ≠ some n) (hF : ∀ b, F b → F' b) : KidsAt w' F' v ch := by
  obtain ⟨xs, h1, h2⟩ := h
  exact ⟨xs, ownsRow_below h1 fun g hg => hw g (fun e => hv (by rw [hg, e])), RowV.keep hF (fun _ _ => rfl) _ _ (RowV.poke hn hw _ _ h2)⟩
theorem AscAt.cell {w : World} (h : AscAt w) : w.cell? ⟨1, 0, none⟩ = some (.int .u8 0) := by
  unfold AscAt Lib.TabIs World.var? at h
  rw [glob_asc] at h
  simp only [Option.bind_some] at h
  split at h
  · next cs t fr hh =>
    injection h with h
    rw [Lib.cell_of_heap hh, h]
    simp [Lib.asciiSpaceTab, Lib.isSp]
  · cases h
theorem PAt.poke {w : World} {p : Nat} {M : MM} {toks : List Tok} {low : List LowF} {kind : Int} {s : PS} (h : PAt w p M toks low kind s) {n : Nat} {x : Bool} (hn : w.cell? ⟨n, 0, none⟩ = some (.bool x)) (hM : ¬ M n) (u : Value) : PAt (w.setCell ⟨n, 0, none⟩ u) p M toks low kind s := by
  obtain ⟨g, cap, v, At, ct, hX⟩ := h
  have hw : ∀ b, b ≠ n → (w.setCell ⟨n, 0, none⟩ u).heap[b]? = w.heap[b]? := fun b hb => Below.heap_setCell _ _ _ _ hb
  obtain ⟨m1, m2, m3, m4⟩ := hX.mine
  have hne : ∀ b, M b → b ≠ n := fun b hb e => hM (e ▸ hb)
  have hF : ∀ b, Fix w M b → Fix (w.setCell ⟨n, 0, none⟩ u) M b := fun b hb => ⟨by rw [World.size_setCell]; exact hb.1, hb.2, hb.3⟩
  exact ⟨g, cap, v, At, ct, { hX with
    blk := (hw p (hne p m1)).trans hX.blk
    hole := ⟨by rw [World.size_setCell]; exact hX.hole.1, hX.hole.2⟩
    row := ownsRow_below hX.row fun k hk => hw k (fun e => by simp only [Value.ownBlock, Option.some.injEq] at hk; exact hne g m2 (hk.trans e))
    kids := hX.kids.poke hn hw (fun e => hne n (m3 n e) rfl) hF
    lows := fun f hf => (hX.lows f hf).poke hn hw (fun e => hne n (m4 f hf n e) rfl) hF
    tok := fun hp => by
      obtain ⟨b, hA, hb, hc⟩ := hX.tok hp
      have hbn : b ≠ n := by
        intro e
        subst e
        have := (hc 0 toks[0] (List.getElem?_eq_getElem hp)).1
        rw [Nat.zero_mul] at this
        rw [this] at hn
        cases hn
      have e := fun j => World.cell?_of_block (w := w) (a := ⟨b, j, none⟩) (hw b hbn)
      exact ⟨b, hA, hF b hb, fun k y hy => ⟨(e _).trans (hc k y hy).1, (e _).trans (hc k y hy).2⟩⟩
    asc := hX.asc.keep (hw _ (fun e => by have := hX.asc.cell; rw [e, hn] at this; cases this)) }⟩
/-- what a closure does that may write box n too -/
structure QG (n : Nat) (w : World) (M : MM) (w' : World) (M' : MM) (s' : PS) : Prop where
  os : w'.os = w.os
  tape : w'.tape = w.tape
  output : w'.output = w.output
  size : w.heap.size ≤ w'.heap.size
  block : ∀ b, b < w.heap.size → ¬ M b → b ≠ n → w'.heap[b]? = w.heap[b]?
  own : ∀ b, M' b → M b ∨ w.heap.size ≤ b
  cell : w'.cell? ⟨n, 0, none⟩ = some (.bool s'.flag)
  free : ¬ M' n
  hx : M'.x = M.x
theorem setCell_same {w : World} {n : Nat} {v : Value} (h : w.cell? ⟨n, 0, none⟩ = some v) : w.setCell ⟨n, 0, none⟩ v = w := by
  unfold World.cell? at h
  unfold World.setCell
  obtain ⟨heap, tape, drawn, os, output⟩ := w
  simp only at h ⊢
  congr 1
  apply Array.ext
  · simp
  · intro i h1 h2
    rw [Array.getElem_modify]
    split
    · next e =>
      subst e
      rw [Array.getElem?_eq_getElem h2] at h
      generalize heap[n] = o at h ⊢
      cases o with
      | cells c t fr =>
        simp only [Option.isSome_none, Bool.false_eq_true, if_false] at h ⊢
        congr 1
        apply Array.ext
        · simp
        · intro j k1 k2
          rw [Array.getElem_setIfInBounds]
          split
          · next e2 =>
            subst e2
            rw [Array.getElem?_eq_getElem k2] at h
            injection h with h
            exact h.symm
          · rfl
      | _ => rfl
    · rfl
theorem QG.of_step {n : Nat} {w : World} {M : MM} {w' : World} {M' : MM} {s' : PS} (h : Step M w M' w') (hc : w'.cell? ⟨n, 0, none⟩ = some (.bool s'.flag)) (hf : ¬ M' n) : QG n w M w' M' s' :=
  ⟨h.os, h.tape, h.output, h.size, fun b h1 h2 _ => h.block b h1 h2, h.own, hc, hf, h.hx⟩
theorem QG.poke {n : Nat} {w : World} {M : MM} {w1 w' : World} {M' : MM} {s' : PS} (h : Step M w M' w1) (x : Bool) (hn : n < w1.heap.size) (hf : ¬ M' n) (hb : Below (w1.setCell ⟨n, 0, none⟩ (.bool x)).heap.size (w1.setCell ⟨n, 0, none⟩ (.bool x)) w') (hc : w'.cell? ⟨n, 0, none⟩ = some (.bool s'.flag)) : QG n w M w' M' s' := by
  have hz := hb.size
  rw [World.size_setCell] at hz
  exact ⟨hb.os.trans h.os, hb.tape.trans h.tape, hb.output.trans h.output, Nat.le_trans h.size hz, fun b h1 h2 h3 => (hb.block b (by rw [World.size_setCell]; exact Nat.lt_of_lt_of_le h1 h.size)).trans ((Below.heap_setCell _ _ _ _ h3).trans (h.block b h1 h2)), h.own, hc, hf, h.hx⟩
end Go.Proofs.YtpibenilagloaaaGreatDoor
