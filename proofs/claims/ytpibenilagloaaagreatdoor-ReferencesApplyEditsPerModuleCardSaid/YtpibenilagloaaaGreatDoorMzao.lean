import Derived.Test.YtpibenilagloaaaGreatDoorMzan
namespace Go.Proofs.YtpibenilagloaaaGreatDoor
open Go.RowKit
set_option linter.unusedVariables false
set_option maxRecDepth 100000 in
set_option maxHeartbeats 1600000 in
theorem fn_itemBody2 {n : Nat} {p : Nat} {toks : List Tok} (hI : AllOk n p toks) : FnOk n p toks (.itemBody 2) := by
  intro hd w M low kind s s' hp hs
  show Calls Tryz.prog 138 #[.pointer (some ⟨p, 0, none⟩), .int .i64 2] w _
  have h0 := Cx.At.bare hp
  clear hp
  go_enter Tryz.func138, Tryz.ntmps138
  go_wp2_with fail
  refine (Cx.fn .useS hI h0 hs True.intro).mono ?_
  rintro e w2 ⟨rfl, h1⟩
  clear h0
  clear hs
  go_wp2_with fail
  go_end0
  exact h1.post
set_option maxRecDepth 100000 in
set_option maxHeartbeats 1600000 in
theorem fn_itemBody3 {n : Nat} {p : Nat} {toks : List Tok} (hI : AllOk n p toks) : FnOk n p toks (.itemBody 3) := by
  intro hd w M low kind s s' hp hs
  show Calls Tryz.prog 138 #[.pointer (some ⟨p, 0, none⟩), .int .i64 3] w _
  have h0 := Cx.At.bare hp
  clear hp
  go_enter Tryz.func138, Tryz.ntmps138
  go_wp2_with fail
  refine (Cx.fn (.function true) hI h0 hs True.intro).mono ?_
  rintro e w2 ⟨rfl, h1⟩
  clear h0
  clear hs
  go_wp2_with fail
  go_end0
  exact h1.post
set_option maxRecDepth 100000 in
set_option maxHeartbeats 1600000 in
theorem fn_itemBody4 {n : Nat} {p : Nat} {toks : List Tok} (hI : AllOk n p toks) : FnOk n p toks (.itemBody 4) := by
  intro hd w M low kind s s' hp hs
  show Calls Tryz.prog 138 #[.pointer (some ⟨p, 0, none⟩), .int .i64 4] w _
  have h0 := Cx.At.bare hp
  clear hp
  go_enter Tryz.func138, Tryz.ntmps138
  go_wp2_with fail
  refine (Cx.fn (.dataType 4) hI h0 hs (.inl rfl)).mono ?_
  rintro e w2 ⟨rfl, h1⟩
  clear h0
  clear hs
  go_wp2_with fail
  go_end0
  exact h1.post
set_option maxRecDepth 100000 in
set_option maxHeartbeats 1600000 in
theorem fn_itemBody5 {n : Nat} {p : Nat} {toks : List Tok} (hI : AllOk n p toks) : FnOk n p toks (.itemBody 5) := by
  intro hd w M low kind s s' hp hs
  show Calls Tryz.prog 138 #[.pointer (some ⟨p, 0, none⟩), .int .i64 5] w _
  have h0 := Cx.At.bare hp
  clear hp
  go_enter Tryz.func138, Tryz.ntmps138
  go_wp2_with fail
  refine (Cx.fn (.dataType 5) hI h0 hs (.inr rfl)).mono ?_
  rintro e w2 ⟨rfl, h1⟩
  clear h0
  clear hs
  go_wp2_with fail
  go_end0
  exact h1.post
set_option maxRecDepth 100000 in
set_option maxHeartbeats 1600000 in
theorem fn_itemBody6 {n : Nat} {p : Nat} {toks : List Tok} (hI : AllOk n p toks) : FnOk n p toks (.itemBody 6) := by
  intro hd w M low kind s s' hp hs
  show Calls Tryz.prog 138 #[.pointer (some ⟨p, 0, none⟩), .int .i64 6] w _
  have h0 := Cx.At.bare hp
  clear hp
  go_enter Tryz.func138, Tryz.ntmps138
  obtain ⟨u1, r2, r3⟩ := R.seq hs
  go_wp2_with fail
  refine (Cx.expectIdent h0 r2).mono ?_
  rintro e w5 ⟨rfl, h4⟩
  clear h0
  clear r2
  go_wp2_with fail
  refine (Cx.fn .members hI h4 r3 True.intro).mono ?_
  rintro e w7 ⟨rfl, h6⟩
  clear h4
  clear r3
  go_wp2_with fail
  go_end0
  exact h6.post
set_option maxRecDepth 100000 in
set_option maxHeartbeats 1600000 in
theorem fn_itemBody7 {n : Nat} {p : Nat} {toks : List Tok} (hI : AllOk n p toks) : FnOk n p toks (.itemBody 7) := by
  intro hd w M low kind s s' hp hs
  show Calls Tryz.prog 138 #[.pointer (some ⟨p, 0, none⟩), .int .i64 7] w _
  have h0 := Cx.At.bare hp
  clear hp
  go_enter Tryz.func138, Tryz.ntmps138
  go_wp2_with fail
  refine (Cx.fn .implS hI h0 hs True.intro).mono ?_
  rintro e w2 ⟨rfl, h1⟩
  clear h0
  clear hs
  go_wp2_with fail
  go_end0
  exact h1.post
set_option maxRecDepth 100000 in
set_option maxHeartbeats 1600000 in
theorem fn_itemBody8 {n : Nat} {p : Nat} {toks : List Tok} (hI : AllOk n p toks) : FnOk n p toks (.itemBody 8) := by
  intro hd w M low kind s s' hp hs
  show Calls Tryz.prog 138 #[.pointer (some ⟨p, 0, none⟩), .int .i64 8] w _
  have h0 := Cx.At.bare hp
  clear hp
  go_enter Tryz.func138, Tryz.ntmps138
  obtain ⟨u1, r2, r3⟩ := R.seq hs
  obtain ⟨u4, r5, r6⟩ := R.seq r3
  obtain ⟨u7, r8, r9⟩ := R.seq r6
  obtain ⟨u10, r11, r12⟩ := R.seq r9
  obtain ⟨u13, r14, r15⟩ := R.seq r12
  go_wp2_with fail
  refine (Cx.expectIdent h0 r2).mono ?_
  rintro e w17 ⟨rfl, h16⟩
  clear h0
  clear r2
  go_wp2_with fail
  refine (Cx.expect h16 r5).mono ?_
  rintro e w19 ⟨rfl, h18⟩
  clear h16
  clear r5
  go_wp2_with fail
  refine (Cx.fn .typeExpr hI h18 r8 True.intro).mono ?_
  rintro e w21 ⟨rfl, h20⟩
  clear h18
  clear r8
  go_wp2_with fail
  refine (Cx.expect h20 r11).mono ?_
  rintro e w23 ⟨rfl, h22⟩
  clear h20
  clear r11
  go_wp2_with fail
  refine (Cx.fn .expr hI h22 r14 True.intro).mono ?_
  rintro e w25 ⟨rfl, h24⟩
  clear h22
  clear r14
  go_wp2_with fail
  refine (Cx.expect h24 r15).mono ?_
  rintro e w27 ⟨rfl, h26⟩
  clear h24
  clear r15
  go_wp2_with fail
  go_end0
  exact h26.post
set_option maxRecDepth 100000 in
set_option maxHeartbeats 1600000 in
theorem fn_itemBody9 {n : Nat} {p : Nat} {toks : List Tok} (hI : AllOk n p toks) : FnOk n p toks (.itemBody 9) := by
  intro hd w M low kind s s' hp hs
  show Calls Tryz.prog 138 #[.pointer (some ⟨p, 0, none⟩), .int .i64 9] w _
  have h0 := Cx.At.bare hp
  clear hp
  go_enter Tryz.func138, Tryz.ntmps138
  obtain ⟨u1, r2, r3⟩ := R.seq hs
  obtain ⟨u4, r5, r6⟩ := R.seq r3
  obtain ⟨u7, r8, r9⟩ := R.seq r6
  obtain ⟨u10, r11, r12⟩ := R.seq r9
  obtain ⟨u13, r14, r15⟩ := R.seq r12
  go_wp2_with fail
  refine (Cx.expectIdent h0 r2).mono ?_
  rintro e w17 ⟨rfl, h16⟩
  clear h0
  clear r2
  go_wp2_with fail
  refine (Cx.expect h16 r5).mono ?_
  rintro e w19 ⟨rfl, h18⟩
  clear h16
  clear r5
  go_wp2_with fail
  refine (Cx.fn (.params pRp) hI h18 r8 True.intro).mono ?_
  rintro e w21 ⟨rfl, h20⟩
  clear h18
  clear r8
  go_wp2_with fail
  refine (Cx.expect h20 r11).mono ?_
  rintro e w23 ⟨rfl, h22⟩
  clear h20
  clear r11
  go_wp2_with fail
  refine (Cx.fn .expr hI h22 r14 True.intro).mono ?_
  rintro e w25 ⟨rfl, h24⟩
  clear h22
  clear r14
  go_wp2_with fail
  refine (Cx.expect h24 r15).mono ?_
  rintro e w27 ⟨rfl, h26⟩
  clear h24
  clear r15
  go_wp2_with fail
  go_end0
  exact h26.post
theorem fn_itemBody {n : Nat} {p : Nat} {toks : List Tok} (hI : AllOk n p toks) (k : Int) : FnOk n p toks (.itemBody k) := by
  intro hd
  rcases (show k = 2 ∨ k = 3 ∨ k = 4 ∨ k = 5 ∨ k = 6 ∨ k = 7 ∨ k = 8 ∨ k = 9 by have : 2 ≤ k ∧ k ≤ 9 := hd; omega) with rfl | rfl | rfl | rfl | rfl | rfl | rfl | rfl
  · exact fn_itemBody2 hI hd
  · exact fn_itemBody3 hI hd
  · exact fn_itemBody4 hI hd
  · exact fn_itemBody5 hI hd
  · exact fn_itemBody6 hI hd
  · exact fn_itemBody7 hI hd
  · exact fn_itemBody8 hI hd
  · exact fn_itemBody9 hI hd
theorem fn_dataType {n : Nat} {p : Nat} {toks : List Tok} (hI : AllOk n p toks) (k : Int) : FnOk n p toks (.dataType k) := by
  intro hd
  rcases hd with rfl | rfl
  · exact fn_dataType4 hI (.inl rfl)
  · exact fn_dataType5 hI (.inr rfl)
set_option maxRecDepth 100000 in
set_option maxHeartbeats 1600000 in
theorem acts_skipToItem_1 {n : Nat} {p : Nat} {toks : List Tok} (hI : AllOk n p toks) (b0 : Nat) : ActsC n (.seq .bump (.loop (.and (.not Cmd.eof) (.not (.at Cmd.items))) .bump)) (Bx b0 (.pointer (some ⟨p, 0, none⟩))) 207 #[] #[.pointer (some ⟨b0, 0, none⟩)] p toks := by
  refine actsC_of (Bx.stays _ _) (ent_of Tryz.func207 (by kernel_rfl) (by kernel_rfl)) ?_
  intro low kind M0 w0 w s s' h0 hs
  show Calls Tryz.prog 207 #[.pointer (some ⟨b0, 0, none⟩)] w _
  obtain ⟨u, r1, r2⟩ := R.seq hs
  obtain ⟨m, hl⟩ := R.loop r2
  clear hs r2
  have x0 := h0.bx (fun _ _ e => e)
  go_enter Tryz.func207, Tryz.ntmps207
  go_wp2_with fail
  refine (Cx.bump h0 r1).mono ?_
  rintro e w1 ⟨rfl, h1⟩
  clear x0 h0 r1
  go_wp2_with fail
  go_loopg [] m (fun gk wr => ∃ s1, (⟨Bx b0 (.pointer (some ⟨p, 0, none⟩)), p, toks, low, kind, M0, w0⟩ : Cx).At wr s1 ∧ RL n gk (.and (.not Cmd.eof) (.not (.at Cmd.items))) .bump s1 s')
  case atStart => exact ⟨_, h1, hl⟩
  case round =>
    clear h1 hl
    obtain ⟨s1, h1, hl⟩ := hrel
    have x0 := h1.bx (fun _ _ e => e)
    have HD := h1.below ((Below.refl _ _).drew)
    cases he : (peekT s1.rest).k == 100
    · have HE := Lib.hid he
      clear he
      go_wp2_with fail
      go_region_with (first
        | (go_at_call 84; refine (Cx.eof HD).mono ?_; rintro e w2 ⟨rfl, h2⟩; rw [HE.out]; have x2 := h2.bx (fun _ _ e => e))
        | (go_at_call 208; refine (itemKeywords_any _ h2.asc).mono ?_; rintro e w3 ⟨rfl, rfl⟩; have h3 := h2.below ((Below.refl _ _).alloc (Nat.le_refl _) (.cells (Cmd.items.map Value.string).toArray 9)); have hS := StrsAt.new _ Cmd.items 9 _ (rfl : _ = w2.heap.size); have x3 := h3.bx (fun _ _ e => e))
        | (go_at_call 130; refine (Cx.atL h3 hS rfl (by decide)).mono ?_; rintro e w4 ⟨rfl, h4⟩))
      all_goals
        clear HD h2 x0 x2 h1 h3 hS x3
        cases ht : atB Cmd.items s1.rest
        · obtain ⟨k, v, hk, hc, hl2⟩ := hl.yes (by show (!((peekT s1.rest).k == 100) && !atB Cmd.items s1.rest) = true; rw [ht, HE.out]; rfl)
          clear ht hl HE
          have x0 := h4.bx (fun _ _ e => e)
          go_wp2_with fail
          refine (Cx.bump h4 hc).mono ?_
          rintro e w5 ⟨rfl, h5⟩
          clear x0 h4 hc
          go_wp2_with fail
          go_roundg k
          case rel => exact ⟨v, h5, hl2⟩
          case measure => exact hk
        · have hz := Lib.hid (hl.no (by show (!((peekT s1.rest).k == 100) && !atB Cmd.items s1.rest) = false; rw [ht, HE.out]; rfl))
          clear ht hl HE
          go_wp2_with fail
          go_end0
          exact ⟨rfl, h4.eq hz.out⟩
    · have HE := Lib.hid he
      clear he
      have hz := Lib.hid (hl.no (by show (!((peekT s1.rest).k == 100) && !atB Cmd.items s1.rest) = false; rw [HE.out]; rfl))
      clear hl
      go_wp2_with fail
      go_region_with (go_at_call 84; refine (Cx.eof HD).mono ?_; rintro e w2 ⟨rfl, h2⟩; rw [HE.out])
      all_goals
        clear HD x0 h1 HE
        go_wp2_with fail
        go_end0
        exact ⟨rfl, h2.eq hz.out⟩
set_option maxRecDepth 100000 in
set_option maxHeartbeats 1600000 in
theorem fn_skipToItem {n : Nat} {p : Nat} {toks : List Tok} (hI : AllOk n p toks) : FnOk n p toks .skipToItem := by
  intro hd w M low kind s s' hp hs
  show Calls Tryz.prog 133 #[.pointer (some ⟨p, 0, none⟩)] w _
  have h0 := Cx.At.start hp (v := .pointer (some ⟨p, 0, none⟩)) (t := 174)
  clear hp
  have x0 := h0.bx (fun _ _ e => e)
  go_enter Tryz.func133, Tryz.ntmps133
  go_wp2_with fail
  refine (Cx.node h0 hs (acts_skipToItem_1 hI (w.heap.size))).mono ?_
  rintro e w2 ⟨rfl, h1⟩
  clear x0 h0
  have x0 := h1.bx (fun _ _ e => e)
  clear hs
  go_wp2_with fail
  go_end0
  exact h1.post

def Tx (b : Nat) (x : Tok) : WE := fun w M => (w.cell? ⟨b, 0, none⟩ = some (.int .i64 x.k) ∧ w.cell? ⟨b, 1, none⟩ = some (.string x.t)) ∧ ¬ M b
theorem Tx.stays (b : Nat) (x : Tok) : Stays (Tx b x) := fun w M w' M' h hs => by
  have hlt : b < w.heap.size := World.block_lt_of_cell? w _ h.1.1
  have e := fun j => World.cell?_of_block (w := w) (w' := w') (a := ⟨b, j, none⟩) (hs.block b hlt h.2)
  exact ⟨⟨(e 0).trans h.1.1, (e 1).trans h.1.2⟩, fun hm => (hs.own b hm).elim h.2 (fun h2 => by omega)⟩
theorem Cx.At.tok {c : Cx} {w : World} {s : PS} (h : c.At w s) (x : Tok) {t : TypeId} {n : Nat} (hn : n = w.heap.size) : (⟨And2 c.E (Tx n x), c.p, c.toks, c.low, c.kind, c.M0, c.w0⟩ : Cx).At (w.alloc (.cells #[.int .i64 x.k, .string x.t] t)) s := by
  subst hn
  obtain ⟨hE, M, h1, h2, h3⟩ := h
  have hb := (Below.refl w.heap.size w).alloc (Nat.le_refl _) (.cells #[.int .i64 x.k, .string x.t] t)
  have hst : Step M w ⟨fun b => M b ∧ b < w.heap.size, M.x⟩ (w.alloc (.cells #[.int .i64 x.k, .string x.t] t)) := ⟨rfl, rfl, rfl, hb.size, fun b hlt _ => hb.block b hlt, fun b hm => .inl hm.1, rfl⟩
  refine ⟨And2.stays hE (Tx.stays _ _), _, h1.cut.below hb, h2.trans hst, hE _ _ _ _ h3 hst, ⟨?_, ?_⟩, fun hm => by have := hm.2; omega⟩
  · rw [Lib.cell_of_heap (heap_alloc_new _ _)]; rfl
  · rw [Lib.cell_of_heap (heap_alloc_new _ _)]; rfl
theorem Cx.At.tx {c : Cx} {w : World} {s : PS} (h : c.At w s) {b : Nat} {x : Tok} (hE : ∀ w M, c.E w M → Tx b x w M) : w.cell? ⟨b, 0, none⟩ = some (.int .i64 x.k) ∧ w.cell? ⟨b, 1, none⟩ = some (.string x.t) := by
  obtain ⟨_, M, h1, h2, h3⟩ := h
  exact (hE _ _ h3).1
theorem Cx.aheadN {c : Cx} {w : World} {s sq : PS} {q : Nat} {Mq : MM} (h : c.At w s) (hq : PAt w q Mq c.toks [] 0 sq) {r : List Tok} (hr : sq.rest = r) (ss : List ByteArray) (hn : ss.length ≤ 1000000) {z : Nat} (hz : z = w.heap.size) :
    CallsAt c 130 #[.pointer (some ⟨q, 0, none⟩), .slice (some ⟨z, 0, none⟩) ss.length ss.length] (w.alloc (.cells (ss.map Value.string).toArray 9)) (.bool (atB ss r)) s := by
  subst hr
  have hb := (Below.refl w.heap.size w).alloc (Nat.le_refl _) (.cells (ss.map Value.string).toArray 9)
  exact (at_any _ q Mq c.toks [] 0 sq (hq.below hb) (some ⟨z, 0, none⟩) ss.length ss.length ss (StrsAt.new w ss 9 _ hz) rfl hn).mono fun e w' ⟨k1, k2⟩ => ⟨k1, (h.below hb).below k2⟩
theorem Cx.ahead1 {c : Cx} {w : World} {s sq : PS} {q : Nat} {Mq : MM} (h : c.At w s) (hq : PAt w q Mq c.toks [] 0 sq) {r : List Tok} (hr : sq.rest = r) (t : ByteArray) {z : Nat} (hz : z = w.heap.size) :
    CallsAt c 130 #[.pointer (some ⟨q, 0, none⟩), .slice (some ⟨z, 0, none⟩) 1 1] (w.alloc (.cells #[.string t] 9)) (.bool (atB [t] r)) s := Cx.aheadN h hq hr [t] (by simp) hz
theorem Cx.ahead2 {c : Cx} {w : World} {s sq : PS} {q : Nat} {Mq : MM} (h : c.At w s) (hq : PAt w q Mq c.toks [] 0 sq) {r : List Tok} (hr : sq.rest = r) (t u : ByteArray) {z : Nat} (hz : z = w.heap.size) :
    CallsAt c 130 #[.pointer (some ⟨q, 0, none⟩), .slice (some ⟨z, 0, none⟩) 2 2] (w.alloc (.cells #[.string t, .string u] 9)) (.bool (atB [t, u] r)) s := Cx.aheadN h hq hr [t, u] (by simp) hz
theorem Cx.identQ {c : Cx} {w : World} {s sq : PS} {q : Nat} {Mq : MM} (h : c.At w s) (hq : PAt w q Mq c.toks [] 0 sq) : Calls Tryz.prog 266 #[.pointer (some ⟨q, 0, none⟩)] w fun e w' => e = .returned (.bool ((peekT sq.rest).k == 103)) ∧ c.At w' s ∧ PAt w' q Mq c.toks [] 0 sq :=
  (atIdent_any w q Mq c.toks [] 0 sq hq).mono fun e w' ⟨k1, k2⟩ => ⟨k1, h.below k2, hq.below k2⟩
theorem Cx.lookQ {c : Cx} {w : World} {s sq : PS} {q : Nat} {Mq : MM} (h : c.At w s) (hq : PAt w q Mq c.toks [] 0 sq) : Calls Tryz.prog 131 #[.pointer (some ⟨q, 0, none⟩)] w fun e w' => ∃ q' M' s', e = .returned (.pointer (some ⟨q', 0, none⟩)) ∧ PAt w' q' M' c.toks [] 0 s' ∧ s'.rest = after sq.rest ∧ c.At w' s :=
  (lookahead_any w q Mq c.toks [] 0 sq hq).mono fun e w' ⟨q', M', s', k1, k2, k3, k4⟩ => ⟨q', M', s', k1, k2, k3, h.below k4⟩

set_option maxRecDepth 100000 in
set_option maxHeartbeats 1600000 in
theorem acts_postfix_1 {n : Nat} {p : Nat} {toks : List Tok} (hI : AllOk n p toks) (b0 : Nat) : ActsC n (Cmd.seq .bump (.seq .bump (.call .arguments))) (Bx b0 (.pointer (some ⟨p, 0, none⟩))) 353 #[] #[.pointer (some ⟨b0, 0, none⟩)] p toks := by
  refine actsC_of (Bx.stays _ _) (ent_of Tryz.func353 (by kernel_rfl) (by kernel_rfl)) ?_
  intro low kind M0 w0 w s s' h0 hs
  show Calls Tryz.prog 353 #[.pointer (some ⟨b0, 0, none⟩)] w _
  have x0 := h0.bx (fun _ _ e => e)
  go_enter Tryz.func353, Tryz.ntmps353
  obtain ⟨u1, r2, r3⟩ := R.seq hs
  obtain ⟨u4, r5, r6⟩ := R.seq r3
  go_wp2_with fail
  refine (Cx.bump h0 r2).mono ?_
  rintro e w8 ⟨rfl, h7⟩
  clear x0 h0
  have x0 := h7.bx (fun _ _ e => e)
  clear r2
  go_wp2_with fail
  refine (Cx.bump h7 r5).mono ?_
  rintro e w10 ⟨rfl, h9⟩
  clear x0 h7
  have x0 := h9.bx (fun _ _ e => e)
  clear r5
  go_wp2_with fail
  refine (Cx.fn .arguments hI h9 r6 True.intro).mono ?_
  rintro e w12 ⟨rfl, h11⟩
  clear x0 h9
  have x0 := h11.bx (fun _ _ e => e)
  clear r6
  go_wp2_with fail
  go_end0
  exact ⟨rfl, h11⟩
set_option maxRecDepth 100000 in
set_option maxHeartbeats 1600000 in
theorem acts_postfix_2 {n : Nat} {p : Nat} {toks : List Tok} (hI : AllOk n p toks) (b0 : Nat) : ActsC n (Cmd.seq .bump Cmd.expectIdent) (Bx b0 (.pointer (some ⟨p, 0, none⟩))) 354 #[] #[.pointer (some ⟨b0, 0, none⟩)] p toks := by
  refine actsC_of (Bx.stays _ _) (ent_of Tryz.func354 (by kernel_rfl) (by kernel_rfl)) ?_
  intro low kind M0 w0 w s s' h0 hs
  show Calls Tryz.prog 354 #[.pointer (some ⟨b0, 0, none⟩)] w _
  have x0 := h0.bx (fun _ _ e => e)
  go_enter Tryz.func354, Tryz.ntmps354
  obtain ⟨u1, r2, r3⟩ := R.seq hs
  go_wp2_with fail
  refine (Cx.bump h0 r2).mono ?_
  rintro e w5 ⟨rfl, h4⟩
  clear x0 h0
  have x0 := h4.bx (fun _ _ e => e)
  clear r2
  go_wp2_with fail
  refine (Cx.expectIdent h4 r3).mono ?_
  rintro e w7 ⟨rfl, h6⟩
  clear x0 h4
  have x0 := h6.bx (fun _ _ e => e)
  clear r3
  go_wp2_with fail
  go_end0
  exact ⟨rfl, h6⟩
set_option maxRecDepth 100000 in
set_option maxHeartbeats 1600000 in
theorem acts_primary_1 {n : Nat} {p : Nat} {toks : List Tok} (hI : AllOk n p toks) (b0 : Nat) : ActsC n (Cmd.seq .bump (.call .arguments)) (Bx b0 (.pointer (some ⟨p, 0, none⟩))) 345 #[] #[.pointer (some ⟨b0, 0, none⟩)] p toks := by
  refine actsC_of (Bx.stays _ _) (ent_of Tryz.func345 (by kernel_rfl) (by kernel_rfl)) ?_
  intro low kind M0 w0 w s s' h0 hs
  show Calls Tryz.prog 345 #[.pointer (some ⟨b0, 0, none⟩)] w _
  have x0 := h0.bx (fun _ _ e => e)
  go_enter Tryz.func345, Tryz.ntmps345
  obtain ⟨u1, r2, r3⟩ := R.seq hs
  go_wp2_with fail
  refine (Cx.bump h0 r2).mono ?_
  rintro e w5 ⟨rfl, h4⟩
  clear x0 h0
  have x0 := h4.bx (fun _ _ e => e)
  clear r2
  go_wp2_with fail
  refine (Cx.fn .arguments hI h4 r3 True.intro).mono ?_
  rintro e w7 ⟨rfl, h6⟩
  clear x0 h4
  have x0 := h6.bx (fun _ _ e => e)
  clear r3
  go_wp2_with fail
  go_end0
  exact ⟨rfl, h6⟩
set_option maxRecDepth 100000 in
set_option maxHeartbeats 1600000 in
theorem acts_primary_2 {n : Nat} {p : Nat} {toks : List Tok} (hI : AllOk n p toks) (b0 : Nat) : ActsC n (Cmd.seq .bump (.seq (.call .expr) (Cmd.expect pRp))) (Bx b0 (.pointer (some ⟨p, 0, none⟩))) 347 #[] #[.pointer (some ⟨b0, 0, none⟩)] p toks := by
  refine actsC_of (Bx.stays _ _) (ent_of Tryz.func347 (by kernel_rfl) (by kernel_rfl)) ?_
  intro low kind M0 w0 w s s' h0 hs
  show Calls Tryz.prog 347 #[.pointer (some ⟨b0, 0, none⟩)] w _
  have x0 := h0.bx (fun _ _ e => e)
  go_enter Tryz.func347, Tryz.ntmps347
  obtain ⟨u1, r2, r3⟩ := R.seq hs
  obtain ⟨u4, r5, r6⟩ := R.seq r3
  go_wp2_with fail
  refine (Cx.bump h0 r2).mono ?_
  rintro e w8 ⟨rfl, h7⟩
  clear x0 h0
  have x0 := h7.bx (fun _ _ e => e)
  clear r2
  go_wp2_with fail
  refine (Cx.fn .expr hI h7 r5 True.intro).mono ?_
  rintro e w10 ⟨rfl, h9⟩
  clear x0 h7
  have x0 := h9.bx (fun _ _ e => e)
  clear r5
  go_wp2_with fail
  refine (Cx.expect h9 r6).mono ?_
  rintro e w12 ⟨rfl, h11⟩
  clear x0 h9
  have x0 := h11.bx (fun _ _ e => e)
  clear r6
  go_wp2_with fail
  go_end0
  exact ⟨rfl, h11⟩
set_option maxRecDepth 100000 in
set_option maxHeartbeats 1600000 in
theorem acts_pattern_1 {n : Nat} {p : Nat} {toks : List Tok} (hI : AllOk n p toks) (b0 : Nat) : ActsC n (Cmd.seq .bump Cmd.expectIdent) (Bx b0 (.pointer (some ⟨p, 0, none⟩))) 358 #[] #[.pointer (some ⟨b0, 0, none⟩)] p toks := by
  refine actsC_of (Bx.stays _ _) (ent_of Tryz.func358 (by kernel_rfl) (by kernel_rfl)) ?_
  intro low kind M0 w0 w s s' h0 hs
  show Calls Tryz.prog 358 #[.pointer (some ⟨b0, 0, none⟩)] w _
  have x0 := h0.bx (fun _ _ e => e)
  go_enter Tryz.func358, Tryz.ntmps358
  obtain ⟨u1, r2, r3⟩ := R.seq hs
  go_wp2_with fail
  refine (Cx.bump h0 r2).mono ?_
  rintro e w5 ⟨rfl, h4⟩
  clear x0 h0
  have x0 := h4.bx (fun _ _ e => e)
  clear r2
  go_wp2_with fail
  refine (Cx.expectIdent h4 r3).mono ?_
  rintro e w7 ⟨rfl, h6⟩
  clear x0 h4
  have x0 := h6.bx (fun _ _ e => e)
  clear r3
  go_wp2_with fail
  go_end0
  exact ⟨rfl, h6⟩
set_option maxRecDepth 100000 in
set_option maxHeartbeats 1600000 in
theorem acts_pattern_2 {n : Nat} {p : Nat} {toks : List Tok} (hI : AllOk n p toks) (b0 : Nat) : ActsC n (Cmd.seq (.call (.path false)) (.ite (.at [pLp]) (.seq .bump (Cmd.list pRp (.call .pattern))) .skip)) (Bx b0 (.pointer (some ⟨p, 0, none⟩))) 359 #[] #[.pointer (some ⟨b0, 0, none⟩)] p toks := by
  refine actsC_of (Bx.stays _ _) (ent_of Tryz.func359 (by kernel_rfl) (by kernel_rfl)) ?_
  intro low kind M0 w0 w s s' h0 hs
  show Calls Tryz.prog 359 #[.pointer (some ⟨b0, 0, none⟩)] w _
  have x0 := h0.bx (fun _ _ e => e)
  go_enter Tryz.func359, Tryz.ntmps359
  obtain ⟨u1, r2, r3⟩ := R.seq hs
  go_wp2_with fail
  refine (Cx.fn (.path false) hI h0 r2 True.intro).mono ?_
  rintro e w5 ⟨rfl, h4⟩
  clear x0 h0
  have x0 := h4.bx (fun _ _ e => e)
  clear r2
  cases ht6 : atB [pLp] u1.rest
  · have r3f := R.no r3 ht6
    have ht6' := Lib.hid ht6
    clear ht6 r3
    go_wp2_with fail
    refine (Cx.acceptF h4 ht6'.out (by simp)).mono ?_
    rintro e w8 ⟨rfl, h7⟩
    clear x0 h4
    have x0 := h7.bx (fun _ _ e => e)
    have h9 := h7.eq r3f.skip
    clear h7 r3f
    go_wp2_with fail
    go_end0
    exact ⟨rfl, h9⟩
  · obtain ⟨u10, r11, r12⟩ := R.seq (R.yes r3 ht6)
    have r11b := Lib.hid r11.bump
    have ht6' := Lib.hid ht6
    clear ht6 r3 r11
    go_wp2_with fail
    refine (Cx.acceptT h4 ht6'.out r11b.out (by simp)).mono ?_
    rintro e w14 ⟨rfl, h13⟩
    clear x0 h4
    have x0 := h13.bx (fun _ _ e => e)
    go_wp2_with fail
    refine (Cx.list h13 r12 (actsC_fn _ .pattern hI ent_pattern True.intro (fun _ => rfl) rfl)).mono ?_
    rintro e w16 ⟨rfl, h15⟩
    clear x0 h13
    have x0 := h15.bx (fun _ _ e => e)
    clear r12
    go_wp2_with fail
    go_end0
    exact ⟨rfl, h15⟩
set_option maxRecDepth 100000 in
set_option maxHeartbeats 1600000 in
theorem acts_statement_1 {n : Nat} {p : Nat} {toks : List Tok} (hI : AllOk n p toks) (b0 : Nat) : ActsC n (Cmd.seq .bump (.seq (.call .expr) (.call .block))) (Bx b0 (.pointer (some ⟨p, 0, none⟩))) 330 #[] #[.pointer (some ⟨b0, 0, none⟩)] p toks := by
  refine actsC_of (Bx.stays _ _) (ent_of Tryz.func330 (by kernel_rfl) (by kernel_rfl)) ?_
  intro low kind M0 w0 w s s' h0 hs
  show Calls Tryz.prog 330 #[.pointer (some ⟨b0, 0, none⟩)] w _
  have x0 := h0.bx (fun _ _ e => e)
  go_enter Tryz.func330, Tryz.ntmps330
  obtain ⟨u1, r2, r3⟩ := R.seq hs
  obtain ⟨u4, r5, r6⟩ := R.seq r3
  go_wp2_with fail
  refine (Cx.bump h0 r2).mono ?_
  rintro e w8 ⟨rfl, h7⟩
  clear x0 h0
  have x0 := h7.bx (fun _ _ e => e)
  clear r2
  go_wp2_with fail
  refine (Cx.fn .expr hI h7 r5 True.intro).mono ?_
  rintro e w10 ⟨rfl, h9⟩
  clear x0 h7
  have x0 := h9.bx (fun _ _ e => e)
  clear r5
  go_wp2_with fail
  refine (Cx.fn .block hI h9 r6 True.intro).mono ?_
  rintro e w12 ⟨rfl, h11⟩
  clear x0 h9
  have x0 := h11.bx (fun _ _ e => e)
  clear r6
  go_wp2_with fail
  go_end0
  exact ⟨rfl, h11⟩
set_option maxRecDepth 100000 in
set_option maxHeartbeats 1600000 in
theorem acts_statement_2 {n : Nat} {p : Nat} {toks : List Tok} (hI : AllOk n p toks) (b0 : Nat) : ActsC n (Cmd.seq .bump (.seq (.call .expr) (Cmd.expect pSemi))) (Bx b0 (.pointer (some ⟨p, 0, none⟩))) 333 #[] #[.pointer (some ⟨b0, 0, none⟩)] p toks := by
  refine actsC_of (Bx.stays _ _) (ent_of Tryz.func333 (by kernel_rfl) (by kernel_rfl)) ?_
  intro low kind M0 w0 w s s' h0 hs
  show Calls Tryz.prog 333 #[.pointer (some ⟨b0, 0, none⟩)] w _
  have x0 := h0.bx (fun _ _ e => e)
  go_enter Tryz.func333, Tryz.ntmps333
  obtain ⟨u1, r2, r3⟩ := R.seq hs
  obtain ⟨u4, r5, r6⟩ := R.seq r3
  go_wp2_with fail
  refine (Cx.bump h0 r2).mono ?_
  rintro e w8 ⟨rfl, h7⟩
  clear x0 h0
  have x0 := h7.bx (fun _ _ e => e)
  clear r2
  go_wp2_with fail
  refine (Cx.fn .expr hI h7 r5 True.intro).mono ?_
  rintro e w10 ⟨rfl, h9⟩
  clear x0 h7
  have x0 := h9.bx (fun _ _ e => e)
  clear r5
  go_wp2_with fail
  refine (Cx.expect h9 r6).mono ?_
  rintro e w12 ⟨rfl, h11⟩
  clear x0 h9
  have x0 := h11.bx (fun _ _ e => e)
  clear r6
  go_wp2_with fail
  go_end0
  exact ⟨rfl, h11⟩
set_option maxRecDepth 100000 in
set_option maxHeartbeats 1600000 in
theorem acts_statement_3_true {n : Nat} {p : Nat} {toks : List Tok} (hI : AllOk n p toks) (b0 : Nat) (b1 : Nat) : ActsC n (Cmd.ite (.at [pSemi]) .bump .skip) (And2 (Bx b0 (.pointer (some ⟨p, 0, none⟩))) (Bx b1 (.bool true))) 334 #[] #[.pointer (some ⟨b0, 0, none⟩), .pointer (some ⟨b1, 0, none⟩)] p toks := by
  refine actsC_of (And2.stays (Bx.stays _ _) (Bx.stays _ _)) (ent_of Tryz.func334 (by kernel_rfl) (by kernel_rfl)) ?_
  intro low kind M0 w0 w s s' h0 hs
  show Calls Tryz.prog 334 #[.pointer (some ⟨b0, 0, none⟩), .pointer (some ⟨b1, 0, none⟩)] w _
  have x0 := h0.bx (fun _ _ e => e.1)
  have x1 := h0.bx (fun _ _ e => e.2)
  go_enter Tryz.func334, Tryz.ntmps334
  cases ht1 : atB [pSemi] s.rest
  · have hsf := R.no hs ht1
    have ht1' := Lib.hid ht1
    clear ht1 hs
    go_wp2_with fail
    refine (Cx.acceptF h0 ht1'.out (by simp)).mono ?_
    rintro e w3 ⟨rfl, h2⟩
    clear x0 x1 h0
    have x0 := h2.bx (fun _ _ e => e.1)
    have x1 := h2.bx (fun _ _ e => e.2)
    have h4 := h2.eq hsf.skip
    clear h2 hsf
    go_wp2_with fail
    go_end0
    exact ⟨rfl, h4⟩
  · have hsb := Lib.hid (R.bump (R.yes hs ht1))
    have ht1' := Lib.hid ht1
    clear ht1 hs
    go_wp2_with fail
    refine (Cx.acceptT h0 ht1'.out hsb.out (by simp)).mono ?_
    rintro e w6 ⟨rfl, h5⟩
    clear x0 x1 h0
    have x0 := h5.bx (fun _ _ e => e.1)
    have x1 := h5.bx (fun _ _ e => e.2)
    go_wp2_with fail
    go_end0
    exact ⟨rfl, h5⟩
set_option maxRecDepth 100000 in
set_option maxHeartbeats 1600000 in
theorem acts_statement_3_false {n : Nat} {p : Nat} {toks : List Tok} (hI : AllOk n p toks) (b0 : Nat) (b1 : Nat) : ActsC n (Cmd.ite (.at [pSemi]) .bump (.leaf 108)) (And2 (Bx b0 (.pointer (some ⟨p, 0, none⟩))) (Bx b1 (.bool false))) 334 #[] #[.pointer (some ⟨b0, 0, none⟩), .pointer (some ⟨b1, 0, none⟩)] p toks := by
  refine actsC_of (And2.stays (Bx.stays _ _) (Bx.stays _ _)) (ent_of Tryz.func334 (by kernel_rfl) (by kernel_rfl)) ?_
  intro low kind M0 w0 w s s' h0 hs
  show Calls Tryz.prog 334 #[.pointer (some ⟨b0, 0, none⟩), .pointer (some ⟨b1, 0, none⟩)] w _
  have x0 := h0.bx (fun _ _ e => e.1)
  have x1 := h0.bx (fun _ _ e => e.2)
  go_enter Tryz.func334, Tryz.ntmps334
  cases ht1 : atB [pSemi] s.rest
  · have hsf := R.no hs ht1
    have ht1' := Lib.hid ht1
    clear ht1 hs
    go_wp2_with fail
    refine (Cx.acceptF h0 ht1'.out (by simp)).mono ?_
    rintro e w3 ⟨rfl, h2⟩
    clear x0 x1 h0
    have x0 := h2.bx (fun _ _ e => e.1)
    have x1 := h2.bx (fun _ _ e => e.2)
    go_wp2_with fail
    refine (Cx.missingToken h2 hsf).mono ?_
    rintro e w5 ⟨rfl, h4⟩
    clear x0 x1 h2
    have x0 := h4.bx (fun _ _ e => e.1)
    have x1 := h4.bx (fun _ _ e => e.2)
    clear hsf
    go_wp2_with fail
    go_end0
    exact ⟨rfl, h4⟩
  · have hsb := Lib.hid (R.bump (R.yes hs ht1))
    have ht1' := Lib.hid ht1
    clear ht1 hs
    go_wp2_with fail
    refine (Cx.acceptT h0 ht1'.out hsb.out (by simp)).mono ?_
    rintro e w7 ⟨rfl, h6⟩
    clear x0 x1 h0
    have x0 := h6.bx (fun _ _ e => e.1)
    have x1 := h6.bx (fun _ _ e => e.2)
    go_wp2_with fail
    go_end0
    exact ⟨rfl, h6⟩
end Go.Proofs.YtpibenilagloaaaGreatDoor
