import Derived.Test.YtepadojclmjllaaGreatDoorMxaw
/-
  A token in a box; what the parser sees ahead.
-/
namespace Go.Proofs.YtepadojclmjllaaGreatDoor
open Go.RowKit
set_option linter.unusedVariables false

/-- a box that holds a token -/
def Tx (b : Nat) (x : Tok) : WE := fun w M => (w.cell? ⟨b, 0, none⟩ = some (.int .i64 x.k) ∧ w.cell? ⟨b, 1, none⟩ = some (.string x.t)) ∧ ¬ M b
theorem Tx.stays (b : Nat) (x : Tok) : Stays (Tx b x) := fun w M w' M' h hs => by
  have hlt : b < w.heap.size := World.block_lt_of_cell? w _ h.1.1
  have e := fun j => World.cell?_of_block (w := w) (w' := w') (a := ⟨b, j, none⟩) (hs.block b hlt h.2)
  exact ⟨⟨(e 0).trans h.1.1, (e 1).trans h.1.2⟩, fun hm => (hs.own b hm).elim h.2 (fun h2 => by omega)⟩
theorem Cx.At.tok {c : Cx} {w : World} {s : PS} (h : c.At w s) (x : Tok) {t : TypeId} {n : Nat} (hn : n = w.heap.size) : (⟨And2 c.E (Tx n x), c.p, c.toks, c.low, c.kind, c.M0, c.w0⟩ : Cx).At (w.alloc (.cells #[.int .i64 x.k, .string x.t] t)) s := by
  subst hn
  obtain ⟨hE, M, h1, h2, h3⟩ := h
  have hb := (Below.refl w.heap.size w).alloc (Nat.le_refl _) (.cells #[.int .i64 x.k, .string x.t] t)
  have hst : Step M w ⟨fun b => M b ∧ b < w.heap.size, M.x⟩ (w.alloc (.cells #[.int .i64 x.k, .string x.t] t)) := ⟨rfl, rfl, rfl, hb.size, fun b hlt _ => hb.block b hlt, fun b hm => .inl hm.1, rfl⟩
  refine ⟨And2.stays hE (Tx.stays _ _), _, h1.cut.below hb, h2.trans hst, hE _ _ _ _ h3 hst, ⟨?_, ?_⟩, fun hm => by have := hm.2; omega⟩
  · rw [Lib.cell_of_heap (heap_alloc_new _ _)]; rfl
  · rw [Lib.cell_of_heap (heap_alloc_new _ _)]; rfl
theorem Cx.At.tx {c : Cx} {w : World} {s : PS} (h : c.At w s) {b : Nat} {x : Tok} (hE : ∀ w M, c.E w M → Tx b x w M) : w.cell? ⟨b, 0, none⟩ = some (.int .i64 x.k) ∧ w.cell? ⟨b, 1, none⟩ = some (.string x.t) := by
  obtain ⟨_, M, h1, h2, h3⟩ := h
  exact (hE _ _ h3).1
/-- a test of another parser over the same tokens -/
theorem Cx.aheadN {c : Cx} {w : World} {s sq : PS} {q : Nat} {Mq : MM} (h : c.At w s) (hq : PAt w q Mq c.toks [] 0 sq) {r : List Tok} (hr : sq.rest = r) (ss : List ByteArray) (hn : ss.length ≤ 1000000) {z : Nat} (hz : z = w.heap.size) :
    CallsAt c 52 #[.pointer (some ⟨q, 0, none⟩), .slice (some ⟨z, 0, none⟩) ss.length ss.length] (w.alloc (.cells (ss.map Value.string).toArray 9)) (.bool (atB ss r)) s := by
  subst hr
  have hb := (Below.refl w.heap.size w).alloc (Nat.le_refl _) (.cells (ss.map Value.string).toArray 9)
  exact (at_any _ q Mq c.toks [] 0 sq (hq.below hb) (some ⟨z, 0, none⟩) ss.length ss.length ss (StrsAt.new w ss 9 _ hz) rfl hn).mono fun e w' ⟨k1, k2⟩ => ⟨k1, (h.below hb).below k2⟩
theorem Cx.ahead1 {c : Cx} {w : World} {s sq : PS} {q : Nat} {Mq : MM} (h : c.At w s) (hq : PAt w q Mq c.toks [] 0 sq) {r : List Tok} (hr : sq.rest = r) (t : ByteArray) {z : Nat} (hz : z = w.heap.size) :
    CallsAt c 52 #[.pointer (some ⟨q, 0, none⟩), .slice (some ⟨z, 0, none⟩) 1 1] (w.alloc (.cells #[.string t] 9)) (.bool (atB [t] r)) s := Cx.aheadN h hq hr [t] (by simp) hz
theorem Cx.ahead2 {c : Cx} {w : World} {s sq : PS} {q : Nat} {Mq : MM} (h : c.At w s) (hq : PAt w q Mq c.toks [] 0 sq) {r : List Tok} (hr : sq.rest = r) (t u : ByteArray) {z : Nat} (hz : z = w.heap.size) :
    CallsAt c 52 #[.pointer (some ⟨q, 0, none⟩), .slice (some ⟨z, 0, none⟩) 2 2] (w.alloc (.cells #[.string t, .string u] 9)) (.bool (atB [t, u] r)) s := Cx.aheadN h hq hr [t, u] (by simp) hz
theorem Cx.identQ {c : Cx} {w : World} {s sq : PS} {q : Nat} {Mq : MM} (h : c.At w s) (hq : PAt w q Mq c.toks [] 0 sq) : Calls Tryz.prog 134 #[.pointer (some ⟨q, 0, none⟩)] w fun e w' => e = .returned (.bool ((peekT sq.rest).k == 103)) ∧ c.At w' s ∧ PAt w' q Mq c.toks [] 0 sq :=
  (atIdent_any w q Mq c.toks [] 0 sq hq).mono fun e w' ⟨k1, k2⟩ => ⟨k1, h.below k2, hq.below k2⟩
theorem Cx.lookQ {c : Cx} {w : World} {s sq : PS} {q : Nat} {Mq : MM} (h : c.At w s) (hq : PAt w q Mq c.toks [] 0 sq) : Calls Tryz.prog 53 #[.pointer (some ⟨q, 0, none⟩)] w fun e w' => ∃ q' M' s', e = .returned (.pointer (some ⟨q', 0, none⟩)) ∧ PAt w' q' M' c.toks [] 0 s' ∧ s'.rest = after sq.rest ∧ c.At w' s :=
  (lookahead_any w q Mq c.toks [] 0 sq hq).mono fun e w' ⟨q', M', s', k1, k2, k3, k4⟩ => ⟨q', M', s', k1, k2, k3, h.below k4⟩
end Go.Proofs.YtepadojclmjllaaGreatDoor

/-
  The parser's functions: the walks (printed by gen_walk.py).
-/
namespace Go.Proofs.YtepadojclmjllaaGreatDoor
open Go.RowKit
set_option linter.unusedVariables false

set_option maxRecDepth 100000 in
set_option maxHeartbeats 1600000 in
theorem acts_postfix_1 {n : Nat} {p : Nat} {toks : List Tok} (hI : AllOk n p toks) (b0 : Nat) : ActsC n (Cmd.seq .bump (.seq .bump (.call .arguments))) (Bx b0 (.pointer (some ⟨p, 0, none⟩))) 204 #[] #[.pointer (some ⟨b0, 0, none⟩)] p toks := by
  refine actsC_of (Bx.stays _ _) (ent_of Tryz.func204 (by kernel_rfl) (by kernel_rfl)) ?_
  intro low kind M0 w0 w s s' h0 hs
  show Calls Tryz.prog 204 #[.pointer (some ⟨b0, 0, none⟩)] w _
  have x0 := h0.bx (fun _ _ e => e)
  go_enter Tryz.func204, Tryz.ntmps204
  obtain ⟨u1, r2, r3⟩ := R.seq hs
  obtain ⟨u4, r5, r6⟩ := R.seq r3
  go_wp2_with fail
  refine (Cx.bump h0 r2).mono ?_
  rintro e w8 ⟨rfl, h7⟩
  clear x0 h0
  have x0 := h7.bx (fun _ _ e => e)
  clear r2
  go_wp2_with fail
  refine (Cx.bump h7 r5).mono ?_
  rintro e w10 ⟨rfl, h9⟩
  clear x0 h7
  have x0 := h9.bx (fun _ _ e => e)
  clear r5
  go_wp2_with fail
  refine (Cx.fn .arguments hI h9 r6 True.intro).mono ?_
  rintro e w12 ⟨rfl, h11⟩
  clear x0 h9
  have x0 := h11.bx (fun _ _ e => e)
  clear r6
  go_wp2_with fail
  go_end0
  exact ⟨rfl, h11⟩

set_option maxRecDepth 100000 in
set_option maxHeartbeats 1600000 in
theorem acts_postfix_2 {n : Nat} {p : Nat} {toks : List Tok} (hI : AllOk n p toks) (b0 : Nat) : ActsC n (Cmd.seq .bump Cmd.expectIdent) (Bx b0 (.pointer (some ⟨p, 0, none⟩))) 205 #[] #[.pointer (some ⟨b0, 0, none⟩)] p toks := by
  refine actsC_of (Bx.stays _ _) (ent_of Tryz.func205 (by kernel_rfl) (by kernel_rfl)) ?_
  intro low kind M0 w0 w s s' h0 hs
  show Calls Tryz.prog 205 #[.pointer (some ⟨b0, 0, none⟩)] w _
  have x0 := h0.bx (fun _ _ e => e)
  go_enter Tryz.func205, Tryz.ntmps205
  obtain ⟨u1, r2, r3⟩ := R.seq hs
  go_wp2_with fail
  refine (Cx.bump h0 r2).mono ?_
  rintro e w5 ⟨rfl, h4⟩
  clear x0 h0
  have x0 := h4.bx (fun _ _ e => e)
  clear r2
  go_wp2_with fail
  refine (Cx.expectIdent h4 r3).mono ?_
  rintro e w7 ⟨rfl, h6⟩
  clear x0 h4
  have x0 := h6.bx (fun _ _ e => e)
  clear r3
  go_wp2_with fail
  go_end0
  exact ⟨rfl, h6⟩

set_option maxRecDepth 100000 in
set_option maxHeartbeats 1600000 in
theorem acts_primary_1 {n : Nat} {p : Nat} {toks : List Tok} (hI : AllOk n p toks) (b0 : Nat) : ActsC n (Cmd.seq .bump (.call .arguments)) (Bx b0 (.pointer (some ⟨p, 0, none⟩))) 196 #[] #[.pointer (some ⟨b0, 0, none⟩)] p toks := by
  refine actsC_of (Bx.stays _ _) (ent_of Tryz.func196 (by kernel_rfl) (by kernel_rfl)) ?_
  intro low kind M0 w0 w s s' h0 hs
  show Calls Tryz.prog 196 #[.pointer (some ⟨b0, 0, none⟩)] w _
  have x0 := h0.bx (fun _ _ e => e)
  go_enter Tryz.func196, Tryz.ntmps196
  obtain ⟨u1, r2, r3⟩ := R.seq hs
  go_wp2_with fail
  refine (Cx.bump h0 r2).mono ?_
  rintro e w5 ⟨rfl, h4⟩
  clear x0 h0
  have x0 := h4.bx (fun _ _ e => e)
  clear r2
  go_wp2_with fail
  refine (Cx.fn .arguments hI h4 r3 True.intro).mono ?_
  rintro e w7 ⟨rfl, h6⟩
  clear x0 h4
  have x0 := h6.bx (fun _ _ e => e)
  clear r3
  go_wp2_with fail
  go_end0
  exact ⟨rfl, h6⟩

set_option maxRecDepth 100000 in
set_option maxHeartbeats 1600000 in
theorem acts_primary_2 {n : Nat} {p : Nat} {toks : List Tok} (hI : AllOk n p toks) (b0 : Nat) : ActsC n (Cmd.seq .bump (.seq (.call .expr) (Cmd.expect pRp))) (Bx b0 (.pointer (some ⟨p, 0, none⟩))) 198 #[] #[.pointer (some ⟨b0, 0, none⟩)] p toks := by
  refine actsC_of (Bx.stays _ _) (ent_of Tryz.func198 (by kernel_rfl) (by kernel_rfl)) ?_
  intro low kind M0 w0 w s s' h0 hs
  show Calls Tryz.prog 198 #[.pointer (some ⟨b0, 0, none⟩)] w _
  have x0 := h0.bx (fun _ _ e => e)
  go_enter Tryz.func198, Tryz.ntmps198
  obtain ⟨u1, r2, r3⟩ := R.seq hs
  obtain ⟨u4, r5, r6⟩ := R.seq r3
  go_wp2_with fail
  refine (Cx.bump h0 r2).mono ?_
  rintro e w8 ⟨rfl, h7⟩
  clear x0 h0
  have x0 := h7.bx (fun _ _ e => e)
  clear r2
  go_wp2_with fail
  refine (Cx.fn .expr hI h7 r5 True.intro).mono ?_
  rintro e w10 ⟨rfl, h9⟩
  clear x0 h7
  have x0 := h9.bx (fun _ _ e => e)
  clear r5
  go_wp2_with fail
  refine (Cx.expect h9 r6).mono ?_
  rintro e w12 ⟨rfl, h11⟩
  clear x0 h9
  have x0 := h11.bx (fun _ _ e => e)
  clear r6
  go_wp2_with fail
  go_end0
  exact ⟨rfl, h11⟩

set_option maxRecDepth 100000 in
set_option maxHeartbeats 1600000 in
theorem acts_pattern_1 {n : Nat} {p : Nat} {toks : List Tok} (hI : AllOk n p toks) (b0 : Nat) : ActsC n (Cmd.seq .bump Cmd.expectIdent) (Bx b0 (.pointer (some ⟨p, 0, none⟩))) 209 #[] #[.pointer (some ⟨b0, 0, none⟩)] p toks := by
  refine actsC_of (Bx.stays _ _) (ent_of Tryz.func209 (by kernel_rfl) (by kernel_rfl)) ?_
  intro low kind M0 w0 w s s' h0 hs
  show Calls Tryz.prog 209 #[.pointer (some ⟨b0, 0, none⟩)] w _
  have x0 := h0.bx (fun _ _ e => e)
  go_enter Tryz.func209, Tryz.ntmps209
  obtain ⟨u1, r2, r3⟩ := R.seq hs
  go_wp2_with fail
  refine (Cx.bump h0 r2).mono ?_
  rintro e w5 ⟨rfl, h4⟩
  clear x0 h0
  have x0 := h4.bx (fun _ _ e => e)
  clear r2
  go_wp2_with fail
  refine (Cx.expectIdent h4 r3).mono ?_
  rintro e w7 ⟨rfl, h6⟩
  clear x0 h4
  have x0 := h6.bx (fun _ _ e => e)
  clear r3
  go_wp2_with fail
  go_end0
  exact ⟨rfl, h6⟩

set_option maxRecDepth 100000 in
set_option maxHeartbeats 1600000 in
theorem acts_pattern_2 {n : Nat} {p : Nat} {toks : List Tok} (hI : AllOk n p toks) (b0 : Nat) : ActsC n (Cmd.seq (.call (.path false)) (.ite (.at [pLp]) (.seq .bump (Cmd.list pRp (.call .pattern))) .skip)) (Bx b0 (.pointer (some ⟨p, 0, none⟩))) 210 #[] #[.pointer (some ⟨b0, 0, none⟩)] p toks := by
  refine actsC_of (Bx.stays _ _) (ent_of Tryz.func210 (by kernel_rfl) (by kernel_rfl)) ?_
  intro low kind M0 w0 w s s' h0 hs
  show Calls Tryz.prog 210 #[.pointer (some ⟨b0, 0, none⟩)] w _
  have x0 := h0.bx (fun _ _ e => e)
  go_enter Tryz.func210, Tryz.ntmps210
  obtain ⟨u1, r2, r3⟩ := R.seq hs
  go_wp2_with fail
  refine (Cx.fn (.path false) hI h0 r2 True.intro).mono ?_
  rintro e w5 ⟨rfl, h4⟩
  clear x0 h0
  have x0 := h4.bx (fun _ _ e => e)
  clear r2
  cases ht6 : atB [pLp] u1.rest
  · have r3f := R.no r3 ht6
    have ht6' := Lib.hid ht6
    clear ht6 r3
    go_wp2_with fail
    refine (Cx.acceptF h4 ht6'.out (by simp)).mono ?_
    rintro e w8 ⟨rfl, h7⟩
    clear x0 h4
    have x0 := h7.bx (fun _ _ e => e)
    have h9 := h7.eq r3f.skip
    clear h7 r3f
    go_wp2_with fail
    go_end0
    exact ⟨rfl, h9⟩
  · obtain ⟨u10, r11, r12⟩ := R.seq (R.yes r3 ht6)
    have r11b := Lib.hid r11.bump
    have ht6' := Lib.hid ht6
    clear ht6 r3 r11
    go_wp2_with fail
    refine (Cx.acceptT h4 ht6'.out r11b.out (by simp)).mono ?_
    rintro e w14 ⟨rfl, h13⟩
    clear x0 h4
    have x0 := h13.bx (fun _ _ e => e)
    go_wp2_with fail
    refine (Cx.list h13 r12 (actsC_fn _ .pattern hI ent_pattern True.intro (fun _ => rfl) rfl)).mono ?_
    rintro e w16 ⟨rfl, h15⟩
    clear x0 h13
    have x0 := h15.bx (fun _ _ e => e)
    clear r12
    go_wp2_with fail
    go_end0
    exact ⟨rfl, h15⟩

set_option maxRecDepth 100000 in
set_option maxHeartbeats 1600000 in
theorem acts_statement_1 {n : Nat} {p : Nat} {toks : List Tok} (hI : AllOk n p toks) (b0 : Nat) : ActsC n (Cmd.seq .bump (.seq (.call .expr) (.call .block))) (Bx b0 (.pointer (some ⟨p, 0, none⟩))) 182 #[] #[.pointer (some ⟨b0, 0, none⟩)] p toks := by
  refine actsC_of (Bx.stays _ _) (ent_of Tryz.func182 (by kernel_rfl) (by kernel_rfl)) ?_
  intro low kind M0 w0 w s s' h0 hs
  show Calls Tryz.prog 182 #[.pointer (some ⟨b0, 0, none⟩)] w _
  have x0 := h0.bx (fun _ _ e => e)
  go_enter Tryz.func182, Tryz.ntmps182
  obtain ⟨u1, r2, r3⟩ := R.seq hs
  obtain ⟨u4, r5, r6⟩ := R.seq r3
  go_wp2_with fail
  refine (Cx.bump h0 r2).mono ?_
  rintro e w8 ⟨rfl, h7⟩
  clear x0 h0
  have x0 := h7.bx (fun _ _ e => e)
  clear r2
  go_wp2_with fail
  refine (Cx.fn .expr hI h7 r5 True.intro).mono ?_
  rintro e w10 ⟨rfl, h9⟩
  clear x0 h7
  have x0 := h9.bx (fun _ _ e => e)
  clear r5
  go_wp2_with fail
  refine (Cx.fn .block hI h9 r6 True.intro).mono ?_
  rintro e w12 ⟨rfl, h11⟩
  clear x0 h9
  have x0 := h11.bx (fun _ _ e => e)
  clear r6
  go_wp2_with fail
  go_end0
  exact ⟨rfl, h11⟩

set_option maxRecDepth 100000 in
set_option maxHeartbeats 1600000 in
theorem acts_statement_2 {n : Nat} {p : Nat} {toks : List Tok} (hI : AllOk n p toks) (b0 : Nat) : ActsC n (Cmd.seq .bump (.seq (.call .expr) (Cmd.expect pSemi))) (Bx b0 (.pointer (some ⟨p, 0, none⟩))) 185 #[] #[.pointer (some ⟨b0, 0, none⟩)] p toks := by
  refine actsC_of (Bx.stays _ _) (ent_of Tryz.func185 (by kernel_rfl) (by kernel_rfl)) ?_
  intro low kind M0 w0 w s s' h0 hs
  show Calls Tryz.prog 185 #[.pointer (some ⟨b0, 0, none⟩)] w _
  have x0 := h0.bx (fun _ _ e => e)
  go_enter Tryz.func185, Tryz.ntmps185
  obtain ⟨u1, r2, r3⟩ := R.seq hs
  obtain ⟨u4, r5, r6⟩ := R.seq r3
  go_wp2_with fail
  refine (Cx.bump h0 r2).mono ?_
  rintro e w8 ⟨rfl, h7⟩
  clear x0 h0
  have x0 := h7.bx (fun _ _ e => e)
  clear r2
  go_wp2_with fail
  refine (Cx.fn .expr hI h7 r5 True.intro).mono ?_
  rintro e w10 ⟨rfl, h9⟩
  clear x0 h7
  have x0 := h9.bx (fun _ _ e => e)
  clear r5
  go_wp2_with fail
  refine (Cx.expect h9 r6).mono ?_
  rintro e w12 ⟨rfl, h11⟩
  clear x0 h9
  have x0 := h11.bx (fun _ _ e => e)
  clear r6
  go_wp2_with fail
  go_end0
  exact ⟨rfl, h11⟩

set_option maxRecDepth 100000 in
set_option maxHeartbeats 1600000 in
theorem acts_statement_3_true {n : Nat} {p : Nat} {toks : List Tok} (hI : AllOk n p toks) (b0 : Nat) (b1 : Nat) : ActsC n (Cmd.ite (.at [pSemi]) .bump .skip) (And2 (Bx b0 (.pointer (some ⟨p, 0, none⟩))) (Bx b1 (.bool true))) 186 #[] #[.pointer (some ⟨b0, 0, none⟩), .pointer (some ⟨b1, 0, none⟩)] p toks := by
  refine actsC_of (And2.stays (Bx.stays _ _) (Bx.stays _ _)) (ent_of Tryz.func186 (by kernel_rfl) (by kernel_rfl)) ?_
  intro low kind M0 w0 w s s' h0 hs
  show Calls Tryz.prog 186 #[.pointer (some ⟨b0, 0, none⟩), .pointer (some ⟨b1, 0, none⟩)] w _
  have x0 := h0.bx (fun _ _ e => e.1)
  have x1 := h0.bx (fun _ _ e => e.2)
  go_enter Tryz.func186, Tryz.ntmps186
  cases ht1 : atB [pSemi] s.rest
  · have hsf := R.no hs ht1
    have ht1' := Lib.hid ht1
    clear ht1 hs
    go_wp2_with fail
    refine (Cx.acceptF h0 ht1'.out (by simp)).mono ?_
    rintro e w3 ⟨rfl, h2⟩
    clear x0 x1 h0
    have x0 := h2.bx (fun _ _ e => e.1)
    have x1 := h2.bx (fun _ _ e => e.2)
    have h4 := h2.eq hsf.skip
    clear h2 hsf
    go_wp2_with fail
    go_end0
    exact ⟨rfl, h4⟩
  · have hsb := Lib.hid (R.bump (R.yes hs ht1))
    have ht1' := Lib.hid ht1
    clear ht1 hs
    go_wp2_with fail
    refine (Cx.acceptT h0 ht1'.out hsb.out (by simp)).mono ?_
    rintro e w6 ⟨rfl, h5⟩
    clear x0 x1 h0
    have x0 := h5.bx (fun _ _ e => e.1)
    have x1 := h5.bx (fun _ _ e => e.2)
    go_wp2_with fail
    go_end0
    exact ⟨rfl, h5⟩

set_option maxRecDepth 100000 in
set_option maxHeartbeats 1600000 in
theorem acts_statement_3_false {n : Nat} {p : Nat} {toks : List Tok} (hI : AllOk n p toks) (b0 : Nat) (b1 : Nat) : ActsC n (Cmd.ite (.at [pSemi]) .bump (.leaf 108)) (And2 (Bx b0 (.pointer (some ⟨p, 0, none⟩))) (Bx b1 (.bool false))) 186 #[] #[.pointer (some ⟨b0, 0, none⟩), .pointer (some ⟨b1, 0, none⟩)] p toks := by
  refine actsC_of (And2.stays (Bx.stays _ _) (Bx.stays _ _)) (ent_of Tryz.func186 (by kernel_rfl) (by kernel_rfl)) ?_
  intro low kind M0 w0 w s s' h0 hs
  show Calls Tryz.prog 186 #[.pointer (some ⟨b0, 0, none⟩), .pointer (some ⟨b1, 0, none⟩)] w _
  have x0 := h0.bx (fun _ _ e => e.1)
  have x1 := h0.bx (fun _ _ e => e.2)
  go_enter Tryz.func186, Tryz.ntmps186
  cases ht1 : atB [pSemi] s.rest
  · have hsf := R.no hs ht1
    have ht1' := Lib.hid ht1
    clear ht1 hs
    go_wp2_with fail
    refine (Cx.acceptF h0 ht1'.out (by simp)).mono ?_
    rintro e w3 ⟨rfl, h2⟩
    clear x0 x1 h0
    have x0 := h2.bx (fun _ _ e => e.1)
    have x1 := h2.bx (fun _ _ e => e.2)
    go_wp2_with fail
    refine (Cx.missingToken h2 hsf).mono ?_
    rintro e w5 ⟨rfl, h4⟩
    clear x0 x1 h2
    have x0 := h4.bx (fun _ _ e => e.1)
    have x1 := h4.bx (fun _ _ e => e.2)
    clear hsf
    go_wp2_with fail
    go_end0
    exact ⟨rfl, h4⟩
  · have hsb := Lib.hid (R.bump (R.yes hs ht1))
    have ht1' := Lib.hid ht1
    clear ht1 hs
    go_wp2_with fail
    refine (Cx.acceptT h0 ht1'.out hsb.out (by simp)).mono ?_
    rintro e w7 ⟨rfl, h6⟩
    clear x0 x1 h0
    have x0 := h6.bx (fun _ _ e => e.1)
    have x1 := h6.bx (fun _ _ e => e.2)
    go_wp2_with fail
    go_end0
    exact ⟨rfl, h6⟩
end Go.Proofs.YtepadojclmjllaaGreatDoor
