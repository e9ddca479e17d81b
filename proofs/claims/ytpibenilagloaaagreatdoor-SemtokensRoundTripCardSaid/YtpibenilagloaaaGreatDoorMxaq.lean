import Derived.Test.YtpibenilagloaaaGreatDoorMxap
/-
  (*parser).use: the walk.
-/
namespace Go.Proofs.YtpibenilagloaaaGreatDoor
open Go.RowKit
set_option linter.unusedVariables false

def useT : Test := .and (.at [pCC]) (.not .flag)
def useB : Cmd := .ite (.ahead 1 (.at [pStar])) (.setFlag true) (.seq (.setFlag false) (.seq .bump (segment false)))
def useN : Cmd := .seq (segment false) (.loop useT useB)
theorem body_use : body .useS = .seq (.setFlag false) (.seq (.node 17 useN) (.seq (.ite .flag (.seq .bump .bump) (.ite (.at [kAs]) (.seq .bump Cmd.expectIdent) .skip)) (Cmd.expect pSemi))) := rfl
theorem seg_false : segment false = .node 18 (.seq Cmd.expectIdent .skip) := rfl
theorem actsC_seg (n : Nat) (E : WE) (p : Nat) (toks : List Tok) : ActsC n (.seq Cmd.expectIdent .skip) E 213 #[.pointer (some ⟨p, 0, none⟩)] #[] p toks :=
  ⟨(actsC_ident n E p toks).1, fun w M low kind s s' he h hr => by
    obtain ⟨u, h1, h2⟩ := R.seq hr
    rw [h2.skip]
    exact (actsC_ident n E p toks).2 w M low kind s u he h h1⟩
/-- a box that holds a value and may be written -/
def Bf (b : Nat) (v : Value) : WE := fun w M => (w.cell? ⟨b, 0, none⟩ = some v ∧ w.frozen? ⟨b, 0, none⟩ = false) ∧ ¬ M b
theorem Bf.stays (b : Nat) (v : Value) : Stays (Bf b v) := fun w M w' M' h hs => by
  have hlt : b < w.heap.size := World.block_lt_of_cell? w _ h.1.1
  have e := hs.block b hlt h.2
  exact ⟨⟨(World.cell?_of_block (w := w) e).trans h.1.1, by have := h.1.2; unfold World.frozen? at this ⊢; rw [e]; exact this⟩, fun hm => (hs.own b hm).elim h.2 (fun h2 => by omega)⟩
theorem Bf.bx {b : Nat} {v : Value} {w : World} {M : MM} (h : Bf b v w M) : Bx b v w M := ⟨h.1.1, h.2⟩
theorem Cx.At.fz {c : Cx} {w : World} {s : PS} (h : c.At w s) {b : Nat} {v : Value} (hE : ∀ w M, c.E w M → Bf b v w M) : w.frozen? ⟨b, 0, none⟩ = false := by
  obtain ⟨_, M, h1, h2, h3⟩ := h
  exact (hE _ _ h3).1.2
theorem Cx.At.boxF {c : Cx} {w : World} {s : PS} (h : c.At w s) {v : Value} {t : TypeId} {n : Nat} (hn : n = w.heap.size) : (⟨And2 c.E (Bf n v), c.p, c.toks, c.low, c.kind, c.M0, c.w0⟩ : Cx).At (w.alloc (.cells #[v] t)) s := by
  subst hn
  obtain ⟨hE, M, h1, h2, h3⟩ := h
  have hb := (Below.refl w.heap.size w).alloc (Nat.le_refl _) (.cells #[v] t)
  have hst : Step M w ⟨fun b => M b ∧ b < w.heap.size, M.x⟩ (w.alloc (.cells #[v] t)) := ⟨rfl, rfl, rfl, hb.size, fun b hlt _ => hb.block b hlt, fun b hm => .inl hm.1, rfl⟩
  exact ⟨And2.stays hE (Bf.stays _ _), _, h1.cut.below hb, h2.trans hst, hE _ _ _ _ h3 hst, ⟨by rw [Lib.cell_of_heap (heap_alloc_new _ _)]; rfl, Lib.frozen_of_heap (heap_alloc_new _ _) 0⟩, fun hm => by have := hm.2; omega⟩
theorem cell_setCell_self {w : World} {n : Nat} {u v : Value} (h : w.cell? ⟨n, 0, none⟩ = some u) : (w.setCell ⟨n, 0, none⟩ v).cell? ⟨n, 0, none⟩ = some v := by
  go_simp
theorem add_flag {s s' : PS} {l : List Tree} (h : s.add l = some s') : s'.flag = s.flag := by
  unfold PS.add at h
  split at h
  · injection h with h; rw [← h]
  · cases h
theorem bump_flag {s s' : PS} (h : s.bump = some s') : s'.flag = s.flag := by
  unfold PS.bump at h
  obtain ⟨v, hv, rfl⟩ := Option.map_eq_some_iff.1 h
  have := add_flag hv
  exact this
theorem expectIdent_flag {n : Nat} {s s' : PS} (h : R n Cmd.expectIdent s s') : s'.flag = s.flag := by
  have := h.expectIdent
  split at this
  · exact bump_flag this
  · exact add_flag this
theorem seg_flag {n : Nat} {s s' : PS} (h : R n (segment false) s s') : s'.flag = s.flag := by
  rw [seg_false] at h
  obtain ⟨hg, v, hv, rfl⟩ := h.node
  obtain ⟨y, k1, k2⟩ := R.seq hv
  rw [k2.skip]
  have := expectIdent_flag k1
  exact this
set_option maxRecDepth 100000 in
set_option maxHeartbeats 1600000 in
theorem acts_use_1 {n : Nat} {p : Nat} {toks : List Tok} (hI : AllOk n p toks) (b0 b1 : Nat) (hne : b0 ≠ b1) : ActsQ (fun s s' => s.flag = false ∧ R n useN s s') (And2 (Bx b0 (.pointer (some ⟨p, 0, none⟩))) (Bf b1 (.bool false))) (QG b1) 259 #[] #[.pointer (some ⟨b0, 0, none⟩), .pointer (some ⟨b1, 0, none⟩)] p toks := by
  intro w M low kind s s' he hp hrel
  show Calls Tryz.prog 259 #[.pointer (some ⟨b0, 0, none⟩), .pointer (some ⟨b1, 0, none⟩)] w _
  have h0 := Cx.At.closure (And2.stays (Bx.stays _ _) (Bf.stays _ _)) he hp
  obtain ⟨hfl, hs⟩ := hrel
  unfold useN at hs
  obtain ⟨u, r1, r2⟩ := R.seq hs
  obtain ⟨m, hl⟩ := R.loop r2
  have hfu : u.flag = false := (seg_flag r1).trans hfl
  rw [seg_false] at r1
  have HFU := Lib.hid hfu
  clear hp hs r2 hfl he hfu
  have x0 := h0.bx (fun _ _ e => e.1)
  have x1 := h0.bx (fun _ _ e => Bf.bx e.2)
  go_enter Tryz.func259, Tryz.ntmps259
  go_wp2_with fail
  refine (Cx.node h0 r1 (actsC_seg n _ p toks)).mono ?_
  rintro e w1 ⟨rfl, h1⟩
  clear x0 x1 h0 r1
  go_wp2_with fail
  go_loopg [] m (fun gk wr => ∃ s1 w1, wr = w1.setCell ⟨b1, 0, none⟩ (.bool s1.flag) ∧ (⟨And2 (Bx b0 (.pointer (some ⟨p, 0, none⟩))) (Bf b1 (.bool false)), p, toks, low, kind, M, w⟩ : Cx).At w1 s1 ∧ RL n gk useT useB s1 s')
  case atStart => exact ⟨u, w1, by rw [HFU.out]; exact (setCell_same (h1.bx (fun _ _ e => Bf.bx e.2))).symm, h1, hl⟩
  case round =>
    clear h1 hl HFU
    obtain ⟨s1, w2, hwr, h1, hl⟩ := hrel
    have x0 := h1.bx (fun _ _ e => e.1)
    have x1 := h1.bx (fun _ _ e => Bf.bx e.2)
    cases hf : s1.flag
    · rw [hf] at hwr
      have hsame := setCell_same x1
      rw [hsame] at hwr
      subst hwr
      have HF := Lib.hid hf
      clear hf hsame
      go_wp2_with fail
      refine (Cx.at1 h1 pCC (by simp)).mono ?_
      rintro e w3 ⟨rfl, h3⟩
      clear x0 x1 h1
      have x0 := h3.bx (fun _ _ e => e.1)
      have x1 := h3.bx (fun _ _ e => Bf.bx e.2)
      cases ht : atB [pCC] s1.rest
      · have hz := Lib.hid (hl.no (show (atB [pCC] s1.rest && !s1.flag) = false by rw [ht]; rfl))
        clear ht hl
        go_wp2_with fail
        go_end0
        obtain ⟨hE, M3, q1, q2, q3⟩ := h3
        rw [hz.out]
        exact ⟨rfl, M3, q1, QG.of_step q2 (by rw [HF.out]; exact q3.2.1.1) q3.2.2⟩
      · obtain ⟨k, v, hk, hc, hl2⟩ := hl.yes (show (atB [pCC] s1.rest && !s1.flag) = true by rw [ht, HF.out]; rfl)
        clear ht hl
        go_wp2_with fail
        refine (Cx.look h3).mono ?_
        rintro e w4 ⟨q, Mq, sq, rfl, hq, hr, h4⟩
        clear x0 x1 h3
        have x0 := h4.bx (fun _ _ e => e.1)
        have x1 := h4.bx (fun _ _ e => Bf.bx e.2)
        have HR := Lib.hid hr
        clear hr
        go_wp2_with fail
        refine (Cx.ahead1 h4 hq HR.out pStar (by simp)).mono ?_
        rintro e w5 ⟨rfl, h5⟩
        clear x0 x1 h4 hq
        have x0 := h5.bx (fun _ _ e => e.1)
        have x1 := h5.bx (fun _ _ e => Bf.bx e.2)
        have fz1 := h5.fz (fun _ _ e => e.2)
        cases ht : atB [pStar] (after s1.rest)
        · have hc2 := R.no hc ht
          obtain ⟨y1, k1, k2⟩ := R.seq hc2
          obtain ⟨y2, k3, k4⟩ := R.seq k2
          have hfv := Lib.hid (show v.flag = false by rw [seg_flag k4, bump_flag k3.bump, k1.setFlag])
          have h6 := (h5.flag false).eq k1.setFlag
          rw [seg_false] at k4
          clear ht hc hc2 k2 k1 h5
          have hsame := setCell_same x1
          go_wp2_with fail
          refine (Cx.bump h6 k3).mono ?_
          rintro e w6 ⟨rfl, h7⟩
          clear x0 x1 h6 k3 hsame fz1
          have x0 := h7.bx (fun _ _ e => e.1)
          have x1 := h7.bx (fun _ _ e => Bf.bx e.2)
          go_wp2_with fail
          refine (Cx.node h7 k4 (actsC_seg n _ p toks)).mono ?_
          rintro e w7 ⟨rfl, h8⟩
          clear x0 x1 h7 k4
          go_wp2_with fail
          go_roundg k
          case rel => exact ⟨v, w7, by rw [hfv.out]; exact (setCell_same (h8.bx (fun _ _ e => Bf.bx e.2))).symm, h8, hl2⟩
          case measure => exact hk
        · have hv := Lib.hid (R.yes hc ht).setFlag
          clear ht hc
          have h6 := (h5.flag true).eq hv.out
          have hfv := Lib.hid (show v.flag = true by rw [hv.out])
          clear h5
          go_wp2_with fail
          go_roundg k
          case rel => exact ⟨v, w5, by rw [hfv.out], h6, hl2⟩
          case measure => exact hk
    · rw [hf] at hwr
      have HF := Lib.hid hf
      have hz := Lib.hid (hl.no (show (atB [pCC] s1.rest && !s1.flag) = false by rw [hf]; simp))
      clear hf hl
      obtain ⟨hE, M2, q1, q2, q3⟩ := h1
      have hb1 : b1 < w2.heap.size := World.block_lt_of_cell? w2 _ x1
      have qp := q1.poke x1 q3.2.2 (.bool true)
      have y1 : wr.cell? ⟨b1, 0, none⟩ = some (.bool true) := by
        rw [hwr]
        exact cell_setCell_self x1
      have y0 : wr.cell? ⟨b0, 0, none⟩ = some (.pointer (some ⟨p, 0, none⟩)) := by
        rw [hwr]
        exact (World.cell?_of_block (w := w2) (Below.heap_setCell _ _ _ _ hne)).trans x0
      have hb1' : b1 < wr.heap.size := by rw [hwr, World.size_setCell]; exact hb1
      have HW := Lib.hid hwr
      rw [← hwr] at qp
      clear hwr x0 x1
      have hcall := at_any _ p M2 toks low kind s1 (qp.below ((Below.refl _ _).alloc (Nat.le_refl _) (.cells #[.string pCC] 9))) (some ⟨wr.heap.size, 0, none⟩) 1 1 [pCC] (StrsAt.new wr [pCC] 9 _ rfl) rfl (by decide)
      have HC := Lib.hid hcall
      clear hcall
      have hfin : ∀ (w' : World), Below wr.heap.size wr w' → ∃ M', PAt w' p M' toks low kind s' ∧ QG b1 w M w' M' s' := fun w' hb => by
        rw [hz.out]
        refine ⟨M2, qp.below hb, QG.poke q2 true hb1 q3.2.2 (by rw [← HW.out]; exact hb) ?_⟩
        rw [HF.out]
        exact (hb.cell (p := ⟨b1, 0, none⟩) hb1').trans y1
      have HFIN := Lib.hid hfin
      clear hfin
      go_wp2_with fail
      refine HC.out.mono ?_
      rintro e w3 ⟨rfl, hb⟩
      have HB := Lib.hid (((Below.refl wr.heap.size wr).alloc (Nat.le_refl _) (.cells #[.string pCC] 9)).trans (hb.mono (by simp)))
      have z1 := (HB.out.cell (p := ⟨b1, 0, none⟩) hb1').trans y1
      clear hb y0 y1 HC
      cases ht : atB [pCC] s1.rest
      · go_wp2_with fail
        go_end0
        exact ⟨rfl, HFIN.out _ HB.out⟩
      · go_wp2_with fail
        go_end0
        exact ⟨rfl, HFIN.out _ HB.out⟩
end Go.Proofs.YtpibenilagloaaaGreatDoor

/-
  (*parser).use: the walk of the function.
-/
namespace Go.Proofs.YtpibenilagloaaaGreatDoor
open Go.RowKit
set_option linter.unusedVariables false

theorem QG.comp {n : Nat} {w w3 w4 : World} {M M3 M4 : MM} {u : PS} (h : Step M w M3 w3) (q : QG n w3 M3 w4 M4 u) (hn : w.heap.size ≤ n) : Step M w M4 w4 :=
  ⟨q.os.trans h.os, q.tape.trans h.tape, q.output.trans h.output, Nat.le_trans h.size q.size,
    fun b hb hM => (q.block b (Nat.lt_of_lt_of_le hb h.size) (fun hm => (h.own b hm).elim hM (fun h2 => by omega)) (by omega)).trans (h.block b hb hM),
    fun b hb => (q.own b hb).elim (fun h1 => h.own b h1) (fun h1 => .inr (Nat.le_trans h.size h1)), q.hx.trans h.hx⟩
theorem QG.bx {n b : Nat} {v : Value} {w3 w4 : World} {M3 M4 : MM} {u : PS} (q : QG n w3 M3 w4 M4 u) (h : Bx b v w3 M3) (hne : b ≠ n) : Bx b v w4 M4 := by
  have hlt : b < w3.heap.size := World.block_lt_of_cell? w3 _ h.1
  exact ⟨(World.cell?_of_block (w := w3) (q.block b hlt h.2 hne)).trans h.1, fun hm => (q.own b hm).elim h.2 (fun h2 => by omega)⟩
set_option maxRecDepth 100000 in
set_option maxHeartbeats 1600000 in
theorem fn_use {n : Nat} {p : Nat} {toks : List Tok} (hI : AllOk n p toks) : FnOk n p toks .useS := by
  intro hd w M low kind s s' hp hs
  rw [body_use] at hs
  show Calls Tryz.prog 210 #[.pointer (some ⟨p, 0, none⟩)] w _
  obtain ⟨s1, r1, hs⟩ := R.seq hs
  obtain ⟨s2, r2, hs⟩ := R.seq hs
  obtain ⟨s3, r3, r4⟩ := R.seq hs
  have h0 := Cx.At.start hp (v := .pointer (some ⟨p, 0, none⟩)) (t := 174)
  have h1 := h0.boxF (v := .bool false) (t := 4) (n := w.heap.size + 1) (by simp)
  have h2 := (h1.flag false).eq r1.setFlag
  have hf1 : s1.flag = false := by rw [r1.setFlag]
  have x0 := h2.bx (fun _ _ e => e.1)
  obtain ⟨hE, M1, p1, st1, e1⟩ := h2
  obtain ⟨hg, u, hu, hs2⟩ := r2.node
  have hfin : ∀ (e : Ending) (w' : World), (e = .returned (.tuple #[]) ∧ ∃ M', PAt w' p M' toks low kind { u with ch := s1.ch ++ [.mk 17 .empty u.ch] } ∧ ∃ w3 M3 w4 M4, Step M1 ((w.alloc (.cells #[.pointer (some ⟨p, 0, none⟩)] 174)).alloc (.cells #[.bool false] 4)) M3 w3 ∧ QG (w.heap.size + 1) w3 M3 w4 M4 u ∧ Step M4 w4 M' w') →
      e = .returned (.tuple #[]) ∧ (⟨And2 (Bx w.heap.size (.pointer (some ⟨p, 0, none⟩))) (Bx (w.heap.size + 1) (.bool s2.flag)), p, toks, low, kind, M, w⟩ : Cx).At w' s2 := by
    rintro e w' ⟨h1, M', hp', w3, M3, w4, M4, T1, QQ, T2⟩
    refine ⟨h1, And2.stays (Bx.stays _ _) (Bx.stays _ _), M', by rw [hs2]; exact hp', ((QG.comp (st1.trans T1) QQ (Nat.le_succ _))).trans T2, ?_⟩
    have k0 := Bx.stays _ _ _ _ _ _ e1.1 T1
    have k1 := QQ.bx k0 (by omega)
    refine ⟨Bx.stays _ _ _ _ _ _ k1 T2, Bx.stays _ _ _ _ _ _ ⟨?_, QQ.free⟩ T2⟩
    rw [hs2]
    exact QQ.cell
  have hcall := Lib.hid ((node_gen _ p M1 toks low kind s1 u p1 17 _ _ _ (And2.stays (Bx.stays _ _) (Bf.stays _ _)) _ _ _ (ent_of Tryz.func259 (by kernel_rfl) (by kernel_rfl)) (acts_use_1 hI (w.heap.size) (w.heap.size + 1) (by omega)) e1 hg ⟨hf1, hu⟩ (hu.gas (by show 0 < s1.gas - 1; omega))).mono hfin)
  clear hp hs r2 h0 h1 hE p1 st1 e1 hg hu hs2 hfin hf1 r1
  go_enter Tryz.func210, Tryz.ntmps210
  go_wp2_with fail
  refine hcall.out.mono ?_
  rintro e w1 ⟨rfl, h1⟩
  clear hcall x0
  have x0 := h1.bx (fun _ _ e => e.1)
  have x1 := h1.bx (fun _ _ e => e.2)
  cases hf : s2.flag
  · rw [hf] at x1
    have r3f := R.no r3 hf
    have HF := Lib.hid hf
    clear r3 hf
    cases ht : atB [kAs] s2.rest
    · have r5 := R.no r3f ht
      have ht' := Lib.hid ht
      clear ht r3f
      go_wp2_with fail
      refine (Cx.acceptF h1 ht'.out (by simp)).mono ?_
      rintro e w2 ⟨rfl, h2⟩
      clear x0 x1 h1
      have h3 := h2.eq r5.skip
      clear h2 r5
      have x0 := h3.bx (fun _ _ e => e.1)
      go_wp2_with fail
      refine (Cx.expect h3 r4).mono ?_
      rintro e w3 ⟨rfl, h4⟩
      clear x0 h3
      go_wp2_with fail
      go_end0
      exact h4.post
    · obtain ⟨u1, q1, q2⟩ := R.seq (R.yes r3f ht)
      have ht' := Lib.hid ht
      have qb := Lib.hid q1.bump
      clear ht r3f q1
      go_wp2_with fail
      refine (Cx.acceptT h1 ht'.out qb.out (by simp)).mono ?_
      rintro e w2 ⟨rfl, h2⟩
      clear x0 x1 h1
      have x0 := h2.bx (fun _ _ e => e.1)
      go_wp2_with fail
      refine (Cx.expectIdent h2 q2).mono ?_
      rintro e w3 ⟨rfl, h3⟩
      clear x0 h2
      have x0 := h3.bx (fun _ _ e => e.1)
      go_wp2_with fail
      refine (Cx.expect h3 r4).mono ?_
      rintro e w4 ⟨rfl, h4⟩
      clear x0 h3
      go_wp2_with fail
      go_end0
      exact h4.post
  · rw [hf] at x1
    obtain ⟨u1, q1, q2⟩ := R.seq (R.yes r3 hf)
    have HF := Lib.hid hf
    clear r3 hf
    go_wp2_with fail
    refine (Cx.bump h1 q1).mono ?_
    rintro e w2 ⟨rfl, h2⟩
    clear x0 x1 h1 q1
    have x0 := h2.bx (fun _ _ e => e.1)
    go_wp2_with fail
    refine (Cx.bump h2 q2).mono ?_
    rintro e w3 ⟨rfl, h3⟩
    clear x0 h2 q2
    have x0 := h3.bx (fun _ _ e => e.1)
    go_wp2_with fail
    refine (Cx.expect h3 r4).mono ?_
    rintro e w4 ⟨rfl, h4⟩
    clear x0 h3
    go_wp2_with fail
    go_end0
    exact h4.post
end Go.Proofs.YtpibenilagloaaaGreatDoor

/-
  The parser's functions: the walks (printed by gen_walk.py).
-/
namespace Go.Proofs.YtpibenilagloaaaGreatDoor
open Go.RowKit
set_option linter.unusedVariables false

/-- an item of a kind -/
def itemC (k : Int) : Cmd := .seq (Cmd.accept [kPub]) (.seq .bump (.call (.itemBody k)))
set_option maxRecDepth 100000 in
set_option maxHeartbeats 1600000 in
theorem acts_item_1 {n : Nat} {p : Nat} {toks : List Tok} (hI : AllOk n p toks) (k : Int) (hk : 2 ≤ k ∧ k ≤ 9) (b0 : Nat) (b1 : Nat) : ActsC n (itemC k) (And2 (Bx b0 (.pointer (some ⟨p, 0, none⟩))) (Bx b1 (.int .i64 k))) 135 #[] #[.pointer (some ⟨b0, 0, none⟩), .pointer (some ⟨b1, 0, none⟩)] p toks := by
  refine actsC_of (And2.stays (Bx.stays _ _) (Bx.stays _ _)) (ent_of Tryz.func135 (by kernel_rfl) (by kernel_rfl)) ?_
  intro low kind M0 w0 w s s' h0 hs
  show Calls Tryz.prog 135 #[.pointer (some ⟨b0, 0, none⟩), .pointer (some ⟨b1, 0, none⟩)] w _
  have x0 := h0.bx (fun _ _ e => e.1)
  have x1 := h0.bx (fun _ _ e => e.2)
  go_enter Tryz.func135, Tryz.ntmps135
  obtain ⟨u1, r2, r3⟩ := R.seq hs
  obtain ⟨u4, r5, r6⟩ := R.seq r3
  go_wp2_with fail
  refine (Cx.accept h0 r2 (by simp)).mono ?_
  rintro e w8 ⟨rfl, h7⟩
  clear x0 x1 h0
  have x0 := h7.bx (fun _ _ e => e.1)
  have x1 := h7.bx (fun _ _ e => e.2)
  clear r2
  go_wp2_with fail
  refine (Cx.bump h7 r5).mono ?_
  rintro e w10 ⟨rfl, h9⟩
  clear x0 x1 h7
  have x0 := h9.bx (fun _ _ e => e.1)
  have x1 := h9.bx (fun _ _ e => e.2)
  clear r5
  go_wp2_with fail
  refine (Cx.fn (.itemBody k) hI h9 r6 hk).mono ?_
  rintro e w12 ⟨rfl, h11⟩
  clear x0 x1 h9
  have x0 := h11.bx (fun _ _ e => e.1)
  have x1 := h11.bx (fun _ _ e => e.2)
  clear r6
  go_wp2_with fail
  go_end0
  exact ⟨rfl, h11⟩
end Go.Proofs.YtpibenilagloaaaGreatDoor

/-
  (*parser).item: the walk.
-/
namespace Go.Proofs.YtpibenilagloaaaGreatDoor
open Go.RowKit
set_option linter.unusedVariables false

theorem body_item : body .item = .ite (.at [kPub]) (itemOf 1) (itemOf 0) := rfl
/-- the token that tells an item's kind -/
def nextT (i : Nat) (r : List Tok) : Tok := peekT (skipN i r)
theorem kindIx_eq (t : ByteArray) : kindIx t = if kUse = t then 2 else if kFn = t then 3 else if kStruct = t then 4 else if kEnum = t then 5 else if kTrait = t then 6 else if kImpl = t then 7 else if kConst = t then 8 else if kMacro = t then 9 else 0 := by
  unfold kindIx Lib.idxOfS kinds
  simp only [Lib.idxFromS]
  repeat' split
  all_goals first | rfl | omega
theorem itemOf_skip {n i : Nat} {s s' : PS} (h : R n (itemOf i) s s') (hk : kindIx (nextT i s.rest).t = 0 ∨ (nextT i s.rest).k ≠ 104) : R n (.call .skipToItem) s s' := by
  unfold itemOf at h
  have key : ∀ (kw : ByteArray) (q : Int), (kw = (nextT i s.rest).t → kindIx (nextT i s.rest).t ≠ 0) → (Test.ahead i (.and (.kind 104) (.text kw))).eval s.flag s.rest = false := by
    intro kw q hq
    show ((nextT i s.rest).k == 104 && decide ((nextT i s.rest).t = kw)) = false
    rcases hk with hk | hk
    · have : ¬ (nextT i s.rest).t = kw := fun e => hq e.symm hk
      rw [decide_eq_false this, Bool.and_false]
    · rw [beq_eq_false_iff_ne.2 hk, Bool.false_and]
  have no : ∀ (kw : ByteArray), kw ∈ kinds → kw = (nextT i s.rest).t → kindIx (nextT i s.rest).t ≠ 0 := by
    intro kw hm e
    rw [← e, kindIx_eq]
    unfold kinds at hm
    simp only [List.mem_cons, List.not_mem_nil, or_false] at hm
    rcases hm with rfl | rfl | rfl | rfl | rfl | rfl | rfl | rfl <;> decide
  have h := R.no h (key kUse 2 (no kUse (by simp [kinds])))
  have h := R.no h (key kFn 3 (no kFn (by simp [kinds])))
  have h := R.no h (key kStruct 4 (no kStruct (by simp [kinds])))
  have h := R.no h (key kEnum 5 (no kEnum (by simp [kinds])))
  have h := R.no h (key kTrait 6 (no kTrait (by simp [kinds])))
  have h := R.no h (key kImpl 7 (no kImpl (by simp [kinds])))
  have h := R.no h (key kConst 8 (no kConst (by simp [kinds])))
  exact R.no h (key kMacro 9 (no kMacro (by simp [kinds])))
theorem itemOf_node {n i : Nat} {s s' : PS} (h : R n (itemOf i) s s') (hk : kindIx (nextT i s.rest).t ≠ 0) (h4 : (nextT i s.rest).k = 104) : (2 ≤ kindIx (nextT i s.rest).t ∧ kindIx (nextT i s.rest).t ≤ 9) ∧ R n (.node (kindIx (nextT i s.rest).t) (itemC (kindIx (nextT i s.rest).t))) s s' := by
  unfold itemOf at h
  have yes : ∀ (kw : ByteArray), kw = (nextT i s.rest).t → (Test.ahead i (.and (.kind 104) (.text kw))).eval s.flag s.rest = true := by
    intro kw e
    show ((nextT i s.rest).k == 104 && decide ((nextT i s.rest).t = kw)) = true
    rw [h4, e]
    simp
  have no : ∀ (kw : ByteArray), ¬ kw = (nextT i s.rest).t → (Test.ahead i (.and (.kind 104) (.text kw))).eval s.flag s.rest = false := by
    intro kw e
    show ((nextT i s.rest).k == 104 && decide ((nextT i s.rest).t = kw)) = false
    rw [decide_eq_false (fun k => e k.symm), Bool.and_false]
  rw [kindIx_eq] at hk ⊢
  by_cases e1 : kUse = (nextT i s.rest).t
  · rw [if_pos e1]; exact ⟨by decide, R.yes h (yes _ e1)⟩
  rw [if_neg e1] at hk ⊢
  have h := R.no h (no _ e1)
  by_cases e2 : kFn = (nextT i s.rest).t
  · rw [if_pos e2]; exact ⟨by decide, R.yes h (yes _ e2)⟩
  rw [if_neg e2] at hk ⊢
  have h := R.no h (no _ e2)
  by_cases e3 : kStruct = (nextT i s.rest).t
  · rw [if_pos e3]; exact ⟨by decide, R.yes h (yes _ e3)⟩
  rw [if_neg e3] at hk ⊢
  have h := R.no h (no _ e3)
  by_cases e4 : kEnum = (nextT i s.rest).t
  · rw [if_pos e4]; exact ⟨by decide, R.yes h (yes _ e4)⟩
  rw [if_neg e4] at hk ⊢
  have h := R.no h (no _ e4)
  by_cases e5 : kTrait = (nextT i s.rest).t
  · rw [if_pos e5]; exact ⟨by decide, R.yes h (yes _ e5)⟩
  rw [if_neg e5] at hk ⊢
  have h := R.no h (no _ e5)
  by_cases e6 : kImpl = (nextT i s.rest).t
  · rw [if_pos e6]; exact ⟨by decide, R.yes h (yes _ e6)⟩
  rw [if_neg e6] at hk ⊢
  have h := R.no h (no _ e6)
  by_cases e7 : kConst = (nextT i s.rest).t
  · rw [if_pos e7]; exact ⟨by decide, R.yes h (yes _ e7)⟩
  rw [if_neg e7] at hk ⊢
  have h := R.no h (no _ e7)
  by_cases e8 : kMacro = (nextT i s.rest).t
  · rw [if_pos e8]; exact ⟨by decide, R.yes h (yes _ e8)⟩
  rw [if_neg e8] at hk
  exact absurd rfl hk
theorem Cx.At.ofBelow {w w' : World} {p : Nat} {M : MM} {toks : List Tok} {low : List LowF} {kind : Int} {s : PS} (hp : PAt w p M toks low kind s) (hb : Below w.heap.size w w') {b0 b1 : Nat} {v0 v1 : Value} (h0 : w'.cell? ⟨b0, 0, none⟩ = some v0) (g0 : w.heap.size ≤ b0) (h1 : w'.cell? ⟨b1, 0, none⟩ = some v1) (g1 : w.heap.size ≤ b1) :
    (⟨And2 (Bx b0 v0) (Bx b1 v1), p, toks, low, kind, M, w⟩ : Cx).At w' s :=
  ⟨And2.stays (Bx.stays _ _) (Bx.stays _ _), _, hp.cut.below hb, ⟨hb.os, hb.tape, hb.output, hb.size, fun b hlt _ => hb.block b hlt, fun b hm => .inl hm.1, rfl⟩, ⟨h0, fun hm => by have := hm.2; omega⟩, ⟨h1, fun hm => by have := hm.2; omega⟩⟩

theorem cell_alloc_lt {w : World} (o : Obj) (b : Nat) (h : b < w.heap.size) : (w.alloc o).cell? ⟨b, 0, none⟩ = w.cell? ⟨b, 0, none⟩ := World.cell?_of_block (w := w) (heap_alloc_lt w o h)
theorem box_cells {w : World} {b : Nat} {x y : Value} {t : TypeId} (h : w.heap[b]? = some (.cells #[x, y] t (0, 0))) : w.cell? ⟨b, 0, none⟩ = some x ∧ w.cell? ⟨b, 1, none⟩ = some y ∧ w.frozen? ⟨b, 0, none⟩ = false ∧ w.frozen? ⟨b, 1, none⟩ = false ∧ b < w.heap.size :=
  ⟨by rw [Lib.cell_of_heap h]; rfl, by rw [Lib.cell_of_heap h]; rfl, Lib.frozen_of_heap h 0, Lib.frozen_of_heap h 1, lt_of_heap h⟩
set_option maxRecDepth 100000 in
set_option maxHeartbeats 3200000 in
theorem fn_item {n : Nat} {p : Nat} {toks : List Tok} (hI : AllOk n p toks) : FnOk n p toks .item := by
  intro hd w M low kind s s' hp hs
  rw [body_item] at hs
  show Calls Tryz.prog 85 #[.pointer (some ⟨p, 0, none⟩)] w _
  have HP := Lib.hid hp
  have hasc : AscAt w := by obtain ⟨g, cap, v, At, ct, hX⟩ := hp; exact hX.asc
  have HB0 := Lib.hid (show Below w.heap.size w (w.alloc (.cells #[.pointer (some ⟨p, 0, none⟩)] 174)) from (Below.refl _ _).alloc (Nat.le_refl _) _)
  have q0 : (w.alloc (.cells #[.pointer (some ⟨p, 0, none⟩)] 174)).cell? ⟨w.heap.size, 0, none⟩ = some (.pointer (some ⟨p, 0, none⟩)) := by rw [Lib.cell_of_heap (heap_alloc_new _ _)]; rfl
  clear hp
  go_enter Tryz.func85, Tryz.ntmps85
  go_wp2_with fail
  refine (peek_any _ p M toks low kind s (HP.out.below HB0.out)).mono ?_
  rintro e w1 ⟨rfl, hb⟩
  have HB1 := Lib.hid (HB0.out.trans (hb.mono HB0.out.size))
  have hl1 : w.heap.size < w1.heap.size := by have := hb.size; simp at this; omega
  have x0 : w1.cell? ⟨w.heap.size, 0, none⟩ = some (.pointer (some ⟨p, 0, none⟩)) := (hb.cell (p := ⟨w.heap.size, 0, none⟩) (by simp)).trans q0
  clear hb q0
  unfold Tok.val
  have HB2 := Lib.hid (show Below w.heap.size w (w1.alloc (.cells #[.int .i64 (peekT s.rest).k, .string (peekT s.rest).t] 142)) from HB1.out.alloc HB1.out.size _)
  have HK := Lib.hid (at_any ((w1.alloc (.cells #[.int .i64 (peekT s.rest).k, .string (peekT s.rest).t] 142)).alloc (.cells #[.string kPub] 9)) p M toks low kind s (HP.out.below (HB2.out.alloc HB2.out.size _)) (some ⟨w1.heap.size + 1, 0, none⟩) 1 1 [kPub] (StrsAt.new _ [kPub] 9 _ (by simp)) rfl (by decide))
  go_wp2_with fail
  refine HK.out.mono ?_
  rintro e w2 ⟨rfl, hb⟩
  have hbx := ((Below.refl w1.heap.size w1).alloc (Nat.le_refl _) (.cells #[.int .i64 (peekT s.rest).k, .string (peekT s.rest).t] 142))
  have hb2 : Below (w1.alloc (.cells #[.int .i64 (peekT s.rest).k, .string (peekT s.rest).t] 142)).heap.size (w1.alloc (.cells #[.int .i64 (peekT s.rest).k, .string (peekT s.rest).t] 142)) w2 := ((Below.refl _ _).alloc (Nat.le_refl _) _).trans (hb.mono (by simp))
  have ht2 : w2.heap[w1.heap.size]? = some (.cells #[.int .i64 (peekT s.rest).k, .string (peekT s.rest).t] 142 (0, 0)) := (hb2.block _ (by simp)).trans (heap_alloc_new _ _)
  have HB3 := Lib.hid (HB2.out.trans (hb2.mono HB2.out.size))
  have x2 : w2.cell? ⟨w.heap.size, 0, none⟩ = some (.pointer (some ⟨p, 0, none⟩)) := ((hbx.trans (hb2.mono (by simp))).cell (p := ⟨w.heap.size, 0, none⟩) hl1).trans x0
  clear hb hbx hb2 x0 HK
  have HT2 := Lib.hid ht2
  clear ht2
  cases ht : atB [kPub] s.rest
  · have r := R.no hs ht
    clear ht hs
    obtain ⟨k0, k1, k2, k3, k4⟩ := box_cells HT2.out
    have hkind := Lib.hid (itemKind_any w2 (peekT s.rest).t (hasc.below HB3.out))
    have hsk := Lib.hid (fun h => itemOf_skip (i := 0) r h)
    have hnd := Lib.hid (fun h1 h2 => itemOf_node (i := 0) r h1 h2)
    have hy : nextT 0 s.rest = (peekT s.rest) := rfl
    rw [hy] at hsk hnd
    clear r hy
    generalize (peekT s.rest) = y at *
    go_wp2_with fail
    refine hkind.out.mono ?_
    rintro e w8 ⟨rfl, hb⟩
    have HB8 := Lib.hid (HB3.out.trans (hb.mono HB3.out.size))
    have x8 : w8.cell? ⟨w.heap.size, 0, none⟩ = some (.pointer (some ⟨p, 0, none⟩)) := (hb.cell (p := ⟨w.heap.size, 0, none⟩) (World.block_lt_of_cell? w2 _ x2)).trans x2
    have l8 : w.heap.size < w8.heap.size := World.block_lt_of_cell? w8 _ x8
    have t8 := (hb.block _ k4).trans HT2.out
    obtain ⟨k5, k6, k7, k8, k9⟩ := box_cells t8
    clear k0 k1 k2 k3 k4 hb hkind x2 HT2 t8
    generalize hq : kindIx y.t = q at *
    have HQ := Lib.hid hq
    clear hq
    have HB9 := Lib.hid (HB8.out.alloc HB8.out.size (.cells #[.int .i64 q] 3))
    by_cases h0 : q = 0
    · subst h0
      have hr := hsk.out (.inl rfl)
      clear hsk hnd
      have hcall := Cx.fn .skipToItem hI (Cx.At.bare (HP.out.below HB9.out)) hr True.intro
      have HC := Lib.hid hcall
      clear hcall hr
      go_wp2_with fail
      refine HC.out.mono ?_
      rintro e w9 ⟨rfl, h9⟩
      clear HC
      go_wp2_with fail
      go_end0
      exact Post.mono (Step.of_below (HB9.out.mono (Nat.le_refl _))) h9.post
    · have hq0 : (q == 0) = false := beq_eq_false_iff_ne.2 h0
      by_cases h4 : y.k = 104
      · obtain ⟨hd1, hr⟩ := hnd.out h0 h4
        have hy4 : (y.k == 104) = true := by rw [h4]; rfl
        have hy5 : (y.k != 104) = false := by rw [h4]; rfl
        have H4 := Lib.hid h4
        have H0 := Lib.hid h0
        clear h4 h0 hsk hnd
        have hat := Cx.At.ofBelow HP.out HB9.out (b0 := w.heap.size) (b1 := w8.heap.size) (v0 := .pointer (some ⟨p, 0, none⟩)) (v1 := .int .i64 q) (by rw [cell_alloc_lt _ _ l8]; exact x8) (Nat.le_refl _) (by rw [Lib.cell_of_heap (heap_alloc_new _ _)]; rfl) HB8.out.size
        have HC := Lib.hid (Cx.node hat hr (acts_item_1 hI q hd1 w.heap.size w8.heap.size))
        clear hat hr
        go_wp2_with fail
        refine HC.out.mono ?_
        rintro e w9 ⟨rfl, h9⟩
        clear HC
        go_wp2_with fail
        go_end0
        exact h9.post
      · have hr := hsk.out (.inr h4)
        have hy4 : (y.k == 104) = false := beq_eq_false_iff_ne.2 h4
        have hy5 : (y.k != 104) = true := by simp [h4]
        have H4 := Lib.hid h4
        have H0 := Lib.hid h0
        clear h4 h0 hsk hnd
        have HC := Lib.hid (Cx.fn .skipToItem hI (Cx.At.bare (HP.out.below HB9.out)) hr True.intro)
        clear hr
        go_wp2_with fail
        refine HC.out.mono ?_
        rintro e w9 ⟨rfl, h9⟩
        clear HC
        go_wp2_with fail
        go_end0
        exact Post.mono (Step.of_below (HB9.out.mono (Nat.le_refl _))) h9.post
  · have r := R.yes hs ht
    clear ht hs
    have HL := Lib.hid (lookahead_any w2 p M toks low kind s (HP.out.below HB3.out))
    go_wp2_with fail
    refine HL.out.mono ?_
    rintro e w3 ⟨q, Mq, sq, rfl, hq, hrest, hb⟩
    have HP3 := Lib.hid (peek_any w3 q Mq toks [] 0 sq hq)
    rw [hrest] at HP3
    have HB4 := Lib.hid (HB3.out.trans (hb.mono HB3.out.size))
    have x3 := (hb.cell (p := ⟨w.heap.size, 0, none⟩) (World.block_lt_of_cell? w2 _ x2)).trans x2
    have HT3 := Lib.hid ((hb.block _ (lt_of_heap HT2.out)).trans HT2.out)
    clear hb hq hrest HL x2 HT2
    go_wp2_with fail
    refine HP3.out.mono ?_
    rintro e w4 ⟨rfl, hb⟩
    unfold Tok.val
    have HB5 := Lib.hid (HB4.out.trans (hb.mono HB4.out.size))
    have x4 := (hb.cell (p := ⟨w.heap.size, 0, none⟩) (World.block_lt_of_cell? w3 _ x3)).trans x3
    have HT4 := Lib.hid ((hb.block _ (lt_of_heap HT3.out)).trans HT3.out)
    clear hb HP3 x3 HT3
    obtain ⟨W5, hW5⟩ : ∃ W5, (w4.setCell ⟨w1.heap.size, 0, none⟩ (.int .i64 (peekT (after s.rest)).k)).setCell ⟨w1.heap.size, 1, none⟩ (.string (peekT (after s.rest)).t) = W5 := ⟨_, rfl⟩
    have HT5 := Lib.hid (show W5.heap[w1.heap.size]? = some (.cells #[.int .i64 (peekT (after s.rest)).k, .string (peekT (after s.rest)).t] 142 (0, 0)) by rw [← hW5]; exact set_two HT4.out _ _)
    have HB6 := Lib.hid (show Below w.heap.size w W5 by rw [← hW5]; exact (HB5.out.setCell (Nat.le_of_lt hl1) _).setCell (Nat.le_of_lt hl1) _)
    have x5 : W5.cell? ⟨w.heap.size, 0, none⟩ = some (.pointer (some ⟨p, 0, none⟩)) := by
      rw [← hW5]
      exact (World.cell?_of_block (w := w4) ((Below.heap_setCell _ _ _ _ (by show w.heap.size ≠ w1.heap.size; omega)).trans (Below.heap_setCell _ _ _ _ (by show w.heap.size ≠ w1.heap.size; omega)))).trans x4
    obtain ⟨m0, m1, m2, m3, m4⟩ := box_cells HT4.out
    clear x4 HT4
    obtain ⟨k0, k1, k2, k3, k4⟩ := box_cells HT5.out
    have hkind := Lib.hid (itemKind_any W5 (peekT (after s.rest)).t (hasc.below HB6.out))
    have hsk := Lib.hid (fun h => itemOf_skip (i := 1) r h)
    have hnd := Lib.hid (fun h1 h2 => itemOf_node (i := 1) r h1 h2)
    have hy : nextT 1 s.rest = (peekT (after s.rest)) := rfl
    rw [hy] at hsk hnd
    clear r hy
    generalize (peekT (after s.rest)) = y at *
    go_wp2_with fail
    refine hkind.out.mono ?_
    rintro e w8 ⟨rfl, hb⟩
    have HB8 := Lib.hid (HB6.out.trans (hb.mono HB6.out.size))
    have x8 : w8.cell? ⟨w.heap.size, 0, none⟩ = some (.pointer (some ⟨p, 0, none⟩)) := (hb.cell (p := ⟨w.heap.size, 0, none⟩) (World.block_lt_of_cell? W5 _ x5)).trans x5
    have l8 : w.heap.size < w8.heap.size := World.block_lt_of_cell? w8 _ x8
    have t8 := (hb.block _ k4).trans HT5.out
    obtain ⟨k5, k6, k7, k8, k9⟩ := box_cells t8
    clear k0 k1 k2 k3 k4 hb hkind x5 HT5 t8
    generalize hq : kindIx y.t = q at *
    have HQ := Lib.hid hq
    clear hq
    have HB9 := Lib.hid (HB8.out.alloc HB8.out.size (.cells #[.int .i64 q] 3))
    by_cases h0 : q = 0
    · subst h0
      have hr := hsk.out (.inl rfl)
      clear hsk hnd
      have hcall := Cx.fn .skipToItem hI (Cx.At.bare (HP.out.below HB9.out)) hr True.intro
      have HC := Lib.hid hcall
      clear hcall hr
      go_wp2_with fail
      refine HC.out.mono ?_
      rintro e w9 ⟨rfl, h9⟩
      clear HC
      go_wp2_with fail
      go_end0
      exact Post.mono (Step.of_below (HB9.out.mono (Nat.le_refl _))) h9.post
    · have hq0 : (q == 0) = false := beq_eq_false_iff_ne.2 h0
      by_cases h4 : y.k = 104
      · obtain ⟨hd1, hr⟩ := hnd.out h0 h4
        have hy4 : (y.k == 104) = true := by rw [h4]; rfl
        have hy5 : (y.k != 104) = false := by rw [h4]; rfl
        have H4 := Lib.hid h4
        have H0 := Lib.hid h0
        clear h4 h0 hsk hnd
        have hat := Cx.At.ofBelow HP.out HB9.out (b0 := w.heap.size) (b1 := w8.heap.size) (v0 := .pointer (some ⟨p, 0, none⟩)) (v1 := .int .i64 q) (by rw [cell_alloc_lt _ _ l8]; exact x8) (Nat.le_refl _) (by rw [Lib.cell_of_heap (heap_alloc_new _ _)]; rfl) HB8.out.size
        have HC := Lib.hid (Cx.node hat hr (acts_item_1 hI q hd1 w.heap.size w8.heap.size))
        clear hat hr
        go_wp2_with fail
        refine HC.out.mono ?_
        rintro e w9 ⟨rfl, h9⟩
        clear HC
        go_wp2_with fail
        go_end0
        exact h9.post
      · have hr := hsk.out (.inr h4)
        have hy4 : (y.k == 104) = false := beq_eq_false_iff_ne.2 h4
        have hy5 : (y.k != 104) = true := by simp [h4]
        have H4 := Lib.hid h4
        have H0 := Lib.hid h0
        clear h4 h0 hsk hnd
        have HC := Lib.hid (Cx.fn .skipToItem hI (Cx.At.bare (HP.out.below HB9.out)) hr True.intro)
        clear hr
        go_wp2_with fail
        refine HC.out.mono ?_
        rintro e w9 ⟨rfl, h9⟩
        clear HC
        go_wp2_with fail
        go_end0
        exact Post.mono (Step.of_below (HB9.out.mono (Nat.le_refl _))) h9.post
end Go.Proofs.YtpibenilagloaaaGreatDoor
