import Derived.Test.YtpibenilagloaaaGreatDoorMzap
namespace Go.Proofs.YtpibenilagloaaaGreatDoor
open Go.RowKit
set_option linter.unusedVariables false
mutual
theorem TreeV.poke {w w' : World} {F : Nat → Prop} {n : Nat} {x : Bool} (hn : w.cell? ⟨n, 0, none⟩ = some (.bool x)) (hw : ∀ b, b ≠ n → w'.heap[b]? = w.heap[b]?) : ∀ (t : Tree) (v0 v1 v2 : Value), TreeV w F t v0 v1 v2 → TreeV w' F t v0 v1 v2
  | .mk k t ch, v0, v1, v2, h => by
    unfold TreeV at h ⊢
    obtain ⟨h0, h1, A, c, h2, h3⟩ := h
    refine ⟨h0, h1, A, c, h2, ?_⟩
    cases ch with
    | nil => exact .inl rfl
    | cons y r =>
      rcases h3 with h3 | ⟨b, hA, hb, h3⟩
      · cases h3
      · have hbn : b ≠ n := by
          intro e
          subst e
          obtain ⟨yk, yt, yc⟩ := y
          unfold TreesV at h3
          obtain ⟨⟨u0, u1, u2, g0, _, _, g3⟩, _⟩ := h3
          unfold TreeV at g3
          rw [g0, g3.1] at hn
          cases hn
        exact .inr ⟨b, hA, hb, TreesV.poke hn hw (y :: r) b 0 hbn h3⟩
theorem TreesV.poke {w w' : World} {F : Nat → Prop} {n : Nat} {x : Bool} (hn : w.cell? ⟨n, 0, none⟩ = some (.bool x)) (hw : ∀ b, b ≠ n → w'.heap[b]? = w.heap[b]?) : ∀ (xs : List Tree) (b i : Nat), b ≠ n → TreesV w F xs b i → TreesV w' F xs b i
  | [], _, _, _, _ => by unfold TreesV; trivial
  | y :: r, b, i, hb, h => by
    unfold TreesV at h ⊢
    obtain ⟨⟨v0, v1, v2, h0, h1, h2, h3⟩, h4⟩ := h
    have e := fun j => World.cell?_of_block (w := w) (w' := w') (a := ⟨b, j, none⟩) (hw b hb)
    exact ⟨⟨v0, v1, v2, (e _).trans h0, (e _).trans h1, (e _).trans h2, TreeV.poke hn hw y v0 v1 v2 h3⟩, TreesV.poke hn hw r b (i + 3) hb h4⟩
end
theorem RowV.poke {w w' : World} {F : Nat → Prop} {n : Nat} {x : Bool} (hn : w.cell? ⟨n, 0, none⟩ = some (.bool x)) (hw : ∀ b, b ≠ n → w'.heap[b]? = w.heap[b]?) : ∀ (vs : List Value) (xs : List Tree), RowV w F vs xs → RowV w' F vs xs
  | v0 :: v1 :: v2 :: r, y :: xs, h => by
    unfold RowV at h ⊢
    exact ⟨TreeV.poke hn hw y v0 v1 v2 h.1, RowV.poke hn hw r xs h.2⟩
  | [], [], _ => by unfold RowV; trivial
  | [], _ :: _, h => by simp [RowV] at h
  | [_], _, h => by simp [RowV] at h
  | [_, _], _, h => by simp [RowV] at h
  | _ :: _ :: _ :: _, [], h => by simp [RowV] at h
theorem KidsAt.poke {w w' : World} {F F' : Nat → Prop} {n : Nat} {x : Bool} {v : Value} {ch : List Tree} (h : KidsAt w F v ch) (hn : w.cell? ⟨n, 0, none⟩ = some (.bool x)) (hw : ∀ b, b ≠ n → w'.heap[b]? = w.heap[b]?) (hv : v.ownBlock ≠ some n) (hF : ∀ b, F b → F' b) : KidsAt w' F' v ch := by
  obtain ⟨xs, h1, h2⟩ := h
  exact ⟨xs, ownsRow_below h1 fun g hg => hw g (fun e => hv (by rw [hg, e])), RowV.keep hF (fun _ _ => rfl) _ _ (RowV.poke hn hw _ _ h2)⟩
theorem AscAt.cell {w : World} (h : AscAt w) : w.cell? ⟨1, 0, none⟩ = some (.int .u8 0) := by
  unfold AscAt Lib.TabIs World.var? at h
  rw [glob_asc] at h
  simp only [Option.bind_some] at h
  split at h
  · next cs t fr hh =>
    injection h with h
    rw [Lib.cell_of_heap hh, h]
    simp [Lib.asciiSpaceTab, Lib.isSp]
  · cases h
theorem PAt.poke {w : World} {p : Nat} {M : MM} {toks : List Tok} {low : List LowF} {kind : Int} {s : PS} (h : PAt w p M toks low kind s) {n : Nat} {x : Bool} (hn : w.cell? ⟨n, 0, none⟩ = some (.bool x)) (hM : ¬ M n) (u : Value) : PAt (w.setCell ⟨n, 0, none⟩ u) p M toks low kind s := by
  obtain ⟨g, cap, v, At, ct, hX⟩ := h
  have hw : ∀ b, b ≠ n → (w.setCell ⟨n, 0, none⟩ u).heap[b]? = w.heap[b]? := fun b hb => Below.heap_setCell _ _ _ _ hb
  obtain ⟨m1, m2, m3, m4⟩ := hX.mine
  have hne : ∀ b, M b → b ≠ n := fun b hb e => hM (e ▸ hb)
  have hF : ∀ b, Fix w M b → Fix (w.setCell ⟨n, 0, none⟩ u) M b := fun b hb => ⟨by rw [World.size_setCell]; exact hb.1, hb.2, hb.3⟩
  exact ⟨g, cap, v, At, ct, { hX with
    blk := (hw p (hne p m1)).trans hX.blk
    hole := ⟨by rw [World.size_setCell]; exact hX.hole.1, hX.hole.2⟩
    row := ownsRow_below hX.row fun k hk => hw k (fun e => by simp only [Value.ownBlock, Option.some.injEq] at hk; exact hne g m2 (hk.trans e))
    kids := hX.kids.poke hn hw (fun e => hne n (m3 n e) rfl) hF
    lows := fun f hf => (hX.lows f hf).poke hn hw (fun e => hne n (m4 f hf n e) rfl) hF
    tok := fun hp => by
      obtain ⟨b, hA, hb, hc⟩ := hX.tok hp
      have hbn : b ≠ n := by
        intro e
        subst e
        have := (hc 0 toks[0] (List.getElem?_eq_getElem hp)).1
        rw [Nat.zero_mul] at this
        rw [this] at hn
        cases hn
      have e := fun j => World.cell?_of_block (w := w) (a := ⟨b, j, none⟩) (hw b hbn)
      exact ⟨b, hA, hF b hb, fun k y hy => ⟨(e _).trans (hc k y hy).1, (e _).trans (hc k y hy).2⟩⟩
    asc := hX.asc.keep (hw _ (fun e => by have := hX.asc.cell; rw [e, hn] at this; cases this)) }⟩
structure QG (n : Nat) (w : World) (M : MM) (w' : World) (M' : MM) (s' : PS) : Prop where
  os : w'.os = w.os
  tape : w'.tape = w.tape
  output : w'.output = w.output
  size : w.heap.size ≤ w'.heap.size
  block : ∀ b, b < w.heap.size → ¬ M b → b ≠ n → w'.heap[b]? = w.heap[b]?
  own : ∀ b, M' b → M b ∨ w.heap.size ≤ b
  cell : w'.cell? ⟨n, 0, none⟩ = some (.bool s'.flag)
  free : ¬ M' n
  hx : M'.x = M.x
theorem setCell_same {w : World} {n : Nat} {v : Value} (h : w.cell? ⟨n, 0, none⟩ = some v) : w.setCell ⟨n, 0, none⟩ v = w := by
  unfold World.cell? at h
  unfold World.setCell
  obtain ⟨heap, tape, drawn, os, output⟩ := w
  simp only at h ⊢
  congr 1
  apply Array.ext
  · simp
  · intro i h1 h2
    rw [Array.getElem_modify]
    split
    · next e =>
      subst e
      rw [Array.getElem?_eq_getElem h2] at h
      generalize heap[n] = o at h ⊢
      cases o with
      | cells c t fr =>
        simp only [Option.isSome_none, Bool.false_eq_true, if_false] at h ⊢
        congr 1
        apply Array.ext
        · simp
        · intro j k1 k2
          rw [Array.getElem_setIfInBounds]
          split
          · next e2 =>
            subst e2
            rw [Array.getElem?_eq_getElem k2] at h
            injection h with h
            exact h.symm
          · rfl
      | _ => rfl
    · rfl
theorem QG.of_step {n : Nat} {w : World} {M : MM} {w' : World} {M' : MM} {s' : PS} (h : Step M w M' w') (hc : w'.cell? ⟨n, 0, none⟩ = some (.bool s'.flag)) (hf : ¬ M' n) : QG n w M w' M' s' :=
  ⟨h.os, h.tape, h.output, h.size, fun b h1 h2 _ => h.block b h1 h2, h.own, hc, hf, h.hx⟩
theorem QG.poke {n : Nat} {w : World} {M : MM} {w1 w' : World} {M' : MM} {s' : PS} (h : Step M w M' w1) (x : Bool) (hn : n < w1.heap.size) (hf : ¬ M' n) (hb : Below (w1.setCell ⟨n, 0, none⟩ (.bool x)).heap.size (w1.setCell ⟨n, 0, none⟩ (.bool x)) w') (hc : w'.cell? ⟨n, 0, none⟩ = some (.bool s'.flag)) : QG n w M w' M' s' := by
  have hz := hb.size
  rw [World.size_setCell] at hz
  exact ⟨hb.os.trans h.os, hb.tape.trans h.tape, hb.output.trans h.output, Nat.le_trans h.size hz, fun b h1 h2 h3 => (hb.block b (by rw [World.size_setCell]; exact Nat.lt_of_lt_of_le h1 h.size)).trans ((Below.heap_setCell _ _ _ _ h3).trans (h.block b h1 h2)), h.own, hc, hf, h.hx⟩

def useT : Test := .and (.at [pCC]) (.not .flag)
def useB : Cmd := .ite (.ahead 1 (.at [pStar])) (.setFlag true) (.seq (.setFlag false) (.seq .bump (segment false)))
def useN : Cmd := .seq (segment false) (.loop useT useB)
theorem body_use : body .useS = .seq (.setFlag false) (.seq (.node 17 useN) (.seq (.ite .flag (.seq .bump .bump) (.ite (.at [kAs]) (.seq .bump Cmd.expectIdent) .skip)) (Cmd.expect pSemi))) := rfl
theorem seg_false : segment false = .node 18 (.seq Cmd.expectIdent .skip) := rfl
theorem actsC_seg (n : Nat) (E : WE) (p : Nat) (toks : List Tok) : ActsC n (.seq Cmd.expectIdent .skip) E 213 #[.pointer (some ⟨p, 0, none⟩)] #[] p toks :=
  ⟨(actsC_ident n E p toks).1, fun w M low kind s s' he h hr => by
    obtain ⟨u, h1, h2⟩ := R.seq hr
    rw [h2.skip]
    exact (actsC_ident n E p toks).2 w M low kind s u he h h1⟩
def Bf (b : Nat) (v : Value) : WE := fun w M => (w.cell? ⟨b, 0, none⟩ = some v ∧ w.frozen? ⟨b, 0, none⟩ = false) ∧ ¬ M b
theorem Bf.stays (b : Nat) (v : Value) : Stays (Bf b v) := fun w M w' M' h hs => by
  have hlt : b < w.heap.size := World.block_lt_of_cell? w _ h.1.1
  have e := hs.block b hlt h.2
  exact ⟨⟨(World.cell?_of_block (w := w) e).trans h.1.1, by have := h.1.2; unfold World.frozen? at this ⊢; rw [e]; exact this⟩, fun hm => (hs.own b hm).elim h.2 (fun h2 => by omega)⟩
theorem Bf.bx {b : Nat} {v : Value} {w : World} {M : MM} (h : Bf b v w M) : Bx b v w M := ⟨h.1.1, h.2⟩
theorem Cx.At.fz {c : Cx} {w : World} {s : PS} (h : c.At w s) {b : Nat} {v : Value} (hE : ∀ w M, c.E w M → Bf b v w M) : w.frozen? ⟨b, 0, none⟩ = false := by
  obtain ⟨_, M, h1, h2, h3⟩ := h
  exact (hE _ _ h3).1.2
theorem Cx.At.boxF {c : Cx} {w : World} {s : PS} (h : c.At w s) {v : Value} {t : TypeId} {n : Nat} (hn : n = w.heap.size) : (⟨And2 c.E (Bf n v), c.p, c.toks, c.low, c.kind, c.M0, c.w0⟩ : Cx).At (w.alloc (.cells #[v] t)) s := by
  subst hn
  obtain ⟨hE, M, h1, h2, h3⟩ := h
  have hb := (Below.refl w.heap.size w).alloc (Nat.le_refl _) (.cells #[v] t)
  have hst : Step M w ⟨fun b => M b ∧ b < w.heap.size, M.x⟩ (w.alloc (.cells #[v] t)) := ⟨rfl, rfl, rfl, hb.size, fun b hlt _ => hb.block b hlt, fun b hm => .inl hm.1, rfl⟩
  exact ⟨And2.stays hE (Bf.stays _ _), _, h1.cut.below hb, h2.trans hst, hE _ _ _ _ h3 hst, ⟨by rw [Lib.cell_of_heap (heap_alloc_new _ _)]; rfl, Lib.frozen_of_heap (heap_alloc_new _ _) 0⟩, fun hm => by have := hm.2; omega⟩
theorem cell_setCell_self {w : World} {n : Nat} {u v : Value} (h : w.cell? ⟨n, 0, none⟩ = some u) : (w.setCell ⟨n, 0, none⟩ v).cell? ⟨n, 0, none⟩ = some v := by
  go_simp
theorem add_flag {s s' : PS} {l : List Tree} (h : s.add l = some s') : s'.flag = s.flag := by
  unfold PS.add at h
  split at h
  · injection h with h; rw [← h]
  · cases h
theorem bump_flag {s s' : PS} (h : s.bump = some s') : s'.flag = s.flag := by
  unfold PS.bump at h
  obtain ⟨v, hv, rfl⟩ := Option.map_eq_some_iff.1 h
  have := add_flag hv
  exact this
theorem expectIdent_flag {n : Nat} {s s' : PS} (h : R n Cmd.expectIdent s s') : s'.flag = s.flag := by
  have := h.expectIdent
  split at this
  · exact bump_flag this
  · exact add_flag this
theorem seg_flag {n : Nat} {s s' : PS} (h : R n (segment false) s s') : s'.flag = s.flag := by
  rw [seg_false] at h
  obtain ⟨hg, v, hv, rfl⟩ := h.node
  obtain ⟨y, k1, k2⟩ := R.seq hv
  rw [k2.skip]
  have := expectIdent_flag k1
  exact this
set_option maxRecDepth 100000 in
set_option maxHeartbeats 1600000 in
theorem acts_use_1 {n : Nat} {p : Nat} {toks : List Tok} (hI : AllOk n p toks) (b0 b1 : Nat) (hne : b0 ≠ b1) : ActsQ (fun s s' => s.flag = false ∧ R n useN s s') (And2 (Bx b0 (.pointer (some ⟨p, 0, none⟩))) (Bf b1 (.bool false))) (QG b1) 259 #[] #[.pointer (some ⟨b0, 0, none⟩), .pointer (some ⟨b1, 0, none⟩)] p toks := by
  intro w M low kind s s' he hp hrel
  show Calls Tryz.prog 259 #[.pointer (some ⟨b0, 0, none⟩), .pointer (some ⟨b1, 0, none⟩)] w _
  have h0 := Cx.At.closure (And2.stays (Bx.stays _ _) (Bf.stays _ _)) he hp
  obtain ⟨hfl, hs⟩ := hrel
  unfold useN at hs
  obtain ⟨u, r1, r2⟩ := R.seq hs
  obtain ⟨m, hl⟩ := R.loop r2
  have hfu : u.flag = false := (seg_flag r1).trans hfl
  rw [seg_false] at r1
  have HFU := Lib.hid hfu
  clear hp hs r2 hfl he hfu
  have x0 := h0.bx (fun _ _ e => e.1)
  have x1 := h0.bx (fun _ _ e => Bf.bx e.2)
  go_enter Tryz.func259, Tryz.ntmps259
  go_wp2_with fail
  refine (Cx.node h0 r1 (actsC_seg n _ p toks)).mono ?_
  rintro e w1 ⟨rfl, h1⟩
  clear x0 x1 h0 r1
  go_wp2_with fail
  go_loopg [] m (fun gk wr => ∃ s1 w1, wr = w1.setCell ⟨b1, 0, none⟩ (.bool s1.flag) ∧ (⟨And2 (Bx b0 (.pointer (some ⟨p, 0, none⟩))) (Bf b1 (.bool false)), p, toks, low, kind, M, w⟩ : Cx).At w1 s1 ∧ RL n gk useT useB s1 s')
  case atStart => exact ⟨u, w1, by rw [HFU.out]; exact (setCell_same (h1.bx (fun _ _ e => Bf.bx e.2))).symm, h1, hl⟩
  case round =>
    clear h1 hl HFU
    obtain ⟨s1, w2, hwr, h1, hl⟩ := hrel
    have x0 := h1.bx (fun _ _ e => e.1)
    have x1 := h1.bx (fun _ _ e => Bf.bx e.2)
    cases hf : s1.flag
    · rw [hf] at hwr
      have hsame := setCell_same x1
      rw [hsame] at hwr
      subst hwr
      have HF := Lib.hid hf
      clear hf hsame
      go_wp2_with fail
      refine (Cx.at1 h1 pCC (by simp)).mono ?_
      rintro e w3 ⟨rfl, h3⟩
      clear x0 x1 h1
      have x0 := h3.bx (fun _ _ e => e.1)
      have x1 := h3.bx (fun _ _ e => Bf.bx e.2)
      cases ht : atB [pCC] s1.rest
      · have hz := Lib.hid (hl.no (show (atB [pCC] s1.rest && !s1.flag) = false by rw [ht]; rfl))
        clear ht hl
        go_wp2_with fail
        go_end0
        obtain ⟨hE, M3, q1, q2, q3⟩ := h3
        rw [hz.out]
        exact ⟨rfl, M3, q1, QG.of_step q2 (by rw [HF.out]; exact q3.2.1.1) q3.2.2⟩
      · obtain ⟨k, v, hk, hc, hl2⟩ := hl.yes (show (atB [pCC] s1.rest && !s1.flag) = true by rw [ht, HF.out]; rfl)
        clear ht hl
        go_wp2_with fail
        refine (Cx.look h3).mono ?_
        rintro e w4 ⟨q, Mq, sq, rfl, hq, hr, h4⟩
        clear x0 x1 h3
        have x0 := h4.bx (fun _ _ e => e.1)
        have x1 := h4.bx (fun _ _ e => Bf.bx e.2)
        have HR := Lib.hid hr
        clear hr
        go_wp2_with fail
        refine (Cx.ahead1 h4 hq HR.out pStar (by simp)).mono ?_
        rintro e w5 ⟨rfl, h5⟩
        clear x0 x1 h4 hq
        have x0 := h5.bx (fun _ _ e => e.1)
        have x1 := h5.bx (fun _ _ e => Bf.bx e.2)
        have fz1 := h5.fz (fun _ _ e => e.2)
        cases ht : atB [pStar] (after s1.rest)
        · have hc2 := R.no hc ht
          obtain ⟨y1, k1, k2⟩ := R.seq hc2
          obtain ⟨y2, k3, k4⟩ := R.seq k2
          have hfv := Lib.hid (show v.flag = false by rw [seg_flag k4, bump_flag k3.bump, k1.setFlag])
          have h6 := (h5.flag false).eq k1.setFlag
          rw [seg_false] at k4
          clear ht hc hc2 k2 k1 h5
          have hsame := setCell_same x1
          go_wp2_with fail
          refine (Cx.bump h6 k3).mono ?_
          rintro e w6 ⟨rfl, h7⟩
          clear x0 x1 h6 k3 hsame fz1
          have x0 := h7.bx (fun _ _ e => e.1)
          have x1 := h7.bx (fun _ _ e => Bf.bx e.2)
          go_wp2_with fail
          refine (Cx.node h7 k4 (actsC_seg n _ p toks)).mono ?_
          rintro e w7 ⟨rfl, h8⟩
          clear x0 x1 h7 k4
          go_wp2_with fail
          go_roundg k
          case rel => exact ⟨v, w7, by rw [hfv.out]; exact (setCell_same (h8.bx (fun _ _ e => Bf.bx e.2))).symm, h8, hl2⟩
          case measure => exact hk
        · have hv := Lib.hid (R.yes hc ht).setFlag
          clear ht hc
          have h6 := (h5.flag true).eq hv.out
          have hfv := Lib.hid (show v.flag = true by rw [hv.out])
          clear h5
          go_wp2_with fail
          go_roundg k
          case rel => exact ⟨v, w5, by rw [hfv.out], h6, hl2⟩
          case measure => exact hk
    · rw [hf] at hwr
      have HF := Lib.hid hf
      have hz := Lib.hid (hl.no (show (atB [pCC] s1.rest && !s1.flag) = false by rw [hf]; simp))
      clear hf hl
      obtain ⟨hE, M2, q1, q2, q3⟩ := h1
      have hb1 : b1 < w2.heap.size := World.block_lt_of_cell? w2 _ x1
      have qp := q1.poke x1 q3.2.2 (.bool true)
      have y1 : wr.cell? ⟨b1, 0, none⟩ = some (.bool true) := by
        rw [hwr]
        exact cell_setCell_self x1
      have y0 : wr.cell? ⟨b0, 0, none⟩ = some (.pointer (some ⟨p, 0, none⟩)) := by
        rw [hwr]
        exact (World.cell?_of_block (w := w2) (Below.heap_setCell _ _ _ _ hne)).trans x0
      have hb1' : b1 < wr.heap.size := by rw [hwr, World.size_setCell]; exact hb1
      have HW := Lib.hid hwr
      rw [← hwr] at qp
      clear hwr x0 x1
      have hcall := at_any _ p M2 toks low kind s1 (qp.below ((Below.refl _ _).alloc (Nat.le_refl _) (.cells #[.string pCC] 9))) (some ⟨wr.heap.size, 0, none⟩) 1 1 [pCC] (StrsAt.new wr [pCC] 9 _ rfl) rfl (by decide)
      have HC := Lib.hid hcall
      clear hcall
      have hfin : ∀ (w' : World), Below wr.heap.size wr w' → ∃ M', PAt w' p M' toks low kind s' ∧ QG b1 w M w' M' s' := fun w' hb => by
        rw [hz.out]
        refine ⟨M2, qp.below hb, QG.poke q2 true hb1 q3.2.2 (by rw [← HW.out]; exact hb) ?_⟩
        rw [HF.out]
        exact (hb.cell (p := ⟨b1, 0, none⟩) hb1').trans y1
      have HFIN := Lib.hid hfin
      clear hfin
      go_wp2_with fail
      refine HC.out.mono ?_
      rintro e w3 ⟨rfl, hb⟩
      have HB := Lib.hid (((Below.refl wr.heap.size wr).alloc (Nat.le_refl _) (.cells #[.string pCC] 9)).trans (hb.mono (by simp)))
      have z1 := (HB.out.cell (p := ⟨b1, 0, none⟩) hb1').trans y1
      clear hb y0 y1 HC
      cases ht : atB [pCC] s1.rest
      · go_wp2_with fail
        go_end0
        exact ⟨rfl, HFIN.out _ HB.out⟩
      · go_wp2_with fail
        go_end0
        exact ⟨rfl, HFIN.out _ HB.out⟩

theorem QG.comp {n : Nat} {w w3 w4 : World} {M M3 M4 : MM} {u : PS} (h : Step M w M3 w3) (q : QG n w3 M3 w4 M4 u) (hn : w.heap.size ≤ n) : Step M w M4 w4 :=
  ⟨q.os.trans h.os, q.tape.trans h.tape, q.output.trans h.output, Nat.le_trans h.size q.size,
    fun b hb hM => (q.block b (Nat.lt_of_lt_of_le hb h.size) (fun hm => (h.own b hm).elim hM (fun h2 => by omega)) (by omega)).trans (h.block b hb hM),
    fun b hb => (q.own b hb).elim (fun h1 => h.own b h1) (fun h1 => .inr (Nat.le_trans h.size h1)), q.hx.trans h.hx⟩
theorem QG.bx {n b : Nat} {v : Value} {w3 w4 : World} {M3 M4 : MM} {u : PS} (q : QG n w3 M3 w4 M4 u) (h : Bx b v w3 M3) (hne : b ≠ n) : Bx b v w4 M4 := by
  have hlt : b < w3.heap.size := World.block_lt_of_cell? w3 _ h.1
  exact ⟨(World.cell?_of_block (w := w3) (q.block b hlt h.2 hne)).trans h.1, fun hm => (q.own b hm).elim h.2 (fun h2 => by omega)⟩
set_option maxRecDepth 100000 in
set_option maxHeartbeats 1600000 in
theorem fn_use {n : Nat} {p : Nat} {toks : List Tok} (hI : AllOk n p toks) : FnOk n p toks .useS := by
  intro hd w M low kind s s' hp hs
  rw [body_use] at hs
  show Calls Tryz.prog 210 #[.pointer (some ⟨p, 0, none⟩)] w _
  obtain ⟨s1, r1, hs⟩ := R.seq hs
  obtain ⟨s2, r2, hs⟩ := R.seq hs
  obtain ⟨s3, r3, r4⟩ := R.seq hs
  have h0 := Cx.At.start hp (v := .pointer (some ⟨p, 0, none⟩)) (t := 174)
  have h1 := h0.boxF (v := .bool false) (t := 4) (n := w.heap.size + 1) (by simp)
  have h2 := (h1.flag false).eq r1.setFlag
  have hf1 : s1.flag = false := by rw [r1.setFlag]
  have x0 := h2.bx (fun _ _ e => e.1)
  obtain ⟨hE, M1, p1, st1, e1⟩ := h2
  obtain ⟨hg, u, hu, hs2⟩ := r2.node
  have hfin : ∀ (e : Ending) (w' : World), (e = .returned (.tuple #[]) ∧ ∃ M', PAt w' p M' toks low kind { u with ch := s1.ch ++ [.mk 17 .empty u.ch] } ∧ ∃ w3 M3 w4 M4, Step M1 ((w.alloc (.cells #[.pointer (some ⟨p, 0, none⟩)] 174)).alloc (.cells #[.bool false] 4)) M3 w3 ∧ QG (w.heap.size + 1) w3 M3 w4 M4 u ∧ Step M4 w4 M' w') →
      e = .returned (.tuple #[]) ∧ (⟨And2 (Bx w.heap.size (.pointer (some ⟨p, 0, none⟩))) (Bx (w.heap.size + 1) (.bool s2.flag)), p, toks, low, kind, M, w⟩ : Cx).At w' s2 := by
    rintro e w' ⟨h1, M', hp', w3, M3, w4, M4, T1, QQ, T2⟩
    refine ⟨h1, And2.stays (Bx.stays _ _) (Bx.stays _ _), M', by rw [hs2]; exact hp', ((QG.comp (st1.trans T1) QQ (Nat.le_succ _))).trans T2, ?_⟩
    have k0 := Bx.stays _ _ _ _ _ _ e1.1 T1
    have k1 := QQ.bx k0 (by omega)
    refine ⟨Bx.stays _ _ _ _ _ _ k1 T2, Bx.stays _ _ _ _ _ _ ⟨?_, QQ.free⟩ T2⟩
    rw [hs2]
    exact QQ.cell
  have hcall := Lib.hid ((node_gen _ p M1 toks low kind s1 u p1 17 _ _ _ (And2.stays (Bx.stays _ _) (Bf.stays _ _)) _ _ _ (ent_of Tryz.func259 (by kernel_rfl) (by kernel_rfl)) (acts_use_1 hI (w.heap.size) (w.heap.size + 1) (by omega)) e1 hg ⟨hf1, hu⟩ (hu.gas (by show 0 < s1.gas - 1; omega))).mono hfin)
  clear hp hs r2 h0 h1 hE p1 st1 e1 hg hu hs2 hfin hf1 r1
  go_enter Tryz.func210, Tryz.ntmps210
  go_wp2_with fail
  refine hcall.out.mono ?_
  rintro e w1 ⟨rfl, h1⟩
  clear hcall x0
  have x0 := h1.bx (fun _ _ e => e.1)
  have x1 := h1.bx (fun _ _ e => e.2)
  cases hf : s2.flag
  · rw [hf] at x1
    have r3f := R.no r3 hf
    have HF := Lib.hid hf
    clear r3 hf
    cases ht : atB [kAs] s2.rest
    · have r5 := R.no r3f ht
      have ht' := Lib.hid ht
      clear ht r3f
      go_wp2_with fail
      refine (Cx.acceptF h1 ht'.out (by simp)).mono ?_
      rintro e w2 ⟨rfl, h2⟩
      clear x0 x1 h1
      have h3 := h2.eq r5.skip
      clear h2 r5
      have x0 := h3.bx (fun _ _ e => e.1)
      go_wp2_with fail
      refine (Cx.expect h3 r4).mono ?_
      rintro e w3 ⟨rfl, h4⟩
      clear x0 h3
      go_wp2_with fail
      go_end0
      exact h4.post
    · obtain ⟨u1, q1, q2⟩ := R.seq (R.yes r3f ht)
      have ht' := Lib.hid ht
      have qb := Lib.hid q1.bump
      clear ht r3f q1
      go_wp2_with fail
      refine (Cx.acceptT h1 ht'.out qb.out (by simp)).mono ?_
      rintro e w2 ⟨rfl, h2⟩
      clear x0 x1 h1
      have x0 := h2.bx (fun _ _ e => e.1)
      go_wp2_with fail
      refine (Cx.expectIdent h2 q2).mono ?_
      rintro e w3 ⟨rfl, h3⟩
      clear x0 h2
      have x0 := h3.bx (fun _ _ e => e.1)
      go_wp2_with fail
      refine (Cx.expect h3 r4).mono ?_
      rintro e w4 ⟨rfl, h4⟩
      clear x0 h3
      go_wp2_with fail
      go_end0
      exact h4.post
  · rw [hf] at x1
    obtain ⟨u1, q1, q2⟩ := R.seq (R.yes r3 hf)
    have HF := Lib.hid hf
    clear r3 hf
    go_wp2_with fail
    refine (Cx.bump h1 q1).mono ?_
    rintro e w2 ⟨rfl, h2⟩
    clear x0 x1 h1 q1
    have x0 := h2.bx (fun _ _ e => e.1)
    go_wp2_with fail
    refine (Cx.bump h2 q2).mono ?_
    rintro e w3 ⟨rfl, h3⟩
    clear x0 h2 q2
    have x0 := h3.bx (fun _ _ e => e.1)
    go_wp2_with fail
    refine (Cx.expect h3 r4).mono ?_
    rintro e w4 ⟨rfl, h4⟩
    clear x0 h3
    go_wp2_with fail
    go_end0
    exact h4.post

def itemC (k : Int) : Cmd := .seq (Cmd.accept [kPub]) (.seq .bump (.call (.itemBody k)))
set_option maxRecDepth 100000 in
set_option maxHeartbeats 1600000 in
theorem acts_item_1 {n : Nat} {p : Nat} {toks : List Tok} (hI : AllOk n p toks) (k : Int) (hk : 2 ≤ k ∧ k ≤ 9) (b0 : Nat) (b1 : Nat) : ActsC n (itemC k) (And2 (Bx b0 (.pointer (some ⟨p, 0, none⟩))) (Bx b1 (.int .i64 k))) 135 #[] #[.pointer (some ⟨b0, 0, none⟩), .pointer (some ⟨b1, 0, none⟩)] p toks := by
  refine actsC_of (And2.stays (Bx.stays _ _) (Bx.stays _ _)) (ent_of Tryz.func135 (by kernel_rfl) (by kernel_rfl)) ?_
  intro low kind M0 w0 w s s' h0 hs
  show Calls Tryz.prog 135 #[.pointer (some ⟨b0, 0, none⟩), .pointer (some ⟨b1, 0, none⟩)] w _
  have x0 := h0.bx (fun _ _ e => e.1)
  have x1 := h0.bx (fun _ _ e => e.2)
  go_enter Tryz.func135, Tryz.ntmps135
  obtain ⟨u1, r2, r3⟩ := R.seq hs
  obtain ⟨u4, r5, r6⟩ := R.seq r3
  go_wp2_with fail
  refine (Cx.accept h0 r2 (by simp)).mono ?_
  rintro e w8 ⟨rfl, h7⟩
  clear x0 x1 h0
  have x0 := h7.bx (fun _ _ e => e.1)
  have x1 := h7.bx (fun _ _ e => e.2)
  clear r2
  go_wp2_with fail
  refine (Cx.bump h7 r5).mono ?_
  rintro e w10 ⟨rfl, h9⟩
  clear x0 x1 h7
  have x0 := h9.bx (fun _ _ e => e.1)
  have x1 := h9.bx (fun _ _ e => e.2)
  clear r5
  go_wp2_with fail
  refine (Cx.fn (.itemBody k) hI h9 r6 hk).mono ?_
  rintro e w12 ⟨rfl, h11⟩
  clear x0 x1 h9
  have x0 := h11.bx (fun _ _ e => e.1)
  have x1 := h11.bx (fun _ _ e => e.2)
  clear r6
  go_wp2_with fail
  go_end0
  exact ⟨rfl, h11⟩
end Go.Proofs.YtpibenilagloaaaGreatDoor
