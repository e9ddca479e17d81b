import Derived.Test.YtepadojclmjllaaGreatDoorMxba
/-
  (*parser).item: the walk.
-/
namespace Go.Proofs.YtepadojclmjllaaGreatDoor
open Go.RowKit
set_option linter.unusedVariables false

theorem body_item : body .item = .ite (.at [kPub]) (itemOf 1) (itemOf 0) := rfl
/-- the token that tells an item's kind -/
def nextT (i : Nat) (r : List Tok) : Tok := peekT (skipN i r)
theorem kindIx_eq (t : ByteArray) : kindIx t = if kUse = t then 2 else if kFn = t then 3 else if kStruct = t then 4 else if kEnum = t then 5 else if kTrait = t then 6 else if kImpl = t then 7 else if kConst = t then 8 else if kMacro = t then 9 else 0 := by
  unfold kindIx Lib.idxOfS kinds
  simp only [Lib.idxFromS]
  repeat' split
  all_goals first | rfl | omega
theorem itemOf_skip {n i : Nat} {s s' : PS} (h : R n (itemOf i) s s') (hk : kindIx (nextT i s.rest).t = 0 ∨ (nextT i s.rest).k ≠ 104) : R n (.call .skipToItem) s s' := by
  unfold itemOf at h
  have key : ∀ (kw : ByteArray) (q : Int), (kw = (nextT i s.rest).t → kindIx (nextT i s.rest).t ≠ 0) → (Test.ahead i (.and (.kind 104) (.text kw))).eval s.flag s.rest = false := by
    intro kw q hq
    show ((nextT i s.rest).k == 104 && decide ((nextT i s.rest).t = kw)) = false
    rcases hk with hk | hk
    · have : ¬ (nextT i s.rest).t = kw := fun e => hq e.symm hk
      rw [decide_eq_false this, Bool.and_false]
    · rw [beq_eq_false_iff_ne.2 hk, Bool.false_and]
  have no : ∀ (kw : ByteArray), kw ∈ kinds → kw = (nextT i s.rest).t → kindIx (nextT i s.rest).t ≠ 0 := by
    intro kw hm e
    rw [← e, kindIx_eq]
    unfold kinds at hm
    simp only [List.mem_cons, List.not_mem_nil, or_false] at hm
    rcases hm with rfl | rfl | rfl | rfl | rfl | rfl | rfl | rfl <;> decide
  have h := R.no h (key kUse 2 (no kUse (by simp [kinds])))
  have h := R.no h (key kFn 3 (no kFn (by simp [kinds])))
  have h := R.no h (key kStruct 4 (no kStruct (by simp [kinds])))
  have h := R.no h (key kEnum 5 (no kEnum (by simp [kinds])))
  have h := R.no h (key kTrait 6 (no kTrait (by simp [kinds])))
  have h := R.no h (key kImpl 7 (no kImpl (by simp [kinds])))
  have h := R.no h (key kConst 8 (no kConst (by simp [kinds])))
  exact R.no h (key kMacro 9 (no kMacro (by simp [kinds])))
theorem itemOf_node {n i : Nat} {s s' : PS} (h : R n (itemOf i) s s') (hk : kindIx (nextT i s.rest).t ≠ 0) (h4 : (nextT i s.rest).k = 104) : (2 ≤ kindIx (nextT i s.rest).t ∧ kindIx (nextT i s.rest).t ≤ 9) ∧ R n (.node (kindIx (nextT i s.rest).t) (itemC (kindIx (nextT i s.rest).t))) s s' := by
  unfold itemOf at h
  have yes : ∀ (kw : ByteArray), kw = (nextT i s.rest).t → (Test.ahead i (.and (.kind 104) (.text kw))).eval s.flag s.rest = true := by
    intro kw e
    show ((nextT i s.rest).k == 104 && decide ((nextT i s.rest).t = kw)) = true
    rw [h4, e]
    simp
  have no : ∀ (kw : ByteArray), ¬ kw = (nextT i s.rest).t → (Test.ahead i (.and (.kind 104) (.text kw))).eval s.flag s.rest = false := by
    intro kw e
    show ((nextT i s.rest).k == 104 && decide ((nextT i s.rest).t = kw)) = false
    rw [decide_eq_false (fun k => e k.symm), Bool.and_false]
  rw [kindIx_eq] at hk ⊢
  by_cases e1 : kUse = (nextT i s.rest).t
  · rw [if_pos e1]; exact ⟨by decide, R.yes h (yes _ e1)⟩
  rw [if_neg e1] at hk ⊢
  have h := R.no h (no _ e1)
  by_cases e2 : kFn = (nextT i s.rest).t
  · rw [if_pos e2]; exact ⟨by decide, R.yes h (yes _ e2)⟩
  rw [if_neg e2] at hk ⊢
  have h := R.no h (no _ e2)
  by_cases e3 : kStruct = (nextT i s.rest).t
  · rw [if_pos e3]; exact ⟨by decide, R.yes h (yes _ e3)⟩
  rw [if_neg e3] at hk ⊢
  have h := R.no h (no _ e3)
  by_cases e4 : kEnum = (nextT i s.rest).t
  · rw [if_pos e4]; exact ⟨by decide, R.yes h (yes _ e4)⟩
  rw [if_neg e4] at hk ⊢
  have h := R.no h (no _ e4)
  by_cases e5 : kTrait = (nextT i s.rest).t
  · rw [if_pos e5]; exact ⟨by decide, R.yes h (yes _ e5)⟩
  rw [if_neg e5] at hk ⊢
  have h := R.no h (no _ e5)
  by_cases e6 : kImpl = (nextT i s.rest).t
  · rw [if_pos e6]; exact ⟨by decide, R.yes h (yes _ e6)⟩
  rw [if_neg e6] at hk ⊢
  have h := R.no h (no _ e6)
  by_cases e7 : kConst = (nextT i s.rest).t
  · rw [if_pos e7]; exact ⟨by decide, R.yes h (yes _ e7)⟩
  rw [if_neg e7] at hk ⊢
  have h := R.no h (no _ e7)
  by_cases e8 : kMacro = (nextT i s.rest).t
  · rw [if_pos e8]; exact ⟨by decide, R.yes h (yes _ e8)⟩
  rw [if_neg e8] at hk
  exact absurd rfl hk
theorem Cx.At.ofBelow {w w' : World} {p : Nat} {M : MM} {toks : List Tok} {low : List LowF} {kind : Int} {s : PS} (hp : PAt w p M toks low kind s) (hb : Below w.heap.size w w') {b0 b1 : Nat} {v0 v1 : Value} (h0 : w'.cell? ⟨b0, 0, none⟩ = some v0) (g0 : w.heap.size ≤ b0) (h1 : w'.cell? ⟨b1, 0, none⟩ = some v1) (g1 : w.heap.size ≤ b1) :
    (⟨And2 (Bx b0 v0) (Bx b1 v1), p, toks, low, kind, M, w⟩ : Cx).At w' s :=
  ⟨And2.stays (Bx.stays _ _) (Bx.stays _ _), _, hp.cut.below hb, ⟨hb.os, hb.tape, hb.output, hb.size, fun b hlt _ => hb.block b hlt, fun b hm => .inl hm.1, rfl⟩, ⟨h0, fun hm => by have := hm.2; omega⟩, ⟨h1, fun hm => by have := hm.2; omega⟩⟩

theorem cell_alloc_lt {w : World} (o : Obj) (b : Nat) (h : b < w.heap.size) : (w.alloc o).cell? ⟨b, 0, none⟩ = w.cell? ⟨b, 0, none⟩ := World.cell?_of_block (w := w) (heap_alloc_lt w o h)
theorem box_cells {w : World} {b : Nat} {x y : Value} {t : TypeId} (h : w.heap[b]? = some (.cells #[x, y] t (0, 0))) : w.cell? ⟨b, 0, none⟩ = some x ∧ w.cell? ⟨b, 1, none⟩ = some y ∧ w.frozen? ⟨b, 0, none⟩ = false ∧ w.frozen? ⟨b, 1, none⟩ = false ∧ b < w.heap.size :=
  ⟨by rw [Lib.cell_of_heap h]; rfl, by rw [Lib.cell_of_heap h]; rfl, Lib.frozen_of_heap h 0, Lib.frozen_of_heap h 1, lt_of_heap h⟩
set_option maxRecDepth 100000 in
set_option maxHeartbeats 3200000 in
theorem fn_item {n : Nat} {p : Nat} {toks : List Tok} (hI : AllOk n p toks) : FnOk n p toks .item := by
  intro hd w M low kind s s' hp hs
  rw [body_item] at hs
  show Calls Tryz.prog 32 #[.pointer (some ⟨p, 0, none⟩)] w _
  have HP := Lib.hid hp
  have hasc : AscAt w := by obtain ⟨g, cap, v, At, ct, hX⟩ := hp; exact hX.asc
  have HB0 := Lib.hid (show Below w.heap.size w (w.alloc (.cells #[.pointer (some ⟨p, 0, none⟩)] 74)) from (Below.refl _ _).alloc (Nat.le_refl _) _)
  have q0 : (w.alloc (.cells #[.pointer (some ⟨p, 0, none⟩)] 74)).cell? ⟨w.heap.size, 0, none⟩ = some (.pointer (some ⟨p, 0, none⟩)) := by rw [Lib.cell_of_heap (heap_alloc_new _ _)]; rfl
  clear hp
  go_enter Tryz.func32, Tryz.ntmps32
  go_wp2_with fail
  refine (peek_any _ p M toks low kind s (HP.out.below HB0.out)).mono ?_
  rintro e w1 ⟨rfl, hb⟩
  have HB1 := Lib.hid (HB0.out.trans (hb.mono HB0.out.size))
  have hl1 : w.heap.size < w1.heap.size := by have := hb.size; simp at this; omega
  have x0 : w1.cell? ⟨w.heap.size, 0, none⟩ = some (.pointer (some ⟨p, 0, none⟩)) := (hb.cell (p := ⟨w.heap.size, 0, none⟩) (by simp)).trans q0
  clear hb q0
  unfold Tok.val
  have HB2 := Lib.hid (show Below w.heap.size w (w1.alloc (.cells #[.int .i64 (peekT s.rest).k, .string (peekT s.rest).t] 98)) from HB1.out.alloc HB1.out.size _)
  have HK := Lib.hid (at_any ((w1.alloc (.cells #[.int .i64 (peekT s.rest).k, .string (peekT s.rest).t] 98)).alloc (.cells #[.string kPub] 9)) p M toks low kind s (HP.out.below (HB2.out.alloc HB2.out.size _)) (some ⟨w1.heap.size + 1, 0, none⟩) 1 1 [kPub] (StrsAt.new _ [kPub] 9 _ (by simp)) rfl (by decide))
  go_wp2_with fail
  refine HK.out.mono ?_
  rintro e w2 ⟨rfl, hb⟩
  have hbx := ((Below.refl w1.heap.size w1).alloc (Nat.le_refl _) (.cells #[.int .i64 (peekT s.rest).k, .string (peekT s.rest).t] 98))
  have hb2 : Below (w1.alloc (.cells #[.int .i64 (peekT s.rest).k, .string (peekT s.rest).t] 98)).heap.size (w1.alloc (.cells #[.int .i64 (peekT s.rest).k, .string (peekT s.rest).t] 98)) w2 := ((Below.refl _ _).alloc (Nat.le_refl _) _).trans (hb.mono (by simp))
  have ht2 : w2.heap[w1.heap.size]? = some (.cells #[.int .i64 (peekT s.rest).k, .string (peekT s.rest).t] 98 (0, 0)) := (hb2.block _ (by simp)).trans (heap_alloc_new _ _)
  have HB3 := Lib.hid (HB2.out.trans (hb2.mono HB2.out.size))
  have x2 : w2.cell? ⟨w.heap.size, 0, none⟩ = some (.pointer (some ⟨p, 0, none⟩)) := ((hbx.trans (hb2.mono (by simp))).cell (p := ⟨w.heap.size, 0, none⟩) hl1).trans x0
  clear hb hbx hb2 x0 HK
  have HT2 := Lib.hid ht2
  clear ht2
  cases ht : atB [kPub] s.rest
  · have r := R.no hs ht
    clear ht hs
    obtain ⟨k0, k1, k2, k3, k4⟩ := box_cells HT2.out
    have hkind := Lib.hid (itemKind_any w2 (peekT s.rest).t (hasc.below HB3.out))
    have hsk := Lib.hid (fun h => itemOf_skip (i := 0) r h)
    have hnd := Lib.hid (fun h1 h2 => itemOf_node (i := 0) r h1 h2)
    have hy : nextT 0 s.rest = (peekT s.rest) := rfl
    rw [hy] at hsk hnd
    clear r hy
    generalize (peekT s.rest) = y at *
    go_wp2_with fail
    refine hkind.out.mono ?_
    rintro e w8 ⟨rfl, hb⟩
    have HB8 := Lib.hid (HB3.out.trans (hb.mono HB3.out.size))
    have x8 : w8.cell? ⟨w.heap.size, 0, none⟩ = some (.pointer (some ⟨p, 0, none⟩)) := (hb.cell (p := ⟨w.heap.size, 0, none⟩) (World.block_lt_of_cell? w2 _ x2)).trans x2
    have l8 : w.heap.size < w8.heap.size := World.block_lt_of_cell? w8 _ x8
    have t8 := (hb.block _ k4).trans HT2.out
    obtain ⟨k5, k6, k7, k8, k9⟩ := box_cells t8
    clear k0 k1 k2 k3 k4 hb hkind x2 HT2 t8
    generalize hq : kindIx y.t = q at *
    have HQ := Lib.hid hq
    clear hq
    have HB9 := Lib.hid (HB8.out.alloc HB8.out.size (.cells #[.int .i64 q] 3))
    by_cases h0 : q = 0
    · subst h0
      have hr := hsk.out (.inl rfl)
      clear hsk hnd
      have hcall := Cx.fn .skipToItem hI (Cx.At.bare (HP.out.below HB9.out)) hr True.intro
      have HC := Lib.hid hcall
      clear hcall hr
      go_wp2_with fail
      refine HC.out.mono ?_
      rintro e w9 ⟨rfl, h9⟩
      clear HC
      go_wp2_with fail
      go_end0
      exact Post.mono (Step.of_below (HB9.out.mono (Nat.le_refl _))) h9.post
    · have hq0 : (q == 0) = false := beq_eq_false_iff_ne.2 h0
      by_cases h4 : y.k = 104
      · obtain ⟨hd1, hr⟩ := hnd.out h0 h4
        have hy4 : (y.k == 104) = true := by rw [h4]; rfl
        have hy5 : (y.k != 104) = false := by rw [h4]; rfl
        have H4 := Lib.hid h4
        have H0 := Lib.hid h0
        clear h4 h0 hsk hnd
        have hat := Cx.At.ofBelow HP.out HB9.out (b0 := w.heap.size) (b1 := w8.heap.size) (v0 := .pointer (some ⟨p, 0, none⟩)) (v1 := .int .i64 q) (by rw [cell_alloc_lt _ _ l8]; exact x8) (Nat.le_refl _) (by rw [Lib.cell_of_heap (heap_alloc_new _ _)]; rfl) HB8.out.size
        have HC := Lib.hid (Cx.node hat hr (acts_item_1 hI q hd1 w.heap.size w8.heap.size))
        clear hat hr
        go_wp2_with fail
        refine HC.out.mono ?_
        rintro e w9 ⟨rfl, h9⟩
        clear HC
        go_wp2_with fail
        go_end0
        exact h9.post
      · have hr := hsk.out (.inr h4)
        have hy4 : (y.k == 104) = false := beq_eq_false_iff_ne.2 h4
        have hy5 : (y.k != 104) = true := by simp [h4]
        have H4 := Lib.hid h4
        have H0 := Lib.hid h0
        clear h4 h0 hsk hnd
        have HC := Lib.hid (Cx.fn .skipToItem hI (Cx.At.bare (HP.out.below HB9.out)) hr True.intro)
        clear hr
        go_wp2_with fail
        refine HC.out.mono ?_
        rintro e w9 ⟨rfl, h9⟩
        clear HC
        go_wp2_with fail
        go_end0
        exact Post.mono (Step.of_below (HB9.out.mono (Nat.le_refl _))) h9.post
  · have r := R.yes hs ht
    clear ht hs
    have HL := Lib.hid (lookahead_any w2 p M toks low kind s (HP.out.below HB3.out))
    go_wp2_with fail
    refine HL.out.mono ?_
    rintro e w3 ⟨q, Mq, sq, rfl, hq, hrest, hb⟩
    have HP3 := Lib.hid (peek_any w3 q Mq toks [] 0 sq hq)
    rw [hrest] at HP3
    have HB4 := Lib.hid (HB3.out.trans (hb.mono HB3.out.size))
    have x3 := (hb.cell (p := ⟨w.heap.size, 0, none⟩) (World.block_lt_of_cell? w2 _ x2)).trans x2
    have HT3 := Lib.hid ((hb.block _ (lt_of_heap HT2.out)).trans HT2.out)
    clear hb hq hrest HL x2 HT2
    go_wp2_with fail
    refine HP3.out.mono ?_
    rintro e w4 ⟨rfl, hb⟩
    unfold Tok.val
    have HB5 := Lib.hid (HB4.out.trans (hb.mono HB4.out.size))
    have x4 := (hb.cell (p := ⟨w.heap.size, 0, none⟩) (World.block_lt_of_cell? w3 _ x3)).trans x3
    have HT4 := Lib.hid ((hb.block _ (lt_of_heap HT3.out)).trans HT3.out)
    clear hb HP3 x3 HT3
    obtain ⟨W5, hW5⟩ : ∃ W5, (w4.setCell ⟨w1.heap.size, 0, none⟩ (.int .i64 (peekT (after s.rest)).k)).setCell ⟨w1.heap.size, 1, none⟩ (.string (peekT (after s.rest)).t) = W5 := ⟨_, rfl⟩
    have HT5 := Lib.hid (show W5.heap[w1.heap.size]? = some (.cells #[.int .i64 (peekT (after s.rest)).k, .string (peekT (after s.rest)).t] 98 (0, 0)) by rw [← hW5]; exact set_two HT4.out _ _)
    have HB6 := Lib.hid (show Below w.heap.size w W5 by rw [← hW5]; exact (HB5.out.setCell (Nat.le_of_lt hl1) _).setCell (Nat.le_of_lt hl1) _)
    have x5 : W5.cell? ⟨w.heap.size, 0, none⟩ = some (.pointer (some ⟨p, 0, none⟩)) := by
      rw [← hW5]
      exact (World.cell?_of_block (w := w4) ((Below.heap_setCell _ _ _ _ (by show w.heap.size ≠ w1.heap.size; omega)).trans (Below.heap_setCell _ _ _ _ (by show w.heap.size ≠ w1.heap.size; omega)))).trans x4
    obtain ⟨m0, m1, m2, m3, m4⟩ := box_cells HT4.out
    clear x4 HT4
    obtain ⟨k0, k1, k2, k3, k4⟩ := box_cells HT5.out
    have hkind := Lib.hid (itemKind_any W5 (peekT (after s.rest)).t (hasc.below HB6.out))
    have hsk := Lib.hid (fun h => itemOf_skip (i := 1) r h)
    have hnd := Lib.hid (fun h1 h2 => itemOf_node (i := 1) r h1 h2)
    have hy : nextT 1 s.rest = (peekT (after s.rest)) := rfl
    rw [hy] at hsk hnd
    clear r hy
    generalize (peekT (after s.rest)) = y at *
    go_wp2_with fail
    refine hkind.out.mono ?_
    rintro e w8 ⟨rfl, hb⟩
    have HB8 := Lib.hid (HB6.out.trans (hb.mono HB6.out.size))
    have x8 : w8.cell? ⟨w.heap.size, 0, none⟩ = some (.pointer (some ⟨p, 0, none⟩)) := (hb.cell (p := ⟨w.heap.size, 0, none⟩) (World.block_lt_of_cell? W5 _ x5)).trans x5
    have l8 : w.heap.size < w8.heap.size := World.block_lt_of_cell? w8 _ x8
    have t8 := (hb.block _ k4).trans HT5.out
    obtain ⟨k5, k6, k7, k8, k9⟩ := box_cells t8
    clear k0 k1 k2 k3 k4 hb hkind x5 HT5 t8
    generalize hq : kindIx y.t = q at *
    have HQ := Lib.hid hq
    clear hq
    have HB9 := Lib.hid (HB8.out.alloc HB8.out.size (.cells #[.int .i64 q] 3))
    by_cases h0 : q = 0
    · subst h0
      have hr := hsk.out (.inl rfl)
      clear hsk hnd
      have hcall := Cx.fn .skipToItem hI (Cx.At.bare (HP.out.below HB9.out)) hr True.intro
      have HC := Lib.hid hcall
      clear hcall hr
      go_wp2_with fail
      refine HC.out.mono ?_
      rintro e w9 ⟨rfl, h9⟩
      clear HC
      go_wp2_with fail
      go_end0
      exact Post.mono (Step.of_below (HB9.out.mono (Nat.le_refl _))) h9.post
    · have hq0 : (q == 0) = false := beq_eq_false_iff_ne.2 h0
      by_cases h4 : y.k = 104
      · obtain ⟨hd1, hr⟩ := hnd.out h0 h4
        have hy4 : (y.k == 104) = true := by rw [h4]; rfl
        have hy5 : (y.k != 104) = false := by rw [h4]; rfl
        have H4 := Lib.hid h4
        have H0 := Lib.hid h0
        clear h4 h0 hsk hnd
        have hat := Cx.At.ofBelow HP.out HB9.out (b0 := w.heap.size) (b1 := w8.heap.size) (v0 := .pointer (some ⟨p, 0, none⟩)) (v1 := .int .i64 q) (by rw [cell_alloc_lt _ _ l8]; exact x8) (Nat.le_refl _) (by rw [Lib.cell_of_heap (heap_alloc_new _ _)]; rfl) HB8.out.size
        have HC := Lib.hid (Cx.node hat hr (acts_item_1 hI q hd1 w.heap.size w8.heap.size))
        clear hat hr
        go_wp2_with fail
        refine HC.out.mono ?_
        rintro e w9 ⟨rfl, h9⟩
        clear HC
        go_wp2_with fail
        go_end0
        exact h9.post
      · have hr := hsk.out (.inr h4)
        have hy4 : (y.k == 104) = false := beq_eq_false_iff_ne.2 h4
        have hy5 : (y.k != 104) = true := by simp [h4]
        have H4 := Lib.hid h4
        have H0 := Lib.hid h0
        clear h4 h0 hsk hnd
        have HC := Lib.hid (Cx.fn .skipToItem hI (Cx.At.bare (HP.out.below HB9.out)) hr True.intro)
        clear hr
        go_wp2_with fail
        refine HC.out.mono ?_
        rintro e w9 ⟨rfl, h9⟩
        clear HC
        go_wp2_with fail
        go_end0
        exact Post.mono (Step.of_below (HB9.out.mono (Nat.le_refl _))) h9.post
end Go.Proofs.YtepadojclmjllaaGreatDoor
