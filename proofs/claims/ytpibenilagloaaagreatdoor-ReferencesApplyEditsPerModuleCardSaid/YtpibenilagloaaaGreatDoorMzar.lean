import Derived.Test.YtpibenilagloaaaGreatDoorMzaq
import Derived.Shelf.Spec.SlicesInsert
import Derived.Lib.AppendZerosOnto
import Derived.Laws.NewBlocks
namespace Go.Proofs.YtpibenilagloaaaGreatDoor
open Go.RowKit
set_option linter.unusedVariables false
theorem body_item : body .item = .ite (.at [kPub]) (itemOf 1) (itemOf 0) := rfl
def nextT (i : Nat) (r : List Tok) : Tok := peekT (skipN i r)
theorem kindIx_eq (t : ByteArray) : kindIx t = if kUse = t then 2 else if kFn = t then 3 else if kStruct = t then 4 else if kEnum = t then 5 else if kTrait = t then 6 else if kImpl = t then 7 else if kConst = t then 8 else if kMacro = t then 9 else 0 := by
  unfold kindIx Lib.idxOfS kinds
  simp only [Lib.idxFromS]
  repeat' split
  all_goals first | rfl | omega
theorem itemOf_skip {n i : Nat} {s s' : PS} (h : R n (itemOf i) s s') (hk : kindIx (nextT i s.rest).t = 0 ∨ (nextT i s.rest).k ≠ 104) : R n (.call .skipToItem) s s' := by
  unfold itemOf at h
  have key : ∀ (kw : ByteArray) (q : Int), (kw = (nextT i s.rest).t → kindIx (nextT i s.rest).t ≠ 0) → (Test.ahead i (.and (.kind 104) (.text kw))).eval s.flag s.rest = false := by
    intro kw q hq
    show ((nextT i s.rest).k == 104 && decide ((nextT i s.rest).t = kw)) = false
    rcases hk with hk | hk
    · have : ¬ (nextT i s.rest).t = kw := fun e => hq e.symm hk
      rw [decide_eq_false this, Bool.and_false]
    · rw [beq_eq_false_iff_ne.2 hk, Bool.false_and]
  have no : ∀ (kw : ByteArray), kw ∈ kinds → kw = (nextT i s.rest).t → kindIx (nextT i s.rest).t ≠ 0 := by
    intro kw hm e
    rw [← e, kindIx_eq]
    unfold kinds at hm
    simp only [List.mem_cons, List.not_mem_nil, or_false] at hm
    rcases hm with rfl | rfl | rfl | rfl | rfl | rfl | rfl | rfl <;> decide
  have h := R.no h (key kUse 2 (no kUse (by simp [kinds])))
  have h := R.no h (key kFn 3 (no kFn (by simp [kinds])))
  have h := R.no h (key kStruct 4 (no kStruct (by simp [kinds])))
  have h := R.no h (key kEnum 5 (no kEnum (by simp [kinds])))
  have h := R.no h (key kTrait 6 (no kTrait (by simp [kinds])))
  have h := R.no h (key kImpl 7 (no kImpl (by simp [kinds])))
  have h := R.no h (key kConst 8 (no kConst (by simp [kinds])))
  exact R.no h (key kMacro 9 (no kMacro (by simp [kinds])))
theorem itemOf_node {n i : Nat} {s s' : PS} (h : R n (itemOf i) s s') (hk : kindIx (nextT i s.rest).t ≠ 0) (h4 : (nextT i s.rest).k = 104) : (2 ≤ kindIx (nextT i s.rest).t ∧ kindIx (nextT i s.rest).t ≤ 9) ∧ R n (.node (kindIx (nextT i s.rest).t) (itemC (kindIx (nextT i s.rest).t))) s s' := by
  unfold itemOf at h
  have yes : ∀ (kw : ByteArray), kw = (nextT i s.rest).t → (Test.ahead i (.and (.kind 104) (.text kw))).eval s.flag s.rest = true := by
    intro kw e
    show ((nextT i s.rest).k == 104 && decide ((nextT i s.rest).t = kw)) = true
    rw [h4, e]
    simp
  have no : ∀ (kw : ByteArray), ¬ kw = (nextT i s.rest).t → (Test.ahead i (.and (.kind 104) (.text kw))).eval s.flag s.rest = false := by
    intro kw e
    show ((nextT i s.rest).k == 104 && decide ((nextT i s.rest).t = kw)) = false
    rw [decide_eq_false (fun k => e k.symm), Bool.and_false]
  rw [kindIx_eq] at hk ⊢
  by_cases e1 : kUse = (nextT i s.rest).t
  · rw [if_pos e1]; exact ⟨by decide, R.yes h (yes _ e1)⟩
  rw [if_neg e1] at hk ⊢
  have h := R.no h (no _ e1)
  by_cases e2 : kFn = (nextT i s.rest).t
  · rw [if_pos e2]; exact ⟨by decide, R.yes h (yes _ e2)⟩
  rw [if_neg e2] at hk ⊢
  have h := R.no h (no _ e2)
  by_cases e3 : kStruct = (nextT i s.rest).t
  · rw [if_pos e3]; exact ⟨by decide, R.yes h (yes _ e3)⟩
  rw [if_neg e3] at hk ⊢
  have h := R.no h (no _ e3)
  by_cases e4 : kEnum = (nextT i s.rest).t
  · rw [if_pos e4]; exact ⟨by decide, R.yes h (yes _ e4)⟩
  rw [if_neg e4] at hk ⊢
  have h := R.no h (no _ e4)
  by_cases e5 : kTrait = (nextT i s.rest).t
  · rw [if_pos e5]; exact ⟨by decide, R.yes h (yes _ e5)⟩
  rw [if_neg e5] at hk ⊢
  have h := R.no h (no _ e5)
  by_cases e6 : kImpl = (nextT i s.rest).t
  · rw [if_pos e6]; exact ⟨by decide, R.yes h (yes _ e6)⟩
  rw [if_neg e6] at hk ⊢
  have h := R.no h (no _ e6)
  by_cases e7 : kConst = (nextT i s.rest).t
  · rw [if_pos e7]; exact ⟨by decide, R.yes h (yes _ e7)⟩
  rw [if_neg e7] at hk ⊢
  have h := R.no h (no _ e7)
  by_cases e8 : kMacro = (nextT i s.rest).t
  · rw [if_pos e8]; exact ⟨by decide, R.yes h (yes _ e8)⟩
  rw [if_neg e8] at hk
  exact absurd rfl hk
theorem Cx.At.ofBelow {w w' : World} {p : Nat} {M : MM} {toks : List Tok} {low : List LowF} {kind : Int} {s : PS} (hp : PAt w p M toks low kind s) (hb : Below w.heap.size w w') {b0 b1 : Nat} {v0 v1 : Value} (h0 : w'.cell? ⟨b0, 0, none⟩ = some v0) (g0 : w.heap.size ≤ b0) (h1 : w'.cell? ⟨b1, 0, none⟩ = some v1) (g1 : w.heap.size ≤ b1) :
    (⟨And2 (Bx b0 v0) (Bx b1 v1), p, toks, low, kind, M, w⟩ : Cx).At w' s :=
  ⟨And2.stays (Bx.stays _ _) (Bx.stays _ _), _, hp.cut.below hb, ⟨hb.os, hb.tape, hb.output, hb.size, fun b hlt _ => hb.block b hlt, fun b hm => .inl hm.1, rfl⟩, ⟨h0, fun hm => by have := hm.2; omega⟩, ⟨h1, fun hm => by have := hm.2; omega⟩⟩
theorem cell_alloc_lt {w : World} (o : Obj) (b : Nat) (h : b < w.heap.size) : (w.alloc o).cell? ⟨b, 0, none⟩ = w.cell? ⟨b, 0, none⟩ := World.cell?_of_block (w := w) (heap_alloc_lt w o h)
theorem box_cells {w : World} {b : Nat} {x y : Value} {t : TypeId} (h : w.heap[b]? = some (.cells #[x, y] t (0, 0))) : w.cell? ⟨b, 0, none⟩ = some x ∧ w.cell? ⟨b, 1, none⟩ = some y ∧ w.frozen? ⟨b, 0, none⟩ = false ∧ w.frozen? ⟨b, 1, none⟩ = false ∧ b < w.heap.size :=
  ⟨by rw [Lib.cell_of_heap h]; rfl, by rw [Lib.cell_of_heap h]; rfl, Lib.frozen_of_heap h 0, Lib.frozen_of_heap h 1, lt_of_heap h⟩
set_option maxRecDepth 100000 in
set_option maxHeartbeats 3200000 in
theorem fn_item {n : Nat} {p : Nat} {toks : List Tok} (hI : AllOk n p toks) : FnOk n p toks .item := by
  intro hd w M low kind s s' hp hs
  rw [body_item] at hs
  show Calls Tryz.prog 85 #[.pointer (some ⟨p, 0, none⟩)] w _
  have HP := Lib.hid hp
  have hasc : AscAt w := by obtain ⟨g, cap, v, At, ct, hX⟩ := hp; exact hX.asc
  have HB0 := Lib.hid (show Below w.heap.size w (w.alloc (.cells #[.pointer (some ⟨p, 0, none⟩)] 174)) from (Below.refl _ _).alloc (Nat.le_refl _) _)
  have q0 : (w.alloc (.cells #[.pointer (some ⟨p, 0, none⟩)] 174)).cell? ⟨w.heap.size, 0, none⟩ = some (.pointer (some ⟨p, 0, none⟩)) := by rw [Lib.cell_of_heap (heap_alloc_new _ _)]; rfl
  clear hp
  go_enter Tryz.func85, Tryz.ntmps85
  go_wp2_with fail
  refine (peek_any _ p M toks low kind s (HP.out.below HB0.out)).mono ?_
  rintro e w1 ⟨rfl, hb⟩
  have HB1 := Lib.hid (HB0.out.trans (hb.mono HB0.out.size))
  have hl1 : w.heap.size < w1.heap.size := by have := hb.size; simp at this; omega
  have x0 : w1.cell? ⟨w.heap.size, 0, none⟩ = some (.pointer (some ⟨p, 0, none⟩)) := (hb.cell (p := ⟨w.heap.size, 0, none⟩) (by simp)).trans q0
  clear hb q0
  unfold Tok.val
  have HB2 := Lib.hid (show Below w.heap.size w (w1.alloc (.cells #[.int .i64 (peekT s.rest).k, .string (peekT s.rest).t] 142)) from HB1.out.alloc HB1.out.size _)
  have HK := Lib.hid (at_any ((w1.alloc (.cells #[.int .i64 (peekT s.rest).k, .string (peekT s.rest).t] 142)).alloc (.cells #[.string kPub] 9)) p M toks low kind s (HP.out.below (HB2.out.alloc HB2.out.size _)) (some ⟨w1.heap.size + 1, 0, none⟩) 1 1 [kPub] (StrsAt.new _ [kPub] 9 _ (by simp)) rfl (by decide))
  go_wp2_with fail
  refine HK.out.mono ?_
  rintro e w2 ⟨rfl, hb⟩
  have hbx := ((Below.refl w1.heap.size w1).alloc (Nat.le_refl _) (.cells #[.int .i64 (peekT s.rest).k, .string (peekT s.rest).t] 142))
  have hb2 : Below (w1.alloc (.cells #[.int .i64 (peekT s.rest).k, .string (peekT s.rest).t] 142)).heap.size (w1.alloc (.cells #[.int .i64 (peekT s.rest).k, .string (peekT s.rest).t] 142)) w2 := ((Below.refl _ _).alloc (Nat.le_refl _) _).trans (hb.mono (by simp))
  have ht2 : w2.heap[w1.heap.size]? = some (.cells #[.int .i64 (peekT s.rest).k, .string (peekT s.rest).t] 142 (0, 0)) := (hb2.block _ (by simp)).trans (heap_alloc_new _ _)
  have HB3 := Lib.hid (HB2.out.trans (hb2.mono HB2.out.size))
  have x2 : w2.cell? ⟨w.heap.size, 0, none⟩ = some (.pointer (some ⟨p, 0, none⟩)) := ((hbx.trans (hb2.mono (by simp))).cell (p := ⟨w.heap.size, 0, none⟩) hl1).trans x0
  clear hb hbx hb2 x0 HK
  have HT2 := Lib.hid ht2
  clear ht2
  cases ht : atB [kPub] s.rest
  · have r := R.no hs ht
    clear ht hs
    obtain ⟨k0, k1, k2, k3, k4⟩ := box_cells HT2.out
    have hkind := Lib.hid (itemKind_any w2 (peekT s.rest).t (hasc.below HB3.out))
    have hsk := Lib.hid (fun h => itemOf_skip (i := 0) r h)
    have hnd := Lib.hid (fun h1 h2 => itemOf_node (i := 0) r h1 h2)
    have hy : nextT 0 s.rest = (peekT s.rest) := rfl
    rw [hy] at hsk hnd
    clear r hy
    generalize (peekT s.rest) = y at *
    go_wp2_with fail
    refine hkind.out.mono ?_
    rintro e w8 ⟨rfl, hb⟩
    have HB8 := Lib.hid (HB3.out.trans (hb.mono HB3.out.size))
    have x8 : w8.cell? ⟨w.heap.size, 0, none⟩ = some (.pointer (some ⟨p, 0, none⟩)) := (hb.cell (p := ⟨w.heap.size, 0, none⟩) (World.block_lt_of_cell? w2 _ x2)).trans x2
    have l8 : w.heap.size < w8.heap.size := World.block_lt_of_cell? w8 _ x8
    have t8 := (hb.block _ k4).trans HT2.out
    obtain ⟨k5, k6, k7, k8, k9⟩ := box_cells t8
    clear k0 k1 k2 k3 k4 hb hkind x2 HT2 t8
    generalize hq : kindIx y.t = q at *
    have HQ := Lib.hid hq
    clear hq
    have HB9 := Lib.hid (HB8.out.alloc HB8.out.size (.cells #[.int .i64 q] 3))
    by_cases h0 : q = 0
    · subst h0
      have hr := hsk.out (.inl rfl)
      clear hsk hnd
      have hcall := Cx.fn .skipToItem hI (Cx.At.bare (HP.out.below HB9.out)) hr True.intro
      have HC := Lib.hid hcall
      clear hcall hr
      go_wp2_with fail
      refine HC.out.mono ?_
      rintro e w9 ⟨rfl, h9⟩
      clear HC
      go_wp2_with fail
      go_end0
      exact Post.mono (Step.of_below (HB9.out.mono (Nat.le_refl _))) h9.post
    · have hq0 : (q == 0) = false := beq_eq_false_iff_ne.2 h0
      by_cases h4 : y.k = 104
      · obtain ⟨hd1, hr⟩ := hnd.out h0 h4
        have hy4 : (y.k == 104) = true := by rw [h4]; rfl
        have hy5 : (y.k != 104) = false := by rw [h4]; rfl
        have H4 := Lib.hid h4
        have H0 := Lib.hid h0
        clear h4 h0 hsk hnd
        have hat := Cx.At.ofBelow HP.out HB9.out (b0 := w.heap.size) (b1 := w8.heap.size) (v0 := .pointer (some ⟨p, 0, none⟩)) (v1 := .int .i64 q) (by rw [cell_alloc_lt _ _ l8]; exact x8) (Nat.le_refl _) (by rw [Lib.cell_of_heap (heap_alloc_new _ _)]; rfl) HB8.out.size
        have HC := Lib.hid (Cx.node hat hr (acts_item_1 hI q hd1 w.heap.size w8.heap.size))
        clear hat hr
        go_wp2_with fail
        refine HC.out.mono ?_
        rintro e w9 ⟨rfl, h9⟩
        clear HC
        go_wp2_with fail
        go_end0
        exact h9.post
      · have hr := hsk.out (.inr h4)
        have hy4 : (y.k == 104) = false := beq_eq_false_iff_ne.2 h4
        have hy5 : (y.k != 104) = true := by simp [h4]
        have H4 := Lib.hid h4
        have H0 := Lib.hid h0
        clear h4 h0 hsk hnd
        have HC := Lib.hid (Cx.fn .skipToItem hI (Cx.At.bare (HP.out.below HB9.out)) hr True.intro)
        clear hr
        go_wp2_with fail
        refine HC.out.mono ?_
        rintro e w9 ⟨rfl, h9⟩
        clear HC
        go_wp2_with fail
        go_end0
        exact Post.mono (Step.of_below (HB9.out.mono (Nat.le_refl _))) h9.post
  · have r := R.yes hs ht
    clear ht hs
    have HL := Lib.hid (lookahead_any w2 p M toks low kind s (HP.out.below HB3.out))
    go_wp2_with fail
    refine HL.out.mono ?_
    rintro e w3 ⟨q, Mq, sq, rfl, hq, hrest, hb⟩
    have HP3 := Lib.hid (peek_any w3 q Mq toks [] 0 sq hq)
    rw [hrest] at HP3
    have HB4 := Lib.hid (HB3.out.trans (hb.mono HB3.out.size))
    have x3 := (hb.cell (p := ⟨w.heap.size, 0, none⟩) (World.block_lt_of_cell? w2 _ x2)).trans x2
    have HT3 := Lib.hid ((hb.block _ (lt_of_heap HT2.out)).trans HT2.out)
    clear hb hq hrest HL x2 HT2
    go_wp2_with fail
    refine HP3.out.mono ?_
    rintro e w4 ⟨rfl, hb⟩
    unfold Tok.val
    have HB5 := Lib.hid (HB4.out.trans (hb.mono HB4.out.size))
    have x4 := (hb.cell (p := ⟨w.heap.size, 0, none⟩) (World.block_lt_of_cell? w3 _ x3)).trans x3
    have HT4 := Lib.hid ((hb.block _ (lt_of_heap HT3.out)).trans HT3.out)
    clear hb HP3 x3 HT3
    obtain ⟨W5, hW5⟩ : ∃ W5, (w4.setCell ⟨w1.heap.size, 0, none⟩ (.int .i64 (peekT (after s.rest)).k)).setCell ⟨w1.heap.size, 1, none⟩ (.string (peekT (after s.rest)).t) = W5 := ⟨_, rfl⟩
    have HT5 := Lib.hid (show W5.heap[w1.heap.size]? = some (.cells #[.int .i64 (peekT (after s.rest)).k, .string (peekT (after s.rest)).t] 142 (0, 0)) by rw [← hW5]; exact set_two HT4.out _ _)
    have HB6 := Lib.hid (show Below w.heap.size w W5 by rw [← hW5]; exact (HB5.out.setCell (Nat.le_of_lt hl1) _).setCell (Nat.le_of_lt hl1) _)
    have x5 : W5.cell? ⟨w.heap.size, 0, none⟩ = some (.pointer (some ⟨p, 0, none⟩)) := by
      rw [← hW5]
      exact (World.cell?_of_block (w := w4) ((Below.heap_setCell _ _ _ _ (by show w.heap.size ≠ w1.heap.size; omega)).trans (Below.heap_setCell _ _ _ _ (by show w.heap.size ≠ w1.heap.size; omega)))).trans x4
    obtain ⟨m0, m1, m2, m3, m4⟩ := box_cells HT4.out
    clear x4 HT4
    obtain ⟨k0, k1, k2, k3, k4⟩ := box_cells HT5.out
    have hkind := Lib.hid (itemKind_any W5 (peekT (after s.rest)).t (hasc.below HB6.out))
    have hsk := Lib.hid (fun h => itemOf_skip (i := 1) r h)
    have hnd := Lib.hid (fun h1 h2 => itemOf_node (i := 1) r h1 h2)
    have hy : nextT 1 s.rest = (peekT (after s.rest)) := rfl
    rw [hy] at hsk hnd
    clear r hy
    generalize (peekT (after s.rest)) = y at *
    go_wp2_with fail
    refine hkind.out.mono ?_
    rintro e w8 ⟨rfl, hb⟩
    have HB8 := Lib.hid (HB6.out.trans (hb.mono HB6.out.size))
    have x8 : w8.cell? ⟨w.heap.size, 0, none⟩ = some (.pointer (some ⟨p, 0, none⟩)) := (hb.cell (p := ⟨w.heap.size, 0, none⟩) (World.block_lt_of_cell? W5 _ x5)).trans x5
    have l8 : w.heap.size < w8.heap.size := World.block_lt_of_cell? w8 _ x8
    have t8 := (hb.block _ k4).trans HT5.out
    obtain ⟨k5, k6, k7, k8, k9⟩ := box_cells t8
    clear k0 k1 k2 k3 k4 hb hkind x5 HT5 t8
    generalize hq : kindIx y.t = q at *
    have HQ := Lib.hid hq
    clear hq
    have HB9 := Lib.hid (HB8.out.alloc HB8.out.size (.cells #[.int .i64 q] 3))
    by_cases h0 : q = 0
    · subst h0
      have hr := hsk.out (.inl rfl)
      clear hsk hnd
      have hcall := Cx.fn .skipToItem hI (Cx.At.bare (HP.out.below HB9.out)) hr True.intro
      have HC := Lib.hid hcall
      clear hcall hr
      go_wp2_with fail
      refine HC.out.mono ?_
      rintro e w9 ⟨rfl, h9⟩
      clear HC
      go_wp2_with fail
      go_end0
      exact Post.mono (Step.of_below (HB9.out.mono (Nat.le_refl _))) h9.post
    · have hq0 : (q == 0) = false := beq_eq_false_iff_ne.2 h0
      by_cases h4 : y.k = 104
      · obtain ⟨hd1, hr⟩ := hnd.out h0 h4
        have hy4 : (y.k == 104) = true := by rw [h4]; rfl
        have hy5 : (y.k != 104) = false := by rw [h4]; rfl
        have H4 := Lib.hid h4
        have H0 := Lib.hid h0
        clear h4 h0 hsk hnd
        have hat := Cx.At.ofBelow HP.out HB9.out (b0 := w.heap.size) (b1 := w8.heap.size) (v0 := .pointer (some ⟨p, 0, none⟩)) (v1 := .int .i64 q) (by rw [cell_alloc_lt _ _ l8]; exact x8) (Nat.le_refl _) (by rw [Lib.cell_of_heap (heap_alloc_new _ _)]; rfl) HB8.out.size
        have HC := Lib.hid (Cx.node hat hr (acts_item_1 hI q hd1 w.heap.size w8.heap.size))
        clear hat hr
        go_wp2_with fail
        refine HC.out.mono ?_
        rintro e w9 ⟨rfl, h9⟩
        clear HC
        go_wp2_with fail
        go_end0
        exact h9.post
      · have hr := hsk.out (.inr h4)
        have hy4 : (y.k == 104) = false := beq_eq_false_iff_ne.2 h4
        have hy5 : (y.k != 104) = true := by simp [h4]
        have H4 := Lib.hid h4
        have H0 := Lib.hid h0
        clear h4 h0 hsk hnd
        have HC := Lib.hid (Cx.fn .skipToItem hI (Cx.At.bare (HP.out.below HB9.out)) hr True.intro)
        clear hr
        go_wp2_with fail
        refine HC.out.mono ?_
        rintro e w9 ⟨rfl, h9⟩
        clear HC
        go_wp2_with fail
        go_end0
        exact Post.mono (Step.of_below (HB9.out.mono (Nat.le_refl _))) h9.post

theorem run_copy_row3 (w : World) (ty : TypeId) (g o dLen dCap : Nat) (a : Addr) (sLen sCap : Nat) (cur : Array Value) (t : TypeId) (cs : List Value) (m : Nat)
    (hg : w.heap[g]? = some (.cells cur t (0, 0))) (hm : Nat.min sLen dLen = m) (hn : cs.length = m * 3)
    (hsrc : ∀ j v, cs[j]? = some v → w.cell? (a.add j) = some v) (hfit : o + cs.length ≤ cur.size) (h1 : ∀ v ∈ cs, v.oneCell' = true) :
    (Builtin.copy_ #[119, 119] ty #[.slice (some ⟨g, o, none⟩) dLen dCap, .slice (some a) sLen sCap]).run Tryz.prog w =
      .ok (goInt m) (w.setRow g (cur.toList.take o ++ cs ++ cur.toList.drop (o + cs.length)).toArray) := by
  have hl := run_loadCells_list (P := Tryz.prog) w a cs hsrc
  have hst := run_storeCells_at Tryz.prog g o t cs 0 cur w hg (by simpa using hfit) h1
  obtain ⟨i0, hi0, hz0, hz1, hz2⟩ := info_parts info_tree
  rw [hn] at hl
  simp [Builtin.copy_, run_underlying Tryz.underlying119, Builtin.lenOf, Builtin.firstCells, sizeOf, typeInfo, hi0, hz1, hm, hl, hst]
def InsPost (w : World) (b : Nat) (k : Nat) (us : List Value) (z0 z1 z2 v0 v1 v2 : Value) (e : Ending) (w' : World) : Prop :=
  ∃ b' cc', e = .returned (.slice (some ⟨b', 0, none⟩) (k + 2) cc') ∧ w'.ownsRow 0 121 3 (.slice (some ⟨b', 0, none⟩) (k + 2) cc') (k + 2) (us ++ [z0, z1, z2] ++ [v0, v1, v2]) ∧ w.grownBy w' (some b) ∧ (b' = b ∨ w.heap.size ≤ b')
theorem heap_drew (w : World) (b : Nat) : w.drew.heap[b]? = w.heap[b]? := rfl
theorem setRow_other (w : World) (g b : Nat) (cs : Array Value) (h : b ≠ g) : (w.setRow g cs).heap[b]? = w.heap[b]? := by
  unfold World.setRow
  rw [Array.getElem?_modify, if_neg (fun e => h e.symm)]
theorem setRow_size (w : World) (g : Nat) (cs : Array Value) : (w.setRow g cs).heap.size = w.heap.size := by
  unfold World.setRow
  simp
theorem ins_list (cur r1 r2 us : List Value) (z0 z1 z2 v0 v1 v2 : Value) (k : Nat) (hu : us.length = k * 3) (ht : cur.take ((k + 1) * 3) = us ++ [v0, v1, v2])
    (h1 : r1 = cur.take ((k + 1) * 3) ++ [v0, v1, v2] ++ cur.drop ((k + 1) * 3 + 3)) (h2 : r2 = r1.take (k * 3) ++ [z0, z1, z2] ++ r1.drop (k * 3 + 3)) :
    r2.take ((k + 2) * 3) = us ++ [z0, z1, z2] ++ [v0, v1, v2] ∧ ((k + 2) * 3 ≤ cur.length → r2.length = cur.length) := by
  rw [ht] at h1
  generalize hd : cur.drop ((k + 1) * 3 + 3) = d at h1
  have e1 : r1.take (k * 3) = us := by
    rw [h1, ← hu, List.append_assoc, List.append_assoc, List.take_left]
  have e2 : r1.drop (k * 3 + 3) = [v0, v1, v2] ++ d := by
    have : us ++ [v0, v1, v2] ++ [v0, v1, v2] ++ d = (us ++ [v0, v1, v2]) ++ ([v0, v1, v2] ++ d) := by simp
    rw [h1, this, show k * 3 + 3 = (us ++ [v0, v1, v2]).length by simp [hu], List.drop_left]
  rw [e1, e2] at h2
  have e3 : r2 = (us ++ [z0, z1, z2] ++ [v0, v1, v2]) ++ d := by rw [h2]; simp
  refine ⟨?_, fun hc => ?_⟩
  · rw [e3, show (k + 2) * 3 = (us ++ [z0, z1, z2] ++ [v0, v1, v2]).length by simp [hu]; omega, List.take_left]
  · have : d.length = cur.length - ((k + 1) * 3 + 3) := by rw [← hd, List.length_drop]
    rw [e3]
    simp only [List.length_append, List.length_cons, List.length_nil, hu, this]
    omega
set_option maxRecDepth 100000 in
set_option maxHeartbeats 4000000 in
theorem insert_shift (w : World) (b k cc vb : Nat) (us : List Value) (z0 z1 z2 v0 v1 v2 : Value) (hown : w.ownsRow 0 121 3 (.slice (some ⟨b, 0, none⟩) (k + 1) cc) (k + 1) (us ++ [v0, v1, v2])) (hv : w.heap[vb]? = some (.cells #[z0, z1, z2] 121 (0, 0))) (hne : vb ≠ b) (hk : k ≤ 1000000)
    (hz : ∀ v ∈ [z0, z1, z2], v.oneCell' = true) (hvs : ∀ v ∈ [v0, v1, v2], v.oneCell' = true) (hroom : k + 2 ≤ cc) :
    Calls Tryz.prog 272 #[.slice (some ⟨b, 0, none⟩) (k + 1) cc, .int .i64 k, .slice (some ⟨vb, 0, none⟩) 1 1] w (InsPost w b k us z0 z1 z2 v0 v1 v2) := by
  obtain ⟨cur, hb, hcm, hcs, htake, hul⟩ : ∃ cur : Array Value, w.heap[b]? = some (.cells cur 121 (0, 0)) ∧ cc ≤ maxLen ∧ cur.size = cc * 3 ∧ cur.toList.take ((k + 1) * 3) = us ++ [v0, v1, v2] ∧ us.length = k * 3 := by
    have hl := hown.1
    rcases hown.2 with ⟨h', _⟩ | ⟨g', cap', cur, h', _, hg, hnc, hcm, hcs, htake⟩
    · simp at h'
    · simp only [Value.slice.injEq, Option.some.injEq, Addr.mk.injEq, and_true, true_and] at h'
      obtain ⟨rfl, rfl⟩ := h'
      refine ⟨cur, hg, hcm, hcs, htake, ?_⟩
      simp at hl
      omega
  have hcell : ∀ j v, [v0, v1, v2][j]? = some v → w.cell? ⟨b, k * 3 + j, none⟩ = some v := fun j v hj => by
    have hj3 : j < 3 := (List.getElem?_eq_some_iff.1 hj).1
    rw [hown.cellAt _ (by omega), List.getElem?_append_right (by omega), hul, Nat.add_sub_cancel_left]
    exact hj
  have hov : ∀ lb cb, (callFunc 308 #[.slice (some ⟨vb, 0, none⟩) 1 1, .slice (some ⟨b, (k + 1) * 3, none⟩) lb cb]).run Tryz.prog w = .ok (.value (.bool false)) w := fun lb cb => by
    rw [run_callFunc_extern Tryz.func308 (by kernel_rfl) (by kernel_rfl) (by kernel_rfl) (e := Extern.SlicesOverlaps.overlaps #[119, 119] #[4]) (by kernel_rfl),
      Lib.run_overlaps_apart w 119 4 121 Tryz.underlying119 3 Tryz.sizeOf121 ⟨vb, 0, none⟩ ⟨b, (k + 1) * 3, none⟩ 1 1 lb cb hne 121 121 3 (cc * 3) (by simp [World.shape?, hv]) (by simp [World.shape?, hb, hcs]) (by omega) (Lib.frozen_of_heap hv 0) (Lib.frozen_of_heap hv 3)]
    rfl
  have hcp1 : ∀ ty dl sl dc sc, dl = 1 → sl = 2 → (Builtin.copy_ #[119, 119] ty #[.slice (some ⟨b, (k + 1) * 3, none⟩) dl dc, .slice (some ⟨b, k * 3, none⟩) sl sc]).run Tryz.prog w.drew = .ok (goInt 1) (w.drew.setRow b (cur.toList.take ((k + 1) * 3) ++ [v0, v1, v2] ++ cur.toList.drop ((k + 1) * 3 + 3)).toArray) := fun ty dl sl dc sc h1 h2 => by
    subst h1 h2
    exact run_copy_row3 w.drew ty b ((k + 1) * 3) 1 dc ⟨b, k * 3, none⟩ 2 sc cur 121 [v0, v1, v2] 1 hb rfl rfl (fun j v hj => by rw [Go.Addr.add_lit]; exact hcell j v hj) (by simp; omega) hvs
  generalize hR1 : (cur.toList.take ((k + 1) * 3) ++ [v0, v1, v2] ++ cur.toList.drop ((k + 1) * 3 + 3)).toArray = R1 at hcp1
  generalize hR2 : (R1.toList.take (k * 3) ++ [z0, z1, z2] ++ R1.toList.drop (k * 3 + 3)).toArray = R2
  have hcp2 : ∀ ty dl dc, 1 ≤ dl → (Builtin.copy_ #[119, 119] ty #[.slice (some ⟨b, k * 3, none⟩) dl dc, .slice (some ⟨vb, 0, none⟩) 1 1]).run Tryz.prog (w.drew.setRow b R1) = .ok (goInt 1) ((w.drew.setRow b R1).setRow b R2) := fun ty dl dc h1 => by
    rw [← hR2]
    exact run_copy_row3 _ ty b (k * 3) dl dc ⟨vb, 0, none⟩ 1 1 R1 121 [z0, z1, z2] 1 (setRow_heap _ b cur _ 121 _ hb) (by simp only [Nat.min_def]; split <;> omega) rfl (fun j v hj => by
      rw [Go.Addr.add_lit, World.cell?_of_block (w := w) (a := ⟨vb, 0 + j, none⟩) (setRow_other w.drew b vb R1 hne), Lib.cell_of_heap hv]
      simpa using hj) (by rw [← hR1]; simp; omega) hz
  have hR1l : R1.size = cc * 3 := by rw [← hR1]; simp; omega
  have HR1 := Lib.hid hR1
  have HR2 := Lib.hid hR2
  have HT := Lib.hid htake
  have HB := Lib.hid hb
  have HCS := Lib.hid hcs
  have HOWN := Lib.hid hown
  have HUL := Lib.hid hul
  unfold maxLen at hcm
  have hz1 : (k : Int) + 1 + 1 ≤ cc := by omega
  have hkk : (0 : Int) ≤ k := by omega
  have hk9 : (k : Int) ≤ 1000000 := by omega
  have hne1 : ((k : Int) == (k : Int) + 1) = false := beq_eq_false_iff_ne.2 (by omega)
  have hne2 : ((k : Int) == ((k + 1 : Nat) : Int)) = false := beq_eq_false_iff_ne.2 (by omega)
  have hck : ¬ (cc = k) := by omega
  have hck1 : ¬ (cc = k + 1) := by omega
  have hin1 : k ≤ k + 1 := by omega
  have hin2 : k ≤ k + 2 := by omega
  have hin3 : k + 1 ≤ k + 2 := by omega
  have hsl : k + 1 + 1 - k = 2 := by omega
  have hw1 : IntKind.i64.wrap ((k : Int) + 1) = (k : Int) + 1 := by rw [IntKind.wrap_i64]; omega
  have hb1 : (0 : Int) ≤ (k : Int) + 1 := by omega
  have htn : ((k : Int) + 1).toNat = k + 1 := by omega
  have hb2 : (k : Int) + 1 ≤ (k : Int) + 1 + 1 := by omega
  have hb3 : (k : Int) ≤ (k : Int) + 1 + 1 := by omega
  clear hR1 hR2 htake hb hcs hown hul hcell
  go_enter Tryz.func272, Tryz.ntmps272
  go_wp2_with (simp only [hov])
  go_region_law (refine step_copy_runI rfl _ _ 119 119 rfl (.slice (some ⟨b, (k + 1) * 3, none⟩) 1 (cc - (k + 1))) (.slice (some ⟨b, k * 3, none⟩) 2 (cc - k)) (by simp [Act.eval, Act.put]) (by simp [Act.eval, Act.put]) (hcp1 _ 1 2 _ _ rfl rfl) ?_)
  go_wp2_with (at_builtin; refine wpList_copy_runI _ rfl _ _ 119 119 rfl _ _ rfl rfl (hcp2 _ _ _ (by clear hw1; omega)) ?_)
  go_ret
  have h1 := setRow_heap w.drew b cur R1 121 (0, 0) HB.out
  have h2 := setRow_heap (w.drew.setRow b R1) b R1 R2 121 (0, 0) h1
  obtain ⟨l1, l2⟩ := ins_list cur.toList R1.toList R2.toList us z0 z1 z2 v0 v1 v2 k HUL.out HT.out (by rw [← HR1.out]) (by rw [← HR2.out])
  refine ⟨b, cc, rfl, ⟨?_, .inr ⟨b, cc, R2, rfl, Nat.zero_le _, h2, hroom, by unfold maxLen; exact hcm, ?_, l1⟩⟩, ⟨rfl, rfl, rfl, ?_, fun g hg hgb => ?_⟩, .inl rfl⟩
  · have := HUL.out
    simp
    omega
  · rw [← HCS.out]
    have : R2.toList.length = cur.toList.length := l2 (by have := HCS.out; simp; omega)
    simpa using this
  · rw [setRow_size, setRow_size]; exact Nat.le_refl _
  · have hne : g ≠ b := fun e => hgb (by rw [e])
    rw [setRow_other _ _ _ _ hne, setRow_other _ _ _ _ hne]
    rfl
theorem ins_list2 (row r1 r2 us : List Value) (z0 z1 z2 v0 v1 v2 : Value) (k : Nat) (hu : us.length = k * 3) (ht : row.take (k * 3) = us) (hl : (k + 2) * 3 ≤ row.length)
    (h1 : r1 = row.take (k * 3) ++ [z0, z1, z2] ++ row.drop (k * 3 + 3)) (h2 : r2 = r1.take ((k + 1) * 3) ++ [v0, v1, v2] ++ r1.drop ((k + 1) * 3 + 3)) :
    r2.take ((k + 2) * 3) = us ++ [z0, z1, z2] ++ [v0, v1, v2] ∧ r2.length = row.length := by
  rw [ht] at h1
  have l1 : r1.length = row.length := by
    rw [h1]
    simp only [List.length_append, List.length_cons, List.length_nil, List.length_drop, hu]
    omega
  have e1 : r1.take ((k + 1) * 3) = us ++ [z0, z1, z2] := by
    rw [h1, show (k + 1) * 3 = (us ++ [z0, z1, z2]).length by simp [hu]; omega, List.take_left]
  rw [e1] at h2
  have l2 : r2.length = row.length := by
    rw [h2]
    simp only [List.length_append, List.length_cons, List.length_nil, List.length_drop, hu, l1]
    omega
  refine ⟨?_, l2⟩
  rw [h2, show (k + 2) * 3 = (us ++ [z0, z1, z2] ++ [v0, v1, v2]).length by simp [hu]; omega, List.take_left]
theorem zero_cells (n : Nat) : (Builtin.zeroCells (Value.agg #[.int .i64 0, .string ⟨#[]⟩, .slice none 0 0]).cells n).size = n * 3 := by
  simp [Builtin.zeroCells, Value.cells]
set_option maxRecDepth 100000 in
set_option maxHeartbeats 4000000 in
theorem insert_grow (w : World) (b k cc vb : Nat) (us : List Value) (z0 z1 z2 v0 v1 v2 : Value) (hown : w.ownsRow 0 121 3 (.slice (some ⟨b, 0, none⟩) (k + 1) cc) (k + 1) (us ++ [v0, v1, v2])) (hv : w.heap[vb]? = some (.cells #[z0, z1, z2] 121 (0, 0))) (hne : vb ≠ b) (hk : k ≤ 1000000)
    (hz : ∀ v ∈ [z0, z1, z2], v.oneCell' = true) (hvs : ∀ v ∈ [v0, v1, v2], v.oneCell' = true) (hus : us.length = k * 3) (hkc : k + 1 ≤ cc) (hroom : cc < k + 2) :
    Calls Tryz.prog 272 #[.slice (some ⟨b, 0, none⟩) (k + 1) cc, .int .i64 k, .slice (some ⟨vb, 0, none⟩) 1 1] w (InsPost w b k us z0 z1 z2 v0 v1 v2) := by
  have hbw := (hown.lt b rfl).2
  have hvw := lt_of_heap hv
  obtain ⟨i0, hi0, hz0, hz1, hz2⟩ := info_parts info_tree
  have hcell : ∀ j v, (us ++ [v0, v1, v2])[j]? = some v → w.cell? ⟨b, j, none⟩ = some v := fun j v hj => by
    have := (List.getElem?_eq_some_iff.1 hj).1
    rw [hown.cellAt _ (by simp at this; omega)]
    exact hj
  have hold : (Builtin.firstCells i0.size k (.slice (some ⟨b, 0, none⟩) k cc)).run Tryz.prog w.drew = .ok us.toArray w.drew := by
    rw [hz1]
    exact run_firstCells_some w.drew 3 k ⟨b, 0, none⟩ k cc us hus (fun j v hj => by
      rw [Go.Addr.add_lit, Nat.zero_add]
      exact hcell j v (by rw [List.getElem?_append_left (List.getElem?_eq_some_iff.1 hj).1]; exact hj))
  have hrz : ∀ ty, (Builtin.append_ #[119, 3] ty #[.slice (some ⟨b, 0, none⟩) k cc, .int .i64 2]).run Tryz.prog w =
      .ok (.slice (some ⟨w.heap.size, 0, none⟩) (k + 2) (grownCap w (k + 2) cc 121)) (w.drew.alloc (.cells (us.toArray ++ Builtin.zeroCells (Value.agg #[.int .i64 0, .string ⟨#[]⟩, .slice none 0 0]).cells 2 ++ Builtin.zeroCells (Value.agg #[.int .i64 0, .string ⟨#[]⟩, .slice none 0 0]).cells (grownCap w (k + 2) cc 121 - (k + 2))) 121)) := fun ty => by
    have h := Lib.run_append_grow_zeros w 119 3 ty 121 i0 _ .i64 .i64 Tryz.underlying119 Tryz.underlying3 hi0 hz0 (some ⟨b, 0, none⟩) k cc us hold 2 (by omega) (by omega) (by omega) (by omega) (by rw [hz2]; omega) (by rw [hz2]; exact growslice_fits hroom (by omega))
    exact h
  have hGn : k + 2 ≤ grownCap w (k + 2) cc 121 := grownCap_ge w _ _ _
  have hG63 := grownCap_le_maxLen w (k + 2) cc 121 (by unfold maxLen; omega)
  generalize grownCap w (k + 2) cc 121 = G at *
  generalize hROW : us.toArray ++ Builtin.zeroCells (Value.agg #[.int .i64 0, .string ⟨#[]⟩, .slice none 0 0]).cells 2 ++ Builtin.zeroCells (Value.agg #[.int .i64 0, .string ⟨#[]⟩, .slice none 0 0]).cells (G - (k + 2)) = ROW at *
  have hRl : ROW.size = G * 3 := by
    rw [← hROW]
    simp only [Array.size_append, zero_cells, List.size_toArray, hus]
    omega
  have hRt : ROW.toList.take (k * 3) = us := by
    rw [← hROW]
    simp only [Array.toList_append, List.append_assoc]
    rw [← hus, List.take_left]
  obtain ⟨W1, hW1⟩ : ∃ W1, W1 = w.drew.alloc (.cells ROW 121) := ⟨_, rfl⟩
  have hN : W1.heap[w.heap.size]? = some (.cells ROW 121 (0, 0)) := by rw [hW1]; exact heap_alloc_new w.drew _
  have hO : ∀ g, g < w.heap.size → W1.heap[g]? = w.heap[g]? := fun g hg => by rw [hW1]; exact heap_alloc_lt w.drew _ hg
  have hS : W1.heap.size = w.heap.size + 1 := by rw [hW1]; simp
  rw [← hW1] at hrz
  generalize hR1 : (ROW.toList.take (k * 3) ++ [z0, z1, z2] ++ ROW.toList.drop (k * 3 + 3)).toArray = R1
  have hcpA : ∀ (W : World), W.heap = W1.heap → ∀ ty dl dc, 1 ≤ dl → (Builtin.copy_ #[119, 119] ty #[.slice (some ⟨w.heap.size, k * 3, none⟩) dl dc, .slice (some ⟨vb, 0, none⟩) 1 1]).run Tryz.prog W = .ok (goInt 1) (W.setRow w.heap.size R1) := fun W hW ty dl dc h1 => by
    rw [← hR1]
    exact run_copy_row3 W ty w.heap.size (k * 3) dl dc ⟨vb, 0, none⟩ 1 1 ROW 121 [z0, z1, z2] 1 (by rw [hW]; exact hN) (by simp only [Nat.min_def]; split <;> omega) rfl (fun j v hj => by
      rw [Go.Addr.add_lit, World.cell?_of_block (w := w) (a := ⟨vb, 0 + j, none⟩) (by rw [hW]; exact hO vb hvw), Lib.cell_of_heap hv]
      simpa using hj) (by simp; omega) hz
  generalize hR2 : (R1.toList.take ((k + 1) * 3) ++ [v0, v1, v2] ++ R1.toList.drop ((k + 1) * 3 + 3)).toArray = R2
  have hcpB : ∀ (W : World), W.heap = (W1.setRow w.heap.size R1).heap → ∀ ty dc sc, (Builtin.copy_ #[119, 119] ty #[.slice (some ⟨w.heap.size, (k + 1) * 3, none⟩) 1 dc, .slice (some ⟨b, k * 3, none⟩) 1 sc]).run Tryz.prog W = .ok (goInt 1) (W.setRow w.heap.size R2) := fun W hW ty dc sc => by
    rw [← hR2]
    exact run_copy_row3 W ty w.heap.size ((k + 1) * 3) 1 dc ⟨b, k * 3, none⟩ 1 sc R1 121 [v0, v1, v2] 1 (by rw [hW]; exact setRow_heap W1 _ ROW R1 121 (0, 0) hN) rfl rfl (fun j v hj => by
      rw [Go.Addr.add_lit, World.cell?_of_block (w := w) (a := ⟨b, k * 3 + j, none⟩) (by rw [hW, setRow_other _ _ _ _ (by show b ≠ w.heap.size; omega)]; exact hO b hbw)]
      exact hcell _ v (by rw [List.getElem?_append_right (by omega), hus, Nat.add_sub_cancel_left]; exact hj)) (by rw [← hR1]; simp; omega) hvs
  have HR1 := Lib.hid hR1
  have HR2 := Lib.hid hR2
  have HRT := Lib.hid hRt
  have HRL := Lib.hid hRl
  have HN := Lib.hid hN
  have HO := Lib.hid hO
  have HS := Lib.hid hS
  have HUS := Lib.hid hus
  unfold maxLen at hG63
  have hsl : (k : Int) + 1 + 1 - (k : Int) = 2 := by omega
  have hkk : (0 : Int) ≤ k := by omega
  have hk9 : (k : Int) ≤ 1000000 := by omega
  have hz9 : (cc : Int) < (k : Int) + 1 + 1 := by omega
  have hne1 : ((k : Int) == (k : Int) + 1) = false := beq_eq_false_iff_ne.2 (by omega)
  have hck : ¬ (cc = k) := by omega
  have hGk : ¬ (G = k) := by omega
  have hGk1 : ¬ (G = k + 1) := by omega
  have hin1 : k ≤ k + 1 := by omega
  have hin2 : k ≤ k + 2 := by omega
  have hin3 : k + 1 ≤ k + 2 := by omega
  have hw1 : IntKind.i64.wrap ((k : Int) + 1) = (k : Int) + 1 := by rw [IntKind.wrap_i64]; omega
  have hb1 : (0 : Int) ≤ (k : Int) + 1 := by omega
  have htn : ((k : Int) + 1).toNat = k + 1 := by omega
  have hb2 : (k : Int) + 1 ≤ (k : Int) + 1 + 1 := by omega
  have hb3 : (k : Int) ≤ (k : Int) + 1 + 1 := by omega
  have hb4 : (k : Int) ≤ (cc : Int) := by omega
  have hb5 : (k : Int) ≤ (k : Int) + 2 := by omega
  have hb6 : (k : Int) + 1 ≤ (k : Int) + 2 := by omega
  have hb7 : (k : Int) ≤ (k : Int) + 1 := by omega
  have HOWN := Lib.hid hown
  clear hR1 hR2 hRt hRl hN hO hS hus hold hcell hROW hown
  subst hW1
  have hE1 : ((w.alloc (.cells ROW 121)).drew).heap = (w.drew.alloc (.cells ROW 121)).heap := rfl
  go_enter Tryz.func272, Tryz.ntmps272
  go_wp2_with (first
    | (at_builtin; refine Lib.wpList_append_run _ rfl _ _ _ _ rfl _ _ rfl rfl _ _ (hrz _) ?_)
    | (at_builtin; refine wpList_copy_runI _ rfl _ _ 119 119 rfl _ _ rfl rfl (hcpA _ hE1 _ _ _ (by clear hw1; omega)) ?_))
  go_region_law (refine step_copy_runI rfl _ _ 119 119 rfl (.slice (some ⟨w.heap.size, (k + 1) * 3, none⟩) 1 (G - (k + 1))) (.slice (some ⟨b, k * 3, none⟩) 1 (cc - k)) (by simp [Act.eval, Act.put]) (by simp [Act.eval, Act.put]) (hcpB (((w.alloc (.cells ROW 121)).drew.setRow w.heap.size R1).drew) rfl _ _ _) ?_)
  go_wp2_with fail
  go_ret
  have h1 := setRow_heap _ w.heap.size ROW R1 121 (0, 0) HN.out
  have h2 : ((((w.alloc (.cells ROW 121)).drew.setRow w.heap.size R1).drew).setRow w.heap.size R2).heap[w.heap.size]? = some (.cells R2 121 (0, 0)) := setRow_heap _ w.heap.size R1 R2 121 (0, 0) h1
  obtain ⟨l1, l2⟩ := ins_list2 ROW.toList R1.toList R2.toList us z0 z1 z2 v0 v1 v2 k HUS.out HRT.out (by have := HRL.out; simp; omega) (by rw [← HR1.out]) (by rw [← HR2.out])
  refine ⟨w.heap.size, G, rfl, ⟨?_, .inr ⟨w.heap.size, G, R2, rfl, Nat.zero_le _, h2, hGn, by unfold maxLen; exact hG63, ?_, l1⟩⟩, ⟨rfl, rfl, rfl, ?_, fun g hg hgb => ?_⟩, .inr (Nat.le_refl _)⟩
  · have := HUS.out
    simp
    omega
  · rw [← HRL.out]
    simpa using l2
  · rw [setRow_size]
    show _ ≤ ((w.alloc (.cells ROW 121)).drew.setRow w.heap.size R1).heap.size
    rw [setRow_size]
    show _ ≤ (w.alloc (.cells ROW 121)).heap.size
    simp
  · have hne : g ≠ w.heap.size := by omega
    rw [setRow_other _ _ _ _ hne]
    show ((w.alloc (.cells ROW 121)).drew.setRow w.heap.size R1).heap[g]? = _
    rw [setRow_other _ _ _ _ hne]
    exact heap_alloc_lt w _ hg
theorem insert_any (w : World) (b k cc vb : Nat) (us : List Value) (z0 z1 z2 v0 v1 v2 : Value) (hown : w.ownsRow 0 121 3 (.slice (some ⟨b, 0, none⟩) (k + 1) cc) (k + 1) (us ++ [v0, v1, v2])) (hv : w.heap[vb]? = some (.cells #[z0, z1, z2] 121 (0, 0))) (hne : vb ≠ b) (hk : k ≤ 1000000)
    (hz : ∀ v ∈ [z0, z1, z2], v.oneCell' = true) (hvs : ∀ v ∈ [v0, v1, v2], v.oneCell' = true) (hus : us.length = k * 3) (hkc : k + 1 ≤ cc) :
    Calls Tryz.prog 272 #[.slice (some ⟨b, 0, none⟩) (k + 1) cc, .int .i64 k, .slice (some ⟨vb, 0, none⟩) 1 1] w (InsPost w b k us z0 z1 z2 v0 v1 v2) := by
  by_cases h : k + 2 ≤ cc
  · exact insert_shift w b k cc vb us z0 z1 z2 v0 v1 v2 hown hv hne hk hz hvs h
  · exact insert_grow w b k cc vb us z0 z1 z2 v0 v1 v2 hown hv hne hk hz hvs hus hkc (by omega)
end Go.Proofs.YtpibenilagloaaaGreatDoor
