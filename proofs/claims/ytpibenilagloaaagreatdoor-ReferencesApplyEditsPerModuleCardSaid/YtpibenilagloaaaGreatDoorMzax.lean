import Derived.Test.YtpibenilagloaaaGreatDoorMzav
import Derived.Test.YtpibenilagloaaaGreatDoorMzaw
namespace Go.Proofs.YtpibenilagloaaaGreatDoor
open Go.RowKit
set_option linter.unusedVariables false
theorem BAt.cells {w : World} {p : Nat} {M : MM} {src : ByteArray} {b : BS} (h : BAt w p M src b) : w.cell? ⟨p, 0, none⟩ = some (.string src) ∧ w.cell? ⟨p, 1, none⟩ = some (.int .i64 b.off) ∧ p < w.heap.size := by
  obtain ⟨v, h⟩ := h
  exact ⟨cell_of h.blk 0 _ rfl, cell_of h.blk 1 _ rfl, h.lt⟩
theorem BAt.setOff {w : World} {p : Nat} {M : MM} {src : ByteArray} {b : BS} (h : BAt w p M src b) (o : Int) : BAt (w.setCell ⟨p, 1, none⟩ (.int .i64 o)) p M src { b with off := o } := by
  obtain ⟨v, h⟩ := h
  refine ⟨v, heap_set h.blk 1 _, ownsRow_below h.row fun g hg => Below.heap_setCell _ _ _ _ (h.mr g hg).2, h.mp, h.mr, h.gl.keep (by simp) (fun c hc => Below.heap_setCell _ _ _ _ fun e => ?_), h.glM⟩
  have := h.glM p h.mp
  simp only at e
  omega
theorem BPost.node {M : MM} {w w0 : World} {p q : Nat} {src : ByteArray} {b : BS} {h : Hd} {v r : Value} {e : Ending} {w' : World} (hS : Step M w M w0) (hp : BPost M w0 p src b r e w') (H : HAt w0 q h v) (hq : ¬ M q) :
    e = .returned r ∧ HAt w' q h v ∧ ∃ M', BAt w' p M' src b ∧ Step M w M' w' := by
  obtain ⟨rfl, M', h1, h2⟩ := hp
  exact ⟨rfl, H.keep (h2.block q (lt_of_heap H) hq), M', h1, hS.trans h2⟩
theorem HPost.post {M M' : MM} {w w1 w2 : World} {p q : Nat} {src : ByteArray} {b : BS} {h : Hd} {v : Value} {e : Ending} {w' : World} (hb : BAt w1 p M' src b) (hS : Step M w M' w1) (hu : Upd q w1 w2) (hp : HPost w2 q h v e w') : e = .returned (.tuple #[]) ∧ NPost M w p src b q h v (.tuple #[]) (.returned (.tuple #[])) w' := by
  obtain ⟨rfl, h1, h2⟩ := hp
  exact ⟨rfl, rfl, h1, M', w1, hb, hS, hu.trans h2⟩
theorem BAt.upd {w w' : World} {p q : Nat} {M : MM} {src : ByteArray} {b : BS} (h : BAt w p M src b) (hu : Upd q w w') (hq : ¬ M q) (hg : ng ≤ q) : BAt w' p M src b := by
  obtain ⟨v, h⟩ := h
  have k : ∀ c, M c → w'.heap[c]? = w.heap[c]? := fun c hc => hu.block c (by rintro rfl; exact hq hc)
  exact ⟨v, (k _ h.mp).trans h.blk, ownsRow_below h.row fun g hgv => k _ (h.mr g hgv).1, h.mp, h.mr, h.gl.keep (Nat.le_of_eq hu.size.symm) (fun c hc => hu.block c (by omega)), h.glM⟩
structure TkAt (w : World) (p : Nat) (M : MM) (src : ByteArray) (b : BS) (q : Nat) (h : Hd) (v : Value) (k : Int) (t : ByteArray) (sl : Value) (W : World) : Prop where
  bat : BAt W p M src { b with off := b.off + t.size }
  step : Step M w M W
  node : HAt W q h v
  tok : W.heap[w.heap.size]? = some (.cells #[.int .i64 k, .string t, sl] 121 (0, 0))
theorem TkAt.of {w : World} {p : Nat} {M : MM} {src : ByteArray} {b : BS} {q : Nat} {h : Hd} {v : Value} (hB : BAt w p M src b) (H : HAt w q h v) (hq : ¬ M q) (k : Int) (t : ByteArray) (sl : Value) (W : World) (hW : W = ((w.setCell ⟨p, 1, none⟩ (.int .i64 (b.off + t.size))).alloc (.cells #[.int .i64 k, .string t, sl] 121)).drew) :
    TkAt w p M src b q h v k t sl W := by
  subst hW
  have hmp := hB.choose_spec.mp
  have hz : (w.setCell ⟨p, 1, none⟩ (.int .i64 (b.off + t.size))).heap.size = w.heap.size := by simp
  have hb : Below (w.setCell ⟨p, 1, none⟩ (.int .i64 (b.off + t.size))).heap.size (w.setCell ⟨p, 1, none⟩ (.int .i64 (b.off + t.size))) (((w.setCell ⟨p, 1, none⟩ (.int .i64 (b.off + t.size))).alloc (.cells #[.int .i64 k, .string t, sl] 121)).drew) := ((Below.refl _ _).alloc (Nat.le_refl _) _).drew
  refine ⟨(hB.setOff _).below hb, ((Step.refl M w).set p 1 _ (.inl hmp)).below (hb.mono (by omega)), H.keep ?_, ?_⟩
  · rw [hb.block q (by rw [hz]; exact lt_of_heap H)]
    exact Below.heap_setCell _ _ _ _ (by rintro rfl; exact hq hmp)
  · have := heap_alloc_new (w.setCell ⟨p, 1, none⟩ (.int .i64 (b.off + t.size))) (.cells #[.int .i64 k, .string t, sl] 121)
    rw [hz] at this
    exact this
set_option maxRecDepth 100000 in
set_option maxHeartbeats 1600000 in
theorem token_s101 (w : World) (p : Nat) (M : MM) (src : ByteArray) (b : BS) (hB : BAt w p M src b) (q : Nat) (h : Hd) (v : Value) (H : HAt w q h v) (hq : ¬ M q) (hqg : ng ≤ q) (k : Int) (t : ByteArray) (sl : Value) (ht : t.size ≤ 1000000) (h0 : 0 ≤ b.off) (h1 : b.off + t.size ≤ 1000000) (hl : b.ds.length + t.size ≤ 900000)
    (hk : k = 101) :
    Calls Tryz.prog 87 #[.pointer (some ⟨p, 0, none⟩), .pointer (some ⟨q, 0, none⟩), .agg #[.int .i64 k, .string t, sl]] w (NPost M w p src (tokB k t b) q (tokH h k t b.off (b.off + t.size)) v (.tuple #[])) := by
  have hTK := Lib.hid (TkAt.of hB H hq k t sl)
  have hqlt := lt_of_heap H
  obtain ⟨vb, hX⟩ := id hB
  have c1 := cell_of hX.blk 1 _ rfl
  have g1 := Lib.frozen_of_heap hX.blk 1
  have hplt := hX.lt
  have hHQ := Lib.hid hq
  clear hX hB H hq
  have b101 : (k == 101) = true := by simpa using (show k = 101 by omega)
  have HE : Hid (tokB k t b = { b with off := b.off + t.size } ∧ tokH h k t b.off (b.off + t.size) = h) := by subst hk; exact ⟨rfl, rfl⟩
  clear hk
  go_enter Tryz.func87, Tryz.ntmps87
  go_wp2_with fail
  go_region
  generalize hW : World.drew _ = W
  have hK := hTK.out W hW.symm
  clear hTK hW c1 g1
  have d0 := cell_of hK.tok 0 _ rfl
  have d1 := cell_of hK.tok 1 _ rfl
  obtain ⟨_, e1, hplt2⟩ := hK.bat.cells
  have hzlt := lt_of_heap hK.tok
  have HK := Lib.hid hK
  clear hK
  go_wp2
  refine bodyPost_ret (results_none rfl _ _ _) rfl ?_
  rw [HE.out.1, HE.out.2]
  exact ⟨rfl, HK.out.node, M, W, HK.out.bat, HK.out.step, Upd.refl _ _⟩
set_option maxRecDepth 100000 in
set_option maxHeartbeats 1600000 in
theorem token_s102 (w : World) (p : Nat) (M : MM) (src : ByteArray) (b : BS) (hB : BAt w p M src b) (q : Nat) (h : Hd) (v : Value) (H : HAt w q h v) (hq : ¬ M q) (hqg : ng ≤ q) (k : Int) (t : ByteArray) (sl : Value) (ht : t.size ≤ 1000000) (h0 : 0 ≤ b.off) (h1 : b.off + t.size ≤ 1000000) (hl : b.ds.length + t.size ≤ 900000)
    (hk : k = 102) :
    Calls Tryz.prog 87 #[.pointer (some ⟨p, 0, none⟩), .pointer (some ⟨q, 0, none⟩), .agg #[.int .i64 k, .string t, sl]] w (NPost M w p src (tokB k t b) q (tokH h k t b.off (b.off + t.size)) v (.tuple #[])) := by
  have hTK := Lib.hid (TkAt.of hB H hq k t sl)
  have hqlt := lt_of_heap H
  obtain ⟨vb, hX⟩ := id hB
  have c1 := cell_of hX.blk 1 _ rfl
  have g1 := Lib.frozen_of_heap hX.blk 1
  have hplt := hX.lt
  have hHQ := Lib.hid hq
  clear hX hB H hq
  have b101 : (k == 101) = false := by simpa using (show ¬ k = 101 by omega)
  have b102 : (k == 102) = true := by simpa using (show k = 102 by omega)
  have HE : Hid (tokB k t b = { b with off := b.off + t.size } ∧ tokH h k t b.off (b.off + t.size) = h) := by subst hk; exact ⟨rfl, rfl⟩
  clear hk
  go_enter Tryz.func87, Tryz.ntmps87
  go_wp2_with fail
  go_region
  generalize hW : World.drew _ = W
  have hK := hTK.out W hW.symm
  clear hTK hW c1 g1
  have d0 := cell_of hK.tok 0 _ rfl
  have d1 := cell_of hK.tok 1 _ rfl
  obtain ⟨_, e1, hplt2⟩ := hK.bat.cells
  have hzlt := lt_of_heap hK.tok
  have HK := Lib.hid hK
  clear hK
  go_wp2
  refine bodyPost_ret (results_none rfl _ _ _) rfl ?_
  rw [HE.out.1, HE.out.2]
  exact ⟨rfl, HK.out.node, M, W, HK.out.bat, HK.out.step, Upd.refl _ _⟩
set_option maxRecDepth 100000 in
set_option maxHeartbeats 1600000 in
theorem token_miss (w : World) (p : Nat) (M : MM) (src : ByteArray) (b : BS) (hB : BAt w p M src b) (q : Nat) (h : Hd) (v : Value) (H : HAt w q h v) (hq : ¬ M q) (hqg : ng ≤ q) (k : Int) (t : ByteArray) (sl : Value) (ht : t.size ≤ 1000000) (h0 : 0 ≤ b.off) (h1 : b.off + t.size ≤ 1000000) (hl : b.ds.length + t.size ≤ 900000)
    (hk : k = 108) (he : t = .empty) :
    Calls Tryz.prog 87 #[.pointer (some ⟨p, 0, none⟩), .pointer (some ⟨q, 0, none⟩), .agg #[.int .i64 k, .string t, sl]] w (NPost M w p src (tokB k t b) q (tokH h k t b.off (b.off + t.size)) v (.tuple #[])) := by
  have hTK := Lib.hid (TkAt.of hB H hq k t sl)
  have hqlt := lt_of_heap H
  obtain ⟨vb, hX⟩ := id hB
  have c1 := cell_of hX.blk 1 _ rfl
  have g1 := Lib.frozen_of_heap hX.blk 1
  have hplt := hX.lt
  have hHQ := Lib.hid hq
  clear hX hB H hq
  have b101 : (k == 101) = false := by simpa using (show ¬ k = 101 by omega)
  have b102 : (k == 102) = false := by simpa using (show ¬ k = 102 by omega)
  have b108 : (k == 108) = true := by simpa using (show k = 108 by omega)
  have te : t.toList = [] := by rw [he]; exact empty_l
  have te2 : (!t.toList.isEmpty) = false := by rw [te]; rfl
  have HE : Hid (tokB k t b = BS.rep { b with off := b.off + t.size } 1 b.off b.off ∧ tokH h k t b.off (b.off + t.size) = h) := by subst hk; unfold tokB tokH; rw [if_pos rfl, if_pos he, if_neg (by decide), if_pos rfl, if_pos he]; exact ⟨rfl, rfl⟩
  clear hk he
  go_enter Tryz.func87, Tryz.ntmps87
  go_wp2_with fail
  go_region
  generalize hW : World.drew _ = W
  have hK := hTK.out W hW.symm
  clear hTK hW c1 g1
  have d0 := cell_of hK.tok 0 _ rfl
  have d1 := cell_of hK.tok 1 _ rfl
  obtain ⟨_, e1, hplt2⟩ := hK.bat.cells
  have hzlt := lt_of_heap hK.tok
  have HK := Lib.hid hK
  clear hK
  have HR := Lib.hid (report_any W p M src _ HK.out.bat 1 b.off b.off (by show b.ds.length ≤ 1000000; omega))
  go_wp2_with fail
  refine HR.out.mono ?_
  intro e w1 hp
  obtain ⟨rfl, n1, M1, n2, n3⟩ := BPost.node HK.out.step hp HK.out.node hHQ.out
  clear hp HR e1
  go_wp2
  refine bodyPost_ret (results_none rfl _ _ _) rfl ?_
  rw [HE.out.1, HE.out.2]
  exact ⟨rfl, n1, M1, w1, n2, n3, Upd.refl _ _⟩
set_option maxRecDepth 100000 in
set_option maxHeartbeats 1600000 in
theorem token_bad (w : World) (p : Nat) (M : MM) (src : ByteArray) (b : BS) (hB : BAt w p M src b) (q : Nat) (h : Hd) (v : Value) (H : HAt w q h v) (hq : ¬ M q) (hqg : ng ≤ q) (k : Int) (t : ByteArray) (sl : Value) (ht : t.size ≤ 1000000) (h0 : 0 ≤ b.off) (h1 : b.off + t.size ≤ 1000000) (hl : b.ds.length + t.size ≤ 900000)
    (hk : k = 108) (he : t ≠ .empty) :
    Calls Tryz.prog 87 #[.pointer (some ⟨p, 0, none⟩), .pointer (some ⟨q, 0, none⟩), .agg #[.int .i64 k, .string t, sl]] w (NPost M w p src (tokB k t b) q (tokH h k t b.off (b.off + t.size)) v (.tuple #[])) := by
  have hTK := Lib.hid (TkAt.of hB H hq k t sl)
  have hqlt := lt_of_heap H
  obtain ⟨vb, hX⟩ := id hB
  have c1 := cell_of hX.blk 1 _ rfl
  have g1 := Lib.frozen_of_heap hX.blk 1
  have hplt := hX.lt
  have hHQ := Lib.hid hq
  clear hX hB H hq
  have b101 : (k == 101) = false := by simpa using (show ¬ k = 101 by omega)
  have b102 : (k == 102) = false := by simpa using (show ¬ k = 102 by omega)
  have b108 : (k == 108) = true := by simpa using (show k = 108 by omega)
  have te : (t.toList == []) = false := str_no empty_l he
  have te3 : ¬ t.toList = [] := by intro e; rw [e] at te; cases te
  have te2 : (!t.toList.isEmpty) = true := by cases hh : t.toList with | nil => exact absurd hh te3 | cons a r => rfl
  have HE : Hid (tokB k t b = BS.rep { b with off := b.off + t.size } 3 b.off (b.off + t.size) ∧ tokH h k t b.off (b.off + t.size) = extendH h b.off (b.off + t.size)) := by subst hk; unfold tokB tokH; rw [if_pos rfl, if_neg he, if_neg (by decide), if_pos rfl, if_neg he]; exact ⟨rfl, rfl⟩
  clear hk he
  go_enter Tryz.func87, Tryz.ntmps87
  go_wp2_with fail
  go_region
  generalize hW : World.drew _ = W
  have hK := hTK.out W hW.symm
  clear hTK hW c1 g1
  have d0 := cell_of hK.tok 0 _ rfl
  have d1 := cell_of hK.tok 1 _ rfl
  obtain ⟨_, e1, hplt2⟩ := hK.bat.cells
  have hzlt := lt_of_heap hK.tok
  have HK := Lib.hid hK
  clear hK
  have HR := Lib.hid (report_any W p M src _ HK.out.bat 3 b.off (b.off + t.size) (by show b.ds.length ≤ 1000000; omega))
  go_wp2_with fail
  refine HR.out.mono ?_
  intro e w1 hp
  obtain ⟨rfl, n1, M1, n2, n3⟩ := BPost.node HK.out.step hp HK.out.node hHQ.out
  have HF : Hid (∀ e w', HPost w1 q (extendH h b.off (b.off + t.size)) v e w' → e = .returned (.tuple #[]) ∧ NPost M w p src (tokB k t b) q (tokH h k t b.off (b.off + t.size)) v (.tuple #[]) (.returned (.tuple #[])) w') := fun e w' hp => by
    rw [HE.out.1, HE.out.2]
    exact HPost.post n2 n3 (Upd.refl _ _) hp
  have HX := Lib.hid (extend_any w1 q h v n1 b.off (b.off + t.size))
  obtain ⟨vb2, hX2⟩ := id n2
  have r1 := cell_of hX2.blk 1 _ rfl
  have r2 := hX2.lt
  clear hp HR e1 n1 n2 n3 hX2
  go_wp2_with fail
  refine HX.out.mono ?_
  intro e w9 hp
  obtain ⟨rfl, h9⟩ := HF.out _ _ hp
  clear hp
  go_wp2
  refine bodyPost_ret (results_none rfl _ _ _) rfl ?_
  exact h9
set_option maxRecDepth 100000 in
set_option maxHeartbeats 1600000 in
theorem token_idt (w : World) (p : Nat) (M : MM) (src : ByteArray) (b : BS) (hB : BAt w p M src b) (q : Nat) (h : Hd) (v : Value) (H : HAt w q h v) (hq : ¬ M q) (hqg : ng ≤ q) (k : Int) (t : ByteArray) (sl : Value) (ht : t.size ≤ 1000000) (h0 : 0 ≤ b.off) (h1 : b.off + t.size ≤ 1000000) (hl : b.ds.length + t.size ≤ 900000)
    (hk : k = 103) :
    Calls Tryz.prog 87 #[.pointer (some ⟨p, 0, none⟩), .pointer (some ⟨q, 0, none⟩), .agg #[.int .i64 k, .string t, sl]] w (NPost M w p src (tokB k t b) q (tokH h k t b.off (b.off + t.size)) v (.tuple #[])) := by
  have hTK := Lib.hid (TkAt.of hB H hq k t sl)
  have hqlt := lt_of_heap H
  obtain ⟨vb, hX⟩ := id hB
  have c1 := cell_of hX.blk 1 _ rfl
  have g1 := Lib.frozen_of_heap hX.blk 1
  have hplt := hX.lt
  have hHQ := Lib.hid hq
  clear hX hB H hq
  have b101 : (k == 101) = false := by simpa using (show ¬ k = 101 by omega)
  have b102 : (k == 102) = false := by simpa using (show ¬ k = 102 by omega)
  have b108 : (k == 108) = false := by simpa using (show ¬ k = 108 by omega)
  have b103 : (k == 103) = true := by simpa using (show k = 103 by omega)
  have HE : Hid (tokB k t b = identB t b.off { b with off := b.off + t.size } ∧ tokH h k t b.off (b.off + t.size) = extendH (identH h t b.off) b.off (b.off + t.size)) := by subst hk; exact ⟨rfl, rfl⟩
  clear hk
  go_enter Tryz.func87, Tryz.ntmps87
  go_wp2_with fail
  go_region
  generalize hW : World.drew _ = W
  have hK := hTK.out W hW.symm
  clear hTK hW c1 g1
  have d0 := cell_of hK.tok 0 _ rfl
  have d1 := cell_of hK.tok 1 _ rfl
  obtain ⟨_, e1, hplt2⟩ := hK.bat.cells
  have hzlt := lt_of_heap hK.tok
  have HK := Lib.hid hK
  clear hK
  have HR := Lib.hid (identifier_any W p M src _ HK.out.bat q h v HK.out.node hHQ.out t b.off ht (by show b.ds.length ≤ 1000000; omega))
  go_wp2_with fail
  refine HR.out.mono ?_
  rintro e w1 ⟨rfl, n1, M1, w0, n2, n3, n4⟩
  have hq0 : ¬ M1 q := fun e => (n3.own q e).elim hHQ.out (fun e => by have := lt_of_heap HK.out.node; omega)
  have n5 := HK.out.step.trans n3
  have n6 : BAt w1 p M1 src (identB t b.off { b with off := b.off + t.size }) := n2.upd n4 hq0 hqg
  have HF : Hid (∀ e w', HPost w1 q (extendH (identH h t b.off) b.off (b.off + t.size)) v e w' → e = .returned (.tuple #[]) ∧ NPost M w p src (tokB k t b) q (tokH h k t b.off (b.off + t.size)) v (.tuple #[]) (.returned (.tuple #[])) w') := fun e w' hp => by
    rw [HE.out.1, HE.out.2]
    exact HPost.post n2 n5 n4 hp
  have hob : (identB t b.off { b with off := b.off + t.size }).off = b.off + t.size := by unfold identB; split <;> rfl
  have HX := Lib.hid (extend_any w1 q (identH h t b.off) v n1 b.off (b.off + t.size))
  obtain ⟨vb2, hX2⟩ := id n6
  have r1 := cell_of hX2.blk 1 _ rfl
  have r2 := hX2.lt
  rw [hob] at r1
  clear HR e1 n1 n2 n3 n4 n5 n6 hX2 hob
  go_wp2_with fail
  refine HX.out.mono ?_
  intro e w9 hp
  obtain ⟨rfl, h9⟩ := HF.out _ _ hp
  clear hp
  go_wp2
  refine bodyPost_ret (results_none rfl _ _ _) rfl ?_
  exact h9
set_option maxRecDepth 100000 in
set_option maxHeartbeats 1600000 in
theorem token_igr (w : World) (p : Nat) (M : MM) (src : ByteArray) (b : BS) (hB : BAt w p M src b) (q : Nat) (h : Hd) (v : Value) (H : HAt w q h v) (hq : ¬ M q) (hqg : ng ≤ q) (k : Int) (t : ByteArray) (sl : Value) (ht : t.size ≤ 1000000) (h0 : 0 ≤ b.off) (h1 : b.off + t.size ≤ 1000000) (hl : b.ds.length + t.size ≤ 900000)
    (hk : k = 105) (hN : Numeral t) :
    Calls Tryz.prog 87 #[.pointer (some ⟨p, 0, none⟩), .pointer (some ⟨q, 0, none⟩), .agg #[.int .i64 k, .string t, sl]] w (NPost M w p src (tokB k t b) q (tokH h k t b.off (b.off + t.size)) v (.tuple #[])) := by
  have hTK := Lib.hid (TkAt.of hB H hq k t sl)
  have hqlt := lt_of_heap H
  obtain ⟨vb, hX⟩ := id hB
  have c1 := cell_of hX.blk 1 _ rfl
  have g1 := Lib.frozen_of_heap hX.blk 1
  have hplt := hX.lt
  have hHQ := Lib.hid hq
  clear hX hB H hq
  have b101 : (k == 101) = false := by simpa using (show ¬ k = 101 by omega)
  have b102 : (k == 102) = false := by simpa using (show ¬ k = 102 by omega)
  have b108 : (k == 108) = false := by simpa using (show ¬ k = 108 by omega)
  have b103 : (k == 103) = false := by simpa using (show ¬ k = 103 by omega)
  have b105 : (k == 105) = true := by simpa using (show k = 105 by omega)
  have HE : Hid (tokB k t b = intB t b.off { b with off := b.off + t.size } ∧ tokH h k t b.off (b.off + t.size) = extendH { h with v := intV t } b.off (b.off + t.size)) := by subst hk; exact ⟨rfl, rfl⟩
  have HNN := Lib.hid hN
  clear hk hN
  go_enter Tryz.func87, Tryz.ntmps87
  go_wp2_with fail
  go_region
  generalize hW : World.drew _ = W
  have hK := hTK.out W hW.symm
  clear hTK hW c1 g1
  have d0 := cell_of hK.tok 0 _ rfl
  have d1 := cell_of hK.tok 1 _ rfl
  obtain ⟨_, e1, hplt2⟩ := hK.bat.cells
  have hzlt := lt_of_heap hK.tok
  have HK := Lib.hid hK
  clear hK
  have HR := Lib.hid (integer_any W p M src _ HK.out.bat t b.off HNN.out (by show b.ds.length ≤ 1000000; omega))
  go_wp2_with fail
  refine HR.out.mono ?_
  intro e w1 hp
  obtain ⟨rfl, n1, M1, n2, n3⟩ := BPost.node HK.out.step hp HK.out.node hHQ.out
  have hq0 : ¬ M1 q := fun e => (n3.own q e).elim hHQ.out (fun e => by omega)
  have u1 : Upd q w1 (w1.setCell ⟨q, 1, none⟩ (.int .i64 (intV t))) := (Upd.refl _ _).set 1 _
  have n4 : HAt (w1.setCell ⟨q, 1, none⟩ (.int .i64 (intV t))) q { h with v := intV t } v := heap_set n1 1 _
  have n6 : BAt (w1.setCell ⟨q, 1, none⟩ (.int .i64 (intV t))) p M1 src (intB t b.off { b with off := b.off + t.size }) := n2.upd u1 hq0 hqg
  have HF : Hid (∀ e w', HPost (w1.setCell ⟨q, 1, none⟩ (.int .i64 (intV t))) q (extendH { h with v := intV t } b.off (b.off + t.size)) v e w' → e = .returned (.tuple #[]) ∧ NPost M w p src (tokB k t b) q (tokH h k t b.off (b.off + t.size)) v (.tuple #[]) (.returned (.tuple #[])) w') := fun e w' hp => by
    rw [HE.out.1, HE.out.2]
    exact HPost.post n2 n3 u1 hp
  have hob : (intB t b.off { b with off := b.off + t.size }).off = b.off + t.size := by unfold intB; split <;> rfl
  have s1 := cell_of n1 1 _ rfl
  have s2 := Lib.frozen_of_heap n1 1
  have s3 := lt_of_heap n1
  have HX := Lib.hid (extend_any _ q { h with v := intV t } v n4 b.off (b.off + t.size))
  obtain ⟨vb2, hX2⟩ := id n6
  have r1 := cell_of hX2.blk 1 _ rfl
  have r2 := hX2.lt
  rw [hob] at r1
  clear hp HR e1 n1 n2 n3 n4 n6 hX2 hob u1
  go_wp2_with fail
  refine HX.out.mono ?_
  intro e w9 hp
  obtain ⟨rfl, h9⟩ := HF.out _ _ hp
  clear hp
  go_wp2
  refine bodyPost_ret (results_none rfl _ _ _) rfl ?_
  exact h9
set_option maxRecDepth 100000 in
set_option maxHeartbeats 1600000 in
theorem token_str (w : World) (p : Nat) (M : MM) (src : ByteArray) (b : BS) (hB : BAt w p M src b) (q : Nat) (h : Hd) (v : Value) (H : HAt w q h v) (hq : ¬ M q) (hqg : ng ≤ q) (k : Int) (t : ByteArray) (sl : Value) (ht : t.size ≤ 1000000) (h0 : 0 ≤ b.off) (h1 : b.off + t.size ≤ 1000000) (hl : b.ds.length + t.size ≤ 900000)
    (hk : k = 106) :
    Calls Tryz.prog 87 #[.pointer (some ⟨p, 0, none⟩), .pointer (some ⟨q, 0, none⟩), .agg #[.int .i64 k, .string t, sl]] w (NPost M w p src (tokB k t b) q (tokH h k t b.off (b.off + t.size)) v (.tuple #[])) := by
  have hTK := Lib.hid (TkAt.of hB H hq k t sl)
  have hqlt := lt_of_heap H
  obtain ⟨vb, hX⟩ := id hB
  have c1 := cell_of hX.blk 1 _ rfl
  have g1 := Lib.frozen_of_heap hX.blk 1
  have hplt := hX.lt
  have hHQ := Lib.hid hq
  clear hX hB H hq
  have b101 : (k == 101) = false := by simpa using (show ¬ k = 101 by omega)
  have b102 : (k == 102) = false := by simpa using (show ¬ k = 102 by omega)
  have b108 : (k == 108) = false := by simpa using (show ¬ k = 108 by omega)
  have b103 : (k == 103) = false := by simpa using (show ¬ k = 103 by omega)
  have b105 : (k == 105) = false := by simpa using (show ¬ k = 105 by omega)
  have b106 : (k == 106) = true := by simpa using (show k = 106 by omega)
  have HE : Hid (tokB k t b = unqB t b.off { b with off := b.off + t.size } ∧ tokH h k t b.off (b.off + t.size) = extendH { h with t := ofL (unqL t) } b.off (b.off + t.size)) := by subst hk; exact ⟨rfl, rfl⟩
  clear hk
  go_enter Tryz.func87, Tryz.ntmps87
  go_wp2_with fail
  go_region
  generalize hW : World.drew _ = W
  have hK := hTK.out W hW.symm
  clear hTK hW c1 g1
  have d0 := cell_of hK.tok 0 _ rfl
  have d1 := cell_of hK.tok 1 _ rfl
  obtain ⟨_, e1, hplt2⟩ := hK.bat.cells
  have hzlt := lt_of_heap hK.tok
  have HK := Lib.hid hK
  clear hK
  have HR := Lib.hid (unquote_any W p M src _ HK.out.bat t b.off h0 (by omega) (by show b.ds.length + t.size ≤ 900000; omega))
  go_wp2_with fail
  refine HR.out.mono ?_
  intro e w1 hp
  obtain ⟨rfl, n1, M1, n2, n3⟩ := BPost.node HK.out.step hp HK.out.node hHQ.out
  have hq0 : ¬ M1 q := fun e => (n3.own q e).elim hHQ.out (fun e => by omega)
  have u1 : Upd q w1 (w1.setCell ⟨q, 2, none⟩ (.string (ofL (unqL t)))) := (Upd.refl _ _).set 2 _
  have n4 : HAt (w1.setCell ⟨q, 2, none⟩ (.string (ofL (unqL t)))) q { h with t := ofL (unqL t) } v := heap_set n1 2 _
  have n6 : BAt (w1.setCell ⟨q, 2, none⟩ (.string (ofL (unqL t)))) p M1 src (unqB t b.off { b with off := b.off + t.size }) := n2.upd u1 hq0 hqg
  have HF : Hid (∀ e w', HPost (w1.setCell ⟨q, 2, none⟩ (.string (ofL (unqL t)))) q (extendH { h with t := ofL (unqL t) } b.off (b.off + t.size)) v e w' → e = .returned (.tuple #[]) ∧ NPost M w p src (tokB k t b) q (tokH h k t b.off (b.off + t.size)) v (.tuple #[]) (.returned (.tuple #[])) w') := fun e w' hp => by
    rw [HE.out.1, HE.out.2]
    exact HPost.post n2 n3 u1 hp
  have hob : (unqB t b.off { b with off := b.off + t.size }).off = b.off + t.size := rfl
  have s1 := cell_of n1 2 _ rfl
  have s2 := Lib.frozen_of_heap n1 2
  have s3 := lt_of_heap n1
  have HX := Lib.hid (extend_any _ q { h with t := ofL (unqL t) } v n4 b.off (b.off + t.size))
  obtain ⟨vb2, hX2⟩ := id n6
  have r1 := cell_of hX2.blk 1 _ rfl
  have r2 := hX2.lt
  rw [hob] at r1
  clear hp HR e1 n1 n2 n3 n4 n6 hX2 hob u1
  go_wp2_with fail
  refine HX.out.mono ?_
  intro e w9 hp
  obtain ⟨rfl, h9⟩ := HF.out _ _ hp
  clear hp
  go_wp2
  refine bodyPost_ret (results_none rfl _ _ _) rfl ?_
  exact h9
set_option maxRecDepth 100000 in
set_option maxHeartbeats 1600000 in
theorem token_flg (w : World) (p : Nat) (M : MM) (src : ByteArray) (b : BS) (hB : BAt w p M src b) (q : Nat) (h : Hd) (v : Value) (H : HAt w q h v) (hq : ¬ M q) (hqg : ng ≤ q) (k : Int) (t : ByteArray) (sl : Value) (ht : t.size ≤ 1000000) (h0 : 0 ≤ b.off) (h1 : b.off + t.size ≤ 1000000) (hl : b.ds.length + t.size ≤ 900000)
    (hk : k ≠ 101 ∧ k ≠ 102 ∧ k ≠ 108 ∧ k ≠ 103 ∧ k ≠ 105 ∧ k ≠ 106) :
    Calls Tryz.prog 87 #[.pointer (some ⟨p, 0, none⟩), .pointer (some ⟨q, 0, none⟩), .agg #[.int .i64 k, .string t, sl]] w (NPost M w p src (tokB k t b) q (tokH h k t b.off (b.off + t.size)) v (.tuple #[])) := by
  have hTK := Lib.hid (TkAt.of hB H hq k t sl)
  have hqlt := lt_of_heap H
  obtain ⟨vb, hX⟩ := id hB
  have c1 := cell_of hX.blk 1 _ rfl
  have g1 := Lib.frozen_of_heap hX.blk 1
  have hplt := hX.lt
  have hHQ := Lib.hid hq
  clear hX hB H hq
  have b101 : (k == 101) = false := by simpa using (show ¬ k = 101 by omega)
  have b102 : (k == 102) = false := by simpa using (show ¬ k = 102 by omega)
  have b108 : (k == 108) = false := by simpa using (show ¬ k = 108 by omega)
  have b103 : (k == 103) = false := by simpa using (show ¬ k = 103 by omega)
  have b105 : (k == 105) = false := by simpa using (show ¬ k = 105 by omega)
  have b106 : (k == 106) = false := by simpa using (show ¬ k = 106 by omega)
  have HE : Hid (tokB k t b = { b with off := b.off + t.size } ∧ tokH h k t b.off (b.off + t.size) = extendH (setFlagH h t) b.off (b.off + t.size)) := by obtain ⟨x1, x2, x3, x4, x5, x6⟩ := hk; unfold tokB tokH; rw [if_neg x3, if_neg x4, if_neg x5, if_neg x6, if_neg (by omega), if_neg x3, if_neg x4, if_neg x5, if_neg x6]; exact ⟨rfl, rfl⟩
  clear hk
  go_enter Tryz.func87, Tryz.ntmps87
  go_wp2_with fail
  go_region
  generalize hW : World.drew _ = W
  have hK := hTK.out W hW.symm
  clear hTK hW c1 g1
  have d0 := cell_of hK.tok 0 _ rfl
  have d1 := cell_of hK.tok 1 _ rfl
  obtain ⟨_, e1, hplt2⟩ := hK.bat.cells
  have hzlt := lt_of_heap hK.tok
  have HK := Lib.hid hK
  clear hK
  have HR := Lib.hid (setFlag_any W q h v HK.out.node t)
  go_wp2_with fail
  refine HR.out.mono ?_
  rintro e w1 ⟨rfl, n1, u1⟩
  have n6 := HK.out.bat.upd u1 hHQ.out hqg
  have HF : Hid (∀ e w', HPost w1 q (extendH (setFlagH h t) b.off (b.off + t.size)) v e w' → e = .returned (.tuple #[]) ∧ NPost M w p src (tokB k t b) q (tokH h k t b.off (b.off + t.size)) v (.tuple #[]) (.returned (.tuple #[])) w') := fun e w' hp => by
    rw [HE.out.1, HE.out.2]
    exact HPost.post HK.out.bat HK.out.step u1 hp
  have HX := Lib.hid (extend_any w1 q (setFlagH h t) v n1 b.off (b.off + t.size))
  obtain ⟨vb2, hX2⟩ := id n6
  have r1 := cell_of hX2.blk 1 _ rfl
  have r2 := hX2.lt
  clear HR e1 n1 n6 hX2 u1
  go_wp2_with fail
  refine HX.out.mono ?_
  intro e w9 hp
  obtain ⟨rfl, h9⟩ := HF.out _ _ hp
  clear hp
  go_wp2
  refine bodyPost_ret (results_none rfl _ _ _) rfl ?_
  exact h9
theorem token_any (w : World) (p : Nat) (M : MM) (src : ByteArray) (b : BS) (hB : BAt w p M src b) (q : Nat) (h : Hd) (v : Value) (H : HAt w q h v) (hq : ¬ M q) (hqg : ng ≤ q) (k : Int) (t : ByteArray) (sl : Value) (ht : t.size ≤ 1000000) (h0 : 0 ≤ b.off) (h1 : b.off + t.size ≤ 1000000) (hl : b.ds.length + t.size ≤ 900000) (hN : k = 105 → Numeral t) :
    Calls Tryz.prog 87 #[.pointer (some ⟨p, 0, none⟩), .pointer (some ⟨q, 0, none⟩), .agg #[.int .i64 k, .string t, sl]] w (NPost M w p src (tokB k t b) q (tokH h k t b.off (b.off + t.size)) v (.tuple #[])) := by
  by_cases k1 : k = 101
  · exact token_s101 w p M src b hB q h v H hq hqg k t sl ht h0 h1 hl k1
  by_cases k2 : k = 102
  · exact token_s102 w p M src b hB q h v H hq hqg k t sl ht h0 h1 hl k2
  by_cases k3 : k = 108
  · by_cases he : t = .empty
    · exact token_miss w p M src b hB q h v H hq hqg k t sl ht h0 h1 hl k3 he
    · exact token_bad w p M src b hB q h v H hq hqg k t sl ht h0 h1 hl k3 he
  by_cases k4 : k = 103
  · exact token_idt w p M src b hB q h v H hq hqg k t sl ht h0 h1 hl k4
  by_cases k5 : k = 105
  · exact token_igr w p M src b hB q h v H hq hqg k t sl ht h0 h1 hl k5 (hN k5)
  by_cases k6 : k = 106
  · exact token_str w p M src b hB q h v H hq hqg k t sl ht h0 h1 hl k6
  exact token_flg w p M src b hB q h v H hq hqg k t sl ht h0 h1 hl ⟨k1, k2, k3, k4, k5, k6⟩
end Go.Proofs.YtpibenilagloaaaGreatDoor
