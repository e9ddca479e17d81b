import Derived.Test.YtpibenilagloaaaGreatDoorMzax
import Derived.Laws.Rows
import Derived.Test.YtpibenilagloaaaGreatDoorMzau
import Derived.Shelf.SlSortCmp.WholeK
import Derived.Test.YtpibenilagloaaaGreatDoorMzaw
import Derived.Laws.StructEq
import Derived.Laws.IdiomCopy
namespace Go.Proofs.YtpibenilagloaaaGreatDoor
open Go.RowKit
set_option linter.unusedVariables false
theorem heap_two (w : World) (o1 o2 : Obj) : ((w.alloc o1).alloc o2).heap[w.heap.size + 1]? = some o2 := by
  have := heap_alloc_new (w.alloc o1) o2
  rw [World.size_alloc] at this
  exact this
theorem Step.upd {M M' : MM} {w w1 w2 : World} {q : Nat} (h : Step M w M' w1) (hu : Upd q w1 w2) (hq : w.heap.size ≤ q) : Step M w M' w2 :=
  ⟨hu.os.trans h.os, hu.tape.trans h.tape, hu.output.trans h.output, by rw [hu.size]; exact h.size, fun b hb hM => (hu.block b (by omega)).trans (h.block b hb hM), h.own, h.hx⟩
theorem Upd.drew {q : Nat} {w w' : World} (h : Upd q w w') : Upd q w w'.drew := ⟨h.os, h.tape, h.output, h.size, h.block⟩
theorem heap7_0 {w : World} {g : Nat} {c0 c1 c2 c3 c4 c5 c6 : Value} {t : TypeId} {fr : Nat × Nat} (h : w.heap[g]? = some (.cells #[c0, c1, c2, c3, c4, c5, c6] t fr)) (v : Value) : (w.setCell ⟨g, 0, none⟩ v).heap[g]? = some (.cells #[v, c1, c2, c3, c4, c5, c6] t fr) := heap_set h 0 v
theorem heap7_1 {w : World} {g : Nat} {c0 c1 c2 c3 c4 c5 c6 : Value} {t : TypeId} {fr : Nat × Nat} (h : w.heap[g]? = some (.cells #[c0, c1, c2, c3, c4, c5, c6] t fr)) (v : Value) : (w.setCell ⟨g, 1, none⟩ v).heap[g]? = some (.cells #[c0, v, c2, c3, c4, c5, c6] t fr) := heap_set h 1 v
theorem heap7_2 {w : World} {g : Nat} {c0 c1 c2 c3 c4 c5 c6 : Value} {t : TypeId} {fr : Nat × Nat} (h : w.heap[g]? = some (.cells #[c0, c1, c2, c3, c4, c5, c6] t fr)) (v : Value) : (w.setCell ⟨g, 2, none⟩ v).heap[g]? = some (.cells #[c0, c1, v, c3, c4, c5, c6] t fr) := heap_set h 2 v
theorem heap7_3 {w : World} {g : Nat} {c0 c1 c2 c3 c4 c5 c6 : Value} {t : TypeId} {fr : Nat × Nat} (h : w.heap[g]? = some (.cells #[c0, c1, c2, c3, c4, c5, c6] t fr)) (v : Value) : (w.setCell ⟨g, 3, none⟩ v).heap[g]? = some (.cells #[c0, c1, c2, v, c4, c5, c6] t fr) := heap_set h 3 v
theorem heap7_4 {w : World} {g : Nat} {c0 c1 c2 c3 c4 c5 c6 : Value} {t : TypeId} {fr : Nat × Nat} (h : w.heap[g]? = some (.cells #[c0, c1, c2, c3, c4, c5, c6] t fr)) (v : Value) : (w.setCell ⟨g, 4, none⟩ v).heap[g]? = some (.cells #[c0, c1, c2, c3, v, c5, c6] t fr) := heap_set h 4 v
theorem heap7_5 {w : World} {g : Nat} {c0 c1 c2 c3 c4 c5 c6 : Value} {t : TypeId} {fr : Nat × Nat} (h : w.heap[g]? = some (.cells #[c0, c1, c2, c3, c4, c5, c6] t fr)) (v : Value) : (w.setCell ⟨g, 5, none⟩ v).heap[g]? = some (.cells #[c0, c1, c2, c3, c4, v, c6] t fr) := heap_set h 5 v
theorem heap7_6 {w : World} {g : Nat} {c0 c1 c2 c3 c4 c5 c6 : Value} {t : TypeId} {fr : Nat × Nat} (h : w.heap[g]? = some (.cells #[c0, c1, c2, c3, c4, c5, c6] t fr)) (v : Value) : (w.setCell ⟨g, 6, none⟩ v).heap[g]? = some (.cells #[c0, c1, c2, c3, c4, c5, v] t fr) := heap_set h 6 v
theorem heap_set7 {w : World} {g : Nat} {c0 c1 c2 c3 c4 c5 c6 : Value} {t : TypeId} {fr : Nat × Nat} (h : w.heap[g]? = some (.cells #[c0, c1, c2, c3, c4, c5, c6] t fr)) (v0 v1 v2 v3 v4 v5 v6 : Value) (W : World) (hW : (((((((w.setCell ⟨g, 0, none⟩ v0).setCell ⟨g, 1, none⟩ v1).setCell ⟨g, 2, none⟩ v2).setCell ⟨g, 3, none⟩ v3).setCell ⟨g, 4, none⟩ v4).setCell ⟨g, 5, none⟩ v5).setCell ⟨g, 6, none⟩ v6).drew = W) :
    W.heap[g]? = some (.cells #[v0, v1, v2, v3, v4, v5, v6] t fr) ∧ Upd g w W := by
  have a0 := heap7_0 h v0
  have a1 := heap7_1 a0 v1
  have a2 := heap7_2 a1 v2
  have a3 := heap7_3 a2 v3
  have a4 := heap7_4 a3 v4
  have a5 := heap7_5 a4 v5
  have a6 := heap7_6 a5 v6
  have u := ((((((((Upd.refl g w).set 0 v0).set 1 v1).set 2 v2).set 3 v3).set 4 v4).set 5 v5).set 6 v6)
  rw [← hW]
  refine ⟨?_, u.drew⟩
  rw [heap_drew]
  exact a6
theorem heap_set7p {w : World} {g : Nat} {c0 c1 c2 c3 c4 c5 c6 : Value} {t : TypeId} {fr : Nat × Nat} (h : w.heap[g]? = some (.cells #[c0, c1, c2, c3, c4, c5, c6] t fr)) (v0 v1 v2 v3 v4 v5 v6 : Value) (W : World) (hW : (((((((w.setCell ⟨g, 0, none⟩ v0).setCell ⟨g, 1, none⟩ v1).setCell ⟨g, 2, none⟩ v2).setCell ⟨g, 3, none⟩ v3).setCell ⟨g, 4, none⟩ v4).setCell ⟨g, 5, none⟩ v5).setCell ⟨g, 6, none⟩ v6) = W) :
    W.heap[g]? = some (.cells #[v0, v1, v2, v3, v4, v5, v6] t fr) ∧ Upd g w W := by
  have a0 := heap7_0 h v0
  have a1 := heap7_1 a0 v1
  have a2 := heap7_2 a1 v2
  have a3 := heap7_3 a2 v3
  have a4 := heap7_4 a3 v4
  have a5 := heap7_5 a4 v5
  have a6 := heap7_6 a5 v6
  have u := ((((((((Upd.refl g w).set 0 v0).set 1 v1).set 2 v2).set 3 v3).set 4 v4).set 5 v5).set 6 v6)
  rw [← hW]
  exact ⟨a6, u⟩
theorem bpost_end {w w0 w1 : World} {p : Nat} {M M1 : MM} {src : ByteArray} {b b1 : BS} {vb r : Value} (hX : BAtX w p M src b vb) (hB : Below w.heap.size w w0) (h1 : BAt w1 p M1 src b1) (h2 : Step (Tight p vb M.x) w0 M1 w1) (hm : ∀ c, Tight p vb M.x c → c < w.heap.size) {q : Nat} (w2 : World) (hu : Upd q w1 w2) (hq : w.heap.size ≤ q) (hq2 : q < w0.heap.size) :
    BPost M w p src b1 r (.returned r) w2 :=
  ⟨rfl, M1, h1.upd hu (fun e => (h2.own q e).elim (fun e => by have := hm q e; omega) (fun e => by omega)) (Nat.le_trans hX.gl.big hq), Step.loose hX (((Step.of_below hB).trans h2).upd hu hq)⟩
theorem heap_one (w : World) (o1 o2 : Obj) : ((w.alloc o1).alloc o2).heap[w.heap.size]? = some o1 := by
  rw [heap_alloc_lt _ _ (by simp)]
  exact heap_alloc_new w o1
theorem heap_mid (w : World) (o1 o2 o3 : Obj) : (((w.alloc o1).alloc o2).alloc o3).drew.heap[w.heap.size + 1]? = some o2 := by
  show (((w.alloc o1).alloc o2).alloc o3).heap[w.heap.size + 1]? = some o2
  rw [heap_alloc_lt _ _ (by simp)]
  exact heap_two w o1 o2
set_option maxRecDepth 100000 in
set_option maxHeartbeats 1600000 in
theorem finish_same (w : World) (p : Nat) (M : MM) (src : ByteArray) (b : BS) (hB : BAt w p M src b) (h : Hd) (A : Option Addr) (m c : Nat) (h60 : h.k ≠ 60) (h46 : h.k ≠ 46) :
    Calls Tryz.prog 89 #[.pointer (some ⟨p, 0, none⟩), .agg #[.int .i64 h.k, .int .i64 h.v, .string h.t, .int .i64 h.s, .int .i64 h.e, .int .i64 h.nm, .slice A m c]] w fun e w' => e = .returned (.agg #[.int .i64 h.k, .int .i64 h.v, .string h.t, .int .i64 h.s, .int .i64 h.e, .int .i64 h.nm, .slice A m c]) ∧ Below w.heap.size w w' := by
  have k1 : (h.k == 60) = false := by simpa using h60
  have k2 : (h.k == 46) = false := by simpa using h46
  clear h60 h46 hB
  go_enter Tryz.func89, Tryz.ntmps89
  go_wp2
  refine bodyPost_ret (results_cell_row (P := Tryz.prog) (ty := 57) rfl _ _ (w.heap.size + 1) 57 _ _ _ rfl (heap_two _ _ _) Tryz.underlying57 rfl (by kernel_rfl)) rfl ?_
  exact ⟨rfl, ((Below.refl _ _).alloc (Nat.le_refl _) _).alloc (by simp) _⟩
-- an operand under the parentheses' own extent
set_option maxRecDepth 100000 in
set_option maxHeartbeats 1600000 in
theorem finish_paren (w : World) (p : Nat) (h g : Hd) (bk off m c m2 c2' : Nat) (A2 : Option Addr) (h60 : h.k = 60) (hm : 0 < m)
    (c0 : w.cell? ⟨bk, off, none⟩ = some (.int .i64 g.k)) (c1 : w.cell? ⟨bk, off + 1, none⟩ = some (.int .i64 g.v)) (c2 : w.cell? ⟨bk, off + 2, none⟩ = some (.string g.t)) (c3 : w.cell? ⟨bk, off + 3, none⟩ = some (.int .i64 g.s)) (c4 : w.cell? ⟨bk, off + 4, none⟩ = some (.int .i64 g.e)) (c5 : w.cell? ⟨bk, off + 5, none⟩ = some (.int .i64 g.nm)) (c6 : w.cell? ⟨bk, off + 6, none⟩ = some (.slice A2 m2 c2')) (hlt : bk < w.heap.size) :
    Calls Tryz.prog 89 #[.pointer (some ⟨p, 0, none⟩), .agg #[.int .i64 h.k, .int .i64 h.v, .string h.t, .int .i64 h.s, .int .i64 h.e, .int .i64 h.nm, .slice (some ⟨bk, off, none⟩) m c]] w fun e w' => e = .returned (.agg #[.int .i64 g.k, .int .i64 g.v, .string g.t, .int .i64 h.s, .int .i64 h.e, .int .i64 g.nm, .slice A2 m2 c2']) ∧ Below w.heap.size w w' := by
  have k1 : (h.k == 60) = true := by simpa using h60
  have hmI : (0 : Int) < m := by omega
  clear h60
  go_enter Tryz.func89, Tryz.ntmps89
  go_wp2_with fail
  go_region
  go_wp2
  refine bodyPost_ret (results_cell_row (P := Tryz.prog) (ty := 57) rfl _ _ (w.heap.size + 1) 57 _ _ _ rfl (heap_mid _ _ _ _) Tryz.underlying57 rfl (by kernel_rfl)) rfl ?_
  exact ⟨rfl, ((((Below.refl _ _).alloc (Nat.le_refl _) _).alloc (by simp) _).alloc (by simp; omega) _).drew⟩
set_option maxRecDepth 100000 in
set_option maxHeartbeats 1600000 in
theorem finish_error (w : World) (p : Nat) (M : MM) (src : ByteArray) (b : BS) (hB : BAt w p M src b) (h : Hd) (A : Option Addr) (m c : Nat) (h46 : h.k = 46) (hs : 0 ≤ h.s) (he : h.s ≤ h.e) (hsz : h.e ≤ src.size) (hl : b.ds.length ≤ 1000000) :
    Calls Tryz.prog 89 #[.pointer (some ⟨p, 0, none⟩), .agg #[.int .i64 h.k, .int .i64 h.v, .string h.t, .int .i64 h.s, .int .i64 h.e, .int .i64 h.nm, .slice A m c]] w
      (BPost M w p src (b.rep (if h.s = h.e then 1 else 2) h.s h.e) (.agg #[.int .i64 46, .int .i64 0, .string (src.extract h.s.toNat h.e.toNat), .int .i64 h.s, .int .i64 h.e, .int .i64 (-1), .slice none 0 0])) := by
  have k1 : (h.k == 46) = true := by simpa using h46
  have k2 : (h.k == 60) = false := by rw [h46]; rfl
  have hb : Below w.heap.size w ((w.alloc (.cells #[.int .i64 h.k, .int .i64 h.v, .string h.t, .int .i64 h.s, .int .i64 h.e, .int .i64 h.nm, .slice A m c] 57)).alloc (.cells #[.int .i64 0, .int .i64 0, .string ⟨#[]⟩, .int .i64 0, .int .i64 0, .int .i64 0, .slice none 0 0] 57)) := ((Below.refl _ _).alloc (Nat.le_refl _) _).alloc (by simp) _
  obtain ⟨vb, hX⟩ := hB
  have hmw : ∀ c, Tight p vb M.x c → c < w.heap.size := fun c hc => hc.elim (fun e => e ▸ hX.lt) (fun e => (hX.row.lt _ e).2)
  have hR := fun code => report_any _ p _ src b (BAt.below ⟨vb, hX.tight⟩ hb) code h.s h.e hl
  have hF : ∀ code e w1, BPost (Tight p vb M.x) ((w.alloc (.cells #[.int .i64 h.k, .int .i64 h.v, .string h.t, .int .i64 h.s, .int .i64 h.e, .int .i64 h.nm, .slice A m c] 57)).alloc (.cells #[.int .i64 0, .int .i64 0, .string ⟨#[]⟩, .int .i64 0, .int .i64 0, .int .i64 0, .slice none 0 0] 57)) p src (b.rep code h.s h.e) (.tuple #[]) e w1 → e = .returned (.tuple #[]) ∧ ∃ M1, BAt w1 p M1 src (b.rep code h.s h.e) ∧ Step (Tight p vb M.x) ((w.alloc (.cells #[.int .i64 h.k, .int .i64 h.v, .string h.t, .int .i64 h.s, .int .i64 h.e, .int .i64 h.nm, .slice A m c] 57)).alloc (.cells #[.int .i64 0, .int .i64 0, .string ⟨#[]⟩, .int .i64 0, .int .i64 0, .int .i64 0, .slice none 0 0] 57)) M1 w1 := fun code e w1 hp => hp
  have hw0 := heap_one w (.cells #[.int .i64 h.k, .int .i64 h.v, .string h.t, .int .i64 h.s, .int .i64 h.e, .int .i64 h.nm, .slice A m c] 57) (.cells #[.int .i64 0, .int .i64 0, .string ⟨#[]⟩, .int .i64 0, .int .i64 0, .int .i64 0, .slice none 0 0] 57)
  have hw1 := heap_two w (.cells #[.int .i64 h.k, .int .i64 h.v, .string h.t, .int .i64 h.s, .int .i64 h.e, .int .i64 h.nm, .slice A m c] 57) (.cells #[.int .i64 0, .int .i64 0, .string ⟨#[]⟩, .int .i64 0, .int .i64 0, .int .i64 0, .slice none 0 0] 57)
  have HR := Lib.hid hR
  have HB := Lib.hid hb
  have HX := Lib.hid hX
  have HF := Lib.hid hF
  have HM := Lib.hid hmw
  have HW0 := Lib.hid hw0
  have HW1 := Lib.hid hw1
  clear h46 hR hb hX hF hmw hw0 hw1
  obtain ⟨code, hcode⟩ : ∃ code : Int, (if h.s = h.e then (1 : Int) else 2) = code := ⟨_, rfl⟩
  rw [hcode]
  by_cases hse : h.s = h.e
  · have k3 : (h.s == h.e) = true := by simpa using hse
    rw [if_pos hse] at hcode
    have HC := Lib.hid hcode
    clear hse hcode
    go_enter Tryz.func89, Tryz.ntmps89
    go_wp2_with fail
    refine (HR.out 1).mono ?_
    intro e w1 hp
    obtain ⟨rfl, M1, h1, h2⟩ := HF.out _ e w1 hp
    clear hp
    have z0 := (h2.block _ (by simp; omega) (fun e => Nat.lt_irrefl _ (HM.out _ e))).trans HW0.out
    have z1 := (h2.block _ (by simp) (fun e => by have := HM.out _ e; omega)).trans HW1.out
    obtain ⟨e0, e1, hplt⟩ := h1.cells
    have x3 := cell_of z0 3 _ rfl
    have x4 := cell_of z0 4 _ rfl
    have zl0 := lt_of_heap z0
    have zl1 := lt_of_heap z1
    have r0 := cell_of z1 0 _ rfl
    have r1 := cell_of z1 1 _ rfl
    have r2 := cell_of z1 2 _ rfl
    have r3 := cell_of z1 3 _ rfl
    have r4 := cell_of z1 4 _ rfl
    have r5 := cell_of z1 5 _ rfl
    have r6 := cell_of z1 6 _ rfl
    have f0 := Lib.frozen_of_heap z1 0
    have f1 := Lib.frozen_of_heap z1 1
    have f2 := Lib.frozen_of_heap z1 2
    have f3 := Lib.frozen_of_heap z1 3
    have f4 := Lib.frozen_of_heap z1 4
    have f5 := Lib.frozen_of_heap z1 5
    have f6 := Lib.frozen_of_heap z1 6
    have HZ := Lib.hid (show w.heap.size + 1 < ((w.alloc (.cells #[.int .i64 h.k, .int .i64 h.v, .string h.t, .int .i64 h.s, .int .i64 h.e, .int .i64 h.nm, .slice A m c] 57)).alloc (.cells #[.int .i64 0, .int .i64 0, .string ⟨#[]⟩, .int .i64 0, .int .i64 0, .int .i64 0, .slice none 0 0] 57)).heap.size by simp)
    have Z1 := Lib.hid z1
    have H1 := Lib.hid h1
    have H2 := Lib.hid h2
    clear z0 z1 h1 h2
    go_wp2_with fail
    go_region
    go_wp2
    generalize hWf : World.drew _ = Wf
    obtain ⟨hz, hu⟩ := heap_set7 Z1.out _ _ _ _ _ _ _ Wf hWf
    clear hWf
    refine bodyPost_ret (results_cell_row (P := Tryz.prog) (ty := 57) rfl _ _ (w.heap.size + 1) 57 _ _ _ rfl hz Tryz.underlying57 rfl (by kernel_rfl)) rfl ?_
    rw [← HC.out]
    exact bpost_end HX.out HB.out H1.out H2.out HM.out Wf hu (by omega) HZ.out
  · have k3 : (h.s == h.e) = false := by simpa using hse
    rw [if_neg hse] at hcode
    have HC := Lib.hid hcode
    clear hse hcode
    go_enter Tryz.func89, Tryz.ntmps89
    go_wp2_with fail
    refine (HR.out 2).mono ?_
    intro e w1 hp
    obtain ⟨rfl, M1, h1, h2⟩ := HF.out _ e w1 hp
    clear hp
    have z0 := (h2.block _ (by simp; omega) (fun e => Nat.lt_irrefl _ (HM.out _ e))).trans HW0.out
    have z1 := (h2.block _ (by simp) (fun e => by have := HM.out _ e; omega)).trans HW1.out
    obtain ⟨e0, e1, hplt⟩ := h1.cells
    have x3 := cell_of z0 3 _ rfl
    have x4 := cell_of z0 4 _ rfl
    have zl0 := lt_of_heap z0
    have zl1 := lt_of_heap z1
    have r0 := cell_of z1 0 _ rfl
    have r1 := cell_of z1 1 _ rfl
    have r2 := cell_of z1 2 _ rfl
    have r3 := cell_of z1 3 _ rfl
    have r4 := cell_of z1 4 _ rfl
    have r5 := cell_of z1 5 _ rfl
    have r6 := cell_of z1 6 _ rfl
    have f0 := Lib.frozen_of_heap z1 0
    have f1 := Lib.frozen_of_heap z1 1
    have f2 := Lib.frozen_of_heap z1 2
    have f3 := Lib.frozen_of_heap z1 3
    have f4 := Lib.frozen_of_heap z1 4
    have f5 := Lib.frozen_of_heap z1 5
    have f6 := Lib.frozen_of_heap z1 6
    have HZ := Lib.hid (show w.heap.size + 1 < ((w.alloc (.cells #[.int .i64 h.k, .int .i64 h.v, .string h.t, .int .i64 h.s, .int .i64 h.e, .int .i64 h.nm, .slice A m c] 57)).alloc (.cells #[.int .i64 0, .int .i64 0, .string ⟨#[]⟩, .int .i64 0, .int .i64 0, .int .i64 0, .slice none 0 0] 57)).heap.size by simp)
    have Z1 := Lib.hid z1
    have H1 := Lib.hid h1
    have H2 := Lib.hid h2
    clear z0 z1 h1 h2
    go_wp2_with fail
    go_region
    go_wp2
    generalize hWf : World.drew _ = Wf
    obtain ⟨hz, hu⟩ := heap_set7 Z1.out _ _ _ _ _ _ _ Wf hWf
    clear hWf
    refine bodyPost_ret (results_cell_row (P := Tryz.prog) (ty := 57) rfl _ _ (w.heap.size + 1) 57 _ _ _ rfl hz Tryz.underlying57 rfl (by kernel_rfl)) rfl ?_
    rw [← HC.out]
    exact bpost_end HX.out HB.out H1.out H2.out HM.out Wf hu (by omega) HZ.out
end Go.Proofs.YtpibenilagloaaaGreatDoor

namespace Go.Proofs.YtpibenilagloaaaGreatDoor
open Go.RowKit
open Go.Sort (grow grow_grow alloc_eq_grow)
set_option linter.unusedVariables false
def cmpDg (a b : Dg) : Int := orL [cmpI a.mod b.mod, cmpI a.s b.s, cmpI a.e b.e, cmpI a.code b.code, cmpB a.nm b.nm]
set_option maxRecDepth 100000 in
set_option maxHeartbeats 3200000 in
theorem cmpDg_any (x y : Dg) (w : World) :
    Calls Tryz.prog 53 #[.agg x.cells.toArray, .agg y.cells.toArray] w fun e w' => e = .returned (.int .i64 (cmpDg x y)) ∧ ∃ q os', w' = grow (w.drewN q) os' := by
  obtain ⟨x0, x1, x2, x3, x4⟩ := x
  obtain ⟨y0, y1, y2, y3, y4⟩ := y
  have HC := Lib.hid (show cmpDg ⟨x0, x1, x2, x3, x4⟩ ⟨y0, y1, y2, y3, y4⟩ = orL [cmpI x1 y1, cmpI x2 y2, cmpI x3 y3, cmpI x0 y0, cmpB x4 y4] from rfl)
  show Calls _ _ #[.agg #[.int .i64 x0, .int .i64 x1, .int .i64 x2, .int .i64 x3, .string x4], .agg #[.int .i64 y0, .int .i64 y1, .int .i64 y2, .int .i64 y3, .string y4]] _ _
  go_enter Tryz.func53, Tryz.ntmps53
  go_wp2_with fail
  have hx := heap_one w (.cells #[.int .i64 x0, .int .i64 x1, .int .i64 x2, .int .i64 x3, .string x4] 99) (.cells #[.int .i64 y0, .int .i64 y1, .int .i64 y2, .int .i64 y3, .string y4] 99)
  have hy := heap_two w (.cells #[.int .i64 x0, .int .i64 x1, .int .i64 x2, .int .i64 x3, .string x4] 99) (.cells #[.int .i64 y0, .int .i64 y1, .int .i64 y2, .int .i64 y3, .string y4] 99)
  generalize hW : (w.alloc (.cells #[.int .i64 x0, .int .i64 x1, .int .i64 x2, .int .i64 x3, .string x4] 99)).alloc (.cells #[.int .i64 y0, .int .i64 y1, .int .i64 y2, .int .i64 y3, .string y4] 99) = W at *
  have HW := Lib.hid hW
  have xc0 := cell_of hx 0 _ rfl
  have xc1 := cell_of hx 1 _ rfl
  have xc2 := cell_of hx 2 _ rfl
  have xc3 := cell_of hx 3 _ rfl
  have xc4 := cell_of hx 4 _ rfl
  have yc0 := cell_of hy 0 _ rfl
  have yc1 := cell_of hy 1 _ rfl
  have yc2 := cell_of hy 2 _ rfl
  have yc3 := cell_of hy 3 _ rfl
  have yc4 := cell_of hy 4 _ rfl
  have hl1 := lt_of_heap hx
  have hl2 := lt_of_heap hy
  clear hx hy hW
  refine wp_region_still_tail 25 (by kernel_rfl) (by kernel_rfl) ?_
  simp only [List.take_succ_cons, List.take_zero, List.drop_succ_cons, List.drop_zero]
  repeat still_step
  still_call (cmp_any _ _ _)
  repeat still_step
  still_call (cmp_any _ _ _)
  repeat still_step
  still_call (cmp_any _ _ _)
  repeat still_step
  still_call (cmp_any _ _ _)
  repeat still_step
  still_call (cmpS_any _ _ _)
  repeat still_step
  refine wpStill_nil ?_
  generalize cmpI x1 y1 = c1 at *
  generalize cmpI x2 y2 = c2 at *
  generalize cmpI x3 y3 = c3 at *
  generalize cmpI x0 y0 = c4 at *
  generalize cmpB x4 y4 = c5 at *
  go_wp2_with fail
  refine (or_any (some ⟨W.heap.size, 0, none⟩) 5 [c1, c2, c3, c4, c5] _ (fun _ => ⟨W.heap.size, 0, rfl, by simp, fun k z hz => ?_⟩) (by unfold maxLen; simp)).mono ?_
  · rw [show ∀ (X : World) (a : Addr), X.drew.cell? a = X.cell? a from fun _ _ => rfl, Nat.zero_add, Lib.cell_of_heap (heap_alloc_new W _)]
    match k, hz with
    | 0, hz => cases hz; rfl
    | 1, hz => cases hz; rfl
    | 2, hz => cases hz; rfl
    | 3, hz => cases hz; rfl
    | 4, hz => cases hz; rfl
    | k + 5, hz => simp at hz
  · rintro e w1 ⟨rfl, rfl⟩
    go_wp2_with fail
    go_ret
    refine ⟨by rw [HC.out]; rfl, 1, #[.cells #[.int .i64 x0, .int .i64 x1, .int .i64 x2, .int .i64 x3, .string x4] 99] ++ #[.cells #[.int .i64 y0, .int .i64 y1, .int .i64 y2, .int .i64 y3, .string y4] 99] ++ #[.cells #[.int .i64 c1, .int .i64 c2, .int .i64 c3, .int .i64 c4, .int .i64 c5] 3], ?_⟩
    rw [← HW.out, alloc_eq_grow, alloc_eq_grow, alloc_eq_grow, grow_grow, grow_grow]
    rfl
end Go.Proofs.YtpibenilagloaaaGreatDoor

namespace Go.Proofs.YtpibenilagloaaaGreatDoor
open Go.RowKit
set_option linter.unusedVariables false
def compactFrom {α : Type} [DecidableEq α] (p : α) : List α → List α
  | [] => []
  | y :: r => if y = p then compactFrom p r else y :: compactFrom y r
def compactL {α : Type} [DecidableEq α] : List α → List α
  | [] => []
  | x :: r => x :: compactFrom x r
theorem compactFrom_snoc {α : Type} [DecidableEq α] (y : α) : ∀ (l : List α) (p : α), compactFrom p (l ++ [y]) = compactFrom p l ++ (if y = (p :: l).getLast (by simp) then [] else [y])
  | [], p => by
    by_cases h : y = p <;> simp [compactFrom, h]
  | z :: r, p => by
    simp only [List.cons_append, compactFrom]
    by_cases h : z = p
    · subst h
      rw [if_pos rfl, if_pos rfl, compactFrom_snoc y r z]
      simp [List.getLast_cons]
    · rw [if_neg h, if_neg h, compactFrom_snoc y r z]
      simp [List.getLast_cons]
theorem compactL_snoc {α : Type} [DecidableEq α] (l : List α) (y : α) (h : l ≠ []) : compactL (l ++ [y]) = compactL l ++ (if y = l.getLast h then [] else [y]) := by
  cases l with
  | nil => exact absurd rfl h
  | cons x r =>
    simp only [List.cons_append, compactL]
    rw [compactFrom_snoc]
theorem compactL_take {α : Type} [DecidableEq α] (l : List α) (k : Nat) (h0 : 0 < k) (h : k < l.length) : compactL (l.take (k + 1)) = compactL (l.take k) ++ (if l[k] = l[k - 1] then [] else [l[k]]) := by
  have hne : l.take k ≠ [] := by intro e; have := congrArg List.length e; rw [List.length_take] at this; simp only [List.length_nil] at this; omega
  rw [List.take_succ_eq_append_getElem h, compactL_snoc _ _ hne]
  have : (l.take k).getLast hne = l[k - 1] := by
    rw [List.getLast_eq_getElem]
    simp only [List.getElem_take, List.length_take]
    congr 1
    omega
  rw [this]
theorem compactL_take2 {α : Type} [DecidableEq α] (l : List α) (k : Nat) (x y : α) (hx : l[k + 1]? = some x) (hy : l[k]? = some y) : compactL (l.take (k + 1 + 1)) = compactL (l.take (k + 1)) ++ (if x = y then [] else [x]) := by
  obtain ⟨h1, rfl⟩ := List.getElem?_eq_some_iff.1 hx
  obtain ⟨h2, rfl⟩ := List.getElem?_eq_some_iff.1 hy
  exact compactL_take l (k + 1) (by omega) h1
theorem dg_equal (x0 x1 x2 x3 y0 y1 y2 y3 : Int) (x4 y4 : ByteArray) (w : World) : (Op.equalIn 10000 99 (.agg #[.int .i64 x0, .int .i64 x1, .int .i64 x2, .int .i64 x3, .string x4]) (.agg #[.int .i64 y0, .int .i64 y1, .int .i64 y2, .int .i64 y3, .string y4])).run Tryz.prog w = .ok (decide ((⟨x0, x1, x2, x3, x4⟩ : Dg) = ⟨y0, y1, y2, y3, y4⟩)) w := by
  have hS : Tryz.prog.underlying 99 = some (.struct (Tryz.prog.fieldsOf 99)) := by kernel_rfl
  have hp : Tryz.prog.stoodInHeld 99 = false := by kernel_rfl
  rw [show (10000 : Nat) = 9999 + 1 from rfl, run_equalIn_agg w 9999 99 _ _ hS hp]
  simp only [Program.fieldsOf, Tryz.underlying99]
  go_simp
  have e4 : decide (x4 = y4) = decide (x4.toList = y4.toList) := by
    rw [Bool.eq_iff_iff]
    simp only [decide_eq_true_eq]
    exact ⟨fun h => by rw [h], fun h => by
      rw [ByteArray.toList_eq, ByteArray.toList_eq] at h
      cases x4; cases y4
      simp_all⟩
  rw [e4]
  by_cases h0 : x0 = y0 <;> by_cases h1 : x1 = y1 <;> by_cases h2 : x2 = y2 <;> by_cases h3 : x3 = y3 <;> by_cases h5 : x4.toList = y4.toList <;> simp [h0, h1, h2, h3, h5]
theorem dg_eq (x0 x1 x2 x3 y0 y1 y2 y3 : Int) (x4 y4 : ByteArray) (w : World) : (binOp .eql 99 (.agg #[.int .i64 x0, .int .i64 x1, .int .i64 x2, .int .i64 x3, .string x4]) (.agg #[.int .i64 y0, .int .i64 y1, .int .i64 y2, .int .i64 y3, .string y4])).run Tryz.prog w = .ok (.bool (decide ((⟨x0, x1, x2, x3, x4⟩ : Dg) = ⟨y0, y1, y2, y3, y4⟩))) w := by
  rw [run_eql_struct, dg_equal]; rfl
theorem dg_neq (x0 x1 x2 x3 y0 y1 y2 y3 : Int) (x4 y4 : ByteArray) (w : World) : (binOp .neq 99 (.agg #[.int .i64 x0, .int .i64 x1, .int .i64 x2, .int .i64 x3, .string x4]) (.agg #[.int .i64 y0, .int .i64 y1, .int .i64 y2, .int .i64 y3, .string y4])).run Tryz.prog w = .ok (.bool (!decide ((⟨x0, x1, x2, x3, x4⟩ : Dg) = ⟨y0, y1, y2, y3, y4⟩))) w := by
  rw [run_neq_struct, dg_equal]; rfl
theorem clear_dg (w : World) (g o n c : Nat) (hc : ∀ j, j < n * 5 → (w.cell? ⟨g, o + j, none⟩).isSome = true) (hf : ∀ j, w.frozen? ⟨g, j, none⟩ = false) :
    ∃ L : List Value, ∀ ty : TypeId, (Builtin.clear_ #[58] ty #[.slice (some ⟨g, o, none⟩) n c]).run Tryz.prog w = .ok (.tuple #[]) (w.setCells g o L) := by
  cases n with
  | zero => exact ⟨[], fun ty => by simp [Builtin.clear_, run_underlying Tryz.underlying58]; rfl⟩
  | succ m =>
    have hv : ∀ w, (zeroValue 99).run Tryz.prog w = .ok (.agg #[.int .i64 0, .int .i64 0, .int .i64 0, .int .i64 0, .string .empty]) w := Tryz.zeroValue99
    generalize hL : (Builtin.zeroCells (Value.agg #[.int .i64 0, .int .i64 0, .int .i64 0, .int .i64 0, .string .empty]).cells (m + 1)).toList = L
    have hl : L.length = (m + 1) * 5 := by
      rw [← hL]
      simp [Builtin.zeroCells, Value.cells]
    have h1 : ∀ v ∈ L, v.oneCell' = true := by
      rw [← hL]
      intro v hv
      simp [Builtin.zeroCells, Value.cells] at hv
      obtain ⟨a, _, rfl⟩ := hv
      obtain h | h | h | h | h : a % 5 = 0 ∨ a % 5 = 1 ∨ a % 5 = 2 ∨ a % 5 = 3 ∨ a % 5 = 4 := by omega
      all_goals rw [h]; rfl
    have hst := run_storeCells_cells (P := Tryz.prog) g o L 0 w (by rw [hl]; simpa using hc) (fun j _ => hf _) h1
    simp only [Nat.add_zero] at hst
    refine ⟨L, fun ty => ?_⟩
    simp [Builtin.clear_, run_underlying Tryz.underlying58, hv, hL, hst]
theorem Upd.setCells {g : Nat} {w : World} : ∀ (L : List Value) (o : Nat) {w1 : World}, Upd g w w1 → Upd g w (w1.setCells g o L)
  | [], o, w1, h => h
  | v :: r, o, w1, h => by
    unfold World.setCells
    exact Upd.setCells r (o + 1) (h.set o v)
theorem flat_set5 (xs : List Dg) (k : Nat) (d : Dg) (h : k < xs.length) :
    ((((((xs.flatMap Dg.cells).set (k * 5) (.int .i64 d.code)).set (k * 5 + 1) (.int .i64 d.mod)).set (k * 5 + 2) (.int .i64 d.s)).set (k * 5 + 3) (.int .i64 d.e)).set (k * 5 + 4) (.string d.nm)) = (xs.set k d).flatMap Dg.cells := by
  induction xs generalizing k with
  | nil => simp at h
  | cons x r ih =>
    cases k with
    | zero => simp [Dg.cells]
    | succ k =>
      have := ih k (by simpa using h)
      rw [List.set_cons_succ, List.flatMap_cons, List.flatMap_cons, ← this]
      have e : ∀ j v, (x.cells ++ r.flatMap Dg.cells).set ((k + 1) * 5 + j) v = x.cells ++ (r.flatMap Dg.cells).set (k * 5 + j) v := fun j v => by
        rw [List.set_append_right _ _ (by simp [Dg.cells]; omega)]
        congr 2
        simp [Dg.cells]; omega
      have e0 := fun (l : List Value) v => (fun (l : List Value) => (by
        rw [List.set_append_right _ _ (by simp [Dg.cells]; omega)]
        congr 2
        simp [Dg.cells]; omega : (x.cells ++ l).set ((k + 1) * 5) v = x.cells ++ l.set (k * 5) v)) l
      have e' : ∀ (l : List Value) j v, (x.cells ++ l).set ((k + 1) * 5 + j) v = x.cells ++ l.set (k * 5 + j) v := fun l j v => by
        rw [List.set_append_right _ _ (by simp [Dg.cells]; omega)]
        congr 2
        simp [Dg.cells]; omega
      rw [e0, e', e', e', e']
end Go.Proofs.YtpibenilagloaaaGreatDoor
