import Derived.Test.YtpibenilagloaaaGreatDoorMzaz
import Derived.Test.YtpibenilagloaaaGreatDoorMzbb
import Derived.Test.YtpibenilagloaaaGreatDoorMzbc
import Derived.Test.YtpibenilagloaaaGreatDoorMzbd
import Derived.Test.YtpibenilagloaaaGreatDoorMzau
import Derived.Test.YtpibenilagloaaaGreatDoorMzag
namespace Go.Proofs.YtpibenilagloaaaGreatDoor
open Go.RowKit
set_option linter.unusedVariables false
structure Own1 (v : Value) (w w' : World) : Prop where
  os : w'.os = w.os
  tape : w'.tape = w.tape
  output : w'.output = w.output
  size : w.heap.size ≤ w'.heap.size
  block : ∀ b, b < w.heap.size → v.ownBlock ≠ some b → w'.heap[b]? = w.heap[b]?
def SoPost (w : World) (v : Value) (ds : List Dg) (e : Ending) (w' : World) : Prop :=
  e = .returned (.tuple #[]) ∧ w'.ownsRow 0 99 5 v ds.length (ds.flatMap Dg.cells) ∧ Own1 v w w'
def CpPost (w : World) (v : Value) (ds : List Dg) (e : Ending) (w' : World) : Prop :=
  ∃ A c, e = .returned (.slice A ds.length c) ∧ FlatAt Dg.cells 5 w' (fun b => v.ownBlock = some b) A ds ∧ Own1 v w w'
theorem sortv_any (w : World) (v : Value) (ds : List Dg) (hb : ds.length ≤ 1000000) (row : w.ownsRow 0 99 5 v ds.length (ds.flatMap Dg.cells)) :
    Calls Tryz.prog 52 #[v, .func (.func 53) #[] #[]] w (SoPost w v (sortDg ds)) := by
  rcases row.2 with ⟨rfl, hn⟩ | ⟨g, cap, cur, rfl, _⟩
  · refine (sort_none w none 0 _).mono ?_
    rintro e w' ⟨rfl, rfl⟩
    have : ds = [] := List.eq_nil_of_length_eq_zero hn
    subst this
    have e0 : sortDg [] = [] := by simp [sortDg]
    rw [e0]
    exact ⟨rfl, World.ownsRow_nil _ _ _ _, ⟨rfl, rfl, rfl, Nat.le_refl _, fun _ _ _ => rfl⟩⟩
  · refine (sort_any w g cap ds.length ds rfl hb row).mono ?_
    rintro e w' ⟨rfl, h1, ⟨h2, h3, h4⟩, h5, h6⟩
    refine ⟨rfl, by rw [sortDg_len]; exact h1, ⟨h2, h3, h4, h5, fun b hb hne => h6 b hb (fun e => hne (by rw [e]; rfl))⟩⟩
theorem compactv_any (w : World) (v : Value) (ds : List Dg) (hb : ds.length ≤ 1000000) (row : w.ownsRow 0 99 5 v ds.length (ds.flatMap Dg.cells)) :
    Calls Tryz.prog 54 #[v] w (CpPost w v (compactL ds)) := by
  by_cases h2 : 2 ≤ ds.length
  · rcases row.2 with ⟨rfl, hn⟩ | ⟨g, cap, cur, rfl, _⟩
    · omega
    · refine (compact_any w g cap ds.length ds rfl h2 hb row).mono ?_
      rintro e w' ⟨c', rfl, h1, h2⟩
      exact ⟨_, c', rfl, h1.keep (fun b hb => by rw [hb]; rfl) (fun _ _ => rfl), ⟨h2.os, h2.tape, h2.output, Nat.le_of_eq h2.size.symm, fun b _ hne => h2.block b (fun e => hne (by rw [e]; rfl))⟩⟩
  · obtain ⟨A, c, e, hf, _⟩ := FlatAt.of_own Dg.cells_len (F := fun b => v.ownBlock = some b) row (fun b hb => hb)
    have hc : compactL ds = ds := by
      match ds, h2 with
      | [], _ => rfl
      | [x], _ => rfl
      | x :: y :: r, h => simp at h
    rw [hc, e]
    refine (compact_short w A ds.length c (by omega)).mono ?_
    rintro e' w' ⟨rfl, rfl⟩
    rw [← e]
    exact ⟨A, c, by rw [e], hf, ⟨rfl, rfl, rfl, Nat.le_refl _, fun _ _ _ => rfl⟩⟩
def astR (src : ByteArray) (ch : List Tree) : Node × BS := nodeL src (.mk 1 .empty ch) ⟨0, []⟩
def astN (src : ByteArray) (ch : List Tree) : Node := .mk { (astR src ch).1.h with s := 0, e := src.size } (astR src ch).1.ch
def astD (src : ByteArray) (ch : List Tree) : List Dg := compactL (sortDg (astR src ch).2.ds)
def New (w w' : World) (b : Nat) : Prop := w.heap.size ≤ b ∧ b < w'.heap.size
def AstPost (w : World) (src : ByteArray) (ch : List Tree) (e : Ending) (w' : World) : Prop :=
  ∃ us A c, e = .returned (.tuple #[.agg us.toArray, .slice A (astD src ch).length c, .int .i64 0]) ∧ NodeV w' (New w w') (astN src ch) us ∧ FlatAt Dg.cells 5 w' (New w w') A (astD src ch) ∧ Below w.heap.size w w'
theorem results_cell_slot2 {P : Program} {fn : Func} {p q r : Tmp} {ty : TypeId} (h : fn.results = #[.cell p ty, .tmp q, .tmp r]) (tmps : Array Value) (w : World) (g : Nat) (t : TypeId) (cs : Array Value) (fr : Nat × Nat) (d : TypeDesc) (u u2 : Value)
    (hp : tmps.getD p undef = .pointer (some ⟨g, 0, none⟩)) (hq : tmps.getD q undef = u) (hr : tmps.getD r undef = u2) (hg : w.heap[g]? = some (.cells cs t fr))
    (hu : P.underlying ty = some d) (hd : (match d with | .struct _ | .array _ _ => true | _ => false) = true) (hi : (P.info? ty).map (·.size) = some cs.size) :
    (results fn tmps).run P w = .ok (.tuple #[.agg cs, u, u2]) w := by
  have hp' : tmps[p]?.getD undef = .pointer (some ⟨g, 0, none⟩) := by simpa using hp
  have hq' : tmps[q]?.getD undef = u := by simpa using hq
  have hr' : tmps[r]?.getD undef = u2 := by simpa using hr
  simp [results, h, hp', hq', hr', asAddr, run_loadVar_row w g t ty cs fr d hg hu hd hi]
set_option maxRecDepth 100000 in
set_option maxHeartbeats 3200000 in
theorem astParse_any (src : ByteArray) (w : World) (hg : Gl w) (hs : src.size ≤ 2000) (n : Nat) (u : PS) (hu : run n fileC ⟨tokensL src.data.toList, [], false, 600000⟩ = some u) :
    Calls Tryz.prog 21 #[.string src] w (AstPost w src u.ch) := by
  have hsz : src.data.toList.length = src.size := Array.length_toList
  obtain ⟨hok, hyl, hwt⟩ := parse_safe src.data.toList (by rw [hsz]; exact hs) n u hu
  rw [hsz] at hyl
  have HP := Lib.hid (fun (W : World) hA => parse_any src W hA hs n u hu)
  have HG := Lib.hid hg
  have HO := Lib.hid hok
  generalize u.ch = ch at *
  clear hu hg hok
  go_enter Tryz.func21, Tryz.ntmps21
  go_wp2_with fail
  generalize hW : w.alloc _ = W
  have hbw : Below w.heap.size w W := by rw [← hW]; exact (Below.refl _ _).alloc (Nat.le_refl _) _
  have hR : W.heap[w.heap.size]? = some (.cells #[.int .i64 0, .int .i64 0, .string ⟨#[]⟩, .int .i64 0, .int .i64 0, .int .i64 0, .slice none 0 0] 57 (0, 0)) := by rw [← hW]; exact heap_alloc_new w _
  have hgW : Gl W := HG.out.keep hbw.size (fun b hb => hbw.block b (Nat.lt_of_lt_of_le hb HG.out.big))
  have HW := Lib.hid hbw
  clear hW
  refine (HP.out W hgW.asc).mono ?_
  rintro e w1 ⟨v, rfl, hT, hb1⟩
  simp only [Tree.k, Tree.t] at hT ⊢
  have hz1 : w.heap.size < w1.heap.size := Nat.lt_of_lt_of_le (lt_of_heap hR) hb1.size
  obtain ⟨A3, c3, rfl⟩ : ∃ A3 c3, v = .slice A3 ch.length c3 := by
    unfold TreeV at hT
    obtain ⟨_, _, A3, c3, h3, _⟩ := hT
    exact ⟨A3, c3, h3⟩
  obtain ⟨m3, hm3⟩ : ∃ m3, ch.length = m3 := ⟨_, rfl⟩
  rw [hm3] at hT ⊢
  have HM3 := Lib.hid hm3
  have HT := Lib.hid hT
  have HB1 := Lib.hid hb1
  have HR := Lib.hid hR
  have HGW := Lib.hid hgW
  clear hT hb1 hR hgW hbw hm3 HP
  go_wp2_with fail
  generalize hW2 : ((w1.alloc _).alloc _) = W2
  have hb2 : Below w1.heap.size w1 W2 := by rw [← hW2]; exact ((Below.refl _ _).alloc (Nat.le_refl _) _).alloc (by simp) _
  have hW2z : W2.heap.size = w1.heap.size + 2 := by rw [← hW2]; simp
  have hp2 : W2.heap[w1.heap.size + 1]? = some (.cells #[.string src, .int .i64 0, .slice none 0 0] 126 (0, 0)) := by rw [← hW2]; exact heap_two w1 _ _
  have hBW2 := (HW.out.trans (HB1.out.mono HW.out.size)).trans (hb2.mono (by omega))
  have hg2 : Gl W2 := HG.out.keep hBW2.size (fun b hb => hBW2.block b (Nat.lt_of_lt_of_le hb HG.out.big))
  have hB2 : BAt W2 (w1.heap.size + 1) ⟨fun b => b = w1.heap.size + 1, 0⟩ src ⟨0, []⟩ := by
    refine ⟨.slice none 0 0, hp2, World.ownsRow_nil _ _ _ _, rfl, fun g hg => by simp [Value.ownBlock] at hg, hg2, fun c hc => ?_⟩
    have hc : c = w1.heap.size + 1 := hc
    have := HG.out.big
    omega
  have hyx : (Tree.mk 1 ByteArray.empty ch).yl = yls ch := Tree.yl_node (fun h : (100 : Int) ≤ 1 => absurd h (by decide))
  have hnd := bnode_any ((Tree.mk 1 .empty ch).wt + 1) (.mk 1 .empty ch) (Nat.lt_succ_self _) (by show ¬ (100 : Int) ≤ 1; decide) HO.out W2 (w1.heap.size + 1) ⟨fun b => b = w1.heap.size + 1, 0⟩ src ⟨0, []⟩ hB2 (by decide)
    (by rw [hyx]; show (0 : Int) + (yls ch : Nat) ≤ src.size; omega) hs (by show 0 + (Tree.mk 1 ByteArray.empty ch).wt ≤ 800000; unfold Tree.wt; show 0 + (0 + 1 + wts ch) ≤ 800000; omega) (.int .i64 1) (.string .empty) (.slice A3 m3 c3) (fun b => b < w1.heap.size)
    (TreeV.keep (F' := fun b => b < w1.heap.size) (fun _ h => h) (fun b hb => hb2.block b hb) _ _ _ _ HT.out) (fun c hc => ⟨by omega, fun e => by have e : c = w1.heap.size + 1 := e; omega⟩)
  have hdl := nodeL_ds src (.mk 1 .empty ch) ⟨0, []⟩
  have hwt2 : (Tree.mk 1 ByteArray.empty ch).wt ≤ 700000 := by unfold Tree.wt; show 0 + 1 + wts ch ≤ 700000; omega
  have hAN : ∀ y b, nodeL src (.mk 1 .empty ch) ⟨0, []⟩ = (y, b) → astN src ch = .mk { y.h with s := 0, e := src.size } y.ch ∧ astD src ch = compactL (sortDg b.ds) := fun y b h => by unfold astN astD astR; rw [h]; exact ⟨rfl, rfl⟩
  unfold NdPost at hnd
  generalize nodeL src (.mk 1 .empty ch) ⟨0, []⟩ = res at *
  obtain ⟨y, b3⟩ := res
  obtain ⟨a1, a2⟩ := hAN y b3 rfl
  simp only at hnd hdl
  have HND := Lib.hid hnd
  have HA1 := Lib.hid a1
  have HA2 := Lib.hid a2
  have HBW2 := Lib.hid hBW2
  have HR2 := Lib.hid ((hb2.block _ hz1).trans ((HB1.out.block _ (lt_of_heap HR.out)).trans HR.out))
  have hW2z' : w1.heap.size + 2 ≤ W2.heap.size := by omega
  clear hnd hB2 hg2 hp2 hb2 hAN a1 a2 hBW2 hW2 hW2z HT HB1 hyl hwt
  refine HND.out.mono ?_
  rintro e w3 ⟨us, M3, rfl, n1, ⟨vb, hX⟩, n3⟩
  obtain ⟨A4, c4, rfl, n1c⟩ := n1.vals
  obtain ⟨hd, hhd⟩ : ∃ hd, y.h = hd := ⟨_, rfl⟩
  obtain ⟨m4, hm4⟩ : ∃ m4, y.ch.length = m4 := ⟨_, rfl⟩
  simp only [Hd.vals]
  rw [hhd, hm4]
  have HH := Lib.hid hhd
  have HM4 := Lib.hid hm4
  have HN1 := Lib.hid n1c
  have HX := Lib.hid hX
  have HN3 := Lib.hid n3
  have p2 := cell_of hX.blk 2 _ rfl
  have hpl := hX.lt
  clear n1 n1c n3 hhd hm4 HND hX
  go_wp2_with fail
  generalize hW4 : w3.alloc _ = W4
  have hb4 : Below w3.heap.size w3 W4 := by rw [← hW4]; exact (Below.refl _ _).alloc (Nat.le_refl _) _
  have hN4 : W4.heap[w3.heap.size]? = some (.cells #[.int .i64 hd.k, .int .i64 hd.v, .string hd.t, .int .i64 0, .int .i64 src.size, .int .i64 hd.nm, .slice A4 m4 c4] 57 (0, 0)) := by rw [← hW4]; exact heap_alloc_new w3 _
  have hX4 : BAtX W4 (w1.heap.size + 1) M3 src b3 vb := by
    have hx := HX.out
    exact ⟨(hb4.block _ hx.lt).trans hx.blk, ownsRow_below hx.row fun g hg => hb4.block g (hx.row.lt g hg).2, hx.mp, hx.mr, hx.gl.keep hb4.size (fun b h => hb4.block b (Nat.lt_of_lt_of_le h hx.gl.big)), hx.glM⟩
  have hdb : b3.ds.length ≤ 1000000 := by have : ([] : List Dg).length = 0 := rfl; omega
  have hvl : ∀ g, vb.ownBlock = some g → g < w3.heap.size := fun g hg => (HX.out.row.lt g hg).2
  have hvp : vb.ownBlock ≠ some (w1.heap.size + 1) := fun e => (HX.out.mr _ e).2 rfl
  have hW4l := lt_of_heap hN4
  have HX4 := Lib.hid hX4
  have HN4 := Lib.hid hN4
  have HB4 := Lib.hid hb4
  have HVL := Lib.hid hvl
  clear hX4 hN4 hb4 hW4 p2 hpl hdl
  refine (sortv_any W4 vb b3.ds hdb HX4.out.row).mono ?_
  rintro e w5 ⟨rfl, hrow5, hown5⟩
  have h5N : w5.heap[w3.heap.size]? = _ := (hown5.block _ (lt_of_heap HN4.out) (fun e => Nat.lt_irrefl _ (HVL.out _ e))).trans HN4.out
  have h5p : w5.heap[w1.heap.size + 1]? = _ := (hown5.block _ HX4.out.lt hvp).trans HX4.out.blk
  have hvM : ∀ g, vb.ownBlock = some g → W2.heap.size ≤ g ∨ g = w1.heap.size + 1 := fun g hg => (HN3.out.own _ (HX.out.mr _ hg).1).elim (fun e => .inr e) .inl
  have hvR : vb.ownBlock ≠ some w.heap.size := fun e => by rcases hvM _ e with e | e <;> omega
  have h5R : w5.heap[w.heap.size]? = some (.cells #[.int .i64 0, .int .i64 0, .string ⟨#[]⟩, .int .i64 0, .int .i64 0, .int .i64 0, .slice none 0 0] 57 (0, 0)) := by
    have q3 : w3.heap[w.heap.size]? = W2.heap[w.heap.size]? := HN3.out.block _ (by omega) (fun e => by have e : w.heap.size = w1.heap.size + 1 := e; omega)
    have q4 : W4.heap[w.heap.size]? = w3.heap[w.heap.size]? := HB4.out.block _ (by have := HN3.out.size; omega)
    have q5 : w5.heap[w.heap.size]? = W4.heap[w.heap.size]? := hown5.block _ (by have := HN3.out.size; have := HB4.out.size; omega) hvR
    exact q5.trans (q4.trans (q3.trans HR2.out))
  -- what every world from here on knows
  have hF : ∀ W : World, (∀ b, b < w5.heap.size → vb.ownBlock ≠ some b → W.heap[b]? = w5.heap[b]?) → (W.cell? ⟨w3.heap.size, 0, none⟩ = some (.int .i64 hd.k) ∧ W.cell? ⟨w3.heap.size, 1, none⟩ = some (.int .i64 hd.v) ∧ W.cell? ⟨w3.heap.size, 2, none⟩ = some (.string hd.t) ∧ W.cell? ⟨w3.heap.size, 3, none⟩ = some (.int .i64 0) ∧ W.cell? ⟨w3.heap.size, 4, none⟩ = some (.int .i64 src.size) ∧ W.cell? ⟨w3.heap.size, 5, none⟩ = some (.int .i64 hd.nm) ∧ W.cell? ⟨w3.heap.size, 6, none⟩ = some (.slice A4 m4 c4)) ∧ (W.cell? ⟨w.heap.size, 0, none⟩ = some (.int .i64 0) ∧ W.cell? ⟨w.heap.size, 1, none⟩ = some (.int .i64 0) ∧ W.cell? ⟨w.heap.size, 2, none⟩ = some (.string ⟨#[]⟩) ∧ W.cell? ⟨w.heap.size, 3, none⟩ = some (.int .i64 0) ∧ W.cell? ⟨w.heap.size, 4, none⟩ = some (.int .i64 0) ∧ W.cell? ⟨w.heap.size, 5, none⟩ = some (.int .i64 0) ∧ W.cell? ⟨w.heap.size, 6, none⟩ = some (.slice none 0 0)) ∧ (W.frozen? ⟨w.heap.size, 0, none⟩ = false ∧ W.frozen? ⟨w.heap.size, 1, none⟩ = false ∧ W.frozen? ⟨w.heap.size, 2, none⟩ = false ∧ W.frozen? ⟨w.heap.size, 3, none⟩ = false ∧ W.frozen? ⟨w.heap.size, 4, none⟩ = false ∧ W.frozen? ⟨w.heap.size, 5, none⟩ = false ∧ W.frozen? ⟨w.heap.size, 6, none⟩ = false) ∧ W.cell? ⟨w1.heap.size + 1, 2, none⟩ = some vb ∧ w3.heap.size < W.heap.size ∧ w.heap.size < W.heap.size ∧ w1.heap.size + 1 < W.heap.size := by
    intro W hW
    have x1 := (hW _ (lt_of_heap h5N) (fun e => Nat.lt_irrefl _ (HVL.out _ e))).trans h5N
    have x2 := (hW _ (lt_of_heap h5R) hvR).trans h5R
    have x3 := (hW _ (lt_of_heap h5p) hvp).trans h5p
    exact ⟨⟨cell_of x1 0 _ rfl, cell_of x1 1 _ rfl, cell_of x1 2 _ rfl, cell_of x1 3 _ rfl, cell_of x1 4 _ rfl, cell_of x1 5 _ rfl, cell_of x1 6 _ rfl⟩, ⟨cell_of x2 0 _ rfl, cell_of x2 1 _ rfl, cell_of x2 2 _ rfl, cell_of x2 3 _ rfl, cell_of x2 4 _ rfl, cell_of x2 5 _ rfl, cell_of x2 6 _ rfl⟩,
      ⟨Lib.frozen_of_heap x2 0, Lib.frozen_of_heap x2 1, Lib.frozen_of_heap x2 2, Lib.frozen_of_heap x2 3, Lib.frozen_of_heap x2 4, Lib.frozen_of_heap x2 5, Lib.frozen_of_heap x2 6⟩, cell_of x3 2 _ rfl, lt_of_heap x1, lt_of_heap x2, lt_of_heap x3⟩
  obtain ⟨⟨g0, g1, g2, g3, g4, g5, g6⟩, _, _, gp, gl1, gl2, gl3⟩ := hF w5 (fun _ _ _ => rfl)
  have HFF := Lib.hid hF
  have hcp : ∀ W : World, W.heap = w5.heap → Calls Tryz.prog 54 #[vb] W (CpPost W vb (compactL (sortDg b3.ds))) := fun W hW =>
    compactv_any W vb (sortDg b3.ds) (by rw [sortDg_len]; exact hdb) (ownsRow_below (by rw [sortDg_len] at *; exact hrow5) fun g _ => by rw [hW])
  have HCP := Lib.hid hcp
  have HO5 := Lib.hid hown5
  have HVM := Lib.hid hvM
  have HRR := Lib.hid h5R
  clear hF hcp hown5 hvM h5R h5N h5p hrow5
  go_wp2_with fail
  have hend : ∀ (w6 wf : World) (A6 : Option Addr) (c6 : Nat), FlatAt Dg.cells 5 w6 (fun b => vb.ownBlock = some b) A6 (compactL (sortDg b3.ds)) → Own1 vb w5 w6 → Upd w.heap.size w6 wf →
      AstPost w src ch (.returned (.tuple #[.agg #[.int .i64 hd.k, .int .i64 hd.v, .string hd.t, .int .i64 0, .int .i64 src.size, .int .i64 hd.nm, .slice A4 m4 c4], .slice A6 (compactL (sortDg b3.ds)).length c6, .int .i64 0])) wf := by
    intro w6 wf A6 c6 k1 k2 k3
    have z2 := HBW2.out.size
    have z3 := HN3.out.size
    have z4 := HB4.out.size
    have z5 := HO5.out.size
    have z6 := k2.size
    have far : ∀ b, b < w3.heap.size → vb.ownBlock ≠ some b → b ≠ w.heap.size → wf.heap[b]? = w3.heap[b]? := fun b hb hv hr => by
      rw [k3.block b hr, k2.block b (by omega) hv, HO5.out.block b (by omega) hv, HB4.out.block b (by omega)]
    refine ⟨[.int .i64 hd.k, .int .i64 hd.v, .string hd.t, .int .i64 0, .int .i64 src.size, .int .i64 hd.nm, .slice A4 m4 c4], A6, c6, by rw [HA2.out], ?_, ?_, ?_⟩
    · rw [HA1.out]
      unfold NodeV
      refine ⟨A4, c4, by rw [HM4.out, HH.out]; rfl, ?_⟩
      rcases HN1.out with h | ⟨b1, o1, rfl, hb1, hn1⟩
      · exact .inl h
      · have hin : ∀ c, (W2.heap.size ≤ c ∧ c < w3.heap.size ∧ ¬ M3 c) → New w wf c := fun c hc => ⟨by have := hc.1; omega, by rw [k3.size]; have := hc.2.1; omega⟩
        exact .inr ⟨b1, o1, rfl, hin _ hb1, NodesV.keep hin (fun c hc => far c hc.2.1 (fun e => hc.2.2 (HX.out.mr c e).1) (by have := hc.1; omega)) _ _ _ hb1 hn1⟩
    · rw [HA2.out]
      exact k1.keep (fun b hb => ⟨by rcases HVM.out b hb with e | e <;> omega, by rw [k3.size]; have := HVL.out b hb; omega⟩) (fun b hb => k3.block b (fun e => by rcases HVM.out b hb with e2 | e2 <;> omega))
    · refine ⟨k3.os.trans (k2.os.trans (HO5.out.os.trans (HB4.out.os.trans (HN3.out.os.trans HBW2.out.os)))), k3.tape.trans (k2.tape.trans (HO5.out.tape.trans (HB4.out.tape.trans (HN3.out.tape.trans HBW2.out.tape)))), k3.output.trans (k2.output.trans (HO5.out.output.trans (HB4.out.output.trans (HN3.out.output.trans HBW2.out.output)))), by rw [k3.size]; omega, fun b hb => ?_⟩
      rw [far b (by omega) (fun e => by rcases HVM.out b e with e2 | e2 <;> omega) (by omega), HN3.out.block b (by omega) (fun e => by have e : b = w1.heap.size + 1 := e; omega), HBW2.out.block b hb]
  have HEND := Lib.hid hend
  clear hend
  go_region_with (go_at_call 54; refine (HCP.out w5.drew rfl).mono ?_; rintro e w6 ⟨A6, c6, rfl, k1, k2⟩; obtain ⟨⟨i0, i1, i2, i3, i4, i5, i6⟩, ⟨r0, r1, r2, r3, r4, r5, r6⟩, ⟨f0, f1, f2, f3, f4, f5, f6⟩, ip, il1, il2, il3⟩ := HFF.out w6 k2.block)
  all_goals
    have hRm : w6.heap[w.heap.size]? = some (.cells #[.int .i64 0, .int .i64 0, .string ⟨#[]⟩, .int .i64 0, .int .i64 0, .int .i64 0, .slice none 0 0] 57 (0, 0)) := (k2.block _ (lt_of_heap HRR.out) hvR).trans HRR.out
    have HRM := Lib.hid hRm
    have K1 := Lib.hid k1
    have K2 := Lib.hid k2
    clear hRm k1 k2
    go_wp2_with fail
    generalize hWf : World.setCell _ ⟨w.heap.size, 6, none⟩ _ = Wf
    obtain ⟨hz, hu⟩ := heap_set7p HRM.out _ _ _ _ _ _ _ Wf hWf
    clear hWf
    refine bodyPost_ret (results_cell_slot2 (P := Tryz.prog) (ty := 57) rfl _ _ w.heap.size 57 _ _ _ _ _ rfl rfl rfl hz Tryz.underlying57 rfl (by kernel_rfl)) rfl ?_
    exact HEND.out w6 Wf A6 c6 K1.out ⟨K2.out.os, K2.out.tape, K2.out.output, K2.out.size, K2.out.block⟩ hu

theorem gl_below {w w' : World} (h : Gl w) (hb : Below w.heap.size w w') : Gl w' := h.keep hb.size fun b hlt => hb.block b (Nat.lt_of_lt_of_le hlt h.big)
set_option maxRecDepth 100000 in
set_option maxHeartbeats 3200000 in
theorem pa_one (x : Mdl) (b off c : Nat) (w : World) (hg : Gl w) (hA : AscAt w) (hb : b < w.heap.size) (hc : ∀ i u, (mdC x)[i]? = some u → w.cell? ⟨b, off + i, none⟩ = some u) (h1 : isIdB x.nm = true) (h2 : x.src.size ≤ 2000) (n : Nat) (u : PS) (hu : run n fileC ⟨tokensL x.src.data.toList, [], false, 600000⟩ = some u) (hd : astD x.src u.ch = []) :
    Calls Tryz.prog 110 #[.slice (some ⟨b, off, none⟩) 1 c] w fun e w' => ∃ A' c', e = .returned (.tuple #[.slice A' 1 c', .slice none 0 0, .int .i64 0]) ∧ nodeD.At w' (Nw w w') A' [astN x.src u.ch] ∧ Below w.heap.size w w' := by
  have HV := Lib.hid (val_one x b off c w hA hb hc h1 h2)
  have HP := Lib.hid (fun w' (hb' : Below w.heap.size w w') => astParse_any x.src w' (gl_below hg hb') h2 n u hu)
  unfold AstPost at HP
  rw [hd] at HP
  have c0 := hc 0 _ rfl
  have c1 := hc 1 _ rfl
  rw [Nat.add_zero] at c0
  generalize astN x.src u.ch = N at *
  obtain ⟨nm, src⟩ := x
  clear hc h1 h2 hu hd hA hg
  simp only [List.length_nil] at HP c0 c1
  go_enter Tryz.func110, Tryz.ntmps110
  go_wp2_with fail
  refine HV.out.mono ?_
  rintro e w1 ⟨rfl, hb1⟩
  have HB1 := Lib.hid hb1
  clear hb1 HV
  have hq0 : nodeD.Own w1 w.heap.size 57 (OF w.heap.size (.slice none 0 0) w1) (.slice none 0 0) [] [] := Dat.Own.nil
  go_wp2_with fail
  go_loopw [6, 7, 22] (fun v d i wr => ∃ (k : Nat) (vs : List Value), k ≤ 1 ∧ i = .int .i64 (k : Int) ∧ d = .slice none 0 0 ∧ nodeD.Own wr w.heap.size 57 (OF w.heap.size v wr) v ([N].take k) vs ∧ Below w.heap.size w wr) (fun _ _ i _ => 1 - (intOf i).toNat)
  case atStart => exact ⟨0, [], by omega, rfl, rfl, hq0, HB1.out⟩
  case round =>
    clear hq0
    obtain ⟨k, vs, hk, rfl, rfl, hown, hb3⟩ := hrel
    by_cases hk0 : k = 0
    · subst hk0
      have d0 : wr.cell? ⟨b, off, none⟩ = some (.string nm) := (hb3.cell (p := ⟨b, _, none⟩) hb).trans c0
      have d1 : wr.cell? ⟨b, off + 1, none⟩ = some (.string src) := (hb3.cell (p := ⟨b, _, none⟩) hb).trans c1
      have hs3 := hb3.size
      have HB3 := Lib.hid (hb3.alloc hs3 (.cells #[.string nm, .string src] 48))
      have H4 := Lib.hid (HP.out _ HB3.out)
      have HO := Lib.hid hown
      clear hb3 c0 c1 hown
      go_wp2_with fail
      refine H4.out.mono ?_
      rintro e w4 ⟨us, A4, c4, rfl, hnv, hfl, hb4⟩
      obtain ⟨A2, c2, rfl, _⟩ := NodeV.vals hnv
      have HNV := Lib.hid hnv
      clear hfl hnv H4
      obtain ⟨m2, hm2⟩ : ∃ m2, N.ch.length = m2 := ⟨_, rfl⟩
      obtain ⟨hd, hhd⟩ : ∃ hd, N.h = hd := ⟨_, rfl⟩
      rw [hhd, hm2] at HNV
      rw [hhd, hm2]
      clear hhd hm2
      have HB4 := Lib.hid (HB3.out.trans (hb4.mono HB3.out.size))
      have ho4 := HO.out.below (((Below.refl wr.heap.size wr).alloc (Nat.le_refl _) (.cells #[.string nm, .string src] 48)).trans (hb4.mono (by simp)))
      have ho5 := ho4.below ((Below.refl w4.heap.size w4).alloc (Nat.le_refl _) (.cells #[.int .i64 hd.k, .int .i64 hd.v, .string hd.t, .int .i64 hd.s, .int .i64 hd.e, .int .i64 hd.nm, .slice A2 m2 c2] 57))
      have HO5 := Lib.hid ho5
      have ho6 := ho5.1
      have hb5 := HB4.out.alloc HB4.out.size (.cells #[.int .i64 hd.k, .int .i64 hd.v, .string hd.t, .int .i64 hd.s, .int .i64 hd.e, .int .i64 hd.nm, .slice A2 m2 c2] 57)
      have hbs := hb5.size
      have HB5 := Lib.hid hb5
      clear ho4 ho5 hb5 hb4
      simp only [Hd.vals]
      simp only [Hd.vals] at HNV
      go_wp2_with (at_builtin; refine wpList_append_litH rfl (.tmp 34) (.tmp 36) _ rfl w.heap.size 57 _ 7 80 Tryz.underlying55 info_node rfl (by decide) _ _ _ rfl ho6 1 1 (w4.heap.size + 1) (by simp) [.int .i64 hd.k, .int .i64 hd.v, .string hd.t, .int .i64 hd.s, .int .i64 hd.e, .int .i64 hd.nm, .slice A2 m2 c2] rfl rfl ?a1 ?a2 ?a3 hbs ?_)
      case a1 => simp [Value.oneCell']
      case a2 => simp only [maxLen]; simp
      case a3 => simp
      intro v2 w5 hown2 hg2 hat2
      have hV : nodeD.V (w4.alloc (.cells #[.int .i64 hd.k, .int .i64 hd.v, .string hd.t, .int .i64 hd.s, .int .i64 hd.e, .int .i64 hd.nm, .slice A2 m2 c2] 57)) (OF w.heap.size u6 (w4.alloc (.cells #[.int .i64 hd.k, .int .i64 hd.v, .string hd.t, .int .i64 hd.s, .int .i64 hd.e, .int .i64 hd.nm, .slice A2 m2 c2] 57))) N [.int .i64 hd.k, .int .i64 hd.v, .string hd.t, .int .i64 hd.s, .int .i64 hd.e, .int .i64 hd.nm, .slice A2 m2 c2] := by
        refine nodeD.keep (fun b hb => ⟨?_, ?_, fun e => ?_⟩) (fun b hb => ?_) HNV.out
        · have := hb.1; simp at this; omega
        · have := hb.2; simp; omega
        · have h1 := (HO.out.1.lt b e).2; have h2 := hb.1; simp at h2; omega
        · exact heap_alloc_old _ _ hb.2
      have h2 : nodeD.Own w5 w.heap.size 57 (OF w.heap.size v2 w5) v2 ([N].take 1) (vs ++ [.int .i64 hd.k, .int .i64 hd.v, .string hd.t, .int .i64 hd.s, .int .i64 hd.e, .int .i64 hd.nm, .slice A2 m2 c2]) :=
        HO5.out.grow (ys := [N]) (Dat.Row.single hV) hg2 hown2 (hat2.imp_right fun ⟨g, h1, h2⟩ => ⟨g, h1, by simp; exact h2⟩)
      have hb6 : Below w.heap.size w w5 := HB5.out.grown hg2 hbs (fun q hq => (HO5.out.1.lt q hq).1)
      have H2 := Lib.hid h2
      have HB6 := Lib.hid hb6
      clear h2 hb6 hown2 hg2 hat2 hV ho6
      go_wp2_with fail
      go_loopw [7, 40] (fun d i wx => d = .slice none 0 0 ∧ i = .int .i64 0 ∧ wx = w5) (fun _ _ _ => 0)
      case atStart => exact ⟨rfl, rfl, rfl⟩
      case round =>
        obtain ⟨rfl, rfl, rfl⟩ := hrel
        go_wp2_with fail
        go_roundw
        case rel => exact ⟨1, _, by omega, by go_num, rfl, H2.out, HB6.out⟩
        case measure => simp [intOf]
    · have hkI : ¬ (k : Int) < 1 := by omega
      have hkN : ¬ k < 1 := by omega
      obtain rfl : k = 1 := by omega
      have HO := Lib.hid hown
      have HB := Lib.hid hb3
      clear hown hb3
      go_wp2_with fail
      go_ret3
      obtain ⟨A, c', hv, hat, _⟩ := HO.out.at (F' := Nw w wr) (fun b hb => ⟨hb.1, hb.2.1⟩) (fun g hg => HO.out.1.lt g hg)
      subst hv
      first
        | exact ⟨A, ⟨c', rfl⟩, hat, HB.out⟩
        | exact ⟨A, c', rfl, hat, HB.out⟩
end Go.Proofs.YtpibenilagloaaaGreatDoor
