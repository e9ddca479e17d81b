import Derived.Test.YtpibenilagloaaaGreatDoorMzbg
namespace Go.Proofs.YtpibenilagloaaaGreatDoor
open Go.RowKit
set_option linter.unusedVariables false
def Fr (R : Nat) (w w' : World) : Prop := ∀ b cs t fr, w.heap[b]? = some (.cells cs t fr) → t ≠ 99 → t ≠ 117 → b ≠ R → w'.heap[b]? = w.heap[b]?
theorem Fr.trans {R : Nat} {a b c : World} (h : Fr R a b) (k : Fr R b c) : Fr R a c := fun i cs t fr e1 e2 e3 e4 => by
  have h1 := h i cs t fr e1 e2 e3 e4
  exact (k i cs t fr (h1.trans e1) e2 e3 e4).trans h1
theorem Fr.below {R : Nat} {w w' : World} (h : Below w.heap.size w w') : Fr R w w' := fun b cs t fr e _ _ _ => h.block b (lt_of_heap e)
def EnvV (w : World) (p mb mo mc : Nat) (x : Mdl) (ss : List Sym) (xs : List Xpt) : Prop :=
  PgV w p ss xs ∧ w.cell? ⟨p, 0, none⟩ = some (.slice (some ⟨mb, mo, none⟩) 1 mc) ∧ mb < w.heap.size ∧ (∀ i u, (mdC x)[i]? = some u → w.cell? ⟨mb, mo + i, none⟩ = some u) ∧ xs.length ≤ 1000000 ∧ ss.length ≤ 1000000
theorem EnvV.below {w w' : World} {p mb mo mc : Nat} {x : Mdl} {ss : List Sym} {xs : List Xpt} (h : EnvV w p mb mo mc x ss xs) (hb : Below w.heap.size w w') : EnvV w' p mb mo mc x ss xs := by
  obtain ⟨h1, h2, h3, h4, h5⟩ := h
  exact ⟨h1.below hb, (hb.cell (p := ⟨p, 0, none⟩) h1.lt).trans h2, Nat.lt_of_lt_of_le h3 hb.size, fun i u hu => (hb.cell (p := ⟨mb, _, none⟩) h3).trans (h4 i u hu), h5⟩
theorem first_env {w0 w : World} {B R p mb mo mc : Nat} {bn : Value} {x : Mdl} {ss : List Sym} {xs : List Xpt} {s : RD} (nm : ByteArray) (hB : w0.heap.size = B) (hE : EnvV w0 p mb mo mc x ss xs) (hb : Below B w0 w) (hr : RsM w B R p bn s) (hne : x.nm ≠ nm) :
    Calls Tryz.prog 247 #[.pointer (some ⟨R, 0, none⟩), .string nm, .bool false] w fun e w' => e = .returned (.tuple #[.int .i64 (firstN ss xs nm).1, .int .i64 (firstN ss xs nm).2]) ∧ Below w.heap.size w w' := by
  subst hB
  obtain ⟨h1, h2, h3, h4, h5, h6⟩ := hE.below hb
  obtain ⟨vr, vd, k1, _⟩ := hr
  exact firstSeg_any R p ss xs nm mb mo mc x w (cell_of k1 0 _ rfl) (cell_of k1 1 _ rfl) (cell_of k1 2 _ rfl) (lt_of_heap k1) h1 h2 h3 h4 hne h5 h6
theorem rs_push {w : World} {B R p : Nat} {bn : Value} {s : RD} (h : RsM w B R p bn s) (y : Rfn) (k : Nat) (hk : s.rf.length = k) : ∃ vr, (∀ w1 : World, Below w.heap.size w w1 → w1.cell? ⟨R, 6, none⟩ = some vr ∧ w1.cell? ⟨R, 1, none⟩ = some (.int .i64 0) ∧ w1.ownsRow B 117 3 vr k (s.rf.flatMap rfC)) ∧
    ∀ w1 : World, Below w.heap.size w w1 → ∀ (v3 : Value) (w3 : World), w3.ownsRow B 117 3 v3 (k + 1) (s.rf.flatMap rfC ++ rfC y) → w1.grownBy w3 vr.ownBlock → (v3.ownBlock = vr.ownBlock ∨ ∃ g, v3.ownBlock = some g ∧ w1.heap.size ≤ g) →
      w3.cell? ⟨R, 6, none⟩ = some vr ∧ w3.frozen? ⟨R, 6, none⟩ = false ∧ RsM (w3.setCell ⟨R, 6, none⟩ v3) B R p bn ⟨s.rf ++ [y], s.ds⟩ ∧ Below B w (w3.setCell ⟨R, 6, none⟩ v3) ∧ Fr R w (w3.setCell ⟨R, 6, none⟩ v3) ∧ w3.cell? ⟨R, 1, none⟩ = some (.int .i64 0) ∧ ∀ (b : Nat) (cs : Array Value) (t : TypeId) (fr : Nat × Nat), w.heap[b]? = some (Obj.cells cs t fr) → t ≠ 117 → w3.heap[b]? = w.heap[b]? := by
  obtain ⟨vr, vd, h1, h2, h3, h4, h5, h6⟩ := h
  have hR := lt_of_heap h1
  have hBR : B ≤ w.heap.size := by omega
  subst hk
  refine ⟨vr, fun w1 hb => ?_, ?_⟩
  · have q1 := (hb.block R hR).trans h1
    exact ⟨cell_of q1 6 _ rfl, cell_of q1 1 _ rfl, ownsRow_below h2 (fun g hg => hb.block g (h2.lt g hg).2)⟩
  · intro w1 hb v3 w3 ho hg hat
    have q1 := (hb.block R hR).trans h1
    have q2 : w3.heap[R]? = _ := (hg.block R (lt_of_heap q1) (fun e => h4 e.symm)).trans q1
    have q3 := ownsRow_below h2 (fun g hg => hb.block g (h2.lt g hg).2)
    have q4 := ownsRow_below h3 (fun g hg => hb.block g (h3.lt g hg).2)
    refine ⟨cell_of q2 6 _ rfl, Lib.frozen_of_heap q2 6, RsM.pushR q1 q3 q4 h4 h5 h6 _ hg ho hat, ?_, ?_, cell_of q2 1 _ rfl, ?_⟩
    · exact ((hb.mono hBR).grown hg (by have := hb.size; omega) (fun q hq => (h2.lt q hq).1)).setCell h6 _
    · intro b cs t fr e1 e2 e2' e3
      have e4 := (hb.block b (lt_of_heap e1)).trans e1
      exact (Below.heap_setCell _ _ _ _ e3).trans ((hg.block b (lt_of_heap e4) (fun e => e2' (own_type q3 e.symm e4))).trans (hb.block b (lt_of_heap e1)))
    · intro b cs t fr e1 e2'
      have e4 := (hb.block b (lt_of_heap e1)).trans e1
      exact (hg.block b (lt_of_heap e4) (fun e => e2' (own_type q3 e.symm e4))).trans (hb.block b (lt_of_heap e1))
def PthPost (B R p : Nat) (bn : Value) (s : RD) (sym : Int) (w : World) (r : Ending) (w' : World) : Prop := r = .returned (.int .i64 sym) ∧ RsM w' B R p bn s ∧ Below B w w' ∧ Fr R w w'
set_option maxRecDepth 100000 in
set_option maxHeartbeats 12800000 in
theorem path_any (B R p mb mo mc : Nat) (bn : Value) (x : Mdl) (ss : List Sym) (xs : List Xpt) (w0 : World) (hB : w0.heap.size = B) (hE : EnvV w0 p mb mo mc x ss xs) (h g : Hd) (hn1 : 0 ≤ g.nm) (hn2 : g.nm ≤ 1000000) (hgt : g.t.size ≤ 1000000) (hne : x.nm ≠ g.t) (s : RD) (hs1 : s.rf.length + 1 ≤ 1000000) (hs2 : s.ds.length + 1 ≤ 1000000)
    (w : World) (hb0 : Below B w0 w) (hr : RsM w B R p bn s) (us : List Value) (hus : NodeV w (fun b => b < B) (.mk h [.mk g []]) us) :
    Calls Tryz.prog 184 #[.pointer (some ⟨R, 0, none⟩), .agg us.toArray, .bool false] w (PthPost B R p bn (segN (firstN ss xs) g s) (firstN ss xs g.t).1 w) := by
  have hBw : B ≤ w.heap.size := by have := hb0.size; omega
  obtain ⟨A, c, rfl, hk⟩ := hus.kids
  obtain ⟨tb, off, ys, rfl, htb, hx, hxc⟩ := hk.get 0 _ rfl
  obtain ⟨A2, c2, rfl, _⟩ := hx.kids
  simp only [Node.h, Node.ch, Nat.zero_mul, Nat.add_zero, List.length_nil, List.length_cons, Nat.zero_add] at hxc ⊢
  obtain ⟨hk0, hv0, ht0, hs0, he0, hm0⟩ := h
  obtain ⟨gk, gv, gt, gs, ge, gm⟩ := g
  simp only at hn1 hn2 hgt hne ⊢
  have htl : tb < w.heap.size := by omega
  obtain ⟨fq, hfq⟩ : ∃ fq, firstN ss xs gt = fq := ⟨_, rfl⟩
  have HFS := Lib.hid (fun w' (hb : Below B w0 w') (hr' : RsM w' B R p bn s) => first_env gt hB hE hb hr' hne)
  rw [hfq] at HFS
  have HSG := Lib.hid (show segN (firstN ss xs) ⟨gk, gv, gt, gs, ge, gm⟩ s = ⟨s.rf ++ [⟨0, gm, fq.1⟩], if fq.2 = 0 then s.ds else s.ds ++ [⟨fq.2, 0, gm, gm + gt.size, gt⟩]⟩ by unfold segN; rw [hfq])
  rw [hfq]
  have HRP := Lib.hid (fun w' (hr' : RsM w' B R p bn s) => report_r B R p bn s fq.2 gm gt w' hr' hs2 ⟨hn1, hn2⟩ hgt)
  have d0 := hxc 0 _ rfl
  have d1 := hxc 1 _ rfl
  have d2 := hxc 2 _ rfl
  have d3 := hxc 3 _ rfl
  have d4 := hxc 4 _ rfl
  have d5 := hxc 5 _ rfl
  have d6 := hxc 6 _ rfl
  rw [Nat.add_zero] at d0
  obtain ⟨W, hW⟩ : ∃ W, w.alloc (.cells #[.int .i64 hk0, .int .i64 hv0, .string ht0, .int .i64 hs0, .int .i64 he0, .int .i64 hm0, .slice (some ⟨tb, off, none⟩) 1 c] 57) = W := ⟨_, rfl⟩
  have hbx : W.heap[w.heap.size]? = some (.cells #[.int .i64 hk0, .int .i64 hv0, .string ht0, .int .i64 hs0, .int .i64 he0, .int .i64 hm0, .slice (some ⟨tb, off, none⟩) 1 c] 57 (0, 0)) := by rw [← hW]; exact heap_alloc_new w _
  have hbw : Below w.heap.size w W := by rw [← hW]; exact (Below.refl _ _).alloc (Nat.le_refl _) _
  have HBW := Lib.hid hbw
  have HRW := Lib.hid (hr.below hbw)
  have HB0 := Lib.hid hb0
  have e0 := (hbw.cell (p := ⟨tb, _, none⟩) htl).trans d0
  have e1 := (hbw.cell (p := ⟨tb, _, none⟩) htl).trans d1
  have e2 := (hbw.cell (p := ⟨tb, _, none⟩) htl).trans d2
  have e3 := (hbw.cell (p := ⟨tb, _, none⟩) htl).trans d3
  have e4 := (hbw.cell (p := ⟨tb, _, none⟩) htl).trans d4
  have e5 := (hbw.cell (p := ⟨tb, _, none⟩) htl).trans d5
  have e6 := (hbw.cell (p := ⟨tb, _, none⟩) htl).trans d6
  have b6 := cell_of hbx 6 _ rfl
  have hxl := lt_of_heap hbx
  have htW : tb < W.heap.size := by omega
  have HS1 := Lib.hid hs1
  clear hr hbw hbx hxc hk hus hx hE hB hne hfq hs1 hs2 hgt hn2 d0 d1 d2 d3 d4 d5 d6 hb0
  simp only [Hd.vals]
  show Calls _ _ #[_, .agg #[.int .i64 hk0, .int .i64 hv0, .string ht0, .int .i64 hs0, .int .i64 he0, .int .i64 hm0, .slice (some ⟨tb, off, none⟩) 1 c], _] _ _
  go_enter Tryz.func184, Tryz.ntmps184
  go_wp2_with fail
  clear hW
  go_loopw [7, 8, 15] (fun v7 v8 i wr => (i = .int .i64 0 ∧ v7 = .int .i64 (-1) ∧ v8 = .bool true ∧ wr = W) ∨ (i = .int .i64 1 ∧ v7 = .int .i64 fq.1 ∧ (∃ b, v8 = .bool b) ∧ RsM wr B R p bn (segN (firstN ss xs) ⟨gk, gv, gt, gs, ge, gm⟩ s) ∧ Below B w wr ∧ Fr R w wr)) (fun _ _ i _ => 1 - (intOf i).toNat)
  case atStart => exact .inl ⟨rfl, rfl, rfl, rfl⟩
  case round =>
    rcases hrel with ⟨rfl, rfl, rfl, rfl⟩ | ⟨rfl, rfl, ⟨b8, rfl⟩, hr1, hbl1, hfr1⟩
    · obtain ⟨W2, hW2⟩ : ∃ W2, wr.alloc (.cells #[.int .i64 gk, .int .i64 gv, .string gt, .int .i64 gs, .int .i64 ge, .int .i64 gm, .slice A2 0 c2] 57) = W2 := ⟨_, rfl⟩
      have hx2 : W2.heap[wr.heap.size]? = some (.cells #[.int .i64 gk, .int .i64 gv, .string gt, .int .i64 gs, .int .i64 ge, .int .i64 gm, .slice A2 0 c2] 57 (0, 0)) := by rw [← hW2]; exact heap_alloc_new wr _
      have hb2 : Below wr.heap.size wr W2 := by rw [← hW2]; exact (Below.refl _ _).alloc (Nat.le_refl _) _
      have hBr : B ≤ wr.heap.size := by omega
      have HNR : Hid (wr.heap.size ≠ R) := fun e => by have := HRW.out.lt; omega
      have hr2 := HRW.out.below hb2
      have hbB : Below B w0 W2 := HB0.out.trans ((HBW.out.mono hBw).trans (hb2.mono hBr))
      have HF := Lib.hid (HFS.out W2 hbB hr2)
      have HB2 := Lib.hid ((HBW.out.mono hBw).trans (hb2.mono hBr))
      have HF2 := Lib.hid ((Fr.below HBW.out).trans (Fr.below (R := R) hb2))
      have HR2 := Lib.hid hr2
      have HX2 := Lib.hid hx2
      have hgI : ¬ gm < 0 := by omega
      have z2 := cell_of hx2 2 _ rfl
      have z5 := cell_of hx2 5 _ rfl
      have z6 := cell_of hx2 6 _ rfl
      have hl2 := lt_of_heap hx2
      clear hr2 hbB hb2 hx2 HFS
      go_wp2_with fail
      refine HF.out.mono ?_
      rintro e w3 ⟨rfl, hb3⟩
      have hr3 := HR2.out.below hb3
      have hx3 := (hb3.block _ hl2).trans HX2.out
      have hB2 := HB2.out.size
      have HB3 := Lib.hid (HB2.out.trans (hb3.mono (show B ≤ W2.heap.size by omega)))
      have HF3 := Lib.hid (HF2.out.trans (Fr.below (R := R) hb3))
      have y2 := cell_of hx3 2 _ rfl
      have y5 := cell_of hx3 5 _ rfl
      have y6 := cell_of hx3 6 _ rfl
      have hl3 := lt_of_heap hx3
      clear hb3 HF HR2 HX2 z2 z5 z6 hl2 hW2 hB2
      by_cases q : fq.2 = 0
      · have HQ := Lib.hid q
        have qb : (fq.2 == 0) = true := by simpa using q
        have qb2 : (fq.2 != 0) = false := by simpa using q
        obtain ⟨w4, rfl⟩ : ∃ w4 : World, w4 = w3 := ⟨_, rfl⟩
        have hr4 : RsM w4 B R p bn ⟨s.rf, s.ds⟩ := hr3
        have hx4 := hx3
        have HB4 := HB3
        have HF4 := HF3
        clear hr3 hx3 HB3 HF3 HRP y2 y5 y6 hl3 q
        obtain ⟨kr, hkr⟩ : ∃ kr, s.rf.length = kr := ⟨_, rfl⟩
        obtain ⟨vr, hp1, hp2⟩ := rs_push hr4 ⟨0, gm, fq.1⟩ kr hkr
        have hkb : kr + 1 ≤ 1000000 := by rw [← hkr]; exact HS1.out
        have hl4 := lt_of_heap hx4
        have hBW4 := HB4.out.size
        have hkp : ∀ w' : World, Below w4.heap.size w4 w' → w'.cell? ⟨R, 6, none⟩ = some vr ∧ w'.cell? ⟨R, 1, none⟩ = some (.int .i64 0) ∧ w'.cell? ⟨wr.heap.size, 5, none⟩ = some (.int .i64 gm) := fun w' hb' => ⟨(hp1 w' hb').1, (hp1 w' hb').2.1, cell_of ((hb'.block _ hl4).trans hx4) 5 _ rfl⟩
        have HKP := Lib.hid hkp
        have HP1 := Lib.hid hp1
        have HP2 := Lib.hid hp2
        have hx5 : ∀ w5 : World, Fr R w4 w5 → w5.heap[wr.heap.size]? = some (.cells #[.int .i64 gk, .int .i64 gv, .string gt, .int .i64 gs, .int .i64 ge, .int .i64 gm, .slice A2 0 c2] 57 (0, 0)) := fun w5 hf => (hf _ _ _ _ hx4 (by decide) (by decide) HNR.out).trans hx4
        have HX5 := Lib.hid hx5
        have HX4 := Lib.hid hx4
        have hlit : ∀ u4 : World, RowAt (u4.alloc (.cells #[.int .i64 0, .int .i64 gm, .int .i64 fq.1] 117)) (Lt (u4.alloc (.cells #[.int .i64 0, .int .i64 gm, .int .i64 fq.1] 117))) (some ⟨u4.heap.size, 0, none⟩) (rfC ⟨0, gm, fq.1⟩) := fun u4 _ =>
          ⟨_, 0, rfl, by simp [Lt], fun j u hu => by rw [Nat.zero_add, Lib.cell_of_heap (heap_alloc_new u4 _)]; simpa [rfC] using hu⟩
        have HLI := Lib.hid hlit
        have HON : Hid (∀ u ∈ rfC ⟨0, gm, fq.1⟩, u.oneCell' = true) := by intro u hu; simp [rfC] at hu; rcases hu with rfl | rfl | rfl <;> rfl
        have HBD : Hid (Below w4.heap.size w4 w4.drew) := (Below.refl w4.heap.size w4).drew
        have HBW4 := Lib.hid hBW4
        clear hkp hp1 hp2 hx5 hlit hr4 hx4 hkr hBW4
        go_wp2_with fail
        refine regionS (fun w' => w'.cell? ⟨R, 6, none⟩ = some vr ∧ w'.cell? ⟨R, 1, none⟩ = some (.int .i64 0) ∧ w'.cell? ⟨wr.heap.size, 5, none⟩ = some (.int .i64 gm)) 15 (by kernel_rfl) (HKP.out _ HBD.out) ?_
        intro hS
        refine takeS (i := 0) (v := ?v0) (at_zero) (by kernel_rfl) (by kernel_rfl) (by kernel_rfl) (by kernel_rfl) (fun _ _ _ h => h) (Or.inl ⟨by rfl, ?y0⟩) (by assumption) ?z0
        case y0 => intro wq hSw; (try dsimp only at hSw); go_simp; try with_reducible rfl
        try simp only [Act.put, List.setIfInBounds_toArray, List.set_cons_zero, List.set_cons_succ]
        refine takeS (i := 1) (v := ?v1) (at_succ (at_zero)) (by kernel_rfl) (by kernel_rfl) (by kernel_rfl) (by kernel_rfl) (fun _ _ _ h => h) (Or.inl ⟨by rfl, ?y1⟩) (by assumption) ?z1
        case y1 => intro wq hSw; (try dsimp only at hSw); go_simp; try with_reducible rfl
        try simp only [Act.put, List.setIfInBounds_toArray, List.set_cons_zero, List.set_cons_succ]
        refine takeS (i := 2) (v := ?v2) (at_succ (at_succ (at_zero))) (by kernel_rfl) (by kernel_rfl) (by kernel_rfl) (by kernel_rfl) (fun _ _ _ h => h) (Or.inl ⟨by rfl, ?y2⟩) (by assumption) ?z2
        case y2 => intro wq hSw; (try dsimp only at hSw); go_simp; try with_reducible rfl
        try simp only [Act.put, List.setIfInBounds_toArray, List.set_cons_zero, List.set_cons_succ]
        refine takeS (i := 3) (v := ?v3) (at_succ (at_succ (at_succ (at_zero)))) (by kernel_rfl) (by kernel_rfl) (by kernel_rfl) (by kernel_rfl) (fun _ _ _ h => h) (Or.inl ⟨by rfl, ?y3⟩) (by assumption) ?z3
        case y3 => intro wq hSw; (try dsimp only at hSw); go_simp; try with_reducible rfl
        try simp only [Act.put, List.setIfInBounds_toArray, List.set_cons_zero, List.set_cons_succ]
        refine takeS (i := 4) (v := ?v4) (at_succ (at_succ (at_succ (at_succ (at_zero))))) (by kernel_rfl) (by kernel_rfl) (by kernel_rfl) (by kernel_rfl) (fun _ _ _ h => h) (Or.inl ⟨by rfl, ?y4⟩) (by assumption) ?z4
        case y4 => intro wq hSw; (try dsimp only at hSw); go_simp; try with_reducible rfl
        try simp only [Act.put, List.setIfInBounds_toArray, List.set_cons_zero, List.set_cons_succ]
        refine takeS (i := 5) (v := ?v5) (at_succ (at_succ (at_succ (at_succ (at_succ (at_zero)))))) (by kernel_rfl) (by kernel_rfl) (by kernel_rfl) (by kernel_rfl) (fun _ _ _ h => h) (Or.inl ⟨by rfl, ?y5⟩) (by assumption) ?z5
        case y5 => intro wq hSw; (try dsimp only at hSw); go_simp; try with_reducible rfl
        try simp only [Act.put, List.setIfInBounds_toArray, List.set_cons_zero, List.set_cons_succ]
        refine takeS (i := 6) (v := ?v6) (at_succ (at_succ (at_succ (at_succ (at_succ (at_succ (at_zero))))))) (by kernel_rfl) (by kernel_rfl) (by kernel_rfl) (by kernel_rfl) (fun _ _ _ h => h) (Or.inl ⟨by rfl, ?y6⟩) (by assumption) ?z6
        case y6 => intro wq hSw; (try dsimp only at hSw); go_simp; try with_reducible rfl
        try simp only [Act.put, List.setIfInBounds_toArray, List.set_cons_zero, List.set_cons_succ]
        refine takeS (i := 7) (v := ?v7) (at_succ (at_succ (at_succ (at_succ (at_succ (at_succ (at_succ (at_zero)))))))) (by kernel_rfl) (by kernel_rfl) (by kernel_rfl) (by kernel_rfl) (fun _ _ _ h => h) (Or.inl ⟨by rfl, ?y7⟩) (by assumption) ?z7
        case y7 => intro wq hSw; (try dsimp only at hSw); go_simp; try with_reducible rfl
        try simp only [Act.put, List.setIfInBounds_toArray, List.set_cons_zero, List.set_cons_succ]
        refine takeS (i := 8) (v := ?v8) (at_succ (at_succ (at_succ (at_succ (at_succ (at_succ (at_succ (at_succ (at_zero))))))))) (by kernel_rfl) (by kernel_rfl) (by kernel_rfl) (by kernel_rfl) (fun _ _ _ h => h) (Or.inl ⟨by rfl, ?y8⟩) (by assumption) ?z8
        case y8 => intro wq hSw; (try dsimp only at hSw); go_simp; try with_reducible rfl
        try simp only [Act.put, List.setIfInBounds_toArray, List.set_cons_zero, List.set_cons_succ]
        refine takeS (i := 9) (v := ?v9) (at_succ (at_succ (at_succ (at_succ (at_succ (at_succ (at_succ (at_succ (at_succ (at_zero)))))))))) (by kernel_rfl) (by kernel_rfl) (by kernel_rfl) (by kernel_rfl) (fun _ _ _ h => h) (Or.inl ⟨by rfl, ?y9⟩) (by assumption) ?z9
        case y9 => intro wq hSw; (try dsimp only at hSw); go_simp; try with_reducible rfl
        try simp only [Act.put, List.setIfInBounds_toArray, List.set_cons_zero, List.set_cons_succ]
        refine takeS (i := 10) (v := ?v10) (at_succ (at_succ (at_succ (at_succ (at_succ (at_succ (at_succ (at_succ (at_succ (at_succ (at_zero))))))))))) (by kernel_rfl) (by kernel_rfl) (by kernel_rfl) (by kernel_rfl) (fun _ _ _ h => h) (Or.inl ⟨by rfl, ?y10⟩) (by assumption) ?z10
        case y10 => intro wq hSw; (try dsimp only at hSw); go_simp; try with_reducible rfl
        try simp only [Act.put, List.setIfInBounds_toArray, List.set_cons_zero, List.set_cons_succ]
        refine takeS (i := 11) (v := ?v11) (at_succ (at_succ (at_succ (at_succ (at_succ (at_succ (at_succ (at_succ (at_succ (at_succ (at_succ (at_zero)))))))))))) (by kernel_rfl) (by kernel_rfl) (by kernel_rfl) (by kernel_rfl) (fun _ _ _ h => h) (Or.inl ⟨by rfl, ?y11⟩) (by assumption) ?z11
        case y11 => intro wq hSw; (try dsimp only at hSw); go_simp; try with_reducible rfl
        try simp only [Act.put, List.setIfInBounds_toArray, List.set_cons_zero, List.set_cons_succ]
        refine takeS (i := 12) (v := ?v12) (at_succ (at_succ (at_succ (at_succ (at_succ (at_succ (at_succ (at_succ (at_succ (at_succ (at_succ (at_succ (at_zero))))))))))))) (by kernel_rfl) (by kernel_rfl) (by kernel_rfl) (by kernel_rfl) (fun _ _ _ h => h) (Or.inl ⟨by rfl, ?y12⟩) (by assumption) ?z12
        case y12 => intro wq hSw; (try dsimp only at hSw); go_simp; try with_reducible rfl
        try simp only [Act.put, List.setIfInBounds_toArray, List.set_cons_zero, List.set_cons_succ]
        refine stepS (i := 13) (by kernel_rfl) (at_succ (at_succ (at_succ (at_succ (at_succ (at_succ (at_succ (at_succ (at_succ (at_succ (at_succ (at_succ (at_succ (at_zero)))))))))))))) (fun K hK => ?_)
        go_simp
        clear hS
        refine hK.out _ _ (HKP.out _ (HBD.out.alloc (Nat.le_refl _) _)) (fun hS => ?_)
        clear hK K
        try simp only [Act.put, List.setIfInBounds_toArray, List.set_cons_zero, List.set_cons_succ]
        refine stepS (i := 14) (by kernel_rfl) (at_succ (at_succ (at_succ (at_succ (at_succ (at_succ (at_succ (at_succ (at_succ (at_succ (at_succ (at_succ (at_succ (at_succ (at_zero))))))))))))))) (fun K hK => ?_)
        refine step_append_src (by rfl) (.tmp 57) (.tmp 66) _ (by rfl) B 117 _ 3 24 Tryz.underlying83 info_rf (by rfl) (by decide) vr kr (s.rf.flatMap rfC) (by rfl) (HP1.out _ (HBD.out.alloc HBD.out.size _)).2.2 (Lt _) (some ⟨w4.heap.size, 0, none⟩) 1 1 (rfC ⟨0, gm, fq.1⟩) (by rfl) (HLI.out w4.drew) rfl HON.out (by unfold maxLen; omega) (by omega) (by have := HBD.out.size; have := HBW4.out; simp; omega) ?_
        intro v3 w5 hown3 hg3 hat3
        have hf3 := Lib.hid (HP2.out _ (HBD.out.alloc HBD.out.size _) v3 w5 hown3 hg3 hat3)
        have hc3 := hf3.out.1
        have hz3 := hf3.out.2.1
        have hs3 : w5.cell? ⟨R, 6, none⟩ = some vr ∧ w5.cell? ⟨R, 1, none⟩ = some (.int .i64 0) ∧ w5.cell? ⟨wr.heap.size, 5, none⟩ = some (.int .i64 gm) := by
          exact ⟨hc3, hf3.out.2.2.2.2.2.1, cell_of ((hf3.out.2.2.2.2.2.2 _ _ _ _ HX4.out (by decide)).trans HX4.out) 5 _ rfl⟩
        obtain ⟨Av, cv, rfl⟩ := own_slice hown3
        clear hown3 hg3 hat3 hS
        refine hK.out _ _ hs3 (fun hS => ?_)
        clear hs3
        clear hK K
        try simp only [Act.put, List.setIfInBounds_toArray, List.set_cons_zero, List.set_cons_succ]
        refine tailZ (i := 15) (by kernel_rfl) (at_succ (at_succ (at_succ (at_succ (at_succ (at_succ (at_succ (at_succ (at_succ (at_succ (at_succ (at_succ (at_succ (at_succ (at_succ (at_zero)))))))))))))))) (by kernel_rfl) (fun K hK => ?_)
        go_simp
        refine hK.out _ _ ?_
        clear hK K
        try simp only [Act.put, List.setIfInBounds_toArray, List.set_cons_zero, List.set_cons_succ]
        refine tailZ (i := 16) (by kernel_rfl) (at_succ (at_succ (at_succ (at_succ (at_succ (at_succ (at_succ (at_succ (at_succ (at_succ (at_succ (at_succ (at_succ (at_succ (at_succ (at_succ (at_zero))))))))))))))))) (by kernel_rfl) (fun K hK => ?_)
        go_simp
        refine hK.out _ _ ?_
        clear hK K
        try simp only [Act.put, List.setIfInBounds_toArray, List.set_cons_zero, List.set_cons_succ]
        refine tailZ (i := 17) (by kernel_rfl) (at_succ (at_succ (at_succ (at_succ (at_succ (at_succ (at_succ (at_succ (at_succ (at_succ (at_succ (at_succ (at_succ (at_succ (at_succ (at_succ (at_succ (at_zero)))))))))))))))))) (by kernel_rfl) (fun K hK => ?_)
        go_simp
        refine hK.out _ _ ?_
        clear hK K
        try simp only [Act.put, List.setIfInBounds_toArray, List.set_cons_zero, List.set_cons_succ]
        refine doneS (by kernel_rfl) ?_ _
        have hr6 := hf3.out.2.2.1
        have hb6 := hf3.out.2.2.2.1
        have hf6 := hf3.out.2.2.2.2.1
        generalize w5.setCell ⟨R, 6, none⟩ (.slice Av (kr + 1) cv) = w6 at *
        have hx6 := HX5.out w6 hf6
        have y6 := cell_of hx6 6 _ rfl
        have hl6 := lt_of_heap hx6
        have H6 := Lib.hid (show RsM w6 B R p bn (segN (firstN ss xs) ⟨gk, gv, gt, gs, ge, gm⟩ s) by rw [HSG.out, if_pos HQ.out]; exact hr6)
        have HB6 := Lib.hid (HB4.out.trans hb6)
        have HF6 := Lib.hid (HF4.out.trans hf6)
        have HVN := Lib.hid (visall_nil R A2 c2 w6)
        clear hx6 hr6 hb6 hf6 hf3 hc3 hz3 hS HX5 HP1 HP2 HKP HLI
        go_wp2_with fail
        refine HVN.out.mono ?_
        rintro e w7 ⟨rfl, rfl⟩
        go_wp2_with fail
        go_roundw
        case rel => exact .inr ⟨by go_num, rfl, ⟨_, rfl⟩, H6.out, HB6.out, HF6.out⟩
        case measure => simp [intOf]
      · have HQ := Lib.hid q
        have qb : (fq.2 == 0) = false := by simpa using q
        have qb2 : (fq.2 != 0) = true := by simpa using q
        have HR := Lib.hid (HRP.out w3 hr3)
        have HX3 := Lib.hid hx3
        clear hr3 hx3 HRP q
        go_wp2_with fail
        refine HR.out.mono ?_
        rintro e w4 ⟨rfl, hr4, hb4, hf4⟩
        have hx4 := (hf4 _ _ _ _ HX3.out (by decide) HNR.out).trans HX3.out
        have HB4 := Lib.hid (HB3.out.trans hb4)
        have HF4 := Lib.hid (HF3.out.trans (fun b cs t fr e1 e2 _ e4 => hf4 b cs t fr e1 e2 e4))
        clear hb4 hf4 HB3 HF3 HX3 HR y2 y5 y6 hl3
        obtain ⟨kr, hkr⟩ : ∃ kr, s.rf.length = kr := ⟨_, rfl⟩
        obtain ⟨vr, hp1, hp2⟩ := rs_push hr4 ⟨0, gm, fq.1⟩ kr hkr
        have hkb : kr + 1 ≤ 1000000 := by rw [← hkr]; exact HS1.out
        have hl4 := lt_of_heap hx4
        have hBW4 := HB4.out.size
        have hkp : ∀ w' : World, Below w4.heap.size w4 w' → w'.cell? ⟨R, 6, none⟩ = some vr ∧ w'.cell? ⟨R, 1, none⟩ = some (.int .i64 0) ∧ w'.cell? ⟨wr.heap.size, 5, none⟩ = some (.int .i64 gm) := fun w' hb' => ⟨(hp1 w' hb').1, (hp1 w' hb').2.1, cell_of ((hb'.block _ hl4).trans hx4) 5 _ rfl⟩
        have HKP := Lib.hid hkp
        have HP1 := Lib.hid hp1
        have HP2 := Lib.hid hp2
        have hx5 : ∀ w5 : World, Fr R w4 w5 → w5.heap[wr.heap.size]? = some (.cells #[.int .i64 gk, .int .i64 gv, .string gt, .int .i64 gs, .int .i64 ge, .int .i64 gm, .slice A2 0 c2] 57 (0, 0)) := fun w5 hf => (hf _ _ _ _ hx4 (by decide) (by decide) HNR.out).trans hx4
        have HX5 := Lib.hid hx5
        have HX4 := Lib.hid hx4
        have hlit : ∀ u4 : World, RowAt (u4.alloc (.cells #[.int .i64 0, .int .i64 gm, .int .i64 fq.1] 117)) (Lt (u4.alloc (.cells #[.int .i64 0, .int .i64 gm, .int .i64 fq.1] 117))) (some ⟨u4.heap.size, 0, none⟩) (rfC ⟨0, gm, fq.1⟩) := fun u4 _ =>
          ⟨_, 0, rfl, by simp [Lt], fun j u hu => by rw [Nat.zero_add, Lib.cell_of_heap (heap_alloc_new u4 _)]; simpa [rfC] using hu⟩
        have HLI := Lib.hid hlit
        have HON : Hid (∀ u ∈ rfC ⟨0, gm, fq.1⟩, u.oneCell' = true) := by intro u hu; simp [rfC] at hu; rcases hu with rfl | rfl | rfl <;> rfl
        have HBD : Hid (Below w4.heap.size w4 w4.drew) := (Below.refl w4.heap.size w4).drew
        have HBW4 := Lib.hid hBW4
        clear hkp hp1 hp2 hx5 hlit hr4 hx4 hkr hBW4
        go_wp2_with fail
        refine regionS (fun w' => w'.cell? ⟨R, 6, none⟩ = some vr ∧ w'.cell? ⟨R, 1, none⟩ = some (.int .i64 0) ∧ w'.cell? ⟨wr.heap.size, 5, none⟩ = some (.int .i64 gm)) 15 (by kernel_rfl) (HKP.out _ HBD.out) ?_
        intro hS
        refine takeS (i := 0) (v := ?v0r1) (at_zero) (by kernel_rfl) (by kernel_rfl) (by kernel_rfl) (by kernel_rfl) (fun _ _ _ h => h) (Or.inl ⟨by rfl, ?y0r1⟩) (by assumption) ?z0r1
        case y0r1 => intro wq hSw; (try dsimp only at hSw); go_simp; try with_reducible rfl
        try simp only [Act.put, List.setIfInBounds_toArray, List.set_cons_zero, List.set_cons_succ]
        refine takeS (i := 1) (v := ?v1r1) (at_succ (at_zero)) (by kernel_rfl) (by kernel_rfl) (by kernel_rfl) (by kernel_rfl) (fun _ _ _ h => h) (Or.inl ⟨by rfl, ?y1r1⟩) (by assumption) ?z1r1
        case y1r1 => intro wq hSw; (try dsimp only at hSw); go_simp; try with_reducible rfl
        try simp only [Act.put, List.setIfInBounds_toArray, List.set_cons_zero, List.set_cons_succ]
        refine takeS (i := 2) (v := ?v2r1) (at_succ (at_succ (at_zero))) (by kernel_rfl) (by kernel_rfl) (by kernel_rfl) (by kernel_rfl) (fun _ _ _ h => h) (Or.inl ⟨by rfl, ?y2r1⟩) (by assumption) ?z2r1
        case y2r1 => intro wq hSw; (try dsimp only at hSw); go_simp; try with_reducible rfl
        try simp only [Act.put, List.setIfInBounds_toArray, List.set_cons_zero, List.set_cons_succ]
        refine takeS (i := 3) (v := ?v3r1) (at_succ (at_succ (at_succ (at_zero)))) (by kernel_rfl) (by kernel_rfl) (by kernel_rfl) (by kernel_rfl) (fun _ _ _ h => h) (Or.inl ⟨by rfl, ?y3r1⟩) (by assumption) ?z3r1
        case y3r1 => intro wq hSw; (try dsimp only at hSw); go_simp; try with_reducible rfl
        try simp only [Act.put, List.setIfInBounds_toArray, List.set_cons_zero, List.set_cons_succ]
        refine takeS (i := 4) (v := ?v4r1) (at_succ (at_succ (at_succ (at_succ (at_zero))))) (by kernel_rfl) (by kernel_rfl) (by kernel_rfl) (by kernel_rfl) (fun _ _ _ h => h) (Or.inl ⟨by rfl, ?y4r1⟩) (by assumption) ?z4r1
        case y4r1 => intro wq hSw; (try dsimp only at hSw); go_simp; try with_reducible rfl
        try simp only [Act.put, List.setIfInBounds_toArray, List.set_cons_zero, List.set_cons_succ]
        refine takeS (i := 5) (v := ?v5r1) (at_succ (at_succ (at_succ (at_succ (at_succ (at_zero)))))) (by kernel_rfl) (by kernel_rfl) (by kernel_rfl) (by kernel_rfl) (fun _ _ _ h => h) (Or.inl ⟨by rfl, ?y5r1⟩) (by assumption) ?z5r1
        case y5r1 => intro wq hSw; (try dsimp only at hSw); go_simp; try with_reducible rfl
        try simp only [Act.put, List.setIfInBounds_toArray, List.set_cons_zero, List.set_cons_succ]
        refine takeS (i := 6) (v := ?v6r1) (at_succ (at_succ (at_succ (at_succ (at_succ (at_succ (at_zero))))))) (by kernel_rfl) (by kernel_rfl) (by kernel_rfl) (by kernel_rfl) (fun _ _ _ h => h) (Or.inl ⟨by rfl, ?y6r1⟩) (by assumption) ?z6r1
        case y6r1 => intro wq hSw; (try dsimp only at hSw); go_simp; try with_reducible rfl
        try simp only [Act.put, List.setIfInBounds_toArray, List.set_cons_zero, List.set_cons_succ]
        refine takeS (i := 7) (v := ?v7r1) (at_succ (at_succ (at_succ (at_succ (at_succ (at_succ (at_succ (at_zero)))))))) (by kernel_rfl) (by kernel_rfl) (by kernel_rfl) (by kernel_rfl) (fun _ _ _ h => h) (Or.inl ⟨by rfl, ?y7r1⟩) (by assumption) ?z7r1
        case y7r1 => intro wq hSw; (try dsimp only at hSw); go_simp; try with_reducible rfl
        try simp only [Act.put, List.setIfInBounds_toArray, List.set_cons_zero, List.set_cons_succ]
        refine takeS (i := 8) (v := ?v8r1) (at_succ (at_succ (at_succ (at_succ (at_succ (at_succ (at_succ (at_succ (at_zero))))))))) (by kernel_rfl) (by kernel_rfl) (by kernel_rfl) (by kernel_rfl) (fun _ _ _ h => h) (Or.inl ⟨by rfl, ?y8r1⟩) (by assumption) ?z8r1
        case y8r1 => intro wq hSw; (try dsimp only at hSw); go_simp; try with_reducible rfl
        try simp only [Act.put, List.setIfInBounds_toArray, List.set_cons_zero, List.set_cons_succ]
        refine takeS (i := 9) (v := ?v9r1) (at_succ (at_succ (at_succ (at_succ (at_succ (at_succ (at_succ (at_succ (at_succ (at_zero)))))))))) (by kernel_rfl) (by kernel_rfl) (by kernel_rfl) (by kernel_rfl) (fun _ _ _ h => h) (Or.inl ⟨by rfl, ?y9r1⟩) (by assumption) ?z9r1
        case y9r1 => intro wq hSw; (try dsimp only at hSw); go_simp; try with_reducible rfl
        try simp only [Act.put, List.setIfInBounds_toArray, List.set_cons_zero, List.set_cons_succ]
        refine takeS (i := 10) (v := ?v10r1) (at_succ (at_succ (at_succ (at_succ (at_succ (at_succ (at_succ (at_succ (at_succ (at_succ (at_zero))))))))))) (by kernel_rfl) (by kernel_rfl) (by kernel_rfl) (by kernel_rfl) (fun _ _ _ h => h) (Or.inl ⟨by rfl, ?y10r1⟩) (by assumption) ?z10r1
        case y10r1 => intro wq hSw; (try dsimp only at hSw); go_simp; try with_reducible rfl
        try simp only [Act.put, List.setIfInBounds_toArray, List.set_cons_zero, List.set_cons_succ]
        refine takeS (i := 11) (v := ?v11r1) (at_succ (at_succ (at_succ (at_succ (at_succ (at_succ (at_succ (at_succ (at_succ (at_succ (at_succ (at_zero)))))))))))) (by kernel_rfl) (by kernel_rfl) (by kernel_rfl) (by kernel_rfl) (fun _ _ _ h => h) (Or.inl ⟨by rfl, ?y11r1⟩) (by assumption) ?z11r1
        case y11r1 => intro wq hSw; (try dsimp only at hSw); go_simp; try with_reducible rfl
        try simp only [Act.put, List.setIfInBounds_toArray, List.set_cons_zero, List.set_cons_succ]
        refine takeS (i := 12) (v := ?v12r1) (at_succ (at_succ (at_succ (at_succ (at_succ (at_succ (at_succ (at_succ (at_succ (at_succ (at_succ (at_succ (at_zero))))))))))))) (by kernel_rfl) (by kernel_rfl) (by kernel_rfl) (by kernel_rfl) (fun _ _ _ h => h) (Or.inl ⟨by rfl, ?y12r1⟩) (by assumption) ?z12r1
        case y12r1 => intro wq hSw; (try dsimp only at hSw); go_simp; try with_reducible rfl
        try simp only [Act.put, List.setIfInBounds_toArray, List.set_cons_zero, List.set_cons_succ]
        refine stepS (i := 13) (by kernel_rfl) (at_succ (at_succ (at_succ (at_succ (at_succ (at_succ (at_succ (at_succ (at_succ (at_succ (at_succ (at_succ (at_succ (at_zero)))))))))))))) (fun K hK => ?_)
        go_simp
        clear hS
        refine hK.out _ _ (HKP.out _ (HBD.out.alloc (Nat.le_refl _) _)) (fun hS => ?_)
        clear hK K
        try simp only [Act.put, List.setIfInBounds_toArray, List.set_cons_zero, List.set_cons_succ]
        refine stepS (i := 14) (by kernel_rfl) (at_succ (at_succ (at_succ (at_succ (at_succ (at_succ (at_succ (at_succ (at_succ (at_succ (at_succ (at_succ (at_succ (at_succ (at_zero))))))))))))))) (fun K hK => ?_)
        refine step_append_src (by rfl) (.tmp 57) (.tmp 66) _ (by rfl) B 117 _ 3 24 Tryz.underlying83 info_rf (by rfl) (by decide) vr kr (s.rf.flatMap rfC) (by rfl) (HP1.out _ (HBD.out.alloc HBD.out.size _)).2.2 (Lt _) (some ⟨w4.heap.size, 0, none⟩) 1 1 (rfC ⟨0, gm, fq.1⟩) (by rfl) (HLI.out w4.drew) rfl HON.out (by unfold maxLen; omega) (by omega) (by have := HBD.out.size; have := HBW4.out; simp; omega) ?_
        intro v3 w5 hown3 hg3 hat3
        have hf3 := Lib.hid (HP2.out _ (HBD.out.alloc HBD.out.size _) v3 w5 hown3 hg3 hat3)
        have hc3 := hf3.out.1
        have hz3 := hf3.out.2.1
        have hs3 : w5.cell? ⟨R, 6, none⟩ = some vr ∧ w5.cell? ⟨R, 1, none⟩ = some (.int .i64 0) ∧ w5.cell? ⟨wr.heap.size, 5, none⟩ = some (.int .i64 gm) := by
          exact ⟨hc3, hf3.out.2.2.2.2.2.1, cell_of ((hf3.out.2.2.2.2.2.2 _ _ _ _ HX4.out (by decide)).trans HX4.out) 5 _ rfl⟩
        obtain ⟨Av, cv, rfl⟩ := own_slice hown3
        clear hown3 hg3 hat3 hS
        refine hK.out _ _ hs3 (fun hS => ?_)
        clear hs3
        clear hK K
        try simp only [Act.put, List.setIfInBounds_toArray, List.set_cons_zero, List.set_cons_succ]
        refine tailZ (i := 15) (by kernel_rfl) (at_succ (at_succ (at_succ (at_succ (at_succ (at_succ (at_succ (at_succ (at_succ (at_succ (at_succ (at_succ (at_succ (at_succ (at_succ (at_zero)))))))))))))))) (by kernel_rfl) (fun K hK => ?_)
        go_simp
        refine hK.out _ _ ?_
        clear hK K
        try simp only [Act.put, List.setIfInBounds_toArray, List.set_cons_zero, List.set_cons_succ]
        refine tailZ (i := 16) (by kernel_rfl) (at_succ (at_succ (at_succ (at_succ (at_succ (at_succ (at_succ (at_succ (at_succ (at_succ (at_succ (at_succ (at_succ (at_succ (at_succ (at_succ (at_zero))))))))))))))))) (by kernel_rfl) (fun K hK => ?_)
        go_simp
        refine hK.out _ _ ?_
        clear hK K
        try simp only [Act.put, List.setIfInBounds_toArray, List.set_cons_zero, List.set_cons_succ]
        refine tailZ (i := 17) (by kernel_rfl) (at_succ (at_succ (at_succ (at_succ (at_succ (at_succ (at_succ (at_succ (at_succ (at_succ (at_succ (at_succ (at_succ (at_succ (at_succ (at_succ (at_succ (at_zero)))))))))))))))))) (by kernel_rfl) (fun K hK => ?_)
        go_simp
        refine hK.out _ _ ?_
        clear hK K
        try simp only [Act.put, List.setIfInBounds_toArray, List.set_cons_zero, List.set_cons_succ]
        refine doneS (by kernel_rfl) ?_ _
        have hr6 := hf3.out.2.2.1
        have hb6 := hf3.out.2.2.2.1
        have hf6 := hf3.out.2.2.2.2.1
        generalize w5.setCell ⟨R, 6, none⟩ (.slice Av (kr + 1) cv) = w6 at *
        have hx6 := HX5.out w6 hf6
        have y6 := cell_of hx6 6 _ rfl
        have hl6 := lt_of_heap hx6
        have H6 := Lib.hid (show RsM w6 B R p bn (segN (firstN ss xs) ⟨gk, gv, gt, gs, ge, gm⟩ s) by rw [HSG.out, if_neg HQ.out]; exact hr6)
        have HB6 := Lib.hid (HB4.out.trans hb6)
        have HF6 := Lib.hid (HF4.out.trans hf6)
        have HVN := Lib.hid (visall_nil R A2 c2 w6)
        clear hx6 hr6 hb6 hf6 hf3 hc3 hz3 hS HX5 HP1 HP2 HKP HLI
        go_wp2_with fail
        refine HVN.out.mono ?_
        rintro e w7 ⟨rfl, rfl⟩
        go_wp2_with fail
        go_roundw
        case rel => exact .inr ⟨by go_num, rfl, ⟨_, rfl⟩, H6.out, HB6.out, HF6.out⟩
        case measure => simp [intOf]
    · have H1 := Lib.hid hr1
      have H2 := Lib.hid hbl1
      have H3 := Lib.hid hfr1
      clear hr1 hbl1 hfr1
      go_wp2_with fail
      go_ret
      exact ⟨rfl, H1.out, H2.out, H3.out⟩
end Go.Proofs.YtpibenilagloaaaGreatDoor
