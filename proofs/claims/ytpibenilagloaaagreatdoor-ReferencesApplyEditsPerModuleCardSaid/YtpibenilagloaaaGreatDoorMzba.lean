import Derived.Test.YtpibenilagloaaaGreatDoorMzay
import Derived.Test.YtpibenilagloaaaGreatDoorMzaz
namespace Go.Proofs.YtpibenilagloaaaGreatDoor
open Go.RowKit
set_option linter.unusedVariables false
theorem TreesV.get {w : World} {F : Nat → Prop} : ∀ (xs : List Tree) (b i k : Nat) (x : Tree), TreesV w F xs b i → xs[k]? = some x → ∃ v0 v1 v2, w.cell? ⟨b, i + k * 3, none⟩ = some v0 ∧ w.cell? ⟨b, i + k * 3 + 1, none⟩ = some v1 ∧ w.cell? ⟨b, i + k * 3 + 2, none⟩ = some v2 ∧ TreeV w F x v0 v1 v2
  | [], _, _, _, _, _, h => by simp at h
  | y :: r, b, i, 0, x, h, hk => by
    simp at hk; subst hk
    unfold TreesV at h
    rw [Nat.zero_mul, Nat.add_zero]
    exact h.1
  | y :: r, b, i, k + 1, x, h, hk => by
    unfold TreesV at h
    have := TreesV.get r b (i + 3) k x h.2 (by simpa using hk)
    rw [show i + (k + 1) * 3 = i + 3 + k * 3 by omega]
    exact this
def FinPost (M : MM) (w : World) (F : Nat → Prop) (p : Nat) (src : ByteArray) (b : BS) (n : Node) (e : Ending) (w' : World) : Prop :=
  ∃ us M', e = .returned (.agg us.toArray) ∧ NodeV w' F n us ∧ BAt w' p M' src b ∧ Step M w M' w'
theorem nfinish_any (w : World) (p : Nat) (M : MM) (src : ByteArray) (b : BS) (hB : BAt w p M src b) (h : Hd) (ch : List Node) (A : Option Addr) (c : Nat) (F : Nat → Prop)
    (hV : ch = [] ∨ ∃ b off, A = some ⟨b, off, none⟩ ∧ F b ∧ NodesV w F ch b off) (hF : ∀ g, F g → g < w.heap.size ∧ ¬ M g) (h60 : h.k = 60 → ch ≠ []) (h46 : h.k = 46 → 0 ≤ h.s ∧ h.s ≤ h.e ∧ h.e ≤ src.size) (hl : b.ds.length ≤ 1000000) :
    Calls Tryz.prog 89 #[.pointer (some ⟨p, 0, none⟩), .agg #[.int .i64 h.k, .int .i64 h.v, .string h.t, .int .i64 h.s, .int .i64 h.e, .int .i64 h.nm, .slice A ch.length c]] w (FinPost M w F p src (finB h b) (finN src h ch)) := by
  have keep : ∀ {w'}, Below w.heap.size w w' → ∀ g, F g → w'.heap[g]? = w.heap[g]? := fun hb g hg => hb.block g (hF g hg).1
  by_cases k1 : h.k = 60
  · obtain ⟨b0, off, rfl, hb, hN⟩ := hV.resolve_left (h60 k1)
    cases ch with
    | nil => exact absurd rfl (h60 k1)
    | cons x r =>
      have hx := hN
      unfold NodesV at hx
      obtain ⟨⟨vs, hv, hc⟩, _⟩ := hx
      obtain ⟨A2, c2, rfl, hd⟩ := hv.vals
      refine (finish_paren w p h x.h b0 off (x :: r).length c x.ch.length c2 A2 k1 (by simp) (hc 0 _ rfl) (hc 1 _ rfl) (hc 2 _ rfl) (hc 3 _ rfl) (hc 4 _ rfl) (hc 5 _ rfl) (hc 6 _ rfl) (hF b0 hb).1).mono ?_
      rintro e w' ⟨rfl, hbw⟩
      have e1 : finN src h (x :: r) = .mk { x.h with s := h.s, e := h.e } x.ch := by unfold finN; rw [if_pos k1]; rfl
      have e2 : finB h b = b := by unfold finB; rw [if_pos k1]
      rw [e1, e2]
      refine ⟨_, M, rfl, ?_, hB.below hbw, Step.of_below hbw⟩
      unfold NodeV
      refine ⟨A2, c2, rfl, ?_⟩
      rcases hd with hd | ⟨b1, o1, rfl, hb1, hn1⟩
      · exact .inl hd
      · exact .inr ⟨b1, o1, rfl, hb1, NodesV.keep (fun _ h => h) (keep hbw) _ _ _ hb1 hn1⟩
  by_cases k2 : h.k = 46
  · obtain ⟨g1, g2, g3⟩ := h46 k2
    refine (finish_error w p M src b hB h A ch.length c k2 g1 g2 g3 hl).mono ?_
    rintro e w' ⟨rfl, M', h1, h2⟩
    have e1 : finN src h ch = .mk ⟨46, 0, src.extract h.s.toNat h.e.toNat, h.s, h.e, -1⟩ [] := by unfold finN; rw [if_neg k1, if_pos k2]
    have e2 : finB h b = b.rep (if h.s = h.e then 1 else 2) h.s h.e := by unfold finB; rw [if_neg k1, if_pos k2]
    rw [e1, e2]
    refine ⟨_, M', rfl, ?_, h1, h2⟩
    unfold NodeV
    exact ⟨none, 0, rfl, .inl rfl⟩
  · refine (finish_same w p M src b hB h A ch.length c k1 k2).mono ?_
    rintro e w' ⟨rfl, hbw⟩
    have e1 : finN src h ch = .mk h ch := by unfold finN; rw [if_neg k1, if_neg k2]
    have e2 : finB h b = b := by unfold finB; rw [if_neg k1, if_neg k2]
    rw [e1, e2]
    refine ⟨_, M, rfl, ?_, hB.below hbw, Step.of_below hbw⟩
    unfold NodeV
    refine ⟨A, c, rfl, ?_⟩
    rcases hV with hd | ⟨b1, o1, rfl, hb1, hn1⟩
    · exact .inl hd
    · exact .inr ⟨b1, o1, rfl, hb1, NodesV.keep (fun _ h => h) (keep hbw) _ _ _ hb1 hn1⟩
def NF (B : Nat) (vb v : Value) (w : World) (c : Nat) : Prop := B + 3 ≤ c ∧ c < w.heap.size ∧ vb.ownBlock ≠ some c ∧ v.ownBlock ≠ some c
structure NIn (w : World) (p : Nat) (M : MM) (src : ByteArray) (k0 : Int) (t0 : ByteArray) (sl : Value) (wr : World) (s : NS) (vb v : Value) (xs : List Value) : Prop where
  bat : BAtX wr p (Tight p vb M.x) src s.b vb
  step : Step M w (Tight p vb M.x) wr
  box : wr.heap[w.heap.size]? = some (.cells #[.int .i64 k0, .string t0, sl] 121 (0, 0))
  res : wr.heap[w.heap.size + 1]? = some (.cells #[.int .i64 0, .int .i64 0, .string ⟨#[]⟩, .int .i64 0, .int .i64 0, .int .i64 0, .slice none 0 0] 57 (0, 0))
  node : HAt wr (w.heap.size + 2) s.h v
  row : wr.ownsRow (w.heap.size + 3) 57 7 v s.ch.length xs
  rown : RowN wr (NF w.heap.size vb v wr) s.ch xs
  apart : ∀ g, v.ownBlock = some g → vb.ownBlock ≠ some g
  out : ∀ g, vb.ownBlock = some g → g < w.heap.size ∨ w.heap.size + 3 ≤ g
  pw : p < w.heap.size
theorem NIn.tight {w : World} {p : Nat} {M : MM} {src : ByteArray} {k0 : Int} {t0 : ByteArray} {sl : Value} {wr : World} {s : NS} {vb v : Value} {xs : List Value} (h : NIn w p M src k0 t0 sl wr s vb v xs) : (∀ c, Tight p vb M.x c → c < wr.heap.size) ∧ (∀ i, i < 3 → ¬ Tight p vb M.x (w.heap.size + i)) ∧ (∀ g, v.ownBlock = some g → ¬ Tight p vb M.x g) :=
  ⟨fun c hc => hc.elim (fun e => e ▸ h.bat.lt) (fun e => (h.bat.row.lt _ e).2), fun i hi e => e.elim (fun e => by have := h.pw; omega) (fun e => (h.out _ e).elim (fun e => by omega) (fun e => by omega)), fun g hg e => e.elim (fun e => by have := (h.row.lt g hg).1; have := h.pw; omega) (fun e => h.apart g hg e)⟩
theorem NIn.below {w : World} {p : Nat} {M : MM} {src : ByteArray} {k0 : Int} {t0 : ByteArray} {sl : Value} {wr wr' : World} {s : NS} {vb v : Value} {xs : List Value} (h : NIn w p M src k0 t0 sl wr s vb v xs) (hb : Below wr.heap.size wr wr') : NIn w p M src k0 t0 sl wr' s vb v xs := by
  have hs := hb.size
  have hB : BAtX wr' p (Tight p vb M.x) src s.b vb := by
    have hx := h.bat
    exact ⟨(hb.block _ hx.lt).trans hx.blk, ownsRow_below hx.row fun g hg => hb.block g (hx.row.lt g hg).2, hx.mp, hx.mr, hx.gl.keep hs (fun b h => hb.block b (Nat.lt_of_lt_of_le h hx.gl.big)), hx.glM⟩
  refine ⟨hB, h.step.below (hb.mono h.step.size), (hb.block _ (lt_of_heap h.box)).trans h.box, (hb.block _ (lt_of_heap h.res)).trans h.res, h.node.keep (hb.block _ (lt_of_heap h.node)), ownsRow_below h.row fun g hg => hb.block g (h.row.lt g hg).2, ?_, h.apart, h.out, h.pw⟩
  exact RowN.keep (fun c hc => ⟨hc.1, Nat.lt_of_lt_of_le hc.2.1 hs, hc.2.2⟩) (fun c hc => hb.block c hc.2.1) _ _ h.rown
theorem NIn.call {w : World} {p : Nat} {M M' : MM} {src : ByteArray} {k0 : Int} {t0 : ByteArray} {sl : Value} {wr wr' : World} {s : NS} {vb v : Value} {xs : List Value} (h : NIn w p M src k0 t0 sl wr s vb v xs) {b' : BS} (hB : BAt wr' p M' src b') (hS : Step (Tight p vb M.x) wr M' wr') : ∃ vb', NIn w p M src k0 t0 sl wr' { s with b := b' } vb' v xs ∧ ∀ c, Tight p vb' M.x c → M' c := by
  obtain ⟨vb', hX⟩ := hB
  obtain ⟨t1, t2, t3⟩ := h.tight
  have hMx : M'.x = M.x := hS.hx
  have hT := hX.tight
  rw [hMx] at hT
  have hin : ∀ c, Tight p vb' M.x c → M' c := fun c hc => hc.elim (fun e => e ▸ hX.mp) (fun e => (hX.mr c e).1)
  have far : ∀ c, c < wr.heap.size → ¬ Tight p vb M.x c → wr'.heap[c]? = wr.heap[c]? ∧ ¬ Tight p vb' M.x c := fun c hc hn => ⟨hS.block c hc hn, fun e => (hS.own c (hin c e)).elim hn (fun e => by omega)⟩
  have hS2 : Step (Tight p vb M.x) wr (Tight p vb' M.x) wr' := ⟨hS.os, hS.tape, hS.output, hS.size, hS.block, fun c hc => hS.own c (hin c hc), rfl⟩
  have l0 := lt_of_heap h.box
  have l1 := lt_of_heap h.res
  have l2 := lt_of_heap h.node
  have f0 := far _ l0 (t2 0 (by omega))
  have f1 := far _ l1 (t2 1 (by omega))
  have f2 := far _ l2 (t2 2 (by omega))
  refine ⟨vb', ⟨hT, h.step.trans hS2, f0.1.trans h.box, f1.1.trans h.res, h.node.keep f2.1, ownsRow_below h.row fun g hg => (far g (h.row.lt g hg).2 (t3 g hg)).1, ?_, ?_, ?_, h.pw⟩, hin⟩
  · refine RowN.keep (fun c hc => ?_) (fun c hc => ?_) _ _ h.rown
    · have hn : ¬ Tight p vb M.x c := fun e => e.elim (fun e => by have := hc.1; have := h.pw; omega) hc.2.2.1
      exact ⟨hc.1, Nat.lt_of_lt_of_le hc.2.1 hS.size, fun e => (far c hc.2.1 hn).2 (.inr e), hc.2.2.2⟩
    · have hn : ¬ Tight p vb M.x c := fun e => e.elim (fun e => by have := hc.1; have := h.pw; omega) hc.2.2.1
      exact (far c hc.2.1 hn).1
  · exact fun g hg e => (far g (h.row.lt g hg).2 (t3 g hg)).2 (.inr e)
  · intro g hg
    rcases hS2.own g (.inr hg) with e | e
    · rcases e with e | e
      · exact .inl (e ▸ h.pw)
      · exact h.out g e
    · right; omega
theorem NIn.upd {w : World} {p : Nat} {M : MM} {src : ByteArray} {k0 : Int} {t0 : ByteArray} {sl : Value} {wr wr' : World} {s : NS} {vb v : Value} {xs : List Value} (h : NIn w p M src k0 t0 sl wr s vb v xs) (hu : Upd (w.heap.size + 2) wr wr') {h' : Hd} (hn : HAt wr' (w.heap.size + 2) h' v) : NIn w p M src k0 t0 sl wr' { s with h := h' } vb v xs := by
  obtain ⟨t1, t2, t3⟩ := h.tight
  have hgl := h.bat.gl.big
  have hsz := h.step.size
  have hng : ng ≤ w.heap.size + 2 := by
    have := h.bat.glM p (.inl rfl)
    have := h.pw
    omega
  have hB : BAtX wr' p (Tight p vb M.x) src s.b vb := by
    have hx := h.bat
    have k : ∀ c, Tight p vb M.x c → wr'.heap[c]? = wr.heap[c]? := fun c hc => hu.block c (by rintro rfl; exact t2 2 (by omega) hc)
    exact ⟨(k _ hx.mp).trans hx.blk, ownsRow_below hx.row fun g hgv => k _ (hx.mr g hgv).1, hx.mp, hx.mr, hx.gl.keep (Nat.le_of_eq hu.size.symm) (fun c hc => hu.block c (by omega)), hx.glM⟩
  refine ⟨hB, h.step.upd hu (by omega), (hu.block _ (by omega)).trans h.box, (hu.block _ (by omega)).trans h.res, hn, ownsRow_below h.row fun g hg => hu.block g (by have := (h.row.lt g hg).1; omega), ?_, h.apart, h.out, h.pw⟩
  exact RowN.keep (fun c hc => ⟨hc.1, by rw [hu.size]; exact hc.2.1, hc.2.2⟩) (fun c hc => hu.block c (by have := hc.1; omega)) _ _ h.rown
theorem NIn.push {w : World} {p : Nat} {M : MM} {src : ByteArray} {k0 : Int} {t0 : ByteArray} {sl : Value} {wr w2 : World} {s : NS} {vb v v' : Value} {xs us : List Value} (h : NIn w p M src k0 t0 sl wr s vb v xs) {x : Node} (hx : NodeV wr (NF w.heap.size vb v wr) x us)
    (hg : wr.grownBy w2 v.ownBlock) (ho : w2.ownsRow (w.heap.size + 3) 57 7 v' (s.ch.length + 1) (xs ++ us)) (hat : v'.ownBlock = v.ownBlock ∨ ∃ g, v'.ownBlock = some g ∧ wr.heap.size ≤ g) {w3 : World} (hu : Upd (w.heap.size + 2) w2 w3) (hn : HAt w3 (w.heap.size + 2) s.h v') :
    NIn w p M src k0 t0 sl w3 { s with ch := s.ch ++ [x] } vb v' (xs ++ us) := by
  obtain ⟨t1, t2, t3⟩ := h.tight
  have hsz := h.step.size
  have hng : ng ≤ w.heap.size + 2 := by
    have := h.bat.glM p (.inl rfl)
    have := h.pw
    omega
  have l0 := lt_of_heap h.box
  have l1 := lt_of_heap h.res
  have l2 := lt_of_heap h.node
  have hvlt := h.row.lt
  -- blocks that stay
  have far : ∀ c, c < wr.heap.size → c ≠ w.heap.size + 2 → v.ownBlock ≠ some c → w3.heap[c]? = wr.heap[c]? := fun c hc hne hv => (hu.block c hne).trans (hg.block c hc (fun e => hv e.symm))
  have hv3 : ∀ c, c < w.heap.size + 3 → v.ownBlock ≠ some c := fun c hc e => by have := (hvlt c e).1; omega
  have hB : BAtX w3 p (Tight p vb M.x) src s.b vb := by
    have hx := h.bat
    have hpw := h.pw
    have k : ∀ c, Tight p vb M.x c → w3.heap[c]? = wr.heap[c]? := fun c hc => far c (t1 c hc) (by rintro rfl; exact t2 2 (by omega) hc) (fun e => t3 c e hc)
    exact ⟨(k _ hx.mp).trans hx.blk, ownsRow_below hx.row fun g hgv => k _ (hx.mr g hgv).1, hx.mp, hx.mr, hx.gl.keep (by rw [hu.size]; exact hg.size) (fun c hc => far c (Nat.lt_of_lt_of_le hc hx.gl.big) (by omega) (hv3 c (by omega))), hx.glM⟩
  have hsub : ∀ c, NF w.heap.size vb v wr c → NF w.heap.size vb v' w3 c := fun c hc => by
    refine ⟨hc.1, by rw [hu.size]; exact Nat.lt_of_lt_of_le hc.2.1 hg.size, hc.2.2.1, fun e => ?_⟩
    rcases hat with e2 | ⟨g, e2, hge⟩
    · exact hc.2.2.2 (by rw [← e2]; exact e)
    · rw [e2] at e; injection e with e; have := hc.2.1; omega
  have hkp : ∀ c, NF w.heap.size vb v wr c → w3.heap[c]? = wr.heap[c]? := fun c hc => far c hc.2.1 (by have := hc.1; omega) hc.2.2.2
  refine ⟨hB, ⟨hu.os.trans (hg.os.trans h.step.os), hu.tape.trans (hg.tape.trans h.step.tape), hu.output.trans (hg.output.trans h.step.output), by rw [hu.size]; exact Nat.le_trans hsz hg.size, fun c hc hM => (far c (by omega) (by omega) (hv3 c (by omega))).trans (h.step.block c hc hM), h.step.own, h.step.hx⟩,
    (far _ l0 (by omega) (hv3 _ (by omega))).trans h.box, (far _ l1 (by omega) (hv3 _ (by omega))).trans h.res, hn, ?_, ?_, ?_, h.out, h.pw⟩
  · simp only [List.length_append, List.length_singleton]
    exact ownsRow_below ho fun g hgv => hu.block g (by have := (ho.lt g hgv).1; omega)
  · exact RowN.snoc (NodeV.keep hsub hkp _ _ hx) _ _ (RowN.keep hsub hkp _ _ h.rown)
  · intro g hg2 e
    rcases hat with e2 | ⟨g', e2, hge⟩
    · exact h.apart g (by rw [← e2]; exact hg2) e
    · rw [e2] at hg2; injection hg2 with hg2; subst hg2
      have := (h.bat.row.lt _ e).2
      omega
theorem set7 (xs : List Value) (n : Nat) (h : xs.length = n * 7) (z0 z1 z2 z3 z4 z5 z6 u0 u1 u2 u3 u4 u5 u6 : Value) : (((((((xs ++ [z0, z1, z2, z3, z4, z5, z6]).set (n * 7) u0).set (n * 7 + 1) u1).set (n * 7 + 2) u2).set (n * 7 + 3) u3).set (n * 7 + 4) u4).set (n * 7 + 5) u5).set (n * 7 + 6) u6 = xs ++ [u0, u1, u2, u3, u4, u5, u6] := by
  rw [← h]
  simp [List.set_append_right]
theorem NIn.add {w : World} {p : Nat} {M : MM} {src : ByteArray} {k0 : Int} {t0 : ByteArray} {sl : Value} {wr w2 : World} {s : NS} {vb v : Value} {xs : List Value} (h : NIn w p M src k0 t0 sl wr s vb v xs) {x : Node} {u0 u1 u2 u3 u4 u5 u6 : Value} (hx : NodeV wr (NF w.heap.size vb v wr) x [u0, u1, u2, u3, u4, u5, u6])
    {n gg cap : Nat} (hn : s.ch.length = n) (hg : wr.grownBy w2 v.ownBlock) {z0 z1 z2 z3 z4 z5 z6 : Value} (ho : w2.ownsRow (w.heap.size + 3) 57 7 (.slice (some ⟨gg, 0, none⟩) (n + 1) cap) (n + 1) (xs ++ [z0, z1, z2, z3, z4, z5, z6])) (hat : v.ownBlock = some gg ∨ wr.heap.size ≤ gg) {wf : World}
    (hwf : (((((((w2.setCell ⟨gg, n * 7, none⟩ u0).setCell ⟨gg, n * 7 + 1, none⟩ u1).setCell ⟨gg, n * 7 + 2, none⟩ u2).setCell ⟨gg, n * 7 + 3, none⟩ u3).setCell ⟨gg, n * 7 + 4, none⟩ u4).setCell ⟨gg, n * 7 + 5, none⟩ u5).setCell ⟨gg, n * 7 + 6, none⟩ u6).setCell ⟨w.heap.size + 1 + 1, 6, none⟩ (.slice (some ⟨gg, 0, none⟩) (n + 1) cap) = wf) :
    NIn w p M src k0 t0 sl wf { s with ch := s.ch ++ [x] } vb (.slice (some ⟨gg, 0, none⟩) (n + 1) cap) (xs ++ [u0, u1, u2, u3, u4, u5, u6]) := by
  subst hn
  obtain ⟨o1, q1⟩ := ho.stored (s.ch.length * 7) u0
  obtain ⟨o2, q2⟩ := o1.stored (s.ch.length * 7 + 1) u1
  obtain ⟨o3, q3⟩ := o2.stored (s.ch.length * 7 + 2) u2
  obtain ⟨o4, q4⟩ := o3.stored (s.ch.length * 7 + 3) u3
  obtain ⟨o5, q5⟩ := o4.stored (s.ch.length * 7 + 4) u4
  obtain ⟨o6, q6⟩ := o5.stored (s.ch.length * 7 + 5) u5
  obtain ⟨o7, q7⟩ := o6.stored (s.ch.length * 7 + 6) u6
  rw [set7 xs s.ch.length h.row.1] at o7
  have hgg := (ho.lt gg rfl).1
  have e1 : v.ownBlock = (Value.slice (some ⟨gg, 0, none⟩) (s.ch.length + 1) cap).ownBlock ∨ wr.heap.size ≤ gg := hat.imp id id
  have hgr : wr.grownBy (((((((w2.setCell ⟨gg, s.ch.length * 7, none⟩ u0).setCell ⟨gg, s.ch.length * 7 + 1, none⟩ u1).setCell ⟨gg, s.ch.length * 7 + 2, none⟩ u2).setCell ⟨gg, s.ch.length * 7 + 3, none⟩ u3).setCell ⟨gg, s.ch.length * 7 + 4, none⟩ u4).setCell ⟨gg, s.ch.length * 7 + 5, none⟩ u5).setCell ⟨gg, s.ch.length * 7 + 6, none⟩ u6) v.ownBlock := by
    refine ⟨q7.os.trans (q6.os.trans (q5.os.trans (q4.os.trans (q3.os.trans (q2.os.trans (q1.os.trans hg.os)))))), q7.tape.trans (q6.tape.trans (q5.tape.trans (q4.tape.trans (q3.tape.trans (q2.tape.trans (q1.tape.trans hg.tape)))))), q7.output.trans (q6.output.trans (q5.output.trans (q4.output.trans (q3.output.trans (q2.output.trans (q1.output.trans hg.output)))))), by simpa using hg.size, fun c hc hne => ?_⟩
    have hcg : c ≠ gg := by
      rintro rfl
      rcases hat with e | e
      · exact hne e.symm
      · omega
    rw [Below.heap_setCell _ _ _ _ hcg, Below.heap_setCell _ _ _ _ hcg, Below.heap_setCell _ _ _ _ hcg, Below.heap_setCell _ _ _ _ hcg, Below.heap_setCell _ _ _ _ hcg, Below.heap_setCell _ _ _ _ hcg, Below.heap_setCell _ _ _ _ hcg]
    exact hg.block c hc hne
  have hu : Upd (w.heap.size + 2) (((((((w2.setCell ⟨gg, s.ch.length * 7, none⟩ u0).setCell ⟨gg, s.ch.length * 7 + 1, none⟩ u1).setCell ⟨gg, s.ch.length * 7 + 2, none⟩ u2).setCell ⟨gg, s.ch.length * 7 + 3, none⟩ u3).setCell ⟨gg, s.ch.length * 7 + 4, none⟩ u4).setCell ⟨gg, s.ch.length * 7 + 5, none⟩ u5).setCell ⟨gg, s.ch.length * 7 + 6, none⟩ u6) wf := by
    rw [← hwf]
    exact (Upd.refl _ _).set 6 _
  refine h.push hx hgr o7 (hat.imp (fun e => e.symm) (fun e => ⟨gg, rfl, e⟩)) hu ?_
  rw [← hwf]
  exact heap_set ((hgr.block _ (lt_of_heap h.node) (fun e => by have := (h.row.lt _ e.symm).1; omega)).trans h.node) 6 _
end Go.Proofs.YtpibenilagloaaaGreatDoor
