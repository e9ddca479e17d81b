import Derived.Test.YtpibenilagloaaaGreatDoorMzab
import Derived.Deep.DeepMust
import Derived.Deep.RegionLaw
import Derived.StillTailTactics
namespace Go.Proofs.YtpibenilagloaaaGreatDoor
open Go.RowKit
set_option linter.unusedVariables false
theorem lowCells_length (low : List LowF) : (low.flatMap LowF.cells).length = low.length * 3 := by
  induction low with
  | nil => rfl
  | cons x xs ih => simp only [List.flatMap_cons, List.length_append, ih, List.length_cons]; simp [LowF.cells]; omega
def With (M : MM) (v : Value) : MM := ⟨fun b => M b ∨ v.ownBlock = some b, M.x⟩
theorem PAtX.retop {W wf : World} {p : Nat} {M : MM} {toks : List Tok} {low : List LowF} {kind : Int} {s : PS} {g cap : Nat} {v : Value} {At : Option Addr} {ct : Nat} (h : PAtX W p M toks low kind s g cap v At ct) (v' : Value) (s' : PS)
    (hos : wf.os = W.os) (htape : wf.tape = W.tape) (hout : wf.output = W.output) (hsize : W.heap.size ≤ wf.heap.size)
    (hb : ∀ b, b < W.heap.size → b ≠ g → v.ownBlock ≠ some b → wf.heap[b]? = W.heap[b]?)
    (hv : v'.ownBlock = none ∨ v'.ownBlock = v.ownBlock ∨ ∃ b, v'.ownBlock = some b ∧ W.heap.size ≤ b)
    (hrow : wf.ownsRow 0 121 3 (.slice (some ⟨g, 0, none⟩) (low.length + 1) cap) (low.length + 1) (low.flatMap LowF.cells ++ [.int .i64 kind, .string .empty, v']))
    (hkids : (∀ b, Fix W M b → Fix wf (With M v') b) → (∀ b, Fix W M b → wf.heap[b]? = W.heap[b]?) → KidsAt wf (Fix wf (With M v')) v' s'.ch)
    (hrest : s'.rest = s.rest) (h1 : s'.ch.length + s'.gas ≤ 1000000) (h2 : low.length + s'.gas ≤ 1000000) :
    PAtX wf p (With M v') toks low kind s' g cap v' At ct ∧ Step M W (With M v') wf := by
  obtain ⟨a1, a2, a3, a4, a5⟩ := h.apart
  obtain ⟨m1, m2, m3, m4⟩ := h.mine
  have hplt := lt_of_heap h.blk
  have hglt := (h.row.lt g rfl).2
  have hsame0 : ∀ b, b < W.heap.size → ¬ M b → wf.heap[b]? = W.heap[b]? := fun b h1 h2 => hb b h1 (fun e => h2 (by rw [e]; exact m2)) (fun e => h2 (m3 b e))
  have hsame : ∀ b, Fix W M b → wf.heap[b]? = W.heap[b]? := fun b hf => hsame0 b hf.1 hf.2
  have hnm : ∀ b, b < W.heap.size → ¬ M b → ¬ (With M v') b := fun b h1 h2 hw => by
    rcases hw with hw | hw
    · exact h2 hw
    · rcases hv with e | e | ⟨c, e, hc⟩
      · rw [e] at hw; cases hw
      · exact h2 (m3 b (by rw [← e]; exact hw))
      · rw [e] at hw; injection hw with hw; omega
  have hfix : ∀ b, Fix W M b → Fix wf (With M v') b := fun b hf => ⟨Nat.lt_of_lt_of_le hf.1 hsize, hnm b hf.1 hf.2, hf.3⟩
  have hp : wf.heap[p]? = W.heap[p]? := hb p hplt a1 a2
  have hlowv : ∀ f ∈ low, ∀ k, f.v.ownBlock = some k → wf.heap[k]? = W.heap[k]? := fun f hf k hk => by
    refine hb k ((h.lows f hf).lt k hk) (fun e => ?_) (fun e => ?_)
    · exact (a4 f hf).2.1 (by rw [hk, e])
    · rcases (a4 f hf).2.2 with e2 | e2
      · rw [hk] at e2; cases e2
      · exact e2 (by rw [hk, e])
  have hvlow : ∀ f ∈ low, f.v.ownBlock = none ∨ f.v.ownBlock ≠ v'.ownBlock := fun f hf => by
    cases hfv : f.v.ownBlock with
    | none => exact .inl rfl
    | some k =>
      right
      have hk := (h.lows f hf).lt k hfv
      rcases hv with e | e | ⟨c, e, hc⟩
      · rw [e]; simp
      · rw [e, ← hfv]
        rcases (a4 f hf).2.2 with e2 | e2
        · rw [hfv] at e2; cases e2
        · exact e2
      · rw [e]; intro e2; injection e2 with e2; omega
  have hn : ∀ k, k < W.heap.size → v.ownBlock ≠ some k → v'.ownBlock ≠ some k := fun k hk hne => by
    rcases hv with e | e | ⟨c, e, hc⟩
    · rw [e]; simp
    · rw [e]; exact hne
    · rw [e]; intro e2; injection e2 with e2; omega
  refine ⟨⟨hp.trans (by rw [hrest]; exact h.blk), hrow, hkids hfix hsame, fun f hf => (h.lows f hf).keep hfix hsame (hlowv f hf), h.tok.keep hfix hsame,
    ⟨a1, hn p hplt a2, hn g hglt a3, fun f hf => ⟨(a4 f hf).1, (a4 f hf).2.1, hvlow f hf⟩, a5⟩, ⟨.inl m1, .inl m2, fun b hb => .inr hb, fun f hf b hb => .inl (m4 f hf b hb)⟩,
    by rw [hrest]; exact h.rest, h1, h2, h.btok, h.asc.keep (hsame0 _ h.asc.lt h.ascM), hnm _ h.asc.lt h.ascM, ⟨Nat.lt_of_lt_of_le h.hole.1 hsize, hnm _ h.hole.1 h.hole.2⟩⟩,
    ⟨hos, htape, hout, hsize, hsame0, fun b hw => ?_, rfl⟩⟩
  rcases hw with hw | hw
  · exact .inl hw
  · rcases hv with e | e | ⟨c, e, hc⟩
    · rw [e] at hw; cases hw
    · exact .inl (m3 b (by rw [← e]; exact hw))
    · rw [e] at hw; injection hw with hw; exact .inr (by omega)
theorem set_comm (w : World) {a b : Addr} (h : a.block ≠ b.block) (u v : Value) : (w.setCell a u).setCell b v = (w.setCell b v).setCell a u := by
  simp only [World.setCell]
  congr 1
  apply Array.ext
  · simp
  · intro i h1 h2
    simp only [Array.getElem_modify]
    by_cases e1 : a.block = i <;> by_cases e2 : b.block = i <;> simp [e1, e2]
    exact absurd (e1.trans e2.symm) h
theorem set3 (xs : List Value) (n : Nat) (h : xs.length = n * 3) (z0 z1 z2 v0 v1 v2 : Value) : (((xs ++ [z0, z1, z2]).set (n * 3) v0).set (n * 3 + 1) v1).set (n * 3 + 2) v2 = xs ++ [v0, v1, v2] := by
  rw [← h]
  simp [List.set_append_right]
theorem add_fin {W w2 : World} {p : Nat} {M : MM} {toks : List Tok} {low : List LowF} {kind : Int} {s s' : PS} {g cap : Nat} {Av : Option Addr} {n cv : Nat} {At : Option Addr} {ct : Nat} (h : PAtX W p M toks low kind s g cap (.slice Av n cv) At ct)
    (hn : s.ch.length = n) {x : Tree} {v0 v1 v2 : Value} (hx : TreeV W (Fix W M) x v0 v1 v2) (hs : s.add [x] = some s') {xs : List Value} (hxl : xs.length = n * 3) (hrow : RowV W (Fix W M) xs s.ch)
    {gg cap' : Nat} (hg : W.grownBy w2 (Value.slice Av n cv).ownBlock) {z0 z1 z2 : Value} (ho : w2.ownsRow 0 121 3 (.slice (some ⟨gg, 0, none⟩) (n + 1) cap') (n + 1) (xs ++ [z0, z1, z2]))
    (hat : (Value.slice Av n cv).ownBlock = some gg ∨ W.heap.size ≤ gg) :
    ∃ M', PAt ((((w2.setCell ⟨gg, n * 3, none⟩ v0).setCell ⟨gg, n * 3 + 1, none⟩ v1).setCell ⟨gg, n * 3 + 2, none⟩ v2).setCell ⟨g, low.length * 3 + 2, none⟩ (.slice (some ⟨gg, 0, none⟩) (n + 1) cap')) p M' toks low kind s' ∧
      Step M W M' ((((w2.setCell ⟨gg, n * 3, none⟩ v0).setCell ⟨gg, n * 3 + 1, none⟩ v1).setCell ⟨gg, n * 3 + 2, none⟩ v2).setCell ⟨g, low.length * 3 + 2, none⟩ (.slice (some ⟨gg, 0, none⟩) (n + 1) cap')) := by
  have hap := h.apart.2.2.1
  have hglt := (h.row.lt g rfl).2
  have hgg : gg ≠ g := by
    rcases hat with e | e
    · intro e2; subst e2; exact hap e
    · omega
  have hl := lowCells_length low
  unfold PS.add at hs
  split at hs
  · next hgas =>
    injection hs with hs
    have hch : s'.ch = s.ch ++ [x] := by rw [← hs]
    have hrest : s'.rest = s.rest := by rw [← hs]
    have hg' : s'.gas = s.gas - 1 := by rw [← hs]; rfl
    have hlen : s'.ch.length = n + 1 := by rw [hch, List.length_append, hn]; rfl
    have b1 := h.bch
    have b2 := h.blow
    simp only [List.length_singleton] at hgas
    obtain ⟨o1, q1⟩ := ho.stored (n * 3) v0
    obtain ⟨o2, q2⟩ := o1.stored (n * 3 + 1) v1
    obtain ⟨o3, q3⟩ := o2.stored (n * 3 + 2) v2
    rw [set3 xs n hxl] at o3
    have r0 := h.row.kept hg (.inr (fun e => hap e.symm))
    have r1 := r0.kept q1 (.inr (fun e => hgg (by simpa [Value.ownBlock] using e.symm)))
    have r2 := r1.kept q2 (.inr (fun e => hgg (by simpa [Value.ownBlock] using e.symm)))
    have r3 := r2.kept q3 (.inr (fun e => hgg (by simpa [Value.ownBlock] using e.symm)))
    obtain ⟨r4, q4⟩ := r3.stored (low.length * 3 + 2) (.slice (some ⟨gg, 0, none⟩) (n + 1) cap')
    have o4 := o3.kept q4 (.inr (fun e => hgg (by simpa [Value.ownBlock] using e)))
    have hset : (low.flatMap LowF.cells ++ [.int .i64 kind, .string .empty, Value.slice Av n cv]).set (low.length * 3 + 2) (.slice (some ⟨gg, 0, none⟩) (n + 1) cap') = low.flatMap LowF.cells ++ [.int .i64 kind, .string .empty, .slice (some ⟨gg, 0, none⟩) (n + 1) cap'] := by
      rw [← hl]
      simp [List.set_append_right]
    rw [hset] at r4
    obtain ⟨hR, hS⟩ := h.retop (.slice (some ⟨gg, 0, none⟩) (n + 1) cap') s' (wf := (((w2.setCell ⟨gg, n * 3, none⟩ v0).setCell ⟨gg, n * 3 + 1, none⟩ v1).setCell ⟨gg, n * 3 + 2, none⟩ v2).setCell ⟨g, low.length * 3 + 2, none⟩ (.slice (some ⟨gg, 0, none⟩) (n + 1) cap'))
      (q4.os.trans (q3.os.trans (q2.os.trans (q1.os.trans hg.os)))) (q4.tape.trans (q3.tape.trans (q2.tape.trans (q1.tape.trans hg.tape)))) (q4.output.trans (q3.output.trans (q2.output.trans (q1.output.trans hg.output))))
      (Nat.le_trans hg.size (Nat.le_trans q1.size (Nat.le_trans q2.size (Nat.le_trans q3.size q4.size))))
      (fun b hlt hbg hbv => by
        have hbgg : b ≠ gg := by
          intro e
          subst e
          rcases hat with e | e
          · exact hbv e
          · omega
        rw [Below.heap_setCell _ _ _ _ hbg, Below.heap_setCell _ _ _ _ hbgg, Below.heap_setCell _ _ _ _ hbgg, Below.heap_setCell _ _ _ _ hbgg]
        exact hg.block b hlt (fun e => hbv e.symm))
      (by
        rcases hat with e | e
        · exact .inr (.inl e.symm)
        · exact .inr (.inr ⟨gg, rfl, e⟩))
      r4
      (fun hfix hsame => by
        refine ⟨xs ++ [v0, v1, v2], ?_, ?_⟩
        · rw [hlen]; exact o4
        · rw [hch]
          refine RowV.append _ _ (RowV.keep hfix hsame _ _ hrow) _ _ ?_
          unfold RowV
          exact ⟨TreeV.keep hfix hsame _ _ _ _ hx, by unfold RowV; trivial⟩)
      hrest (by rw [hlen, hg']; omega) (by rw [hg']; omega)
    exact ⟨_, ⟨_, _, _, _, _, hR⟩, hS⟩
  · cases hs

theorem PAtX.top {w : World} {p : Nat} {M : MM} {toks : List Tok} {low : List LowF} {kind : Int} {s : PS} {g cap : Nat} {v : Value} {At : Option Addr} {ct : Nat} (h : PAtX w p M toks low kind s g cap v At ct) :
    w.cell? ⟨g, low.length * 3, none⟩ = some (.int .i64 kind) ∧ w.cell? ⟨g, low.length * 3 + 1, none⟩ = some (.string .empty) ∧ w.cell? ⟨g, low.length * 3 + 2, none⟩ = some v := by
  have hl := lowCells_length low
  refine ⟨?_, ?_, ?_⟩
  · rw [h.row.cellAt _ (by omega), List.getElem?_append_right (by omega), hl]; simp
  · rw [h.row.cellAt _ (by omega), List.getElem?_append_right (by omega), hl]; simp [show low.length * 3 + 1 - low.length * 3 = 1 by omega]
  · rw [h.row.cellAt _ (by omega), List.getElem?_append_right (by omega), hl]; simp [show low.length * 3 + 2 - low.length * 3 = 2 by omega]
theorem own_below' {w w' : World} {base : Nat} {e : TypeId} {size : Nat} {v : Value} {n : Nat} {xs : List Value} (h : w.ownsRow base e size v n xs) (hb : Below w.heap.size w w') : w'.ownsRow base e size v n xs := ownsRow_below h fun k hk => hb.block k (h.lt k hk).2
theorem info_tree : (Tryz.prog.info? 121).map (fun i => (i.zero, i.size, i.bytes)) = some (some (.agg #[.int .i64 0, .string ⟨#[]⟩, .slice none 0 0]), 3, 48) := by kernel_rfl
set_option maxRecDepth 100000 in
set_option maxHeartbeats 1600000 in
theorem add_any (w : World) (p : Nat) (M : MM) (toks : List Tok) (low : List LowF) (kind : Int) (s s' : PS) (h : PAt w p M toks low kind s) (x : Tree) (v0 v1 v2 : Value) (hx : TreeV w (Fix w M) x v0 v1 v2) (hs : s.add [x] = some s') :
    Calls Tryz.prog 220 #[.pointer (some ⟨p, 0, none⟩), .agg #[v0, v1, v2]] w (Post M w p toks low kind s' (.tuple #[])) := by
  obtain ⟨xk, xt, xch⟩ := x
  obtain ⟨rfl, rfl, A2, cc, rfl, _⟩ := id (show _ ∧ _ by unfold TreeV at hx; exact hx)
  obtain ⟨m2, hm2⟩ : ∃ m2, xch.length = m2 := ⟨_, rfl⟩
  rw [hm2] at hx ⊢
  clear hm2
  have HTree := Lib.hid hx
  have HS := Lib.hid hs
  clear hx hs
  obtain ⟨g, cap, v, At, ct, hX⟩ := h
  obtain ⟨c0, c1, c2⟩ := hX.cells
  obtain ⟨d0, d1, d2⟩ := hX.top
  have hplt := lt_of_heap hX.blk
  have hglt := (hX.row.lt g rfl).2
  obtain ⟨xs0, hown, hrow0⟩ := hX.kids
  have hdI : (0 : Int) ≤ low.length := by omega
  have hbl := hX.blow
  have HX := Lib.hid hX
  clear hX
  go_enter Tryz.func220, Tryz.ntmps220
  go_wp2_with fail
  go_region
  go_wp2_with fail
  obtain ⟨Av, cv, rfl⟩ : ∃ Av cv, v = .slice Av s.ch.length cv := by
    rcases hown.2 with ⟨h, h0⟩ | ⟨g', cap', cur, h, _⟩
    · exact ⟨none, 0, by rw [h, h0]⟩
    · exact ⟨_, _, h⟩
  obtain ⟨W, hW⟩ : ∃ W, (w.alloc (.cells #[.int .i64 xk, .string xt, .slice A2 m2 cc] 121)).drew = W := ⟨_, rfl⟩
  have hWB : Below w.heap.size w W := by rw [← hW]; exact ((Below.refl _ _).alloc (Nat.le_refl _) _).drew
  have hWn : W.heap[w.heap.size]? = some (.cells #[.int .i64 xk, .string xt, .slice A2 m2 cc] 121 (0, 0)) := by rw [← hW]; exact heap_alloc_new _ _
  rw [hW]
  have HX2 := Lib.hid (HX.out.below hWB)
  obtain ⟨n, hn⟩ : ∃ n, s.ch.length = n := ⟨_, rfl⟩
  have hX2 := HX2.out
  obtain ⟨d0', d1', d2'⟩ := hX2.top
  have hglt2 := (hX2.row.lt g rfl).2
  have f2' := hX2.row.frozenAt (low.length * 3 + 2)
  have hkk := hX2.kids
  unfold KidsAt at hkk
  obtain ⟨xs, hown2, hrow2⟩ := hkk
  have HRow := Lib.hid hrow2
  have HTree2 := Lib.hid (TreeV.keep (w' := W) (F' := Fix W M) (fun b h => ⟨Nat.lt_of_lt_of_le h.1 hWB.size, h.2, h.3⟩) (fun b h => hWB.block b h.1) _ _ _ _ HTree.out)
  clear hrow2 hrow0
  have hap := hX2.apart.2.2.1
  rw [hn] at hown2 d2' hap
  obtain ⟨i0, hi0, hz0, hz1, hz2⟩ := info_parts info_tree
  have e0 : W.cell? ⟨w.heap.size, 0, none⟩ = some (.int .i64 xk) := by rw [Lib.cell_of_heap hWn]; rfl
  have e1 : W.cell? ⟨w.heap.size, 1, none⟩ = some (.string xt) := by rw [Lib.cell_of_heap hWn]; rfl
  have e2 : W.cell? ⟨w.heap.size, 2, none⟩ = some (.slice A2 m2 cc) := by rw [Lib.cell_of_heap hWn]; rfl
  have hwlt := lt_of_heap hWn
  clear hW HX hX2 d0 d1 d2 c0 c1 c2 d0' d1' hWn
  have hown0 := Lib.hid ((hown2.alloc (.cells #[.int .i64 0, .string ⟨#[]⟩, .slice none 0 0] 121)).drew)
  have hxl : xs.length = n * 3 := hown2.1
  have hbig : n + 1 ≤ maxLen ∧ (n + 1) * 48 ≤ 140737488355328 := by
    have := HX2.out.bch
    rw [hn] at this
    unfold maxLen
    omega
  obtain ⟨hb1, hb2⟩ := hbig
  have hgl3 := hown2.lt
  have hK : ∀ (w2 : World) (gg cap' : Nat), ((W.alloc (.cells #[.int .i64 0, .string ⟨#[]⟩, .slice none 0 0] 121)).drew).grownBy w2 (Value.slice Av n cv).ownBlock →
      w2.ownsRow 0 121 3 (.slice (some ⟨gg, 0, none⟩) (n + 1) cap') (n + 1) (xs ++ [.int .i64 0, .string ⟨#[]⟩, .slice none 0 0]) → ((Value.slice Av n cv).ownBlock = some gg ∨ gg = W.heap.size + 1) →
      (w2.cell? ⟨g, low.length * 3 + 2, none⟩ = some (.slice Av n cv) ∧ w2.frozen? ⟨g, low.length * 3 + 2, none⟩ = false ∧ g < w2.heap.size) ∧
      (w2.cell? ⟨w.heap.size, 0, none⟩ = some (.int .i64 xk) ∧ w2.cell? ⟨w.heap.size, 1, none⟩ = some (.string xt) ∧ w2.cell? ⟨w.heap.size, 2, none⟩ = some (.slice A2 m2 cc)) ∧
      (w2.cell? ⟨gg, n * 3, none⟩ = some (.int .i64 0) ∧ w2.cell? ⟨gg, n * 3 + 1, none⟩ = some (.string ⟨#[]⟩) ∧ w2.cell? ⟨gg, n * 3 + 2, none⟩ = some (.slice none 0 0)) ∧
      (w2.frozen? ⟨gg, n * 3, none⟩ = false ∧ w2.frozen? ⟨gg, n * 3 + 1, none⟩ = false ∧ w2.frozen? ⟨gg, n * 3 + 2, none⟩ = false) ∧ gg ≠ g ∧ gg ≠ w.heap.size ∧ gg < w2.heap.size ∧ w.heap.size < w2.heap.size := by
    intro w2 gg cap' hg ho hat
    have hsz : ((W.alloc (.cells #[.int .i64 0, .string ⟨#[]⟩, .slice none 0 0] 121)).drew).heap.size = W.heap.size + 1 := by simp
    have hne : (Value.slice Av n cv).ownBlock ≠ some w.heap.size := by
      intro e
      have := (hown.lt _ (by rw [hn]; exact e)).2
      omega
    have hB := hg.size
    rw [hsz] at hB
    have hg1 : W.grownBy w2 (Value.slice Av n cv).ownBlock := World.grownBy.trans (World.grownBy.trans (World.grownBy_alloc W (.cells #[.int .i64 0, .string ⟨#[]⟩, .slice none 0 0] 121) _) (c := (W.alloc (.cells #[.int .i64 0, .string ⟨#[]⟩, .slice none 0 0] 121)).drew) ⟨rfl, rfl, rfl, Nat.le_refl _, fun _ _ _ => rfl⟩) hg
    have k1 := fun j => (hg1.cell_far ⟨g, j, none⟩ hglt2 (fun e => hap e.symm))
    have k2 := fun j => (hg1.frozen_far ⟨g, j, none⟩ hglt2 (fun e => hap e.symm))
    have k3 := fun j => (hg1.cell_far ⟨w.heap.size, j, none⟩ hwlt (fun e => hne e.symm))
    have k4 := fun j (hj : j < 3) => ho.cellAt (n * 3 + j) (by omega)
    refine ⟨⟨(k1 _).trans d2', (k2 _).trans f2', by omega⟩, ⟨(k3 _).trans e0, (k3 _).trans e1, (k3 _).trans e2⟩, ⟨?_, ?_, ?_⟩, ⟨ho.frozenAt _, ho.frozenAt _, ho.frozenAt _⟩, ?_, ?_, (ho.lt gg rfl).2, by omega⟩
    · have := k4 0 (by omega); rw [Nat.add_zero] at this; rw [this, List.getElem?_append_right (by omega)]; simp [hxl]
    · rw [k4 1 (by omega), List.getElem?_append_right (by omega)]; simp [hxl, show n * 3 + 1 - n * 3 = 1 by omega]
    · rw [k4 2 (by omega), List.getElem?_append_right (by omega)]; simp [hxl, show n * 3 + 2 - n * 3 = 2 by omega]
    · rcases hat with h | h
      · intro e; subst e; exact hap h
      · omega
    · rcases hat with h | h
      · intro e; subst e; exact hne h
      · omega
  have hin : ∀ u ∈ [Value.int .i64 0, .string ⟨#[]⟩, .slice none 0 0], u.oneCell' = true := by simp [Value.oneCell']
  have hnI : (0 : Int) ≤ n := by omega
  have hnI2 : (n : Int) < ((n + 1 : Nat) : Int) := by omega
  have hnI3 : (n : Int) < (n : Int) + 1 := by omega
  have HF : Hid (∀ (w2 : World) (gg cap' : Nat), ((W.alloc (.cells #[.int .i64 0, .string ⟨#[]⟩, .slice none 0 0] 121)).drew).grownBy w2 (Value.slice Av n cv).ownBlock →
      w2.ownsRow 0 121 3 (.slice (some ⟨gg, 0, none⟩) (n + 1) cap') (n + 1) (xs ++ [.int .i64 0, .string ⟨#[]⟩, .slice none 0 0]) → ((Value.slice Av n cv).ownBlock = some gg ∨ gg = W.heap.size + 1) →
      Post M w p toks low kind s' (.tuple #[]) (.returned (.tuple #[])) ((((w2.setCell ⟨gg, n * 3, none⟩ (.int .i64 xk)).setCell ⟨gg, n * 3 + 1, none⟩ (.string xt)).setCell ⟨gg, n * 3 + 2, none⟩ (.slice A2 m2 cc)).setCell ⟨g, low.length * 3 + 2, none⟩ (.slice (some ⟨gg, 0, none⟩) (n + 1) cap'))) := by
    intro w2 gg cap' hg ho hat
    have hg1 : W.grownBy w2 (Value.slice Av n cv).ownBlock := World.grownBy.trans (World.grownBy.trans (World.grownBy_alloc W (.cells #[.int .i64 0, .string ⟨#[]⟩, .slice none 0 0] 121) _) (c := (W.alloc (.cells #[.int .i64 0, .string ⟨#[]⟩, .slice none 0 0] 121)).drew) ⟨rfl, rfl, rfl, Nat.le_refl _, fun _ _ _ => rfl⟩) hg
    have hh := HX2.out
    rw [hn] at hh
    obtain ⟨M', h1, h2⟩ := add_fin hh hn HTree2.out HS.out hxl HRow.out hg1 ho (by
      rcases hat with h | h
      · exact .inl h
      · exact .inr (by omega))
    exact ⟨rfl, M', h1, (Step.of_below hWB).trans h2⟩
  have HHK := Lib.hid hK
  clear hK
  go_region_law
    ((refine step_append_lies _ (by rfl) (.tmp 19) (.tmp 22) _ (by rfl) 0 121 i0 _ 3 48 Tryz.underlying119 hi0 hz0 hz1 hz2 rfl (by decide) (.slice Av n cv) n xs (by rfl) hown0.out
        ⟨W.heap.size, 0, none⟩ 1 1 [.int .i64 0, .string ⟨#[]⟩, .slice none 0 0] (by rfl) (by rfl) (World.news_of_block (cs := #[_, _, _]) (t := 121) (fr := (0, 0)) (heap_alloc_new _ _)) hin (by decide) hb1 hb2 (by simp) (W.heap.size + 1) (by simp) ?_; intro gg cap' w2 hown1 hgrow hat hlt; obtain ⟨⟨k1, k2, k3⟩, ⟨k4, k5, k6⟩, ⟨k7, k8, k9⟩, ⟨k10, k11, k12⟩, k13, k14, k15, k16⟩ := HHK.out _ _ _ hgrow hown1 hat))
  all_goals
    have H1 := HF.out w2 gg cap' hgrow hown1 hat
    go_end0
    first
      | exact H1
      | (rw [set_comm _ (a := ⟨g, low.length * 3 + 2, none⟩) (b := ⟨gg, n * 3, none⟩) (fun e => k13 e.symm), set_comm _ (a := ⟨g, low.length * 3 + 2, none⟩) (b := ⟨gg, n * 3 + 1, none⟩) (fun e => k13 e.symm), set_comm _ (a := ⟨g, low.length * 3 + 2, none⟩) (b := ⟨gg, n * 3 + 2, none⟩) (fun e => k13 e.symm)]; exact H1)

def PS.tok (s : PS) (x : Tok) (r : List Tok) : Option PS := (s.add [x.leaf]).map fun u => { u with rest := r }
theorem PAtX.setPos {w : World} {p : Nat} {M : MM} {toks : List Tok} {low : List LowF} {kind : Int} {s : PS} {g cap : Nat} {v : Value} {At : Option Addr} {ct : Nat} (h : PAtX w p M toks low kind s g cap v At ct) (r : List Tok) (hr : r <:+ toks) :
    PAtX (w.setCell ⟨p, 1, none⟩ (.int .i64 ((toks.length - r.length : Nat) : Int))) p M toks low kind { s with rest := r } g cap v At ct ∧ Step M w M (w.setCell ⟨p, 1, none⟩ (.int .i64 ((toks.length - r.length : Nat) : Int))) := by
  obtain ⟨a1, a2, a3, a4, a5⟩ := h.apart
  obtain ⟨m1, m2, m3, m4⟩ := h.mine
  have hsame0 : ∀ b, ¬ M b → (w.setCell ⟨p, 1, none⟩ (.int .i64 ((toks.length - r.length : Nat) : Int))).heap[b]? = w.heap[b]? := fun b hf => Below.heap_setCell _ _ _ _ (fun e => hf (by rw [e]; exact m1))
  have hsame : ∀ b, Fix w M b → (w.setCell ⟨p, 1, none⟩ (.int .i64 ((toks.length - r.length : Nat) : Int))).heap[b]? = w.heap[b]? := fun b hf => hsame0 b hf.2
  have hfix : ∀ b, Fix w M b → Fix (w.setCell ⟨p, 1, none⟩ (.int .i64 ((toks.length - r.length : Nat) : Int))) M b := fun b hf => ⟨by rw [World.size_setCell]; exact hf.1, hf.2, hf.3⟩
  have hne : ∀ b, b ≠ p → (w.setCell ⟨p, 1, none⟩ (.int .i64 ((toks.length - r.length : Nat) : Int))).heap[b]? = w.heap[b]? := fun b hb => Below.heap_setCell _ _ _ _ hb
  refine ⟨{ h with
    blk := ?_
    row := ownsRow_below h.row fun k hk => hne k (fun e => by subst e; simp [Value.ownBlock] at hk; exact a1 hk.symm)
    kids := h.kids.keep hfix hsame fun k hk => hne k (fun e => by subst e; exact a2 hk)
    lows := fun f hf => (h.lows f hf).keep hfix hsame fun k hk => hne k (fun e => by subst e; exact (a4 f hf).1 hk)
    tok := h.tok.keep hfix hsame
    rest := hr
    asc := h.asc.keep (hsame0 _ h.ascM)
    hole := ⟨by rw [World.size_setCell]; exact h.hole.1, h.hole.2⟩ }, ⟨rfl, rfl, rfl, by simp, fun b hlt hM => hsame0 b hM, fun b hb => .inl hb, rfl⟩⟩
  simp [World.setCell, Array.getElem?_modify, h.blk]
set_option maxRecDepth 100000 in
set_option maxHeartbeats 1600000 in
theorem addToken_any (w : World) (p : Nat) (M : MM) (toks : List Tok) (low : List LowF) (kind : Int) (s s' : PS) (x : Tok) (r : List Tok) (hr : s.rest = x :: r) (h : PAt w p M toks low kind s) (hs : s.tok x r = some s') :
    Calls Tryz.prog 140 #[.pointer (some ⟨p, 0, none⟩)] w (Post M w p toks low kind s' (.tuple #[])) := by
  have HP := Lib.hid h
  obtain ⟨g, cap, v, At, ct, hX⟩ := h
  obtain ⟨c0, c1, c2⟩ := hX.cells
  have hplt := lt_of_heap hX.blk
  have hle := hX.rest.length_le
  have hbt := hX.btok
  rw [hr] at hle c1
  simp only [List.length_cons] at hle c1
  have hg := rest_get hX.rest 0
  rw [hr] at hg
  simp only [List.getElem?_cons_zero, Nat.add_zero, List.length_cons] at hg
  obtain ⟨b, rfl, hb, hc⟩ := hX.tok (by omega)
  obtain ⟨e0, e1⟩ := hc _ x hg.symm
  have hmlt : toks.length - (r.length + 1) < toks.length := by omega
  have HM' := (show toks.length - (r.length + 1) + 1 = toks.length - r.length by omega)
  obtain ⟨m, hm⟩ : ∃ m, toks.length - (r.length + 1) = m := ⟨_, rfl⟩
  rw [hm] at hmlt HM' c1 e0 e1
  have HM := Lib.hid HM'
  clear HM'
  have hm1 := Lib.hid (show toks.length - (x :: r).length = m from hm)
  have hr0 := Lib.hid hr
  clear hm
  have hmI : (m : Int) < toks.length := by omega
  have hm0 : (0 : Int) ≤ m := by omega
  unfold PS.tok at hs
  obtain ⟨u, hu, hus⟩ := Option.map_eq_some_iff.1 hs
  have HU := Lib.hid hu
  have HR := Lib.hid (show r <:+ toks from (List.suffix_cons x r).trans (by rw [← hr]; exact hX.rest))
  have hcall := Lib.hid (fun w0 (hB : Below w.heap.size w w0) => add_any w0 p M toks low kind s u (HP.out.below hB) x.leaf (.int .i64 x.k) (.string x.t) (.slice none 0 0) (by unfold Tok.leaf TreeV; exact ⟨rfl, rfl, none, 0, rfl, .inl rfl⟩) hu)
  subst hus
  clear hX hs hg hc hb hu hr
  go_enter Tryz.func140, Tryz.ntmps140
  go_wp2_with fail
  go_still_tail 24, (by kernel_rfl)
  change wpList _ _ _ _ _ w.drew
  have hcall2 := Lib.hid (hcall.out w.drew (Below.refl _ _).drew)
  have HD := Lib.hid (show Below w.heap.size w w.drew from (Below.refl _ _).drew)
  clear c0 c1 c2 e0 e1 hcall
  generalize w.drew = w2 at *
  go_wp2_with fail
  refine hcall2.out.mono ?_
  rintro e w1 ⟨rfl, M1, hp1, hst⟩
  obtain ⟨g1, cap1, v1, At1, ct1, hY⟩ := hp1
  have hrest : u.rest = s.rest := by
    have := HU.out
    unfold PS.add at this
    split at this
    · injection this with this; rw [← this]
    · cases this
  obtain ⟨c0, c1, c2⟩ := hY.cells
  have f1 := hY.thaw 1
  have hplt1 := lt_of_heap hY.blk
  have HF := Lib.hid (hY.setPos r HR.out)
  have HST := Lib.hid ((Step.of_below HD.out).trans hst)
  rw [hrest, hr0.out, hm1.out] at c1
  clear hY hst hcall2 hrest
  go_wp2_with fail
  go_end0
  have e : ((m : Int) + 1) = ((toks.length - r.length : Nat) : Int) := by rw [← HM.out]; rfl
  rw [e]
  exact ⟨rfl, M1, ⟨_, _, _, _, _, HF.out.1⟩, HST.out.trans HF.out.2⟩

def PS.triv (s : PS) : Option PS := (s.add ((trivs s.rest).map Tok.leaf)).map fun u => { u with rest := sig s.rest }
def PS.bump (s : PS) : Option PS := (s.add ((taken s.rest).map Tok.leaf)).map fun u => { u with rest := after s.rest }
theorem sig_length (r : List Tok) : (sig r).length ≤ r.length := by
  induction r with
  | nil => exact Nat.le_refl _
  | cons x r ih => unfold sig; split <;> simp only [List.length_cons] <;> omega
theorem sig_cons_triv {x : Tok} {r : List Tok} (h : isTriv x = true) : sig (x :: r) = sig r := by conv => lhs; unfold sig; rw [if_pos h]
theorem sig_cons_not {x : Tok} {r : List Tok} (h : isTriv x = false) : sig (x :: r) = x :: r := by conv => lhs; unfold sig; rw [if_neg (by rw [h]; decide)]
theorem trivs_triv {x : Tok} {r : List Tok} (h : isTriv x = true) : trivs (x :: r) = x :: trivs r := by
  unfold trivs
  rw [sig_cons_triv h]
  have := sig_length r
  rw [List.length_cons, show r.length + 1 - (sig r).length = (r.length - (sig r).length) + 1 by omega, List.take_succ_cons]
theorem trivs_not {x : Tok} {r : List Tok} (h : isTriv x = false) : trivs (x :: r) = [] := by unfold trivs; rw [sig_cons_not h]; simp
theorem add_nil {s s' : PS} (h : s.add [] = some s') : s' = s := by
  unfold PS.add at h
  split at h
  · injection h with h; rw [← h]; cases s; simp
  · cases h
theorem add_cons {s s' : PS} {x : Tree} {l : List Tree} (h : s.add (x :: l) = some s') : ∃ u, s.add [x] = some u ∧ u.add l = some s' ∧ u.rest = s.rest := by
  unfold PS.add at h
  split at h
  · next hg =>
    simp only [List.length_cons] at hg h
    injection h with h
    refine ⟨{ s with ch := s.ch ++ [x], gas := s.gas - 1 }, ?_, ?_, rfl⟩
    · unfold PS.add; rw [if_pos (by simp; omega)]; rfl
    · unfold PS.add; rw [if_pos (by show l.length < s.gas - 1; omega), ← h]
      simp only [List.append_assoc, List.singleton_append]
      congr 2
      omega
  · cases h
theorem triv_step {s s' : PS} {x : Tok} {r : List Tok} (hr : s.rest = x :: r) (hx : isTriv x = true) (h : s.triv = some s') : ∃ u, s.tok x r = some u ∧ u.triv = some s' ∧ u.rest = r := by
  unfold PS.triv at h
  rw [hr, trivs_triv hx, sig_cons_triv hx, List.map_cons] at h
  obtain ⟨v, hv, rfl⟩ := Option.map_eq_some_iff.1 h
  obtain ⟨u, h1, h2, h3⟩ := add_cons hv
  refine ⟨{ u with rest := r }, by unfold PS.tok; rw [h1]; rfl, ?_, rfl⟩
  unfold PS.triv
  unfold PS.add at h2 ⊢
  simp only
  split at h2
  · next hg =>
    rw [if_pos hg]
    injection h2 with h2
    rw [← h2]
    rfl
  · cases h2
theorem triv_end {s s' : PS} (hr : trivs s.rest = [] ∧ sig s.rest = s.rest) (h : s.triv = some s') : s' = s := by
  unfold PS.triv at h
  rw [hr.1, hr.2] at h
  obtain ⟨v, hv, rfl⟩ := Option.map_eq_some_iff.1 h
  rw [add_nil hv]
set_option maxRecDepth 100000 in
set_option maxHeartbeats 1600000 in
theorem skipTrivia_any (w : World) (p : Nat) (M : MM) (toks : List Tok) (low : List LowF) (kind : Int) (s s' : PS) (h : PAt w p M toks low kind s) (hs : s.triv = some s') :
    Calls Tryz.prog 86 #[.pointer (some ⟨p, 0, none⟩)] w (Post M w p toks low kind s' (.tuple #[])) := by
  have HP := Lib.hid h
  have HS := Lib.hid hs
  clear h hs
  go_enter Tryz.func86, Tryz.ntmps86
  go_wp2_with fail
  go_loopg [] s.rest.length (fun gk wr => ∃ (M1 : MM) (s1 : PS), s1.rest.length = gk ∧ Hid (PAt wr p M1 toks low kind s1) ∧ Hid (Step M w M1 wr) ∧ Hid (s1.triv = some s'))
  case atStart => exact ⟨M, s, rfl, HP, Step.refl _ _, HS⟩
  case round =>
    clear HP HS
    obtain ⟨M1, s1, hgk, HP, HST, HS⟩ := hrel
    obtain ⟨g, cap, v, At, ct, hX⟩ := HP.out
    obtain ⟨c0, c1, c2⟩ := hX.cells
    have hle := hX.rest.length_le
    have hbt := hX.btok
    have hplt := lt_of_heap hX.blk
    cases hr : s1.rest with
    | nil =>
      have HF := Lib.hid (show s' = s1 from triv_end (by rw [hr]; exact ⟨rfl, rfl⟩) HS.out)
      rw [hr] at c1
      simp only [List.length_nil, Nat.sub_zero] at c1
      clear hX hr HS hle
      generalize toks.length = L at *
      go_wp2_with fail
      go_quiet (fail)
      have HB := Lib.hid (below_drewN (Below.refl wr.heap.size wr) nq)
      have HP2 := Lib.hid (HP.out.below HB.out)
      clear c0 c1 c2
      generalize wr.drewN nq = w2 at *
      go_wp2_with fail
      go_end0
      rw [HF.out]
      exact ⟨rfl, M1, HP2.out, HST.out.trans (Step.of_below HB.out)⟩
    | cons x r =>
      have hg := rest_get hX.rest 0
      rw [hr] at hg hle c1
      simp only [List.getElem?_cons_zero, Nat.add_zero, List.length_cons] at hg hle c1
      obtain ⟨b, rfl, hb, hc⟩ := hX.tok (by omega)
      obtain ⟨e0, e1⟩ := hc _ x hg.symm
      have hmlt : toks.length - (r.length + 1) < toks.length := by omega
      generalize toks.length - (r.length + 1) = m at *
      have hmI : (m : Int) < toks.length := by omega
      have hm0 : (0 : Int) ≤ m := by omega
      have HR := Lib.hid hr
      have HK := Lib.hid (fun w0 => isTriv_any x.k w0)
      clear hX hr hg hc hb
      by_cases ht : isTriv x = true
      · have HT := Lib.hid ht
        unfold isTriv at ht
        rw [ht] at HK
        clear ht
        go_wp2_with fail
        go_quiet ((go_at_call 139; exact Calls.quiet_of_same (HK.out _)))
        obtain ⟨u, k1, k2, k3⟩ := triv_step HR.out HT.out HS.out
        have HB := Lib.hid (below_drewN (Below.refl wr.heap.size wr) nq)
        have HP2 := Lib.hid (HP.out.below HB.out)
        have hcall := Lib.hid (addToken_any _ p M1 toks low kind s1 u x r HR.out HP2.out k1)
        have HK2 := Lib.hid k2
        have hgr : u.rest.length < gk := by rw [← hgk, HR.out, k3]; simp
        clear c0 c1 c2 e0 e1 k1 k2 HK HP HS
        generalize wr.drewN nq = w2 at *
        go_wp2_with fail
        refine hcall.out.mono ?_
        rintro e w3 ⟨rfl, M3, hp3, hst3⟩
        have HP3 := Lib.hid hp3
        have HST3 := Lib.hid ((HST.out.trans (Step.of_below HB.out)).trans hst3)
        clear hp3 hst3 hcall HP2
        go_wp2_with fail
        go_roundg u.rest.length
        case rel => exact ⟨M3, u, rfl, HP3, HST3, HK2⟩
        case measure => exact hgr
      · have ht' := eq_false_of_ne_true ht
        have HF := Lib.hid (show s' = s1 from triv_end (by rw [HR.out]; exact ⟨trivs_not ht', sig_cons_not ht'⟩) HS.out)
        unfold isTriv at ht'
        rw [ht'] at HK
        clear ht ht'
        go_wp2_with fail
        go_quiet ((go_at_call 139; exact Calls.quiet_of_same (HK.out _)))
        have HB := Lib.hid (below_drewN (Below.refl wr.heap.size wr) nq)
        have HP2 := Lib.hid (HP.out.below HB.out)
        clear c0 c1 c2 e0 e1
        generalize wr.drewN nq = w2 at *
        go_wp2_with fail
        go_end0
        rw [HF.out]
        exact ⟨rfl, M1, HP2.out, HST.out.trans (Step.of_below HB.out)⟩

theorem add_append {s s' : PS} {a b : List Tree} (h : s.add (a ++ b) = some s') : ∃ u, s.add a = some u ∧ u.add b = some s' ∧ u.rest = s.rest := by
  unfold PS.add at h
  split at h
  · next hg =>
    rw [List.length_append] at hg h
    injection h with h
    refine ⟨{ s with ch := s.ch ++ a, gas := s.gas - a.length }, ?_, ?_, rfl⟩
    · unfold PS.add; rw [if_pos (by omega)]
    · unfold PS.add; rw [if_pos (by show b.length < s.gas - a.length; omega), ← h]
      simp only [List.append_assoc]
      congr 2
      omega
  · cases h
theorem trivs_sig (r : List Tok) : r = trivs r ++ sig r := by
  induction r with
  | nil => rfl
  | cons x r ih =>
    cases h : isTriv x
    · rw [trivs_not h, sig_cons_not h]; rfl
    · rw [trivs_triv h, sig_cons_triv h, List.cons_append, ← ih]
theorem taken_eq (r : List Tok) : taken r = trivs r ++ (sig r).take 1 := by
  have h := trivs_sig r
  unfold taken after
  generalize trivs r = T at *
  generalize sig r = S at *
  subst h
  cases S with
  | nil => simp
  | cons x t =>
    simp only [List.length_append, List.length_cons, List.drop_succ_cons, List.drop_zero, List.take_succ_cons, List.take_zero]
    rw [List.take_append, show T.length + (t.length + 1) - t.length - T.length = 1 by omega, List.take_of_length_le (by omega)]
    rfl
theorem bump_split {s s' : PS} (h : s.bump = some s') : ∃ u, s.triv = some u ∧ ((u.rest = [] ∧ s' = u) ∨ ∃ x r, u.rest = x :: r ∧ u.tok x r = some s') := by
  unfold PS.bump at h
  rw [taken_eq, List.map_append] at h
  obtain ⟨v, hv, rfl⟩ := Option.map_eq_some_iff.1 h
  obtain ⟨u, h1, h2, h3⟩ := add_append hv
  refine ⟨{ u with rest := sig s.rest }, by unfold PS.triv; rw [h1]; rfl, ?_⟩
  cases hs : sig s.rest with
  | nil =>
    rw [hs] at h2
    simp only [List.take_nil, List.map_nil] at h2
    have := add_nil h2
    subst this
    exact .inl ⟨rfl, by unfold after; rw [hs]; rfl⟩
  | cons x r =>
    right
    refine ⟨x, r, rfl, ?_⟩
    rw [hs] at h2
    simp only [List.take_succ_cons, List.take_zero, List.map_cons, List.map_nil] at h2
    unfold PS.tok PS.add at *
    split at h2
    · next hg =>
      injection h2 with h2
      simp only
      rw [if_pos hg, ← h2]
      unfold after
      rw [hs]
      rfl
    · cases h2
set_option maxRecDepth 100000 in
set_option maxHeartbeats 1600000 in
theorem bump_any (w : World) (p : Nat) (M : MM) (toks : List Tok) (low : List LowF) (kind : Int) (s s' : PS) (h : PAt w p M toks low kind s) (hs : s.bump = some s') :
    Calls Tryz.prog 137 #[.pointer (some ⟨p, 0, none⟩)] w (Post M w p toks low kind s' (.tuple #[])) := by
  obtain ⟨u, h1, h2⟩ := bump_split hs
  have hcall := Lib.hid (skipTrivia_any w p M toks low kind s u h h1)
  have H2 := Lib.hid h2
  clear h hs h1 h2
  go_enter Tryz.func137, Tryz.ntmps137
  go_wp2_with fail
  refine hcall.out.mono ?_
  rintro e w1 ⟨rfl, M1, hp1, hst1⟩
  have HP := Lib.hid hp1
  have HST := Lib.hid hst1
  clear hp1 hst1 hcall
  obtain ⟨g, cap, v, At, ct, hX⟩ := HP.out
  obtain ⟨c0, c1, c2⟩ := hX.cells
  have hle := hX.rest.length_le
  have hbt := hX.btok
  have hplt := lt_of_heap hX.blk
  rcases H2.out with ⟨hr, rfl⟩ | ⟨x, r, hr, ht⟩
  · rw [hr] at c1
    simp only [List.length_nil, Nat.sub_zero] at c1
    clear hX hr hle H2
    generalize toks.length = L at *
    go_wp2_with fail
    go_region
    have HB := Lib.hid (show Below w1.heap.size w1 w1.drew from (Below.refl _ _).drew)
    have HP2 := Lib.hid (HP.out.below HB.out)
    clear c0 c1 c2
    try generalize w1.drew = w2 at *
    go_wp2_with fail
    go_end0
    exact ⟨rfl, M1, HP2.out, HST.out.trans (Step.of_below HB.out)⟩
  · rw [hr] at c1 hle
    simp only [List.length_cons] at c1 hle
    have hmlt : toks.length - (r.length + 1) < toks.length := by omega
    generalize toks.length - (r.length + 1) = m at *
    have hmI : (m : Int) < toks.length := by omega
    have HB := Lib.hid (show Below w1.heap.size w1 w1.drew from (Below.refl _ _).drew)
    have HP2 := Lib.hid (HP.out.below HB.out)
    have hcall := Lib.hid (addToken_any _ p M1 toks low kind u s' x r hr HP2.out ht)
    clear hX hr H2 ht HP
    go_wp2_with fail
    go_region
    clear c0 c1 c2
    generalize w1.drew = w2 at *
    go_wp2_with fail
    refine hcall.out.mono ?_
    rintro e w3 ⟨rfl, M3, hp3, hst3⟩
    have HP3 := Lib.hid hp3
    have HST3 := Lib.hid ((HST.out.trans (Step.of_below HB.out)).trans hst3)
    clear hp3 hst3 hcall HP2
    go_wp2_with fail
    go_end0
    exact ⟨rfl, M3, HP3.out, HST3.out⟩
end Go.Proofs.YtpibenilagloaaaGreatDoor
