import Derived.Test.YtpibenilagloaaaGreatDoorMzae
import Derived.Lib.SlBy
import Derived.Test.YtpibenilagloaaaGreatDoorMzaa
namespace Go.Proofs.YtpibenilagloaaaGreatDoor
open Go.RowKit
set_option linter.unusedVariables false
def Hd.vals (h : Hd) (v : Value) : List Value := [.int .i64 h.k, .int .i64 h.v, .string h.t, .int .i64 h.s, .int .i64 h.e, .int .i64 h.nm, v]
mutual
def NodeV (w : World) (F : Nat → Prop) : Node → List Value → Prop
  | .mk h ch, vs => ∃ A c, vs = h.vals (.slice A ch.length c) ∧ (ch = [] ∨ ∃ b off, A = some ⟨b, off, none⟩ ∧ F b ∧ NodesV w F ch b off)
def NodesV (w : World) (F : Nat → Prop) : List Node → Nat → Nat → Prop
  | [], _, _ => True
  | x :: r, b, i => (∃ vs, NodeV w F x vs ∧ ∀ j v, vs[j]? = some v → w.cell? ⟨b, i + j, none⟩ = some v) ∧ NodesV w F r b (i + 7)
end
mutual
theorem NodeV.keep {w w' : World} {F F' : Nat → Prop} (hF : ∀ b, F b → F' b) (hw : ∀ b, F b → w'.heap[b]? = w.heap[b]?) : ∀ (x : Node) (vs : List Value), NodeV w F x vs → NodeV w' F' x vs
  | .mk k ch, vs, h => by
    unfold NodeV at h ⊢
    obtain ⟨A, c, h2, h3⟩ := h
    refine ⟨A, c, h2, ?_⟩
    rcases h3 with h3 | ⟨b, off, hA, hb, h3⟩
    · exact .inl h3
    · exact .inr ⟨b, off, hA, hF _ hb, NodesV.keep hF hw ch b off hb h3⟩
theorem NodesV.keep {w w' : World} {F F' : Nat → Prop} (hF : ∀ b, F b → F' b) (hw : ∀ b, F b → w'.heap[b]? = w.heap[b]?) : ∀ (xs : List Node) (b i : Nat), F b → NodesV w F xs b i → NodesV w' F' xs b i
  | [], _, _, _, _ => by unfold NodesV; trivial
  | x :: r, b, i, hb, h => by
    unfold NodesV at h ⊢
    obtain ⟨⟨vs, h0, h1⟩, h4⟩ := h
    exact ⟨⟨vs, NodeV.keep hF hw x vs h0, fun j v hv => (World.cell?_of_block (w := w) (w' := w') (a := ⟨b, i + j, none⟩) (hw b hb)).trans (h1 j v hv)⟩, NodesV.keep hF hw r b (i + 7) hb h4⟩
end
theorem NodeV.vals {w : World} {F : Nat → Prop} {n : Node} {vs : List Value} (h : NodeV w F n vs) : ∃ A c, vs = n.h.vals (.slice A n.ch.length c) ∧ (n.ch = [] ∨ ∃ b off, A = some ⟨b, off, none⟩ ∧ F b ∧ NodesV w F n.ch b off) := by
  cases n with | mk h ch => unfold NodeV at h; exact h
theorem NodeV.of {w : World} {F : Nat → Prop} {n : Node} {A : Option Addr} {c : Nat} (h : n.ch = [] ∨ ∃ b off, A = some ⟨b, off, none⟩ ∧ F b ∧ NodesV w F n.ch b off) : NodeV w F n (n.h.vals (.slice A n.ch.length c)) := by
  cases n with | mk k ch => unfold NodeV; exact ⟨A, c, rfl, h⟩
theorem NodesV.get {w : World} {F : Nat → Prop} : ∀ (xs : List Node) (b i k : Nat) (x : Node), NodesV w F xs b i → xs[k]? = some x → ∃ vs, NodeV w F x vs ∧ ∀ j v, vs[j]? = some v → w.cell? ⟨b, i + k * 7 + j, none⟩ = some v
  | [], _, _, _, _, _, h => by simp at h
  | y :: r, b, i, 0, x, h, hk => by
    simp at hk; subst hk
    unfold NodesV at h
    rw [Nat.zero_mul, Nat.add_zero]
    exact h.1
  | y :: r, b, i, k + 1, x, h, hk => by
    unfold NodesV at h
    have := NodesV.get r b (i + 7) k x h.2 (by simpa using hk)
    rw [show i + (k + 1) * 7 = i + 7 + k * 7 by omega]
    exact this
def RowN (w : World) (F : Nat → Prop) : List Node → List Value → Prop
  | [], vs => vs = []
  | x :: r, vs => ∃ us ws, vs = us ++ ws ∧ NodeV w F x us ∧ RowN w F r ws
theorem NodeV.len {w : World} {F : Nat → Prop} {n : Node} {vs : List Value} (h : NodeV w F n vs) : vs.length = 7 := by
  obtain ⟨A, c, rfl, _⟩ := h.vals; rfl
theorem RowN.keep {w w' : World} {F F' : Nat → Prop} (hF : ∀ b, F b → F' b) (hw : ∀ b, F b → w'.heap[b]? = w.heap[b]?) : ∀ (xs : List Node) (vs : List Value), RowN w F xs vs → RowN w' F' xs vs
  | [], vs, h => h
  | x :: r, vs, h => by
    obtain ⟨us, ws, e, h1, h2⟩ := h
    exact ⟨us, ws, e, NodeV.keep hF hw x us h1, RowN.keep hF hw r ws h2⟩
theorem RowN.length {w : World} {F : Nat → Prop} : ∀ (xs : List Node) (vs : List Value), RowN w F xs vs → vs.length = xs.length * 7
  | [], vs, h => by unfold RowN at h; subst h; rfl
  | x :: r, vs, h => by
    obtain ⟨us, ws, rfl, h1, h2⟩ := h
    rw [List.length_append, h1.len, RowN.length r ws h2, List.length_cons]; omega
theorem RowN.snoc {w : World} {F : Nat → Prop} {x : Node} {us : List Value} (hx : NodeV w F x us) : ∀ (xs : List Node) (vs : List Value), RowN w F xs vs → RowN w F (xs ++ [x]) (vs ++ us)
  | [], vs, h => by unfold RowN at h; subst h; exact ⟨us, [], by simp, hx, rfl⟩
  | y :: r, vs, h => by
    obtain ⟨u, ws, rfl, h1, h2⟩ := h
    exact ⟨u, ws ++ us, by simp, h1, RowN.snoc hx r ws h2⟩
theorem RowN.nodes {w : World} {F : Nat → Prop} (b : Nat) : ∀ (xs : List Node) (vs : List Value) (i : Nat), RowN w F xs vs → (∀ j u, vs[j]? = some u → w.cell? ⟨b, i + j, none⟩ = some u) → NodesV w F xs b i
  | [], _, _, _, _ => by unfold NodesV; trivial
  | x :: r, vs, i, h, hc => by
    obtain ⟨us, ws, rfl, h1, h2⟩ := h
    unfold NodesV
    have hl := h1.len
    refine ⟨⟨us, h1, fun j v hv => hc j v ?_⟩, RowN.nodes b r ws (i + 7) h2 fun j u hu => ?_⟩
    · rw [List.getElem?_append_left (List.getElem?_eq_some_iff.1 hv).1]; exact hv
    · rw [show i + 7 + j = i + (7 + j) by omega]
      refine hc (7 + j) u ?_
      rw [List.getElem?_append_right (by omega), hl, show 7 + j - 7 = j by omega]
      exact hu
def Dg.cells (d : Dg) : List Value := [.int .i64 d.code, .int .i64 d.mod, .int .i64 d.s, .int .i64 d.e, .string d.nm]
theorem Dg.cells_len (d : Dg) : d.cells.length = 5 := rfl
theorem info_dg : (Tryz.prog.info? 99).map (fun i => (i.zero, i.size, i.bytes)) = some (some (.agg #[.int .i64 0, .int .i64 0, .int .i64 0, .int .i64 0, .string .empty]), 5, 48) := by kernel_rfl
theorem info_node : (Tryz.prog.info? 57).map (fun i => (i.zero, i.size, i.bytes)) = some (some (.agg #[.int .i64 0, .int .i64 0, .string .empty, .int .i64 0, .int .i64 0, .int .i64 0, .slice none 0 0]), 7, 80) := by kernel_rfl
def ng : Nat := Nat.max 1 4 + 1
structure Gl (w : World) : Prop where
  asc : AscAt w
  rng : ∃ te pe, w.cell? ⟨4, 0, none⟩ = some (.iface te pe)
  big : ng ≤ w.heap.size
theorem glob_lt : 1 < ng ∧ 4 < ng := by decide
theorem Gl.keep {w w' : World} (h : Gl w) (hs : w.heap.size ≤ w'.heap.size) (hw : ∀ b, b < ng → w'.heap[b]? = w.heap[b]?) : Gl w' := by
  obtain ⟨te, pe, h2⟩ := h.rng
  exact ⟨h.asc.keep (hw _ glob_lt.1), ⟨te, pe, (World.cell?_of_block (w := w) (w' := w') (a := ⟨_, 0, none⟩) (hw _ glob_lt.2)).trans h2⟩, Nat.le_trans h.big hs⟩
structure BAtX (w : World) (p : Nat) (M : MM) (src : ByteArray) (b : BS) (v : Value) : Prop where
  blk : w.heap[p]? = some (.cells #[.string src, .int .i64 b.off, v] 126 (0, 0))
  row : w.ownsRow 0 99 5 v b.ds.length (b.ds.flatMap Dg.cells)
  mp : M p
  mr : ∀ g, v.ownBlock = some g → M g ∧ g ≠ p
  gl : Gl w
  glM : ∀ c, M c → ng ≤ c
def BAt (w : World) (p : Nat) (M : MM) (src : ByteArray) (b : BS) : Prop := ∃ v, BAtX w p M src b v
def BPost (M : MM) (w : World) (p : Nat) (src : ByteArray) (b : BS) (r : Value) (e : Ending) (w' : World) : Prop :=
  e = .returned r ∧ ∃ M', BAt w' p M' src b ∧ Step M w M' w'
theorem Gl.step {M M' : MM} {w w' : World} (h : Gl w) (hM : ∀ c, M c → ng ≤ c) (hs : Step M w M' w') : Gl w' :=
  h.keep hs.size fun b hb => hs.block b (Nat.lt_of_lt_of_le hb h.big) fun hm => by have := hM b hm; omega
theorem BAtX.lt {w : World} {p : Nat} {M : MM} {src : ByteArray} {b : BS} {v : Value} (h : BAtX w p M src b v) : p < w.heap.size := lt_of_heap h.blk
theorem BAt.keep {w w' : World} {p : Nat} {M : MM} {src : ByteArray} {b : BS} (h : BAt w p M src b) (hs : w.heap.size ≤ w'.heap.size) (hw : ∀ c, c < w.heap.size → w'.heap[c]? = w.heap[c]?) : BAt w' p M src b := by
  obtain ⟨v, h⟩ := h
  exact ⟨v, (hw _ h.lt).trans h.blk, ownsRow_below h.row fun g hg => hw g (h.row.lt g hg).2, h.mp, h.mr, h.gl.keep hs (fun b hb => hw b (Nat.lt_of_lt_of_le hb h.gl.big)), h.glM⟩
theorem BAt.below {w w' : World} {p : Nat} {M : MM} {src : ByteArray} {b : BS} (h : BAt w p M src b) (hb : Below w.heap.size w w') : BAt w' p M src b := h.keep hb.size hb.block
theorem BAtX.push {w w2 : World} {p : Nat} {M : MM} {src : ByteArray} {b : BS} {v v' : Value} (h : BAtX w p M src b v) (d : Dg) (hg : w.grownBy w2 v.ownBlock) (ho : w2.ownsRow 0 99 5 v' (b.ds.length + 1) (b.ds.flatMap Dg.cells ++ d.cells))
    (hat : v'.ownBlock = v.ownBlock ∨ ∃ g, v'.ownBlock = some g ∧ w.heap.size ≤ g) :
    BAt (w2.setCell ⟨p, 2, none⟩ v') p (More M v'.ownBlock) src { b with ds := b.ds ++ [d] } ∧ Step M w (More M v'.ownBlock) (w2.setCell ⟨p, 2, none⟩ v') := by
  have hS := (Step.grown hg (fun b hb => (h.mr b hb).1) hat).set p 2 v' (.inl h.mp)
  have hpv : v.ownBlock ≠ some p := fun e => (h.mr p e).2 rfl
  have hpv' : ∀ g, v'.ownBlock = some g → g ≠ p := fun g hg' e => by
    subst e
    rcases hat with e | ⟨g', e, hge⟩
    · exact hpv (by rw [← e, hg'])
    · rw [e] at hg'; injection hg' with hg'; have := h.lt; omega
  refine ⟨⟨v', ?_, ?_, .inl h.mp, fun g hg => ⟨.inr hg, hpv' g hg⟩, h.gl.step h.glM hS, fun c hc => ?_⟩, hS⟩
  · exact heap_set ((hg.block p h.lt (fun e => hpv e.symm)).trans h.blk) 2 v'
  · have : (b.ds ++ [d]).flatMap Dg.cells = b.ds.flatMap Dg.cells ++ d.cells := by simp
    rw [List.length_append, List.length_singleton, this]
    exact ownsRow_below ho fun g hg => Below.heap_setCell _ _ _ _ (hpv' g hg)
  · rcases hc with hc | hc
    · exact h.glM c hc
    · rcases hat with e | ⟨g', e, hge⟩
      · exact h.glM c (h.mr c (by rw [← e, hc])).1
      · rw [e] at hc; injection hc with hc; have := h.gl.big; omega
def HAt (w : World) (q : Nat) (h : Hd) (v : Value) : Prop := w.heap[q]? = some (.cells #[.int .i64 h.k, .int .i64 h.v, .string h.t, .int .i64 h.s, .int .i64 h.e, .int .i64 h.nm, v] 57 (0, 0))
structure Upd (q : Nat) (w w' : World) : Prop where
  os : w'.os = w.os
  tape : w'.tape = w.tape
  output : w'.output = w.output
  size : w'.heap.size = w.heap.size
  block : ∀ b, b ≠ q → w'.heap[b]? = w.heap[b]?
theorem Upd.refl (q : Nat) (w : World) : Upd q w w := ⟨rfl, rfl, rfl, rfl, fun _ _ => rfl⟩
theorem Upd.set {q : Nat} {w w' : World} (h : Upd q w w') (i : Nat) (v : Value) : Upd q w (w'.setCell ⟨q, i, none⟩ v) :=
  ⟨h.os, h.tape, h.output, by simp only [World.size_setCell]; exact h.size, fun b hb => (Below.heap_setCell _ _ _ _ hb).trans (h.block b hb)⟩
theorem Upd.trans {q : Nat} {a b c : World} (h : Upd q a b) (k : Upd q b c) : Upd q a c := ⟨k.os.trans h.os, k.tape.trans h.tape, k.output.trans h.output, k.size.trans h.size, fun b hb => (k.block b hb).trans (h.block b hb)⟩
theorem HAt.keep {w w' : World} {q : Nat} {h : Hd} {v : Value} (H : HAt w q h v) (hw : w'.heap[q]? = w.heap[q]?) : HAt w' q h v := hw.trans H

set_option maxRecDepth 100000 in
set_option maxHeartbeats 1600000 in
theorem smk_none (hd : Hd) (A : Option Addr) (n c : Nat) (lp : Bool) (w : World) (h7 : hd.k ≠ 7) (hn : hd.nm < 0) :
    Calls Tryz.prog 231 #[.agg (hd.vals (.slice A n c)).toArray, .bool lp] w fun e w' => e = .returned (.int .i64 0) ∧ Below w.heap.size w w' := by
  have HB := Lib.hid (fun o => (Below.refl w.heap.size w).alloc (Nat.le_refl _) o)
  simp only [Hd.vals]
  go_enter Tryz.func231, Tryz.ntmps231
  go_wp2_with fail
  go_ret
  exact ⟨rfl, HB.out _⟩
set_option maxRecDepth 100000 in
set_option maxHeartbeats 1600000 in
theorem smk_fn (hd : Hd) (A : Option Addr) (n c : Nat) (lp : Bool) (w : World) (hk : hd.k = 3) (hn : ¬ hd.nm < 0) :
    Calls Tryz.prog 231 #[.agg (hd.vals (.slice A n c)).toArray, .bool lp] w fun e w' => e = .returned (.int .i64 2) ∧ Below w.heap.size w w' := by
  have HB := Lib.hid (fun o => (Below.refl w.heap.size w).alloc (Nat.le_refl _) o)
  simp only [Hd.vals]
  obtain ⟨k, v, t, s, e, nm⟩ := hd
  simp only at hk hn ⊢
  subst hk
  go_enter Tryz.func231, Tryz.ntmps231
  go_wp2_with fail
  go_ret
  exact ⟨rfl, HB.out _⟩
set_option maxHeartbeats 1600000 in
theorem dst_any (hd : Hd) (A : Option Addr) (n c : Nat) (w : World) (h7 : hd.k ≠ 7) :
    Calls Tryz.prog 232 #[.agg (hd.vals (.slice A n c)).toArray] w fun e w' => e = .returned (.int .i64 hd.nm) ∧ Below w.heap.size w w' := by
  have HB := Lib.hid (fun o => (Below.refl w.heap.size w).alloc (Nat.le_refl _) o)
  simp only [Hd.vals]
  go_enter Tryz.func232, Tryz.ntmps232
  go_wp2_with fail
  go_ret
  exact ⟨rfl, HB.out _⟩
set_option maxHeartbeats 1600000 in
theorem isc_any (k : Int) (w : World) :
    Calls Tryz.prog 179 #[.int .i64 k] w fun e w' => e = .returned (.bool (decide (2 ≤ k ∧ k ≤ 8))) ∧ w' = w := by
  by_cases g1 : 2 ≤ k
  · by_cases g2 : k ≤ 8
    · rw [decide_eq_true ⟨g1, g2⟩]
      go_enter Tryz.func179, Tryz.ntmps179
      go_wp2_with fail
      go_ret
      exact ⟨by simp, rfl⟩
    · rw [decide_eq_false (fun h => g2 h.2)]
      go_enter Tryz.func179, Tryz.ntmps179
      go_wp2_with fail
      go_ret
      exact ⟨by simp, rfl⟩
  · rw [decide_eq_false (fun h => g1 h.1)]
    go_enter Tryz.func179, Tryz.ntmps179
    go_wp2_with fail
    go_ret
    exact ⟨by simp, rfl⟩

set_option maxRecDepth 100000 in
set_option maxHeartbeats 3200000 in
theorem smk_seg (hd : Hd) (A : Option Addr) (n c : Nat) (lp : Bool) (w : World) (hk : hd.k = 18) (hn : ¬ hd.nm < 0) :
    Calls Tryz.prog 231 #[.agg (hd.vals (.slice A n c)).toArray, .bool lp] w fun e w' => e = .returned (.int .i64 0) ∧ Below w.heap.size w w' := by
  have HB := Lib.hid (fun o => (Below.refl w.heap.size w).alloc (Nat.le_refl _) o)
  simp only [Hd.vals]
  obtain ⟨k, v, t, s, e, nm⟩ := hd
  simp only at hk hn ⊢
  subst hk
  have hbx := heap_alloc_new w (.cells #[.int .i64 18, .int .i64 v, .string t, .int .i64 s, .int .i64 e, .int .i64 nm, .slice A n c] 57)
  go_enter Tryz.func231, Tryz.ntmps231
  go_wp2_with fail
  have hb1 : (( w.alloc (.cells #[.int .i64 18, .int .i64 v, .string t, .int .i64 s, .int .i64 e, .int .i64 nm, .slice A n c] 57)).alloc (.cells #[.int .i64 11, .int .i64 9, .int .i64 13, .int .i64 10, .int .i64 14, .int .i64 11, .int .i64 15, .int .i64 12, .int .i64 16, .int .i64 13] 299)).heap[w.heap.size + 1]? = some (.cells #[.int .i64 11, .int .i64 9, .int .i64 13, .int .i64 10, .int .i64 14, .int .i64 11, .int .i64 15, .int .i64 12, .int .i64 16, .int .i64 13] 299 (0, 0)) := by
    have := heap_alloc_new (w.alloc (.cells #[.int .i64 18, .int .i64 v, .string t, .int .i64 s, .int .i64 e, .int .i64 nm, .slice A n c] 57)) (.cells #[.int .i64 11, .int .i64 9, .int .i64 13, .int .i64 10, .int .i64 14, .int .i64 11, .int .i64 15, .int .i64 12, .int .i64 16, .int .i64 13] 299)
    rw [World.size_alloc] at this
    exact this
  have hb0 := heap_alloc_old (r := w.heap.size) (w.alloc (.cells #[.int .i64 18, .int .i64 v, .string t, .int .i64 s, .int .i64 e, .int .i64 nm, .slice A n c] 57)) (Obj.cells #[.int .i64 11, .int .i64 9, .int .i64 13, .int .i64 10, .int .i64 14, .int .i64 11, .int .i64 15, .int .i64 12, .int .i64 16, .int .i64 13] 299) (by simp)
  rw [hbx] at hb0
  have hbw := (HB.out (.cells #[.int .i64 18, .int .i64 v, .string t, .int .i64 s, .int .i64 e, .int .i64 nm, .slice A n c] 57)).alloc (by simp) (.cells #[.int .i64 11, .int .i64 9, .int .i64 13, .int .i64 10, .int .i64 14, .int .i64 11, .int .i64 15, .int .i64 12, .int .i64 16, .int .i64 13] 299)
  have hsz : w.heap.size + 2 ≤ ((w.alloc (.cells #[.int .i64 18, .int .i64 v, .string t, .int .i64 s, .int .i64 e, .int .i64 nm, .slice A n c] 57)).alloc (.cells #[.int .i64 11, .int .i64 9, .int .i64 13, .int .i64 10, .int .i64 14, .int .i64 11, .int .i64 15, .int .i64 12, .int .i64 16, .int .i64 13] 299)).heap.size := by simp
  clear hbx HB
  generalize World.alloc (w.alloc _) _ = W at *
  go_loopw [49] (fun i wr => ∃ k : Nat, k ≤ 5 ∧ i = .int .i64 (k : Int) ∧ wr.heap[w.heap.size]? = some (.cells #[.int .i64 18, .int .i64 v, .string t, .int .i64 s, .int .i64 e, .int .i64 nm, .slice A n c] 57 (0, 0)) ∧ wr.heap[w.heap.size + 1]? = some (.cells #[.int .i64 11, .int .i64 9, .int .i64 13, .int .i64 10, .int .i64 14, .int .i64 11, .int .i64 15, .int .i64 12, .int .i64 16, .int .i64 13] 299 (0, 0)) ∧ w.heap.size + 2 ≤ wr.heap.size ∧ Below w.heap.size w wr) (fun i _ => 5 - (intOf i).toNat)
  case atStart => exact ⟨0, by omega, rfl, hb0, hb1, hsz, hbw⟩
  case round =>
    clear hb0 hb1 hsz hbw
    obtain ⟨k, hk, rfl, h0, h1, hs2, hb⟩ := hrel
    by_cases hlt : k < 5
    · have hs0 : w.heap.size < wr.heap.size := by omega
      have hs1 : w.heap.size + 1 < wr.heap.size := by omega
      have b0 := cell_of h0 0 _ rfl
      have ht := fun i u hu => cell_of h1 i u hu
      have hd0 := fun o => heap_alloc_old (r := w.heap.size) wr o (by omega)
      have hd1 := fun o => heap_alloc_old (r := w.heap.size + 1) wr o (by omega)
      have H0 := Lib.hid h0
      have H1 := Lib.hid h1
      have HD0 := Lib.hid hd0
      have HD1 := Lib.hid hd1
      have HB := Lib.hid hb
      have HS := Lib.hid hs2
      have t0 := ht 0 _ rfl
      have t1 := ht 1 _ rfl
      have t2 := ht 2 _ rfl
      have t3 := ht 3 _ rfl
      have t4 := ht 4 _ rfl
      have t5 := ht 5 _ rfl
      have t6 := ht 6 _ rfl
      have t7 := ht 7 _ rfl
      have t8 := ht 8 _ rfl
      have t9 := ht 9 _ rfl
      clear h0 h1 hd0 hd1 hb ht
      have hk5 : k = 0 ∨ k = 1 ∨ k = 2 ∨ k = 3 ∨ k = 4 := by omega
      rcases hk5 with rfl | rfl | rfl | rfl | rfl
      all_goals
        go_wp2_with fail
        go_roundw
        case rel => exact ⟨_, by decide, rfl, (HD0.out _).trans H0.out, (HD1.out _).trans H1.out, by simp; omega, HB.out.alloc HB.out.size _⟩
        case measure => simp [intOf]
    · have hkI : ¬ (k : Int) < 5 := by omega
      go_wp2_with fail
      go_ret
      exact ⟨rfl, hb⟩
end Go.Proofs.YtpibenilagloaaaGreatDoor

namespace Go.Proofs.YtpibenilagloaaaGreatDoor
set_option linter.unusedVariables false
structure Mdl where
  nm : ByteArray
  src : ByteArray
instance : Inhabited Mdl := ⟨⟨.empty, .empty⟩⟩
structure Sym where
  kind : Int
  mod : Int
  st : Int
  par : Int
  nm : ByteArray
  pub : Bool
instance : Inhabited Sym := ⟨⟨0, 0, 0, 0, .empty, false⟩⟩
structure Xpt where
  mod : Int
  nm : ByteArray
  sym : Int
  pub : Bool
instance : Inhabited Xpt := ⟨⟨0, .empty, 0, false⟩⟩
structure Rfn where
  mod : Int
  st : Int
  sym : Int
instance : Inhabited Rfn := ⟨⟨0, 0, 0⟩⟩
def idxOf (ms : List Mdl) (nm : ByteArray) : Int := Lib.idxBy (fun _ (y : Mdl) => decide (y.nm = nm)) ms default
def andI (a b : Int) : Int := IntKind.i64.wrap ((BitVec.ofInt 64 a &&& BitVec.ofInt 64 b).toNat : Int)
def symKindOf (h : Hd) (lp : Bool) : Int :=
  if h.k = 7 then 6
  else if h.nm < 0 then 0
  else if (h.k = 13 ∧ lp = true) ∨ h.k = 44 then 14
  else if 3 ≤ h.k ∧ h.k ≤ 9 then h.k - 3 + 2
  else if h.k = 11 then 9 else if h.k = 13 then 10 else if h.k = 14 then 11 else if h.k = 15 then 12 else if h.k = 16 then 13 else 0
def isCont (k : Int) : Bool := decide (2 ≤ k) && decide (k ≤ 8)
def declStart (h : Hd) : Int := if h.k = 7 then h.s else h.nm
def flagB (v f : Int) : Bool := !decide (andI v f = 0)
mutual
def symV (m : Int) : Node → Int → Bool → List Sym → List Sym
  | .mk h ch, par, lp, acc =>
    let k := symKindOf h lp
    let loc := (decide (h.k = 12) && lp) || (decide (h.k = 9) || decide (h.k = 38))
    if k = 0 then symVs m ch par loc acc
    else symVs m ch (if isCont k = true then (acc.length : Int) else par) loc (acc ++ [⟨k, m, declStart h, par, h.t, decide (h.k ≤ 9) && flagB h.v 1⟩])
def symVs (m : Int) : List Node → Int → Bool → List Sym → List Sym
  | [], _, _, acc => acc
  | x :: r, par, lp, acc => symVs m r par lp (symV m x par lp acc)
end
def nInt : ByteArray := ⟨#[105, 110, 116]⟩
def nBool : ByteArray := ⟨#[98, 111, 111, 108]⟩
def nString : ByteArray := ⟨#[115, 116, 114, 105, 110, 103]⟩
def nSelf : ByteArray := ⟨#[83, 101, 108, 102]⟩
def builtinsL : List Sym := [nInt, nBool, nString, nSelf].map fun n => ⟨15, -1, -1, -1, n, false⟩
def findAtL (ss : List Sym) (m st : Int) : Int := Lib.idxBy (fun _ (y : Sym) => decide (y.mod = m) && decide (y.st = st)) ss default
def lookupL (xs : List Xpt) (m : Int) (nm : ByteArray) (fr : Int) : List Xpt := xs.filter fun e => decide (e.mod = m) && (decide (e.nm = nm) && (e.pub || decide (m = fr)))
def idxsFrom (p : Sym → Bool) : Nat → List Sym → List Int
  | _, [] => []
  | i, y :: r => if p y then (i : Int) :: idxsFrom p (i + 1) r else idxsFrom p (i + 1) r
def membersL (ss : List Sym) (par : Int) (nm : ByteArray) (kinds : List Int) : List Int := idxsFrom (fun y => decide (y.par = par) && (decide (y.nm = nm) && kinds.contains y.kind)) 0 ss
def cUnres : Int := 11
def cAmb : Int := 14
structure REnv where
  ms : List Mdl
  ss : List Sym
  xs : List Xpt
structure RS where
  mod : Int
  scope : List Int
  cont : Int
  impl : Int
  bounds : List (List Int)
  refs : List Rfn
  ds : List Dg
def uniqueL (c : List Int) : Int × Int := match c with
  | [] => (-1, cUnres)
  | [x] => (x, 0)
  | _ => (-1, cAmb)
def declareL (E : REnv) (x : Node) (s : RS) : RS := if 0 ≤ x.h.nm then { s with scope := s.scope ++ [findAtL E.ss s.mod x.h.nm] } else s
mutual
def declPat (E : REnv) : Node → RS → RS
  | .mk h ch, s => declPats E ch (if h.k = 44 then declareL E (.mk h []) s else s)
def declPats (E : REnv) : List Node → RS → RS
  | [], s => s
  | x :: r, s => declPats E r (declPat E x s)
end
def namedB (y : Sym) : Bool := decide (0 ≤ y.par) && (decide (y.kind ≠ 14) && decide (y.kind ≠ 6))

mutual
def Node.sz : Node → Nat
  | .mk h ch => 1 + szs ch
def szs : List Node → Nat
  | [] => 0
  | x :: r => x.sz + szs r
end
theorem szs_append : ∀ (a b : List Node), szs (a ++ b) = szs a + szs b
  | [], b => by simp [szs]
  | x :: r, b => by rw [List.cons_append, szs, szs, szs_append r b]; omega
mutual
def okS : Node → Bool
  | .mk h ch => ((decide (h.k = 3) && (decide (0 ≤ h.nm) && decide (h.v = 0))) || ((decide (h.k = 18) && decide (0 ≤ h.nm)) || (decide (h.k ≠ 3) && (decide (h.k ≠ 7) && (decide (h.k ≠ 9) && (decide (h.k ≠ 38) && decide (h.nm < 0))))))) && okSs ch
def okSs : List Node → Bool
  | [] => true
  | x :: r => okS x && okSs r
end
theorem okSs_get : ∀ (l : List Node) (j : Nat) (x : Node), okSs l = true → l[j]? = some x → okS x = true
  | [], j, x, h, hj => by simp at hj
  | y :: r, 0, x, h, hj => by
    simp at hj; subst hj
    unfold okSs at h; simp at h; exact h.1
  | y :: r, j + 1, x, h, hj => by
    unfold okSs at h; simp at h
    exact okSs_get r j x h.2 (by simpa using hj)
theorem okS_cases (h : Hd) (ch : List Node) (ho : okS (.mk h ch) = true) : okSs ch = true ∧ ((h.k = 3 ∧ 0 ≤ h.nm ∧ h.v = 0) ∨ (h.k = 18 ∧ 0 ≤ h.nm) ∨ (h.k ≠ 3 ∧ h.k ≠ 7 ∧ h.k ≠ 9 ∧ h.k ≠ 38 ∧ h.nm < 0)) := by
  unfold okS at ho
  simp only [Bool.and_eq_true, Bool.or_eq_true, decide_eq_true_eq] at ho
  exact ⟨ho.2, ho.1.imp (fun h => ⟨h.1, h.2.1, h.2.2⟩) (fun h => h.imp (fun h => h) (fun h => ⟨h.1, h.2.1, h.2.2.1, h.2.2.2.1, h.2.2.2.2⟩))⟩
mutual
def syN (m : Int) : Node → Int → List Sym → List Sym
  | .mk h ch, par, acc => if h.k = 3 then syNs m ch (acc.length : Int) (acc ++ [⟨2, m, h.nm, par, h.t, false⟩]) else syNs m ch par acc
def syNs (m : Int) : List Node → Int → List Sym → List Sym
  | [], _, acc => acc
  | x :: r, par, acc => syNs m r par (syN m x par acc)
end
theorem syNs_append (m : Int) (ys : List Node) (par : Int) : ∀ (xs : List Node) (acc : List Sym), syNs m (xs ++ ys) par acc = syNs m ys par (syNs m xs par acc)
  | [], acc => by rw [List.nil_append, show syNs m [] par acc = acc from by rw [syNs]]
  | x :: r, acc => by
    rw [List.cons_append, syNs, syNs, syNs_append m ys par r]
mutual
theorem syN_len (m : Int) : ∀ (x : Node) (par : Int) (acc : List Sym), (syN m x par acc).length ≤ acc.length + x.sz
  | .mk h ch, par, acc => by
    unfold syN Node.sz
    split
    · have := syNs_len m ch (acc.length : Int) (acc ++ [⟨2, m, h.nm, par, h.t, false⟩])
      rw [List.length_append, List.length_singleton] at this
      omega
    · have := syNs_len m ch par acc
      omega
theorem syNs_len (m : Int) : ∀ (l : List Node) (par : Int) (acc : List Sym), (syNs m l par acc).length ≤ acc.length + szs l
  | [], par, acc => by unfold syNs szs; omega
  | x :: r, par, acc => by
    unfold syNs szs
    have h1 := syN_len m x par acc
    have h2 := syNs_len m r par (syN m x par acc)
    omega
end
def symsN (x : Mdl) (t : Node) : List Sym := syN 0 t 4 (builtinsL ++ [⟨1, 0, -1, -1, x.nm, true⟩])
def okY (ss : List Sym) : Prop := (∀ y ∈ ss, y.par < 0 ∨ (y.kind = 2 ∧ y.par = 4)) ∧ ∃ z, ss[4]? = some z ∧ z.kind = 1
def declN : Nat → List Sym → List Xpt
  | _, [] => []
  | i, y :: r => (if 0 ≤ y.par then [⟨y.mod, y.nm, i, y.pub⟩] else []) ++ declN (i + 1) r
theorem declN_snoc : ∀ (l : List Sym) (i : Nat) (y : Sym), declN i (l ++ [y]) = declN i l ++ (if 0 ≤ y.par then [⟨y.mod, y.nm, ((i + l.length : Nat) : Int), y.pub⟩] else [])
  | [], i, y => by
    rw [List.nil_append, declN, declN, declN, List.append_nil, List.nil_append, List.length_nil, Nat.add_zero]
  | x :: r, i, y => by
    rw [List.cons_append, declN, declN_snoc r (i + 1) y, declN, List.length_cons, show i + 1 + r.length = i + (r.length + 1) by omega, List.append_assoc]
theorem declN_len : ∀ (l : List Sym) (i : Nat), (declN i l).length ≤ l.length
  | [], i => by simp [declN]
  | x :: r, i => by
    have := declN_len r (i + 1)
    rw [declN, List.length_append, List.length_cons]
    split <;> simp <;> omega
theorem declN_lt : ∀ (l : List Sym) (i : Nat), ∀ e ∈ declN i l, e.sym < ((i + l.length : Nat) : Int)
  | [], i => by simp [declN]
  | x :: r, i => by
    intro e he
    rw [declN] at he
    rcases List.mem_append.1 he with he | he
    · split at he
      · simp at he; subst he; simp only [List.length_cons]; omega
      · simp at he
    · have := declN_lt r (i + 1) e he
      rw [List.length_cons]; omega
mutual
def okR (mn : ByteArray) : Node → Bool
  | .mk h ch => if h.k = 17 then (match ch with | [.mk g []] => decide (0 ≤ g.nm) && (decide (g.nm ≤ 1000000) && (decide (g.t.size ≤ 1000000) && decide (g.t ≠ mn))) | _ => false) else if h.k = 10 ∨ h.k = 12 then ch.isEmpty else (decide (h.k = 3) || (decide (h.k = 21) || (decide (h.k = 0) || (decide (h.k = 26) || decide (h.k = 30))))) && okRs mn ch
def okRs (mn : ByteArray) : List Node → Bool
  | [] => true
  | x :: r => okR mn x && okRs mn r
end
theorem okRs_get (mn : ByteArray) : ∀ (l : List Node) (j : Nat) (x : Node), okRs mn l = true → l[j]? = some x → okR mn x = true
  | [], j, x, h, hj => by simp at hj
  | y :: r, 0, x, h, hj => by
    simp at hj; subst hj
    unfold okRs at h; simp at h; exact h.1
  | y :: r, j + 1, x, h, hj => by
    unfold okRs at h; simp at h
    exact okRs_get mn r j x h.2 (by simpa using hj)
theorem okR_cases (mn : ByteArray) (h : Hd) (ch : List Node) (ho : okR mn (.mk h ch) = true) : (h.k = 17 ∧ ∃ g, ch = [.mk g []] ∧ 0 ≤ g.nm ∧ g.nm ≤ 1000000 ∧ g.t.size ≤ 1000000 ∧ g.t ≠ mn) ∨ (h.k = 10 ∧ ch = []) ∨ (h.k = 12 ∧ ch = []) ∨ ((h.k = 3 ∨ h.k = 21 ∨ h.k = 0 ∨ h.k = 26 ∨ h.k = 30) ∧ okRs mn ch = true) := by
  unfold okR at ho
  split at ho
  · rename_i h17
    left
    split at ho
    · simp only [Bool.and_eq_true, decide_eq_true_eq] at ho
      exact ⟨h17, _, rfl, ho.1, ho.2.1, ho.2.2.1, ho.2.2.2⟩
    · cases ho
  · split at ho
    · rename_i h10
      have : ch = [] := by simpa using ho
      rcases h10 with h | h
      · exact .inr (.inl ⟨h, this⟩)
      · exact .inr (.inr (.inl ⟨h, this⟩))
    · right; right; right
      simp only [Bool.and_eq_true, Bool.or_eq_true, decide_eq_true_eq] at ho
      exact ho
structure RD where
  rf : List Rfn
  ds : List Dg
def firstN (ss : List Sym) (xs : List Xpt) (nm : ByteArray) : Int × Int :=
  if (uniqueL ((lookupL xs 0 nm 0).map Xpt.sym)).2 ≠ cUnres then uniqueL ((lookupL xs 0 nm 0).map Xpt.sym) else uniqueL (membersL ss (-1) nm [15])
def segN (F : ByteArray → Int × Int) (g : Hd) (s : RD) : RD :=
  ⟨s.rf ++ [⟨0, g.nm, (F g.t).1⟩], if (F g.t).2 = 0 then s.ds else s.ds ++ [⟨(F g.t).2, 0, g.nm, g.nm + g.t.size, g.t⟩]⟩
mutual
def visN (F : ByteArray → Int × Int) : Node → RD → RD
  | .mk h ch, s => if h.k = 17 then (match ch with | .mk g _ :: _ => segN F g s | [] => s) else visNs F ch s
def visNs (F : ByteArray → Int × Int) : List Node → RD → RD
  | [], s => s
  | x :: r, s => visNs F r (visN F x s)
end
theorem visNs_append (F : ByteArray → Int × Int) (ys : List Node) : ∀ (xs : List Node) (s : RD), visNs F (xs ++ ys) s = visNs F ys (visNs F xs s)
  | [], s => by rw [List.nil_append, show visNs F [] s = s from by rw [visNs]]
  | x :: r, s => by rw [List.cons_append, visNs, visNs, visNs_append F ys r]
mutual
theorem visN_len (F : ByteArray → Int × Int) : ∀ (x : Node) (s : RD), (visN F x s).rf.length ≤ s.rf.length + x.sz ∧ (visN F x s).ds.length ≤ s.ds.length + x.sz
  | .mk h ch, s => by
    unfold visN Node.sz
    split
    · split
      · unfold segN
        simp only [List.length_append, List.length_singleton]
        refine ⟨by omega, ?_⟩
        split
        · omega
        · simp only [List.length_append, List.length_singleton]; omega
      · omega
    · have := visNs_len F ch s
      omega
theorem visNs_len (F : ByteArray → Int × Int) : ∀ (l : List Node) (s : RD), (visNs F l s).rf.length ≤ s.rf.length + szs l ∧ (visNs F l s).ds.length ≤ s.ds.length + szs l
  | [], s => by unfold visNs szs; omega
  | x :: r, s => by
    unfold visNs szs
    have h1 := visN_len F x s
    have h2 := visNs_len F r (visN F x s)
    omega
end
end Go.Proofs.YtpibenilagloaaaGreatDoor

namespace Go.Proofs.YtpibenilagloaaaGreatDoor
open Go.RowKit
set_option linter.unusedVariables false
def OF (B : Nat) (v : Value) (w : World) (c : Nat) : Prop := B ≤ c ∧ c < w.heap.size ∧ v.ownBlock ≠ some c
theorem Dat.Own.grow {α : Type} {D : Dat α} {w w2 : World} {B : Nat} {e : TypeId} {v v' : Value} {xs ys : List α} {vs ws : List Value} (h : D.Own w B e (OF B v w) v xs vs) (hy : D.Row w (OF B v w) ys ws) (hg : w.grownBy w2 v.ownBlock) (ho : w2.ownsRow B e D.k v' (xs.length + ys.length) (vs ++ ws))
    (hat : v'.ownBlock = v.ownBlock ∨ ∃ g, v'.ownBlock = some g ∧ w.heap.size ≤ g) : D.Own w2 B e (OF B v' w2) v' (xs ++ ys) (vs ++ ws) := by
  have hsub : ∀ c, OF B v w c → OF B v' w2 c := fun c hc => by
    refine ⟨hc.1, Nat.lt_of_lt_of_le hc.2.1 hg.size, fun e => ?_⟩
    rcases hat with e2 | ⟨g, e2, hge⟩
    · exact hc.2.2 (by rw [← e2]; exact e)
    · rw [e2] at e; injection e with e; have := hc.2.1; omega
  have hw : ∀ c, OF B v w c → w2.heap[c]? = w.heap[c]? := fun c hc => hg.block c hc.2.1 (fun e => hc.2.2 e.symm)
  exact ⟨by rw [List.length_append]; exact ho, Dat.Row.append (hy.keep hsub hw) _ _ (h.2.keep hsub hw)⟩
theorem Dat.Own.below {α : Type} {D : Dat α} {w w' : World} {B : Nat} {e : TypeId} {v : Value} {xs : List α} {vs : List Value} (h : D.Own w B e (OF B v w) v xs vs) (hb : Below w.heap.size w w') : D.Own w' B e (OF B v w') v xs vs :=
  h.keep (fun c hc => ⟨hc.1, Nat.lt_of_lt_of_le hc.2.1 hb.size, hc.2.2⟩) (fun c hc => hb.block c hc.2.1) (fun g hg => hb.block g (h.1.lt g hg).2)
theorem Dat.Row.drop {α : Type} {D : Dat α} {w : World} {F : Nat → Prop} : ∀ (xs : List α) (vs : List Value) (s : Nat), D.Row w F xs vs → D.Row w F (xs.drop s) (vs.drop (s * D.k))
  | xs, vs, 0, h => by simpa using h
  | [], vs, s + 1, h => by unfold Dat.Row at h; subst h; simp [Dat.Row]
  | x :: r, vs, s + 1, h => by
    obtain ⟨us, ws, rfl, h1, h2⟩ := h
    have hl := D.len h1
    rw [List.drop_succ_cons, show (s + 1) * D.k = us.length + s * D.k by rw [hl, Nat.add_mul]; omega, ← List.drop_drop, List.drop_left]
    exact Dat.Row.drop r ws s h2
theorem Dat.Row.take {α : Type} {D : Dat α} {w : World} {F : Nat → Prop} : ∀ (xs : List α) (vs : List Value) (s : Nat), D.Row w F xs vs → D.Row w F (xs.take s) (vs.take (s * D.k))
  | xs, vs, 0, h => by simp [Dat.Row]
  | [], vs, s + 1, h => by unfold Dat.Row at h; subst h; simp [Dat.Row]
  | x :: r, vs, s + 1, h => by
    obtain ⟨us, ws, rfl, h1, h2⟩ := h
    have hl := D.len h1
    have e1 : us.take (us.length + s * D.k) = us := List.take_of_length_le (by omega)
    rw [List.take_succ_cons, show (s + 1) * D.k = us.length + s * D.k by rw [hl, Nat.add_mul]; omega, List.take_append, e1, show us.length + s * D.k - us.length = s * D.k by omega]
    exact ⟨us, _, rfl, h1, Dat.Row.take r ws s h2⟩
theorem Dat.At.drop {α : Type} {D : Dat α} {w : World} {F : Nat → Prop} {A : Option Addr} {xs : List α} (h : D.At w F A xs) (s : Nat) : D.At w F (A.map fun x => x.add (s * D.k)) (xs.drop s) := by
  obtain ⟨vs, h1, h2⟩ := h
  refine ⟨vs.drop (s * D.k), h1.drop xs vs s, fun hp => ?_⟩
  rw [List.length_drop] at hp
  obtain ⟨b, off, rfl, hb, hc⟩ := h2 (by omega)
  refine ⟨b, off + s * D.k, by simp [Addr.add], hb, fun j u hu => ?_⟩
  rw [List.getElem?_drop] at hu
  rw [Nat.add_assoc]
  exact hc _ u hu
theorem Dat.At.take {α : Type} {D : Dat α} {w : World} {F : Nat → Prop} {A : Option Addr} {xs : List α} (h : D.At w F A xs) (s : Nat) : D.At w F A (xs.take s) := by
  obtain ⟨vs, h1, h2⟩ := h
  refine ⟨vs.take (s * D.k), h1.take xs vs s, fun hp => ?_⟩
  rw [List.length_take] at hp
  obtain ⟨b, off, rfl, hb, hc⟩ := h2 (by omega)
  refine ⟨b, off, rfl, hb, fun j u hu => hc j u ?_⟩
  rw [List.getElem?_take] at hu
  split at hu
  · exact hu
  · cases hu
theorem flat_row {α : Type} {enc : α → List Value} {k : Nat} {hp : 0 < k} {hk : ∀ x, (enc x).length = k} {h1 : ∀ x, ∀ v ∈ enc x, v.oneCell' = true} {w : World} {F : Nat → Prop} {A : Option Addr} {xs : List α} (h : (flatD enc k hp hk h1).At w F A xs) : RowAt w F A (xs.flatMap enc) := by
  obtain ⟨vs, h2, h3⟩ := h
  rw [flatD_row xs vs h2] at h3
  exact h3
theorem flat_len {α : Type} {enc : α → List Value} {k : Nat} (hk : ∀ x, (enc x).length = k) : ∀ xs : List α, (xs.flatMap enc).length = xs.length * k
  | [] => by simp
  | x :: r => by rw [List.flatMap_cons, List.length_append, hk, flat_len hk r, List.length_cons, Nat.add_mul]; omega
theorem flat_get {α : Type} {enc : α → List Value} {k : Nat} {hp : 0 < k} {hk : ∀ x, (enc x).length = k} {h1 : ∀ x, ∀ v ∈ enc x, v.oneCell' = true} {w : World} {F : Nat → Prop} {A : Option Addr} {xs : List α} (h : (flatD enc k hp hk h1).At w F A xs) (i : Nat) (x : α) (hi : xs[i]? = some x) :
    ∃ b off, A = some ⟨b, off, none⟩ ∧ F b ∧ ∀ j u, (enc x)[j]? = some u → w.cell? ⟨b, off + i * k + j, none⟩ = some u := by
  obtain ⟨b, off, us, hA, hb, hv, hc⟩ := h.get i x hi
  have hv : us = enc x := hv
  subst hv
  exact ⟨b, off, hA, hb, hc⟩
def Nw (w w' : World) (b : Nat) : Prop := w.heap.size ≤ b ∧ b < w'.heap.size
def Lt (w : World) (b : Nat) : Prop := b < w.heap.size
theorem filter_take_succ {α : Type} (q : α → Bool) (xs : List α) (j : Nat) (x : α) (h : xs[j]? = some x) : (xs.take (j + 1)).filter q = (xs.take j).filter q ++ (if q x then [x] else []) := by
  rw [List.take_add_one, h, List.filter_append]
  simp only [Option.toList]
  by_cases hq : q x = true
  · simp [hq]
  · simp [hq]
end Go.Proofs.YtpibenilagloaaaGreatDoor
