import Derived.Test.YtpibenilagloaaaGreatDoorMxae
import Derived.Lib.SlBy
/-
  Nodes and the builder in memory.
-/
namespace Go.Proofs.YtpibenilagloaaaGreatDoor
open Go.RowKit
set_option linter.unusedVariables false

def Hd.vals (h : Hd) (v : Value) : List Value := [.int .i64 h.k, .int .i64 h.v, .string h.t, .int .i64 h.s, .int .i64 h.e, .int .i64 h.nm, v]
mutual
/-- seven values stand for a node, in blocks of F -/
def NodeV (w : World) (F : Nat → Prop) : Node → List Value → Prop
  | .mk h ch, vs => ∃ A c, vs = h.vals (.slice A ch.length c) ∧ (ch = [] ∨ ∃ b off, A = some ⟨b, off, none⟩ ∧ F b ∧ NodesV w F ch b off)
/-- the cells of block b from i on stand for the nodes -/
def NodesV (w : World) (F : Nat → Prop) : List Node → Nat → Nat → Prop
  | [], _, _ => True
  | x :: r, b, i => (∃ vs, NodeV w F x vs ∧ ∀ j v, vs[j]? = some v → w.cell? ⟨b, i + j, none⟩ = some v) ∧ NodesV w F r b (i + 7)
end
mutual
theorem NodeV.keep {w w' : World} {F F' : Nat → Prop} (hF : ∀ b, F b → F' b) (hw : ∀ b, F b → w'.heap[b]? = w.heap[b]?) : ∀ (x : Node) (vs : List Value), NodeV w F x vs → NodeV w' F' x vs
  | .mk k ch, vs, h => by
    unfold NodeV at h ⊢
    obtain ⟨A, c, h2, h3⟩ := h
    refine ⟨A, c, h2, ?_⟩
    rcases h3 with h3 | ⟨b, off, hA, hb, h3⟩
    · exact .inl h3
    · exact .inr ⟨b, off, hA, hF _ hb, NodesV.keep hF hw ch b off hb h3⟩
theorem NodesV.keep {w w' : World} {F F' : Nat → Prop} (hF : ∀ b, F b → F' b) (hw : ∀ b, F b → w'.heap[b]? = w.heap[b]?) : ∀ (xs : List Node) (b i : Nat), F b → NodesV w F xs b i → NodesV w' F' xs b i
  | [], _, _, _, _ => by unfold NodesV; trivial
  | x :: r, b, i, hb, h => by
    unfold NodesV at h ⊢
    obtain ⟨⟨vs, h0, h1⟩, h4⟩ := h
    exact ⟨⟨vs, NodeV.keep hF hw x vs h0, fun j v hv => (World.cell?_of_block (w := w) (w' := w') (a := ⟨b, i + j, none⟩) (hw b hb)).trans (h1 j v hv)⟩, NodesV.keep hF hw r b (i + 7) hb h4⟩
end
theorem NodeV.vals {w : World} {F : Nat → Prop} {n : Node} {vs : List Value} (h : NodeV w F n vs) : ∃ A c, vs = n.h.vals (.slice A n.ch.length c) ∧ (n.ch = [] ∨ ∃ b off, A = some ⟨b, off, none⟩ ∧ F b ∧ NodesV w F n.ch b off) := by
  cases n with | mk h ch => unfold NodeV at h; exact h
theorem NodeV.of {w : World} {F : Nat → Prop} {n : Node} {A : Option Addr} {c : Nat} (h : n.ch = [] ∨ ∃ b off, A = some ⟨b, off, none⟩ ∧ F b ∧ NodesV w F n.ch b off) : NodeV w F n (n.h.vals (.slice A n.ch.length c)) := by
  cases n with | mk k ch => unfold NodeV; exact ⟨A, c, rfl, h⟩
theorem NodesV.get {w : World} {F : Nat → Prop} : ∀ (xs : List Node) (b i k : Nat) (x : Node), NodesV w F xs b i → xs[k]? = some x → ∃ vs, NodeV w F x vs ∧ ∀ j v, vs[j]? = some v → w.cell? ⟨b, i + k * 7 + j, none⟩ = some v
  | [], _, _, _, _, _, h => by simp at h
  | y :: r, b, i, 0, x, h, hk => by
    simp at hk; subst hk
    unfold NodesV at h
    rw [Nat.zero_mul, Nat.add_zero]
    exact h.1
  | y :: r, b, i, k + 1, x, h, hk => by
    unfold NodesV at h
    have := NodesV.get r b (i + 7) k x h.2 (by simpa using hk)
    rw [show i + (k + 1) * 7 = i + 7 + k * 7 by omega]
    exact this
/-- a row's cells stand for the nodes -/
def RowN (w : World) (F : Nat → Prop) : List Node → List Value → Prop
  | [], vs => vs = []
  | x :: r, vs => ∃ us ws, vs = us ++ ws ∧ NodeV w F x us ∧ RowN w F r ws
theorem NodeV.len {w : World} {F : Nat → Prop} {n : Node} {vs : List Value} (h : NodeV w F n vs) : vs.length = 7 := by
  obtain ⟨A, c, rfl, _⟩ := h.vals; rfl
theorem RowN.keep {w w' : World} {F F' : Nat → Prop} (hF : ∀ b, F b → F' b) (hw : ∀ b, F b → w'.heap[b]? = w.heap[b]?) : ∀ (xs : List Node) (vs : List Value), RowN w F xs vs → RowN w' F' xs vs
  | [], vs, h => h
  | x :: r, vs, h => by
    obtain ⟨us, ws, e, h1, h2⟩ := h
    exact ⟨us, ws, e, NodeV.keep hF hw x us h1, RowN.keep hF hw r ws h2⟩
theorem RowN.length {w : World} {F : Nat → Prop} : ∀ (xs : List Node) (vs : List Value), RowN w F xs vs → vs.length = xs.length * 7
  | [], vs, h => by unfold RowN at h; subst h; rfl
  | x :: r, vs, h => by
    obtain ⟨us, ws, rfl, h1, h2⟩ := h
    rw [List.length_append, h1.len, RowN.length r ws h2, List.length_cons]; omega
theorem RowN.snoc {w : World} {F : Nat → Prop} {x : Node} {us : List Value} (hx : NodeV w F x us) : ∀ (xs : List Node) (vs : List Value), RowN w F xs vs → RowN w F (xs ++ [x]) (vs ++ us)
  | [], vs, h => by unfold RowN at h; subst h; exact ⟨us, [], by simp, hx, rfl⟩
  | y :: r, vs, h => by
    obtain ⟨u, ws, rfl, h1, h2⟩ := h
    exact ⟨u, ws ++ us, by simp, h1, RowN.snoc hx r ws h2⟩
/-- a row in a block is a list of nodes -/
theorem RowN.nodes {w : World} {F : Nat → Prop} (b : Nat) : ∀ (xs : List Node) (vs : List Value) (i : Nat), RowN w F xs vs → (∀ j u, vs[j]? = some u → w.cell? ⟨b, i + j, none⟩ = some u) → NodesV w F xs b i
  | [], _, _, _, _ => by unfold NodesV; trivial
  | x :: r, vs, i, h, hc => by
    obtain ⟨us, ws, rfl, h1, h2⟩ := h
    unfold NodesV
    have hl := h1.len
    refine ⟨⟨us, h1, fun j v hv => hc j v ?_⟩, RowN.nodes b r ws (i + 7) h2 fun j u hu => ?_⟩
    · rw [List.getElem?_append_left (List.getElem?_eq_some_iff.1 hv).1]; exact hv
    · rw [show i + 7 + j = i + (7 + j) by omega]
      refine hc (7 + j) u ?_
      rw [List.getElem?_append_right (by omega), hl, show 7 + j - 7 = j by omega]
      exact hu

/- THE BUILDER -/
def Dg.cells (d : Dg) : List Value := [.int .i64 d.code, .int .i64 d.mod, .int .i64 d.s, .int .i64 d.e, .string d.nm]
theorem Dg.cells_len (d : Dg) : d.cells.length = 5 := rfl
theorem info_dg : (Tryz.prog.info? 99).map (fun i => (i.zero, i.size, i.bytes)) = some (some (.agg #[.int .i64 0, .int .i64 0, .int .i64 0, .int .i64 0, .string .empty]), 5, 48) := by kernel_rfl
theorem info_node : (Tryz.prog.info? 57).map (fun i => (i.zero, i.size, i.bytes)) = some (some (.agg #[.int .i64 0, .int .i64 0, .string .empty, .int .i64 0, .int .i64 0, .int .i64 0, .slice none 0 0]), 7, 80) := by kernel_rfl
/-- the package-level variables that the code reads lie below block ng -/
def ng : Nat := Nat.max 1 4 + 1
/-- the package-level variables that the code reads -/
structure Gl (w : World) : Prop where
  asc : AscAt w
  rng : ∃ te pe, w.cell? ⟨4, 0, none⟩ = some (.iface te pe)
  big : ng ≤ w.heap.size
theorem glob_lt : 1 < ng ∧ 4 < ng := by decide
theorem Gl.keep {w w' : World} (h : Gl w) (hs : w.heap.size ≤ w'.heap.size) (hw : ∀ b, b < ng → w'.heap[b]? = w.heap[b]?) : Gl w' := by
  obtain ⟨te, pe, h2⟩ := h.rng
  exact ⟨h.asc.keep (hw _ glob_lt.1), ⟨te, pe, (World.cell?_of_block (w := w) (w' := w') (a := ⟨_, 0, none⟩) (hw _ glob_lt.2)).trans h2⟩, Nat.le_trans h.big hs⟩
/-- the builder at block p -/
structure BAtX (w : World) (p : Nat) (M : MM) (src : ByteArray) (b : BS) (v : Value) : Prop where
  blk : w.heap[p]? = some (.cells #[.string src, .int .i64 b.off, v] 126 (0, 0))
  row : w.ownsRow 0 99 5 v b.ds.length (b.ds.flatMap Dg.cells)
  mp : M p
  mr : ∀ g, v.ownBlock = some g → M g ∧ g ≠ p
  gl : Gl w
  glM : ∀ c, M c → ng ≤ c
def BAt (w : World) (p : Nat) (M : MM) (src : ByteArray) (b : BS) : Prop := ∃ v, BAtX w p M src b v
/-- what a function of the builder leaves -/
def BPost (M : MM) (w : World) (p : Nat) (src : ByteArray) (b : BS) (r : Value) (e : Ending) (w' : World) : Prop :=
  e = .returned r ∧ ∃ M', BAt w' p M' src b ∧ Step M w M' w'
theorem Gl.step {M M' : MM} {w w' : World} (h : Gl w) (hM : ∀ c, M c → ng ≤ c) (hs : Step M w M' w') : Gl w' :=
  h.keep hs.size fun b hb => hs.block b (Nat.lt_of_lt_of_le hb h.big) fun hm => by have := hM b hm; omega
theorem BAtX.lt {w : World} {p : Nat} {M : MM} {src : ByteArray} {b : BS} {v : Value} (h : BAtX w p M src b v) : p < w.heap.size := lt_of_heap h.blk
/-- the builder stands where nothing of its own is written -/
theorem BAt.keep {w w' : World} {p : Nat} {M : MM} {src : ByteArray} {b : BS} (h : BAt w p M src b) (hs : w.heap.size ≤ w'.heap.size) (hw : ∀ c, c < w.heap.size → w'.heap[c]? = w.heap[c]?) : BAt w' p M src b := by
  obtain ⟨v, h⟩ := h
  exact ⟨v, (hw _ h.lt).trans h.blk, ownsRow_below h.row fun g hg => hw g (h.row.lt g hg).2, h.mp, h.mr, h.gl.keep hs (fun b hb => hw b (Nat.lt_of_lt_of_le hb h.gl.big)), h.glM⟩
theorem BAt.below {w w' : World} {p : Nat} {M : MM} {src : ByteArray} {b : BS} (h : BAt w p M src b) (hb : Below w.heap.size w w') : BAt w' p M src b := h.keep hb.size hb.block
/-- a diagnostic more -/
theorem BAtX.push {w w2 : World} {p : Nat} {M : MM} {src : ByteArray} {b : BS} {v v' : Value} (h : BAtX w p M src b v) (d : Dg) (hg : w.grownBy w2 v.ownBlock) (ho : w2.ownsRow 0 99 5 v' (b.ds.length + 1) (b.ds.flatMap Dg.cells ++ d.cells))
    (hat : v'.ownBlock = v.ownBlock ∨ ∃ g, v'.ownBlock = some g ∧ w.heap.size ≤ g) :
    BAt (w2.setCell ⟨p, 2, none⟩ v') p (More M v'.ownBlock) src { b with ds := b.ds ++ [d] } ∧ Step M w (More M v'.ownBlock) (w2.setCell ⟨p, 2, none⟩ v') := by
  have hS := (Step.grown hg (fun b hb => (h.mr b hb).1) hat).set p 2 v' (.inl h.mp)
  have hpv : v.ownBlock ≠ some p := fun e => (h.mr p e).2 rfl
  have hpv' : ∀ g, v'.ownBlock = some g → g ≠ p := fun g hg' e => by
    subst e
    rcases hat with e | ⟨g', e, hge⟩
    · exact hpv (by rw [← e, hg'])
    · rw [e] at hg'; injection hg' with hg'; have := h.lt; omega
  refine ⟨⟨v', ?_, ?_, .inl h.mp, fun g hg => ⟨.inr hg, hpv' g hg⟩, h.gl.step h.glM hS, fun c hc => ?_⟩, hS⟩
  · exact heap_set ((hg.block p h.lt (fun e => hpv e.symm)).trans h.blk) 2 v'
  · have : (b.ds ++ [d]).flatMap Dg.cells = b.ds.flatMap Dg.cells ++ d.cells := by simp
    rw [List.length_append, List.length_singleton, this]
    exact ownsRow_below ho fun g hg => Below.heap_setCell _ _ _ _ (hpv' g hg)
  · rcases hc with hc | hc
    · exact h.glM c hc
    · rcases hat with e | ⟨g', e, hge⟩
      · exact h.glM c (h.mr c (by rw [← e, hc])).1
      · rw [e] at hc; injection hc with hc; have := h.gl.big; omega

/- A NODE UNDER CONSTRUCTION -/
def HAt (w : World) (q : Nat) (h : Hd) (v : Value) : Prop := w.heap[q]? = some (.cells #[.int .i64 h.k, .int .i64 h.v, .string h.t, .int .i64 h.s, .int .i64 h.e, .int .i64 h.nm, v] 57 (0, 0))
/-- nothing but block q has changed -/
structure Upd (q : Nat) (w w' : World) : Prop where
  os : w'.os = w.os
  tape : w'.tape = w.tape
  output : w'.output = w.output
  size : w'.heap.size = w.heap.size
  block : ∀ b, b ≠ q → w'.heap[b]? = w.heap[b]?
theorem Upd.refl (q : Nat) (w : World) : Upd q w w := ⟨rfl, rfl, rfl, rfl, fun _ _ => rfl⟩
theorem Upd.set {q : Nat} {w w' : World} (h : Upd q w w') (i : Nat) (v : Value) : Upd q w (w'.setCell ⟨q, i, none⟩ v) :=
  ⟨h.os, h.tape, h.output, by simp only [World.size_setCell]; exact h.size, fun b hb => (Below.heap_setCell _ _ _ _ hb).trans (h.block b hb)⟩
theorem Upd.trans {q : Nat} {a b c : World} (h : Upd q a b) (k : Upd q b c) : Upd q a c := ⟨k.os.trans h.os, k.tape.trans h.tape, k.output.trans h.output, k.size.trans h.size, fun b hb => (k.block b hb).trans (h.block b hb)⟩
theorem HAt.keep {w w' : World} {q : Nat} {h : Hd} {v : Value} (H : HAt w q h v) (hw : w'.heap[q]? = w.heap[q]?) : HAt w' q h v := hw.trans H
end Go.Proofs.YtpibenilagloaaaGreatDoor

/-
  symbols: symbolKind (at nodes without a name, and at declarations), declarationStart, IsContainer.
-/
namespace Go.Proofs.YtpibenilagloaaaGreatDoor
open Go.RowKit
set_option linter.unusedVariables false

set_option maxRecDepth 100000 in
set_option maxHeartbeats 1600000 in
theorem smk_none (hd : Hd) (A : Option Addr) (n c : Nat) (lp : Bool) (w : World) (h7 : hd.k ≠ 7) (hn : hd.nm < 0) :
    Calls Tryz.prog 231 #[.agg (hd.vals (.slice A n c)).toArray, .bool lp] w fun e w' => e = .returned (.int .i64 0) ∧ Below w.heap.size w w' := by
  have HB := Lib.hid (fun o => (Below.refl w.heap.size w).alloc (Nat.le_refl _) o)
  simp only [Hd.vals]
  go_enter Tryz.func231, Tryz.ntmps231
  go_wp2_with fail
  go_ret
  exact ⟨rfl, HB.out _⟩
set_option maxRecDepth 100000 in
set_option maxHeartbeats 1600000 in
theorem smk_fn (hd : Hd) (A : Option Addr) (n c : Nat) (lp : Bool) (w : World) (hk : hd.k = 3) (hn : ¬ hd.nm < 0) :
    Calls Tryz.prog 231 #[.agg (hd.vals (.slice A n c)).toArray, .bool lp] w fun e w' => e = .returned (.int .i64 2) ∧ Below w.heap.size w w' := by
  have HB := Lib.hid (fun o => (Below.refl w.heap.size w).alloc (Nat.le_refl _) o)
  simp only [Hd.vals]
  obtain ⟨k, v, t, s, e, nm⟩ := hd
  simp only at hk hn ⊢
  subst hk
  go_enter Tryz.func231, Tryz.ntmps231
  go_wp2_with fail
  go_ret
  exact ⟨rfl, HB.out _⟩
set_option maxHeartbeats 1600000 in
theorem dst_any (hd : Hd) (A : Option Addr) (n c : Nat) (w : World) (h7 : hd.k ≠ 7) :
    Calls Tryz.prog 232 #[.agg (hd.vals (.slice A n c)).toArray] w fun e w' => e = .returned (.int .i64 hd.nm) ∧ Below w.heap.size w w' := by
  have HB := Lib.hid (fun o => (Below.refl w.heap.size w).alloc (Nat.le_refl _) o)
  simp only [Hd.vals]
  go_enter Tryz.func232, Tryz.ntmps232
  go_wp2_with fail
  go_ret
  exact ⟨rfl, HB.out _⟩
set_option maxHeartbeats 1600000 in
theorem isc_any (k : Int) (w : World) :
    Calls Tryz.prog 179 #[.int .i64 k] w fun e w' => e = .returned (.bool (decide (2 ≤ k ∧ k ≤ 8))) ∧ w' = w := by
  by_cases g1 : 2 ≤ k
  · by_cases g2 : k ≤ 8
    · rw [decide_eq_true ⟨g1, g2⟩]
      go_enter Tryz.func179, Tryz.ntmps179
      go_wp2_with fail
      go_ret
      exact ⟨by simp, rfl⟩
    · rw [decide_eq_false (fun h => g2 h.2)]
      go_enter Tryz.func179, Tryz.ntmps179
      go_wp2_with fail
      go_ret
      exact ⟨by simp, rfl⟩
  · rw [decide_eq_false (fun h => g1 h.1)]
    go_enter Tryz.func179, Tryz.ntmps179
    go_wp2_with fail
    go_ret
    exact ⟨by simp, rfl⟩
end Go.Proofs.YtpibenilagloaaaGreatDoor

/-
  symbols.symbolKind at a segment of a path.
-/
namespace Go.Proofs.YtpibenilagloaaaGreatDoor
open Go.RowKit
set_option linter.unusedVariables false

set_option maxRecDepth 100000 in
set_option maxHeartbeats 3200000 in
theorem smk_seg (hd : Hd) (A : Option Addr) (n c : Nat) (lp : Bool) (w : World) (hk : hd.k = 18) (hn : ¬ hd.nm < 0) :
    Calls Tryz.prog 231 #[.agg (hd.vals (.slice A n c)).toArray, .bool lp] w fun e w' => e = .returned (.int .i64 0) ∧ Below w.heap.size w w' := by
  have HB := Lib.hid (fun o => (Below.refl w.heap.size w).alloc (Nat.le_refl _) o)
  simp only [Hd.vals]
  obtain ⟨k, v, t, s, e, nm⟩ := hd
  simp only at hk hn ⊢
  subst hk
  have hbx := heap_alloc_new w (.cells #[.int .i64 18, .int .i64 v, .string t, .int .i64 s, .int .i64 e, .int .i64 nm, .slice A n c] 57)
  go_enter Tryz.func231, Tryz.ntmps231
  go_wp2_with fail
  have hb1 : (( w.alloc (.cells #[.int .i64 18, .int .i64 v, .string t, .int .i64 s, .int .i64 e, .int .i64 nm, .slice A n c] 57)).alloc (.cells #[.int .i64 11, .int .i64 9, .int .i64 13, .int .i64 10, .int .i64 14, .int .i64 11, .int .i64 15, .int .i64 12, .int .i64 16, .int .i64 13] 299)).heap[w.heap.size + 1]? = some (.cells #[.int .i64 11, .int .i64 9, .int .i64 13, .int .i64 10, .int .i64 14, .int .i64 11, .int .i64 15, .int .i64 12, .int .i64 16, .int .i64 13] 299 (0, 0)) := by
    have := heap_alloc_new (w.alloc (.cells #[.int .i64 18, .int .i64 v, .string t, .int .i64 s, .int .i64 e, .int .i64 nm, .slice A n c] 57)) (.cells #[.int .i64 11, .int .i64 9, .int .i64 13, .int .i64 10, .int .i64 14, .int .i64 11, .int .i64 15, .int .i64 12, .int .i64 16, .int .i64 13] 299)
    rw [World.size_alloc] at this
    exact this
  have hb0 := heap_alloc_old (r := w.heap.size) (w.alloc (.cells #[.int .i64 18, .int .i64 v, .string t, .int .i64 s, .int .i64 e, .int .i64 nm, .slice A n c] 57)) (Obj.cells #[.int .i64 11, .int .i64 9, .int .i64 13, .int .i64 10, .int .i64 14, .int .i64 11, .int .i64 15, .int .i64 12, .int .i64 16, .int .i64 13] 299) (by simp)
  rw [hbx] at hb0
  have hbw := (HB.out (.cells #[.int .i64 18, .int .i64 v, .string t, .int .i64 s, .int .i64 e, .int .i64 nm, .slice A n c] 57)).alloc (by simp) (.cells #[.int .i64 11, .int .i64 9, .int .i64 13, .int .i64 10, .int .i64 14, .int .i64 11, .int .i64 15, .int .i64 12, .int .i64 16, .int .i64 13] 299)
  have hsz : w.heap.size + 2 ≤ ((w.alloc (.cells #[.int .i64 18, .int .i64 v, .string t, .int .i64 s, .int .i64 e, .int .i64 nm, .slice A n c] 57)).alloc (.cells #[.int .i64 11, .int .i64 9, .int .i64 13, .int .i64 10, .int .i64 14, .int .i64 11, .int .i64 15, .int .i64 12, .int .i64 16, .int .i64 13] 299)).heap.size := by simp
  clear hbx HB
  generalize World.alloc (w.alloc _) _ = W at *
  go_loopw [49] (fun i wr => ∃ k : Nat, k ≤ 5 ∧ i = .int .i64 (k : Int) ∧ wr.heap[w.heap.size]? = some (.cells #[.int .i64 18, .int .i64 v, .string t, .int .i64 s, .int .i64 e, .int .i64 nm, .slice A n c] 57 (0, 0)) ∧ wr.heap[w.heap.size + 1]? = some (.cells #[.int .i64 11, .int .i64 9, .int .i64 13, .int .i64 10, .int .i64 14, .int .i64 11, .int .i64 15, .int .i64 12, .int .i64 16, .int .i64 13] 299 (0, 0)) ∧ w.heap.size + 2 ≤ wr.heap.size ∧ Below w.heap.size w wr) (fun i _ => 5 - (intOf i).toNat)
  case atStart => exact ⟨0, by omega, rfl, hb0, hb1, hsz, hbw⟩
  case round =>
    clear hb0 hb1 hsz hbw
    obtain ⟨k, hk, rfl, h0, h1, hs2, hb⟩ := hrel
    by_cases hlt : k < 5
    · have hs0 : w.heap.size < wr.heap.size := by omega
      have hs1 : w.heap.size + 1 < wr.heap.size := by omega
      have b0 := cell_of h0 0 _ rfl
      have ht := fun i u hu => cell_of h1 i u hu
      have hd0 := fun o => heap_alloc_old (r := w.heap.size) wr o (by omega)
      have hd1 := fun o => heap_alloc_old (r := w.heap.size + 1) wr o (by omega)
      have H0 := Lib.hid h0
      have H1 := Lib.hid h1
      have HD0 := Lib.hid hd0
      have HD1 := Lib.hid hd1
      have HB := Lib.hid hb
      have HS := Lib.hid hs2
      have t0 := ht 0 _ rfl
      have t1 := ht 1 _ rfl
      have t2 := ht 2 _ rfl
      have t3 := ht 3 _ rfl
      have t4 := ht 4 _ rfl
      have t5 := ht 5 _ rfl
      have t6 := ht 6 _ rfl
      have t7 := ht 7 _ rfl
      have t8 := ht 8 _ rfl
      have t9 := ht 9 _ rfl
      clear h0 h1 hd0 hd1 hb ht
      have hk5 : k = 0 ∨ k = 1 ∨ k = 2 ∨ k = 3 ∨ k = 4 := by omega
      rcases hk5 with rfl | rfl | rfl | rfl | rfl
      all_goals
        go_wp2_with fail
        go_roundw
        case rel => exact ⟨_, by decide, rfl, (HD0.out _).trans H0.out, (HD1.out _).trans H1.out, by simp; omega, HB.out.alloc HB.out.size _⟩
        case measure => simp [intOf]
    · have hkI : ¬ (k : Int) < 5 := by omega
      go_wp2_with fail
      go_ret
      exact ⟨rfl, hb⟩
end Go.Proofs.YtpibenilagloaaaGreatDoor

/-
  Workspaces, symbols, exports and the resolver as plain data.
-/
namespace Go.Proofs.YtpibenilagloaaaGreatDoor
set_option linter.unusedVariables false

/-- a module -/
structure Mdl where
  nm : ByteArray
  src : ByteArray
instance : Inhabited Mdl := ⟨⟨.empty, .empty⟩⟩
/-- a symbol -/
structure Sym where
  kind : Int
  mod : Int
  st : Int
  par : Int
  nm : ByteArray
  pub : Bool
instance : Inhabited Sym := ⟨⟨0, 0, 0, 0, .empty, false⟩⟩
/-- an export -/
structure Xpt where
  mod : Int
  nm : ByteArray
  sym : Int
  pub : Bool
instance : Inhabited Xpt := ⟨⟨0, .empty, 0, false⟩⟩
/-- a reference -/
structure Rfn where
  mod : Int
  st : Int
  sym : Int
instance : Inhabited Rfn := ⟨⟨0, 0, 0⟩⟩

/- WORKSPACE -/
def isIdentL (s : ByteArray) : Bool := decide (s.size ≠ 0) && decide (s.size ≤ 30) && (decide ((firstL s.data.toList).1 = s.size) && decide ((firstL s.data.toList).2 = 103))
def idxOf (ms : List Mdl) (nm : ByteArray) : Int := Lib.idxBy (fun _ (y : Mdl) => decide (y.nm = nm)) ms default
def dupFrom (ms : List Mdl) : Nat → Nat → Bool
  | 0, _ => false
  | n + 1, i => if 0 ≤ idxOf (ms.take i) (ms.getD i default).nm then true else dupFrom ms n (i + 1)
def validL (ms : List Mdl) : Int :=
  if 8 < ms.length ∨ (ms.any fun m => decide (2000 < m.src.size)) = true then 2
  else if (ms.any fun m => !isIdentL m.nm) = true then 3
  else if dupFrom ms ms.length 0 = true then 6 else 0

/- SYMBOLS -/
def andI (a b : Int) : Int := IntKind.i64.wrap ((BitVec.ofInt 64 a &&& BitVec.ofInt 64 b).toNat : Int)
def symKindOf (h : Hd) (lp : Bool) : Int :=
  if h.k = 7 then 6
  else if h.nm < 0 then 0
  else if (h.k = 13 ∧ lp = true) ∨ h.k = 44 then 14
  else if 3 ≤ h.k ∧ h.k ≤ 9 then h.k - 3 + 2
  else if h.k = 11 then 9 else if h.k = 13 then 10 else if h.k = 14 then 11 else if h.k = 15 then 12 else if h.k = 16 then 13 else 0
def isCont (k : Int) : Bool := decide (2 ≤ k) && decide (k ≤ 8)
def declStart (h : Hd) : Int := if h.k = 7 then h.s else h.nm
def flagB (v f : Int) : Bool := !decide (andI v f = 0)
mutual
def symV (m : Int) : Node → Int → Bool → List Sym → List Sym
  | .mk h ch, par, lp, acc =>
    let k := symKindOf h lp
    let loc := (decide (h.k = 12) && lp) || (decide (h.k = 9) || decide (h.k = 38))
    if k = 0 then symVs m ch par loc acc
    else symVs m ch (if isCont k = true then (acc.length : Int) else par) loc (acc ++ [⟨k, m, declStart h, par, h.t, decide (h.k ≤ 9) && flagB h.v 1⟩])
def symVs (m : Int) : List Node → Int → Bool → List Sym → List Sym
  | [], _, _, acc => acc
  | x :: r, par, lp, acc => symVs m r par lp (symV m x par lp acc)
end
def nInt : ByteArray := ⟨#[105, 110, 116]⟩
def nBool : ByteArray := ⟨#[98, 111, 111, 108]⟩
def nString : ByteArray := ⟨#[115, 116, 114, 105, 110, 103]⟩
def nSelf : ByteArray := ⟨#[83, 101, 108, 102]⟩
def builtinsL : List Sym := [nInt, nBool, nString, nSelf].map fun n => ⟨15, -1, -1, -1, n, false⟩
def listFrom (i : Nat) : List (Mdl × Node) → List Sym → List Sym
  | [], acc => acc
  | x :: r, acc => listFrom (i + 1) r (symV i x.2 (acc.length : Int) false (acc ++ [⟨1, i, -1, -1, x.1.nm, true⟩]))
def symsL (ms : List Mdl) (ts : List Node) : List Sym := listFrom 0 (ms.zip ts) builtinsL
def findAtL (ss : List Sym) (m st : Int) : Int := Lib.idxBy (fun _ (y : Sym) => decide (y.mod = m) && decide (y.st = st)) ss default

/- EXPORTS -/
def lookupL (xs : List Xpt) (m : Int) (nm : ByteArray) (fr : Int) : List Xpt := xs.filter fun e => decide (e.mod = m) && (decide (e.nm = nm) && (e.pub || decide (m = fr)))
def modSym (ss : List Sym) (m : Int) : Int := Lib.idxBy (fun _ (y : Sym) => decide (y.kind = 1) && decide (y.mod = m)) ss default
def idxsFrom (p : Sym → Bool) : Nat → List Sym → List Int
  | _, [] => []
  | i, y :: r => if p y then (i : Int) :: idxsFrom p (i + 1) r else idxsFrom p (i + 1) r
def membersL (ss : List Sym) (par : Int) (nm : ByteArray) (kinds : List Int) : List Int := idxsFrom (fun y => decide (y.par = par) && (decide (y.nm = nm) && kinds.contains y.kind)) 0 ss
def symAt (ss : List Sym) (i : Int) : Sym := ss.getD i.toNat default
def memberL (ss : List Sym) (xs : List Xpt) (s m : Int) (nm : ByteArray) : List Int :=
  if (symAt ss s).kind = 1 then (lookupL xs (symAt ss s).mod nm m).map Xpt.sym
  else if (symAt ss s).kind = 4 then membersL ss s nm [12] else []
def pathStep (ms : List Mdl) (ss : List Sym) (xs : List Xpt) (m : Int) (i : Nat) (nm : ByteArray) (cur : List Int) : List Int :=
  (if i = 0 then (if 0 ≤ idxOf ms nm then [modSym ss (idxOf ms nm)] else (lookupL xs m nm m).map Xpt.sym) else []) ++ cur.flatMap fun s => memberL ss xs s m nm
def usePathFrom (ms : List Mdl) (ss : List Sym) (xs : List Xpt) (m : Int) : Nat → List Node → List Int → List Int
  | _, [], cur => cur
  | i, x :: r, cur => usePathFrom ms ss xs m (i + 1) r (pathStep ms ss xs m i x.h.t cur)
def usePathL (ms : List Mdl) (ss : List Sym) (xs : List Xpt) (m : Int) (path : Node) : List Int := usePathFrom ms ss xs m 0 path.ch []
def addFrom (e : Xpt) : List Xpt → Option (List Xpt × Bool)
  | [] => none
  | x :: r => if x.mod = e.mod ∧ x.nm = e.nm ∧ x.sym = e.sym then some ({ x with pub := x.pub || e.pub } :: r, !x.pub && e.pub)
    else (addFrom e r).map fun p => (x :: p.1, p.2)
def addL (xs : List Xpt) (e : Xpt) : List Xpt × Bool := match addFrom e xs with
  | some p => p
  | none => (xs ++ [e], true)
def isGlobB (h : Hd) : Bool := flagB h.v 2
def kidAt (x : Node) (i : Nat) : Node := x.ch.getD i default
def lastSeg (path : Node) : Node := path.ch.getLastD default
def importedL (x : Node) : ByteArray := if x.h.t ≠ .empty ∨ isGlobB x.h = true then x.h.t else (lastSeg (kidAt x 0)).h.t
def declaresL (ss : List Sym) (m : Int) (nm : ByteArray) : Bool := !(membersL ss (modSym ss m) nm [2, 3, 4, 5, 7, 8]).isEmpty
def shadowsL (ss : List Sym) (tree : Node) (m : Int) (nm : ByteArray) : Bool := declaresL ss m nm || tree.ch.any fun n => decide (n.h.k = 2) && (!isGlobB n.h && decide (importedL n = nm))
/-- what one target of a glob import gives: names and symbols -/
def globOf (ss : List Sym) (xs : List Xpt) (m : Int) (target : Int) : List (ByteArray × Int) :=
  (if (symAt ss target).kind = 1 then ((xs.filter fun e => decide (e.mod = (symAt ss target).mod) && (e.pub || decide (e.mod = m))).map fun e => (e.nm, e.sym)) else [])
  ++ (if (symAt ss target).kind = 4 then ((idxsFrom (fun y => decide (y.par = target) && decide (y.kind = 12)) 0 ss).map fun i => ((symAt ss i).nm, i)) else [])
def globL (ms : List Mdl) (ss : List Sym) (tree : Node) (xs : List Xpt) (m : Int) (use : Node) : List Xpt :=
  (((usePathL ms ss xs m (kidAt use 0)).flatMap fun t => globOf ss xs m t).filter fun p => !shadowsL ss tree m p.1).map fun p => ⟨m, p.1, p.2, flagB use.h.v 1⟩
def useL (ms : List Mdl) (ss : List Sym) (tree : Node) (xs : List Xpt) (m : Int) (use : Node) : List Xpt :=
  if isGlobB use.h = true then globL ms ss tree xs m use
  else if importedL use ≠ .empty ∧ declaresL ss m (importedL use) = false then (usePathL ms ss xs m (kidAt use 0)).map fun t => ⟨m, importedL use, t, flagB use.h.v 1⟩ else []
def addAll : List Xpt → List Xpt × Bool → List Xpt × Bool
  | [], s => s
  | e :: r, s => addAll r ((addL s.1 e).1, (addL s.1 e).2 || s.2)
def addUses (ms : List Mdl) (ss : List Sym) (tree : Node) (m : Int) : List Node → List Xpt × Bool → List Xpt × Bool
  | [], s => s
  | n :: r, s => addUses ms ss tree m r (if n.h.k = 2 then addAll (useL ms ss tree s.1 m n) s else s)
def addTrees (ms : List Mdl) (ss : List Sym) : Nat → List Node → List Xpt × Bool → List Xpt × Bool
  | _, [], s => s
  | i, t :: r, s => addTrees ms ss (i + 1) r (addUses ms ss t i t.ch s)
def importsOnce (ms : List Mdl) (ss : List Sym) (ts : List Node) (xs : List Xpt) : List Xpt × Bool := addTrees ms ss 0 ts (xs, false)
def declFrom (ss : List Sym) : Nat → List Sym → List Xpt → List Xpt
  | _, [], xs => xs
  | i, y :: r, xs => declFrom ss (i + 1) r (if 0 ≤ y.par ∧ (symAt ss y.par).kind = 1 ∧ isCont y.kind = true ∧ y.kind ≠ 6 then (addL xs ⟨y.mod, y.nm, i, y.pub⟩).1 else xs)
def fixL (ms : List Mdl) (ss : List Sym) (ts : List Node) : Nat → List Xpt → Option (List Xpt)
  | 0, _ => none
  | n + 1, xs => if (importsOnce ms ss ts xs).2 = true then fixL ms ss ts n (importsOnce ms ss ts xs).1 else some (importsOnce ms ss ts xs).1

/- THE RESOLVER -/
def cUnres : Int := 11
def cDup : Int := 12
def cPriv : Int := 13
def cAmb : Int := 14
def cMac : Int := 15
def cGlob : Int := 16
structure REnv where
  ms : List Mdl
  ss : List Sym
  xs : List Xpt
/-- the resolver's state -/
structure RS where
  mod : Int
  scope : List Int
  cont : Int
  impl : Int
  bounds : List (List Int)
  refs : List Rfn
  ds : List Dg
def RS.report (s : RS) (code st : Int) (nm : ByteArray) : RS := { s with ds := s.ds ++ [⟨code, s.mod, st, st + nm.size, nm⟩] }
def uniqueL (c : List Int) : Int × Int := match c with
  | [] => (-1, cUnres)
  | [x] => (x, 0)
  | _ => (-1, cAmb)
def exportedL (E : REnv) (s : RS) (m : Int) (nm : ByteArray) : Int × Int :=
  let u := uniqueL ((lookupL E.xs m nm s.mod).map Xpt.sym)
  if u.2 = cUnres ∧ (lookupL E.xs m nm m).isEmpty = false then (u.1, cPriv) else u
/-- the innermost local declaration of a name -/
def localL (E : REnv) (nm : ByteArray) : List Int → Option Int
  | [] => none
  | i :: r => match localL E nm r with
    | some j => some j
    | none => if (symAt E.ss i).nm = nm then some i else none
def firstSegL (E : REnv) (s : RS) (nm : ByteArray) (inUse : Bool) : Int × Int := match localL E nm s.scope with
  | some i => (i, 0)
  | none =>
    let m := idxOf E.ms nm
    if inUse = true ∧ 0 ≤ m then (modSym E.ss m, 0)
    else
      let u := exportedL E s s.mod nm
      if u.2 ≠ cUnres then u
      else if 0 ≤ m then (modSym E.ss m, 0)
      else uniqueL (membersL E.ss (-1) nm [15])
def assocL (E : REnv) (nm : ByteArray) : List Int → Int × Int
  | [] => (-1, cUnres)
  | c :: r => if 0 ≤ c ∧ (membersL E.ss c nm [13, 2]).isEmpty = false then ((membersL E.ss c nm [13, 2]).headD 0, 0) else assocL E nm r
def nextSegL (E : REnv) (s : RS) (sym : Int) (nm : ByteArray) : Int × Int :=
  let y := symAt E.ss sym
  if y.kind = 1 then exportedL E s y.mod nm
  else if y.kind = 4 then uniqueL ((membersL E.ss sym nm [12]).take 1)
  else if y.kind = 5 then assocL E nm [sym]
  else if y.kind = 9 then assocL E nm (s.bounds.getD sym.toNat [])
  else if sym = 3 then assocL E nm [s.cont, s.impl]
  else (-1, cUnres)
def visitAllW (v : Node → RS → RS) : List Node → RS → RS
  | [], s => s
  | x :: r, s => visitAllW v r (v x s)
/-- one segment: the symbol and whether it is known, ahead and behind -/
def segL (E : REnv) (v : Node → RS → RS) (inUse : Bool) (i : Nat) (g : Node) (sym : Int) (ok : Bool) (s : RS) : Int × Bool × RS :=
  if g.h.nm < 0 then (-1, false, s)
  else
    let q := if i = 0 then firstSegL E s g.h.t inUse else if ok = true then nextSegL E s sym g.h.t else (sym, 0)
    let s1 := if q.2 ≠ 0 then s.report q.2 g.h.nm g.h.t else s
    let s2 : RS := { s1 with refs := s1.refs ++ [⟨s1.mod, g.h.nm, q.1⟩] }
    (q.1, ok && decide (q.2 = 0), visitAllW v g.ch s2)
def pathFrom (E : REnv) (v : Node → RS → RS) (inUse : Bool) : Nat → List Node → Int → Bool → RS → Int × RS
  | _, [], sym, _, s => (sym, s)
  | i, g :: r, sym, ok, s =>
    let q := segL E v inUse i g sym ok s
    pathFrom E v inUse (i + 1) r q.1 q.2.1 q.2.2
def pathW (E : REnv) (v : Node → RS → RS) (x : Node) (inUse : Bool) (s : RS) : Int × RS := pathFrom E v inUse 0 x.ch (-1) true s
def declareL (E : REnv) (x : Node) (s : RS) : RS := if 0 ≤ x.h.nm then { s with scope := s.scope ++ [findAtL E.ss s.mod x.h.nm] } else s
mutual
def declPat (E : REnv) : Node → RS → RS
  | .mk h ch, s => declPats E ch (if h.k = 44 then declareL E (.mk h []) s else s)
def declPats (E : REnv) : List Node → RS → RS
  | [], s => s
  | x :: r, s => declPats E r (declPat E x s)
end
def unscope (n : Nat) (s : RS) : RS := { s with scope := s.scope.take n }
def scopedW (f : RS → RS) (s : RS) : RS := unscope s.scope.length (f s)
def boundTraitL (E : REnv) (v : Node → RS → RS) (b : Node) (s : RS) : Int :=
  let q : RS := { s with refs := [], ds := [] }
  let f := firstSegL E q (kidAt b 0).h.t false
  if f.1 < 0 ∨ (symAt E.ss f.1).kind = 9 then -1
  else
    let p := (pathW E v b false q).1
    if p < 0 ∨ (symAt E.ss p).kind ≠ 5 then -1 else p
def boundsOne (E : REnv) (v : Node → RS → RS) (p : Node) : List Node → RS → RS
  | [], s => s
  | b :: r, s =>
    let i := findAtL E.ss s.mod p.h.nm
    let t := boundTraitL E v b s
    boundsOne E v p r (if 0 ≤ t then { s with bounds := s.bounds.modify i.toNat (· ++ [t]) } else s)
def boundsAll (E : REnv) (v : Node → RS → RS) : List Node → RS → RS
  | [], s => s
  | p :: r, s => boundsAll E v r (boundsOne E v p p.ch s)
def declKind (E : REnv) (k : Int) : List Node → RS → RS
  | [], s => s
  | p :: r, s => declKind E k r (if p.h.k = k then declareL E p s else s)
def visitKids (v : Node → RS → RS) : List Node → RS → RS
  | [], s => s
  | p :: r, s => visitKids v r (visitAllW v p.ch s)
def typeParamsW (E : REnv) (v : Node → RS → RS) (x : Node) (s : RS) : RS := visitKids v x.ch (boundsAll E v x.ch (declKind E 11 x.ch s))
def paramsW (E : REnv) (v : Node → RS → RS) (x : Node) (s : RS) : RS := declKind E 13 x.ch (visitKids v x.ch s)
def traitW (E : REnv) (v : Node → RS → RS) (x : Node) (s : RS) : RS :=
  { visitAllW v x.ch { s with cont := if x.h.nm < 0 then -1 else findAtL E.ss s.mod x.h.nm, impl := -1 } with cont := s.cont, impl := s.impl }
def implIn (E : REnv) (v : Node → RS → RS) (x : Node) (s : RS) : RS :=
  let s1 := typeParamsW E v (kidAt x 0) s
  let s2 := if (kidAt x 1).h.k = 17 then
      (let p := pathW E v (kidAt x 1) false s1
       if 0 ≤ p.1 ∧ (symAt E.ss p.1).kind = 5 then { p.2 with impl := p.1 } else p.2)
    else v (kidAt x 1) s1
  visitAllW v (x.ch.drop 2) s2
def implW (E : REnv) (v : Node → RS → RS) (x : Node) (s : RS) : RS :=
  { scopedW (implIn E v x) { s with cont := findAtL E.ss s.mod x.h.s, impl := -1 } with cont := s.cont, impl := s.impl }
def useW (E : REnv) (v : Node → RS → RS) (x : Node) (s : RS) : RS :=
  let p := pathW E v (kidAt x 0) true s
  let last := lastSeg (kidAt x 0)
  if isGlobB x.h = true then
    (if 0 ≤ p.1 ∧ (symAt E.ss p.1).kind ≠ 1 ∧ (symAt E.ss p.1).kind ≠ 4 then p.2.report cGlob last.h.nm last.h.t else p.2)
  else
    let st := if x.h.nm < 0 then last.h.nm else x.h.nm
    if 0 ≤ st ∧ declaresL E.ss p.2.mod (importedL x) = true then p.2.report cDup st (importedL x) else p.2
def macroW (E : REnv) (v : Node → RS → RS) (x : Node) (s : RS) : RS :=
  let p := pathW E v (kidAt x 0) false s
  let last := lastSeg (kidAt x 0)
  visitAllW v (x.ch.drop 1) (if 0 ≤ p.1 ∧ (symAt E.ss p.1).kind ≠ 8 then p.2.report cMac last.h.nm last.h.t else p.2)
def scopeKinds : List Int := [3, 4, 5, 8, 9, 21, 38]
def visitF (E : REnv) : Nat → Node → RS → RS
  | 0, _, s => s
  | n + 1, x, s =>
    let v := visitF E n
    if x.h.k = 2 then useW E v x s
    else if x.h.k = 17 then (pathW E v x false s).2
    else if x.h.k = 6 then traitW E v x s
    else if x.h.k = 7 then implW E v x s
    else if x.h.k = 10 then typeParamsW E v x s
    else if x.h.k = 12 then paramsW E v x s
    else if x.h.k = 22 then declPat E (kidAt x 0) (visitAllW v x.ch s)
    else if x.h.k = 36 then scopedW (fun s => v (kidAt x 1) (declPat E (kidAt x 0) (v (kidAt x 0) s))) s
    else if x.h.k = 42 then macroW E v x s
    else if scopeKinds.contains x.h.k = true then scopedW (visitAllW v x.ch) s
    else visitAllW v x.ch s
def namedB (y : Sym) : Bool := decide (0 ≤ y.par) && (decide (y.kind ≠ 14) && decide (y.kind ≠ 6))
def dupsFrom (ss : List Sym) : Nat → List Sym → RS → RS
  | _, [], s => s
  | i, y :: r, s => dupsFrom ss (i + 1) r
      (if (namedB y && (ss.take i).any fun t => namedB t && (decide (t.par = y.par) && decide (t.nm = y.nm))) = true then RS.report { s with mod := y.mod } cDup y.st y.nm else s)
def resTrees (E : REnv) (fuel : Node → Nat) : Nat → List Node → RS → RS
  | _, [], s => s
  | i, t :: r, s => resTrees E fuel (i + 1) r (visitAllW (visitF E (fuel t)) t.ch { s with mod := i })
end Go.Proofs.YtpibenilagloaaaGreatDoor
