import Derived.Test.YtepadojclmjllaaGreatDoorMxal
/-
  Nodes and the builder in memory.
-/
namespace Go.Proofs.YtepadojclmjllaaGreatDoor
open Go.RowKit
set_option linter.unusedVariables false

def Hd.vals (h : Hd) (v : Value) : List Value := [.int .i64 h.k, .int .i64 h.v, .string h.t, .int .i64 h.s, .int .i64 h.e, .int .i64 h.nm, v]
mutual
/-- seven values stand for a node, in blocks of F -/
def NodeV (w : World) (F : Nat → Prop) : Node → List Value → Prop
  | .mk h ch, vs => ∃ A c, vs = h.vals (.slice A ch.length c) ∧ (ch = [] ∨ ∃ b off, A = some ⟨b, off, none⟩ ∧ F b ∧ NodesV w F ch b off)
/-- the cells of block b from i on stand for the nodes -/
def NodesV (w : World) (F : Nat → Prop) : List Node → Nat → Nat → Prop
  | [], _, _ => True
  | x :: r, b, i => (∃ vs, NodeV w F x vs ∧ ∀ j v, vs[j]? = some v → w.cell? ⟨b, i + j, none⟩ = some v) ∧ NodesV w F r b (i + 7)
end
mutual
theorem NodeV.keep {w w' : World} {F F' : Nat → Prop} (hF : ∀ b, F b → F' b) (hw : ∀ b, F b → w'.heap[b]? = w.heap[b]?) : ∀ (x : Node) (vs : List Value), NodeV w F x vs → NodeV w' F' x vs
  | .mk k ch, vs, h => by
    unfold NodeV at h ⊢
    obtain ⟨A, c, h2, h3⟩ := h
    refine ⟨A, c, h2, ?_⟩
    rcases h3 with h3 | ⟨b, off, hA, hb, h3⟩
    · exact .inl h3
    · exact .inr ⟨b, off, hA, hF _ hb, NodesV.keep hF hw ch b off hb h3⟩
theorem NodesV.keep {w w' : World} {F F' : Nat → Prop} (hF : ∀ b, F b → F' b) (hw : ∀ b, F b → w'.heap[b]? = w.heap[b]?) : ∀ (xs : List Node) (b i : Nat), F b → NodesV w F xs b i → NodesV w' F' xs b i
  | [], _, _, _, _ => by unfold NodesV; trivial
  | x :: r, b, i, hb, h => by
    unfold NodesV at h ⊢
    obtain ⟨⟨vs, h0, h1⟩, h4⟩ := h
    exact ⟨⟨vs, NodeV.keep hF hw x vs h0, fun j v hv => (World.cell?_of_block (w := w) (w' := w') (a := ⟨b, i + j, none⟩) (hw b hb)).trans (h1 j v hv)⟩, NodesV.keep hF hw r b (i + 7) hb h4⟩
end
theorem NodeV.vals {w : World} {F : Nat → Prop} {n : Node} {vs : List Value} (h : NodeV w F n vs) : ∃ A c, vs = n.h.vals (.slice A n.ch.length c) ∧ (n.ch = [] ∨ ∃ b off, A = some ⟨b, off, none⟩ ∧ F b ∧ NodesV w F n.ch b off) := by
  cases n with | mk h ch => unfold NodeV at h; exact h
theorem NodeV.of {w : World} {F : Nat → Prop} {n : Node} {A : Option Addr} {c : Nat} (h : n.ch = [] ∨ ∃ b off, A = some ⟨b, off, none⟩ ∧ F b ∧ NodesV w F n.ch b off) : NodeV w F n (n.h.vals (.slice A n.ch.length c)) := by
  cases n with | mk k ch => unfold NodeV; exact ⟨A, c, rfl, h⟩
theorem NodesV.get {w : World} {F : Nat → Prop} : ∀ (xs : List Node) (b i k : Nat) (x : Node), NodesV w F xs b i → xs[k]? = some x → ∃ vs, NodeV w F x vs ∧ ∀ j v, vs[j]? = some v → w.cell? ⟨b, i + k * 7 + j, none⟩ = some v
  | [], _, _, _, _, _, h => by simp at h
  | y :: r, b, i, 0, x, h, hk => by
    simp at hk; subst hk
    unfold NodesV at h
    rw [Nat.zero_mul, Nat.add_zero]
    exact h.1
  | y :: r, b, i, k + 1, x, h, hk => by
    unfold NodesV at h
    have := NodesV.get r b (i + 7) k x h.2 (by simpa using hk)
    rw [show i + (k + 1) * 7 = i + 7 + k * 7 by omega]
    exact this
/-- a row's cells stand for the nodes -/
def RowN (w : World) (F : Nat → Prop) : List Node → List Value → Prop
  | [], vs => vs = []
  | x :: r, vs => ∃ us ws, vs = us ++ ws ∧ NodeV w F x us ∧ RowN w F r ws
theorem NodeV.len {w : World} {F : Nat → Prop} {n : Node} {vs : List Value} (h : NodeV w F n vs) : vs.length = 7 := by
  obtain ⟨A, c, rfl, _⟩ := h.vals; rfl
theorem RowN.keep {w w' : World} {F F' : Nat → Prop} (hF : ∀ b, F b → F' b) (hw : ∀ b, F b → w'.heap[b]? = w.heap[b]?) : ∀ (xs : List Node) (vs : List Value), RowN w F xs vs → RowN w' F' xs vs
  | [], vs, h => h
  | x :: r, vs, h => by
    obtain ⟨us, ws, e, h1, h2⟩ := h
    exact ⟨us, ws, e, NodeV.keep hF hw x us h1, RowN.keep hF hw r ws h2⟩
theorem RowN.length {w : World} {F : Nat → Prop} : ∀ (xs : List Node) (vs : List Value), RowN w F xs vs → vs.length = xs.length * 7
  | [], vs, h => by unfold RowN at h; subst h; rfl
  | x :: r, vs, h => by
    obtain ⟨us, ws, rfl, h1, h2⟩ := h
    rw [List.length_append, h1.len, RowN.length r ws h2, List.length_cons]; omega
theorem RowN.snoc {w : World} {F : Nat → Prop} {x : Node} {us : List Value} (hx : NodeV w F x us) : ∀ (xs : List Node) (vs : List Value), RowN w F xs vs → RowN w F (xs ++ [x]) (vs ++ us)
  | [], vs, h => by unfold RowN at h; subst h; exact ⟨us, [], by simp, hx, rfl⟩
  | y :: r, vs, h => by
    obtain ⟨u, ws, rfl, h1, h2⟩ := h
    exact ⟨u, ws ++ us, by simp, h1, RowN.snoc hx r ws h2⟩
/-- a row in a block is a list of nodes -/
theorem RowN.nodes {w : World} {F : Nat → Prop} (b : Nat) : ∀ (xs : List Node) (vs : List Value) (i : Nat), RowN w F xs vs → (∀ j u, vs[j]? = some u → w.cell? ⟨b, i + j, none⟩ = some u) → NodesV w F xs b i
  | [], _, _, _, _ => by unfold NodesV; trivial
  | x :: r, vs, i, h, hc => by
    obtain ⟨us, ws, rfl, h1, h2⟩ := h
    unfold NodesV
    have hl := h1.len
    refine ⟨⟨us, h1, fun j v hv => hc j v ?_⟩, RowN.nodes b r ws (i + 7) h2 fun j u hu => ?_⟩
    · rw [List.getElem?_append_left (List.getElem?_eq_some_iff.1 hv).1]; exact hv
    · rw [show i + 7 + j = i + (7 + j) by omega]
      refine hc (7 + j) u ?_
      rw [List.getElem?_append_right (by omega), hl, show 7 + j - 7 = j by omega]
      exact hu

/- THE BUILDER -/
def Dg.cells (d : Dg) : List Value := [.int .i64 d.code, .int .i64 d.mod, .int .i64 d.s, .int .i64 d.e, .string d.nm]
theorem Dg.cells_len (d : Dg) : d.cells.length = 5 := rfl
theorem info_dg : (Tryz.prog.info? 62).map (fun i => (i.zero, i.size, i.bytes)) = some (some (.agg #[.int .i64 0, .int .i64 0, .int .i64 0, .int .i64 0, .string .empty]), 5, 48) := by kernel_rfl
theorem info_node : (Tryz.prog.info? 40).map (fun i => (i.zero, i.size, i.bytes)) = some (some (.agg #[.int .i64 0, .int .i64 0, .string .empty, .int .i64 0, .int .i64 0, .int .i64 0, .slice none 0 0]), 7, 80) := by kernel_rfl
/-- the package-level variables that the code reads lie below block ng -/
def ng : Nat := Nat.max 1 4 + 1
/-- the package-level variables that the code reads -/
structure Gl (w : World) : Prop where
  asc : AscAt w
  rng : ∃ te pe, w.cell? ⟨4, 0, none⟩ = some (.iface te pe)
  big : ng ≤ w.heap.size
theorem glob_lt : 1 < ng ∧ 4 < ng := by decide
theorem Gl.keep {w w' : World} (h : Gl w) (hs : w.heap.size ≤ w'.heap.size) (hw : ∀ b, b < ng → w'.heap[b]? = w.heap[b]?) : Gl w' := by
  obtain ⟨te, pe, h2⟩ := h.rng
  exact ⟨h.asc.keep (hw _ glob_lt.1), ⟨te, pe, (World.cell?_of_block (w := w) (w' := w') (a := ⟨_, 0, none⟩) (hw _ glob_lt.2)).trans h2⟩, Nat.le_trans h.big hs⟩
/-- the builder at block p -/
structure BAtX (w : World) (p : Nat) (M : MM) (src : ByteArray) (b : BS) (v : Value) : Prop where
  blk : w.heap[p]? = some (.cells #[.string src, .int .i64 b.off, v] 58 (0, 0))
  row : w.ownsRow 0 62 5 v b.ds.length (b.ds.flatMap Dg.cells)
  mp : M p
  mr : ∀ g, v.ownBlock = some g → M g ∧ g ≠ p
  gl : Gl w
  glM : ∀ c, M c → ng ≤ c
def BAt (w : World) (p : Nat) (M : MM) (src : ByteArray) (b : BS) : Prop := ∃ v, BAtX w p M src b v
/-- what a function of the builder leaves -/
def BPost (M : MM) (w : World) (p : Nat) (src : ByteArray) (b : BS) (r : Value) (e : Ending) (w' : World) : Prop :=
  e = .returned r ∧ ∃ M', BAt w' p M' src b ∧ Step M w M' w'
theorem Gl.step {M M' : MM} {w w' : World} (h : Gl w) (hM : ∀ c, M c → ng ≤ c) (hs : Step M w M' w') : Gl w' :=
  h.keep hs.size fun b hb => hs.block b (Nat.lt_of_lt_of_le hb h.big) fun hm => by have := hM b hm; omega
theorem BAtX.lt {w : World} {p : Nat} {M : MM} {src : ByteArray} {b : BS} {v : Value} (h : BAtX w p M src b v) : p < w.heap.size := lt_of_heap h.blk
/-- the builder stands where nothing of its own is written -/
theorem BAt.keep {w w' : World} {p : Nat} {M : MM} {src : ByteArray} {b : BS} (h : BAt w p M src b) (hs : w.heap.size ≤ w'.heap.size) (hw : ∀ c, c < w.heap.size → w'.heap[c]? = w.heap[c]?) : BAt w' p M src b := by
  obtain ⟨v, h⟩ := h
  exact ⟨v, (hw _ h.lt).trans h.blk, ownsRow_below h.row fun g hg => hw g (h.row.lt g hg).2, h.mp, h.mr, h.gl.keep hs (fun b hb => hw b (Nat.lt_of_lt_of_le hb h.gl.big)), h.glM⟩
theorem BAt.below {w w' : World} {p : Nat} {M : MM} {src : ByteArray} {b : BS} (h : BAt w p M src b) (hb : Below w.heap.size w w') : BAt w' p M src b := h.keep hb.size hb.block
/-- a diagnostic more -/
theorem BAtX.push {w w2 : World} {p : Nat} {M : MM} {src : ByteArray} {b : BS} {v v' : Value} (h : BAtX w p M src b v) (d : Dg) (hg : w.grownBy w2 v.ownBlock) (ho : w2.ownsRow 0 62 5 v' (b.ds.length + 1) (b.ds.flatMap Dg.cells ++ d.cells))
    (hat : v'.ownBlock = v.ownBlock ∨ ∃ g, v'.ownBlock = some g ∧ w.heap.size ≤ g) :
    BAt (w2.setCell ⟨p, 2, none⟩ v') p (More M v'.ownBlock) src { b with ds := b.ds ++ [d] } ∧ Step M w (More M v'.ownBlock) (w2.setCell ⟨p, 2, none⟩ v') := by
  have hS := (Step.grown hg (fun b hb => (h.mr b hb).1) hat).set p 2 v' (.inl h.mp)
  have hpv : v.ownBlock ≠ some p := fun e => (h.mr p e).2 rfl
  have hpv' : ∀ g, v'.ownBlock = some g → g ≠ p := fun g hg' e => by
    subst e
    rcases hat with e | ⟨g', e, hge⟩
    · exact hpv (by rw [← e, hg'])
    · rw [e] at hg'; injection hg' with hg'; have := h.lt; omega
  refine ⟨⟨v', ?_, ?_, .inl h.mp, fun g hg => ⟨.inr hg, hpv' g hg⟩, h.gl.step h.glM hS, fun c hc => ?_⟩, hS⟩
  · exact heap_set ((hg.block p h.lt (fun e => hpv e.symm)).trans h.blk) 2 v'
  · have : (b.ds ++ [d]).flatMap Dg.cells = b.ds.flatMap Dg.cells ++ d.cells := by simp
    rw [List.length_append, List.length_singleton, this]
    exact ownsRow_below ho fun g hg => Below.heap_setCell _ _ _ _ (hpv' g hg)
  · rcases hc with hc | hc
    · exact h.glM c hc
    · rcases hat with e | ⟨g', e, hge⟩
      · exact h.glM c (h.mr c (by rw [← e, hc])).1
      · rw [e] at hc; injection hc with hc; have := h.gl.big; omega

/- A NODE UNDER CONSTRUCTION -/
def HAt (w : World) (q : Nat) (h : Hd) (v : Value) : Prop := w.heap[q]? = some (.cells #[.int .i64 h.k, .int .i64 h.v, .string h.t, .int .i64 h.s, .int .i64 h.e, .int .i64 h.nm, v] 40 (0, 0))
/-- nothing but block q has changed -/
structure Upd (q : Nat) (w w' : World) : Prop where
  os : w'.os = w.os
  tape : w'.tape = w.tape
  output : w'.output = w.output
  size : w'.heap.size = w.heap.size
  block : ∀ b, b ≠ q → w'.heap[b]? = w.heap[b]?
theorem Upd.refl (q : Nat) (w : World) : Upd q w w := ⟨rfl, rfl, rfl, rfl, fun _ _ => rfl⟩
theorem Upd.set {q : Nat} {w w' : World} (h : Upd q w w') (i : Nat) (v : Value) : Upd q w (w'.setCell ⟨q, i, none⟩ v) :=
  ⟨h.os, h.tape, h.output, by simp only [World.size_setCell]; exact h.size, fun b hb => (Below.heap_setCell _ _ _ _ hb).trans (h.block b hb)⟩
theorem Upd.trans {q : Nat} {a b c : World} (h : Upd q a b) (k : Upd q b c) : Upd q a c := ⟨k.os.trans h.os, k.tape.trans h.tape, k.output.trans h.output, k.size.trans h.size, fun b hb => (k.block b hb).trans (h.block b hb)⟩
theorem HAt.keep {w w' : World} {q : Nat} {h : Hd} {v : Value} (H : HAt w q h v) (hw : w'.heap[q]? = w.heap[q]?) : HAt w' q h v := hw.trans H
end Go.Proofs.YtepadojclmjllaaGreatDoor

/-
  Data of any type in memory: values, rows, slices.
-/
namespace Go.Proofs.YtepadojclmjllaaGreatDoor
open Go.RowKit
set_option linter.unusedVariables false

/-- cells xs lie from A on, in a block of F (nothing is asked where there are none) -/
def RowAt (w : World) (F : Nat → Prop) (A : Option Addr) (xs : List Value) : Prop :=
  0 < xs.length → ∃ b off, A = some ⟨b, off, none⟩ ∧ F b ∧ ∀ j u, xs[j]? = some u → w.cell? ⟨b, off + j, none⟩ = some u
theorem RowAt.keep {w w' : World} {F F' : Nat → Prop} {A : Option Addr} {xs : List Value} (h : RowAt w F A xs) (hF : ∀ b, F b → F' b) (hw : ∀ b, F b → w'.heap[b]? = w.heap[b]?) : RowAt w' F' A xs := by
  intro hp
  obtain ⟨b, off, rfl, hb, hc⟩ := h hp
  exact ⟨b, off, rfl, hF _ hb, fun j u hu => (World.cell?_of_block (w := w) (w' := w') (a := ⟨b, _, none⟩) (hw b hb)).trans (hc j u hu)⟩
theorem run_append_src {P : Program} {w : World} (base : Nat) (t ty e : TypeId) (z : Value) (size bytes : Nat) (ht : P.underlying t = some (.slice e)) (hinfo : (P.info? e).map (fun i => (i.zero, i.size, i.bytes)) = some (some z, size, bytes))
    (hzs : z.cells.size = size) (hsz : 0 < size) (v : Value) (n : Nat) (xs : List Value) (hown : w.ownsRow base e size v n xs)
    (F : Nat → Prop) (A : Option Addr) (m c : Nat) (news : List Value) (hr : RowAt w F A news) (hl : news.length = m * size) (h1 : ∀ u ∈ news, u.oneCell' = true)
    (h63 : n + m ≤ maxLen) (hbytes : (n + m) * bytes ≤ 140737488355328) (hbase : base ≤ w.heap.size) :
    ∃ v' w', (Builtin.append_ #[t, t] ty #[v, .slice A m c]).run P w = .ok v' w' ∧ w'.ownsRow base e size v' (n + m) (xs ++ news) ∧ w.grownBy w' v.ownBlock ∧
      (v'.ownBlock = v.ownBlock ∨ ∃ g, v'.ownBlock = some g ∧ w.heap.size ≤ g) := by
  obtain ⟨i, hi, hz, hsize, hby⟩ := info_parts hinfo
  rcases A with _ | ad
  · have hm : m = 0 := by
      rcases Nat.eq_zero_or_pos m with h0 | h0
      · exact h0
      · obtain ⟨_, _, h, _⟩ := hr (by rw [hl]; exact Nat.mul_pos h0 hsz)
        cases h
    subst hm
    have hn : news = [] := List.eq_nil_of_length_eq_zero (by simpa using hl)
    subst hn
    refine ⟨v, w, ?_, by simpa using hown, World.grownBy.refl w _, .inl rfl⟩
    rcases hown.2 with ⟨rfl, rfl⟩ | ⟨g, cap, cur, rfl, _, _, hnc, _⟩
    · simp [Builtin.append_, run_underlying ht, sizeOf, typeInfo, hi, Builtin.lenOf, Builtin.firstCells]
    · simp [Builtin.append_, run_underlying ht, sizeOf, typeInfo, hi, Builtin.lenOf, Builtin.firstCells, hnc, storeCells]
  · have hcells : ∀ j u, news[j]? = some u → w.cell? (ad.add j) = some u := by
      intro j u hu
      have hj : j < news.length := (List.getElem?_eq_some_iff.1 hu).1
      obtain ⟨b, off, h, _, hc⟩ := hr (by omega)
      injection h with h
      subst h
      have : (⟨b, off, none⟩ : Addr).add j = ⟨b, off + j, none⟩ := by unfold Addr.add; split <;> simp_all
      rw [this]
      exact hc j u hu
    obtain ⟨v', w', hrun, h2, h3, _, h5⟩ := run_append_own_at (P := P) w base t ty e i z size bytes ht hi hz hsize hby hzs hsz v n xs hown ad m c news hl hcells h1 h63 hbytes hbase
    exact ⟨v', w', hrun, h2, h3, h5.imp_right fun h => ⟨_, h, Nat.le_refl _⟩⟩

/-- 'append(v, s...)', s a slice whose cells are known -/
theorem wpList_append_src {P : Program} {w : World} {ops : Array Oper} {rest : List Oper} {o : Oper} {a : Act} {Q : Exit → Act → World → Prop} (hgd : o.guard = none) (s x : Operand) (t : TypeId)
    (ho : o.op = .call { callee := .builtin .append, args := #[s, x], argTypes := #[t, t] })
    (base : Nat) (e : TypeId) (z : Value) (size bytes : Nat) (ht : P.underlying t = some (.slice e)) (hinfo : (P.info? e).map (fun i => (i.zero, i.size, i.bytes)) = some (some z, size, bytes))
    (hzs : z.cells.size = size) (hsz : 0 < size) (v : Value) (n : Nat) (xs : List Value) (hs : a.eval s = v) (hown : w.ownsRow base e size v n xs)
    (F : Nat → Prop) (A : Option Addr) (m c : Nat) (news : List Value) (hx : a.eval x = .slice A m c) (hr : RowAt w F A news) (hl : news.length = m * size) (h1 : ∀ u ∈ news, u.oneCell' = true)
    (h63 : n + m ≤ maxLen) (hbytes : (n + m) * bytes ≤ 140737488355328) (hbase : base ≤ w.heap.size)
    (h : ∀ v' w', w'.ownsRow base e size v' (n + m) (xs ++ news) → w.grownBy w' v.ownBlock → (v'.ownBlock = v.ownBlock ∨ ∃ g, v'.ownBlock = some g ∧ w.heap.size ≤ g) → wpList P ops Q rest (a.put o.dst v') w') :
    wpList P ops Q (o :: rest) a w := by
  refine wpList_plain hgd fun K hK => ?_
  obtain ⟨v', w', hr', h2, h3, h4⟩ := run_append_src (P := P) base t o.type e z size bytes ht hinfo hzs hsz v n xs hown F A m c news hr hl h1 h63 hbytes hbase
  unfold Oper.wp execOp
  simp only [ho, resolve, invoke, builtin, Sem.run_bind, Sem.run_pure, Result.andThen_ok, List.map_toArray, List.map_cons, List.map_nil, hs, hx, hr']
  exact hK _ _ (h v' w' h2 h3 h4)


/-- a type's data in memory: V w F x vs says that the k values vs stand for x, in blocks of F -/
structure Dat (α : Type) where
  V : World → (Nat → Prop) → α → List Value → Prop
  k : Nat
  pos : 0 < k
  len : ∀ {w F x vs}, V w F x vs → vs.length = k
  keep : ∀ {w w' F F' x vs}, (∀ b, F b → F' b) → (∀ b, F b → w'.heap[b]? = w.heap[b]?) → V w F x vs → V w' F' x vs
  one : ∀ {w F x vs}, V w F x vs → ∀ u ∈ vs, u.oneCell' = true
/-- a row of values stands for a list -/
def Dat.Row {α : Type} (D : Dat α) (w : World) (F : Nat → Prop) : List α → List Value → Prop
  | [], vs => vs = []
  | x :: r, vs => ∃ us ws, vs = us ++ ws ∧ D.V w F x us ∧ D.Row w F r ws
theorem Dat.Row.keep {α : Type} {D : Dat α} {w w' : World} {F F' : Nat → Prop} (hF : ∀ b, F b → F' b) (hw : ∀ b, F b → w'.heap[b]? = w.heap[b]?) : ∀ (xs : List α) (vs : List Value), D.Row w F xs vs → D.Row w' F' xs vs
  | [], vs, h => h
  | x :: r, vs, h => by
    obtain ⟨us, ws, e, h1, h2⟩ := h
    exact ⟨us, ws, e, D.keep hF hw h1, Dat.Row.keep hF hw r ws h2⟩
theorem Dat.Row.length {α : Type} {D : Dat α} {w : World} {F : Nat → Prop} : ∀ (xs : List α) (vs : List Value), D.Row w F xs vs → vs.length = xs.length * D.k
  | [], vs, h => by unfold Dat.Row at h; subst h; simp
  | x :: r, vs, h => by
    obtain ⟨us, ws, rfl, h1, h2⟩ := h
    rw [List.length_append, D.len h1, Dat.Row.length r ws h2, List.length_cons, Nat.add_mul]; omega
theorem Dat.Row.one {α : Type} {D : Dat α} {w : World} {F : Nat → Prop} : ∀ (xs : List α) (vs : List Value), D.Row w F xs vs → ∀ u ∈ vs, u.oneCell' = true
  | [], vs, h => by unfold Dat.Row at h; subst h; simp
  | x :: r, vs, h => by
    obtain ⟨us, ws, rfl, h1, h2⟩ := h
    intro u hu
    rcases List.mem_append.1 hu with hu | hu
    · exact D.one h1 u hu
    · exact Dat.Row.one r ws h2 u hu
theorem Dat.Row.append {α : Type} {D : Dat α} {w : World} {F : Nat → Prop} {ys : List α} {ws : List Value} (hy : D.Row w F ys ws) : ∀ (xs : List α) (vs : List Value), D.Row w F xs vs → D.Row w F (xs ++ ys) (vs ++ ws)
  | [], vs, h => by unfold Dat.Row at h; subst h; simpa using hy
  | x :: r, vs, h => by
    obtain ⟨us, zs, rfl, h1, h2⟩ := h
    exact ⟨us, zs ++ ws, by simp, h1, Dat.Row.append hy r zs h2⟩
theorem Dat.Row.single {α : Type} {D : Dat α} {w : World} {F : Nat → Prop} {x : α} {us : List Value} (h : D.V w F x us) : D.Row w F [x] us := ⟨us, [], by simp, h, rfl⟩
/-- an element of a row -/
theorem Dat.Row.get {α : Type} {D : Dat α} {w : World} {F : Nat → Prop} : ∀ (xs : List α) (vs : List Value) (i : Nat) (x : α), D.Row w F xs vs → xs[i]? = some x → ∃ us, D.V w F x us ∧ ∀ j u, us[j]? = some u → vs[i * D.k + j]? = some u
  | [], _, _, _, _, h => by simp at h
  | y :: r, vs, 0, x, h, hi => by
    simp at hi; subst hi
    obtain ⟨us, zs, rfl, h1, h2⟩ := h
    refine ⟨us, h1, fun j u hu => ?_⟩
    rw [Nat.zero_mul, Nat.zero_add, List.getElem?_append_left (List.getElem?_eq_some_iff.1 hu).1]; exact hu
  | y :: r, vs, i + 1, x, h, hi => by
    obtain ⟨us, zs, rfl, h1, h2⟩ := h
    obtain ⟨ws, h3, h4⟩ := Dat.Row.get r zs i x h2 (by simpa using hi)
    refine ⟨ws, h3, fun j u hu => ?_⟩
    have hl := D.len h1
    rw [List.getElem?_append_right (by rw [hl, Nat.add_mul]; omega), hl, show (i + 1) * D.k + j - D.k = i * D.k + j by rw [Nat.add_mul]; omega]
    exact h4 j u hu
/-- the slice '.slice A xs.length _' reads as xs -/
def Dat.At {α : Type} (D : Dat α) (w : World) (F : Nat → Prop) (A : Option Addr) (xs : List α) : Prop := ∃ vs, D.Row w F xs vs ∧ RowAt w F A vs
theorem Dat.At.keep {α : Type} {D : Dat α} {w w' : World} {F F' : Nat → Prop} {A : Option Addr} {xs : List α} (h : D.At w F A xs) (hF : ∀ b, F b → F' b) (hw : ∀ b, F b → w'.heap[b]? = w.heap[b]?) : D.At w' F' A xs := by
  obtain ⟨vs, h1, h2⟩ := h
  exact ⟨vs, h1.keep hF hw, h2.keep hF hw⟩
theorem Dat.At.nil {α : Type} {D : Dat α} {w : World} {F : Nat → Prop} {A : Option Addr} : D.At w F A [] := ⟨[], rfl, fun h => absurd h (by simp)⟩
/-- an element of a slice -/
theorem Dat.At.get {α : Type} {D : Dat α} {w : World} {F : Nat → Prop} {A : Option Addr} {xs : List α} (h : D.At w F A xs) (i : Nat) (x : α) (hi : xs[i]? = some x) : ∃ b off us, A = some ⟨b, off, none⟩ ∧ F b ∧ D.V w F x us ∧ ∀ j u, us[j]? = some u → w.cell? ⟨b, off + i * D.k + j, none⟩ = some u := by
  obtain ⟨vs, h1, h2⟩ := h
  obtain ⟨us, h3, h4⟩ := Dat.Row.get xs vs i x h1 hi
  have hp : 0 < vs.length := by
    rw [h1.length]
    have := (List.getElem?_eq_some_iff.1 hi).1
    exact Nat.mul_pos (by omega) D.pos
  obtain ⟨b, off, rfl, hb, hc⟩ := h2 hp
  refine ⟨b, off, us, rfl, hb, h3, fun j u hu => ?_⟩
  rw [Nat.add_assoc]
  exact hc _ u (h4 j u hu)
/-- a row of one's own that reads as xs; its elements lie in blocks of F -/
def Dat.Own {α : Type} (D : Dat α) (w : World) (base : Nat) (e : TypeId) (F : Nat → Prop) (v : Value) (xs : List α) (vs : List Value) : Prop := w.ownsRow base e D.k v xs.length vs ∧ D.Row w F xs vs
theorem Dat.Own.nil {α : Type} {D : Dat α} {w : World} {base : Nat} {e : TypeId} {F : Nat → Prop} : D.Own w base e F (.slice none 0 0) [] [] := ⟨World.ownsRow_nil _ _ _ _, rfl⟩
theorem Dat.Own.keep {α : Type} {D : Dat α} {w w' : World} {base : Nat} {e : TypeId} {F F' : Nat → Prop} {v : Value} {xs : List α} {vs : List Value} (h : D.Own w base e F v xs vs) (hF : ∀ b, F b → F' b) (hw : ∀ b, F b → w'.heap[b]? = w.heap[b]?) (hv : ∀ g, v.ownBlock = some g → w'.heap[g]? = w.heap[g]?) : D.Own w' base e F' v xs vs :=
  ⟨ownsRow_below h.1 hv, h.2.keep hF hw⟩
/-- it reads as a slice -/
theorem Dat.Own.at {α : Type} {D : Dat α} {w : World} {base : Nat} {e : TypeId} {F F' : Nat → Prop} {v : Value} {xs : List α} {vs : List Value} (h : D.Own w base e F v xs vs) (hF : ∀ b, F b → F' b) (hv : ∀ b, v.ownBlock = some b → F' b) : ∃ A c, v = .slice A xs.length c ∧ D.At w F' A xs ∧ xs.length ≤ c := by
  rcases h.1.2 with ⟨rfl, hn⟩ | ⟨g, cap, cur, rfl, hb, hh, h3, h4, h5, h6⟩
  · refine ⟨none, 0, by rw [hn], ⟨vs, h.2.keep hF (fun _ _ => rfl), fun hp => ?_⟩, by omega⟩
    rw [h.1.1, hn, Nat.zero_mul] at hp; omega
  · refine ⟨some ⟨g, 0, none⟩, cap, rfl, ⟨vs, h.2.keep hF (fun _ _ => rfl), fun _ => ⟨g, 0, rfl, hv g rfl, fun j u hu => ?_⟩⟩, h3⟩
    have := h.1.cells (g := g) rfl j u hu
    rw [addr0] at this
    rw [Nat.zero_add]
    exact this

/- NODES -/
theorem NodeV.one {w : World} {F : Nat → Prop} {x : Node} {vs : List Value} (h : NodeV w F x vs) : ∀ u ∈ vs, u.oneCell' = true := by
  obtain ⟨A, c, rfl, _⟩ := h.vals
  intro u hu
  simp [Hd.vals] at hu
  rcases hu with rfl | rfl | rfl | rfl | rfl | rfl | rfl <;> rfl
def nodeD : Dat Node := ⟨NodeV, 7, by decide, fun h => h.len, fun hF hw h => NodeV.keep hF hw _ _ h, fun h => h.one⟩
theorem nodes_row {w : World} {F : Nat → Prop} : ∀ (xs : List Node) (b i : Nat), NodesV w F xs b i → ∃ vs, nodeD.Row w F xs vs ∧ ∀ j u, vs[j]? = some u → w.cell? ⟨b, i + j, none⟩ = some u
  | [], _, _, _ => ⟨[], rfl, fun j u h => by simp at h⟩
  | x :: r, b, i, h => by
    unfold NodesV at h
    obtain ⟨⟨us, h0, h1⟩, h4⟩ := h
    obtain ⟨vs, h5, h6⟩ := nodes_row r b (i + 7) h4
    have hl := h0.len
    refine ⟨us ++ vs, ⟨us, vs, rfl, h0, h5⟩, fun j u hu => ?_⟩
    by_cases hj : j < 7
    · rw [List.getElem?_append_left (by omega)] at hu; exact h1 j u hu
    · rw [List.getElem?_append_right (by omega), hl] at hu
      have := h6 (j - 7) u hu
      rwa [show i + 7 + (j - 7) = i + j by omega] at this
theorem NodeV.kids {w : World} {F : Nat → Prop} {n : Node} {vs : List Value} (h : NodeV w F n vs) : ∃ A c, vs = n.h.vals (.slice A n.ch.length c) ∧ nodeD.At w F A n.ch := by
  obtain ⟨A, c, rfl, h2⟩ := h.vals
  refine ⟨A, c, rfl, ?_⟩
  rcases h2 with h2 | ⟨b, off, rfl, hb, h3⟩
  · rw [h2]; exact Dat.At.nil
  · obtain ⟨vs, h4, h5⟩ := nodes_row _ _ _ h3
    exact ⟨vs, h4, fun _ => ⟨b, off, rfl, hb, h5⟩⟩
end Go.Proofs.YtepadojclmjllaaGreatDoor
