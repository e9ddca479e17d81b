import Derived.Test.YtpibenilagloaaaGreatDoorProg
import Derived.WalkKit
import Derived.WalkSpells
import Derived.WalkLawsBesides
import Derived.Outline
import Derived.Below
import Derived.Lib.Hide
import Derived.OwnWalk
import Derived.Deep.LoopGhost
import Derived.Deep.QuietTactic
import Derived.BigQuiet
import Derived.Laws.OwnMore
import Derived.Deep.AppendLies
import Derived.Deep.Draws
import Derived.Maps.AppendAt
import Derived.Laws.AppendOwnNone
/-
  Rows and data of any type in memory.
-/
namespace Go.Proofs.YtpibenilagloaaaGreatDoor
open Go.RowKit
set_option linter.unusedVariables false

theorem addr0 (g k : Nat) : (⟨g, 0, none⟩ : Addr).add k = ⟨g, k, none⟩ := by
  unfold Addr.add; split <;> simp_all
theorem lt_of_heap {w : World} {g : Nat} {o : Obj} (h : w.heap[g]? = some o) : g < w.heap.size := by
  rcases Nat.lt_or_ge g w.heap.size with h' | h'
  · exact h'
  · rw [Array.getElem?_eq_none h'] at h; cases h

theorem ownsRow_below {w w' : World} {base : Nat} {e : TypeId} {size : Nat} {v : Value} {n : Nat} {xs : List Value} (h : w.ownsRow base e size v n xs) (hb : ∀ g, v.ownBlock = some g → w'.heap[g]? = w.heap[g]?) : w'.ownsRow base e size v n xs := by
  rcases h.2 with ⟨rfl, hn⟩ | ⟨g, cap, cur, rfl, hb', hh, h3⟩
  · exact ⟨h.1, .inl ⟨rfl, hn⟩⟩
  · exact ⟨h.1, .inr ⟨g, cap, cur, rfl, hb', (hb g rfl).trans hh, h3⟩⟩
theorem below_drewN {B : Nat} {a w : World} (h : Below B a w) (n : Nat) : Below B a (w.drewN n) := ⟨h.os, h.tape, h.output, h.size, h.block⟩
theorem grown_below {B : Nat} {e : TypeId} {size n : Nat} {v : Value} {xs : List Value} {w0 w w' : World} (hb : Below B w0 w) (hB : B ≤ w.heap.size) (ho : w.ownsRow B e size v n xs) (hg : w.grownBy w' v.ownBlock) : Below B w0 w' :=
  hb.grown hg hB (fun k hk => (ho.lt k hk).1)
theorem grown_of_alloc {u w' : World} {o : Obj} {row : Option Nat} (hg : (u.alloc o).grownBy w' row) : u.grownBy w' row :=
  ⟨hg.os, hg.tape, hg.output, Nat.le_trans (by simp) hg.size, fun k hk hne => (hg.block k (by simp; omega) hne).trans (Below.heap_alloc u o k hk)⟩
/-- 'append(v, T{..})': the literal lies in the newest block -/
theorem wpList_append_litH {P : Program} {u : World} {ops : Array Oper} {rest : List Oper} {o : Oper} {a : Act} {Q : Exit → Act → World → Prop} (hgd : o.guard = none) (s x : Operand) (t : TypeId)
    (ho : o.op = .call { callee := .builtin .append, args := #[s, x], argTypes := #[t, t] })
    (base : Nat) (e : TypeId) (z : Value) (size bytes : Nat) (ht : P.underlying t = some (.slice e)) (hinfo : (P.info? e).map (fun i => (i.zero, i.size, i.bytes)) = some (some z, size, bytes))
    (hzs : z.cells.size = size) (hsz : 0 < size)
    (v : Value) (n : Nat) (xs : List Value) (hs : a.eval s = v) (hown : u.ownsRow base e size v n xs)
    (m c H : Nat) (hH : u.heap.size = H) (news : List Value) (hx : a.eval x = .slice (some ⟨H, 0, none⟩) m c) (hl : news.length = m * size) (h1 : ∀ u ∈ news, u.oneCell' = true)
    (h63 : n + m ≤ maxLen) (hbytes : (n + m) * bytes ≤ 140737488355328) (hbase : base ≤ u.heap.size)
    (h : ∀ v' w', w'.ownsRow base e size v' (n + m) (xs ++ news) → u.grownBy w' v.ownBlock → (v'.ownBlock = v.ownBlock ∨ ∃ g, v'.ownBlock = some g ∧ u.heap.size ≤ g) → wpList P ops Q rest (a.put o.dst v') w') :
    wpList P ops Q (o :: rest) a (u.alloc (.cells news.toArray e)) := by
  subst hH
  refine wpList_plain hgd fun K hK => ?_
  obtain ⟨i, hi, hz, hsize, hby⟩ := info_parts hinfo
  obtain ⟨v', w', hr, h2, h3, _, h5⟩ := run_append_own_at (P := P) (u.alloc (.cells news.toArray e)) base t o.type e i z size bytes ht hi hz hsize hby hzs hsz v n xs (hown.alloc _) ⟨u.heap.size, 0, none⟩ m c news hl
    (fun j w hw => by rw [addr0, World.cell?_alloc_new]; simpa using hw) h1 h63 hbytes (by simp; omega)
  unfold Oper.wp execOp
  simp only [ho, resolve, invoke, builtin, Sem.run_bind, Sem.run_pure, Result.andThen_ok, List.map_toArray, List.map_cons, List.map_nil, hs, hx, hr]
  exact hK _ _ (h v' w' h2 (grown_of_alloc h3) (h5.imp_right fun h => ⟨_, h, by simp⟩))
theorem wpList_append_lit {P : Program} {u : World} {ops : Array Oper} {rest : List Oper} {o : Oper} {a : Act} {Q : Exit → Act → World → Prop} (hgd : o.guard = none) (s x : Operand) (t : TypeId)
    (ho : o.op = .call { callee := .builtin .append, args := #[s, x], argTypes := #[t, t] })
    (base : Nat) (e : TypeId) (z : Value) (size bytes : Nat) (ht : P.underlying t = some (.slice e)) (hinfo : (P.info? e).map (fun i => (i.zero, i.size, i.bytes)) = some (some z, size, bytes))
    (hzs : z.cells.size = size) (hsz : 0 < size)
    (v : Value) (n : Nat) (xs : List Value) (hs : a.eval s = v) (hown : u.ownsRow base e size v n xs)
    (m c : Nat) (news : List Value) (hx : a.eval x = .slice (some ⟨u.heap.size, 0, none⟩) m c) (hl : news.length = m * size) (h1 : ∀ u ∈ news, u.oneCell' = true)
    (h63 : n + m ≤ maxLen) (hbytes : (n + m) * bytes ≤ 140737488355328) (hbase : base ≤ u.heap.size)
    (h : ∀ v' w', w'.ownsRow base e size v' (n + m) (xs ++ news) → u.grownBy w' v.ownBlock → (v'.ownBlock = v.ownBlock ∨ ∃ g, v'.ownBlock = some g ∧ u.heap.size ≤ g) → wpList P ops Q rest (a.put o.dst v') w') :
    wpList P ops Q (o :: rest) a (u.alloc (.cells news.toArray e)) :=
  wpList_append_litH hgd s x t ho base e z size bytes ht hinfo hzs hsz v n xs hs hown m c _ rfl news hx hl h1 h63 hbytes hbase h

/-- a block after a store -/
theorem heap_set {w : World} {b : Nat} {cs : Array Value} {t : TypeId} {fr : Nat × Nat} (h : w.heap[b]? = some (.cells cs t fr)) (i : Nat) (v : Value) : (w.setCell ⟨b, i, none⟩ v).heap[b]? = some (.cells (cs.setIfInBounds i v) t fr) := by
  simp [World.setCell, Array.getElem?_modify, h]
theorem cell_of {w : World} {b : Nat} {cs : Array Value} {t : TypeId} {fr : Nat × Nat} (h : w.heap[b]? = some (.cells cs t fr)) (i : Nat) (v : Value) (hv : cs[i]? = some v) : w.cell? ⟨b, i, none⟩ = some v := by
  rw [Lib.cell_of_heap h]; exact hv

theorem own_slice {w : World} {base : Nat} {e : TypeId} {size : Nat} {v : Value} {n : Nat} {xs : List Value} (h : w.ownsRow base e size v n xs) : ∃ A c, v = .slice A n c := by
  rcases h.2 with ⟨h, h0⟩ | ⟨g, cap, cur, h, _⟩
  · exact ⟨none, 0, by rw [h, h0]⟩
  · exact ⟨_, _, h⟩
/-- cells xs lie from A on, in a block of F (nothing is asked where there are none) -/
def RowAt (w : World) (F : Nat → Prop) (A : Option Addr) (xs : List Value) : Prop :=
  0 < xs.length → ∃ b off, A = some ⟨b, off, none⟩ ∧ F b ∧ ∀ j u, xs[j]? = some u → w.cell? ⟨b, off + j, none⟩ = some u
theorem RowAt.keep {w w' : World} {F F' : Nat → Prop} {A : Option Addr} {xs : List Value} (h : RowAt w F A xs) (hF : ∀ b, F b → F' b) (hw : ∀ b, F b → w'.heap[b]? = w.heap[b]?) : RowAt w' F' A xs := by
  intro hp
  obtain ⟨b, off, rfl, hb, hc⟩ := h hp
  exact ⟨b, off, rfl, hF _ hb, fun j u hu => (World.cell?_of_block (w := w) (w' := w') (a := ⟨b, _, none⟩) (hw b hb)).trans (hc j u hu)⟩
theorem run_append_src {P : Program} {w : World} (base : Nat) (t ty e : TypeId) (z : Value) (size bytes : Nat) (ht : P.underlying t = some (.slice e)) (hinfo : (P.info? e).map (fun i => (i.zero, i.size, i.bytes)) = some (some z, size, bytes))
    (hzs : z.cells.size = size) (hsz : 0 < size) (v : Value) (n : Nat) (xs : List Value) (hown : w.ownsRow base e size v n xs)
    (F : Nat → Prop) (A : Option Addr) (m c : Nat) (news : List Value) (hr : RowAt w F A news) (hl : news.length = m * size) (h1 : ∀ u ∈ news, u.oneCell' = true)
    (h63 : n + m ≤ maxLen) (hbytes : (n + m) * bytes ≤ 140737488355328) (hbase : base ≤ w.heap.size) :
    ∃ v' w', (Builtin.append_ #[t, t] ty #[v, .slice A m c]).run P w = .ok v' w' ∧ w'.ownsRow base e size v' (n + m) (xs ++ news) ∧ w.grownBy w' v.ownBlock ∧
      (v'.ownBlock = v.ownBlock ∨ ∃ g, v'.ownBlock = some g ∧ w.heap.size ≤ g) := by
  obtain ⟨i, hi, hz, hsize, hby⟩ := info_parts hinfo
  rcases A with _ | ad
  · have hm : m = 0 := by
      rcases Nat.eq_zero_or_pos m with h0 | h0
      · exact h0
      · obtain ⟨_, _, h, _⟩ := hr (by rw [hl]; exact Nat.mul_pos h0 hsz)
        cases h
    subst hm
    have hn : news = [] := List.eq_nil_of_length_eq_zero (by simpa using hl)
    subst hn
    refine ⟨v, w, ?_, by simpa using hown, World.grownBy.refl w _, .inl rfl⟩
    rcases hown.2 with ⟨rfl, rfl⟩ | ⟨g, cap, cur, rfl, _, _, hnc, _⟩
    · simp [Builtin.append_, run_underlying ht, sizeOf, typeInfo, hi, Builtin.lenOf, Builtin.firstCells]
    · simp [Builtin.append_, run_underlying ht, sizeOf, typeInfo, hi, Builtin.lenOf, Builtin.firstCells, hnc, storeCells]
  · have hcells : ∀ j u, news[j]? = some u → w.cell? (ad.add j) = some u := by
      intro j u hu
      have hj : j < news.length := (List.getElem?_eq_some_iff.1 hu).1
      obtain ⟨b, off, h, _, hc⟩ := hr (by omega)
      injection h with h
      subst h
      have : (⟨b, off, none⟩ : Addr).add j = ⟨b, off + j, none⟩ := by unfold Addr.add; split <;> simp_all
      rw [this]
      exact hc j u hu
    obtain ⟨v', w', hrun, h2, h3, _, h5⟩ := run_append_own_at (P := P) w base t ty e i z size bytes ht hi hz hsize hby hzs hsz v n xs hown ad m c news hl hcells h1 h63 hbytes hbase
    exact ⟨v', w', hrun, h2, h3, h5.imp_right fun h => ⟨_, h, Nat.le_refl _⟩⟩

/-- 'append(v, s...)', s a slice whose cells are known -/
theorem wpList_append_src {P : Program} {w : World} {ops : Array Oper} {rest : List Oper} {o : Oper} {a : Act} {Q : Exit → Act → World → Prop} (hgd : o.guard = none) (s x : Operand) (t : TypeId)
    (ho : o.op = .call { callee := .builtin .append, args := #[s, x], argTypes := #[t, t] })
    (base : Nat) (e : TypeId) (z : Value) (size bytes : Nat) (ht : P.underlying t = some (.slice e)) (hinfo : (P.info? e).map (fun i => (i.zero, i.size, i.bytes)) = some (some z, size, bytes))
    (hzs : z.cells.size = size) (hsz : 0 < size) (v : Value) (n : Nat) (xs : List Value) (hs : a.eval s = v) (hown : w.ownsRow base e size v n xs)
    (F : Nat → Prop) (A : Option Addr) (m c : Nat) (news : List Value) (hx : a.eval x = .slice A m c) (hr : RowAt w F A news) (hl : news.length = m * size) (h1 : ∀ u ∈ news, u.oneCell' = true)
    (h63 : n + m ≤ maxLen) (hbytes : (n + m) * bytes ≤ 140737488355328) (hbase : base ≤ w.heap.size)
    (h : ∀ v' w', w'.ownsRow base e size v' (n + m) (xs ++ news) → w.grownBy w' v.ownBlock → (v'.ownBlock = v.ownBlock ∨ ∃ g, v'.ownBlock = some g ∧ w.heap.size ≤ g) → wpList P ops Q rest (a.put o.dst v') w') :
    wpList P ops Q (o :: rest) a w := by
  refine wpList_plain hgd fun K hK => ?_
  obtain ⟨v', w', hr', h2, h3, h4⟩ := run_append_src (P := P) base t o.type e z size bytes ht hinfo hzs hsz v n xs hown F A m c news hr hl h1 h63 hbytes hbase
  unfold Oper.wp execOp
  simp only [ho, resolve, invoke, builtin, Sem.run_bind, Sem.run_pure, Result.andThen_ok, List.map_toArray, List.map_cons, List.map_nil, hs, hx, hr']
  exact hK _ _ (h v' w' h2 h3 h4)


/-- a type's data in memory: V w F x vs says that the k values vs stand for x, in blocks of F -/
structure Dat (α : Type) where
  V : World → (Nat → Prop) → α → List Value → Prop
  k : Nat
  pos : 0 < k
  len : ∀ {w F x vs}, V w F x vs → vs.length = k
  keep : ∀ {w w' F F' x vs}, (∀ b, F b → F' b) → (∀ b, F b → w'.heap[b]? = w.heap[b]?) → V w F x vs → V w' F' x vs
  one : ∀ {w F x vs}, V w F x vs → ∀ u ∈ vs, u.oneCell' = true
/-- a row of values stands for a list -/
def Dat.Row {α : Type} (D : Dat α) (w : World) (F : Nat → Prop) : List α → List Value → Prop
  | [], vs => vs = []
  | x :: r, vs => ∃ us ws, vs = us ++ ws ∧ D.V w F x us ∧ D.Row w F r ws
theorem Dat.Row.keep {α : Type} {D : Dat α} {w w' : World} {F F' : Nat → Prop} (hF : ∀ b, F b → F' b) (hw : ∀ b, F b → w'.heap[b]? = w.heap[b]?) : ∀ (xs : List α) (vs : List Value), D.Row w F xs vs → D.Row w' F' xs vs
  | [], vs, h => h
  | x :: r, vs, h => by
    obtain ⟨us, ws, e, h1, h2⟩ := h
    exact ⟨us, ws, e, D.keep hF hw h1, Dat.Row.keep hF hw r ws h2⟩
theorem Dat.Row.length {α : Type} {D : Dat α} {w : World} {F : Nat → Prop} : ∀ (xs : List α) (vs : List Value), D.Row w F xs vs → vs.length = xs.length * D.k
  | [], vs, h => by unfold Dat.Row at h; subst h; simp
  | x :: r, vs, h => by
    obtain ⟨us, ws, rfl, h1, h2⟩ := h
    rw [List.length_append, D.len h1, Dat.Row.length r ws h2, List.length_cons, Nat.add_mul]; omega
theorem Dat.Row.one {α : Type} {D : Dat α} {w : World} {F : Nat → Prop} : ∀ (xs : List α) (vs : List Value), D.Row w F xs vs → ∀ u ∈ vs, u.oneCell' = true
  | [], vs, h => by unfold Dat.Row at h; subst h; simp
  | x :: r, vs, h => by
    obtain ⟨us, ws, rfl, h1, h2⟩ := h
    intro u hu
    rcases List.mem_append.1 hu with hu | hu
    · exact D.one h1 u hu
    · exact Dat.Row.one r ws h2 u hu
theorem Dat.Row.append {α : Type} {D : Dat α} {w : World} {F : Nat → Prop} {ys : List α} {ws : List Value} (hy : D.Row w F ys ws) : ∀ (xs : List α) (vs : List Value), D.Row w F xs vs → D.Row w F (xs ++ ys) (vs ++ ws)
  | [], vs, h => by unfold Dat.Row at h; subst h; simpa using hy
  | x :: r, vs, h => by
    obtain ⟨us, zs, rfl, h1, h2⟩ := h
    exact ⟨us, zs ++ ws, by simp, h1, Dat.Row.append hy r zs h2⟩
theorem Dat.Row.single {α : Type} {D : Dat α} {w : World} {F : Nat → Prop} {x : α} {us : List Value} (h : D.V w F x us) : D.Row w F [x] us := ⟨us, [], by simp, h, rfl⟩
/-- an element of a row -/
theorem Dat.Row.get {α : Type} {D : Dat α} {w : World} {F : Nat → Prop} : ∀ (xs : List α) (vs : List Value) (i : Nat) (x : α), D.Row w F xs vs → xs[i]? = some x → ∃ us, D.V w F x us ∧ ∀ j u, us[j]? = some u → vs[i * D.k + j]? = some u
  | [], _, _, _, _, h => by simp at h
  | y :: r, vs, 0, x, h, hi => by
    simp at hi; subst hi
    obtain ⟨us, zs, rfl, h1, h2⟩ := h
    refine ⟨us, h1, fun j u hu => ?_⟩
    rw [Nat.zero_mul, Nat.zero_add, List.getElem?_append_left (List.getElem?_eq_some_iff.1 hu).1]; exact hu
  | y :: r, vs, i + 1, x, h, hi => by
    obtain ⟨us, zs, rfl, h1, h2⟩ := h
    obtain ⟨ws, h3, h4⟩ := Dat.Row.get r zs i x h2 (by simpa using hi)
    refine ⟨ws, h3, fun j u hu => ?_⟩
    have hl := D.len h1
    rw [List.getElem?_append_right (by rw [hl, Nat.add_mul]; omega), hl, show (i + 1) * D.k + j - D.k = i * D.k + j by rw [Nat.add_mul]; omega]
    exact h4 j u hu
/-- the slice '.slice A xs.length _' reads as xs -/
def Dat.At {α : Type} (D : Dat α) (w : World) (F : Nat → Prop) (A : Option Addr) (xs : List α) : Prop := ∃ vs, D.Row w F xs vs ∧ RowAt w F A vs
theorem Dat.At.keep {α : Type} {D : Dat α} {w w' : World} {F F' : Nat → Prop} {A : Option Addr} {xs : List α} (h : D.At w F A xs) (hF : ∀ b, F b → F' b) (hw : ∀ b, F b → w'.heap[b]? = w.heap[b]?) : D.At w' F' A xs := by
  obtain ⟨vs, h1, h2⟩ := h
  exact ⟨vs, h1.keep hF hw, h2.keep hF hw⟩
theorem Dat.At.nil {α : Type} {D : Dat α} {w : World} {F : Nat → Prop} {A : Option Addr} : D.At w F A [] := ⟨[], rfl, fun h => absurd h (by simp)⟩
/-- an element of a slice -/
theorem Dat.At.get {α : Type} {D : Dat α} {w : World} {F : Nat → Prop} {A : Option Addr} {xs : List α} (h : D.At w F A xs) (i : Nat) (x : α) (hi : xs[i]? = some x) : ∃ b off us, A = some ⟨b, off, none⟩ ∧ F b ∧ D.V w F x us ∧ ∀ j u, us[j]? = some u → w.cell? ⟨b, off + i * D.k + j, none⟩ = some u := by
  obtain ⟨vs, h1, h2⟩ := h
  obtain ⟨us, h3, h4⟩ := Dat.Row.get xs vs i x h1 hi
  have hp : 0 < vs.length := by
    rw [h1.length]
    have := (List.getElem?_eq_some_iff.1 hi).1
    exact Nat.mul_pos (by omega) D.pos
  obtain ⟨b, off, rfl, hb, hc⟩ := h2 hp
  refine ⟨b, off, us, rfl, hb, h3, fun j u hu => ?_⟩
  rw [Nat.add_assoc]
  exact hc _ u (h4 j u hu)
/-- a row of one's own that reads as xs; its elements lie in blocks of F -/
def Dat.Own {α : Type} (D : Dat α) (w : World) (base : Nat) (e : TypeId) (F : Nat → Prop) (v : Value) (xs : List α) (vs : List Value) : Prop := w.ownsRow base e D.k v xs.length vs ∧ D.Row w F xs vs
theorem Dat.Own.nil {α : Type} {D : Dat α} {w : World} {base : Nat} {e : TypeId} {F : Nat → Prop} : D.Own w base e F (.slice none 0 0) [] [] := ⟨World.ownsRow_nil _ _ _ _, rfl⟩
theorem Dat.Own.keep {α : Type} {D : Dat α} {w w' : World} {base : Nat} {e : TypeId} {F F' : Nat → Prop} {v : Value} {xs : List α} {vs : List Value} (h : D.Own w base e F v xs vs) (hF : ∀ b, F b → F' b) (hw : ∀ b, F b → w'.heap[b]? = w.heap[b]?) (hv : ∀ g, v.ownBlock = some g → w'.heap[g]? = w.heap[g]?) : D.Own w' base e F' v xs vs :=
  ⟨ownsRow_below h.1 hv, h.2.keep hF hw⟩
/-- it reads as a slice -/
theorem Dat.Own.at {α : Type} {D : Dat α} {w : World} {base : Nat} {e : TypeId} {F F' : Nat → Prop} {v : Value} {xs : List α} {vs : List Value} (h : D.Own w base e F v xs vs) (hF : ∀ b, F b → F' b) (hv : ∀ b, v.ownBlock = some b → F' b) : ∃ A c, v = .slice A xs.length c ∧ D.At w F' A xs ∧ xs.length ≤ c := by
  rcases h.1.2 with ⟨rfl, hn⟩ | ⟨g, cap, cur, rfl, hb, hh, h3, h4, h5, h6⟩
  · refine ⟨none, 0, by rw [hn], ⟨vs, h.2.keep hF (fun _ _ => rfl), fun hp => ?_⟩, by omega⟩
    rw [h.1.1, hn, Nat.zero_mul] at hp; omega
  · refine ⟨some ⟨g, 0, none⟩, cap, rfl, ⟨vs, h.2.keep hF (fun _ _ => rfl), fun _ => ⟨g, 0, rfl, hv g rfl, fun j u hu => ?_⟩⟩, h3⟩
    have := h.1.cells (g := g) rfl j u hu
    rw [addr0] at this
    rw [Nat.zero_add]
    exact this

/-- data of k cells without anything behind them -/
def flatD {α : Type} (enc : α → List Value) (k : Nat) (hp : 0 < k) (hk : ∀ x, (enc x).length = k) (h1 : ∀ x, ∀ v ∈ enc x, v.oneCell' = true) : Dat α :=
  ⟨fun _ _ x vs => vs = enc x, k, hp, fun h => by rw [h]; exact hk _, fun _ _ h => h, fun h => by rw [h]; exact h1 _⟩
theorem flatD_row {α : Type} {enc : α → List Value} {k : Nat} {hp : 0 < k} {hk : ∀ x, (enc x).length = k} {h1 : ∀ x, ∀ v ∈ enc x, v.oneCell' = true} {w : World} {F : Nat → Prop} : ∀ (xs : List α) (vs : List Value), (flatD enc k hp hk h1).Row w F xs vs → vs = xs.flatMap enc
  | [], vs, h => h
  | x :: r, vs, h => by
    obtain ⟨us, ws, rfl, h1, h2⟩ := h
    have e : us = enc x := h1
    rw [e, flatD_row r ws h2]; simp
theorem flatD_of {α : Type} {enc : α → List Value} {k : Nat} {hp : 0 < k} {hk : ∀ x, (enc x).length = k} {h1 : ∀ x, ∀ v ∈ enc x, v.oneCell' = true} {w : World} {F : Nat → Prop} : ∀ (xs : List α), (flatD enc k hp hk h1).Row w F xs (xs.flatMap enc)
  | [] => rfl
  | x :: r => ⟨enc x, r.flatMap enc, by simp, rfl, flatD_of r⟩
end Go.Proofs.YtpibenilagloaaaGreatDoor

/-
  Rows that grow.
-/
namespace Go.Proofs.YtpibenilagloaaaGreatDoor
open Go.RowKit
set_option linter.unusedVariables false

/-- blocks of a frame's data: not the row under construction -/
def OF (B : Nat) (v : Value) (w : World) (c : Nat) : Prop := B ≤ c ∧ c < w.heap.size ∧ v.ownBlock ≠ some c
/-- a row grows -/
theorem Dat.Own.grow {α : Type} {D : Dat α} {w w2 : World} {B : Nat} {e : TypeId} {v v' : Value} {xs ys : List α} {vs ws : List Value} (h : D.Own w B e (OF B v w) v xs vs) (hy : D.Row w (OF B v w) ys ws) (hg : w.grownBy w2 v.ownBlock) (ho : w2.ownsRow B e D.k v' (xs.length + ys.length) (vs ++ ws))
    (hat : v'.ownBlock = v.ownBlock ∨ ∃ g, v'.ownBlock = some g ∧ w.heap.size ≤ g) : D.Own w2 B e (OF B v' w2) v' (xs ++ ys) (vs ++ ws) := by
  have hsub : ∀ c, OF B v w c → OF B v' w2 c := fun c hc => by
    refine ⟨hc.1, Nat.lt_of_lt_of_le hc.2.1 hg.size, fun e => ?_⟩
    rcases hat with e2 | ⟨g, e2, hge⟩
    · exact hc.2.2 (by rw [← e2]; exact e)
    · rw [e2] at e; injection e with e; have := hc.2.1; omega
  have hw : ∀ c, OF B v w c → w2.heap[c]? = w.heap[c]? := fun c hc => hg.block c hc.2.1 (fun e => hc.2.2 e.symm)
  exact ⟨by rw [List.length_append]; exact ho, Dat.Row.append (hy.keep hsub hw) _ _ (h.2.keep hsub hw)⟩
theorem Dat.Own.below {α : Type} {D : Dat α} {w w' : World} {B : Nat} {e : TypeId} {v : Value} {xs : List α} {vs : List Value} (h : D.Own w B e (OF B v w) v xs vs) (hb : Below w.heap.size w w') : D.Own w' B e (OF B v w') v xs vs :=
  h.keep (fun c hc => ⟨hc.1, Nat.lt_of_lt_of_le hc.2.1 hb.size, hc.2.2⟩) (fun c hc => hb.block c hc.2.1) (fun g hg => hb.block g (h.1.lt g hg).2)
theorem Dat.Row.drop {α : Type} {D : Dat α} {w : World} {F : Nat → Prop} : ∀ (xs : List α) (vs : List Value) (s : Nat), D.Row w F xs vs → D.Row w F (xs.drop s) (vs.drop (s * D.k))
  | xs, vs, 0, h => by simpa using h
  | [], vs, s + 1, h => by unfold Dat.Row at h; subst h; simp [Dat.Row]
  | x :: r, vs, s + 1, h => by
    obtain ⟨us, ws, rfl, h1, h2⟩ := h
    have hl := D.len h1
    rw [List.drop_succ_cons, show (s + 1) * D.k = us.length + s * D.k by rw [hl, Nat.add_mul]; omega, ← List.drop_drop, List.drop_left]
    exact Dat.Row.drop r ws s h2
theorem Dat.Row.take {α : Type} {D : Dat α} {w : World} {F : Nat → Prop} : ∀ (xs : List α) (vs : List Value) (s : Nat), D.Row w F xs vs → D.Row w F (xs.take s) (vs.take (s * D.k))
  | xs, vs, 0, h => by simp [Dat.Row]
  | [], vs, s + 1, h => by unfold Dat.Row at h; subst h; simp [Dat.Row]
  | x :: r, vs, s + 1, h => by
    obtain ⟨us, ws, rfl, h1, h2⟩ := h
    have hl := D.len h1
    have e1 : us.take (us.length + s * D.k) = us := List.take_of_length_le (by omega)
    rw [List.take_succ_cons, show (s + 1) * D.k = us.length + s * D.k by rw [hl, Nat.add_mul]; omega, List.take_append, e1, show us.length + s * D.k - us.length = s * D.k by omega]
    exact ⟨us, _, rfl, h1, Dat.Row.take r ws s h2⟩
/-- a slice from its place s on -/
theorem Dat.At.drop {α : Type} {D : Dat α} {w : World} {F : Nat → Prop} {A : Option Addr} {xs : List α} (h : D.At w F A xs) (s : Nat) : D.At w F (A.map fun x => x.add (s * D.k)) (xs.drop s) := by
  obtain ⟨vs, h1, h2⟩ := h
  refine ⟨vs.drop (s * D.k), h1.drop xs vs s, fun hp => ?_⟩
  rw [List.length_drop] at hp
  obtain ⟨b, off, rfl, hb, hc⟩ := h2 (by omega)
  refine ⟨b, off + s * D.k, by simp [Addr.add], hb, fun j u hu => ?_⟩
  rw [List.getElem?_drop] at hu
  rw [Nat.add_assoc]
  exact hc _ u hu
theorem Dat.At.take {α : Type} {D : Dat α} {w : World} {F : Nat → Prop} {A : Option Addr} {xs : List α} (h : D.At w F A xs) (s : Nat) : D.At w F A (xs.take s) := by
  obtain ⟨vs, h1, h2⟩ := h
  refine ⟨vs.take (s * D.k), h1.take xs vs s, fun hp => ?_⟩
  rw [List.length_take] at hp
  obtain ⟨b, off, rfl, hb, hc⟩ := h2 (by omega)
  refine ⟨b, off, rfl, hb, fun j u hu => hc j u ?_⟩
  rw [List.getElem?_take] at hu
  split at hu
  · exact hu
  · cases hu
/-- the row behind a slice -/
theorem flat_row {α : Type} {enc : α → List Value} {k : Nat} {hp : 0 < k} {hk : ∀ x, (enc x).length = k} {h1 : ∀ x, ∀ v ∈ enc x, v.oneCell' = true} {w : World} {F : Nat → Prop} {A : Option Addr} {xs : List α} (h : (flatD enc k hp hk h1).At w F A xs) : RowAt w F A (xs.flatMap enc) := by
  obtain ⟨vs, h2, h3⟩ := h
  rw [flatD_row xs vs h2] at h3
  exact h3
theorem flat_len {α : Type} {enc : α → List Value} {k : Nat} (hk : ∀ x, (enc x).length = k) : ∀ xs : List α, (xs.flatMap enc).length = xs.length * k
  | [] => by simp
  | x :: r => by rw [List.flatMap_cons, List.length_append, hk, flat_len hk r, List.length_cons, Nat.add_mul]; omega
/-- an element's cells -/
theorem flat_get {α : Type} {enc : α → List Value} {k : Nat} {hp : 0 < k} {hk : ∀ x, (enc x).length = k} {h1 : ∀ x, ∀ v ∈ enc x, v.oneCell' = true} {w : World} {F : Nat → Prop} {A : Option Addr} {xs : List α} (h : (flatD enc k hp hk h1).At w F A xs) (i : Nat) (x : α) (hi : xs[i]? = some x) :
    ∃ b off, A = some ⟨b, off, none⟩ ∧ F b ∧ ∀ j u, (enc x)[j]? = some u → w.cell? ⟨b, off + i * k + j, none⟩ = some u := by
  obtain ⟨b, off, us, hA, hb, hv, hc⟩ := h.get i x hi
  have hv : us = enc x := hv
  subst hv
  exact ⟨b, off, hA, hb, hc⟩
/-- new blocks -/
def Nw (w w' : World) (b : Nat) : Prop := w.heap.size ≤ b ∧ b < w'.heap.size
/-- all blocks -/
def Lt (w : World) (b : Nat) : Prop := b < w.heap.size
theorem filter_take_succ {α : Type} (q : α → Bool) (xs : List α) (j : Nat) (x : α) (h : xs[j]? = some x) : (xs.take (j + 1)).filter q = (xs.take j).filter q ++ (if q x then [x] else []) := by
  rw [List.take_add_one, h, List.filter_append]
  simp only [Option.toList]
  by_cases hq : q x = true
  · simp [hq]
  · simp [hq]
end Go.Proofs.YtpibenilagloaaaGreatDoor
