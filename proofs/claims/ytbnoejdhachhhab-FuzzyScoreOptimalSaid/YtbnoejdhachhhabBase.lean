/-
  WORDS: an edit as plain data, a slice of edits that reads as a list.
-/
import Derived.Test.YtbnoejdhachhhabProg
import Derived.WalkKit
import Derived.WalkSpells
import Derived.WalkLawsBesides
import Derived.Outline
import Derived.Below
import Derived.Lib.Hide
import Derived.OwnWalk
import Derived.Deep.LoopGhost
import Derived.Deep.QuietTactic
import Derived.BigQuiet
import Derived.Laws.OwnMore
import Derived.Deep.AppendLies
import Derived.Deep.Draws
import Derived.Maps.AppendAt
import Derived.Laws.AppendOwnNone
namespace Go.Proofs.Ytbnoejdhachhhab
open Go.RowKit

/-- the slice value '.slice A xs.length _' reads as the integers xs, in blocks below B -/
def IntsAt (w : World) (B : Nat) (A : Option Addr) (xs : List Int) : Prop :=
  0 < xs.length → ∃ b off, A = some ⟨b, off, none⟩ ∧ b < B ∧ ∀ k x, xs[k]? = some x → w.cell? ⟨b, off + k, none⟩ = some (.int .i64 x)
theorem IntsAt.keep {w w' : World} {B : Nat} {A : Option Addr} {es : List Int} (h : IntsAt w B A es) (hk : ∀ p : Addr, p.block < B → w'.cell? p = w.cell? p) : IntsAt w' B A es := by
  intro hn
  obtain ⟨b, off, rfl, hb, hc⟩ := h hn
  exact ⟨b, off, rfl, hb, fun k x hx => (hk _ hb).trans (hc k x hx)⟩
theorem IntsAt.below {w w' : World} {B : Nat} {A : Option Addr} {es : List Int} (h : IntsAt w B A es) (hb : Below B w w') : IntsAt w' B A es := h.keep fun _ hp => hb.cell hp
theorem IntsAt.more {w : World} {B B' : Nat} {A : Option Addr} {es : List Int} (h : IntsAt w B A es) (hB : B ≤ B') : IntsAt w B' A es := by
  intro hn
  obtain ⟨b, off, rfl, hb, hc⟩ := h hn
  exact ⟨b, off, rfl, by omega, hc⟩
theorem addr0 (g k : Nat) : (⟨g, 0, none⟩ : Addr).add k = ⟨g, k, none⟩ := by
  unfold Addr.add; split <;> simp_all
/-- an owned row of integers reads so -/
theorem IntsAt.of_own {w : World} {base : Nat} {e : TypeId} {v : Value} {xs : List Int} (h : w.ownsRow base e 1 v xs.length (xs.map (Value.int .i64))) :
    ∃ A c, v = .slice A xs.length c ∧ IntsAt w w.heap.size A xs := by
  rcases h.2 with ⟨rfl, hn⟩ | ⟨g, cap, cur, rfl, hb, hh, _⟩
  · exact ⟨none, 0, by rw [hn], fun hp => by omega⟩
  · refine ⟨some ⟨g, 0, none⟩, cap, rfl, fun _ => ⟨g, 0, rfl, ?_, fun k x hx => ?_⟩⟩
    · rcases Nat.lt_or_ge g w.heap.size with h | h
      · exact h
      · rw [Array.getElem?_eq_none h] at hh; cases hh
    · have := h.cells (g := g) rfl k (.int .i64 x) (by simp [hx])
      rw [Nat.zero_add, ← addr0]
      exact this
theorem below_drewN {B : Nat} {a w : World} (h : Below B a w) (n : Nat) : Below B a (w.drewN n) := ⟨h.os, h.tape, h.output, h.size, h.block⟩
theorem info_int : (Try.prog.info? 3).map (fun i => (i.zero, i.size, i.bytes)) = some (some (.int .i64 0), 1, 8) := by kernel_rfl
theorem only_of_below {a w : World} (h : Below a.heap.size a w) (row : Option Nat) : a.grownBy w row := ⟨h.os, h.tape, h.output, h.size, fun i hi _ => h.block i hi⟩
theorem own_below {w w' : World} {base : Nat} {e : TypeId} {size : Nat} {v : Value} {n : Nat} {xs : List Value} (h : w.ownsRow base e size v n xs) (hb : Below w.heap.size w w') : w'.ownsRow base e size v n xs := by
  rcases h.2 with ⟨rfl, hn⟩ | ⟨g, cap, cur, rfl, hb', hh, h3⟩
  · exact ⟨h.1, .inl ⟨rfl, hn⟩⟩
  · refine ⟨h.1, .inr ⟨g, cap, cur, rfl, hb', ?_, h3⟩⟩
    have hlt : g < w.heap.size := by
      rcases Nat.lt_or_ge g w.heap.size with h | h
      · exact h
      · rw [Array.getElem?_eq_none h] at hh; cases hh
    exact (hb.block g hlt).trans hh
theorem grown_below {B : Nat} {e : TypeId} {size n : Nat} {v : Value} {xs : List Value} {w0 w w' : World} (hb : Below B w0 w) (hB : B ≤ w.heap.size) (ho : w.ownsRow B e size v n xs) (hg : w.grownBy w' v.ownBlock) : Below B w0 w' :=
  hb.grown hg hB (fun k hk => (ho.lt k hk).1)
theorem grown_of_alloc {u w' : World} {o : Obj} {row : Option Nat} (hg : (u.alloc o).grownBy w' row) : u.grownBy w' row :=
  ⟨hg.os, hg.tape, hg.output, Nat.le_trans (by simp) hg.size, fun k hk hne => (hg.block k (by simp; omega) hne).trans (Below.heap_alloc u o k hk)⟩
/-- 'append(v, T{..})': the literal lies in the newest block -/
theorem wpList_append_litH {P : Program} {u : World} {ops : Array Oper} {rest : List Oper} {o : Oper} {a : Act} {Q : Exit → Act → World → Prop} (hgd : o.guard = none) (s x : Operand) (t : TypeId)
    (ho : o.op = .call { callee := .builtin .append, args := #[s, x], argTypes := #[t, t] })
    (base : Nat) (e : TypeId) (z : Value) (size bytes : Nat) (ht : P.underlying t = some (.slice e)) (hinfo : (P.info? e).map (fun i => (i.zero, i.size, i.bytes)) = some (some z, size, bytes))
    (hzs : z.cells.size = size) (hsz : 0 < size)
    (v : Value) (n : Nat) (xs : List Value) (hs : a.eval s = v) (hown : u.ownsRow base e size v n xs)
    (m c H : Nat) (hH : u.heap.size = H) (news : List Value) (hx : a.eval x = .slice (some ⟨H, 0, none⟩) m c) (hl : news.length = m * size) (h1 : ∀ u ∈ news, u.oneCell' = true)
    (h63 : n + m ≤ maxLen) (hbytes : (n + m) * bytes ≤ 140737488355328) (hbase : base ≤ u.heap.size)
    (h : ∀ v' w', w'.ownsRow base e size v' (n + m) (xs ++ news) → u.grownBy w' v.ownBlock → (v'.ownBlock = v.ownBlock ∨ ∃ g, v'.ownBlock = some g ∧ u.heap.size ≤ g) → wpList P ops Q rest (a.put o.dst v') w') :
    wpList P ops Q (o :: rest) a (u.alloc (.cells news.toArray e)) := by
  subst hH
  refine wpList_plain hgd fun K hK => ?_
  obtain ⟨i, hi, hz, hsize, hby⟩ := info_parts hinfo
  obtain ⟨v', w', hr, h2, h3, _, h5⟩ := run_append_own_at (P := P) (u.alloc (.cells news.toArray e)) base t o.type e i z size bytes ht hi hz hsize hby hzs hsz v n xs (hown.alloc _) ⟨u.heap.size, 0, none⟩ m c news hl
    (fun j w hw => by rw [addr0, World.cell?_alloc_new]; simpa using hw) h1 h63 hbytes (by simp; omega)
  unfold Oper.wp execOp
  simp only [ho, resolve, invoke, builtin, Sem.run_bind, Sem.run_pure, Result.andThen_ok, List.map_toArray, List.map_cons, List.map_nil, hs, hx, hr]
  exact hK _ _ (h v' w' h2 (grown_of_alloc h3) (h5.imp_right fun h => ⟨_, h, by simp⟩))
theorem wpList_append_lit {P : Program} {u : World} {ops : Array Oper} {rest : List Oper} {o : Oper} {a : Act} {Q : Exit → Act → World → Prop} (hgd : o.guard = none) (s x : Operand) (t : TypeId)
    (ho : o.op = .call { callee := .builtin .append, args := #[s, x], argTypes := #[t, t] })
    (base : Nat) (e : TypeId) (z : Value) (size bytes : Nat) (ht : P.underlying t = some (.slice e)) (hinfo : (P.info? e).map (fun i => (i.zero, i.size, i.bytes)) = some (some z, size, bytes))
    (hzs : z.cells.size = size) (hsz : 0 < size)
    (v : Value) (n : Nat) (xs : List Value) (hs : a.eval s = v) (hown : u.ownsRow base e size v n xs)
    (m c : Nat) (news : List Value) (hx : a.eval x = .slice (some ⟨u.heap.size, 0, none⟩) m c) (hl : news.length = m * size) (h1 : ∀ u ∈ news, u.oneCell' = true)
    (h63 : n + m ≤ maxLen) (hbytes : (n + m) * bytes ≤ 140737488355328) (hbase : base ≤ u.heap.size)
    (h : ∀ v' w', w'.ownsRow base e size v' (n + m) (xs ++ news) → u.grownBy w' v.ownBlock → (v'.ownBlock = v.ownBlock ∨ ∃ g, v'.ownBlock = some g ∧ u.heap.size ≤ g) → wpList P ops Q rest (a.put o.dst v') w') :
    wpList P ops Q (o :: rest) a (u.alloc (.cells news.toArray e)) :=
  wpList_append_litH hgd s x t ho base e z size bytes ht hinfo hzs hsz v n xs hs hown m c _ rfl news hx hl h1 h63 hbytes hbase h
/-- blocks of cells of other types than t0, t1 are as they were -/
def Kept (t0 t1 : TypeId) (w w' : World) : Prop := ∀ (g : Nat) (cs : Array Value) (t : TypeId) (fr : Nat × Nat), w.heap[g]? = some (.cells cs t fr) → t ≠ t0 → t ≠ t1 → w'.heap[g]? = some (.cells cs t fr)
theorem Kept.trans {t0 t1 : TypeId} {a b c : World} (h : Kept t0 t1 a b) (k : Kept t0 t1 b c) : Kept t0 t1 a c := fun g cs t fr hg h0 h1 => k g cs t fr (h g cs t fr hg h0 h1) h0 h1
theorem Kept.refl (t0 t1 : TypeId) (w : World) : Kept t0 t1 w w := fun _ _ _ _ h _ _ => h
theorem lt_of_heap {w : World} {g : Nat} {o : Obj} (h : w.heap[g]? = some o) : g < w.heap.size := by
  rcases Nat.lt_or_ge g w.heap.size with h' | h'
  · exact h'
  · rw [Array.getElem?_eq_none h'] at h; cases h
theorem Kept.setCell {t0 t1 t : TypeId} {w : World} {b : Nat} {cs : Array Value} {fr : Nat × Nat} (hb : w.heap[b]? = some (.cells cs t fr)) (ht : t = t0 ∨ t = t1) (i : Nat) (v : Value) : Kept t0 t1 w (w.setCell ⟨b, i, none⟩ v) := by
  intro g cs' t' fr' hg h0 h1
  rw [Below.heap_setCell _ _ _ _ (fun e => ?_)]
  · exact hg
  · simp only at e
    subst e
    rw [hb] at hg
    injection hg with hg
    injection hg with _ hg _
    rcases ht with ht | ht
    · exact h0 (by rw [← hg, ht])
    · exact h1 (by rw [← hg, ht])
theorem Kept.grown {t0 t1 e : TypeId} {w w' : World} {base size n : Nat} {v : Value} {xs : List Value} (ho : w.ownsRow base e size v n xs) (hg : w.grownBy w' v.ownBlock) (he : e = t0 ∨ e = t1) : Kept t0 t1 w w' := by
  intro g cs' t' fr' hh h0 h1
  rw [hg.block g (lt_of_heap hh) (fun e' => ?_)]
  · exact hh
  · rcases ho.2 with ⟨rfl, _⟩ | ⟨g', cap, cur, rfl, _, hc, _⟩
    · simp [Value.ownBlock] at e'
    · simp [Value.ownBlock] at e'
      subst e'
      rw [hc] at hh
      injection hh with hh
      injection hh with _ hh _
      rcases he with ht | ht
      · exact h0 (by rw [← hh, ht])
      · exact h1 (by rw [← hh, ht])
theorem heap_at2 (w : World) (o1 o2 : Obj) : ((w.alloc o1).alloc o2).drew.heap[w.heap.size + 1]? = some o2 := by
  have := heap_alloc_new (w.alloc o1) o2
  rw [World.size_alloc] at this
  exact this
theorem ret_int {k : IntKind} {a b : Int} (h : a = b) : Ending.returned (.int k a) = .returned (.int k b) := by rw [h]
theorem drop_cons {α : Type} (es : List α) (k : Nat) (h : k < es.length) : es.drop k = es[k] :: es.drop (k + 1) := List.drop_eq_getElem_cons h
theorem take_snoc {α : Type} (es : List α) (k : Nat) (h : k < es.length) : es.take (k + 1) = es.take k ++ [es[k]] := by
  rw [List.take_succ_eq_append_getElem h]
end Go.Proofs.Ytbnoejdhachhhab
