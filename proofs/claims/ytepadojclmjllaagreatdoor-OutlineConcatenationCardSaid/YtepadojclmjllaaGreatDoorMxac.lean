import Derived.Test.YtepadojclmjllaaGreatDoorMxaa
import Derived.WalkKit
import Derived.WalkSpells
import Derived.WalkLawsBesides
import Derived.Outline
import Derived.Below
import Derived.Lib.Hide
import Derived.OwnWalk
import Derived.Deep.LoopGhost
import Derived.Deep.QuietTactic
import Derived.BigQuiet
import Derived.Laws.OwnMore
import Derived.Deep.AppendLies
import Derived.Deep.Draws
import Derived.Maps.AppendAt
import Derived.Laws.AppendOwnNone
import Derived.Lib.LaidTab
import Derived.Lib.Space
import Derived.Laws.Rows
/-
  The parser's memory: trees in memory, the parser's block, what a step may write.
-/
namespace Go.Proofs.YtepadojclmjllaaGreatDoor
open Go.RowKit
set_option linter.unusedVariables false

theorem addr0 (g k : Nat) : (⟨g, 0, none⟩ : Addr).add k = ⟨g, k, none⟩ := by
  unfold Addr.add; split <;> simp_all
theorem lt_of_heap {w : World} {g : Nat} {o : Obj} (h : w.heap[g]? = some o) : g < w.heap.size := by
  rcases Nat.lt_or_ge g w.heap.size with h' | h'
  · exact h'
  · rw [Array.getElem?_eq_none h'] at h; cases h

/- TREES IN MEMORY -/
mutual
/-- three values stand for a tree, in blocks of F -/
def TreeV (w : World) (F : Nat → Prop) : Tree → Value → Value → Value → Prop
  | .mk k t ch, v0, v1, v2 => v0 = .int .i64 k ∧ v1 = .string t ∧ ∃ A c, v2 = .slice A ch.length c ∧ (ch = [] ∨ ∃ b, A = some ⟨b, 0, none⟩ ∧ F b ∧ TreesV w F ch b 0)
/-- the cells of block b from i on stand for the trees -/
def TreesV (w : World) (F : Nat → Prop) : List Tree → Nat → Nat → Prop
  | [], _, _ => True
  | x :: r, b, i => (∃ v0 v1 v2, w.cell? ⟨b, i, none⟩ = some v0 ∧ w.cell? ⟨b, i + 1, none⟩ = some v1 ∧ w.cell? ⟨b, i + 2, none⟩ = some v2 ∧ TreeV w F x v0 v1 v2) ∧ TreesV w F r b (i + 3)
end
mutual
theorem TreeV.keep {w w' : World} {F F' : Nat → Prop} (hF : ∀ b, F b → F' b) (hw : ∀ b, F b → w'.heap[b]? = w.heap[b]?) : ∀ (x : Tree) (v0 v1 v2 : Value), TreeV w F x v0 v1 v2 → TreeV w' F' x v0 v1 v2
  | .mk k t ch, v0, v1, v2, h => by
    unfold TreeV at h ⊢
    obtain ⟨h0, h1, A, c, h2, h3⟩ := h
    refine ⟨h0, h1, A, c, h2, ?_⟩
    rcases h3 with h3 | ⟨b, hA, hb, h3⟩
    · exact .inl h3
    · exact .inr ⟨b, hA, hF _ hb, TreesV.keep hF hw ch b 0 hb h3⟩
theorem TreesV.keep {w w' : World} {F F' : Nat → Prop} (hF : ∀ b, F b → F' b) (hw : ∀ b, F b → w'.heap[b]? = w.heap[b]?) : ∀ (xs : List Tree) (b i : Nat), F b → TreesV w F xs b i → TreesV w' F' xs b i
  | [], _, _, _, _ => by unfold TreesV; trivial
  | x :: r, b, i, hb, h => by
    unfold TreesV at h ⊢
    obtain ⟨⟨v0, v1, v2, h0, h1, h2, h3⟩, h4⟩ := h
    have e := fun j => World.cell?_of_block (w := w) (w' := w') (a := ⟨b, j, none⟩) (hw b hb)
    exact ⟨⟨v0, v1, v2, (e _).trans h0, (e _).trans h1, (e _).trans h2, TreeV.keep hF hw x v0 v1 v2 h3⟩, TreesV.keep hF hw r b (i + 3) hb h4⟩
end
/-- a row's cells stand for the trees -/
def RowV (w : World) (F : Nat → Prop) : List Value → List Tree → Prop
  | v0 :: v1 :: v2 :: r, x :: xs => TreeV w F x v0 v1 v2 ∧ RowV w F r xs
  | [], [] => True
  | _, _ => False
theorem RowV.keep {w w' : World} {F F' : Nat → Prop} (hF : ∀ b, F b → F' b) (hw : ∀ b, F b → w'.heap[b]? = w.heap[b]?) : ∀ (vs : List Value) (xs : List Tree), RowV w F vs xs → RowV w' F' vs xs
  | v0 :: v1 :: v2 :: r, x :: xs, h => by
    unfold RowV at h ⊢
    exact ⟨TreeV.keep hF hw x v0 v1 v2 h.1, RowV.keep hF hw r xs h.2⟩
  | [], [], _ => by unfold RowV; trivial
  | [], _ :: _, h => by simp [RowV] at h
  | [_], _, h => by simp [RowV] at h
  | [_, _], _, h => by simp [RowV] at h
  | _ :: _ :: _ :: _, [], h => by simp [RowV] at h
theorem RowV.length {w : World} {F : Nat → Prop} : ∀ (vs : List Value) (xs : List Tree), RowV w F vs xs → vs.length = xs.length * 3
  | v0 :: v1 :: v2 :: r, x :: xs, h => by
    unfold RowV at h
    have := RowV.length r xs h.2
    simp only [List.length_cons]; omega
  | [], [], _ => rfl
  | [], _ :: _, h => by simp [RowV] at h
  | [_], _, h => by simp [RowV] at h
  | [_, _], _, h => by simp [RowV] at h
  | _ :: _ :: _ :: _, [], h => by simp [RowV] at h
theorem RowV.append {w : World} {F : Nat → Prop} : ∀ (vs : List Value) (xs : List Tree), RowV w F vs xs → ∀ us ys, RowV w F us ys → RowV w F (vs ++ us) (xs ++ ys)
  | v0 :: v1 :: v2 :: r, x :: xs, h, us, ys, k => by
    unfold RowV at h
    simp only [List.cons_append]
    unfold RowV
    exact ⟨h.1, RowV.append r xs h.2 us ys k⟩
  | [], [], _, us, ys, k => k
  | [], _ :: _, h, _, _, _ => by simp [RowV] at h
  | [_], _, h, _, _, _ => by simp [RowV] at h
  | [_, _], _, h, _, _, _ => by simp [RowV] at h
  | _ :: _ :: _ :: _, [], h, _, _, _ => by simp [RowV] at h
/-- the last tree of a row -/
theorem RowV.last {w : World} {F : Nat → Prop} : ∀ (vs : List Value) (xs : List Tree) (x : Tree), RowV w F vs (xs ++ [x]) → ∃ us v0 v1 v2, vs = us ++ [v0, v1, v2] ∧ RowV w F us xs ∧ TreeV w F x v0 v1 v2
  | v0 :: v1 :: v2 :: r, [], x, h => by
    simp only [List.nil_append] at h
    unfold RowV at h
    have := RowV.length _ _ h.2
    have : r = [] := List.eq_nil_of_length_eq_zero (by simpa using this)
    subst this
    exact ⟨[], v0, v1, v2, rfl, by unfold RowV; trivial, h.1⟩
  | v0 :: v1 :: v2 :: r, y :: xs, x, h => by
    simp only [List.cons_append] at h
    unfold RowV at h
    obtain ⟨us, u0, u1, u2, e, k1, k2⟩ := RowV.last r xs x h.2
    exact ⟨v0 :: v1 :: v2 :: us, u0, u1, u2, by rw [e]; rfl, by unfold RowV; exact ⟨h.1, k1⟩, k2⟩
  | [], [], _, h => by simp [RowV] at h
  | [], _ :: _, _, h => by simp [RowV] at h
  | [_], [], _, h => by simp [RowV] at h
  | [_], _ :: _, _, h => by simp [RowV] at h
  | [_, _], [], _, h => by simp [RowV] at h
  | [_, _], _ :: _, _, h => by simp [RowV] at h
/-- a row in a block is a list of trees -/
theorem RowV.trees {w : World} {F : Nat → Prop} (b : Nat) : ∀ (vs : List Value) (xs : List Tree) (i : Nat), RowV w F vs xs → (∀ j u, vs[j]? = some u → w.cell? ⟨b, i + j, none⟩ = some u) → TreesV w F xs b i
  | v0 :: v1 :: v2 :: r, x :: xs, i, h, hc => by
    unfold RowV at h
    unfold TreesV
    refine ⟨⟨v0, v1, v2, hc 0 v0 rfl, hc 1 v1 rfl, hc 2 v2 rfl, h.1⟩, RowV.trees b r xs (i + 3) h.2 fun j u hu => ?_⟩
    have := hc (j + 3) u (by simpa using hu)
    rw [show i + 3 + j = i + (j + 3) by omega]
    exact this
  | [], [], _, _, _ => by unfold TreesV; trivial
  | [], _ :: _, _, h, _ => by simp [RowV] at h
  | [_], _, _, h, _ => by simp [RowV] at h
  | [_, _], _, _, h, _ => by simp [RowV] at h
  | _ :: _ :: _ :: _, [], _, h, _ => by simp [RowV] at h

/- THE TOKENS IN MEMORY -/
def ToksAt (w : World) (F : Nat → Prop) (A : Option Addr) (ts : List Tok) : Prop :=
  0 < ts.length → ∃ b, A = some ⟨b, 0, none⟩ ∧ F b ∧ ∀ k x, ts[k]? = some x → w.cell? ⟨b, k * 2, none⟩ = some (.int .i64 x.k) ∧ w.cell? ⟨b, k * 2 + 1, none⟩ = some (.string x.t)
theorem ToksAt.keep {w w' : World} {F F' : Nat → Prop} {A : Option Addr} {ts : List Tok} (h : ToksAt w F A ts) (hF : ∀ b, F b → F' b) (hw : ∀ b, F b → w'.heap[b]? = w.heap[b]?) : ToksAt w' F' A ts := by
  intro hp
  obtain ⟨b, rfl, hb, hc⟩ := h hp
  have e := fun j => World.cell?_of_block (w := w) (w' := w') (a := ⟨b, j, none⟩) (hw b hb)
  exact ⟨b, rfl, hF _ hb, fun k x hx => ⟨(e _).trans (hc k x hx).1, (e _).trans (hc k x hx).2⟩⟩

/- WHAT A STEP MAY WRITE -/
/-- the blocks that may be written, and a hole: a block that no data reaches and no step writes -/
structure MM where
  m : Nat → Prop
  x : Nat
instance : CoeFun MM (fun _ => Nat → Prop) := ⟨MM.m⟩
/-- blocks of M may be written; what stays writable was so, or is new -/
structure Step (M : MM) (w : World) (M' : MM) (w' : World) : Prop where
  os : w'.os = w.os
  tape : w'.tape = w.tape
  output : w'.output = w.output
  size : w.heap.size ≤ w'.heap.size
  block : ∀ b, b < w.heap.size → ¬ M b → w'.heap[b]? = w.heap[b]?
  own : ∀ b, M' b → M b ∨ w.heap.size ≤ b
  hx : M'.x = M.x
theorem Step.refl (M : MM) (w : World) : Step M w M w := ⟨rfl, rfl, rfl, Nat.le_refl _, fun _ _ _ => rfl, fun _ h => .inl h, rfl⟩
theorem Step.trans {M M1 M2 : MM} {w w1 w2 : World} (h : Step M w M1 w1) (k : Step M1 w1 M2 w2) : Step M w M2 w2 := by
  refine ⟨k.os.trans h.os, k.tape.trans h.tape, k.output.trans h.output, Nat.le_trans h.size k.size, fun b hb hM => ?_, fun b hb => ?_, k.hx.trans h.hx⟩
  · refine (k.block b (Nat.lt_of_lt_of_le hb h.size) fun h1 => ?_).trans (h.block b hb hM)
    rcases h.own b h1 with h2 | h2
    · exact hM h2
    · omega
  · rcases k.own b hb with h1 | h1
    · exact h.own b h1
    · exact .inr (Nat.le_trans h.size h1)
theorem Step.of_below {M : MM} {w w' : World} (h : Below w.heap.size w w') : Step M w M w' := ⟨h.os, h.tape, h.output, h.size, fun b hb _ => h.block b hb, fun _ h => .inl h, rfl⟩
/-- the blocks that stay -/
structure Fix (w : World) (M : MM) (b : Nat) : Prop where
  lt : b < w.heap.size
  nm : ¬ M b
  nx : b ≠ M.x
theorem Step.fix {M M' : MM} {w w' : World} (h : Step M w M' w') (b : Nat) (hb : Fix w M b) : Fix w' M' b :=
  ⟨Nat.lt_of_lt_of_le hb.1 h.size, fun h1 => (h.own b h1).elim hb.2 (fun h2 => by have := hb.1; omega), by rw [h.hx]; exact hb.3⟩
theorem Step.same {M M' : MM} {w w' : World} (h : Step M w M' w') (b : Nat) (hb : Fix w M b) : w'.heap[b]? = w.heap[b]? := h.block b hb.1 hb.2

/- THE PARSER'S BLOCK -/
/-- an unfinished node below the innermost one -/
structure LowF where
  kind : Int
  v : Value
  ch : List Tree
def LowF.cells (f : LowF) : List Value := [.int .i64 f.kind, .string .empty, f.v]
/-- a node's children, in a row of its own -/
def KidsAt (w : World) (F : Nat → Prop) (v : Value) (ch : List Tree) : Prop := ∃ xs, w.ownsRow 0 53 3 v ch.length xs ∧ RowV w F xs ch
/-- the blocks that the parser writes are told apart -/
def Apart (p g : Nat) (v : Value) (low : List LowF) : Prop :=
  p ≠ g ∧ v.ownBlock ≠ some p ∧ v.ownBlock ≠ some g ∧ (∀ f ∈ low, f.v.ownBlock ≠ some p ∧ f.v.ownBlock ≠ some g ∧ (f.v.ownBlock = none ∨ f.v.ownBlock ≠ v.ownBlock)) ∧ low.Pairwise (fun a b => a.v.ownBlock = none ∨ a.v.ownBlock ≠ b.v.ownBlock)
def Mine (M : MM) (p g : Nat) (v : Value) (low : List LowF) : Prop :=
  M p ∧ M g ∧ (∀ b, v.ownBlock = some b → M b) ∧ ∀ f ∈ low, ∀ b, f.v.ownBlock = some b → M b
/-- the table of white space of the library stands in its block -/
def asc : Array Value := ((List.range 256).map fun i => Value.int .u8 (if i = 9 ∨ i = 10 ∨ i = 11 ∨ i = 12 ∨ i = 13 ∨ i = 32 then 1 else 0)).toArray
end Go.Proofs.YtepadojclmjllaaGreatDoor

/-
  The parser in memory.
-/
namespace Go.Proofs.YtepadojclmjllaaGreatDoor
open Go.RowKit
set_option linter.unusedVariables false

/-- the library's table of white space -/
def AscAt (w : World) : Prop := Lib.TabIs Tryz.prog w "strings.asciiSpace" .u8 Lib.asciiSpaceTab
theorem glob_asc : Tryz.prog.globalNamed "strings.asciiSpace" = some 1 := by kernel_rfl
theorem AscAt.keep {w w' : World} (h : AscAt w) (hw : w'.heap[1]? = w.heap[1]?) : AscAt w' := by
  unfold AscAt Lib.TabIs World.var? at h ⊢
  rw [glob_asc] at h ⊢
  simp only [Option.bind_some] at h ⊢
  rw [hw]
  exact h
theorem AscAt.lt {w : World} (h : AscAt w) : 1 < w.heap.size := by
  unfold AscAt Lib.TabIs World.var? at h
  rw [glob_asc] at h
  simp only [Option.bind_some] at h
  rcases Nat.lt_or_ge 1 w.heap.size with h' | h'
  · exact h'
  · rw [Array.getElem?_eq_none h'] at h; cases h
theorem AscAt.below {w w' : World} (h : AscAt w) (hb : Below w.heap.size w w') : AscAt w' := h.keep (hb.block _ h.lt)

theorem ownsRow_below {w w' : World} {base : Nat} {e : TypeId} {size : Nat} {v : Value} {n : Nat} {xs : List Value} (h : w.ownsRow base e size v n xs) (hb : ∀ g, v.ownBlock = some g → w'.heap[g]? = w.heap[g]?) : w'.ownsRow base e size v n xs := by
  rcases h.2 with ⟨rfl, hn⟩ | ⟨g, cap, cur, rfl, hb', hh, h3⟩
  · exact ⟨h.1, .inl ⟨rfl, hn⟩⟩
  · exact ⟨h.1, .inr ⟨g, cap, cur, rfl, hb', (hb g rfl).trans hh, h3⟩⟩
theorem KidsAt.keep {w w' : World} {F F' : Nat → Prop} {v : Value} {ch : List Tree} (h : KidsAt w F v ch) (hF : ∀ b, F b → F' b) (hw : ∀ b, F b → w'.heap[b]? = w.heap[b]?) (hv : ∀ g, v.ownBlock = some g → w'.heap[g]? = w.heap[g]?) : KidsAt w' F' v ch := by
  obtain ⟨xs, h1, h2⟩ := h
  exact ⟨xs, ownsRow_below h1 hv, RowV.keep hF hw _ _ h2⟩
theorem KidsAt.lt {w : World} {F : Nat → Prop} {v : Value} {ch : List Tree} (h : KidsAt w F v ch) : ∀ g, v.ownBlock = some g → g < w.heap.size := by
  obtain ⟨xs, h1, h2⟩ := h
  exact fun g hg => (h1.lt g hg).2

/-- the parser at block p: the tokens, the unfinished nodes below the innermost one, this one's kind, the state -/
structure PAtX (w : World) (p : Nat) (M : MM) (toks : List Tok) (low : List LowF) (kind : Int) (s : PS) (g cap : Nat) (v : Value) (At : Option Addr) (ct : Nat) : Prop where
  blk : w.heap[p]? = some (.cells #[.slice At toks.length ct, .int .i64 ((toks.length - s.rest.length : Nat) : Int), .slice (some ⟨g, 0, none⟩) (low.length + 1) cap] 76 (0, 0))
  row : w.ownsRow 0 53 3 (.slice (some ⟨g, 0, none⟩) (low.length + 1) cap) (low.length + 1) (low.flatMap LowF.cells ++ [.int .i64 kind, .string .empty, v])
  kids : KidsAt w (Fix w M) v s.ch
  lows : ∀ f ∈ low, KidsAt w (Fix w M) f.v f.ch
  tok : ToksAt w (Fix w M) At toks
  apart : Apart p g v low
  mine : Mine M p g v low
  rest : s.rest <:+ toks
  bch : s.ch.length + s.gas ≤ 1000000
  blow : low.length + s.gas ≤ 1000000
  btok : toks.length ≤ 500000
  asc : AscAt w
  ascM : ¬ M 1
  hole : M.x < w.heap.size ∧ ¬ M M.x
def PAt (w : World) (p : Nat) (M : MM) (toks : List Tok) (low : List LowF) (kind : Int) (s : PS) : Prop := ∃ g cap v At ct, PAtX w p M toks low kind s g cap v At ct
theorem PAtX.below {w w' : World} {p : Nat} {M : MM} {toks : List Tok} {low : List LowF} {kind : Int} {s : PS} {g cap : Nat} {v : Value} {At : Option Addr} {ct : Nat} (h : PAtX w p M toks low kind s g cap v At ct) (hb : Below w.heap.size w w') : PAtX w' p M toks low kind s g cap v At ct := by
  have hF : ∀ b, Fix w M b → Fix w' M b := fun b h => ⟨Nat.lt_of_lt_of_le h.1 hb.size, h.2, h.3⟩
  have hw : ∀ b, Fix w M b → w'.heap[b]? = w.heap[b]? := fun b h => hb.block b h.1
  exact { h with
    blk := (hb.block _ (lt_of_heap h.blk)).trans h.blk
    row := ownsRow_below h.row fun k hk => hb.block k (h.row.lt k hk).2
    kids := h.kids.keep hF hw fun k hk => hb.block k (h.kids.lt k hk)
    lows := fun f hf => (h.lows f hf).keep hF hw fun k hk => hb.block k ((h.lows f hf).lt k hk)
    tok := h.tok.keep hF hw
    asc := h.asc.below hb
    hole := ⟨Nat.lt_of_lt_of_le h.hole.1 hb.size, h.hole.2⟩ }
theorem PAt.below {w w' : World} {p : Nat} {M : MM} {toks : List Tok} {low : List LowF} {kind : Int} {s : PS} (h : PAt w p M toks low kind s) (hb : Below w.heap.size w w') : PAt w' p M toks low kind s := by
  obtain ⟨g, cap, v, At, ct, h⟩ := h
  exact ⟨g, cap, v, At, ct, h.below hb⟩
/-- a function that changes the parser: what its call leaves -/
def Post (M : MM) (w : World) (p : Nat) (toks : List Tok) (low : List LowF) (kind : Int) (s : PS) (r : Value) (e : Ending) (w' : World) : Prop :=
  e = .returned r ∧ ∃ M', PAt w' p M' toks low kind s ∧ Step M w M' w'
/-- the cells of the parser's block -/
theorem PAtX.cells {w : World} {p : Nat} {M : MM} {toks : List Tok} {low : List LowF} {kind : Int} {s : PS} {g cap : Nat} {v : Value} {At : Option Addr} {ct : Nat} (h : PAtX w p M toks low kind s g cap v At ct) :
    w.cell? ⟨p, 0, none⟩ = some (.slice At toks.length ct) ∧ w.cell? ⟨p, 1, none⟩ = some (.int .i64 ((toks.length - s.rest.length : Nat) : Int)) ∧ w.cell? ⟨p, 2, none⟩ = some (.slice (some ⟨g, 0, none⟩) (low.length + 1) cap) := by
  refine ⟨?_, ?_, ?_⟩ <;> rw [Lib.cell_of_heap h.blk] <;> rfl
theorem PAtX.thaw {w : World} {p : Nat} {M : MM} {toks : List Tok} {low : List LowF} {kind : Int} {s : PS} {g cap : Nat} {v : Value} {At : Option Addr} {ct : Nat} (h : PAtX w p M toks low kind s g cap v At ct) (j : Nat) : w.frozen? ⟨p, j, none⟩ = false := Lib.frozen_of_heap h.blk j
/-- the token at a position -/
theorem rest_get {rest toks : List Tok} (h : rest <:+ toks) (k : Nat) : rest[k]? = toks[toks.length - rest.length + k]? := by
  obtain ⟨pre, rfl⟩ := h
  rw [List.getElem?_append_right (by simp), List.length_append]
  congr 1; omega
end Go.Proofs.YtepadojclmjllaaGreatDoor

/-
  (*parser).peek and its kin: the walk.
-/
namespace Go.Proofs.YtepadojclmjllaaGreatDoor
open Go.RowKit
set_option linter.unusedVariables false

theorem set_two {w : World} {g : Nat} {x y : Value} {t : TypeId} {fr : Nat × Nat} (h : w.heap[g]? = some (.cells #[x, y] t fr)) (a b : Value) : ((w.setCell ⟨g, 0, none⟩ a).setCell ⟨g, 1, none⟩ b).heap[g]? = some (.cells #[a, b] t fr) := by
  simp [World.setCell, Array.getElem?_modify, h]
theorem isTriv_any (k : Int) (w : World) : Calls Tryz.prog 61 #[.int .i64 k] w fun e w' => e = .returned (.bool (k == 101 || k == 102)) ∧ w' = w := by
  by_cases h1 : k = 101
  · subst h1
    go_enter Tryz.func61, Tryz.ntmps61
    go_wp2
    go_ret
    exact ⟨rfl, rfl⟩
  · have e1 : (k == 101) = false := beq_eq_false_iff_ne.2 h1
    go_enter Tryz.func61, Tryz.ntmps61
    go_wp2
    go_ret
    exact ⟨by simp [e1], rfl⟩
def Tok.val (x : Tok) : Value := .agg #[.int .i64 x.k, .string x.t]

set_option maxRecDepth 100000 in
set_option maxHeartbeats 800000 in
theorem peek_any (w : World) (p : Nat) (M : MM) (toks : List Tok) (low : List LowF) (kind : Int) (s : PS) (h : PAt w p M toks low kind s) :
    Calls Tryz.prog 51 #[.pointer (some ⟨p, 0, none⟩)] w fun e w' => e = .returned (peekT s.rest).val ∧ Below w.heap.size w w' := by
  obtain ⟨g, cap, v, At, ct, hx⟩ := h
  obtain ⟨c0, c1, c2⟩ := hx.cells
  have hbt := hx.btok
  have hsuf := hx.rest
  have hplt := lt_of_heap hx.blk
  have htok := Lib.hid hx.tok
  clear hx
  go_enter Tryz.func51, Tryz.ntmps51
  go_wp2_with fail
  obtain ⟨W, hW⟩ : ∃ W, w.alloc (.cells #[.int .i64 0, .string ⟨#[]⟩] 98) = W := ⟨_, rfl⟩
  have hbelow : Below w.heap.size w W := by rw [← hW]; exact (Below.refl _ _).alloc (Nat.le_refl _) _
  have hnew : W.heap[w.heap.size]? = some (.cells #[.int .i64 0, .string ⟨#[]⟩] 98 (0, 0)) := by rw [← hW]; exact heap_alloc_new _ _
  have hres : ∀ a b, Below w.heap.size w ((W.setCell ⟨w.heap.size, 0, none⟩ a).setCell ⟨w.heap.size, 1, none⟩ b) := fun a b => (hbelow.setCell (Nat.le_refl _) _).setCell (Nat.le_refl _) _
  rw [hW]
  have d0 := (hbelow.cell (p := ⟨p, 0, none⟩) hplt).trans c0
  have HTok := Lib.hid (htok.out.keep (w' := W) (F' := Fix w M) (fun _ h => h) (fun b hb => hbelow.block b hb.1))
  have HB := Lib.hid hbelow
  have HN := Lib.hid hnew
  have HR := Lib.hid hres
  have HSig := Lib.hid hsuf
  clear hW c0 c1 c2 htok hbelow hnew hres hsuf
  go_loopw [3] (fun vi wr => ∃ r : List Tok, Hid (r <:+ toks ∧ sig r = sig s.rest) ∧ vi = .int .i64 ((toks.length - r.length : Nat) : Int) ∧ wr = W) (fun vi _ => toks.length - (intOf vi).toNat)
  case atStart => exact ⟨s.rest, ⟨HSig.out, rfl⟩, rfl, rfl⟩
  case round =>
    obtain ⟨r, hr, rfl, rfl⟩ := hrel
    have hle := hr.out.1.length_le
    cases r with
    | nil =>
      have HE := Lib.hid (show peekT s.rest = ⟨100, .empty⟩ by unfold peekT; rw [← hr.out.2]; rfl)
      simp only [List.length_nil, Nat.sub_zero] at *
      clear hr HTok HSig
      generalize toks.length = L at *
      clear hle
      have z0 : wr.cell? ⟨w.heap.size, 0, none⟩ = some (.int .i64 0) := by rw [Lib.cell_of_heap HN.out]; rfl
      have z1 : wr.cell? ⟨w.heap.size, 1, none⟩ = some (.string ⟨#[]⟩) := by rw [Lib.cell_of_heap HN.out]; rfl
      have y0 : wr.frozen? ⟨w.heap.size, 0, none⟩ = false := Lib.frozen_of_heap HN.out 0
      have y1 : wr.frozen? ⟨w.heap.size, 1, none⟩ = false := Lib.frozen_of_heap HN.out 1
      have hlt1 := lt_of_heap HN.out
      go_wp2_with fail
      refine bodyPost_ret (results_cell_row (P := Tryz.prog) (ty := 98) rfl _ _ w.heap.size 98 _ _ _ rfl (set_two HN.out _ _) Tryz.underlying98 rfl (by kernel_rfl)) rfl ?_
      exact ⟨by rw [HE.out]; rfl, HR.out _ _⟩
    | cons x r =>
      have hg := rest_get hr.out.1 0
      simp only [List.getElem?_cons_zero, Nat.add_zero] at hg
      have hpos : 0 < toks.length := by simp only [List.length_cons] at hle; omega
      obtain ⟨b, rfl, hb, hc⟩ := HTok.out hpos
      obtain ⟨e0, e1⟩ := hc _ x hg.symm
      have hmlt : toks.length - (x :: r).length < toks.length := by simp only [List.length_cons]; omega
      generalize hm : toks.length - (x :: r).length = m at *
      have hmI : (m : Int) < toks.length := by omega
      clear hc hg
      by_cases ht : isTriv x = true
      · have HT : Hid (r <:+ toks ∧ sig r = sig s.rest) := ⟨(List.suffix_cons x r).trans hr.out.1, by rw [← hr.out.2]; conv => rhs; unfold sig; rw [if_pos ht]⟩
        have HM := Lib.hid (show m + 1 = toks.length - r.length by simp only [List.length_cons] at hm hle; omega)
        unfold isTriv at ht
        go_wp2_with fail
        refine (isTriv_any _ _).mono ?_
        rintro e w1 ⟨rfl, rfl⟩
        rw [ht]
        clear ht
        go_wp2_with fail
        go_roundw
        case rel => exact ⟨r, HT, by rw [← HM.out]; go_num, True.intro⟩
        case measure => simp [intOf]; omega
      · have HE := Lib.hid (show peekT s.rest = x by unfold peekT; rw [← hr.out.2]; conv => lhs; unfold sig; rw [if_neg ht])
        unfold isTriv at ht
        have ht' := eq_false_of_ne_true ht
        have hne : ((m : Int) == (toks.length : Int)) = false := beq_eq_false_iff_ne.2 (by omega)
        clear ht hr HSig
        have z0 : wr.cell? ⟨w.heap.size, 0, none⟩ = some (.int .i64 0) := by rw [Lib.cell_of_heap HN.out]; rfl
        have z1 : wr.cell? ⟨w.heap.size, 1, none⟩ = some (.string ⟨#[]⟩) := by rw [Lib.cell_of_heap HN.out]; rfl
        have y0 : wr.frozen? ⟨w.heap.size, 0, none⟩ = false := Lib.frozen_of_heap HN.out 0
        have y1 : wr.frozen? ⟨w.heap.size, 1, none⟩ = false := Lib.frozen_of_heap HN.out 1
        have hlt1 := lt_of_heap HN.out
        go_wp2_with fail
        refine (isTriv_any _ _).mono ?_
        rintro e w1 ⟨rfl, rfl⟩
        rw [ht']
        clear ht'
        go_wp2_with fail
        refine bodyPost_ret (results_cell_row (P := Tryz.prog) (ty := 98) rfl _ _ w.heap.size 98 _ _ _ rfl (set_two HN.out _ _) Tryz.underlying98 rfl (by kernel_rfl)) rfl ?_
        exact ⟨by rw [HE.out]; rfl, HR.out _ _⟩
end Go.Proofs.YtepadojclmjllaaGreatDoor
