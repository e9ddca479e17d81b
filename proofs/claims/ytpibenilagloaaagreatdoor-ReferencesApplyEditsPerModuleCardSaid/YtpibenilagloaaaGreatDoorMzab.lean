import Derived.Test.YtpibenilagloaaaGreatDoorMzaa
import Derived.Lib.LaidTab
import Derived.Lib.Space
import Derived.Laws.Rows
import Derived.Laws.StructEq
namespace Go.Proofs.YtpibenilagloaaaGreatDoor
open Go.RowKit
set_option linter.unusedVariables false
mutual
def TreeV (w : World) (F : Nat → Prop) : Tree → Value → Value → Value → Prop
  | .mk k t ch, v0, v1, v2 => v0 = .int .i64 k ∧ v1 = .string t ∧ ∃ A c, v2 = .slice A ch.length c ∧ (ch = [] ∨ ∃ b, A = some ⟨b, 0, none⟩ ∧ F b ∧ TreesV w F ch b 0)
def TreesV (w : World) (F : Nat → Prop) : List Tree → Nat → Nat → Prop
  | [], _, _ => True
  | x :: r, b, i => (∃ v0 v1 v2, w.cell? ⟨b, i, none⟩ = some v0 ∧ w.cell? ⟨b, i + 1, none⟩ = some v1 ∧ w.cell? ⟨b, i + 2, none⟩ = some v2 ∧ TreeV w F x v0 v1 v2) ∧ TreesV w F r b (i + 3)
end
mutual
theorem TreeV.keep {w w' : World} {F F' : Nat → Prop} (hF : ∀ b, F b → F' b) (hw : ∀ b, F b → w'.heap[b]? = w.heap[b]?) : ∀ (x : Tree) (v0 v1 v2 : Value), TreeV w F x v0 v1 v2 → TreeV w' F' x v0 v1 v2
  | .mk k t ch, v0, v1, v2, h => by
    unfold TreeV at h ⊢
    obtain ⟨h0, h1, A, c, h2, h3⟩ := h
    refine ⟨h0, h1, A, c, h2, ?_⟩
    rcases h3 with h3 | ⟨b, hA, hb, h3⟩
    · exact .inl h3
    · exact .inr ⟨b, hA, hF _ hb, TreesV.keep hF hw ch b 0 hb h3⟩
theorem TreesV.keep {w w' : World} {F F' : Nat → Prop} (hF : ∀ b, F b → F' b) (hw : ∀ b, F b → w'.heap[b]? = w.heap[b]?) : ∀ (xs : List Tree) (b i : Nat), F b → TreesV w F xs b i → TreesV w' F' xs b i
  | [], _, _, _, _ => by unfold TreesV; trivial
  | x :: r, b, i, hb, h => by
    unfold TreesV at h ⊢
    obtain ⟨⟨v0, v1, v2, h0, h1, h2, h3⟩, h4⟩ := h
    have e := fun j => World.cell?_of_block (w := w) (w' := w') (a := ⟨b, j, none⟩) (hw b hb)
    exact ⟨⟨v0, v1, v2, (e _).trans h0, (e _).trans h1, (e _).trans h2, TreeV.keep hF hw x v0 v1 v2 h3⟩, TreesV.keep hF hw r b (i + 3) hb h4⟩
end
def RowV (w : World) (F : Nat → Prop) : List Value → List Tree → Prop
  | v0 :: v1 :: v2 :: r, x :: xs => TreeV w F x v0 v1 v2 ∧ RowV w F r xs
  | [], [] => True
  | _, _ => False
theorem RowV.keep {w w' : World} {F F' : Nat → Prop} (hF : ∀ b, F b → F' b) (hw : ∀ b, F b → w'.heap[b]? = w.heap[b]?) : ∀ (vs : List Value) (xs : List Tree), RowV w F vs xs → RowV w' F' vs xs
  | v0 :: v1 :: v2 :: r, x :: xs, h => by
    unfold RowV at h ⊢
    exact ⟨TreeV.keep hF hw x v0 v1 v2 h.1, RowV.keep hF hw r xs h.2⟩
  | [], [], _ => by unfold RowV; trivial
  | [], _ :: _, h => by simp [RowV] at h
  | [_], _, h => by simp [RowV] at h
  | [_, _], _, h => by simp [RowV] at h
  | _ :: _ :: _ :: _, [], h => by simp [RowV] at h
theorem RowV.length {w : World} {F : Nat → Prop} : ∀ (vs : List Value) (xs : List Tree), RowV w F vs xs → vs.length = xs.length * 3
  | v0 :: v1 :: v2 :: r, x :: xs, h => by
    unfold RowV at h
    have := RowV.length r xs h.2
    simp only [List.length_cons]; omega
  | [], [], _ => rfl
  | [], _ :: _, h => by simp [RowV] at h
  | [_], _, h => by simp [RowV] at h
  | [_, _], _, h => by simp [RowV] at h
  | _ :: _ :: _ :: _, [], h => by simp [RowV] at h
theorem RowV.append {w : World} {F : Nat → Prop} : ∀ (vs : List Value) (xs : List Tree), RowV w F vs xs → ∀ us ys, RowV w F us ys → RowV w F (vs ++ us) (xs ++ ys)
  | v0 :: v1 :: v2 :: r, x :: xs, h, us, ys, k => by
    unfold RowV at h
    simp only [List.cons_append]
    unfold RowV
    exact ⟨h.1, RowV.append r xs h.2 us ys k⟩
  | [], [], _, us, ys, k => k
  | [], _ :: _, h, _, _, _ => by simp [RowV] at h
  | [_], _, h, _, _, _ => by simp [RowV] at h
  | [_, _], _, h, _, _, _ => by simp [RowV] at h
  | _ :: _ :: _ :: _, [], h, _, _, _ => by simp [RowV] at h
theorem RowV.last {w : World} {F : Nat → Prop} : ∀ (vs : List Value) (xs : List Tree) (x : Tree), RowV w F vs (xs ++ [x]) → ∃ us v0 v1 v2, vs = us ++ [v0, v1, v2] ∧ RowV w F us xs ∧ TreeV w F x v0 v1 v2
  | v0 :: v1 :: v2 :: r, [], x, h => by
    simp only [List.nil_append] at h
    unfold RowV at h
    have := RowV.length _ _ h.2
    have : r = [] := List.eq_nil_of_length_eq_zero (by simpa using this)
    subst this
    exact ⟨[], v0, v1, v2, rfl, by unfold RowV; trivial, h.1⟩
  | v0 :: v1 :: v2 :: r, y :: xs, x, h => by
    simp only [List.cons_append] at h
    unfold RowV at h
    obtain ⟨us, u0, u1, u2, e, k1, k2⟩ := RowV.last r xs x h.2
    exact ⟨v0 :: v1 :: v2 :: us, u0, u1, u2, by rw [e]; rfl, by unfold RowV; exact ⟨h.1, k1⟩, k2⟩
  | [], [], _, h => by simp [RowV] at h
  | [], _ :: _, _, h => by simp [RowV] at h
  | [_], [], _, h => by simp [RowV] at h
  | [_], _ :: _, _, h => by simp [RowV] at h
  | [_, _], [], _, h => by simp [RowV] at h
  | [_, _], _ :: _, _, h => by simp [RowV] at h
theorem RowV.trees {w : World} {F : Nat → Prop} (b : Nat) : ∀ (vs : List Value) (xs : List Tree) (i : Nat), RowV w F vs xs → (∀ j u, vs[j]? = some u → w.cell? ⟨b, i + j, none⟩ = some u) → TreesV w F xs b i
  | v0 :: v1 :: v2 :: r, x :: xs, i, h, hc => by
    unfold RowV at h
    unfold TreesV
    refine ⟨⟨v0, v1, v2, hc 0 v0 rfl, hc 1 v1 rfl, hc 2 v2 rfl, h.1⟩, RowV.trees b r xs (i + 3) h.2 fun j u hu => ?_⟩
    have := hc (j + 3) u (by simpa using hu)
    rw [show i + 3 + j = i + (j + 3) by omega]
    exact this
  | [], [], _, _, _ => by unfold TreesV; trivial
  | [], _ :: _, _, h, _ => by simp [RowV] at h
  | [_], _, _, h, _ => by simp [RowV] at h
  | [_, _], _, _, h, _ => by simp [RowV] at h
  | _ :: _ :: _ :: _, [], _, h, _ => by simp [RowV] at h
def ToksAt (w : World) (F : Nat → Prop) (A : Option Addr) (ts : List Tok) : Prop :=
  0 < ts.length → ∃ b, A = some ⟨b, 0, none⟩ ∧ F b ∧ ∀ k x, ts[k]? = some x → w.cell? ⟨b, k * 2, none⟩ = some (.int .i64 x.k) ∧ w.cell? ⟨b, k * 2 + 1, none⟩ = some (.string x.t)
theorem ToksAt.keep {w w' : World} {F F' : Nat → Prop} {A : Option Addr} {ts : List Tok} (h : ToksAt w F A ts) (hF : ∀ b, F b → F' b) (hw : ∀ b, F b → w'.heap[b]? = w.heap[b]?) : ToksAt w' F' A ts := by
  intro hp
  obtain ⟨b, rfl, hb, hc⟩ := h hp
  have e := fun j => World.cell?_of_block (w := w) (w' := w') (a := ⟨b, j, none⟩) (hw b hb)
  exact ⟨b, rfl, hF _ hb, fun k x hx => ⟨(e _).trans (hc k x hx).1, (e _).trans (hc k x hx).2⟩⟩
structure MM where
  m : Nat → Prop
  x : Nat
instance : CoeFun MM (fun _ => Nat → Prop) := ⟨MM.m⟩
structure Step (M : MM) (w : World) (M' : MM) (w' : World) : Prop where
  os : w'.os = w.os
  tape : w'.tape = w.tape
  output : w'.output = w.output
  size : w.heap.size ≤ w'.heap.size
  block : ∀ b, b < w.heap.size → ¬ M b → w'.heap[b]? = w.heap[b]?
  own : ∀ b, M' b → M b ∨ w.heap.size ≤ b
  hx : M'.x = M.x
theorem Step.refl (M : MM) (w : World) : Step M w M w := ⟨rfl, rfl, rfl, Nat.le_refl _, fun _ _ _ => rfl, fun _ h => .inl h, rfl⟩
theorem Step.trans {M M1 M2 : MM} {w w1 w2 : World} (h : Step M w M1 w1) (k : Step M1 w1 M2 w2) : Step M w M2 w2 := by
  refine ⟨k.os.trans h.os, k.tape.trans h.tape, k.output.trans h.output, Nat.le_trans h.size k.size, fun b hb hM => ?_, fun b hb => ?_, k.hx.trans h.hx⟩
  · refine (k.block b (Nat.lt_of_lt_of_le hb h.size) fun h1 => ?_).trans (h.block b hb hM)
    rcases h.own b h1 with h2 | h2
    · exact hM h2
    · omega
  · rcases k.own b hb with h1 | h1
    · exact h.own b h1
    · exact .inr (Nat.le_trans h.size h1)
theorem Step.of_below {M : MM} {w w' : World} (h : Below w.heap.size w w') : Step M w M w' := ⟨h.os, h.tape, h.output, h.size, fun b hb _ => h.block b hb, fun _ h => .inl h, rfl⟩
structure Fix (w : World) (M : MM) (b : Nat) : Prop where
  lt : b < w.heap.size
  nm : ¬ M b
  nx : b ≠ M.x
theorem Step.fix {M M' : MM} {w w' : World} (h : Step M w M' w') (b : Nat) (hb : Fix w M b) : Fix w' M' b :=
  ⟨Nat.lt_of_lt_of_le hb.1 h.size, fun h1 => (h.own b h1).elim hb.2 (fun h2 => by have := hb.1; omega), by rw [h.hx]; exact hb.3⟩
theorem Step.same {M M' : MM} {w w' : World} (h : Step M w M' w') (b : Nat) (hb : Fix w M b) : w'.heap[b]? = w.heap[b]? := h.block b hb.1 hb.2
structure LowF where
  kind : Int
  v : Value
  ch : List Tree
def LowF.cells (f : LowF) : List Value := [.int .i64 f.kind, .string .empty, f.v]
def KidsAt (w : World) (F : Nat → Prop) (v : Value) (ch : List Tree) : Prop := ∃ xs, w.ownsRow 0 121 3 v ch.length xs ∧ RowV w F xs ch
def Apart (p g : Nat) (v : Value) (low : List LowF) : Prop :=
  p ≠ g ∧ v.ownBlock ≠ some p ∧ v.ownBlock ≠ some g ∧ (∀ f ∈ low, f.v.ownBlock ≠ some p ∧ f.v.ownBlock ≠ some g ∧ (f.v.ownBlock = none ∨ f.v.ownBlock ≠ v.ownBlock)) ∧ low.Pairwise (fun a b => a.v.ownBlock = none ∨ a.v.ownBlock ≠ b.v.ownBlock)
def Mine (M : MM) (p g : Nat) (v : Value) (low : List LowF) : Prop :=
  M p ∧ M g ∧ (∀ b, v.ownBlock = some b → M b) ∧ ∀ f ∈ low, ∀ b, f.v.ownBlock = some b → M b
def asc : Array Value := ((List.range 256).map fun i => Value.int .u8 (if i = 9 ∨ i = 10 ∨ i = 11 ∨ i = 12 ∨ i = 13 ∨ i = 32 then 1 else 0)).toArray

def AscAt (w : World) : Prop := Lib.TabIs Tryz.prog w "strings.asciiSpace" .u8 Lib.asciiSpaceTab
theorem glob_asc : Tryz.prog.globalNamed "strings.asciiSpace" = some 1 := by kernel_rfl
theorem AscAt.keep {w w' : World} (h : AscAt w) (hw : w'.heap[1]? = w.heap[1]?) : AscAt w' := by
  unfold AscAt Lib.TabIs World.var? at h ⊢
  rw [glob_asc] at h ⊢
  simp only [Option.bind_some] at h ⊢
  rw [hw]
  exact h
theorem AscAt.lt {w : World} (h : AscAt w) : 1 < w.heap.size := by
  unfold AscAt Lib.TabIs World.var? at h
  rw [glob_asc] at h
  simp only [Option.bind_some] at h
  rcases Nat.lt_or_ge 1 w.heap.size with h' | h'
  · exact h'
  · rw [Array.getElem?_eq_none h'] at h; cases h
theorem AscAt.below {w w' : World} (h : AscAt w) (hb : Below w.heap.size w w') : AscAt w' := h.keep (hb.block _ h.lt)
theorem KidsAt.keep {w w' : World} {F F' : Nat → Prop} {v : Value} {ch : List Tree} (h : KidsAt w F v ch) (hF : ∀ b, F b → F' b) (hw : ∀ b, F b → w'.heap[b]? = w.heap[b]?) (hv : ∀ g, v.ownBlock = some g → w'.heap[g]? = w.heap[g]?) : KidsAt w' F' v ch := by
  obtain ⟨xs, h1, h2⟩ := h
  exact ⟨xs, ownsRow_below h1 hv, RowV.keep hF hw _ _ h2⟩
theorem KidsAt.lt {w : World} {F : Nat → Prop} {v : Value} {ch : List Tree} (h : KidsAt w F v ch) : ∀ g, v.ownBlock = some g → g < w.heap.size := by
  obtain ⟨xs, h1, h2⟩ := h
  exact fun g hg => (h1.lt g hg).2
structure PAtX (w : World) (p : Nat) (M : MM) (toks : List Tok) (low : List LowF) (kind : Int) (s : PS) (g cap : Nat) (v : Value) (At : Option Addr) (ct : Nat) : Prop where
  blk : w.heap[p]? = some (.cells #[.slice At toks.length ct, .int .i64 ((toks.length - s.rest.length : Nat) : Int), .slice (some ⟨g, 0, none⟩) (low.length + 1) cap] 176 (0, 0))
  row : w.ownsRow 0 121 3 (.slice (some ⟨g, 0, none⟩) (low.length + 1) cap) (low.length + 1) (low.flatMap LowF.cells ++ [.int .i64 kind, .string .empty, v])
  kids : KidsAt w (Fix w M) v s.ch
  lows : ∀ f ∈ low, KidsAt w (Fix w M) f.v f.ch
  tok : ToksAt w (Fix w M) At toks
  apart : Apart p g v low
  mine : Mine M p g v low
  rest : s.rest <:+ toks
  bch : s.ch.length + s.gas ≤ 1000000
  blow : low.length + s.gas ≤ 1000000
  btok : toks.length ≤ 500000
  asc : AscAt w
  ascM : ¬ M 1
  hole : M.x < w.heap.size ∧ ¬ M M.x
def PAt (w : World) (p : Nat) (M : MM) (toks : List Tok) (low : List LowF) (kind : Int) (s : PS) : Prop := ∃ g cap v At ct, PAtX w p M toks low kind s g cap v At ct
theorem PAtX.below {w w' : World} {p : Nat} {M : MM} {toks : List Tok} {low : List LowF} {kind : Int} {s : PS} {g cap : Nat} {v : Value} {At : Option Addr} {ct : Nat} (h : PAtX w p M toks low kind s g cap v At ct) (hb : Below w.heap.size w w') : PAtX w' p M toks low kind s g cap v At ct := by
  have hF : ∀ b, Fix w M b → Fix w' M b := fun b h => ⟨Nat.lt_of_lt_of_le h.1 hb.size, h.2, h.3⟩
  have hw : ∀ b, Fix w M b → w'.heap[b]? = w.heap[b]? := fun b h => hb.block b h.1
  exact { h with
    blk := (hb.block _ (lt_of_heap h.blk)).trans h.blk
    row := ownsRow_below h.row fun k hk => hb.block k (h.row.lt k hk).2
    kids := h.kids.keep hF hw fun k hk => hb.block k (h.kids.lt k hk)
    lows := fun f hf => (h.lows f hf).keep hF hw fun k hk => hb.block k ((h.lows f hf).lt k hk)
    tok := h.tok.keep hF hw
    asc := h.asc.below hb
    hole := ⟨Nat.lt_of_lt_of_le h.hole.1 hb.size, h.hole.2⟩ }
theorem PAt.below {w w' : World} {p : Nat} {M : MM} {toks : List Tok} {low : List LowF} {kind : Int} {s : PS} (h : PAt w p M toks low kind s) (hb : Below w.heap.size w w') : PAt w' p M toks low kind s := by
  obtain ⟨g, cap, v, At, ct, h⟩ := h
  exact ⟨g, cap, v, At, ct, h.below hb⟩
def Post (M : MM) (w : World) (p : Nat) (toks : List Tok) (low : List LowF) (kind : Int) (s : PS) (r : Value) (e : Ending) (w' : World) : Prop :=
  e = .returned r ∧ ∃ M', PAt w' p M' toks low kind s ∧ Step M w M' w'
theorem PAtX.cells {w : World} {p : Nat} {M : MM} {toks : List Tok} {low : List LowF} {kind : Int} {s : PS} {g cap : Nat} {v : Value} {At : Option Addr} {ct : Nat} (h : PAtX w p M toks low kind s g cap v At ct) :
    w.cell? ⟨p, 0, none⟩ = some (.slice At toks.length ct) ∧ w.cell? ⟨p, 1, none⟩ = some (.int .i64 ((toks.length - s.rest.length : Nat) : Int)) ∧ w.cell? ⟨p, 2, none⟩ = some (.slice (some ⟨g, 0, none⟩) (low.length + 1) cap) := by
  refine ⟨?_, ?_, ?_⟩ <;> rw [Lib.cell_of_heap h.blk] <;> rfl
theorem PAtX.thaw {w : World} {p : Nat} {M : MM} {toks : List Tok} {low : List LowF} {kind : Int} {s : PS} {g cap : Nat} {v : Value} {At : Option Addr} {ct : Nat} (h : PAtX w p M toks low kind s g cap v At ct) (j : Nat) : w.frozen? ⟨p, j, none⟩ = false := Lib.frozen_of_heap h.blk j
theorem rest_get {rest toks : List Tok} (h : rest <:+ toks) (k : Nat) : rest[k]? = toks[toks.length - rest.length + k]? := by
  obtain ⟨pre, rfl⟩ := h
  rw [List.getElem?_append_right (by simp), List.length_append]
  congr 1; omega

theorem set_two {w : World} {g : Nat} {x y : Value} {t : TypeId} {fr : Nat × Nat} (h : w.heap[g]? = some (.cells #[x, y] t fr)) (a b : Value) : ((w.setCell ⟨g, 0, none⟩ a).setCell ⟨g, 1, none⟩ b).heap[g]? = some (.cells #[a, b] t fr) := by
  simp [World.setCell, Array.getElem?_modify, h]
theorem isTriv_any (k : Int) (w : World) : Calls Tryz.prog 139 #[.int .i64 k] w fun e w' => e = .returned (.bool (k == 101 || k == 102)) ∧ w' = w := by
  by_cases h1 : k = 101
  · subst h1
    go_enter Tryz.func139, Tryz.ntmps139
    go_wp2
    go_ret
    exact ⟨rfl, rfl⟩
  · have e1 : (k == 101) = false := beq_eq_false_iff_ne.2 h1
    go_enter Tryz.func139, Tryz.ntmps139
    go_wp2
    go_ret
    exact ⟨by simp [e1], rfl⟩
def Tok.val (x : Tok) : Value := .agg #[.int .i64 x.k, .string x.t]
set_option maxRecDepth 100000 in
set_option maxHeartbeats 800000 in
theorem peek_any (w : World) (p : Nat) (M : MM) (toks : List Tok) (low : List LowF) (kind : Int) (s : PS) (h : PAt w p M toks low kind s) :
    Calls Tryz.prog 129 #[.pointer (some ⟨p, 0, none⟩)] w fun e w' => e = .returned (peekT s.rest).val ∧ Below w.heap.size w w' := by
  obtain ⟨g, cap, v, At, ct, hx⟩ := h
  obtain ⟨c0, c1, c2⟩ := hx.cells
  have hbt := hx.btok
  have hsuf := hx.rest
  have hplt := lt_of_heap hx.blk
  have htok := Lib.hid hx.tok
  clear hx
  go_enter Tryz.func129, Tryz.ntmps129
  go_wp2_with fail
  obtain ⟨W, hW⟩ : ∃ W, w.alloc (.cells #[.int .i64 0, .string ⟨#[]⟩] 142) = W := ⟨_, rfl⟩
  have hbelow : Below w.heap.size w W := by rw [← hW]; exact (Below.refl _ _).alloc (Nat.le_refl _) _
  have hnew : W.heap[w.heap.size]? = some (.cells #[.int .i64 0, .string ⟨#[]⟩] 142 (0, 0)) := by rw [← hW]; exact heap_alloc_new _ _
  have hres : ∀ a b, Below w.heap.size w ((W.setCell ⟨w.heap.size, 0, none⟩ a).setCell ⟨w.heap.size, 1, none⟩ b) := fun a b => (hbelow.setCell (Nat.le_refl _) _).setCell (Nat.le_refl _) _
  rw [hW]
  have d0 := (hbelow.cell (p := ⟨p, 0, none⟩) hplt).trans c0
  have HTok := Lib.hid (htok.out.keep (w' := W) (F' := Fix w M) (fun _ h => h) (fun b hb => hbelow.block b hb.1))
  have HB := Lib.hid hbelow
  have HN := Lib.hid hnew
  have HR := Lib.hid hres
  have HSig := Lib.hid hsuf
  clear hW c0 c1 c2 htok hbelow hnew hres hsuf
  go_loopw [3] (fun vi wr => ∃ r : List Tok, Hid (r <:+ toks ∧ sig r = sig s.rest) ∧ vi = .int .i64 ((toks.length - r.length : Nat) : Int) ∧ wr = W) (fun vi _ => toks.length - (intOf vi).toNat)
  case atStart => exact ⟨s.rest, ⟨HSig.out, rfl⟩, rfl, rfl⟩
  case round =>
    obtain ⟨r, hr, rfl, rfl⟩ := hrel
    have hle := hr.out.1.length_le
    cases r with
    | nil =>
      have HE := Lib.hid (show peekT s.rest = ⟨100, .empty⟩ by unfold peekT; rw [← hr.out.2]; rfl)
      simp only [List.length_nil, Nat.sub_zero] at *
      clear hr HTok HSig
      generalize toks.length = L at *
      clear hle
      have z0 : wr.cell? ⟨w.heap.size, 0, none⟩ = some (.int .i64 0) := by rw [Lib.cell_of_heap HN.out]; rfl
      have z1 : wr.cell? ⟨w.heap.size, 1, none⟩ = some (.string ⟨#[]⟩) := by rw [Lib.cell_of_heap HN.out]; rfl
      have y0 : wr.frozen? ⟨w.heap.size, 0, none⟩ = false := Lib.frozen_of_heap HN.out 0
      have y1 : wr.frozen? ⟨w.heap.size, 1, none⟩ = false := Lib.frozen_of_heap HN.out 1
      have hlt1 := lt_of_heap HN.out
      go_wp2_with fail
      refine bodyPost_ret (results_cell_row (P := Tryz.prog) (ty := 142) rfl _ _ w.heap.size 142 _ _ _ rfl (set_two HN.out _ _) Tryz.underlying142 rfl (by kernel_rfl)) rfl ?_
      exact ⟨by rw [HE.out]; rfl, HR.out _ _⟩
    | cons x r =>
      have hg := rest_get hr.out.1 0
      simp only [List.getElem?_cons_zero, Nat.add_zero] at hg
      have hpos : 0 < toks.length := by simp only [List.length_cons] at hle; omega
      obtain ⟨b, rfl, hb, hc⟩ := HTok.out hpos
      obtain ⟨e0, e1⟩ := hc _ x hg.symm
      have hmlt : toks.length - (x :: r).length < toks.length := by simp only [List.length_cons]; omega
      generalize hm : toks.length - (x :: r).length = m at *
      have hmI : (m : Int) < toks.length := by omega
      clear hc hg
      by_cases ht : isTriv x = true
      · have HT : Hid (r <:+ toks ∧ sig r = sig s.rest) := ⟨(List.suffix_cons x r).trans hr.out.1, by rw [← hr.out.2]; conv => rhs; unfold sig; rw [if_pos ht]⟩
        have HM := Lib.hid (show m + 1 = toks.length - r.length by simp only [List.length_cons] at hm hle; omega)
        unfold isTriv at ht
        go_wp2_with fail
        refine (isTriv_any _ _).mono ?_
        rintro e w1 ⟨rfl, rfl⟩
        rw [ht]
        clear ht
        go_wp2_with fail
        go_roundw
        case rel => exact ⟨r, HT, by rw [← HM.out]; go_num, True.intro⟩
        case measure => simp [intOf]; omega
      · have HE := Lib.hid (show peekT s.rest = x by unfold peekT; rw [← hr.out.2]; conv => lhs; unfold sig; rw [if_neg ht])
        unfold isTriv at ht
        have ht' := eq_false_of_ne_true ht
        have hne : ((m : Int) == (toks.length : Int)) = false := beq_eq_false_iff_ne.2 (by omega)
        clear ht hr HSig
        have z0 : wr.cell? ⟨w.heap.size, 0, none⟩ = some (.int .i64 0) := by rw [Lib.cell_of_heap HN.out]; rfl
        have z1 : wr.cell? ⟨w.heap.size, 1, none⟩ = some (.string ⟨#[]⟩) := by rw [Lib.cell_of_heap HN.out]; rfl
        have y0 : wr.frozen? ⟨w.heap.size, 0, none⟩ = false := Lib.frozen_of_heap HN.out 0
        have y1 : wr.frozen? ⟨w.heap.size, 1, none⟩ = false := Lib.frozen_of_heap HN.out 1
        have hlt1 := lt_of_heap HN.out
        go_wp2_with fail
        refine (isTriv_any _ _).mono ?_
        rintro e w1 ⟨rfl, rfl⟩
        rw [ht']
        clear ht'
        go_wp2_with fail
        refine bodyPost_ret (results_cell_row (P := Tryz.prog) (ty := 142) rfl _ _ w.heap.size 142 _ _ _ rfl (set_two HN.out _ _) Tryz.underlying142 rfl (by kernel_rfl)) rfl ?_
        exact ⟨by rw [HE.out]; rfl, HR.out _ _⟩

def StrsAt (w : World) (A : Option Addr) (ss : List ByteArray) : Prop :=
  0 < ss.length → ∃ b, A = some ⟨b, 0, none⟩ ∧ b < w.heap.size ∧ ∀ k x, ss[k]? = some x → w.cell? ⟨b, k, none⟩ = some (.string x)
theorem StrsAt.below {w w' : World} {A : Option Addr} {es : List ByteArray} (h : StrsAt w A es) (hb : Below w.heap.size w w') : StrsAt w' A es := by
  intro hn
  obtain ⟨b, rfl, hlt, hc⟩ := h hn
  exact ⟨b, rfl, Nat.lt_of_lt_of_le hlt hb.size, fun k x hx => (hb.cell (p := ⟨b, k, none⟩) hlt).trans (hc k x hx)⟩
theorem StrsAt.new (w : World) (ss : List ByteArray) (t : TypeId) (n : Nat) (h : n = w.heap.size) : StrsAt (w.alloc (.cells (ss.map Value.string).toArray t)) (some ⟨n, 0, none⟩) ss := by
  intro _
  subst h
  refine ⟨w.heap.size, rfl, by simp, fun k x hx => ?_⟩
  rw [Lib.cell_of_heap (heap_alloc_new w _)]
  simp [hx]
theorem str_ne {x y : ByteArray} (h : x ≠ y) : (x.toList == y.toList) = false := by
  rw [← beq_toListBytes]
  show (x.data == y.data) = false
  rw [beq_eq_false_iff_ne]
  intro e
  exact h (by cases x; cases y; simp_all)
def idxL (x : ByteArray) : List ByteArray → Nat → Int
  | [], _ => -1
  | y :: r, i => if y = x then (i : Int) else idxL x r (i + 1)
theorem idxL_hit (x : ByteArray) : ∀ (ss : List ByteArray) (i : Nat), (0 ≤ idxL x ss i) ↔ (ss.any fun t => decide (t = x)) = true
  | [], i => by simp [idxL]
  | y :: r, i => by
    unfold idxL
    split
    · next h => simp [h]
    · next h => simp only [List.any_cons, h, decide_false, Bool.false_or]; exact idxL_hit x r (i + 1)
set_option maxRecDepth 100000 in
theorem index_any (A : Option Addr) (c : Nat) (ss : List ByteArray) (x : ByteArray) (w : World) (hA : StrsAt w A ss) (hn : ss.length ≤ 1000000) :
    Calls Tryz.prog 205 #[.slice A ss.length c, .string x] w fun e w' => e = .returned (.int .i64 (idxL x ss 0)) ∧ w' = w := by
  obtain ⟨n, hnn⟩ : ∃ n, ss.length = n := ⟨_, rfl⟩
  have HA := Lib.hid hA
  have HN := Lib.hid hnn
  rw [hnn] at hn ⊢
  clear hA hnn
  go_enter Tryz.func205, Tryz.ntmps205
  go_wp2_with fail
  go_loopw [8] (fun vi wr => ∃ k : Nat, k ≤ n ∧ vi = .int .i64 k ∧ Hid (idxL x ss 0 = idxL x (ss.drop k) k) ∧ wr = w) (fun vi _ => n - (intOf vi).toNat)
  case atStart => exact ⟨0, by omega, rfl, by unfold Hid; simp, rfl⟩
  case round =>
    obtain ⟨k, hk, rfl, hi, rfl⟩ := hrel
    by_cases hlt : k < n
    · have hkI : (k : Int) < n := by omega
      have hks : k < ss.length := by rw [HN.out]; exact hlt
      obtain ⟨b, rfl, hb, hc⟩ := HA.out (by omega)
      have c0 := hc k ss[k] (List.getElem?_eq_getElem hks)
      have HD := Lib.hid (show ss.drop k = ss[k] :: ss.drop (k + 1) from List.drop_eq_getElem_cons hks)
      generalize ss[k] = y at *
      clear hc
      by_cases hy : y = x
      · subst hy
        have HE := Lib.hid (show idxL y ss 0 = k by rw [hi.out, HD.out]; unfold idxL; rw [if_pos rfl])
        clear hi
        go_wp2_with fail
        go_ret
        exact ⟨by rw [HE.out]; rfl, rfl⟩
      · have hy' : (x.toList == y.toList) = false := str_ne fun e => hy e.symm
        have HE : Hid (idxL x ss 0 = idxL x (ss.drop (k + 1)) (k + 1)) := by
          unfold Hid; rw [hi.out, HD.out]; conv => lhs; unfold idxL; rw [if_neg hy]
        clear hi
        go_wp2_with fail
        go_roundw
        case rel => exact ⟨k + 1, by omega, by go_num, HE, True.intro⟩
        case measure => simp [intOf]; omega
    · obtain rfl : k = n := by omega
      have HE := Lib.hid (show idxL x ss 0 = -1 by rw [hi.out, List.drop_of_length_le (by rw [HN.out]; exact Nat.le_refl _)]; rfl)
      clear hi
      go_wp2_with fail
      go_ret
      exact ⟨by rw [HE.out]; rfl, rfl⟩
theorem contains_any (A : Option Addr) (c : Nat) (ss : List ByteArray) (x : ByteArray) (w : World) (hA : StrsAt w A ss) (hn : ss.length ≤ 1000000) :
    Calls Tryz.prog 166 #[.slice A ss.length c, .string x] w fun e w' => e = .returned (.bool (ss.any fun t => decide (t = x))) ∧ w' = w := by
  have hcall := Lib.hid (index_any A c ss x w hA hn)
  have HB := Lib.hid (idxL_hit x ss 0)
  generalize ss.length = n at *
  go_enter Tryz.func166, Tryz.ntmps166
  go_wp2_with fail
  refine hcall.out.mono ?_
  rintro e w1 ⟨rfl, rfl⟩
  generalize idxL x ss 0 = i at *
  go_wp2_with fail
  go_ret
  refine ⟨?_, rfl⟩
  have := HB.out
  by_cases h : 0 ≤ i
  · simp [h, this.1 h]
  · have h2 : (ss.any fun t => decide (t = x)) = false := by
      cases hx : ss.any fun t => decide (t = x)
      · rfl
      · exact absurd (this.2 hx) h
    simp [h, h2]

theorem tok_field0 (a b : Value) (u : World) : (Instr.field 142 (.agg #[a, b]) 0).run Tryz.prog u = .ok a u := by
  simp [Instr.field, go_sem, part, asAgg]
set_option maxRecDepth 100000 in
theorem atEOF_any (w : World) (p : Nat) (M : MM) (toks : List Tok) (low : List LowF) (kind : Int) (s : PS) (h : PAt w p M toks low kind s) :
    Calls Tryz.prog 84 #[.pointer (some ⟨p, 0, none⟩)] w fun e w' => e = .returned (.bool ((peekT s.rest).k == 100)) ∧ Below w.heap.size w w' := by
  have hcall := Lib.hid (peek_any w p M toks low kind s h)
  clear h
  generalize peekT s.rest = x at *
  go_enter Tryz.func84, Tryz.ntmps84
  go_wp2_with fail
  refine hcall.out.mono ?_
  rintro e w1 ⟨rfl, hb⟩
  have HB := Lib.hid hb
  clear hb hcall
  unfold Tok.val
  have kf := fun u => tok_field0 (.int .i64 x.k) (.string x.t) u
  go_wp2_with fail
  go_ret
  exact ⟨rfl, HB.out⟩
set_option maxRecDepth 100000 in
theorem atIdent_any (w : World) (p : Nat) (M : MM) (toks : List Tok) (low : List LowF) (kind : Int) (s : PS) (h : PAt w p M toks low kind s) :
    Calls Tryz.prog 266 #[.pointer (some ⟨p, 0, none⟩)] w fun e w' => e = .returned (.bool ((peekT s.rest).k == 103)) ∧ Below w.heap.size w w' := by
  have hcall := Lib.hid (peek_any w p M toks low kind s h)
  clear h
  generalize peekT s.rest = x at *
  go_enter Tryz.func266, Tryz.ntmps266
  go_wp2_with fail
  refine hcall.out.mono ?_
  rintro e w1 ⟨rfl, hb⟩
  have HB := Lib.hid hb
  clear hb hcall
  unfold Tok.val
  have kf := fun u => tok_field0 (.int .i64 x.k) (.string x.t) u
  go_wp2_with fail
  go_ret
  exact ⟨rfl, HB.out⟩
set_option maxRecDepth 100000 in
theorem at_any (w : World) (p : Nat) (M : MM) (toks : List Tok) (low : List LowF) (kind : Int) (s : PS) (h : PAt w p M toks low kind s) (A : Option Addr) (n c : Nat) (ss : List ByteArray) (hA : StrsAt w A ss) (hl : n = ss.length) (hn : n ≤ 1000000) :
    Calls Tryz.prog 130 #[.pointer (some ⟨p, 0, none⟩), .slice A n c] w fun e w' => e = .returned (.bool (atB ss s.rest)) ∧ Below w.heap.size w w' := by
  have hcall := Lib.hid (peek_any w p M toks low kind s h)
  have HA := Lib.hid hA
  have HL := Lib.hid hl
  have HE := Lib.hid (show atB ss s.rest = (((peekT s.rest).k == 104 || (peekT s.rest).k == 107) && ss.any fun t => decide (t = (peekT s.rest).t)) from rfl)
  clear h hA hl
  generalize peekT s.rest = x at *
  go_enter Tryz.func130, Tryz.ntmps130
  go_wp2_with fail
  refine hcall.out.mono ?_
  rintro e w1 ⟨rfl, hb⟩
  have HB := Lib.hid hb
  clear hb hcall
  unfold Tok.val
  by_cases h1 : x.k = 104
  · have e1 : (x.k == 104) = true := by rw [h1]; rfl
    have HE' : Hid (atB ss s.rest = ss.any fun t => decide (t = x.t)) := by unfold Hid; rw [HE.out, e1]; rfl
    clear HE h1
    go_wp2_with fail
    rw [HL.out]
    refine (contains_any A c ss x.t _ (HA.out.below (HB.out.alloc HB.out.size _)) (by rw [← HL.out]; exact hn)).mono ?_
    rintro e w2 ⟨rfl, rfl⟩
    go_wp2_with fail
    go_ret
    exact ⟨by rw [HE'.out]; rfl, HB.out.alloc HB.out.size _⟩
  · have e1 : (x.k == 104) = false := beq_eq_false_iff_ne.2 h1
    by_cases h2 : x.k = 107
    · have e2 : (x.k == 107) = true := by rw [h2]; rfl
      have HE' : Hid (atB ss s.rest = ss.any fun t => decide (t = x.t)) := by unfold Hid; rw [HE.out, e1, e2]; rfl
      clear HE h1 h2
      go_wp2_with fail
      rw [HL.out]
      refine (contains_any A c ss x.t _ (HA.out.below (HB.out.alloc HB.out.size _)) (by rw [← HL.out]; exact hn)).mono ?_
      rintro e w2 ⟨rfl, rfl⟩
      go_wp2_with fail
      go_ret
      exact ⟨by rw [HE'.out]; rfl, HB.out.alloc HB.out.size _⟩
    · have e2 : (x.k == 107) = false := beq_eq_false_iff_ne.2 h2
      have HE' : Hid (atB ss s.rest = false) := by unfold Hid; rw [HE.out, e1, e2]; rfl
      clear HE h1 h2
      go_wp2_with fail
      go_ret
      exact ⟨by rw [HE'.out]; rfl, HB.out.alloc HB.out.size _⟩
end Go.Proofs.YtpibenilagloaaaGreatDoor
