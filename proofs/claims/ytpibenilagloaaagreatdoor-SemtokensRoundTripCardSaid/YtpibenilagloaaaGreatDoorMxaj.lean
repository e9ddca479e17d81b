import Derived.Test.YtpibenilagloaaaGreatDoorMxai
/-
  The state in which a function of the parser runs; its steps.
-/
namespace Go.Proofs.YtpibenilagloaaaGreatDoor
open Go.RowKit
set_option linter.unusedVariables false

/-- where a function of the parser runs: the worlds, the parser, what lies below, the world at its start -/
structure Cx where
  E : WE
  p : Nat
  toks : List Tok
  low : List LowF
  kind : Int
  M0 : MM
  w0 : World
/-- the parser stands at s in w -/
def Cx.At (c : Cx) (w : World) (s : PS) : Prop := Stays c.E ∧ ∃ M, PAt w c.p M c.toks c.low c.kind s ∧ Step c.M0 c.w0 M w ∧ c.E w M
theorem Cx.At.stays {c : Cx} {w : World} {s : PS} (h : c.At w s) : Stays c.E := h.1
theorem Cx.At.below {c : Cx} {w w' : World} {s : PS} (h : c.At w s) (hb : Below w.heap.size w w') : c.At w' s := by
  obtain ⟨hE, M, h1, h2, h3⟩ := h
  exact ⟨hE, M, h1.below hb, h2.trans (Step.of_below hb), hE _ _ _ _ h3 (Step.of_below hb)⟩
theorem Cx.At.next {c : Cx} {w w' : World} {s' : PS} (h : Stays c.E) {M : MM} (h2 : Step c.M0 c.w0 M w) (h3 : c.E w M) (hq : ∃ M', PAt w' c.p M' c.toks c.low c.kind s' ∧ Step M w M' w') : c.At w' s' := by
  obtain ⟨M', k1, k2⟩ := hq
  exact ⟨h, M', k1, h2.trans k2, h _ _ _ _ h3 k2⟩
theorem Cx.At.post {c : Cx} {w : World} {s : PS} (h : c.At w s) {r : Value} : Post c.M0 c.w0 c.p c.toks c.low c.kind s r (.returned r) w := by
  obtain ⟨hE, M, h1, h2, h3⟩ := h
  exact ⟨rfl, M, h1, h2⟩
theorem Cx.At.asc {c : Cx} {w : World} {s : PS} (h : c.At w s) : AscAt w := by
  obtain ⟨hE, M, ⟨g, cap, v, At, ct, hX⟩, h2, h3⟩ := h
  exact hX.asc
/-- the flag is no part of the memory -/
theorem PAt.flag {w : World} {p : Nat} {M : MM} {toks : List Tok} {low : List LowF} {kind : Int} {s : PS} (h : PAt w p M toks low kind s) (b : Bool) : PAt w p M toks low kind { s with flag := b } := by
  obtain ⟨g, cap, v, At, ct, hX⟩ := h
  exact ⟨g, cap, v, At, ct, hX.blk, hX.row, hX.kids, hX.lows, hX.tok, hX.apart, hX.mine, hX.rest, hX.bch, hX.blow, hX.btok, hX.asc, hX.ascM, hX.hole⟩
theorem Cx.At.flag {c : Cx} {w : World} {s : PS} (h : c.At w s) (b : Bool) : c.At w { s with flag := b } := by
  obtain ⟨hE, M, h1, h2, h3⟩ := h
  exact ⟨hE, M, h1.flag b, h2, h3⟩
/-- a call that leaves the parser at s' -/
abbrev CallsAt (c : Cx) (f : FuncId) (args : Array Value) (w : World) (r : Value) (s' : PS) : Prop := Calls Tryz.prog f args w fun e w' => e = .returned r ∧ c.At w' s'

/- A BOX THAT HOLDS A VALUE -/
def Bx (b : Nat) (v : Value) : WE := fun w M => w.cell? ⟨b, 0, none⟩ = some v ∧ ¬ M b
theorem Bx.stays (b : Nat) (v : Value) : Stays (Bx b v) := fun w M w' M' h hs => by
  have hlt : b < w.heap.size := World.block_lt_of_cell? w _ h.1
  exact ⟨(World.cell?_of_block (w := w) (hs.block b hlt h.2)).trans h.1, fun hm => (hs.own b hm).elim h.2 (fun h2 => by omega)⟩
def And2 (E F : WE) : WE := fun w M => E w M ∧ F w M
theorem And2.stays {E F : WE} (hE : Stays E) (hF : Stays F) : Stays (And2 E F) := fun w M w' M' h hs => ⟨hE _ _ _ _ h.1 hs, hF _ _ _ _ h.2 hs⟩
theorem Cx.At.bx {c : Cx} {w : World} {s : PS} (h : c.At w s) {b : Nat} {v : Value} (hE : ∀ w M, c.E w M → Bx b v w M) : w.cell? ⟨b, 0, none⟩ = some v := by
  obtain ⟨_, M, h1, h2, h3⟩ := h
  exact (hE _ _ h3).1
/-- only blocks that are there need be written -/
theorem PAt.cut {w : World} {p : Nat} {M : MM} {toks : List Tok} {low : List LowF} {kind : Int} {s : PS} (h : PAt w p M toks low kind s) : PAt w p ⟨fun b => M b ∧ b < w.heap.size, M.x⟩ toks low kind s := by
  obtain ⟨g, cap, v, At, ct, hX⟩ := h
  have hF : ∀ b, Fix w M b → Fix w ⟨fun b => M b ∧ b < w.heap.size, M.x⟩ b := fun b h => ⟨h.1, fun k => h.2 k.1, h.3⟩
  obtain ⟨m1, m2, m3, m4⟩ := hX.mine
  exact ⟨g, cap, v, At, ct, hX.blk, hX.row, hX.kids.keep hF (fun _ _ => rfl) (fun _ _ => rfl), fun f hf => (hX.lows f hf).keep hF (fun _ _ => rfl) (fun _ _ => rfl), hX.tok.keep hF (fun _ _ => rfl), hX.apart,
    ⟨⟨m1, lt_of_heap hX.blk⟩, ⟨m2, (hX.row.lt g rfl).2⟩, fun b hb => ⟨m3 b hb, hX.kids.lt b hb⟩, fun f hf b hb => ⟨m4 f hf b hb, (hX.lows f hf).lt b hb⟩⟩, hX.rest, hX.bch, hX.blow, hX.btok, hX.asc, fun h => hX.ascM h.1, ⟨hX.hole.1, fun h => hX.hole.2 h.1⟩⟩
/-- a function that boxes its receiver -/
theorem Cx.At.start {w : World} {p : Nat} {M : MM} {toks : List Tok} {low : List LowF} {kind : Int} {s : PS} (h : PAt w p M toks low kind s) {v : Value} {t : TypeId} :
    (⟨Bx w.heap.size v, p, toks, low, kind, M, w⟩ : Cx).At (w.alloc (.cells #[v] t)) s := by
  have hb := (Below.refl w.heap.size w).alloc (Nat.le_refl _) (.cells #[v] t)
  refine ⟨Bx.stays _ _, _, h.cut.below hb, ⟨rfl, rfl, rfl, hb.size, fun b hlt _ => hb.block b hlt, fun b hm => .inl hm.1, rfl⟩, ?_, fun hm => by have := hm.2; omega⟩
  rw [Lib.cell_of_heap (heap_alloc_new _ _)]
  rfl
/-- one more box -/
theorem Cx.At.box {c : Cx} {w : World} {s : PS} (h : c.At w s) {v : Value} {t : TypeId} {n : Nat} (hn : n = w.heap.size) : (⟨And2 c.E (Bx n v), c.p, c.toks, c.low, c.kind, c.M0, c.w0⟩ : Cx).At (w.alloc (.cells #[v] t)) s := by
  subst hn
  obtain ⟨hE, M, h1, h2, h3⟩ := h
  have hb := (Below.refl w.heap.size w).alloc (Nat.le_refl _) (.cells #[v] t)
  have hst : Step M w ⟨fun b => M b ∧ b < w.heap.size, M.x⟩ (w.alloc (.cells #[v] t)) := ⟨rfl, rfl, rfl, hb.size, fun b hlt _ => hb.block b hlt, fun b hm => .inl hm.1, rfl⟩
  refine ⟨And2.stays hE (Bx.stays _ _), _, h1.cut.below hb, h2.trans hst, hE _ _ _ _ h3 hst, ?_, fun hm => by have := hm.2; omega⟩
  rw [Lib.cell_of_heap (heap_alloc_new _ _)]
  rfl
/-- a function without a box -/
theorem Cx.At.bare {w : World} {p : Nat} {M : MM} {toks : List Tok} {low : List LowF} {kind : Int} {s : PS} (h : PAt w p M toks low kind s) : (⟨fun _ _ => True, p, toks, low, kind, M, w⟩ : Cx).At w s :=
  ⟨fun _ _ _ _ _ _ => True.intro, M, h, Step.refl _ _, True.intro⟩
/-- the body of a closure -/
theorem Cx.At.closure {w : World} {p : Nat} {M : MM} {toks : List Tok} {low : List LowF} {kind : Int} {s : PS} {E : WE} (hE : Stays E) (he : E w M) (h : PAt w p M toks low kind s) : (⟨E, p, toks, low, kind, M, w⟩ : Cx).At w s :=
  ⟨hE, M, h, Step.refl _ _, he⟩

/- THE TESTS -/
theorem Cx.atL {c : Cx} {w : World} {s : PS} (h : c.At w s) {A : Option Addr} {n k : Nat} {ss : List ByteArray} (hA : StrsAt w A ss) (hl : n = ss.length) (hn : n ≤ 1000000) : CallsAt c 130 #[.pointer (some ⟨c.p, 0, none⟩), .slice A n k] w (.bool (atB ss s.rest)) s := by
  have h' := h
  obtain ⟨hE, M, h1, h2, h3⟩ := h
  exact (at_any w c.p M c.toks c.low c.kind s h1 A n k ss hA hl hn).mono fun e w' ⟨k1, k2⟩ => ⟨k1, h'.below k2⟩
theorem Cx.atN {c : Cx} {w : World} {s : PS} (h : c.At w s) (ss : List ByteArray) (hn : ss.length ≤ 1000000) {z : Nat} (hz : z = w.heap.size) : CallsAt c 130 #[.pointer (some ⟨c.p, 0, none⟩), .slice (some ⟨z, 0, none⟩) ss.length ss.length] (w.alloc (.cells (ss.map Value.string).toArray 9)) (.bool (atB ss s.rest)) s :=
  Cx.atL (h.below ((Below.refl _ _).alloc (Nat.le_refl _) _)) (StrsAt.new w ss 9 _ hz) rfl hn
theorem Cx.at1 {c : Cx} {w : World} {s : PS} (h : c.At w s) (t : ByteArray) {z : Nat} (hz : z = w.heap.size) : CallsAt c 130 #[.pointer (some ⟨c.p, 0, none⟩), .slice (some ⟨z, 0, none⟩) 1 1] (w.alloc (.cells #[.string t] 9)) (.bool (atB [t] s.rest)) s := Cx.atN h [t] (by simp) hz
theorem Cx.at2 {c : Cx} {w : World} {s : PS} (h : c.At w s) (t u : ByteArray) {z : Nat} (hz : z = w.heap.size) : CallsAt c 130 #[.pointer (some ⟨c.p, 0, none⟩), .slice (some ⟨z, 0, none⟩) 2 2] (w.alloc (.cells #[.string t, .string u] 9)) (.bool (atB [t, u] s.rest)) s := Cx.atN h [t, u] (by simp) hz
theorem Cx.at3 {c : Cx} {w : World} {s : PS} (h : c.At w s) (t u v : ByteArray) {z : Nat} (hz : z = w.heap.size) : CallsAt c 130 #[.pointer (some ⟨c.p, 0, none⟩), .slice (some ⟨z, 0, none⟩) 3 3] (w.alloc (.cells #[.string t, .string u, .string v] 9)) (.bool (atB [t, u, v] s.rest)) s := Cx.atN h [t, u, v] (by simp) hz
theorem Cx.eof {c : Cx} {w : World} {s : PS} (h : c.At w s) : CallsAt c 84 #[.pointer (some ⟨c.p, 0, none⟩)] w (.bool ((peekT s.rest).k == 100)) s := by
  have h' := h
  obtain ⟨hE, M, h1, h2, h3⟩ := h
  exact (atEOF_any w c.p M c.toks c.low c.kind s h1).mono fun e w' ⟨k1, k2⟩ => ⟨k1, h'.below k2⟩
theorem Cx.ident {c : Cx} {w : World} {s : PS} (h : c.At w s) : CallsAt c 266 #[.pointer (some ⟨c.p, 0, none⟩)] w (.bool ((peekT s.rest).k == 103)) s := by
  have h' := h
  obtain ⟨hE, M, h1, h2, h3⟩ := h
  exact (atIdent_any w c.p M c.toks c.low c.kind s h1).mono fun e w' ⟨k1, k2⟩ => ⟨k1, h'.below k2⟩
theorem Cx.item {c : Cx} {w : World} {s : PS} (h : c.At w s) : CallsAt c 306 #[.pointer (some ⟨c.p, 0, none⟩)] w (.bool (Cmd.atItem.eval s.flag s.rest)) s := by
  have h' := h
  obtain ⟨hE, M, h1, h2, h3⟩ := h
  exact (atItem_any w c.p M c.toks c.low c.kind s h1).mono fun e w' ⟨k1, k2⟩ => ⟨k1, h'.below k2⟩
theorem Cx.peek {c : Cx} {w : World} {s : PS} (h : c.At w s) : CallsAt c 129 #[.pointer (some ⟨c.p, 0, none⟩)] w (peekT s.rest).val s := by
  have h' := h
  obtain ⟨hE, M, h1, h2, h3⟩ := h
  exact (peek_any w c.p M c.toks c.low c.kind s h1).mono fun e w' ⟨k1, k2⟩ => ⟨k1, h'.below k2⟩
/-- a parser one token ahead -/
theorem Cx.look {c : Cx} {w : World} {s : PS} (h : c.At w s) : Calls Tryz.prog 131 #[.pointer (some ⟨c.p, 0, none⟩)] w fun e w' => ∃ q M' s', e = .returned (.pointer (some ⟨q, 0, none⟩)) ∧ PAt w' q M' c.toks [] 0 s' ∧ s'.rest = after s.rest ∧ c.At w' s := by
  have h' := h
  obtain ⟨hE, M, h1, h2, h3⟩ := h
  exact (lookahead_any w c.p M c.toks c.low c.kind s h1).mono fun e w' ⟨q, M', s', k1, k2, k3, k4⟩ => ⟨q, M', s', k1, k2, k3, h'.below k4⟩

/- THE STEPS -/
theorem Cx.step {c : Cx} {w w1 : World} {s s' : PS} {f : FuncId} {args : Array Value} {r : Value} (h : c.At w s) (hb : Below w.heap.size w w1) (hc : ∀ M, PAt w1 c.p M c.toks c.low c.kind s → Calls Tryz.prog f args w1 (Post M w1 c.p c.toks c.low c.kind s' r)) : CallsAt c f args w1 r s' := by
  obtain ⟨hE, M, h1, h2, h3⟩ := h.below hb
  exact (hc M h1).mono fun e w' ⟨k1, k2⟩ => ⟨k1, Cx.At.next hE h2 h3 k2⟩
theorem Cx.bump {n : Nat} {c : Cx} {w : World} {s s' : PS} (h : c.At w s) (hs : R n .bump s s') : CallsAt c 137 #[.pointer (some ⟨c.p, 0, none⟩)] w (.tuple #[]) s' :=
  Cx.step h (Below.refl _ _) fun M h1 => bump_any w c.p M c.toks c.low c.kind s s' h1 hs.bump
theorem Cx.accept {n : Nat} {c : Cx} {w : World} {s s' : PS} (h : c.At w s) {t : ByteArray} (hs : R n (Cmd.accept [t]) s s') {z : Nat} (hz : z = w.heap.size) : CallsAt c 136 #[.pointer (some ⟨c.p, 0, none⟩), .slice (some ⟨z, 0, none⟩) 1 1] (w.alloc (.cells #[.string t] 9)) (.bool (atB [t] s.rest)) s' :=
  Cx.step h ((Below.refl _ _).alloc (Nat.le_refl _) _) fun M h1 => accept_any _ c.p M c.toks c.low c.kind s s' h1 _ 1 1 [t] (StrsAt.new w [t] 9 _ hz) rfl (by decide) hs.accept
theorem Cx.expect {n : Nat} {c : Cx} {w : World} {s s' : PS} (h : c.At w s) {t : ByteArray} (hs : R n (Cmd.expect t) s s') : CallsAt c 216 #[.pointer (some ⟨c.p, 0, none⟩), .string t] w (.tuple #[]) s' :=
  Cx.step h (Below.refl _ _) fun M h1 => expect_any w c.p M c.toks c.low c.kind s s' h1 t hs.expect
theorem Cx.expectIdent {n : Nat} {c : Cx} {w : World} {s s' : PS} (h : c.At w s) (hs : R n Cmd.expectIdent s s') : CallsAt c 213 #[.pointer (some ⟨c.p, 0, none⟩)] w (.tuple #[]) s' :=
  Cx.step h (Below.refl _ _) fun M h1 => expectIdent_any w c.p M c.toks c.low c.kind s s' h1 hs.expectIdent
theorem Cx.absent {n : Nat} {c : Cx} {w : World} {s s' : PS} (h : c.At w s) (hs : R n (.leaf 0) s s') : CallsAt c 262 #[.pointer (some ⟨c.p, 0, none⟩)] w (.tuple #[]) s' :=
  Cx.step h (Below.refl _ _) fun M h1 => absent_any w c.p M c.toks c.low c.kind s s' h1 hs.leaf
theorem Cx.missingNode {n : Nat} {c : Cx} {w : World} {s s' : PS} (h : c.At w s) (hs : R n (.leaf 46) s s') : CallsAt c 276 #[.pointer (some ⟨c.p, 0, none⟩)] w (.tuple #[]) s' :=
  Cx.step h (Below.refl _ _) fun M h1 => missingNode_any w c.p M c.toks c.low c.kind s s' h1 hs.leaf
theorem Cx.missingToken {n : Nat} {c : Cx} {w : World} {s s' : PS} (h : c.At w s) (hs : R n (.leaf 108) s s') : CallsAt c 269 #[.pointer (some ⟨c.p, 0, none⟩)] w (.tuple #[]) s' :=
  Cx.step h (Below.refl _ _) fun M h1 => missingToken_any w c.p M c.toks c.low c.kind s s' h1 hs.leaf
theorem Cx.unexpected {n : Nat} {c : Cx} {w : World} {s s' : PS} (h : c.At w s) (hs : R n Cmd.unexpected s s') : CallsAt c 307 #[.pointer (some ⟨c.p, 0, none⟩)] w (.tuple #[]) s' :=
  Cx.step h (Below.refl _ _) fun M h1 => unexpected_any w c.p M c.toks c.low c.kind n s s' h1 hs
/-- a function value that does what a command says -/
def ActsC (n : Nat) (cmd : Cmd) (E : WE) (fid : FuncId) (bs cs : Array Value) (p : Nat) (toks : List Tok) : Prop := Ent fid ∧ Acts (R n cmd) E fid bs cs p toks
theorem ActsC.weak {n : Nat} {cmd : Cmd} {E F : WE} {fid : FuncId} {bs cs : Array Value} {p : Nat} {toks : List Tok} (h : ActsC n cmd E fid bs cs p toks) (hF : ∀ w M, F w M → E w M) : ActsC n cmd F fid bs cs p toks :=
  ⟨h.1, fun w M low kind s s' he => h.2 w M low kind s s' (hF _ _ he)⟩
theorem actsC_bump (n : Nat) (E : WE) (p : Nat) (toks : List Tok) : ActsC n .bump E 137 #[.pointer (some ⟨p, 0, none⟩)] #[] p toks :=
  ⟨ent_bump, fun w M low kind s s' _ h hr => bump_any w p M toks low kind s s' h hr.bump⟩
theorem Cx.node {n : Nat} {c : Cx} {w : World} {s s' : PS} (h : c.At w s) {k : Int} {cmd : Cmd} (hs : R n (.node k cmd) s s') {fid : FuncId} {bs cs : Array Value} (hA : ActsC n cmd c.E fid bs cs c.p c.toks) :
    CallsAt c 134 #[.pointer (some ⟨c.p, 0, none⟩), .int .i64 k, .func (.func fid) bs cs] w (.tuple #[]) s' := by
  obtain ⟨hE, M, h1, h2, h3⟩ := h
  obtain ⟨hg, u, hu, rfl⟩ := hs.node
  exact (node_any w c.p M c.toks c.low c.kind s u h1 k (R n cmd) c.E hE fid bs cs hA.1 hA.2 h3 hg hu (hu.gas (by show 0 < s.gas - 1; omega))).mono fun e w' ⟨k1, k2⟩ => ⟨k1, Cx.At.next hE h2 h3 k2⟩
theorem Cx.optional {n : Nat} {c : Cx} {w : World} {s s' : PS} (h : c.At w s) {t : ByteArray} {cmd : Cmd} (hs : R n (Cmd.optional t cmd) s s') {fid : FuncId} {bs cs : Array Value} (hA : ActsC n cmd c.E fid bs cs c.p c.toks) :
    CallsAt c 261 #[.pointer (some ⟨c.p, 0, none⟩), .string t, .func (.func fid) bs cs] w (.tuple #[]) s' := by
  obtain ⟨hE, M, h1, h2, h3⟩ := h
  exact (optional_any w c.p M c.toks c.low c.kind s s' h1 t (R n cmd) c.E hE fid bs cs hA.1 hA.2 h3 hs.optional.1 hs.optional.2).mono fun e w' ⟨k1, k2⟩ => ⟨k1, Cx.At.next hE h2 h3 k2⟩
end Go.Proofs.YtpibenilagloaaaGreatDoor

/-
  (*parser).list: the walk.
-/
namespace Go.Proofs.YtpibenilagloaaaGreatDoor
open Go.RowKit
set_option linter.unusedVariables false

theorem Cx.At.pos {c : Cx} {w : World} {s : PS} (h : c.At w s) : ∃ m : Nat, m + s.rest.length = c.toks.length ∧ w.cell? ⟨c.p, 1, none⟩ = some (.int .i64 (m : Int)) := by
  obtain ⟨hE, M, ⟨g, cap, v, At, ct, hX⟩, h2, h3⟩ := h
  have hle := hX.rest.length_le
  exact ⟨c.toks.length - s.rest.length, by omega, hX.cells.2.1⟩
theorem Cx.acts {n : Nat} {c : Cx} {w : World} {s s' : PS} (h : c.At w s) {cmd : Cmd} {fid : FuncId} {bs cs : Array Value} (hA : ActsC n cmd c.E fid bs cs c.p c.toks) (hs : R n cmd s s') : CallsAt c fid (bs ++ cs) w (.tuple #[]) s' := by
  obtain ⟨hE, M, h1, h2, h3⟩ := h
  exact (hA.2 w M c.low c.kind s s' h3 h1 hs).mono fun e w' ⟨k1, k2⟩ => ⟨k1, Cx.At.next hE h2 h3 k2⟩
set_option maxRecDepth 100000 in
set_option maxHeartbeats 1600000 in
theorem Cx.list {n : Nat} {c : Cx} {w : World} {s s' : PS} (h : c.At w s) {closing : ByteArray} {cmd : Cmd} (hs : R n (Cmd.list closing cmd) s s') {fid : FuncId} {bs cs : Array Value} (hA : ActsC n cmd c.E fid bs cs c.p c.toks) :
    CallsAt c 264 #[.pointer (some ⟨c.p, 0, none⟩), .string closing, .func (.func fid) bs cs] w (.tuple #[]) s' := by
  unfold Cmd.list at hs
  obtain ⟨z, hl, hx⟩ := hs.seq
  obtain ⟨m, hl⟩ := hl.loop
  have hent2 : ∀ w0 : World, Sem.run Tryz.prog (callFunc fid (bs ++ cs)) w0 = .ok (.enter fid (bs ++ cs)) w0 := fun w0 => hA.1 _ _
  clear hs
  go_enter Tryz.func264, Tryz.ntmps264
  go_wp2_with fail
  go_loopg [] m (fun gk wr => ∃ s1, c.At wr s1 ∧ RL n gk (.and (.not (.at [closing])) (.and (.not Cmd.eof) (.not Cmd.atItem))) (.moved cmd Cmd.unexpected (.ite (.not (.at [closing])) (Cmd.expect pComma) .skip)) s1 z)
  case atStart => exact ⟨s, h, hl⟩
  case round =>
    clear h hl
    obtain ⟨s1, h, hl⟩ := hrel
    go_wp2_with fail
    refine (Cx.at1 h closing (by simp)).mono ?_
    rintro e w1 ⟨rfl, h1⟩
    cases ht : atB [closing] s1.rest
    · have HT := Lib.hid ht
      clear ht
      go_wp2_with fail
      refine (Cx.eof h1).mono ?_
      rintro e w2 ⟨rfl, h2⟩
      cases ht2 : (peekT s1.rest).k == 100
      · have HT2 := Lib.hid ht2
        clear ht2
        go_wp2_with fail
        refine (Cx.item h2).mono ?_
        rintro e w3 ⟨rfl, h3⟩
        cases ht3 : Cmd.atItem.eval s1.flag s1.rest
        · obtain ⟨k, u, hk, hc, hl2⟩ := hl.yes (by simp only [Test.eval, Cmd.eof, HT.out, HT2.out, ht3]; rfl)
          obtain ⟨v, hc1, hc2⟩ := hc.moved
          obtain ⟨m1, hm1, c1⟩ := h3.pos
          have HM1 := Lib.hid hm1
          clear ht3 HT HT2 h h1 h2 hl hc hm1
          go_wp2_with fail
          refine (Cx.acts h3 hA hc1).mono ?_
          rintro e w4 ⟨rfl, h4⟩
          obtain ⟨m2, hm2, c2⟩ := h4.pos
          have HM2 := Lib.hid hm2
          clear c1 h3 hm2 hc1
          rcases hc2 with ⟨he, hc2⟩ | ⟨he, hc2⟩
          · have hmm : m2 = m1 := by have := HM1.out; have := HM2.out; omega
            subst hmm
            have HE := Lib.hid he
            clear he
            go_wp2_with fail
            refine (Cx.unexpected h4 hc2).mono ?_
            rintro e w5 ⟨rfl, h5⟩
            clear h4 hc2 c2
            go_wp2_with fail
            go_roundg k
            case rel => exact ⟨u, h5, hl2⟩
            case measure => exact hk
          · have hmm : ((m2 : Int) == (m1 : Int)) = false := beq_eq_false_iff_ne.2 (by have := HM1.out; have := HM2.out; omega)
            have HE := Lib.hid he
            clear he
            go_wp2_with fail
            refine (Cx.at1 h4 closing (by simp)).mono ?_
            rintro e w5 ⟨rfl, h5⟩
            clear h4 c2 hmm
            cases ht4 : atB [closing] v.rest
            · have hc3 := hc2.yes (by simp only [Test.eval, ht4]; rfl)
              clear ht4 hc2
              go_wp2_with fail
              refine (Cx.expect h5 hc3).mono ?_
              rintro e w6 ⟨rfl, h6⟩
              clear h5 hc3
              go_wp2_with fail
              go_roundg k
              case rel => exact ⟨u, h6, hl2⟩
              case measure => exact hk
            · have hc3 := (hc2.no (by simp only [Test.eval, ht4]; rfl)).skip
              have HV := Lib.hid hc3
              clear ht4 hc2 hc3
              go_wp2_with fail
              go_roundg k
              case rel => exact ⟨u, by rw [HV.out]; exact h5, hl2⟩
              case measure => exact hk
        · have hz := hl.no (by simp only [Test.eval, Cmd.eof, HT.out, HT2.out, ht3]; rfl)
          have HZ := Lib.hid hz
          clear ht3 HT HT2 h h1 h2 hl hz
          go_wp2_with fail
          refine (Cx.expect h3 (HZ.out ▸ hx)).mono ?_
          rintro e w4 ⟨rfl, h4⟩
          clear h3
          go_wp2_with fail
          go_end0
          exact ⟨rfl, h4⟩
      · have hz := hl.no (by simp only [Test.eval, Cmd.eof, HT.out, ht2]; rfl)
        have HZ := Lib.hid hz
        clear ht2 HT h h1 hl hz
        go_wp2_with fail
        refine (Cx.expect h2 (HZ.out ▸ hx)).mono ?_
        rintro e w4 ⟨rfl, h4⟩
        clear h2
        go_wp2_with fail
        go_end0
        exact ⟨rfl, h4⟩
    · have hz := hl.no (by simp only [Test.eval, ht]; rfl)
      have HZ := Lib.hid hz
      clear ht h hl hz
      go_wp2_with fail
      refine (Cx.expect h1 (HZ.out ▸ hx)).mono ?_
      rintro e w4 ⟨rfl, h4⟩
      clear h1
      go_wp2_with fail
      go_end0
      exact ⟨rfl, h4⟩
end Go.Proofs.YtpibenilagloaaaGreatDoor
