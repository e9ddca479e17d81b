import Derived.Test.YtpibenilagloaaaGreatDoorMzae
namespace Go.Proofs.YtpibenilagloaaaGreatDoor
open Go.RowKit
set_option linter.unusedVariables false
structure Cx where
  E : WE
  p : Nat
  toks : List Tok
  low : List LowF
  kind : Int
  M0 : MM
  w0 : World
def Cx.At (c : Cx) (w : World) (s : PS) : Prop := Stays c.E ∧ ∃ M, PAt w c.p M c.toks c.low c.kind s ∧ Step c.M0 c.w0 M w ∧ c.E w M
theorem Cx.At.stays {c : Cx} {w : World} {s : PS} (h : c.At w s) : Stays c.E := h.1
theorem Cx.At.below {c : Cx} {w w' : World} {s : PS} (h : c.At w s) (hb : Below w.heap.size w w') : c.At w' s := by
  obtain ⟨hE, M, h1, h2, h3⟩ := h
  exact ⟨hE, M, h1.below hb, h2.trans (Step.of_below hb), hE _ _ _ _ h3 (Step.of_below hb)⟩
theorem Cx.At.next {c : Cx} {w w' : World} {s' : PS} (h : Stays c.E) {M : MM} (h2 : Step c.M0 c.w0 M w) (h3 : c.E w M) (hq : ∃ M', PAt w' c.p M' c.toks c.low c.kind s' ∧ Step M w M' w') : c.At w' s' := by
  obtain ⟨M', k1, k2⟩ := hq
  exact ⟨h, M', k1, h2.trans k2, h _ _ _ _ h3 k2⟩
theorem Cx.At.post {c : Cx} {w : World} {s : PS} (h : c.At w s) {r : Value} : Post c.M0 c.w0 c.p c.toks c.low c.kind s r (.returned r) w := by
  obtain ⟨hE, M, h1, h2, h3⟩ := h
  exact ⟨rfl, M, h1, h2⟩
theorem Cx.At.asc {c : Cx} {w : World} {s : PS} (h : c.At w s) : AscAt w := by
  obtain ⟨hE, M, ⟨g, cap, v, At, ct, hX⟩, h2, h3⟩ := h
  exact hX.asc
theorem PAt.flag {w : World} {p : Nat} {M : MM} {toks : List Tok} {low : List LowF} {kind : Int} {s : PS} (h : PAt w p M toks low kind s) (b : Bool) : PAt w p M toks low kind { s with flag := b } := by
  obtain ⟨g, cap, v, At, ct, hX⟩ := h
  exact ⟨g, cap, v, At, ct, hX.blk, hX.row, hX.kids, hX.lows, hX.tok, hX.apart, hX.mine, hX.rest, hX.bch, hX.blow, hX.btok, hX.asc, hX.ascM, hX.hole⟩
theorem Cx.At.flag {c : Cx} {w : World} {s : PS} (h : c.At w s) (b : Bool) : c.At w { s with flag := b } := by
  obtain ⟨hE, M, h1, h2, h3⟩ := h
  exact ⟨hE, M, h1.flag b, h2, h3⟩
abbrev CallsAt (c : Cx) (f : FuncId) (args : Array Value) (w : World) (r : Value) (s' : PS) : Prop := Calls Tryz.prog f args w fun e w' => e = .returned r ∧ c.At w' s'
def Bx (b : Nat) (v : Value) : WE := fun w M => w.cell? ⟨b, 0, none⟩ = some v ∧ ¬ M b
theorem Bx.stays (b : Nat) (v : Value) : Stays (Bx b v) := fun w M w' M' h hs => by
  have hlt : b < w.heap.size := World.block_lt_of_cell? w _ h.1
  exact ⟨(World.cell?_of_block (w := w) (hs.block b hlt h.2)).trans h.1, fun hm => (hs.own b hm).elim h.2 (fun h2 => by omega)⟩
def And2 (E F : WE) : WE := fun w M => E w M ∧ F w M
theorem And2.stays {E F : WE} (hE : Stays E) (hF : Stays F) : Stays (And2 E F) := fun w M w' M' h hs => ⟨hE _ _ _ _ h.1 hs, hF _ _ _ _ h.2 hs⟩
theorem Cx.At.bx {c : Cx} {w : World} {s : PS} (h : c.At w s) {b : Nat} {v : Value} (hE : ∀ w M, c.E w M → Bx b v w M) : w.cell? ⟨b, 0, none⟩ = some v := by
  obtain ⟨_, M, h1, h2, h3⟩ := h
  exact (hE _ _ h3).1
theorem PAt.cut {w : World} {p : Nat} {M : MM} {toks : List Tok} {low : List LowF} {kind : Int} {s : PS} (h : PAt w p M toks low kind s) : PAt w p ⟨fun b => M b ∧ b < w.heap.size, M.x⟩ toks low kind s := by
  obtain ⟨g, cap, v, At, ct, hX⟩ := h
  have hF : ∀ b, Fix w M b → Fix w ⟨fun b => M b ∧ b < w.heap.size, M.x⟩ b := fun b h => ⟨h.1, fun k => h.2 k.1, h.3⟩
  obtain ⟨m1, m2, m3, m4⟩ := hX.mine
  exact ⟨g, cap, v, At, ct, hX.blk, hX.row, hX.kids.keep hF (fun _ _ => rfl) (fun _ _ => rfl), fun f hf => (hX.lows f hf).keep hF (fun _ _ => rfl) (fun _ _ => rfl), hX.tok.keep hF (fun _ _ => rfl), hX.apart,
    ⟨⟨m1, lt_of_heap hX.blk⟩, ⟨m2, (hX.row.lt g rfl).2⟩, fun b hb => ⟨m3 b hb, hX.kids.lt b hb⟩, fun f hf b hb => ⟨m4 f hf b hb, (hX.lows f hf).lt b hb⟩⟩, hX.rest, hX.bch, hX.blow, hX.btok, hX.asc, fun h => hX.ascM h.1, ⟨hX.hole.1, fun h => hX.hole.2 h.1⟩⟩
theorem Cx.At.start {w : World} {p : Nat} {M : MM} {toks : List Tok} {low : List LowF} {kind : Int} {s : PS} (h : PAt w p M toks low kind s) {v : Value} {t : TypeId} :
    (⟨Bx w.heap.size v, p, toks, low, kind, M, w⟩ : Cx).At (w.alloc (.cells #[v] t)) s := by
  have hb := (Below.refl w.heap.size w).alloc (Nat.le_refl _) (.cells #[v] t)
  refine ⟨Bx.stays _ _, _, h.cut.below hb, ⟨rfl, rfl, rfl, hb.size, fun b hlt _ => hb.block b hlt, fun b hm => .inl hm.1, rfl⟩, ?_, fun hm => by have := hm.2; omega⟩
  rw [Lib.cell_of_heap (heap_alloc_new _ _)]
  rfl
theorem Cx.At.box {c : Cx} {w : World} {s : PS} (h : c.At w s) {v : Value} {t : TypeId} {n : Nat} (hn : n = w.heap.size) : (⟨And2 c.E (Bx n v), c.p, c.toks, c.low, c.kind, c.M0, c.w0⟩ : Cx).At (w.alloc (.cells #[v] t)) s := by
  subst hn
  obtain ⟨hE, M, h1, h2, h3⟩ := h
  have hb := (Below.refl w.heap.size w).alloc (Nat.le_refl _) (.cells #[v] t)
  have hst : Step M w ⟨fun b => M b ∧ b < w.heap.size, M.x⟩ (w.alloc (.cells #[v] t)) := ⟨rfl, rfl, rfl, hb.size, fun b hlt _ => hb.block b hlt, fun b hm => .inl hm.1, rfl⟩
  refine ⟨And2.stays hE (Bx.stays _ _), _, h1.cut.below hb, h2.trans hst, hE _ _ _ _ h3 hst, ?_, fun hm => by have := hm.2; omega⟩
  rw [Lib.cell_of_heap (heap_alloc_new _ _)]
  rfl
theorem Cx.At.bare {w : World} {p : Nat} {M : MM} {toks : List Tok} {low : List LowF} {kind : Int} {s : PS} (h : PAt w p M toks low kind s) : (⟨fun _ _ => True, p, toks, low, kind, M, w⟩ : Cx).At w s :=
  ⟨fun _ _ _ _ _ _ => True.intro, M, h, Step.refl _ _, True.intro⟩
theorem Cx.At.closure {w : World} {p : Nat} {M : MM} {toks : List Tok} {low : List LowF} {kind : Int} {s : PS} {E : WE} (hE : Stays E) (he : E w M) (h : PAt w p M toks low kind s) : (⟨E, p, toks, low, kind, M, w⟩ : Cx).At w s :=
  ⟨hE, M, h, Step.refl _ _, he⟩
theorem Cx.atL {c : Cx} {w : World} {s : PS} (h : c.At w s) {A : Option Addr} {n k : Nat} {ss : List ByteArray} (hA : StrsAt w A ss) (hl : n = ss.length) (hn : n ≤ 1000000) : CallsAt c 130 #[.pointer (some ⟨c.p, 0, none⟩), .slice A n k] w (.bool (atB ss s.rest)) s := by
  have h' := h
  obtain ⟨hE, M, h1, h2, h3⟩ := h
  exact (at_any w c.p M c.toks c.low c.kind s h1 A n k ss hA hl hn).mono fun e w' ⟨k1, k2⟩ => ⟨k1, h'.below k2⟩
theorem Cx.atN {c : Cx} {w : World} {s : PS} (h : c.At w s) (ss : List ByteArray) (hn : ss.length ≤ 1000000) {z : Nat} (hz : z = w.heap.size) : CallsAt c 130 #[.pointer (some ⟨c.p, 0, none⟩), .slice (some ⟨z, 0, none⟩) ss.length ss.length] (w.alloc (.cells (ss.map Value.string).toArray 9)) (.bool (atB ss s.rest)) s :=
  Cx.atL (h.below ((Below.refl _ _).alloc (Nat.le_refl _) _)) (StrsAt.new w ss 9 _ hz) rfl hn
theorem Cx.at1 {c : Cx} {w : World} {s : PS} (h : c.At w s) (t : ByteArray) {z : Nat} (hz : z = w.heap.size) : CallsAt c 130 #[.pointer (some ⟨c.p, 0, none⟩), .slice (some ⟨z, 0, none⟩) 1 1] (w.alloc (.cells #[.string t] 9)) (.bool (atB [t] s.rest)) s := Cx.atN h [t] (by simp) hz
theorem Cx.at2 {c : Cx} {w : World} {s : PS} (h : c.At w s) (t u : ByteArray) {z : Nat} (hz : z = w.heap.size) : CallsAt c 130 #[.pointer (some ⟨c.p, 0, none⟩), .slice (some ⟨z, 0, none⟩) 2 2] (w.alloc (.cells #[.string t, .string u] 9)) (.bool (atB [t, u] s.rest)) s := Cx.atN h [t, u] (by simp) hz
theorem Cx.at3 {c : Cx} {w : World} {s : PS} (h : c.At w s) (t u v : ByteArray) {z : Nat} (hz : z = w.heap.size) : CallsAt c 130 #[.pointer (some ⟨c.p, 0, none⟩), .slice (some ⟨z, 0, none⟩) 3 3] (w.alloc (.cells #[.string t, .string u, .string v] 9)) (.bool (atB [t, u, v] s.rest)) s := Cx.atN h [t, u, v] (by simp) hz
theorem Cx.eof {c : Cx} {w : World} {s : PS} (h : c.At w s) : CallsAt c 84 #[.pointer (some ⟨c.p, 0, none⟩)] w (.bool ((peekT s.rest).k == 100)) s := by
  have h' := h
  obtain ⟨hE, M, h1, h2, h3⟩ := h
  exact (atEOF_any w c.p M c.toks c.low c.kind s h1).mono fun e w' ⟨k1, k2⟩ => ⟨k1, h'.below k2⟩
theorem Cx.ident {c : Cx} {w : World} {s : PS} (h : c.At w s) : CallsAt c 266 #[.pointer (some ⟨c.p, 0, none⟩)] w (.bool ((peekT s.rest).k == 103)) s := by
  have h' := h
  obtain ⟨hE, M, h1, h2, h3⟩ := h
  exact (atIdent_any w c.p M c.toks c.low c.kind s h1).mono fun e w' ⟨k1, k2⟩ => ⟨k1, h'.below k2⟩
theorem Cx.item {c : Cx} {w : World} {s : PS} (h : c.At w s) : CallsAt c 306 #[.pointer (some ⟨c.p, 0, none⟩)] w (.bool (Cmd.atItem.eval s.flag s.rest)) s := by
  have h' := h
  obtain ⟨hE, M, h1, h2, h3⟩ := h
  exact (atItem_any w c.p M c.toks c.low c.kind s h1).mono fun e w' ⟨k1, k2⟩ => ⟨k1, h'.below k2⟩
theorem Cx.peek {c : Cx} {w : World} {s : PS} (h : c.At w s) : CallsAt c 129 #[.pointer (some ⟨c.p, 0, none⟩)] w (peekT s.rest).val s := by
  have h' := h
  obtain ⟨hE, M, h1, h2, h3⟩ := h
  exact (peek_any w c.p M c.toks c.low c.kind s h1).mono fun e w' ⟨k1, k2⟩ => ⟨k1, h'.below k2⟩
theorem Cx.look {c : Cx} {w : World} {s : PS} (h : c.At w s) : Calls Tryz.prog 131 #[.pointer (some ⟨c.p, 0, none⟩)] w fun e w' => ∃ q M' s', e = .returned (.pointer (some ⟨q, 0, none⟩)) ∧ PAt w' q M' c.toks [] 0 s' ∧ s'.rest = after s.rest ∧ c.At w' s := by
  have h' := h
  obtain ⟨hE, M, h1, h2, h3⟩ := h
  exact (lookahead_any w c.p M c.toks c.low c.kind s h1).mono fun e w' ⟨q, M', s', k1, k2, k3, k4⟩ => ⟨q, M', s', k1, k2, k3, h'.below k4⟩
theorem Cx.step {c : Cx} {w w1 : World} {s s' : PS} {f : FuncId} {args : Array Value} {r : Value} (h : c.At w s) (hb : Below w.heap.size w w1) (hc : ∀ M, PAt w1 c.p M c.toks c.low c.kind s → Calls Tryz.prog f args w1 (Post M w1 c.p c.toks c.low c.kind s' r)) : CallsAt c f args w1 r s' := by
  obtain ⟨hE, M, h1, h2, h3⟩ := h.below hb
  exact (hc M h1).mono fun e w' ⟨k1, k2⟩ => ⟨k1, Cx.At.next hE h2 h3 k2⟩
theorem Cx.bump {n : Nat} {c : Cx} {w : World} {s s' : PS} (h : c.At w s) (hs : R n .bump s s') : CallsAt c 137 #[.pointer (some ⟨c.p, 0, none⟩)] w (.tuple #[]) s' :=
  Cx.step h (Below.refl _ _) fun M h1 => bump_any w c.p M c.toks c.low c.kind s s' h1 hs.bump
theorem Cx.accept {n : Nat} {c : Cx} {w : World} {s s' : PS} (h : c.At w s) {t : ByteArray} (hs : R n (Cmd.accept [t]) s s') {z : Nat} (hz : z = w.heap.size) : CallsAt c 136 #[.pointer (some ⟨c.p, 0, none⟩), .slice (some ⟨z, 0, none⟩) 1 1] (w.alloc (.cells #[.string t] 9)) (.bool (atB [t] s.rest)) s' :=
  Cx.step h ((Below.refl _ _).alloc (Nat.le_refl _) _) fun M h1 => accept_any _ c.p M c.toks c.low c.kind s s' h1 _ 1 1 [t] (StrsAt.new w [t] 9 _ hz) rfl (by decide) hs.accept
theorem Cx.expect {n : Nat} {c : Cx} {w : World} {s s' : PS} (h : c.At w s) {t : ByteArray} (hs : R n (Cmd.expect t) s s') : CallsAt c 216 #[.pointer (some ⟨c.p, 0, none⟩), .string t] w (.tuple #[]) s' :=
  Cx.step h (Below.refl _ _) fun M h1 => expect_any w c.p M c.toks c.low c.kind s s' h1 t hs.expect
theorem Cx.expectIdent {n : Nat} {c : Cx} {w : World} {s s' : PS} (h : c.At w s) (hs : R n Cmd.expectIdent s s') : CallsAt c 213 #[.pointer (some ⟨c.p, 0, none⟩)] w (.tuple #[]) s' :=
  Cx.step h (Below.refl _ _) fun M h1 => expectIdent_any w c.p M c.toks c.low c.kind s s' h1 hs.expectIdent
theorem Cx.absent {n : Nat} {c : Cx} {w : World} {s s' : PS} (h : c.At w s) (hs : R n (.leaf 0) s s') : CallsAt c 262 #[.pointer (some ⟨c.p, 0, none⟩)] w (.tuple #[]) s' :=
  Cx.step h (Below.refl _ _) fun M h1 => absent_any w c.p M c.toks c.low c.kind s s' h1 hs.leaf
theorem Cx.missingNode {n : Nat} {c : Cx} {w : World} {s s' : PS} (h : c.At w s) (hs : R n (.leaf 46) s s') : CallsAt c 276 #[.pointer (some ⟨c.p, 0, none⟩)] w (.tuple #[]) s' :=
  Cx.step h (Below.refl _ _) fun M h1 => missingNode_any w c.p M c.toks c.low c.kind s s' h1 hs.leaf
theorem Cx.missingToken {n : Nat} {c : Cx} {w : World} {s s' : PS} (h : c.At w s) (hs : R n (.leaf 108) s s') : CallsAt c 269 #[.pointer (some ⟨c.p, 0, none⟩)] w (.tuple #[]) s' :=
  Cx.step h (Below.refl _ _) fun M h1 => missingToken_any w c.p M c.toks c.low c.kind s s' h1 hs.leaf
theorem Cx.unexpected {n : Nat} {c : Cx} {w : World} {s s' : PS} (h : c.At w s) (hs : R n Cmd.unexpected s s') : CallsAt c 307 #[.pointer (some ⟨c.p, 0, none⟩)] w (.tuple #[]) s' :=
  Cx.step h (Below.refl _ _) fun M h1 => unexpected_any w c.p M c.toks c.low c.kind n s s' h1 hs
def ActsC (n : Nat) (cmd : Cmd) (E : WE) (fid : FuncId) (bs cs : Array Value) (p : Nat) (toks : List Tok) : Prop := Ent fid ∧ Acts (R n cmd) E fid bs cs p toks
theorem ActsC.weak {n : Nat} {cmd : Cmd} {E F : WE} {fid : FuncId} {bs cs : Array Value} {p : Nat} {toks : List Tok} (h : ActsC n cmd E fid bs cs p toks) (hF : ∀ w M, F w M → E w M) : ActsC n cmd F fid bs cs p toks :=
  ⟨h.1, fun w M low kind s s' he => h.2 w M low kind s s' (hF _ _ he)⟩
theorem actsC_bump (n : Nat) (E : WE) (p : Nat) (toks : List Tok) : ActsC n .bump E 137 #[.pointer (some ⟨p, 0, none⟩)] #[] p toks :=
  ⟨ent_bump, fun w M low kind s s' _ h hr => bump_any w p M toks low kind s s' h hr.bump⟩
theorem Cx.node {n : Nat} {c : Cx} {w : World} {s s' : PS} (h : c.At w s) {k : Int} {cmd : Cmd} (hs : R n (.node k cmd) s s') {fid : FuncId} {bs cs : Array Value} (hA : ActsC n cmd c.E fid bs cs c.p c.toks) :
    CallsAt c 134 #[.pointer (some ⟨c.p, 0, none⟩), .int .i64 k, .func (.func fid) bs cs] w (.tuple #[]) s' := by
  obtain ⟨hE, M, h1, h2, h3⟩ := h
  obtain ⟨hg, u, hu, rfl⟩ := hs.node
  exact (node_any w c.p M c.toks c.low c.kind s u h1 k (R n cmd) c.E hE fid bs cs hA.1 hA.2 h3 hg hu (hu.gas (by show 0 < s.gas - 1; omega))).mono fun e w' ⟨k1, k2⟩ => ⟨k1, Cx.At.next hE h2 h3 k2⟩
theorem Cx.optional {n : Nat} {c : Cx} {w : World} {s s' : PS} (h : c.At w s) {t : ByteArray} {cmd : Cmd} (hs : R n (Cmd.optional t cmd) s s') {fid : FuncId} {bs cs : Array Value} (hA : ActsC n cmd c.E fid bs cs c.p c.toks) :
    CallsAt c 261 #[.pointer (some ⟨c.p, 0, none⟩), .string t, .func (.func fid) bs cs] w (.tuple #[]) s' := by
  obtain ⟨hE, M, h1, h2, h3⟩ := h
  exact (optional_any w c.p M c.toks c.low c.kind s s' h1 t (R n cmd) c.E hE fid bs cs hA.1 hA.2 h3 hs.optional.1 hs.optional.2).mono fun e w' ⟨k1, k2⟩ => ⟨k1, Cx.At.next hE h2 h3 k2⟩

theorem Cx.At.pos {c : Cx} {w : World} {s : PS} (h : c.At w s) : ∃ m : Nat, m + s.rest.length = c.toks.length ∧ w.cell? ⟨c.p, 1, none⟩ = some (.int .i64 (m : Int)) := by
  obtain ⟨hE, M, ⟨g, cap, v, At, ct, hX⟩, h2, h3⟩ := h
  have hle := hX.rest.length_le
  exact ⟨c.toks.length - s.rest.length, by omega, hX.cells.2.1⟩
theorem Cx.acts {n : Nat} {c : Cx} {w : World} {s s' : PS} (h : c.At w s) {cmd : Cmd} {fid : FuncId} {bs cs : Array Value} (hA : ActsC n cmd c.E fid bs cs c.p c.toks) (hs : R n cmd s s') : CallsAt c fid (bs ++ cs) w (.tuple #[]) s' := by
  obtain ⟨hE, M, h1, h2, h3⟩ := h
  exact (hA.2 w M c.low c.kind s s' h3 h1 hs).mono fun e w' ⟨k1, k2⟩ => ⟨k1, Cx.At.next hE h2 h3 k2⟩
set_option maxRecDepth 100000 in
set_option maxHeartbeats 1600000 in
theorem Cx.list {n : Nat} {c : Cx} {w : World} {s s' : PS} (h : c.At w s) {closing : ByteArray} {cmd : Cmd} (hs : R n (Cmd.list closing cmd) s s') {fid : FuncId} {bs cs : Array Value} (hA : ActsC n cmd c.E fid bs cs c.p c.toks) :
    CallsAt c 264 #[.pointer (some ⟨c.p, 0, none⟩), .string closing, .func (.func fid) bs cs] w (.tuple #[]) s' := by
  unfold Cmd.list at hs
  obtain ⟨z, hl, hx⟩ := hs.seq
  obtain ⟨m, hl⟩ := hl.loop
  have hent2 : ∀ w0 : World, Sem.run Tryz.prog (callFunc fid (bs ++ cs)) w0 = .ok (.enter fid (bs ++ cs)) w0 := fun w0 => hA.1 _ _
  clear hs
  go_enter Tryz.func264, Tryz.ntmps264
  go_wp2_with fail
  go_loopg [] m (fun gk wr => ∃ s1, c.At wr s1 ∧ RL n gk (.and (.not (.at [closing])) (.and (.not Cmd.eof) (.not Cmd.atItem))) (.moved cmd Cmd.unexpected (.ite (.not (.at [closing])) (Cmd.expect pComma) .skip)) s1 z)
  case atStart => exact ⟨s, h, hl⟩
  case round =>
    clear h hl
    obtain ⟨s1, h, hl⟩ := hrel
    go_wp2_with fail
    refine (Cx.at1 h closing (by simp)).mono ?_
    rintro e w1 ⟨rfl, h1⟩
    cases ht : atB [closing] s1.rest
    · have HT := Lib.hid ht
      clear ht
      go_wp2_with fail
      refine (Cx.eof h1).mono ?_
      rintro e w2 ⟨rfl, h2⟩
      cases ht2 : (peekT s1.rest).k == 100
      · have HT2 := Lib.hid ht2
        clear ht2
        go_wp2_with fail
        refine (Cx.item h2).mono ?_
        rintro e w3 ⟨rfl, h3⟩
        cases ht3 : Cmd.atItem.eval s1.flag s1.rest
        · obtain ⟨k, u, hk, hc, hl2⟩ := hl.yes (by simp only [Test.eval, Cmd.eof, HT.out, HT2.out, ht3]; rfl)
          obtain ⟨v, hc1, hc2⟩ := hc.moved
          obtain ⟨m1, hm1, c1⟩ := h3.pos
          have HM1 := Lib.hid hm1
          clear ht3 HT HT2 h h1 h2 hl hc hm1
          go_wp2_with fail
          refine (Cx.acts h3 hA hc1).mono ?_
          rintro e w4 ⟨rfl, h4⟩
          obtain ⟨m2, hm2, c2⟩ := h4.pos
          have HM2 := Lib.hid hm2
          clear c1 h3 hm2 hc1
          rcases hc2 with ⟨he, hc2⟩ | ⟨he, hc2⟩
          · have hmm : m2 = m1 := by have := HM1.out; have := HM2.out; omega
            subst hmm
            have HE := Lib.hid he
            clear he
            go_wp2_with fail
            refine (Cx.unexpected h4 hc2).mono ?_
            rintro e w5 ⟨rfl, h5⟩
            clear h4 hc2 c2
            go_wp2_with fail
            go_roundg k
            case rel => exact ⟨u, h5, hl2⟩
            case measure => exact hk
          · have hmm : ((m2 : Int) == (m1 : Int)) = false := beq_eq_false_iff_ne.2 (by have := HM1.out; have := HM2.out; omega)
            have HE := Lib.hid he
            clear he
            go_wp2_with fail
            refine (Cx.at1 h4 closing (by simp)).mono ?_
            rintro e w5 ⟨rfl, h5⟩
            clear h4 c2 hmm
            cases ht4 : atB [closing] v.rest
            · have hc3 := hc2.yes (by simp only [Test.eval, ht4]; rfl)
              clear ht4 hc2
              go_wp2_with fail
              refine (Cx.expect h5 hc3).mono ?_
              rintro e w6 ⟨rfl, h6⟩
              clear h5 hc3
              go_wp2_with fail
              go_roundg k
              case rel => exact ⟨u, h6, hl2⟩
              case measure => exact hk
            · have hc3 := (hc2.no (by simp only [Test.eval, ht4]; rfl)).skip
              have HV := Lib.hid hc3
              clear ht4 hc2 hc3
              go_wp2_with fail
              go_roundg k
              case rel => exact ⟨u, by rw [HV.out]; exact h5, hl2⟩
              case measure => exact hk
        · have hz := hl.no (by simp only [Test.eval, Cmd.eof, HT.out, HT2.out, ht3]; rfl)
          have HZ := Lib.hid hz
          clear ht3 HT HT2 h h1 h2 hl hz
          go_wp2_with fail
          refine (Cx.expect h3 (HZ.out ▸ hx)).mono ?_
          rintro e w4 ⟨rfl, h4⟩
          clear h3
          go_wp2_with fail
          go_end0
          exact ⟨rfl, h4⟩
      · have hz := hl.no (by simp only [Test.eval, Cmd.eof, HT.out, ht2]; rfl)
        have HZ := Lib.hid hz
        clear ht2 HT h h1 hl hz
        go_wp2_with fail
        refine (Cx.expect h2 (HZ.out ▸ hx)).mono ?_
        rintro e w4 ⟨rfl, h4⟩
        clear h2
        go_wp2_with fail
        go_end0
        exact ⟨rfl, h4⟩
    · have hz := hl.no (by simp only [Test.eval, ht]; rfl)
      have HZ := Lib.hid hz
      clear ht h hl hz
      go_wp2_with fail
      refine (Cx.expect h1 (HZ.out ▸ hx)).mono ?_
      rintro e w4 ⟨rfl, h4⟩
      clear h1
      go_wp2_with fail
      go_end0
      exact ⟨rfl, h4⟩

theorem append_last {α : Type} {l : List α} {x : α} (h : l.getLast? = some x) : l = l.dropLast ++ [x] := by
  cases l with
  | nil => cases h
  | cons a r =>
    rw [List.getLast?_eq_some_getLast (by simp)] at h
    injection h with h
    rw [← h]
    exact (List.dropLast_concat_getLast (by simp)).symm
theorem last_child {w : World} {F : Nat → Prop} {v : Value} {ch : List Tree} {x : Tree} (h : KidsAt w F v (ch ++ [x])) : ∃ b c v0 v1 v2, v = .slice (some ⟨b, 0, none⟩) (ch.length + 1) c ∧ ch.length + 1 ≤ c ∧ v.ownBlock = some b ∧ b < w.heap.size ∧
    w.cell? ⟨b, ch.length * 3, none⟩ = some v0 ∧ w.cell? ⟨b, ch.length * 3 + 1, none⟩ = some v1 ∧ w.cell? ⟨b, ch.length * 3 + 2, none⟩ = some v2 ∧ TreeV w F x v0 v1 v2 ∧ KidsAt w F (.slice (some ⟨b, 0, none⟩) ch.length c) ch := by
  obtain ⟨xs, hown, hrow⟩ := h
  obtain ⟨us, v0, v1, v2, rfl, hr, ht⟩ := RowV.last _ _ _ hrow
  have hl := hr.length
  rw [List.length_append, List.length_singleton] at hown
  rcases hown.2 with ⟨_, h0⟩ | ⟨b, c, cur, rfl, hb, hh, hnc, hcm, hcs, htake⟩
  · omega
  · have e := fun j (hj : j < 3) => hown.cellAt (ch.length * 3 + j) (by omega)
    refine ⟨b, c, v0, v1, v2, rfl, hnc, rfl, lt_of_heap hh, ?_, ?_, ?_, ht, us, ?_, hr⟩
    · have := e 0 (by omega)
      rw [Nat.add_zero] at this
      rw [this, List.getElem?_append_right (by omega), hl, Nat.sub_self]; rfl
    · rw [e 1 (by omega), List.getElem?_append_right (by omega), hl, Nat.add_sub_cancel_left]; rfl
    · rw [e 2 (by omega), List.getElem?_append_right (by omega), hl, Nat.add_sub_cancel_left]; rfl
    · have := own_truncate hown (m := ch.length) (by omega)
      rw [← hl, List.take_left] at this
      exact this
theorem PAtX.plus {w w' : World} {p : Nat} {M : MM} {toks : List Tok} {low : List LowF} {kind : Int} {s : PS} {g cap : Nat} {v : Value} {At : Option Addr} {ct : Nat} (h : PAtX w p M toks low kind s g cap v At ct) (hb : Below w.heap.size w w') (n : Nat) (hn : w.heap.size ≤ n) :
    PAtX w' p (Plus M n) toks low kind s g cap v At ct ∧ Step M w (Plus M n) w' ∧ (∀ b, Fix w M b → Fix w' (Plus M n) b) ∧ ∀ b, Fix w M b → w'.heap[b]? = w.heap[b]? := by
  have hF : ∀ b, Fix w M b → Fix w' (Plus M n) b := fun b h => ⟨Nat.lt_of_lt_of_le h.1 hb.size, fun hp => hp.elim h.2 (fun e => by have := h.1; omega), h.3⟩
  have hw : ∀ b, Fix w M b → w'.heap[b]? = w.heap[b]? := fun b h => hb.block b h.1
  obtain ⟨m1, m2, m3, m4⟩ := h.mine
  exact ⟨{ h with
    blk := (hb.block _ (lt_of_heap h.blk)).trans h.blk
    row := ownsRow_below h.row fun k hk => hb.block k (h.row.lt k hk).2
    kids := h.kids.keep hF hw fun k hk => hb.block k (h.kids.lt k hk)
    lows := fun f hf => (h.lows f hf).keep hF hw fun k hk => hb.block k ((h.lows f hf).lt k hk)
    tok := h.tok.keep hF hw
    asc := h.asc.below hb
    ascM := fun hp => hp.elim h.ascM (fun e => by have := h.asc.lt; omega)
    hole := ⟨Nat.lt_of_lt_of_le h.hole.1 hb.size, fun hp => hp.elim h.hole.2 (fun e => by have := h.hole.1; have e2 : M.x = n := e; omega)⟩
    mine := ⟨.inl m1, .inl m2, fun b hb => .inl (m3 b hb), fun f hf b hb => .inl (m4 f hf b hb)⟩ }, ⟨hb.os, hb.tape, hb.output, hb.size, fun b hlt _ => hb.block b hlt, fun b hp => hp.elim .inl (fun e => .inr (by omega)), rfl⟩, hF, hw⟩
set_option maxRecDepth 100000 in
set_option maxHeartbeats 6000000 in
theorem wrap_any (w : World) (p : Nat) (M : MM) (toks : List Tok) (low : List LowF) (kind : Int) (s u : PS) (h : PAt w p M toks low kind s) (k : Int) (Rel : PS → PS → Prop) (E : WE) (hE : Stays E) (fid : FuncId) (bs cs : Array Value)
    (hent : Ent fid) (hA : Acts Rel E fid bs cs p toks) (he : E w M) (x : Tree) (hx : s.ch.getLast? = some x) (hgas : 1 < s.gas) (hrun : Rel { s with ch := [x], gas := s.gas - 1 } u) (hgu : u.gas ≤ s.gas - 1 ∧ 0 < u.gas) :
    Calls Tryz.prog 314 #[.pointer (some ⟨p, 0, none⟩), .int .i64 k, .func (.func fid) bs cs] w (Post M w p toks low kind { u with ch := s.ch.dropLast ++ [.mk k .empty u.ch] } (.tuple #[])) := by
  obtain ⟨g, cap, v, At, ct, hX⟩ := h
  obtain ⟨pre, hpre⟩ : ∃ pre, s.ch.dropLast = pre := ⟨_, rfl⟩
  have hch := append_last hx
  rw [hpre] at hch ⊢
  have hk := hX.kids
  rw [hch] at hk
  obtain ⟨b, c, v0, v1, v2, rfl, hnc, hvb, hblt, e0, e1, e2, hT, hK⟩ := last_child hk
  obtain ⟨xk, xt, xch⟩ := x
  obtain ⟨A2, m2, cc, rfl, rfl, rfl⟩ : ∃ A2 m2 cc, v0 = .int .i64 xk ∧ v1 = .string xt ∧ v2 = .slice A2 m2 cc := by
    unfold TreeV at hT
    obtain ⟨h0, h1, A, c, h2, _⟩ := hT
    exact ⟨A, _, c, h0, h1, h2⟩
  obtain ⟨c0, c1, c2⟩ := hX.cells
  obtain ⟨d0, d1, d2⟩ := hX.top
  have hplt := lt_of_heap hX.blk
  have hglt := (hX.row.lt g rfl).2
  have hfz := hX.thaw 2
  have f2 := hX.row.frozenAt (low.length * 3 + 2)
  have hbl := hX.blow
  have hbc := hX.bch
  rw [hch, List.length_append, List.length_singleton] at hbc
  have HX := Lib.hid hX
  have HT := Lib.hid hT
  have HK := Lib.hid hK
  have HCH := Lib.hid hch
  have HPRE := Lib.hid hpre
  have HA := Lib.hid hA
  have HE := Lib.hid hE
  have HRUN := Lib.hid hrun
  clear hX hk hT hK hch hx hpre hA hE hrun
  generalize hn : pre.length = n at *
  have HN := Lib.hid hn
  clear hn
  have hnI : (0 : Int) ≤ n := by omega
  have hnI1 : (n : Int) < (n : Int) + 1 := by omega
  have hnI2 : (n : Int) < ((n + 1 : Nat) : Int) := by omega
  have hnI3 : (n : Int) ≤ (c : Int) := by omega
  have hLI : (0 : Int) ≤ low.length := by omega
  have hLI2 : (low.length : Int) < (low.length : Int) + 1 := by omega
  have hLI3 : (low.length : Int) < ((low.length + 1 : Nat) : Int) := by omega
  have hown2 := HX.out.row
  obtain ⟨X0, T0⟩ := HX.out.retop (wf := ((w.setCell ⟨g, low.length * 3 + 2, none⟩ (.slice (some ⟨b, 0, none⟩) n c)).alloc (.cells #[.int .i64 xk, .string xt, .slice A2 m2 cc] 121)).drew) (.slice (some ⟨b, 0, none⟩) n c) { s with ch := pre } rfl rfl rfl (by simp)
    (fun b' hlt hbg hbv => by
      show ((w.setCell _ _).alloc _).heap[b']? = _
      rw [heap_alloc_lt _ _ (by simpa using hlt), Below.heap_setCell _ _ _ _ hbg])
    (.inr (.inl rfl))
    (by
      have h1 := (hown2.stored (low.length * 3 + 2) (.slice (some ⟨b, 0, none⟩) n c)).1
      rw [← lowCells_length low, List.set_append_right _ _ (by omega), Nat.add_sub_cancel_left, lowCells_length low] at h1
      exact (h1.alloc _).drew)
    (fun hfix hsame => by
      have hbg : b ≠ g := fun e => HX.out.apart.2.2.1 (by rw [hvb, e])
      have := HK.out.keep hfix hsame (w' := ((w.setCell ⟨g, low.length * 3 + 2, none⟩ (.slice (some ⟨b, 0, none⟩) n c)).alloc (.cells #[.int .i64 xk, .string xt, .slice A2 m2 cc] 121)).drew) (fun k hk => by
        simp only [Value.ownBlock, Option.some.injEq] at hk
        subst hk
        show ((w.setCell _ _).alloc _).heap[b]? = _
        rw [heap_alloc_lt _ _ (by simpa using hblt), Below.heap_setCell _ _ _ _ hbg])
      exact this)
    rfl (by show pre.length + s.gas ≤ 1000000; rw [HN.out]; omega) hbl
  have T1 := TreeV.keep (fun b h => T0.fix b h) (fun b h => T0.same b h) _ _ _ _ HT.out
  obtain ⟨W0, hW0⟩ : ∃ W0, ((w.setCell ⟨g, low.length * 3 + 2, none⟩ (.slice (some ⟨b, 0, none⟩) n c)).alloc (.cells #[.int .i64 xk, .string xt, .slice A2 m2 cc] 121)).drew = W0 := ⟨_, rfl⟩
  have HZ := Lib.hid (show W0.heap.size = w.heap.size + 1 by rw [← hW0]; simp)
  have hbox : W0.heap[w.heap.size]? = some (.cells #[.int .i64 xk, .string xt, .slice A2 m2 cc] 121 (0, 0)) := by
    rw [← hW0]
    have := heap_alloc_new (w.setCell ⟨g, low.length * 3 + 2, none⟩ (.slice (some ⟨b, 0, none⟩) n c)) (.cells #[.int .i64 xk, .string xt, .slice A2 m2 cc] 121)
    rw [World.size_setCell] at this
    exact this
  rw [hW0] at X0 T0 T1
  have HX0 := Lib.hid X0
  have HT0 := Lib.hid T0
  have HT1 := Lib.hid T1
  obtain ⟨_, _, c2'⟩ := X0.cells
  have hfz' := X0.thaw 2
  have hplt' := lt_of_heap X0.blk
  have b0 : W0.cell? ⟨w.heap.size, 0, none⟩ = some (.int .i64 xk) := by rw [Lib.cell_of_heap hbox]; rfl
  have b1 : W0.cell? ⟨w.heap.size, 1, none⟩ = some (.string xt) := by rw [Lib.cell_of_heap hbox]; rfl
  have b2 : W0.cell? ⟨w.heap.size, 2, none⟩ = some (.slice A2 m2 cc) := by rw [Lib.cell_of_heap hbox]; rfl
  have hblt0 := lt_of_heap hbox
  clear X0 T0 T1 hown2 hbox hplt'
  go_enter Tryz.func314, Tryz.ntmps314
  go_wp2_with fail
  go_region
  go_wp2_with fail
  clear hW0 d0 d1 d2 e0 e1 e2 c0 c1 c2 hfz f2 hplt hglt hblt
  obtain ⟨i0, hi0, hz0, hz1, hz2⟩ := info_parts info_tree
  have hX0 := HX0.out
  have hap := hX0.apart.1
  have hplt := lt_of_heap hX0.blk
  have hown2 := hX0.row
  have hxl : (low.flatMap LowF.cells ++ [Value.int .i64 kind, .string .empty, .slice (some ⟨b, 0, none⟩) n c]).length = (low.length + 1) * 3 := by rw [List.length_append, lowCells_length]; simp; omega
  have hb1 : low.length + 1 + 1 ≤ maxLen := by unfold maxLen; omega
  have hb2 : (low.length + 1 + 1) * 48 ≤ 140737488355328 := by omega
  have hownA := Lib.hid (((hown2.alloc (.cells #[.int .i64 xk, .string xt, .slice A2 m2 cc] 121)).alloc (.cells #[.int .i64 0, .string ⟨#[]⟩, .slice none 0 0] 121)).drew)
  have hownB := Lib.hid (((hown2.alloc (.cells #[.int .i64 0, .string ⟨#[]⟩, .slice none 0 0] 121)).alloc (.cells #[.int .i64 xk, .string xt, .slice A2 m2 cc] 121)).drew)
  have HK2 : Hid (∀ (Wa w2 : World) (f gg cap' : Nat), Below W0.heap.size W0 Wa → Wa.heap[f]? = some (.cells #[.int .i64 xk, .string xt, .slice A2 m2 cc] 121 (0, 0)) → W0.heap.size ≤ f → Wa.grownBy w2 (Value.slice (some ⟨g, 0, none⟩) (low.length + 1) cap).ownBlock →
      w2.ownsRow 0 121 3 (.slice (some ⟨gg, 0, none⟩) (low.length + 1 + 1) cap') (low.length + 1 + 1) (low.flatMap LowF.cells ++ [.int .i64 kind, .string .empty, .slice (some ⟨b, 0, none⟩) n c] ++ [.int .i64 0, .string ⟨#[]⟩, .slice none 0 0]) → ((Value.slice (some ⟨g, 0, none⟩) (low.length + 1) cap).ownBlock = some gg ∨ gg = Wa.heap.size) →
      ((w2.cell? ⟨p, 2, none⟩ = some (.slice (some ⟨g, 0, none⟩) (low.length + 1) cap) ∧ w2.frozen? ⟨p, 2, none⟩ = false ∧ p < w2.heap.size) ∧
      (w2.cell? ⟨gg, (low.length + 1) * 3, none⟩ = some (.int .i64 0) ∧ w2.cell? ⟨gg, (low.length + 1) * 3 + 1, none⟩ = some (.string ⟨#[]⟩) ∧ w2.cell? ⟨gg, (low.length + 1) * 3 + 2, none⟩ = some (.slice none 0 0)) ∧
      (w2.frozen? ⟨gg, (low.length + 1) * 3, none⟩ = false ∧ w2.frozen? ⟨gg, (low.length + 1) * 3 + 1, none⟩ = false ∧ w2.frozen? ⟨gg, (low.length + 1) * 3 + 2, none⟩ = false) ∧ gg ≠ p ∧ gg < w2.heap.size) ∧
      ∃ w3 Mf, ((((w2.setCell ⟨gg, (low.length + 1) * 3, none⟩ (.int .i64 k)).setCell ⟨gg, (low.length + 1) * 3 + 1, none⟩ (.string ⟨#[]⟩)).setCell ⟨gg, (low.length + 1) * 3 + 2, none⟩ (.slice (some ⟨f, 0, none⟩) 1 1)).setCell ⟨p, 2, none⟩ (.slice (some ⟨gg, 0, none⟩) (low.length + 1 + 1) cap')) = w3 ∧ Hid (PAt w3 p Mf toks (low ++ [⟨kind, .slice (some ⟨b, 0, none⟩) n c, pre⟩]) k { s with ch := [.mk xk xt xch], gas := s.gas - 1 } ∧ Step M w Mf w3)) := by
    refine Lib.hid ?_
    intro Wa w2 f gg cap' hbel hf hflt hg ho hat
    obtain ⟨XP, TP, FP, SP⟩ := HX0.out.plus hbel f hflt
    have hB := hg.size
    have hpa := lt_of_heap XP.blk
    have hne : some p ≠ some g := fun e => hap (by injection e)
    have k1 := fun j => (hg.cell_far ⟨p, j, none⟩ hpa hne)
    have k2 := fun j => (hg.frozen_far ⟨p, j, none⟩ hpa hne)
    have k4 := fun j (hj : j < 3) => ho.cellAt ((low.length + 1) * 3 + j) (by omega)
    have hat2 : gg = g ∨ Wa.heap.size ≤ gg := by
      rcases hat with h | h
      · exact .inl (by simp only [Value.ownBlock, Option.some.injEq] at h; exact h.symm)
      · exact .inr (by omega)
    have hfa := lt_of_heap hf
    have hgW := (HX0.out.row.lt g rfl).2
    have hpW := lt_of_heap HX0.out.blk
    have hfg : f ≠ gg := by
      rcases hat2 with h | h
      · omega
      · omega
    have hf2 : w2.heap[f]? = some (.cells #[.int .i64 xk, .string xt, .slice A2 m2 cc] 121 (0, 0)) := (hg.block f hfa (fun e => by simp only [Value.ownBlock, Option.some.injEq] at e; omega)).trans hf
    refine ⟨⟨⟨(k1 _).trans XP.cells.2.2, (k2 _).trans (XP.thaw 2), by omega⟩, ⟨?_, ?_, ?_⟩, ⟨ho.frozenAt _, ho.frozenAt _, ho.frozenAt _⟩, ?_, (ho.lt gg rfl).2⟩, ?_⟩
    · have := k4 0 (by omega); rw [Nat.add_zero] at this; rw [this, List.getElem?_append_right (by omega)]; simp [hxl]
    · rw [k4 1 (by omega), List.getElem?_append_right (by omega), hxl, Nat.add_sub_cancel_left]; rfl
    · rw [k4 2 (by omega), List.getElem?_append_right (by omega), hxl, Nat.add_sub_cancel_left]; rfl
    · rcases hat2 with h | h
      · rw [h]; exact fun e => hap e.symm
      · omega
    · obtain ⟨P1, P2⟩ := XP.push k s.flag hgas hg ho hat2 (v' := .slice (some ⟨f, 0, none⟩) 1 1) (xs := [.int .i64 xk, .string xt, .slice A2 m2 cc]) (ch' := [.mk xk xt xch])
        (.inr ⟨f, rfl, by omega, by omega, by omega, hfg, .inr rfl, fun l hl e => by have := (HX0.out.lows l hl).lt f e; omega, fun e => by have := HX0.out.kids.lt f e; omega⟩)
        ⟨rfl, .inr ⟨f, 1, _, rfl, Nat.zero_le _, hf2, Nat.le_refl _, by decide, rfl, rfl⟩⟩
        (fun hfx => by
          unfold RowV
          refine ⟨TreeV.keep (w' := w2) (fun b hb => hfx b (FP b hb)) (fun b hb => ?_) _ _ _ _ HT1.out, by unfold RowV; trivial⟩
          exact (hg.block b (FP b hb).1 (fun e => by simp only [Value.ownBlock, Option.some.injEq] at e; exact hb.2 (e ▸ HX0.out.mine.2.1))).trans (SP b hb)) (by simp)
      exact ⟨_, _, rfl, Lib.hid ⟨⟨_, _, _, _, _, P1⟩, (HT0.out.trans TP).trans P2⟩⟩
  clear hX0
  have hin : ∀ u ∈ [Value.int .i64 0, .string ⟨#[]⟩, .slice none 0 0], u.oneCell' = true := by simp [Value.oneCell']
  obtain ⟨xs, hxs⟩ : ∃ xs, low.flatMap LowF.cells ++ [Value.int .i64 kind, .string .empty, .slice (some ⟨b, 0, none⟩) n c] = xs := ⟨_, rfl⟩
  rw [hxs] at hown2 hownA hownB HK2
  clear hxs hxl
  have hnJ : (0 : Int) ≤ low.length := by omega
  have hnJ2 : ((low.length : Int) + 1) < (low.length : Int) + 1 + 1 := by omega
  have hnJ3 : ((low.length + 1 : Nat) : Int) < ((low.length + 1 + 1 : Nat) : Int) := by omega
  have hnJ4 : (0 : Int) ≤ (low.length : Int) + 1 := by omega
  have HBA := Lib.hid (show Below W0.heap.size W0 ((W0.alloc (.cells #[.int .i64 xk, .string xt, .slice A2 m2 cc] 121)).alloc (.cells #[.int .i64 0, .string ⟨#[]⟩, .slice none 0 0] 121)).drew from (((Below.refl _ _).alloc (Nat.le_refl _) _).alloc (by simp) _).drew)
  have HBB := Lib.hid (show Below W0.heap.size W0 ((W0.alloc (.cells #[.int .i64 0, .string ⟨#[]⟩, .slice none 0 0] 121)).alloc (.cells #[.int .i64 xk, .string xt, .slice A2 m2 cc] 121)).drew from (((Below.refl _ _).alloc (Nat.le_refl _) _).alloc (by simp) _).drew)
  have NSA := Lib.hid (show ((W0.alloc (.cells #[.int .i64 xk, .string xt, .slice A2 m2 cc] 121)).alloc (.cells #[.int .i64 0, .string ⟨#[]⟩, .slice none 0 0] 121)).drew.heap[W0.heap.size + 1]? = some (.cells #[.int .i64 0, .string ⟨#[]⟩, .slice none 0 0] 121 (0, 0)) by
    have := heap_alloc_new (W0.alloc (.cells #[.int .i64 xk, .string xt, .slice A2 m2 cc] 121)) (.cells #[.int .i64 0, .string ⟨#[]⟩, .slice none 0 0] 121)
    simp only [World.size_alloc] at this
    exact this)
  have NSB := Lib.hid (show ((W0.alloc (.cells #[.int .i64 0, .string ⟨#[]⟩, .slice none 0 0] 121)).alloc (.cells #[.int .i64 xk, .string xt, .slice A2 m2 cc] 121)).drew.heap[W0.heap.size + 1]? = some (.cells #[.int .i64 xk, .string xt, .slice A2 m2 cc] 121 (0, 0)) by
    have := heap_alloc_new (W0.alloc (.cells #[.int .i64 0, .string ⟨#[]⟩, .slice none 0 0] 121)) (.cells #[.int .i64 xk, .string xt, .slice A2 m2 cc] 121)
    simp only [World.size_alloc] at this
    exact this)
  go_region_law
    (first
     | ((refine step_append_lies _ (by rfl) (.tmp 45) (.tmp 51) _ (by rfl) 0 121 i0 _ 3 48 Tryz.underlying119 hi0 hz0 hz1 hz2 rfl (by decide) (.slice (some ⟨g, 0, none⟩) (low.length + 1) cap) (low.length + 1) xs (by rfl) hownB.out ⟨W0.heap.size, 0, none⟩ 1 1 [.int .i64 0, .string ⟨#[]⟩, .slice none 0 0] (by rfl) (by rfl) (World.news_of_block (cs := #[_, _, _]) (t := 121) (fr := (0, 0)) ((heap_alloc_lt _ _ (by simp)).trans (heap_alloc_new _ _))) hin (by decide) hb1 hb2 (by simp) (W0.heap.size + 2) (by simp) ?_; intro gg cap' w2 hown1 hgrow hat hlt; obtain ⟨⟨⟨k1, k2, k3⟩, ⟨k7, k8, k9⟩, ⟨k10, k11, k12⟩, k13, k15⟩, w3, Mf, hw3, HPF⟩ := HK2.out _ _ (W0.heap.size + 1) _ _ HBB.out NSB.out (by omega) hgrow hown1 (hat.imp_right (fun e => by simpa using e))))
     | (go_must (refine step_append_lies _ (by rfl) (.tmp 45) (.tmp 51) _ (by rfl) 0 121 i0 _ 3 48 Tryz.underlying119 hi0 hz0 hz1 hz2 rfl (by decide) (.slice (some ⟨g, 0, none⟩) (low.length + 1) cap) (low.length + 1) xs (by rfl) hownA.out ⟨W0.heap.size + 1, 0, none⟩ 1 1 [.int .i64 0, .string ⟨#[]⟩, .slice none 0 0] (by rfl) (by rfl) (World.news_of_block (cs := #[_, _, _]) (t := 121) (fr := (0, 0)) NSA.out) hin (by decide) hb1 hb2 (by simp) (W0.heap.size + 2) (by simp) ?_; intro gg cap' w2 hown1 hgrow hat hlt; obtain ⟨⟨⟨k1, k2, k3⟩, ⟨k7, k8, k9⟩, ⟨k10, k11, k12⟩, k13, k15⟩, w3, Mf, hw3, HPF⟩ := HK2.out _ _ W0.heap.size _ _ HBA.out ((heap_alloc_lt _ _ (by simp)).trans (heap_alloc_new _ _)) (Nat.le_refl _) hgrow hown1 (hat.imp_right (fun e => by simpa using e)))))
  all_goals
    try rw [set_comm _ (a := ⟨p, 2, none⟩) (b := ⟨gg, (low.length + 1) * 3, none⟩) (fun e => k13 e.symm), set_comm _ (a := ⟨p, 2, none⟩) (b := ⟨gg, (low.length + 1) * 3 + 1, none⟩) (fun e => k13 e.symm), set_comm _ (a := ⟨p, 2, none⟩) (b := ⟨gg, (low.length + 1) * 3 + 2, none⟩) (fun e => k13 e.symm)]
    try rw [hw3]
    have hcall := Lib.hid (HA.out w3 _ _ _ _ u (HE.out _ _ _ _ he HPF.out.2) HPF.out.1 HRUN.out)
    clear hw3 hown1 hgrow hat k1 k2 k3 k7 k8 k9 k10 k11 k12 hownA hownB hown2 c2' hfz' b0 b1 b2 hz0 hz1 hz2 hi0 HBA HBB NSA NSB
    have hent2 : ∀ w0 : World, Sem.run Tryz.prog (callFunc fid (bs ++ cs)) w0 = .ok (.enter fid (bs ++ cs)) w0 := fun w0 => hent _ _
    go_wp2_with fail
    refine hcall.out.mono ?_
    rintro e w4 ⟨rfl, M4, hp4, hst4⟩
    have hfin := Lib.hid (finish_any w4 p M4 toks low ⟨kind, .slice (some ⟨b, 0, none⟩) n c, pre⟩ k u hp4 u.flag hgu.2 (by show pre.length + (u.gas + 1) ≤ 1000000; rw [HN.out]; omega) (by omega))
    have HST := Lib.hid (HPF.out.2.trans hst4)
    clear hp4 hst4 hcall hent2
    go_wp2_with fail
    refine hfin.out.mono ?_
    rintro e w5 ⟨rfl, hq⟩
    have HQ := Lib.hid hq
    clear hq hfin
    go_wp2_with fail
    go_end0
    exact Post.mono HST.out ⟨rfl, HQ.out⟩
end Go.Proofs.YtpibenilagloaaaGreatDoor
