import Derived.Test.YtpibenilagloaaaGreatDoorMxae
import Derived.Lib.LaidTab
import Derived.Lib.Space
import Derived.Laws.Rows
import Derived.Laws.StructEq
/-
  The parser in memory.
-/
namespace Go.Proofs.YtpibenilagloaaaGreatDoor
open Go.RowKit
set_option linter.unusedVariables false

/-- the library's table of white space -/
def AscAt (w : World) : Prop := Lib.TabIs Tryz.prog w "strings.asciiSpace" .u8 Lib.asciiSpaceTab
theorem glob_asc : Tryz.prog.globalNamed "strings.asciiSpace" = some 1 := by kernel_rfl
theorem AscAt.keep {w w' : World} (h : AscAt w) (hw : w'.heap[1]? = w.heap[1]?) : AscAt w' := by
  unfold AscAt Lib.TabIs World.var? at h ⊢
  rw [glob_asc] at h ⊢
  simp only [Option.bind_some] at h ⊢
  rw [hw]
  exact h
theorem AscAt.lt {w : World} (h : AscAt w) : 1 < w.heap.size := by
  unfold AscAt Lib.TabIs World.var? at h
  rw [glob_asc] at h
  simp only [Option.bind_some] at h
  rcases Nat.lt_or_ge 1 w.heap.size with h' | h'
  · exact h'
  · rw [Array.getElem?_eq_none h'] at h; cases h
theorem AscAt.below {w w' : World} (h : AscAt w) (hb : Below w.heap.size w w') : AscAt w' := h.keep (hb.block _ h.lt)

theorem KidsAt.keep {w w' : World} {F F' : Nat → Prop} {v : Value} {ch : List Tree} (h : KidsAt w F v ch) (hF : ∀ b, F b → F' b) (hw : ∀ b, F b → w'.heap[b]? = w.heap[b]?) (hv : ∀ g, v.ownBlock = some g → w'.heap[g]? = w.heap[g]?) : KidsAt w' F' v ch := by
  obtain ⟨xs, h1, h2⟩ := h
  exact ⟨xs, ownsRow_below h1 hv, RowV.keep hF hw _ _ h2⟩
theorem KidsAt.lt {w : World} {F : Nat → Prop} {v : Value} {ch : List Tree} (h : KidsAt w F v ch) : ∀ g, v.ownBlock = some g → g < w.heap.size := by
  obtain ⟨xs, h1, h2⟩ := h
  exact fun g hg => (h1.lt g hg).2

/-- the parser at block p: the tokens, the unfinished nodes below the innermost one, this one's kind, the state -/
structure PAtX (w : World) (p : Nat) (M : MM) (toks : List Tok) (low : List LowF) (kind : Int) (s : PS) (g cap : Nat) (v : Value) (At : Option Addr) (ct : Nat) : Prop where
  blk : w.heap[p]? = some (.cells #[.slice At toks.length ct, .int .i64 ((toks.length - s.rest.length : Nat) : Int), .slice (some ⟨g, 0, none⟩) (low.length + 1) cap] 176 (0, 0))
  row : w.ownsRow 0 121 3 (.slice (some ⟨g, 0, none⟩) (low.length + 1) cap) (low.length + 1) (low.flatMap LowF.cells ++ [.int .i64 kind, .string .empty, v])
  kids : KidsAt w (Fix w M) v s.ch
  lows : ∀ f ∈ low, KidsAt w (Fix w M) f.v f.ch
  tok : ToksAt w (Fix w M) At toks
  apart : Apart p g v low
  mine : Mine M p g v low
  rest : s.rest <:+ toks
  bch : s.ch.length + s.gas ≤ 1000000
  blow : low.length + s.gas ≤ 1000000
  btok : toks.length ≤ 500000
  asc : AscAt w
  ascM : ¬ M 1
  hole : M.x < w.heap.size ∧ ¬ M M.x
def PAt (w : World) (p : Nat) (M : MM) (toks : List Tok) (low : List LowF) (kind : Int) (s : PS) : Prop := ∃ g cap v At ct, PAtX w p M toks low kind s g cap v At ct
theorem PAtX.below {w w' : World} {p : Nat} {M : MM} {toks : List Tok} {low : List LowF} {kind : Int} {s : PS} {g cap : Nat} {v : Value} {At : Option Addr} {ct : Nat} (h : PAtX w p M toks low kind s g cap v At ct) (hb : Below w.heap.size w w') : PAtX w' p M toks low kind s g cap v At ct := by
  have hF : ∀ b, Fix w M b → Fix w' M b := fun b h => ⟨Nat.lt_of_lt_of_le h.1 hb.size, h.2, h.3⟩
  have hw : ∀ b, Fix w M b → w'.heap[b]? = w.heap[b]? := fun b h => hb.block b h.1
  exact { h with
    blk := (hb.block _ (lt_of_heap h.blk)).trans h.blk
    row := ownsRow_below h.row fun k hk => hb.block k (h.row.lt k hk).2
    kids := h.kids.keep hF hw fun k hk => hb.block k (h.kids.lt k hk)
    lows := fun f hf => (h.lows f hf).keep hF hw fun k hk => hb.block k ((h.lows f hf).lt k hk)
    tok := h.tok.keep hF hw
    asc := h.asc.below hb
    hole := ⟨Nat.lt_of_lt_of_le h.hole.1 hb.size, h.hole.2⟩ }
theorem PAt.below {w w' : World} {p : Nat} {M : MM} {toks : List Tok} {low : List LowF} {kind : Int} {s : PS} (h : PAt w p M toks low kind s) (hb : Below w.heap.size w w') : PAt w' p M toks low kind s := by
  obtain ⟨g, cap, v, At, ct, h⟩ := h
  exact ⟨g, cap, v, At, ct, h.below hb⟩
/-- a function that changes the parser: what its call leaves -/
def Post (M : MM) (w : World) (p : Nat) (toks : List Tok) (low : List LowF) (kind : Int) (s : PS) (r : Value) (e : Ending) (w' : World) : Prop :=
  e = .returned r ∧ ∃ M', PAt w' p M' toks low kind s ∧ Step M w M' w'
/-- the cells of the parser's block -/
theorem PAtX.cells {w : World} {p : Nat} {M : MM} {toks : List Tok} {low : List LowF} {kind : Int} {s : PS} {g cap : Nat} {v : Value} {At : Option Addr} {ct : Nat} (h : PAtX w p M toks low kind s g cap v At ct) :
    w.cell? ⟨p, 0, none⟩ = some (.slice At toks.length ct) ∧ w.cell? ⟨p, 1, none⟩ = some (.int .i64 ((toks.length - s.rest.length : Nat) : Int)) ∧ w.cell? ⟨p, 2, none⟩ = some (.slice (some ⟨g, 0, none⟩) (low.length + 1) cap) := by
  refine ⟨?_, ?_, ?_⟩ <;> rw [Lib.cell_of_heap h.blk] <;> rfl
theorem PAtX.thaw {w : World} {p : Nat} {M : MM} {toks : List Tok} {low : List LowF} {kind : Int} {s : PS} {g cap : Nat} {v : Value} {At : Option Addr} {ct : Nat} (h : PAtX w p M toks low kind s g cap v At ct) (j : Nat) : w.frozen? ⟨p, j, none⟩ = false := Lib.frozen_of_heap h.blk j
/-- the token at a position -/
theorem rest_get {rest toks : List Tok} (h : rest <:+ toks) (k : Nat) : rest[k]? = toks[toks.length - rest.length + k]? := by
  obtain ⟨pre, rfl⟩ := h
  rw [List.getElem?_append_right (by simp), List.length_append]
  congr 1; omega
end Go.Proofs.YtpibenilagloaaaGreatDoor

/-
  (*parser).peek and its kin: the walk.
-/
namespace Go.Proofs.YtpibenilagloaaaGreatDoor
open Go.RowKit
set_option linter.unusedVariables false

theorem set_two {w : World} {g : Nat} {x y : Value} {t : TypeId} {fr : Nat × Nat} (h : w.heap[g]? = some (.cells #[x, y] t fr)) (a b : Value) : ((w.setCell ⟨g, 0, none⟩ a).setCell ⟨g, 1, none⟩ b).heap[g]? = some (.cells #[a, b] t fr) := by
  simp [World.setCell, Array.getElem?_modify, h]
theorem isTriv_any (k : Int) (w : World) : Calls Tryz.prog 139 #[.int .i64 k] w fun e w' => e = .returned (.bool (k == 101 || k == 102)) ∧ w' = w := by
  by_cases h1 : k = 101
  · subst h1
    go_enter Tryz.func139, Tryz.ntmps139
    go_wp2
    go_ret
    exact ⟨rfl, rfl⟩
  · have e1 : (k == 101) = false := beq_eq_false_iff_ne.2 h1
    go_enter Tryz.func139, Tryz.ntmps139
    go_wp2
    go_ret
    exact ⟨by simp [e1], rfl⟩
def Tok.val (x : Tok) : Value := .agg #[.int .i64 x.k, .string x.t]

set_option maxRecDepth 100000 in
set_option maxHeartbeats 800000 in
theorem peek_any (w : World) (p : Nat) (M : MM) (toks : List Tok) (low : List LowF) (kind : Int) (s : PS) (h : PAt w p M toks low kind s) :
    Calls Tryz.prog 129 #[.pointer (some ⟨p, 0, none⟩)] w fun e w' => e = .returned (peekT s.rest).val ∧ Below w.heap.size w w' := by
  obtain ⟨g, cap, v, At, ct, hx⟩ := h
  obtain ⟨c0, c1, c2⟩ := hx.cells
  have hbt := hx.btok
  have hsuf := hx.rest
  have hplt := lt_of_heap hx.blk
  have htok := Lib.hid hx.tok
  clear hx
  go_enter Tryz.func129, Tryz.ntmps129
  go_wp2_with fail
  obtain ⟨W, hW⟩ : ∃ W, w.alloc (.cells #[.int .i64 0, .string ⟨#[]⟩] 142) = W := ⟨_, rfl⟩
  have hbelow : Below w.heap.size w W := by rw [← hW]; exact (Below.refl _ _).alloc (Nat.le_refl _) _
  have hnew : W.heap[w.heap.size]? = some (.cells #[.int .i64 0, .string ⟨#[]⟩] 142 (0, 0)) := by rw [← hW]; exact heap_alloc_new _ _
  have hres : ∀ a b, Below w.heap.size w ((W.setCell ⟨w.heap.size, 0, none⟩ a).setCell ⟨w.heap.size, 1, none⟩ b) := fun a b => (hbelow.setCell (Nat.le_refl _) _).setCell (Nat.le_refl _) _
  rw [hW]
  have d0 := (hbelow.cell (p := ⟨p, 0, none⟩) hplt).trans c0
  have HTok := Lib.hid (htok.out.keep (w' := W) (F' := Fix w M) (fun _ h => h) (fun b hb => hbelow.block b hb.1))
  have HB := Lib.hid hbelow
  have HN := Lib.hid hnew
  have HR := Lib.hid hres
  have HSig := Lib.hid hsuf
  clear hW c0 c1 c2 htok hbelow hnew hres hsuf
  go_loopw [3] (fun vi wr => ∃ r : List Tok, Hid (r <:+ toks ∧ sig r = sig s.rest) ∧ vi = .int .i64 ((toks.length - r.length : Nat) : Int) ∧ wr = W) (fun vi _ => toks.length - (intOf vi).toNat)
  case atStart => exact ⟨s.rest, ⟨HSig.out, rfl⟩, rfl, rfl⟩
  case round =>
    obtain ⟨r, hr, rfl, rfl⟩ := hrel
    have hle := hr.out.1.length_le
    cases r with
    | nil =>
      have HE := Lib.hid (show peekT s.rest = ⟨100, .empty⟩ by unfold peekT; rw [← hr.out.2]; rfl)
      simp only [List.length_nil, Nat.sub_zero] at *
      clear hr HTok HSig
      generalize toks.length = L at *
      clear hle
      have z0 : wr.cell? ⟨w.heap.size, 0, none⟩ = some (.int .i64 0) := by rw [Lib.cell_of_heap HN.out]; rfl
      have z1 : wr.cell? ⟨w.heap.size, 1, none⟩ = some (.string ⟨#[]⟩) := by rw [Lib.cell_of_heap HN.out]; rfl
      have y0 : wr.frozen? ⟨w.heap.size, 0, none⟩ = false := Lib.frozen_of_heap HN.out 0
      have y1 : wr.frozen? ⟨w.heap.size, 1, none⟩ = false := Lib.frozen_of_heap HN.out 1
      have hlt1 := lt_of_heap HN.out
      go_wp2_with fail
      refine bodyPost_ret (results_cell_row (P := Tryz.prog) (ty := 142) rfl _ _ w.heap.size 142 _ _ _ rfl (set_two HN.out _ _) Tryz.underlying142 rfl (by kernel_rfl)) rfl ?_
      exact ⟨by rw [HE.out]; rfl, HR.out _ _⟩
    | cons x r =>
      have hg := rest_get hr.out.1 0
      simp only [List.getElem?_cons_zero, Nat.add_zero] at hg
      have hpos : 0 < toks.length := by simp only [List.length_cons] at hle; omega
      obtain ⟨b, rfl, hb, hc⟩ := HTok.out hpos
      obtain ⟨e0, e1⟩ := hc _ x hg.symm
      have hmlt : toks.length - (x :: r).length < toks.length := by simp only [List.length_cons]; omega
      generalize hm : toks.length - (x :: r).length = m at *
      have hmI : (m : Int) < toks.length := by omega
      clear hc hg
      by_cases ht : isTriv x = true
      · have HT : Hid (r <:+ toks ∧ sig r = sig s.rest) := ⟨(List.suffix_cons x r).trans hr.out.1, by rw [← hr.out.2]; conv => rhs; unfold sig; rw [if_pos ht]⟩
        have HM := Lib.hid (show m + 1 = toks.length - r.length by simp only [List.length_cons] at hm hle; omega)
        unfold isTriv at ht
        go_wp2_with fail
        refine (isTriv_any _ _).mono ?_
        rintro e w1 ⟨rfl, rfl⟩
        rw [ht]
        clear ht
        go_wp2_with fail
        go_roundw
        case rel => exact ⟨r, HT, by rw [← HM.out]; go_num, True.intro⟩
        case measure => simp [intOf]; omega
      · have HE := Lib.hid (show peekT s.rest = x by unfold peekT; rw [← hr.out.2]; conv => lhs; unfold sig; rw [if_neg ht])
        unfold isTriv at ht
        have ht' := eq_false_of_ne_true ht
        have hne : ((m : Int) == (toks.length : Int)) = false := beq_eq_false_iff_ne.2 (by omega)
        clear ht hr HSig
        have z0 : wr.cell? ⟨w.heap.size, 0, none⟩ = some (.int .i64 0) := by rw [Lib.cell_of_heap HN.out]; rfl
        have z1 : wr.cell? ⟨w.heap.size, 1, none⟩ = some (.string ⟨#[]⟩) := by rw [Lib.cell_of_heap HN.out]; rfl
        have y0 : wr.frozen? ⟨w.heap.size, 0, none⟩ = false := Lib.frozen_of_heap HN.out 0
        have y1 : wr.frozen? ⟨w.heap.size, 1, none⟩ = false := Lib.frozen_of_heap HN.out 1
        have hlt1 := lt_of_heap HN.out
        go_wp2_with fail
        refine (isTriv_any _ _).mono ?_
        rintro e w1 ⟨rfl, rfl⟩
        rw [ht']
        clear ht'
        go_wp2_with fail
        refine bodyPost_ret (results_cell_row (P := Tryz.prog) (ty := 142) rfl _ _ w.heap.size 142 _ _ _ rfl (set_two HN.out _ _) Tryz.underlying142 rfl (by kernel_rfl)) rfl ?_
        exact ⟨by rw [HE.out]; rfl, HR.out _ _⟩
end Go.Proofs.YtpibenilagloaaaGreatDoor

/-
  slices.Index and slices.Contains at strings: the walk.
-/
namespace Go.Proofs.YtpibenilagloaaaGreatDoor
open Go.RowKit
set_option linter.unusedVariables false

/-- a slice of strings reads so -/
def StrsAt (w : World) (A : Option Addr) (ss : List ByteArray) : Prop :=
  0 < ss.length → ∃ b, A = some ⟨b, 0, none⟩ ∧ b < w.heap.size ∧ ∀ k x, ss[k]? = some x → w.cell? ⟨b, k, none⟩ = some (.string x)
theorem StrsAt.below {w w' : World} {A : Option Addr} {es : List ByteArray} (h : StrsAt w A es) (hb : Below w.heap.size w w') : StrsAt w' A es := by
  intro hn
  obtain ⟨b, rfl, hlt, hc⟩ := h hn
  exact ⟨b, rfl, Nat.lt_of_lt_of_le hlt hb.size, fun k x hx => (hb.cell (p := ⟨b, k, none⟩) hlt).trans (hc k x hx)⟩
/-- a literal of strings -/
theorem StrsAt.new (w : World) (ss : List ByteArray) (t : TypeId) (n : Nat) (h : n = w.heap.size) : StrsAt (w.alloc (.cells (ss.map Value.string).toArray t)) (some ⟨n, 0, none⟩) ss := by
  intro _
  subst h
  refine ⟨w.heap.size, rfl, by simp, fun k x hx => ?_⟩
  rw [Lib.cell_of_heap (heap_alloc_new w _)]
  simp [hx]
theorem str_ne {x y : ByteArray} (h : x ≠ y) : (x.toList == y.toList) = false := by
  rw [← beq_toListBytes]
  show (x.data == y.data) = false
  rw [beq_eq_false_iff_ne]
  intro e
  exact h (by cases x; cases y; simp_all)
/-- the place of the first string that is x, or -1 -/
def idxL (x : ByteArray) : List ByteArray → Nat → Int
  | [], _ => -1
  | y :: r, i => if y = x then (i : Int) else idxL x r (i + 1)
theorem idxL_hit (x : ByteArray) : ∀ (ss : List ByteArray) (i : Nat), (0 ≤ idxL x ss i) ↔ (ss.any fun t => decide (t = x)) = true
  | [], i => by simp [idxL]
  | y :: r, i => by
    unfold idxL
    split
    · next h => simp [h]
    · next h => simp only [List.any_cons, h, decide_false, Bool.false_or]; exact idxL_hit x r (i + 1)

set_option maxRecDepth 100000 in
theorem index_any (A : Option Addr) (c : Nat) (ss : List ByteArray) (x : ByteArray) (w : World) (hA : StrsAt w A ss) (hn : ss.length ≤ 1000000) :
    Calls Tryz.prog 205 #[.slice A ss.length c, .string x] w fun e w' => e = .returned (.int .i64 (idxL x ss 0)) ∧ w' = w := by
  obtain ⟨n, hnn⟩ : ∃ n, ss.length = n := ⟨_, rfl⟩
  have HA := Lib.hid hA
  have HN := Lib.hid hnn
  rw [hnn] at hn ⊢
  clear hA hnn
  go_enter Tryz.func205, Tryz.ntmps205
  go_wp2_with fail
  go_loopw [8] (fun vi wr => ∃ k : Nat, k ≤ n ∧ vi = .int .i64 k ∧ Hid (idxL x ss 0 = idxL x (ss.drop k) k) ∧ wr = w) (fun vi _ => n - (intOf vi).toNat)
  case atStart => exact ⟨0, by omega, rfl, by unfold Hid; simp, rfl⟩
  case round =>
    obtain ⟨k, hk, rfl, hi, rfl⟩ := hrel
    by_cases hlt : k < n
    · have hkI : (k : Int) < n := by omega
      have hks : k < ss.length := by rw [HN.out]; exact hlt
      obtain ⟨b, rfl, hb, hc⟩ := HA.out (by omega)
      have c0 := hc k ss[k] (List.getElem?_eq_getElem hks)
      have HD := Lib.hid (show ss.drop k = ss[k] :: ss.drop (k + 1) from List.drop_eq_getElem_cons hks)
      generalize ss[k] = y at *
      clear hc
      by_cases hy : y = x
      · subst hy
        have HE := Lib.hid (show idxL y ss 0 = k by rw [hi.out, HD.out]; unfold idxL; rw [if_pos rfl])
        clear hi
        go_wp2_with fail
        go_ret
        exact ⟨by rw [HE.out]; rfl, rfl⟩
      · have hy' : (x.toList == y.toList) = false := str_ne fun e => hy e.symm
        have HE : Hid (idxL x ss 0 = idxL x (ss.drop (k + 1)) (k + 1)) := by
          unfold Hid; rw [hi.out, HD.out]; conv => lhs; unfold idxL; rw [if_neg hy]
        clear hi
        go_wp2_with fail
        go_roundw
        case rel => exact ⟨k + 1, by omega, by go_num, HE, True.intro⟩
        case measure => simp [intOf]; omega
    · obtain rfl : k = n := by omega
      have HE := Lib.hid (show idxL x ss 0 = -1 by rw [hi.out, List.drop_of_length_le (by rw [HN.out]; exact Nat.le_refl _)]; rfl)
      clear hi
      go_wp2_with fail
      go_ret
      exact ⟨by rw [HE.out]; rfl, rfl⟩
theorem contains_any (A : Option Addr) (c : Nat) (ss : List ByteArray) (x : ByteArray) (w : World) (hA : StrsAt w A ss) (hn : ss.length ≤ 1000000) :
    Calls Tryz.prog 166 #[.slice A ss.length c, .string x] w fun e w' => e = .returned (.bool (ss.any fun t => decide (t = x))) ∧ w' = w := by
  have hcall := Lib.hid (index_any A c ss x w hA hn)
  have HB := Lib.hid (idxL_hit x ss 0)
  generalize ss.length = n at *
  go_enter Tryz.func166, Tryz.ntmps166
  go_wp2_with fail
  refine hcall.out.mono ?_
  rintro e w1 ⟨rfl, rfl⟩
  generalize idxL x ss 0 = i at *
  go_wp2_with fail
  go_ret
  refine ⟨?_, rfl⟩
  have := HB.out
  by_cases h : 0 ≤ i
  · simp [h, this.1 h]
  · have h2 : (ss.any fun t => decide (t = x)) = false := by
      cases hx : ss.any fun t => decide (t = x)
      · rfl
      · exact absurd (this.2 hx) h
    simp [h, h2]
end Go.Proofs.YtpibenilagloaaaGreatDoor

/-
  (*parser).at, atEOF, atIdent: the walk.
-/
namespace Go.Proofs.YtpibenilagloaaaGreatDoor
open Go.RowKit
set_option linter.unusedVariables false

theorem tok_field0 (a b : Value) (u : World) : (Instr.field 142 (.agg #[a, b]) 0).run Tryz.prog u = .ok a u := by
  simp [Instr.field, go_sem, part, asAgg]
theorem tok_field1 (a b : Value) (u : World) : (Instr.field 142 (.agg #[a, b]) 1).run Tryz.prog u = .ok b u := by
  simp [Instr.field, go_sem, part, asAgg]
set_option maxRecDepth 100000 in
theorem atEOF_any (w : World) (p : Nat) (M : MM) (toks : List Tok) (low : List LowF) (kind : Int) (s : PS) (h : PAt w p M toks low kind s) :
    Calls Tryz.prog 84 #[.pointer (some ⟨p, 0, none⟩)] w fun e w' => e = .returned (.bool ((peekT s.rest).k == 100)) ∧ Below w.heap.size w w' := by
  have hcall := Lib.hid (peek_any w p M toks low kind s h)
  clear h
  generalize peekT s.rest = x at *
  go_enter Tryz.func84, Tryz.ntmps84
  go_wp2_with fail
  refine hcall.out.mono ?_
  rintro e w1 ⟨rfl, hb⟩
  have HB := Lib.hid hb
  clear hb hcall
  unfold Tok.val
  have kf := fun u => tok_field0 (.int .i64 x.k) (.string x.t) u
  go_wp2_with fail
  go_ret
  exact ⟨rfl, HB.out⟩
set_option maxRecDepth 100000 in
theorem atIdent_any (w : World) (p : Nat) (M : MM) (toks : List Tok) (low : List LowF) (kind : Int) (s : PS) (h : PAt w p M toks low kind s) :
    Calls Tryz.prog 266 #[.pointer (some ⟨p, 0, none⟩)] w fun e w' => e = .returned (.bool ((peekT s.rest).k == 103)) ∧ Below w.heap.size w w' := by
  have hcall := Lib.hid (peek_any w p M toks low kind s h)
  clear h
  generalize peekT s.rest = x at *
  go_enter Tryz.func266, Tryz.ntmps266
  go_wp2_with fail
  refine hcall.out.mono ?_
  rintro e w1 ⟨rfl, hb⟩
  have HB := Lib.hid hb
  clear hb hcall
  unfold Tok.val
  have kf := fun u => tok_field0 (.int .i64 x.k) (.string x.t) u
  go_wp2_with fail
  go_ret
  exact ⟨rfl, HB.out⟩

set_option maxRecDepth 100000 in
theorem at_any (w : World) (p : Nat) (M : MM) (toks : List Tok) (low : List LowF) (kind : Int) (s : PS) (h : PAt w p M toks low kind s) (A : Option Addr) (n c : Nat) (ss : List ByteArray) (hA : StrsAt w A ss) (hl : n = ss.length) (hn : n ≤ 1000000) :
    Calls Tryz.prog 130 #[.pointer (some ⟨p, 0, none⟩), .slice A n c] w fun e w' => e = .returned (.bool (atB ss s.rest)) ∧ Below w.heap.size w w' := by
  have hcall := Lib.hid (peek_any w p M toks low kind s h)
  have HA := Lib.hid hA
  have HL := Lib.hid hl
  have HE := Lib.hid (show atB ss s.rest = (((peekT s.rest).k == 104 || (peekT s.rest).k == 107) && ss.any fun t => decide (t = (peekT s.rest).t)) from rfl)
  clear h hA hl
  generalize peekT s.rest = x at *
  go_enter Tryz.func130, Tryz.ntmps130
  go_wp2_with fail
  refine hcall.out.mono ?_
  rintro e w1 ⟨rfl, hb⟩
  have HB := Lib.hid hb
  clear hb hcall
  unfold Tok.val
  by_cases h1 : x.k = 104
  · have e1 : (x.k == 104) = true := by rw [h1]; rfl
    have HE' : Hid (atB ss s.rest = ss.any fun t => decide (t = x.t)) := by unfold Hid; rw [HE.out, e1]; rfl
    clear HE h1
    go_wp2_with fail
    rw [HL.out]
    refine (contains_any A c ss x.t _ (HA.out.below (HB.out.alloc HB.out.size _)) (by rw [← HL.out]; exact hn)).mono ?_
    rintro e w2 ⟨rfl, rfl⟩
    go_wp2_with fail
    go_ret
    exact ⟨by rw [HE'.out]; rfl, HB.out.alloc HB.out.size _⟩
  · have e1 : (x.k == 104) = false := beq_eq_false_iff_ne.2 h1
    by_cases h2 : x.k = 107
    · have e2 : (x.k == 107) = true := by rw [h2]; rfl
      have HE' : Hid (atB ss s.rest = ss.any fun t => decide (t = x.t)) := by unfold Hid; rw [HE.out, e1, e2]; rfl
      clear HE h1 h2
      go_wp2_with fail
      rw [HL.out]
      refine (contains_any A c ss x.t _ (HA.out.below (HB.out.alloc HB.out.size _)) (by rw [← HL.out]; exact hn)).mono ?_
      rintro e w2 ⟨rfl, rfl⟩
      go_wp2_with fail
      go_ret
      exact ⟨by rw [HE'.out]; rfl, HB.out.alloc HB.out.size _⟩
    · have e2 : (x.k == 107) = false := beq_eq_false_iff_ne.2 h2
      have HE' : Hid (atB ss s.rest = false) := by unfold Hid; rw [HE.out, e1, e2]; rfl
      clear HE h1 h2
      go_wp2_with fail
      go_ret
      exact ⟨by rw [HE'.out]; rfl, HB.out.alloc HB.out.size _⟩
end Go.Proofs.YtpibenilagloaaaGreatDoor

/-
  A new list of children for the innermost unfinished node.
-/
namespace Go.Proofs.YtpibenilagloaaaGreatDoor
open Go.RowKit
set_option linter.unusedVariables false

theorem lowCells_length (low : List LowF) : (low.flatMap LowF.cells).length = low.length * 3 := by
  induction low with
  | nil => rfl
  | cons x xs ih => simp only [List.flatMap_cons, List.length_append, ih, List.length_cons]; simp [LowF.cells]; omega
def With (M : MM) (v : Value) : MM := ⟨fun b => M b ∨ v.ownBlock = some b, M.x⟩
theorem PAtX.retop {W wf : World} {p : Nat} {M : MM} {toks : List Tok} {low : List LowF} {kind : Int} {s : PS} {g cap : Nat} {v : Value} {At : Option Addr} {ct : Nat} (h : PAtX W p M toks low kind s g cap v At ct) (v' : Value) (s' : PS)
    (hos : wf.os = W.os) (htape : wf.tape = W.tape) (hout : wf.output = W.output) (hsize : W.heap.size ≤ wf.heap.size)
    (hb : ∀ b, b < W.heap.size → b ≠ g → v.ownBlock ≠ some b → wf.heap[b]? = W.heap[b]?)
    (hv : v'.ownBlock = none ∨ v'.ownBlock = v.ownBlock ∨ ∃ b, v'.ownBlock = some b ∧ W.heap.size ≤ b)
    (hrow : wf.ownsRow 0 121 3 (.slice (some ⟨g, 0, none⟩) (low.length + 1) cap) (low.length + 1) (low.flatMap LowF.cells ++ [.int .i64 kind, .string .empty, v']))
    (hkids : (∀ b, Fix W M b → Fix wf (With M v') b) → (∀ b, Fix W M b → wf.heap[b]? = W.heap[b]?) → KidsAt wf (Fix wf (With M v')) v' s'.ch)
    (hrest : s'.rest = s.rest) (h1 : s'.ch.length + s'.gas ≤ 1000000) (h2 : low.length + s'.gas ≤ 1000000) :
    PAtX wf p (With M v') toks low kind s' g cap v' At ct ∧ Step M W (With M v') wf := by
  obtain ⟨a1, a2, a3, a4, a5⟩ := h.apart
  obtain ⟨m1, m2, m3, m4⟩ := h.mine
  have hplt := lt_of_heap h.blk
  have hglt := (h.row.lt g rfl).2
  have hsame0 : ∀ b, b < W.heap.size → ¬ M b → wf.heap[b]? = W.heap[b]? := fun b h1 h2 => hb b h1 (fun e => h2 (by rw [e]; exact m2)) (fun e => h2 (m3 b e))
  have hsame : ∀ b, Fix W M b → wf.heap[b]? = W.heap[b]? := fun b hf => hsame0 b hf.1 hf.2
  have hnm : ∀ b, b < W.heap.size → ¬ M b → ¬ (With M v') b := fun b h1 h2 hw => by
    rcases hw with hw | hw
    · exact h2 hw
    · rcases hv with e | e | ⟨c, e, hc⟩
      · rw [e] at hw; cases hw
      · exact h2 (m3 b (by rw [← e]; exact hw))
      · rw [e] at hw; injection hw with hw; omega
  have hfix : ∀ b, Fix W M b → Fix wf (With M v') b := fun b hf => ⟨Nat.lt_of_lt_of_le hf.1 hsize, hnm b hf.1 hf.2, hf.3⟩
  have hp : wf.heap[p]? = W.heap[p]? := hb p hplt a1 a2
  have hlowv : ∀ f ∈ low, ∀ k, f.v.ownBlock = some k → wf.heap[k]? = W.heap[k]? := fun f hf k hk => by
    refine hb k ((h.lows f hf).lt k hk) (fun e => ?_) (fun e => ?_)
    · exact (a4 f hf).2.1 (by rw [hk, e])
    · rcases (a4 f hf).2.2 with e2 | e2
      · rw [hk] at e2; cases e2
      · exact e2 (by rw [hk, e])
  have hvlow : ∀ f ∈ low, f.v.ownBlock = none ∨ f.v.ownBlock ≠ v'.ownBlock := fun f hf => by
    cases hfv : f.v.ownBlock with
    | none => exact .inl rfl
    | some k =>
      right
      have hk := (h.lows f hf).lt k hfv
      rcases hv with e | e | ⟨c, e, hc⟩
      · rw [e]; simp
      · rw [e, ← hfv]
        rcases (a4 f hf).2.2 with e2 | e2
        · rw [hfv] at e2; cases e2
        · exact e2
      · rw [e]; intro e2; injection e2 with e2; omega
  have hn : ∀ k, k < W.heap.size → v.ownBlock ≠ some k → v'.ownBlock ≠ some k := fun k hk hne => by
    rcases hv with e | e | ⟨c, e, hc⟩
    · rw [e]; simp
    · rw [e]; exact hne
    · rw [e]; intro e2; injection e2 with e2; omega
  refine ⟨⟨hp.trans (by rw [hrest]; exact h.blk), hrow, hkids hfix hsame, fun f hf => (h.lows f hf).keep hfix hsame (hlowv f hf), h.tok.keep hfix hsame,
    ⟨a1, hn p hplt a2, hn g hglt a3, fun f hf => ⟨(a4 f hf).1, (a4 f hf).2.1, hvlow f hf⟩, a5⟩, ⟨.inl m1, .inl m2, fun b hb => .inr hb, fun f hf b hb => .inl (m4 f hf b hb)⟩,
    by rw [hrest]; exact h.rest, h1, h2, h.btok, h.asc.keep (hsame0 _ h.asc.lt h.ascM), hnm _ h.asc.lt h.ascM, ⟨Nat.lt_of_lt_of_le h.hole.1 hsize, hnm _ h.hole.1 h.hole.2⟩⟩,
    ⟨hos, htape, hout, hsize, hsame0, fun b hw => ?_, rfl⟩⟩
  rcases hw with hw | hw
  · exact .inl hw
  · rcases hv with e | e | ⟨c, e, hc⟩
    · rw [e] at hw; cases hw
    · exact .inl (m3 b (by rw [← e]; exact hw))
    · rw [e] at hw; injection hw with hw; exact .inr (by omega)
theorem set_comm (w : World) {a b : Addr} (h : a.block ≠ b.block) (u v : Value) : (w.setCell a u).setCell b v = (w.setCell b v).setCell a u := by
  simp only [World.setCell]
  congr 1
  apply Array.ext
  · simp
  · intro i h1 h2
    simp only [Array.getElem_modify]
    by_cases e1 : a.block = i <;> by_cases e2 : b.block = i <;> simp [e1, e2]
    exact absurd (e1.trans e2.symm) h
theorem set3 (xs : List Value) (n : Nat) (h : xs.length = n * 3) (z0 z1 z2 v0 v1 v2 : Value) : (((xs ++ [z0, z1, z2]).set (n * 3) v0).set (n * 3 + 1) v1).set (n * 3 + 2) v2 = xs ++ [v0, v1, v2] := by
  rw [← h]
  simp [List.set_append_right]
theorem add_fin {W w2 : World} {p : Nat} {M : MM} {toks : List Tok} {low : List LowF} {kind : Int} {s s' : PS} {g cap : Nat} {Av : Option Addr} {n cv : Nat} {At : Option Addr} {ct : Nat} (h : PAtX W p M toks low kind s g cap (.slice Av n cv) At ct)
    (hn : s.ch.length = n) {x : Tree} {v0 v1 v2 : Value} (hx : TreeV W (Fix W M) x v0 v1 v2) (hs : s.add [x] = some s') {xs : List Value} (hxl : xs.length = n * 3) (hrow : RowV W (Fix W M) xs s.ch)
    {gg cap' : Nat} (hg : W.grownBy w2 (Value.slice Av n cv).ownBlock) {z0 z1 z2 : Value} (ho : w2.ownsRow 0 121 3 (.slice (some ⟨gg, 0, none⟩) (n + 1) cap') (n + 1) (xs ++ [z0, z1, z2]))
    (hat : (Value.slice Av n cv).ownBlock = some gg ∨ W.heap.size ≤ gg) :
    ∃ M', PAt ((((w2.setCell ⟨gg, n * 3, none⟩ v0).setCell ⟨gg, n * 3 + 1, none⟩ v1).setCell ⟨gg, n * 3 + 2, none⟩ v2).setCell ⟨g, low.length * 3 + 2, none⟩ (.slice (some ⟨gg, 0, none⟩) (n + 1) cap')) p M' toks low kind s' ∧
      Step M W M' ((((w2.setCell ⟨gg, n * 3, none⟩ v0).setCell ⟨gg, n * 3 + 1, none⟩ v1).setCell ⟨gg, n * 3 + 2, none⟩ v2).setCell ⟨g, low.length * 3 + 2, none⟩ (.slice (some ⟨gg, 0, none⟩) (n + 1) cap')) := by
  have hap := h.apart.2.2.1
  have hglt := (h.row.lt g rfl).2
  have hgg : gg ≠ g := by
    rcases hat with e | e
    · intro e2; subst e2; exact hap e
    · omega
  have hl := lowCells_length low
  unfold PS.add at hs
  split at hs
  · next hgas =>
    injection hs with hs
    have hch : s'.ch = s.ch ++ [x] := by rw [← hs]
    have hrest : s'.rest = s.rest := by rw [← hs]
    have hg' : s'.gas = s.gas - 1 := by rw [← hs]; rfl
    have hlen : s'.ch.length = n + 1 := by rw [hch, List.length_append, hn]; rfl
    have b1 := h.bch
    have b2 := h.blow
    simp only [List.length_singleton] at hgas
    obtain ⟨o1, q1⟩ := ho.stored (n * 3) v0
    obtain ⟨o2, q2⟩ := o1.stored (n * 3 + 1) v1
    obtain ⟨o3, q3⟩ := o2.stored (n * 3 + 2) v2
    rw [set3 xs n hxl] at o3
    have r0 := h.row.kept hg (.inr (fun e => hap e.symm))
    have r1 := r0.kept q1 (.inr (fun e => hgg (by simpa [Value.ownBlock] using e.symm)))
    have r2 := r1.kept q2 (.inr (fun e => hgg (by simpa [Value.ownBlock] using e.symm)))
    have r3 := r2.kept q3 (.inr (fun e => hgg (by simpa [Value.ownBlock] using e.symm)))
    obtain ⟨r4, q4⟩ := r3.stored (low.length * 3 + 2) (.slice (some ⟨gg, 0, none⟩) (n + 1) cap')
    have o4 := o3.kept q4 (.inr (fun e => hgg (by simpa [Value.ownBlock] using e)))
    have hset : (low.flatMap LowF.cells ++ [.int .i64 kind, .string .empty, Value.slice Av n cv]).set (low.length * 3 + 2) (.slice (some ⟨gg, 0, none⟩) (n + 1) cap') = low.flatMap LowF.cells ++ [.int .i64 kind, .string .empty, .slice (some ⟨gg, 0, none⟩) (n + 1) cap'] := by
      rw [← hl]
      simp [List.set_append_right]
    rw [hset] at r4
    obtain ⟨hR, hS⟩ := h.retop (.slice (some ⟨gg, 0, none⟩) (n + 1) cap') s' (wf := (((w2.setCell ⟨gg, n * 3, none⟩ v0).setCell ⟨gg, n * 3 + 1, none⟩ v1).setCell ⟨gg, n * 3 + 2, none⟩ v2).setCell ⟨g, low.length * 3 + 2, none⟩ (.slice (some ⟨gg, 0, none⟩) (n + 1) cap'))
      (q4.os.trans (q3.os.trans (q2.os.trans (q1.os.trans hg.os)))) (q4.tape.trans (q3.tape.trans (q2.tape.trans (q1.tape.trans hg.tape)))) (q4.output.trans (q3.output.trans (q2.output.trans (q1.output.trans hg.output))))
      (Nat.le_trans hg.size (Nat.le_trans q1.size (Nat.le_trans q2.size (Nat.le_trans q3.size q4.size))))
      (fun b hlt hbg hbv => by
        have hbgg : b ≠ gg := by
          intro e
          subst e
          rcases hat with e | e
          · exact hbv e
          · omega
        rw [Below.heap_setCell _ _ _ _ hbg, Below.heap_setCell _ _ _ _ hbgg, Below.heap_setCell _ _ _ _ hbgg, Below.heap_setCell _ _ _ _ hbgg]
        exact hg.block b hlt (fun e => hbv e.symm))
      (by
        rcases hat with e | e
        · exact .inr (.inl e.symm)
        · exact .inr (.inr ⟨gg, rfl, e⟩))
      r4
      (fun hfix hsame => by
        refine ⟨xs ++ [v0, v1, v2], ?_, ?_⟩
        · rw [hlen]; exact o4
        · rw [hch]
          refine RowV.append _ _ (RowV.keep hfix hsame _ _ hrow) _ _ ?_
          unfold RowV
          exact ⟨TreeV.keep hfix hsame _ _ _ _ hx, by unfold RowV; trivial⟩)
      hrest (by rw [hlen, hg']; omega) (by rw [hg']; omega)
    exact ⟨_, ⟨_, _, _, _, _, hR⟩, hS⟩
  · cases hs
end Go.Proofs.YtpibenilagloaaaGreatDoor
