import Derived.Test.YtpibenilagloaaaGreatDoorMxai
import Derived.Test.YtpibenilagloaaaGreatDoorMxaj
/-
  (*parser).wrap: the walk.
-/
namespace Go.Proofs.YtpibenilagloaaaGreatDoor
open Go.RowKit
set_option linter.unusedVariables false

theorem append_last {α : Type} {l : List α} {x : α} (h : l.getLast? = some x) : l = l.dropLast ++ [x] := by
  cases l with
  | nil => cases h
  | cons a r =>
    rw [List.getLast?_eq_some_getLast (by simp)] at h
    injection h with h
    rw [← h]
    exact (List.dropLast_concat_getLast (by simp)).symm
/-- the last child of the innermost node -/
theorem last_child {w : World} {F : Nat → Prop} {v : Value} {ch : List Tree} {x : Tree} (h : KidsAt w F v (ch ++ [x])) : ∃ b c v0 v1 v2, v = .slice (some ⟨b, 0, none⟩) (ch.length + 1) c ∧ ch.length + 1 ≤ c ∧ v.ownBlock = some b ∧ b < w.heap.size ∧
    w.cell? ⟨b, ch.length * 3, none⟩ = some v0 ∧ w.cell? ⟨b, ch.length * 3 + 1, none⟩ = some v1 ∧ w.cell? ⟨b, ch.length * 3 + 2, none⟩ = some v2 ∧ TreeV w F x v0 v1 v2 ∧ KidsAt w F (.slice (some ⟨b, 0, none⟩) ch.length c) ch := by
  obtain ⟨xs, hown, hrow⟩ := h
  obtain ⟨us, v0, v1, v2, rfl, hr, ht⟩ := RowV.last _ _ _ hrow
  have hl := hr.length
  rw [List.length_append, List.length_singleton] at hown
  rcases hown.2 with ⟨_, h0⟩ | ⟨b, c, cur, rfl, hb, hh, hnc, hcm, hcs, htake⟩
  · omega
  · have e := fun j (hj : j < 3) => hown.cellAt (ch.length * 3 + j) (by omega)
    refine ⟨b, c, v0, v1, v2, rfl, hnc, rfl, lt_of_heap hh, ?_, ?_, ?_, ht, us, ?_, hr⟩
    · have := e 0 (by omega)
      rw [Nat.add_zero] at this
      rw [this, List.getElem?_append_right (by omega), hl, Nat.sub_self]; rfl
    · rw [e 1 (by omega), List.getElem?_append_right (by omega), hl, Nat.add_sub_cancel_left]; rfl
    · rw [e 2 (by omega), List.getElem?_append_right (by omega), hl, Nat.add_sub_cancel_left]; rfl
    · have := own_truncate hown (m := ch.length) (by omega)
      rw [← hl, List.take_left] at this
      exact this
/-- a block made anew may be written too -/
theorem PAtX.plus {w w' : World} {p : Nat} {M : MM} {toks : List Tok} {low : List LowF} {kind : Int} {s : PS} {g cap : Nat} {v : Value} {At : Option Addr} {ct : Nat} (h : PAtX w p M toks low kind s g cap v At ct) (hb : Below w.heap.size w w') (n : Nat) (hn : w.heap.size ≤ n) :
    PAtX w' p (Plus M n) toks low kind s g cap v At ct ∧ Step M w (Plus M n) w' ∧ (∀ b, Fix w M b → Fix w' (Plus M n) b) ∧ ∀ b, Fix w M b → w'.heap[b]? = w.heap[b]? := by
  have hF : ∀ b, Fix w M b → Fix w' (Plus M n) b := fun b h => ⟨Nat.lt_of_lt_of_le h.1 hb.size, fun hp => hp.elim h.2 (fun e => by have := h.1; omega), h.3⟩
  have hw : ∀ b, Fix w M b → w'.heap[b]? = w.heap[b]? := fun b h => hb.block b h.1
  obtain ⟨m1, m2, m3, m4⟩ := h.mine
  exact ⟨{ h with
    blk := (hb.block _ (lt_of_heap h.blk)).trans h.blk
    row := ownsRow_below h.row fun k hk => hb.block k (h.row.lt k hk).2
    kids := h.kids.keep hF hw fun k hk => hb.block k (h.kids.lt k hk)
    lows := fun f hf => (h.lows f hf).keep hF hw fun k hk => hb.block k ((h.lows f hf).lt k hk)
    tok := h.tok.keep hF hw
    asc := h.asc.below hb
    ascM := fun hp => hp.elim h.ascM (fun e => by have := h.asc.lt; omega)
    hole := ⟨Nat.lt_of_lt_of_le h.hole.1 hb.size, fun hp => hp.elim h.hole.2 (fun e => by have := h.hole.1; have e2 : M.x = n := e; omega)⟩
    mine := ⟨.inl m1, .inl m2, fun b hb => .inl (m3 b hb), fun f hf b hb => .inl (m4 f hf b hb)⟩ }, ⟨hb.os, hb.tape, hb.output, hb.size, fun b hlt _ => hb.block b hlt, fun b hp => hp.elim .inl (fun e => .inr (by omega)), rfl⟩, hF, hw⟩

set_option maxRecDepth 100000 in
set_option maxHeartbeats 6000000 in
theorem wrap_any (w : World) (p : Nat) (M : MM) (toks : List Tok) (low : List LowF) (kind : Int) (s u : PS) (h : PAt w p M toks low kind s) (k : Int) (Rel : PS → PS → Prop) (E : WE) (hE : Stays E) (fid : FuncId) (bs cs : Array Value)
    (hent : Ent fid) (hA : Acts Rel E fid bs cs p toks) (he : E w M) (x : Tree) (hx : s.ch.getLast? = some x) (hgas : 1 < s.gas) (hrun : Rel { s with ch := [x], gas := s.gas - 1 } u) (hgu : u.gas ≤ s.gas - 1 ∧ 0 < u.gas) :
    Calls Tryz.prog 314 #[.pointer (some ⟨p, 0, none⟩), .int .i64 k, .func (.func fid) bs cs] w (Post M w p toks low kind { u with ch := s.ch.dropLast ++ [.mk k .empty u.ch] } (.tuple #[])) := by
  obtain ⟨g, cap, v, At, ct, hX⟩ := h
  obtain ⟨pre, hpre⟩ : ∃ pre, s.ch.dropLast = pre := ⟨_, rfl⟩
  have hch := append_last hx
  rw [hpre] at hch ⊢
  have hk := hX.kids
  rw [hch] at hk
  obtain ⟨b, c, v0, v1, v2, rfl, hnc, hvb, hblt, e0, e1, e2, hT, hK⟩ := last_child hk
  obtain ⟨xk, xt, xch⟩ := x
  obtain ⟨A2, m2, cc, rfl, rfl, rfl⟩ : ∃ A2 m2 cc, v0 = .int .i64 xk ∧ v1 = .string xt ∧ v2 = .slice A2 m2 cc := by
    unfold TreeV at hT
    obtain ⟨h0, h1, A, c, h2, _⟩ := hT
    exact ⟨A, _, c, h0, h1, h2⟩
  obtain ⟨c0, c1, c2⟩ := hX.cells
  obtain ⟨d0, d1, d2⟩ := hX.top
  have hplt := lt_of_heap hX.blk
  have hglt := (hX.row.lt g rfl).2
  have hfz := hX.thaw 2
  have f2 := hX.row.frozenAt (low.length * 3 + 2)
  have hbl := hX.blow
  have hbc := hX.bch
  rw [hch, List.length_append, List.length_singleton] at hbc
  have HX := Lib.hid hX
  have HT := Lib.hid hT
  have HK := Lib.hid hK
  have HCH := Lib.hid hch
  have HPRE := Lib.hid hpre
  have HA := Lib.hid hA
  have HE := Lib.hid hE
  have HRUN := Lib.hid hrun
  clear hX hk hT hK hch hx hpre hA hE hrun
  generalize hn : pre.length = n at *
  have HN := Lib.hid hn
  clear hn
  have hnI : (0 : Int) ≤ n := by omega
  have hnI1 : (n : Int) < (n : Int) + 1 := by omega
  have hnI2 : (n : Int) < ((n + 1 : Nat) : Int) := by omega
  have hnI3 : (n : Int) ≤ (c : Int) := by omega
  have hLI : (0 : Int) ≤ low.length := by omega
  have hLI2 : (low.length : Int) < (low.length : Int) + 1 := by omega
  have hLI3 : (low.length : Int) < ((low.length + 1 : Nat) : Int) := by omega
  have hown2 := HX.out.row
  obtain ⟨X0, T0⟩ := HX.out.retop (wf := ((w.setCell ⟨g, low.length * 3 + 2, none⟩ (.slice (some ⟨b, 0, none⟩) n c)).alloc (.cells #[.int .i64 xk, .string xt, .slice A2 m2 cc] 121)).drew) (.slice (some ⟨b, 0, none⟩) n c) { s with ch := pre } rfl rfl rfl (by simp)
    (fun b' hlt hbg hbv => by
      show ((w.setCell _ _).alloc _).heap[b']? = _
      rw [heap_alloc_lt _ _ (by simpa using hlt), Below.heap_setCell _ _ _ _ hbg])
    (.inr (.inl rfl))
    (by
      have h1 := (hown2.stored (low.length * 3 + 2) (.slice (some ⟨b, 0, none⟩) n c)).1
      rw [← lowCells_length low, List.set_append_right _ _ (by omega), Nat.add_sub_cancel_left, lowCells_length low] at h1
      exact (h1.alloc _).drew)
    (fun hfix hsame => by
      have hbg : b ≠ g := fun e => HX.out.apart.2.2.1 (by rw [hvb, e])
      have := HK.out.keep hfix hsame (w' := ((w.setCell ⟨g, low.length * 3 + 2, none⟩ (.slice (some ⟨b, 0, none⟩) n c)).alloc (.cells #[.int .i64 xk, .string xt, .slice A2 m2 cc] 121)).drew) (fun k hk => by
        simp only [Value.ownBlock, Option.some.injEq] at hk
        subst hk
        show ((w.setCell _ _).alloc _).heap[b]? = _
        rw [heap_alloc_lt _ _ (by simpa using hblt), Below.heap_setCell _ _ _ _ hbg])
      exact this)
    rfl (by show pre.length + s.gas ≤ 1000000; rw [HN.out]; omega) hbl
  have T1 := TreeV.keep (fun b h => T0.fix b h) (fun b h => T0.same b h) _ _ _ _ HT.out
  obtain ⟨W0, hW0⟩ : ∃ W0, ((w.setCell ⟨g, low.length * 3 + 2, none⟩ (.slice (some ⟨b, 0, none⟩) n c)).alloc (.cells #[.int .i64 xk, .string xt, .slice A2 m2 cc] 121)).drew = W0 := ⟨_, rfl⟩
  have HZ := Lib.hid (show W0.heap.size = w.heap.size + 1 by rw [← hW0]; simp)
  have hbox : W0.heap[w.heap.size]? = some (.cells #[.int .i64 xk, .string xt, .slice A2 m2 cc] 121 (0, 0)) := by
    rw [← hW0]
    have := heap_alloc_new (w.setCell ⟨g, low.length * 3 + 2, none⟩ (.slice (some ⟨b, 0, none⟩) n c)) (.cells #[.int .i64 xk, .string xt, .slice A2 m2 cc] 121)
    rw [World.size_setCell] at this
    exact this
  rw [hW0] at X0 T0 T1
  have HX0 := Lib.hid X0
  have HT0 := Lib.hid T0
  have HT1 := Lib.hid T1
  obtain ⟨_, _, c2'⟩ := X0.cells
  have hfz' := X0.thaw 2
  have hplt' := lt_of_heap X0.blk
  have b0 : W0.cell? ⟨w.heap.size, 0, none⟩ = some (.int .i64 xk) := by rw [Lib.cell_of_heap hbox]; rfl
  have b1 : W0.cell? ⟨w.heap.size, 1, none⟩ = some (.string xt) := by rw [Lib.cell_of_heap hbox]; rfl
  have b2 : W0.cell? ⟨w.heap.size, 2, none⟩ = some (.slice A2 m2 cc) := by rw [Lib.cell_of_heap hbox]; rfl
  have hblt0 := lt_of_heap hbox
  clear X0 T0 T1 hown2 hbox hplt'
  go_enter Tryz.func314, Tryz.ntmps314
  go_wp2_with fail
  go_region
  go_wp2_with fail
  clear hW0 d0 d1 d2 e0 e1 e2 c0 c1 c2 hfz f2 hplt hglt hblt
  obtain ⟨i0, hi0, hz0, hz1, hz2⟩ := info_parts info_tree
  have hX0 := HX0.out
  have hap := hX0.apart.1
  have hplt := lt_of_heap hX0.blk
  have hown2 := hX0.row
  have hxl : (low.flatMap LowF.cells ++ [Value.int .i64 kind, .string .empty, .slice (some ⟨b, 0, none⟩) n c]).length = (low.length + 1) * 3 := by rw [List.length_append, lowCells_length]; simp; omega
  have hb1 : low.length + 1 + 1 ≤ maxLen := by unfold maxLen; omega
  have hb2 : (low.length + 1 + 1) * 48 ≤ 140737488355328 := by omega
  have hownA := Lib.hid (((hown2.alloc (.cells #[.int .i64 xk, .string xt, .slice A2 m2 cc] 121)).alloc (.cells #[.int .i64 0, .string ⟨#[]⟩, .slice none 0 0] 121)).drew)
  have hownB := Lib.hid (((hown2.alloc (.cells #[.int .i64 0, .string ⟨#[]⟩, .slice none 0 0] 121)).alloc (.cells #[.int .i64 xk, .string xt, .slice A2 m2 cc] 121)).drew)
  have HK2 : Hid (∀ (Wa w2 : World) (f gg cap' : Nat), Below W0.heap.size W0 Wa → Wa.heap[f]? = some (.cells #[.int .i64 xk, .string xt, .slice A2 m2 cc] 121 (0, 0)) → W0.heap.size ≤ f → Wa.grownBy w2 (Value.slice (some ⟨g, 0, none⟩) (low.length + 1) cap).ownBlock →
      w2.ownsRow 0 121 3 (.slice (some ⟨gg, 0, none⟩) (low.length + 1 + 1) cap') (low.length + 1 + 1) (low.flatMap LowF.cells ++ [.int .i64 kind, .string .empty, .slice (some ⟨b, 0, none⟩) n c] ++ [.int .i64 0, .string ⟨#[]⟩, .slice none 0 0]) → ((Value.slice (some ⟨g, 0, none⟩) (low.length + 1) cap).ownBlock = some gg ∨ gg = Wa.heap.size) →
      ((w2.cell? ⟨p, 2, none⟩ = some (.slice (some ⟨g, 0, none⟩) (low.length + 1) cap) ∧ w2.frozen? ⟨p, 2, none⟩ = false ∧ p < w2.heap.size) ∧
      (w2.cell? ⟨gg, (low.length + 1) * 3, none⟩ = some (.int .i64 0) ∧ w2.cell? ⟨gg, (low.length + 1) * 3 + 1, none⟩ = some (.string ⟨#[]⟩) ∧ w2.cell? ⟨gg, (low.length + 1) * 3 + 2, none⟩ = some (.slice none 0 0)) ∧
      (w2.frozen? ⟨gg, (low.length + 1) * 3, none⟩ = false ∧ w2.frozen? ⟨gg, (low.length + 1) * 3 + 1, none⟩ = false ∧ w2.frozen? ⟨gg, (low.length + 1) * 3 + 2, none⟩ = false) ∧ gg ≠ p ∧ gg < w2.heap.size) ∧
      ∃ w3 Mf, ((((w2.setCell ⟨gg, (low.length + 1) * 3, none⟩ (.int .i64 k)).setCell ⟨gg, (low.length + 1) * 3 + 1, none⟩ (.string ⟨#[]⟩)).setCell ⟨gg, (low.length + 1) * 3 + 2, none⟩ (.slice (some ⟨f, 0, none⟩) 1 1)).setCell ⟨p, 2, none⟩ (.slice (some ⟨gg, 0, none⟩) (low.length + 1 + 1) cap')) = w3 ∧ Hid (PAt w3 p Mf toks (low ++ [⟨kind, .slice (some ⟨b, 0, none⟩) n c, pre⟩]) k { s with ch := [.mk xk xt xch], gas := s.gas - 1 } ∧ Step M w Mf w3)) := by
    refine Lib.hid ?_
    intro Wa w2 f gg cap' hbel hf hflt hg ho hat
    obtain ⟨XP, TP, FP, SP⟩ := HX0.out.plus hbel f hflt
    have hB := hg.size
    have hpa := lt_of_heap XP.blk
    have hne : some p ≠ some g := fun e => hap (by injection e)
    have k1 := fun j => (hg.cell_far ⟨p, j, none⟩ hpa hne)
    have k2 := fun j => (hg.frozen_far ⟨p, j, none⟩ hpa hne)
    have k4 := fun j (hj : j < 3) => ho.cellAt ((low.length + 1) * 3 + j) (by omega)
    have hat2 : gg = g ∨ Wa.heap.size ≤ gg := by
      rcases hat with h | h
      · exact .inl (by simp only [Value.ownBlock, Option.some.injEq] at h; exact h.symm)
      · exact .inr (by omega)
    have hfa := lt_of_heap hf
    have hgW := (HX0.out.row.lt g rfl).2
    have hpW := lt_of_heap HX0.out.blk
    have hfg : f ≠ gg := by
      rcases hat2 with h | h
      · omega
      · omega
    have hf2 : w2.heap[f]? = some (.cells #[.int .i64 xk, .string xt, .slice A2 m2 cc] 121 (0, 0)) := (hg.block f hfa (fun e => by simp only [Value.ownBlock, Option.some.injEq] at e; omega)).trans hf
    refine ⟨⟨⟨(k1 _).trans XP.cells.2.2, (k2 _).trans (XP.thaw 2), by omega⟩, ⟨?_, ?_, ?_⟩, ⟨ho.frozenAt _, ho.frozenAt _, ho.frozenAt _⟩, ?_, (ho.lt gg rfl).2⟩, ?_⟩
    · have := k4 0 (by omega); rw [Nat.add_zero] at this; rw [this, List.getElem?_append_right (by omega)]; simp [hxl]
    · rw [k4 1 (by omega), List.getElem?_append_right (by omega), hxl, Nat.add_sub_cancel_left]; rfl
    · rw [k4 2 (by omega), List.getElem?_append_right (by omega), hxl, Nat.add_sub_cancel_left]; rfl
    · rcases hat2 with h | h
      · rw [h]; exact fun e => hap e.symm
      · omega
    · obtain ⟨P1, P2⟩ := XP.push k s.flag hgas hg ho hat2 (v' := .slice (some ⟨f, 0, none⟩) 1 1) (xs := [.int .i64 xk, .string xt, .slice A2 m2 cc]) (ch' := [.mk xk xt xch])
        (.inr ⟨f, rfl, by omega, by omega, by omega, hfg, .inr rfl, fun l hl e => by have := (HX0.out.lows l hl).lt f e; omega, fun e => by have := HX0.out.kids.lt f e; omega⟩)
        ⟨rfl, .inr ⟨f, 1, _, rfl, Nat.zero_le _, hf2, Nat.le_refl _, by decide, rfl, rfl⟩⟩
        (fun hfx => by
          unfold RowV
          refine ⟨TreeV.keep (w' := w2) (fun b hb => hfx b (FP b hb)) (fun b hb => ?_) _ _ _ _ HT1.out, by unfold RowV; trivial⟩
          exact (hg.block b (FP b hb).1 (fun e => by simp only [Value.ownBlock, Option.some.injEq] at e; exact hb.2 (e ▸ HX0.out.mine.2.1))).trans (SP b hb)) (by simp)
      exact ⟨_, _, rfl, Lib.hid ⟨⟨_, _, _, _, _, P1⟩, (HT0.out.trans TP).trans P2⟩⟩
  clear hX0
  have hin : ∀ u ∈ [Value.int .i64 0, .string ⟨#[]⟩, .slice none 0 0], u.oneCell' = true := by simp [Value.oneCell']
  obtain ⟨xs, hxs⟩ : ∃ xs, low.flatMap LowF.cells ++ [Value.int .i64 kind, .string .empty, .slice (some ⟨b, 0, none⟩) n c] = xs := ⟨_, rfl⟩
  rw [hxs] at hown2 hownA hownB HK2
  clear hxs hxl
  have hnJ : (0 : Int) ≤ low.length := by omega
  have hnJ2 : ((low.length : Int) + 1) < (low.length : Int) + 1 + 1 := by omega
  have hnJ3 : ((low.length + 1 : Nat) : Int) < ((low.length + 1 + 1 : Nat) : Int) := by omega
  have hnJ4 : (0 : Int) ≤ (low.length : Int) + 1 := by omega
  have HBA := Lib.hid (show Below W0.heap.size W0 ((W0.alloc (.cells #[.int .i64 xk, .string xt, .slice A2 m2 cc] 121)).alloc (.cells #[.int .i64 0, .string ⟨#[]⟩, .slice none 0 0] 121)).drew from (((Below.refl _ _).alloc (Nat.le_refl _) _).alloc (by simp) _).drew)
  have HBB := Lib.hid (show Below W0.heap.size W0 ((W0.alloc (.cells #[.int .i64 0, .string ⟨#[]⟩, .slice none 0 0] 121)).alloc (.cells #[.int .i64 xk, .string xt, .slice A2 m2 cc] 121)).drew from (((Below.refl _ _).alloc (Nat.le_refl _) _).alloc (by simp) _).drew)
  have NSA := Lib.hid (show ((W0.alloc (.cells #[.int .i64 xk, .string xt, .slice A2 m2 cc] 121)).alloc (.cells #[.int .i64 0, .string ⟨#[]⟩, .slice none 0 0] 121)).drew.heap[W0.heap.size + 1]? = some (.cells #[.int .i64 0, .string ⟨#[]⟩, .slice none 0 0] 121 (0, 0)) by
    have := heap_alloc_new (W0.alloc (.cells #[.int .i64 xk, .string xt, .slice A2 m2 cc] 121)) (.cells #[.int .i64 0, .string ⟨#[]⟩, .slice none 0 0] 121)
    simp only [World.size_alloc] at this
    exact this)
  have NSB := Lib.hid (show ((W0.alloc (.cells #[.int .i64 0, .string ⟨#[]⟩, .slice none 0 0] 121)).alloc (.cells #[.int .i64 xk, .string xt, .slice A2 m2 cc] 121)).drew.heap[W0.heap.size + 1]? = some (.cells #[.int .i64 xk, .string xt, .slice A2 m2 cc] 121 (0, 0)) by
    have := heap_alloc_new (W0.alloc (.cells #[.int .i64 0, .string ⟨#[]⟩, .slice none 0 0] 121)) (.cells #[.int .i64 xk, .string xt, .slice A2 m2 cc] 121)
    simp only [World.size_alloc] at this
    exact this)
  go_region_law
    (first
     | ((refine step_append_lies _ (by rfl) (.tmp 45) (.tmp 51) _ (by rfl) 0 121 i0 _ 3 48 Tryz.underlying119 hi0 hz0 hz1 hz2 rfl (by decide) (.slice (some ⟨g, 0, none⟩) (low.length + 1) cap) (low.length + 1) xs (by rfl) hownB.out ⟨W0.heap.size, 0, none⟩ 1 1 [.int .i64 0, .string ⟨#[]⟩, .slice none 0 0] (by rfl) (by rfl) (World.news_of_block (cs := #[_, _, _]) (t := 121) (fr := (0, 0)) ((heap_alloc_lt _ _ (by simp)).trans (heap_alloc_new _ _))) hin (by decide) hb1 hb2 (by simp) (W0.heap.size + 2) (by simp) ?_; intro gg cap' w2 hown1 hgrow hat hlt; obtain ⟨⟨⟨k1, k2, k3⟩, ⟨k7, k8, k9⟩, ⟨k10, k11, k12⟩, k13, k15⟩, w3, Mf, hw3, HPF⟩ := HK2.out _ _ (W0.heap.size + 1) _ _ HBB.out NSB.out (by omega) hgrow hown1 (hat.imp_right (fun e => by simpa using e))))
     | (go_must (refine step_append_lies _ (by rfl) (.tmp 45) (.tmp 51) _ (by rfl) 0 121 i0 _ 3 48 Tryz.underlying119 hi0 hz0 hz1 hz2 rfl (by decide) (.slice (some ⟨g, 0, none⟩) (low.length + 1) cap) (low.length + 1) xs (by rfl) hownA.out ⟨W0.heap.size + 1, 0, none⟩ 1 1 [.int .i64 0, .string ⟨#[]⟩, .slice none 0 0] (by rfl) (by rfl) (World.news_of_block (cs := #[_, _, _]) (t := 121) (fr := (0, 0)) NSA.out) hin (by decide) hb1 hb2 (by simp) (W0.heap.size + 2) (by simp) ?_; intro gg cap' w2 hown1 hgrow hat hlt; obtain ⟨⟨⟨k1, k2, k3⟩, ⟨k7, k8, k9⟩, ⟨k10, k11, k12⟩, k13, k15⟩, w3, Mf, hw3, HPF⟩ := HK2.out _ _ W0.heap.size _ _ HBA.out ((heap_alloc_lt _ _ (by simp)).trans (heap_alloc_new _ _)) (Nat.le_refl _) hgrow hown1 (hat.imp_right (fun e => by simpa using e)))))
  all_goals
    try rw [set_comm _ (a := ⟨p, 2, none⟩) (b := ⟨gg, (low.length + 1) * 3, none⟩) (fun e => k13 e.symm), set_comm _ (a := ⟨p, 2, none⟩) (b := ⟨gg, (low.length + 1) * 3 + 1, none⟩) (fun e => k13 e.symm), set_comm _ (a := ⟨p, 2, none⟩) (b := ⟨gg, (low.length + 1) * 3 + 2, none⟩) (fun e => k13 e.symm)]
    try rw [hw3]
    have hcall := Lib.hid (HA.out w3 _ _ _ _ u (HE.out _ _ _ _ he HPF.out.2) HPF.out.1 HRUN.out)
    clear hw3 hown1 hgrow hat k1 k2 k3 k7 k8 k9 k10 k11 k12 hownA hownB hown2 c2' hfz' b0 b1 b2 hz0 hz1 hz2 hi0 HBA HBB NSA NSB
    have hent2 : ∀ w0 : World, Sem.run Tryz.prog (callFunc fid (bs ++ cs)) w0 = .ok (.enter fid (bs ++ cs)) w0 := fun w0 => hent _ _
    go_wp2_with fail
    refine hcall.out.mono ?_
    rintro e w4 ⟨rfl, M4, hp4, hst4⟩
    have hfin := Lib.hid (finish_any w4 p M4 toks low ⟨kind, .slice (some ⟨b, 0, none⟩) n c, pre⟩ k u hp4 u.flag hgu.2 (by show pre.length + (u.gas + 1) ≤ 1000000; rw [HN.out]; omega) (by omega))
    have HST := Lib.hid (HPF.out.2.trans hst4)
    clear hp4 hst4 hcall hent2
    go_wp2_with fail
    refine hfin.out.mono ?_
    rintro e w5 ⟨rfl, hq⟩
    have HQ := Lib.hid hq
    clear hq hfin
    go_wp2_with fail
    go_end0
    exact Post.mono HST.out ⟨rfl, HQ.out⟩
end Go.Proofs.YtpibenilagloaaaGreatDoor

/-
  The parser's functions by name: what is to be shown of each.
-/
namespace Go.Proofs.YtpibenilagloaaaGreatDoor
open Go.RowKit
set_option linter.unusedVariables false

def fnum : Fn → FuncId
  | .typeExpr => 217
  | .path _ => 275
  | .typeParams => 260
  | .typeParam => 303
  | .params _ => 219
  | .pattern => 344
  | .block => 263
  | .statement => 305
  | .letS => 329
  | .returnS => 331
  | .expr => 218
  | .binary _ => 277
  | .unary => 312
  | .arguments => 346
  | .postfixS => 338
  | .primary => 332
  | .ifExpr => 348
  | .matchS => 349
  | .structLit => 350
  | .lambda => 351
  | .item => 85
  | .skipToItem => 133
  | .itemBody _ => 138
  | .useS => 210
  | .function _ => 211
  | .dataType _ => 212
  | .members => 214
  | .implS => 215
def fcall : Fn → Nat → Array Value
  | .path b, p => #[.pointer (some ⟨p, 0, none⟩), .bool b]
  | .params t, p => #[.pointer (some ⟨p, 0, none⟩), .string t]
  | .binary l, p => #[.pointer (some ⟨p, 0, none⟩), .int .i64 (l : Int)]
  | .itemBody k, p => #[.pointer (some ⟨p, 0, none⟩), .int .i64 k]
  | .function b, p => #[.pointer (some ⟨p, 0, none⟩), .bool b]
  | .dataType k, p => #[.pointer (some ⟨p, 0, none⟩), .int .i64 k]
  | _, p => #[.pointer (some ⟨p, 0, none⟩)]
def fres : Fn → PS → Value
  | .statement, s => .bool s.flag
  | _, _ => .tuple #[]
/-- the calls of a function that the parser makes -/
def Dom : Fn → Prop
  | .binary l => l ≤ 5
  | .itemBody k => 2 ≤ k ∧ k ≤ 9
  | .dataType k => k = 4 ∨ k = 5
  | _ => True
/-- a function does what its body says -/
def FnOk (n : Nat) (p : Nat) (toks : List Tok) (f : Fn) : Prop := Dom f → ∀ w M low kind s s', PAt w p M toks low kind s → R n (body f) s s' → Calls Tryz.prog (fnum f) (fcall f p) w (Post M w p toks low kind s' (fres f s'))
/-- every function does, with n fuel and less -/
def AllOk (n : Nat) (p : Nat) (toks : List Tok) : Prop := ∀ f, Dom f → ∀ w M low kind s s', PAt w p M toks low kind s → R n (.call f) s s' → Calls Tryz.prog (fnum f) (fcall f p) w (Post M w p toks low kind s' (fres f s'))
theorem Cx.fn {n : Nat} {c : Cx} (f : Fn) (hI : AllOk n c.p c.toks) {w : World} {s s' : PS} (h : c.At w s) (hs : R n (.call f) s s') (hd : Dom f) : CallsAt c (fnum f) (fcall f c.p) w (fres f s') s' :=
  Cx.step h (Below.refl _ _) fun M h1 => hI f hd w M c.low c.kind s s' h1 hs
theorem actsC_fn {n : Nat} {p : Nat} {toks : List Tok} (E : WE) (f : Fn) (hI : AllOk n p toks) (he : Ent (fnum f)) (hd : Dom f) (hr : ∀ s, fres f s = .tuple #[]) (ha : fcall f p = #[.pointer (some ⟨p, 0, none⟩)]) : ActsC n (.call f) E (fnum f) #[.pointer (some ⟨p, 0, none⟩)] #[] p toks :=
  ⟨he, fun w M low kind s s' _ h hs => by
    have := hI f hd w M low kind s s' h hs
    rw [hr, ha] at this
    exact this⟩
/-- accept, told apart -/
theorem Cx.acceptT {c : Cx} {w : World} {s u : PS} (h : c.At w s) {t : ByteArray} (ht : atB [t] s.rest = true) (hs : s.bump = some u) {z : Nat} (hz : z = w.heap.size) : CallsAt c 136 #[.pointer (some ⟨c.p, 0, none⟩), .slice (some ⟨z, 0, none⟩) 1 1] (w.alloc (.cells #[.string t] 9)) (.bool true) u :=
  Cx.step h ((Below.refl _ _).alloc (Nat.le_refl _) _) fun M h1 => by
    have := accept_any _ c.p M c.toks c.low c.kind s u h1 (some ⟨z, 0, none⟩) 1 1 [t] (StrsAt.new w [t] 9 _ hz) rfl (by decide) (by rw [ht]; exact hs)
    rw [ht] at this
    exact this
theorem Cx.acceptF {c : Cx} {w : World} {s : PS} (h : c.At w s) {t : ByteArray} (ht : atB [t] s.rest = false) {z : Nat} (hz : z = w.heap.size) : CallsAt c 136 #[.pointer (some ⟨c.p, 0, none⟩), .slice (some ⟨z, 0, none⟩) 1 1] (w.alloc (.cells #[.string t] 9)) (.bool false) s :=
  Cx.step h ((Below.refl _ _).alloc (Nat.le_refl _) _) fun M h1 => by
    have := accept_any _ c.p M c.toks c.low c.kind s s h1 (some ⟨z, 0, none⟩) 1 1 [t] (StrsAt.new w [t] 9 _ hz) rfl (by decide) (by rw [ht]; rfl)
    rw [ht] at this
    exact this
theorem Cx.wrap {n : Nat} {c : Cx} {w : World} {s s' : PS} (h : c.At w s) {k : Int} {cmd : Cmd} (hs : R n (.wrap k cmd) s s') {fid : FuncId} {bs cs : Array Value} (hA : ActsC n cmd c.E fid bs cs c.p c.toks) :
    CallsAt c 314 #[.pointer (some ⟨c.p, 0, none⟩), .int .i64 k, .func (.func fid) bs cs] w (.tuple #[]) s' := by
  obtain ⟨hE, M, h1, h2, h3⟩ := h
  obtain ⟨x, hx, hg, u, hu, rfl⟩ := hs.wrap
  exact (wrap_any w c.p M c.toks c.low c.kind s u h1 k (R n cmd) c.E hE fid bs cs hA.1 hA.2 h3 x hx hg hu (hu.gas (by show 0 < s.gas - 1; omega))).mono fun e w' ⟨k1, k2⟩ => ⟨k1, Cx.At.next hE h2 h3 k2⟩
/-- a closure by its body -/
theorem actsC_of {n : Nat} {cmd : Cmd} {E : WE} {fid : FuncId} {bs cs : Array Value} {p : Nat} {toks : List Tok} (hE : Stays E) (he : Ent fid) (hb : ∀ (low : List LowF) (kind : Int) (M : MM) (w0 w : World) (s s' : PS), (⟨E, p, toks, low, kind, M, w0⟩ : Cx).At w s → R n cmd s s' → CallsAt ⟨E, p, toks, low, kind, M, w0⟩ fid (bs ++ cs) w (.tuple #[]) s') : ActsC n cmd E fid bs cs p toks :=
  ⟨he, fun w M low kind s s' e h hs => (hb low kind M w w s s' (Cx.At.closure hE e h) hs).mono fun _ _ ⟨k1, k2⟩ => by rw [k1]; exact k2.post⟩
end Go.Proofs.YtpibenilagloaaaGreatDoor

/-
  The parser's functions: the walks (printed by gen_walk.py).
-/
namespace Go.Proofs.YtpibenilagloaaaGreatDoor
open Go.RowKit
set_option linter.unusedVariables false

theorem Cx.At.eq {c : Cx} {w : World} {s t : PS} (h : c.At w s) (e : t = s) : c.At w t := e ▸ h
theorem ent_typeExpr : Ent (fnum .typeExpr) := ent_of Tryz.func217 (by kernel_rfl) (by kernel_rfl)
theorem ent_typeParam : Ent (fnum .typeParam) := ent_of Tryz.func303 (by kernel_rfl) (by kernel_rfl)
theorem ent_letS : Ent (fnum .letS) := ent_of Tryz.func329 (by kernel_rfl) (by kernel_rfl)
theorem ent_returnS : Ent (fnum .returnS) := ent_of Tryz.func331 (by kernel_rfl) (by kernel_rfl)
theorem ent_arguments : Ent (fnum .arguments) := ent_of Tryz.func346 (by kernel_rfl) (by kernel_rfl)
theorem ent_matchS : Ent (fnum .matchS) := ent_of Tryz.func349 (by kernel_rfl) (by kernel_rfl)
theorem ent_structLit : Ent (fnum .structLit) := ent_of Tryz.func350 (by kernel_rfl) (by kernel_rfl)
theorem ent_lambda : Ent (fnum .lambda) := ent_of Tryz.func351 (by kernel_rfl) (by kernel_rfl)
theorem ent_expr : Ent (fnum .expr) := ent_of Tryz.func218 (by kernel_rfl) (by kernel_rfl)
theorem ent_pattern : Ent (fnum .pattern) := ent_of Tryz.func344 (by kernel_rfl) (by kernel_rfl)
theorem actsC_ident (n : Nat) (E : WE) (p : Nat) (toks : List Tok) : ActsC n Cmd.expectIdent E 213 #[.pointer (some ⟨p, 0, none⟩)] #[] p toks :=
  ⟨ent_of Tryz.func213 (by kernel_rfl) (by kernel_rfl), fun w M low kind s s' _ h hr => expectIdent_any w p M toks low kind s s' h hr.expectIdent⟩
end Go.Proofs.YtpibenilagloaaaGreatDoor
