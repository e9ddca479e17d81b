import Derived.Test.YtpibenilagloaaaGreatDoorMxah
import Derived.Test.YtpibenilagloaaaGreatDoorShelf
/-
  (*parser).node: the walk.
-/
namespace Go.Proofs.YtpibenilagloaaaGreatDoor
open Go.RowKit
set_option linter.unusedVariables false

/-- a class of worlds -/
abbrev WE := World → MM → Prop
def Stays (E : WE) : Prop := ∀ w M w' M', E w M → Step M w M' w' → E w' M'
/-- what a function value does to the parser, in worlds of E; Q: what it leaves beside -/
def ActsQ (Rel : PS → PS → Prop) (E : WE) (Q : World → MM → World → MM → PS → Prop) (fid : FuncId) (bs cs : Array Value) (p : Nat) (toks : List Tok) : Prop :=
  ∀ w M low kind s s', E w M → PAt w p M toks low kind s → Rel s s' → Calls Tryz.prog fid (bs ++ cs) w (fun e w' => e = .returned (.tuple #[]) ∧ ∃ M', PAt w' p M' toks low kind s' ∧ Q w M w' M' s')
def Acts (Rel : PS → PS → Prop) (E : WE) (fid : FuncId) (bs cs : Array Value) (p : Nat) (toks : List Tok) : Prop :=
  ∀ w M low kind s s', E w M → PAt w p M toks low kind s → Rel s s' → Calls Tryz.prog fid (bs ++ cs) w (Post M w p toks low kind s' (.tuple #[]))

/-- the function has a body that a call enters -/
def Ent (fid : FuncId) : Prop := ∀ (args : Array Value) (w : World), Sem.run Tryz.prog (callFunc fid args) w = .ok (.enter fid args) w

set_option maxRecDepth 100000 in
set_option maxHeartbeats 1600000 in
theorem node_gen (w : World) (p : Nat) (M : MM) (toks : List Tok) (low : List LowF) (kind : Int) (s u : PS) (h : PAt w p M toks low kind s) (k : Int) (Rel : PS → PS → Prop) (E : WE) (Q : World → MM → World → MM → PS → Prop) (hE : Stays E) (fid : FuncId) (bs cs : Array Value)
    (hent : Ent fid) (hA : ActsQ Rel E Q fid bs cs p toks) (he : E w M) (hgas : 1 < s.gas) (hrun : Rel { s with ch := [], gas := s.gas - 1 } u) (hgu : u.gas ≤ s.gas - 1 ∧ 0 < u.gas) :
    Calls Tryz.prog 134 #[.pointer (some ⟨p, 0, none⟩), .int .i64 k, .func (.func fid) bs cs] w (fun e w' => e = .returned (.tuple #[]) ∧ ∃ M', PAt w' p M' toks low kind { u with ch := s.ch ++ [.mk k .empty u.ch] } ∧ ∃ w3 M3 w4 M4, Step M w M3 w3 ∧ Q w3 M3 w4 M4 u ∧ Step M4 w4 M' w') := by
  obtain ⟨g, cap, v, At, ct, hX⟩ := h
  obtain ⟨c0, c1, c2⟩ := hX.cells
  have hplt := lt_of_heap hX.blk
  have hfz := hX.thaw 2
  have hap := hX.apart.1
  have hown2 := hX.row
  obtain ⟨i0, hi0, hz0, hz1, hz2⟩ := info_parts info_tree
  have hxl : (low.flatMap LowF.cells ++ [.int .i64 kind, .string .empty, v]).length = (low.length + 1) * 3 := by rw [List.length_append, lowCells_length]; simp; omega
  have hb1 : low.length + 1 + 1 ≤ maxLen := by have := hX.blow; unfold maxLen; omega
  have hb2 : (low.length + 1 + 1) * 48 ≤ 140737488355328 := by have := hX.blow; omega
  have hX2 := hX.below (Below.refl _ _)
  have HX := Lib.hid hX
  have hown0 := Lib.hid ((hown2.alloc (.cells #[.int .i64 0, .string ⟨#[]⟩, .slice none 0 0] 121)).drew)
  clear hX hX2
  have hK : ∀ (w2 : World) (gg cap' : Nat), ((w.alloc (.cells #[.int .i64 0, .string ⟨#[]⟩, .slice none 0 0] 121)).drew).grownBy w2 (Value.slice (some ⟨g, 0, none⟩) (low.length + 1) cap).ownBlock →
      w2.ownsRow 0 121 3 (.slice (some ⟨gg, 0, none⟩) (low.length + 1 + 1) cap') (low.length + 1 + 1) (low.flatMap LowF.cells ++ [.int .i64 kind, .string .empty, v] ++ [.int .i64 0, .string ⟨#[]⟩, .slice none 0 0]) → ((Value.slice (some ⟨g, 0, none⟩) (low.length + 1) cap).ownBlock = some gg ∨ gg = w.heap.size + 1) →
      ((w2.cell? ⟨p, 2, none⟩ = some (.slice (some ⟨g, 0, none⟩) (low.length + 1) cap) ∧ w2.frozen? ⟨p, 2, none⟩ = false ∧ p < w2.heap.size) ∧
      (w2.cell? ⟨gg, (low.length + 1) * 3, none⟩ = some (.int .i64 0) ∧ w2.cell? ⟨gg, (low.length + 1) * 3 + 1, none⟩ = some (.string ⟨#[]⟩) ∧ w2.cell? ⟨gg, (low.length + 1) * 3 + 2, none⟩ = some (.slice none 0 0)) ∧
      (w2.frozen? ⟨gg, (low.length + 1) * 3, none⟩ = false ∧ w2.frozen? ⟨gg, (low.length + 1) * 3 + 1, none⟩ = false ∧ w2.frozen? ⟨gg, (low.length + 1) * 3 + 2, none⟩ = false) ∧ gg ≠ p ∧ gg < w2.heap.size) ∧ Hid (w.grownBy w2 (some g)) ∧ Hid (gg = g ∨ w.heap.size ≤ gg) := by
    intro w2 gg cap' hg ho hat
    have hsz : ((w.alloc (.cells #[.int .i64 0, .string ⟨#[]⟩, .slice none 0 0] 121)).drew).heap.size = w.heap.size + 1 := by simp
    have hB := hg.size
    rw [hsz] at hB
    have hg1 : w.grownBy w2 (some g) := World.grownBy.trans (World.grownBy.trans (World.grownBy_alloc w (.cells #[.int .i64 0, .string ⟨#[]⟩, .slice none 0 0] 121) _) (c := (w.alloc (.cells #[.int .i64 0, .string ⟨#[]⟩, .slice none 0 0] 121)).drew) ⟨rfl, rfl, rfl, Nat.le_refl _, fun _ _ _ => rfl⟩) hg
    have hne : some p ≠ some g := fun e => hap (by injection e)
    have k1 := fun j => (hg1.cell_far ⟨p, j, none⟩ hplt hne)
    have k2 := fun j => (hg1.frozen_far ⟨p, j, none⟩ hplt hne)
    have k4 := fun j (hj : j < 3) => ho.cellAt ((low.length + 1) * 3 + j) (by omega)
    have hat2 : gg = g ∨ w.heap.size ≤ gg := by
      rcases hat with h | h
      · exact .inl (by simp only [Value.ownBlock, Option.some.injEq] at h; exact h.symm)
      · exact .inr (by omega)
    refine ⟨⟨⟨(k1 _).trans c2, (k2 _).trans hfz, by omega⟩, ⟨?_, ?_, ?_⟩, ⟨ho.frozenAt _, ho.frozenAt _, ho.frozenAt _⟩, ?_, (ho.lt gg rfl).2⟩, hg1, hat2⟩
    · have := k4 0 (by omega); rw [Nat.add_zero] at this; rw [this, List.getElem?_append_right (by omega)]; simp [hxl]
    · rw [k4 1 (by omega), List.getElem?_append_right (by omega), hxl, Nat.add_sub_cancel_left]; rfl
    · rw [k4 2 (by omega), List.getElem?_append_right (by omega), hxl, Nat.add_sub_cancel_left]; rfl
    · rcases hat2 with h | h
      · rw [h]; exact fun e => hap e.symm
      · omega
  have HK := Lib.hid hK
  have hin : ∀ u ∈ [Value.int .i64 0, .string ⟨#[]⟩, .slice none 0 0], u.oneCell' = true := by simp [Value.oneCell']
  have HA := Lib.hid hA
  have HE := Lib.hid hE
  have HRUN := Lib.hid hrun
  clear hA hE hrun hK
  obtain ⟨xs, hxs⟩ : ∃ xs, low.flatMap LowF.cells ++ [.int .i64 kind, .string .empty, v] = xs := ⟨_, rfl⟩
  rw [hxs] at hown2 hown0 HK
  have HXS := Lib.hid hxs
  clear hxs hxl
  have hnI : (0 : Int) ≤ low.length := by omega
  have hnI2 : ((low.length : Int) + 1) < (low.length : Int) + 1 + 1 := by omega
  have hnI3 : ((low.length + 1 : Nat) : Int) < ((low.length + 1 + 1 : Nat) : Int) := by omega
  have hnI4 : (0 : Int) ≤ (low.length : Int) + 1 := by omega
  go_enter Tryz.func134, Tryz.ntmps134
  go_wp2_with fail
  go_region_law
    ((refine step_append_lies _ (by rfl) (.tmp 9) (.tmp 13) _ (by rfl) 0 121 i0 _ 3 48 Tryz.underlying119 hi0 hz0 hz1 hz2 rfl (by decide) (.slice (some ⟨g, 0, none⟩) (low.length + 1) cap) (low.length + 1) xs (by rfl) hown0.out
        ⟨w.heap.size, 0, none⟩ 1 1 [.int .i64 0, .string ⟨#[]⟩, .slice none 0 0] (by rfl) (by rfl) (World.news_of_block (cs := #[_, _, _]) (t := 121) (fr := (0, 0)) (heap_alloc_new _ _)) hin (by decide) hb1 hb2 (by simp) (w.heap.size + 1) (by simp) ?_; intro gg cap' w2 hown1 hgrow hat hlt; obtain ⟨⟨⟨k1, k2, k3⟩, ⟨k7, k8, k9⟩, ⟨k10, k11, k12⟩, k13, k15⟩, k16, k17⟩ := HK.out _ _ _ hgrow hown1 hat))
  all_goals
    try rw [set_comm _ (a := ⟨p, 2, none⟩) (b := ⟨gg, (low.length + 1) * 3, none⟩) (fun e => k13 e.symm), set_comm _ (a := ⟨p, 2, none⟩) (b := ⟨gg, (low.length + 1) * 3 + 1, none⟩) (fun e => k13 e.symm), set_comm _ (a := ⟨p, 2, none⟩) (b := ⟨gg, (low.length + 1) * 3 + 2, none⟩) (fun e => k13 e.symm)]
    rw [← HXS.out] at hown1
    obtain ⟨P1, P2⟩ := HX.out.push k s.flag hgas k16.out hown1 k17.out (v' := .slice none 0 0) (xs := []) (ch' := []) (.inl rfl) (World.ownsRow_nil _ _ _ _) (fun _ => by unfold RowV; trivial) (by simp)
    obtain ⟨w3, hw3⟩ : ∃ w3, ((((w2.setCell ⟨gg, (low.length + 1) * 3, none⟩ (.int .i64 k)).setCell ⟨gg, (low.length + 1) * 3 + 1, none⟩ (.string .empty)).setCell ⟨gg, (low.length + 1) * 3 + 2, none⟩ (.slice none 0 0)).setCell ⟨p, 2, none⟩ (.slice (some ⟨gg, 0, none⟩) (low.length + 1 + 1) cap')) = w3 := ⟨_, rfl⟩
    rw [hw3] at P1 P2
    have hgo := HA.out w3 _ _ _ _ u (HE.out _ _ _ _ he P2) ⟨_, _, _, _, _, P1⟩ HRUN.out
    have hcall := Lib.hid hgo
    have HP2 := Lib.hid P2
    have bch := HX.out.bch
    have blow := HX.out.blow
    have hg3 : u.gas ≤ s.gas - 1 := hgu.1
    change Exit.then _ _ _ _ ((((w2.setCell ⟨gg, (low.length + 1) * 3, none⟩ (.int .i64 k)).setCell ⟨gg, (low.length + 1) * 3 + 1, none⟩ (.string .empty)).setCell ⟨gg, (low.length + 1) * 3 + 2, none⟩ (.slice none 0 0)).setCell ⟨p, 2, none⟩ (.slice (some ⟨gg, 0, none⟩) (low.length + 1 + 1) cap'))
    rw [hw3]
    clear P1 P2 hgo hw3 hown1 hgrow hat k1 k2 k3 k7 k8 k9 k10 k11 k12 hown0 hown2 c0 c1 c2 hfz hz0 hz1 hz2 hi0
    have hent2 : ∀ w0 : World, Sem.run Tryz.prog (callFunc fid (bs ++ cs)) w0 = .ok (.enter fid (bs ++ cs)) w0 := fun w0 => hent _ _
    go_wp2_with fail
    refine hcall.out.mono ?_
    rintro e w4 ⟨rfl, M4, hp4, hq4⟩
    have hfin := Lib.hid (finish_any w4 p M4 toks low ⟨kind, v, s.ch⟩ k u hp4 u.flag hgu.2 (by show s.ch.length + (u.gas + 1) ≤ 1000000; omega) (by omega))
    have HST := Lib.hid hq4
    clear hp4 hq4 hcall hent2
    go_wp2_with fail
    refine hfin.out.mono ?_
    rintro e w5 ⟨rfl, M5, hp5, hst5⟩
    have HQ := Lib.hid hp5
    have HQ2 := Lib.hid hst5
    clear hp5 hst5 hfin
    go_wp2_with fail
    go_end0
    exact ⟨rfl, M5, HQ.out, w3, _, w4, M4, HP2.out, HST.out, HQ2.out⟩
theorem node_any (w : World) (p : Nat) (M : MM) (toks : List Tok) (low : List LowF) (kind : Int) (s u : PS) (h : PAt w p M toks low kind s) (k : Int) (Rel : PS → PS → Prop) (E : WE) (hE : Stays E) (fid : FuncId) (bs cs : Array Value)
    (hent : Ent fid) (hA : Acts Rel E fid bs cs p toks) (he : E w M) (hgas : 1 < s.gas) (hrun : Rel { s with ch := [], gas := s.gas - 1 } u) (hgu : u.gas ≤ s.gas - 1 ∧ 0 < u.gas) :
    Calls Tryz.prog 134 #[.pointer (some ⟨p, 0, none⟩), .int .i64 k, .func (.func fid) bs cs] w (Post M w p toks low kind { u with ch := s.ch ++ [.mk k .empty u.ch] } (.tuple #[])) :=
  (node_gen w p M toks low kind s u h k Rel E (fun w M w' M' _ => Step M w M' w') hE fid bs cs hent hA he hgas hrun hgu).mono fun e w' ⟨h1, M', h2, w3, M3, w4, M4, h3, h4, h5⟩ => ⟨h1, M', h2, (h3.trans h4).trans h5⟩
end Go.Proofs.YtpibenilagloaaaGreatDoor

/-
  The closures are entered.
-/
namespace Go.Proofs.YtpibenilagloaaaGreatDoor
open Go.RowKit
set_option linter.unusedVariables false
theorem ent_of {f : FuncId} {fn : Func} (hf : Tryz.prog.funcs[f]? = some fn) (hn : (fn.name == "runtime.NumGoroutine") = false) (hb : fn.body.isNone = false) : Ent f := by
  intro args w
  have hn' : ¬ fn.name = "runtime.NumGoroutine" := by simpa using hn
  have hb' : ¬ fn.body = none := by intro e; rw [e] at hb; cases hb
  simp [callFunc, go_sem, hf, hn', hb']
theorem ent_bump : Ent 137 := ent_of Tryz.func137 (by kernel_rfl) (by kernel_rfl)
end Go.Proofs.YtpibenilagloaaaGreatDoor

/-
  (*parser).unexpected: the walk.
-/
namespace Go.Proofs.YtpibenilagloaaaGreatDoor
open Go.RowKit
set_option linter.unusedVariables false

theorem acts_bump (n : Nat) (p : Nat) (toks : List Tok) : Acts (R n .bump) (fun _ _ => True) 137 #[.pointer (some ⟨p, 0, none⟩)] #[] p toks :=
  fun w M low kind s s' _ h hr => bump_any w p M toks low kind s s' h hr.bump
set_option maxRecDepth 100000 in
theorem unexpected_any (w : World) (p : Nat) (M : MM) (toks : List Tok) (low : List LowF) (kind : Int) (n : Nat) (s s' : PS) (h : PAt w p M toks low kind s) (hs : R n Cmd.unexpected s s') :
    Calls Tryz.prog 307 #[.pointer (some ⟨p, 0, none⟩)] w (Post M w p toks low kind s' (.tuple #[])) := by
  unfold Cmd.unexpected at hs
  obtain ⟨hg, u, hu, rfl⟩ := hs.node
  have hcall := Lib.hid (node_any w p M toks low kind s u h 46 (R n .bump) (fun _ _ => True) (fun _ _ _ _ _ _ => True.intro) _ _ _ ent_bump (acts_bump n p toks) True.intro hg hu (hu.gas (by show 0 < s.gas - 1; omega)))
  clear h hs hu
  go_enter Tryz.func307, Tryz.ntmps307
  go_wp2_with fail
  refine hcall.out.mono ?_
  rintro e w1 ⟨rfl, hq⟩
  have HQ := Lib.hid hq
  clear hq hcall
  go_wp2_with fail
  go_end0
  exact ⟨rfl, HQ.out⟩
end Go.Proofs.YtpibenilagloaaaGreatDoor

/-
  (*parser).optional: the walk.
-/
namespace Go.Proofs.YtpibenilagloaaaGreatDoor
open Go.RowKit
set_option linter.unusedVariables false

set_option maxRecDepth 100000 in
theorem optional_any (w : World) (p : Nat) (M : MM) (toks : List Tok) (low : List LowF) (kind : Int) (s s' : PS) (h : PAt w p M toks low kind s) (t : ByteArray) (Rel : PS → PS → Prop) (E : WE) (hE : Stays E) (fid : FuncId) (bs cs : Array Value)
    (hent : Ent fid) (hA : Acts Rel E fid bs cs p toks) (he : E w M) (hyes : atB [t] s.rest = true → ∃ u, s.bump = some u ∧ Rel u s') (hno : atB [t] s.rest = false → s.add [.mk 0 .empty []] = some s') :
    Calls Tryz.prog 261 #[.pointer (some ⟨p, 0, none⟩), .string t, .func (.func fid) bs cs] w (Post M w p toks low kind s' (.tuple #[])) := by
  have HB := Lib.hid (show Below w.heap.size w (w.alloc (.cells #[.string t] 9)) from (Below.refl _ _).alloc (Nat.le_refl _) _)
  have HP := Lib.hid (h.below HB.out)
  have HA := Lib.hid (StrsAt.new w [t] 9 _ rfl)
  have HE := Lib.hid hE
  have HACT := Lib.hid hA
  clear h hE hA
  cases ht : atB [t] s.rest
  · have hs := hno ht
    have HS := Lib.hid hs
    have hcall := Lib.hid (accept_any _ p M toks low kind s s HP.out (some ⟨w.heap.size, 0, none⟩) 1 1 [t] HA.out rfl (by decide) (by rw [ht]; rfl))
    rw [ht] at hcall
    clear ht hs hyes hno
    go_enter Tryz.func261, Tryz.ntmps261
    go_wp2_with fail
    refine hcall.out.mono ?_
    rintro e w1 ⟨rfl, M1, hp1, hst1⟩
    have hcall2 := Lib.hid (absent_any _ p M1 toks low kind s s' hp1 HS.out)
    have HST := Lib.hid ((Step.of_below HB.out).trans hst1)
    clear hp1 hst1 hcall
    go_wp2_with fail
    refine hcall2.out.mono ?_
    rintro e w2 ⟨rfl, hq⟩
    have HQ := Lib.hid hq
    clear hq
    go_wp2_with fail
    go_end0
    exact Post.mono HST.out ⟨rfl, HQ.out⟩
  · obtain ⟨u, h1, h2⟩ := hyes ht
    have H2 := Lib.hid h2
    have hcall := Lib.hid (accept_any _ p M toks low kind s u HP.out (some ⟨w.heap.size, 0, none⟩) 1 1 [t] HA.out rfl (by decide) (by rw [ht]; exact h1))
    rw [ht] at hcall
    clear ht hyes hno h1 h2
    have hent2 : ∀ w0 : World, Sem.run Tryz.prog (callFunc fid (bs ++ cs)) w0 = .ok (.enter fid (bs ++ cs)) w0 := fun w0 => hent _ _
    clear hent
    go_enter Tryz.func261, Tryz.ntmps261
    go_wp2_with fail
    refine hcall.out.mono ?_
    rintro e w1 ⟨rfl, M1, hp1, hst1⟩
    have HST := Lib.hid ((Step.of_below HB.out).trans hst1)
    have hcall2 := Lib.hid (HACT.out w1 M1 low kind u s' (HE.out _ _ _ _ he HST.out) hp1 H2.out)
    clear hp1 hst1 hcall
    go_wp2_with fail
    refine hcall2.out.mono ?_
    rintro e w2 ⟨rfl, hq⟩
    have HQ := Lib.hid hq
    clear hq
    go_wp2_with fail
    go_end0
    exact Post.mono HST.out ⟨rfl, HQ.out⟩
end Go.Proofs.YtpibenilagloaaaGreatDoor

/-
  The tables of keywords: the walk.
-/
namespace Go.Proofs.YtpibenilagloaaaGreatDoor
open Go.RowKit
set_option linter.unusedVariables false

theorem fields_at (lit : ByteArray) (ss : List ByteArray) (h1 : lit.size < 4294967281) (h2 : lit.data.toList.all (fun b => decide (b.toNat < 128)) = true) (h3 : (Lib.fields lit.data.toList).map (fun l => (⟨l.toArray⟩ : ByteArray)) = ss) (w : World) (hA : AscAt w) :
    Calls Tryz.prog 206 #[.string lit] w fun e w' => e = .returned (.slice (some ⟨w.heap.size, 0, none⟩) ss.length ss.length) ∧ w' = w.alloc (.cells (ss.map Value.string).toArray 9) := by
  refine (Tryz.strings_Fields lit w h1 (fun j b hb => ?_) hA).mono ?_
  · have := List.all_eq_true.1 h2 b (List.mem_of_getElem? hb)
    simpa using this
  · rintro e w' ⟨rfl, rfl⟩
    subst h3
    rw [List.length_map, List.map_map]
    exact ⟨rfl, rfl⟩
theorem fields_items (w : World) (hA : AscAt w) : Calls Tryz.prog 206 #[.string ⟨#[117, 115, 101, 32, 112, 117, 98, 32, 102, 110, 32, 115, 116, 114, 117, 99, 116, 32, 101, 110, 117, 109, 32, 116, 114, 97, 105, 116, 32, 105, 109, 112, 108, 32, 99, 111, 110, 115, 116, 32, 109, 97, 99, 114, 111]⟩] w fun e w' =>
    e = .returned (.slice (some ⟨w.heap.size, 0, none⟩) 9 9) ∧ w' = w.alloc (.cells (Cmd.items.map Value.string).toArray 9) := fields_at _ Cmd.items (by decide) (by decide) (by decide) w hA
def kinds : List ByteArray := [kUse, kFn, kStruct, kEnum, kTrait, kImpl, kConst, kMacro]
theorem fields_kinds (w : World) (hA : AscAt w) : Calls Tryz.prog 206 #[.string ⟨#[117, 115, 101, 32, 102, 110, 32, 115, 116, 114, 117, 99, 116, 32, 101, 110, 117, 109, 32, 116, 114, 97, 105, 116, 32, 105, 109, 112, 108, 32, 99, 111, 110, 115, 116, 32, 109, 97, 99, 114, 111]⟩] w fun e w' =>
    e = .returned (.slice (some ⟨w.heap.size, 0, none⟩) 8 8) ∧ w' = w.alloc (.cells (kinds.map Value.string).toArray 9) := fields_at _ kinds (by decide) (by decide) (by decide) w hA
set_option maxRecDepth 100000 in
theorem itemKeywords_any (w : World) (hA : AscAt w) : Calls Tryz.prog 208 #[] w fun e w' => e = .returned (.slice (some ⟨w.heap.size, 0, none⟩) 9 9) ∧ w' = w.alloc (.cells (Cmd.items.map Value.string).toArray 9) := by
  have hcall := Lib.hid (fields_items w hA)
  clear hA
  go_enter Tryz.func208, Tryz.ntmps208
  go_wp2_with fail
  refine hcall.out.mono ?_
  rintro e w1 ⟨rfl, rfl⟩
  clear hcall
  go_wp2_with fail
  go_ret
  exact ⟨rfl, rfl⟩
theorem idxFromS_bd (x : ByteArray) : ∀ (zs : List ByteArray) (k : Nat), Lib.idxFromS zs x k = -1 ∨ ((k : Int) ≤ Lib.idxFromS zs x k ∧ Lib.idxFromS zs x k < (k : Int) + zs.length)
  | [], k => .inl rfl
  | z :: zs, k => by
    unfold Lib.idxFromS
    split
    · exact .inr ⟨Int.le_refl _, by simp only [List.length_cons]; omega⟩
    · rcases idxFromS_bd x zs (k + 1) with h | ⟨h1, h2⟩
      · exact .inl h
      · exact .inr ⟨by omega, by simp only [List.length_cons]; omega⟩
/-- the node kind of a keyword's item, or 0 -/
def kindIx (t : ByteArray) : Int := if Lib.idxOfS kinds t < 0 then 0 else 2 + Lib.idxOfS kinds t
theorem kinds_lt : kinds.length = 8 := rfl
set_option maxRecDepth 100000 in
theorem itemKind_any (w : World) (t : ByteArray) (hA : AscAt w) : Calls Tryz.prog 132 #[.string t] w fun e w' => e = .returned (.int .i64 (kindIx t)) ∧ Below w.heap.size w w' := by
  have hcall := Lib.hid (fields_kinds w hA)
  have HB := Lib.hid (show Below w.heap.size w (w.alloc (.cells (kinds.map Value.string).toArray 9)) from (Below.refl _ _).alloc (Nat.le_refl _) _)
  have hcall2 := Lib.hid (Tryz.slices_Index_string w.heap.size 0 8 8 kinds t (w.alloc (.cells (kinds.map Value.string).toArray 9)) (Nat.le_refl _) (by omega) (fun j hj => by
    rw [Lib.cell_of_heap (heap_alloc_new _ _)]
    simp only [Nat.zero_add]
    rw [show ((kinds.map Value.string).toArray)[j]? = (kinds.map Value.string)[j]? by simp, List.getElem?_map, List.getElem?_eq_getElem hj]
    simp [List.getD, List.getElem?_eq_getElem hj]))
  rw [show kinds.take 8 = kinds from rfl] at hcall2
  have hb : -1 ≤ Lib.idxOfS kinds t ∧ Lib.idxOfS kinds t < 8 := by
    rcases idxFromS_bd t kinds 0 with h | ⟨h1, h2⟩
    · unfold Lib.idxOfS; omega
    · rw [kinds_lt] at h2; unfold Lib.idxOfS; omega
  unfold kindIx
  clear hA
  generalize Lib.idxOfS kinds t = i at *
  obtain ⟨hb1, hb2⟩ := hb
  generalize hW : w.alloc (.cells (kinds.map Value.string).toArray 9) = W at *
  clear hW
  by_cases hi : i < 0
  · rw [if_pos hi]
    go_enter Tryz.func132, Tryz.ntmps132
    go_wp2_with fail
    refine hcall.out.mono ?_
    rintro e w1 ⟨rfl, rfl⟩
    clear hcall
    go_wp2_with fail
    refine hcall2.out.mono ?_
    rintro e w1 ⟨rfl, rfl⟩
    clear hcall2
    go_wp2_with fail
    go_ret
    exact ⟨rfl, HB.out⟩
  · rw [if_neg hi]
    have hi0 : 0 ≤ i := by omega
    go_enter Tryz.func132, Tryz.ntmps132
    go_wp2_with fail
    refine hcall.out.mono ?_
    rintro e w1 ⟨rfl, rfl⟩
    clear hcall
    go_wp2_with fail
    refine hcall2.out.mono ?_
    rintro e w1 ⟨rfl, rfl⟩
    clear hcall2
    go_wp2_with fail
    go_ret
    exact ⟨rfl, HB.out⟩
set_option maxRecDepth 100000 in
theorem atItem_any (w : World) (p : Nat) (M : MM) (toks : List Tok) (low : List LowF) (kind : Int) (s : PS) (h : PAt w p M toks low kind s) :
    Calls Tryz.prog 306 #[.pointer (some ⟨p, 0, none⟩)] w fun e w' => e = .returned (.bool (Cmd.atItem.eval s.flag s.rest)) ∧ Below w.heap.size w w' := by
  have hasc : AscAt w := by obtain ⟨g, cap, v, At, ct, hX⟩ := h; exact hX.asc
  have hcall := Lib.hid (itemKeywords_any w hasc)
  have HB := Lib.hid (show Below w.heap.size w (w.alloc (.cells (Cmd.items.map Value.string).toArray 9)) from (Below.refl _ _).alloc (Nat.le_refl _) _)
  have hcall2 := Lib.hid (at_any _ p M toks low kind s (h.below HB.out) (some ⟨w.heap.size, 0, none⟩) 9 9 Cmd.items (StrsAt.new w Cmd.items 9 _ rfl) rfl (by decide))
  have HP := Lib.hid h
  have he : Cmd.atItem.eval s.flag s.rest = (atB Cmd.items s.rest && !atB [kFn] s.rest) := rfl
  rw [he]
  clear he h hasc
  generalize w.alloc (.cells (Cmd.items.map Value.string).toArray 9) = W at *
  cases h1 : atB Cmd.items s.rest
  · rw [h1] at hcall2
    clear h1
    go_enter Tryz.func306, Tryz.ntmps306
    go_wp2_with fail
    refine hcall.out.mono ?_
    rintro e w1 ⟨rfl, rfl⟩
    clear hcall
    go_wp2_with fail
    refine hcall2.out.mono ?_
    rintro e w2 ⟨rfl, hb⟩
    have HB2 := Lib.hid (HB.out.trans (hb.mono HB.out.size))
    clear hb hcall2
    go_wp2_with fail
    go_ret
    exact ⟨rfl, HB2.out⟩
  · rw [h1] at hcall2
    clear h1
    have HK := Lib.hid (fun (w2 : World) (hb : Below w.heap.size w w2) => at_any (w2.alloc (.cells #[.string kFn] 9)) p M toks low kind s (HP.out.below (hb.alloc hb.size _)) (some ⟨w2.heap.size, 0, none⟩) 1 1 [kFn] (StrsAt.new w2 [kFn] 9 _ rfl) rfl (by decide))
    clear HP
    go_enter Tryz.func306, Tryz.ntmps306
    go_wp2_with fail
    refine hcall.out.mono ?_
    rintro e w1 ⟨rfl, rfl⟩
    clear hcall
    go_wp2_with fail
    refine hcall2.out.mono ?_
    rintro e w2 ⟨rfl, hb⟩
    have HB2 := Lib.hid (HB.out.trans (hb.mono HB.out.size))
    clear hb hcall2
    go_wp2_with fail
    refine (HK.out w2 HB2.out).mono ?_
    rintro e w3 ⟨rfl, hb⟩
    have HB3 := Lib.hid ((HB2.out.alloc HB2.out.size _).trans (hb.mono (by have := HB2.out.size; simp; omega)))
    clear hb HK
    go_wp2_with fail
    go_ret
    exact ⟨rfl, HB3.out⟩
end Go.Proofs.YtpibenilagloaaaGreatDoor

/-
  (*parser).lookahead: the walk.
-/
namespace Go.Proofs.YtpibenilagloaaaGreatDoor
open Go.RowKit
set_option linter.unusedVariables false

theorem heap_alloc_lt (w : World) (o : Obj) {b : Nat} (h : b < w.heap.size) : (w.alloc o).heap[b]? = w.heap[b]? := ((Below.refl _ _).alloc (Nat.le_refl _) o).block b h
theorem taken_length (r : List Tok) : (taken r).length ≤ r.length := by unfold taken; rw [List.length_take]; omega
theorem bump_ex (s : PS) (h : s.rest.length < s.gas) : ∃ u, s.bump = some u ∧ u.rest = after s.rest := by
  unfold PS.bump PS.add
  have := taken_length s.rest
  rw [if_pos (by rw [List.length_map]; omega)]
  exact ⟨_, rfl, rfl⟩
/-- a parser made anew over tokens that stand -/
theorem fresh_at {W : World} {F : Nat → Prop} {toks : List Tok} {At : Option Addr} {ct g p : Nat} (rest : List Tok) (hrest : rest <:+ toks) (k : Int) (hk : W.heap[g]? = some (.cells #[.int .i64 k, .string ⟨#[]⟩, .slice none 0 0] 121 (0, 0)))
    (hp : W.heap[p]? = some (.cells #[.slice At toks.length ct, .int .i64 ((toks.length - rest.length : Nat) : Int), .slice (some ⟨g, 0, none⟩) 1 1] 176 (0, 0))) (hne : p ≠ g) (x : Nat) (hx : x < W.heap.size ∧ x ≠ p ∧ x ≠ g) (hF : ∀ b, F b → b < W.heap.size ∧ b ≠ p ∧ b ≠ g ∧ b ≠ x)
    (htok : ToksAt W F At toks) (hb : toks.length ≤ 500000) (hasc : AscAt W) (h1 : 1 ≠ p) (h2 : 1 ≠ g) :
    PAtX W p ⟨fun b => b = p ∨ b = g, x⟩ toks [] k ⟨rest, [], false, 600000⟩ g 1 (.slice none 0 0) At ct := by
  refine ⟨hp, ⟨rfl, .inr ⟨g, 1, _, rfl, Nat.zero_le _, hk, Nat.le_refl _, by decide, rfl, rfl⟩⟩, ⟨[], World.ownsRow_nil _ _ _ _, by unfold RowV; trivial⟩, (fun f hf => by cases hf), htok.keep (fun b hb => ⟨(hF b hb).1, fun h => h.elim (hF b hb).2.1 (hF b hb).2.2.1, (hF b hb).2.2.2⟩) (fun _ _ => rfl),
    ⟨hne, by simp [Value.ownBlock], by simp [Value.ownBlock], (fun f hf => by cases hf), List.Pairwise.nil⟩, ⟨.inl rfl, .inr rfl, by simp [Value.ownBlock], (fun f hf => by cases hf)⟩, hrest, by simp, by simp, hb, hasc, fun h => h.elim h1 h2, ⟨hx.1, fun h => h.elim hx.2.1 hx.2.2⟩⟩
set_option maxRecDepth 100000 in
set_option maxHeartbeats 1600000 in
theorem lookahead_any (w : World) (p : Nat) (M : MM) (toks : List Tok) (low : List LowF) (kind : Int) (s : PS) (h : PAt w p M toks low kind s) :
    Calls Tryz.prog 131 #[.pointer (some ⟨p, 0, none⟩)] w fun e w' => ∃ q M' s', e = .returned (.pointer (some ⟨q, 0, none⟩)) ∧ PAt w' q M' toks [] 0 s' ∧ s'.rest = after s.rest ∧ Below w.heap.size w w' := by
  obtain ⟨g, cap, v, At, ct, hX⟩ := h
  obtain ⟨c0, c1, c2⟩ := hX.cells
  have hplt := lt_of_heap hX.blk
  have HX := Lib.hid hX
  have hle := hX.rest.length_le
  have hbt := hX.btok
  clear hX
  generalize hm : toks.length - s.rest.length = m at *
  generalize hL : toks.length = L at *
  have HM := Lib.hid hm
  have HL := Lib.hid hL
  have hmL : m ≤ L := by omega
  clear hm hL
  go_enter Tryz.func131, Tryz.ntmps131
  go_wp2_with fail
  go_region
  generalize hW : ((w.alloc (.cells #[.int .i64 0, .string ⟨#[]⟩, .slice none 0 0] 121)).alloc (.cells #[.slice At L ct, .int .i64 (m : Int), .slice (some ⟨w.heap.size, 0, none⟩) 1 1] 176)).drew = W
  have hsz : W.heap.size = w.heap.size + 2 := by rw [← hW]; simp
  have HB := Lib.hid (show Below w.heap.size w W by rw [← hW]; exact (((Below.refl _ _).alloc (Nat.le_refl _) _).alloc (by simp) _).drew)
  have n0 : W.heap[w.heap.size]? = some (.cells #[.int .i64 0, .string ⟨#[]⟩, .slice none 0 0] 121 (0, 0)) := by
    rw [← hW]
    show ((w.alloc _).alloc _).heap[_]? = _
    rw [heap_alloc_lt _ _ (by simp)]
    exact heap_alloc_new _ _
  have n1 : W.heap[w.heap.size + 1]? = some (.cells #[.slice At L ct, .int .i64 (m : Int), .slice (some ⟨w.heap.size, 0, none⟩) 1 1] 176 (0, 0)) := by
    rw [← hW]
    have := heap_alloc_new (w.alloc (.cells #[.int .i64 0, .string ⟨#[]⟩, .slice none 0 0] 121)) (.cells #[.slice At L ct, .int .i64 (m : Int), .slice (some ⟨w.heap.size, 0, none⟩) 1 1] 176)
    simp only [World.size_alloc] at this
    exact this
  have hF : ∀ b, Fix w M b → b < W.heap.size ∧ b ≠ w.heap.size + 1 ∧ b ≠ w.heap.size ∧ b ≠ M.x := fun b hb => by have := hb.1; have := hb.3; omega
  rw [← HL.out, ← HM.out, ← HL.out] at n1
  have hasc := HX.out.asc.lt
  have hQ := fresh_at s.rest HX.out.rest 0 n0 n1 (by omega) M.x (by have := HX.out.hole.1; omega) hF (HX.out.tok.keep (fun _ h => h) (fun b hb => HB.out.block b hb.1)) (by rw [HL.out]; exact hbt) (HX.out.asc.below HB.out) (by omega) (by omega)
  obtain ⟨u, hu1, hu2⟩ := bump_ex ⟨s.rest, [], false, 600000⟩ (by show s.rest.length < 600000; omega)
  have hcall := Lib.hid (bump_any W (w.heap.size + 1) _ toks [] 0 _ u ⟨_, _, _, _, _, hQ⟩ hu1)
  have HU := Lib.hid hu2
  clear hW n0 n1 hF hQ hu1 hu2 c0 c1 c2 hasc
  go_wp2_with fail
  refine hcall.out.mono ?_
  rintro e w1 ⟨rfl, M1, hp1, hst1⟩
  have HP1 := Lib.hid hp1
  have HB1 := Lib.hid (show Below w.heap.size w w1 from ⟨hst1.os.trans HB.out.os, hst1.tape.trans HB.out.tape, hst1.output.trans HB.out.output, Nat.le_trans HB.out.size hst1.size, fun b hb => (hst1.block b (Nat.lt_of_lt_of_le hb HB.out.size) (fun h => by rcases h with h | h <;> omega)).trans (HB.out.block b hb)⟩)
  clear hcall hp1 hst1
  go_wp2_with fail
  go_ret
  exact ⟨_, M1, u, rfl, HP1.out, HU.out, HB1.out⟩
end Go.Proofs.YtpibenilagloaaaGreatDoor
