import Derived.Test.YtpibenilagloaaaGreatDoorMzad
import Derived.Test.YtpibenilagloaaaGreatDoorSya
import Derived.Test.YtpibenilagloaaaGreatDoorMzaa
import Derived.Lib.AtoiAll
namespace Go.Proofs.YtpibenilagloaaaGreatDoor
open Go.RowKit
set_option linter.unusedVariables false
abbrev WE := World → MM → Prop
def Stays (E : WE) : Prop := ∀ w M w' M', E w M → Step M w M' w' → E w' M'
def ActsQ (Rel : PS → PS → Prop) (E : WE) (Q : World → MM → World → MM → PS → Prop) (fid : FuncId) (bs cs : Array Value) (p : Nat) (toks : List Tok) : Prop :=
  ∀ w M low kind s s', E w M → PAt w p M toks low kind s → Rel s s' → Calls Tryz.prog fid (bs ++ cs) w (fun e w' => e = .returned (.tuple #[]) ∧ ∃ M', PAt w' p M' toks low kind s' ∧ Q w M w' M' s')
def Acts (Rel : PS → PS → Prop) (E : WE) (fid : FuncId) (bs cs : Array Value) (p : Nat) (toks : List Tok) : Prop :=
  ∀ w M low kind s s', E w M → PAt w p M toks low kind s → Rel s s' → Calls Tryz.prog fid (bs ++ cs) w (Post M w p toks low kind s' (.tuple #[]))
def Ent (fid : FuncId) : Prop := ∀ (args : Array Value) (w : World), Sem.run Tryz.prog (callFunc fid args) w = .ok (.enter fid args) w
set_option maxRecDepth 100000 in
set_option maxHeartbeats 1600000 in
theorem node_gen (w : World) (p : Nat) (M : MM) (toks : List Tok) (low : List LowF) (kind : Int) (s u : PS) (h : PAt w p M toks low kind s) (k : Int) (Rel : PS → PS → Prop) (E : WE) (Q : World → MM → World → MM → PS → Prop) (hE : Stays E) (fid : FuncId) (bs cs : Array Value)
    (hent : Ent fid) (hA : ActsQ Rel E Q fid bs cs p toks) (he : E w M) (hgas : 1 < s.gas) (hrun : Rel { s with ch := [], gas := s.gas - 1 } u) (hgu : u.gas ≤ s.gas - 1 ∧ 0 < u.gas) :
    Calls Tryz.prog 134 #[.pointer (some ⟨p, 0, none⟩), .int .i64 k, .func (.func fid) bs cs] w (fun e w' => e = .returned (.tuple #[]) ∧ ∃ M', PAt w' p M' toks low kind { u with ch := s.ch ++ [.mk k .empty u.ch] } ∧ ∃ w3 M3 w4 M4, Step M w M3 w3 ∧ Q w3 M3 w4 M4 u ∧ Step M4 w4 M' w') := by
  obtain ⟨g, cap, v, At, ct, hX⟩ := h
  obtain ⟨c0, c1, c2⟩ := hX.cells
  have hplt := lt_of_heap hX.blk
  have hfz := hX.thaw 2
  have hap := hX.apart.1
  have hown2 := hX.row
  obtain ⟨i0, hi0, hz0, hz1, hz2⟩ := info_parts info_tree
  have hxl : (low.flatMap LowF.cells ++ [.int .i64 kind, .string .empty, v]).length = (low.length + 1) * 3 := by rw [List.length_append, lowCells_length]; simp; omega
  have hb1 : low.length + 1 + 1 ≤ maxLen := by have := hX.blow; unfold maxLen; omega
  have hb2 : (low.length + 1 + 1) * 48 ≤ 140737488355328 := by have := hX.blow; omega
  have hX2 := hX.below (Below.refl _ _)
  have HX := Lib.hid hX
  have hown0 := Lib.hid ((hown2.alloc (.cells #[.int .i64 0, .string ⟨#[]⟩, .slice none 0 0] 121)).drew)
  clear hX hX2
  have hK : ∀ (w2 : World) (gg cap' : Nat), ((w.alloc (.cells #[.int .i64 0, .string ⟨#[]⟩, .slice none 0 0] 121)).drew).grownBy w2 (Value.slice (some ⟨g, 0, none⟩) (low.length + 1) cap).ownBlock →
      w2.ownsRow 0 121 3 (.slice (some ⟨gg, 0, none⟩) (low.length + 1 + 1) cap') (low.length + 1 + 1) (low.flatMap LowF.cells ++ [.int .i64 kind, .string .empty, v] ++ [.int .i64 0, .string ⟨#[]⟩, .slice none 0 0]) → ((Value.slice (some ⟨g, 0, none⟩) (low.length + 1) cap).ownBlock = some gg ∨ gg = w.heap.size + 1) →
      ((w2.cell? ⟨p, 2, none⟩ = some (.slice (some ⟨g, 0, none⟩) (low.length + 1) cap) ∧ w2.frozen? ⟨p, 2, none⟩ = false ∧ p < w2.heap.size) ∧
      (w2.cell? ⟨gg, (low.length + 1) * 3, none⟩ = some (.int .i64 0) ∧ w2.cell? ⟨gg, (low.length + 1) * 3 + 1, none⟩ = some (.string ⟨#[]⟩) ∧ w2.cell? ⟨gg, (low.length + 1) * 3 + 2, none⟩ = some (.slice none 0 0)) ∧
      (w2.frozen? ⟨gg, (low.length + 1) * 3, none⟩ = false ∧ w2.frozen? ⟨gg, (low.length + 1) * 3 + 1, none⟩ = false ∧ w2.frozen? ⟨gg, (low.length + 1) * 3 + 2, none⟩ = false) ∧ gg ≠ p ∧ gg < w2.heap.size) ∧ Hid (w.grownBy w2 (some g)) ∧ Hid (gg = g ∨ w.heap.size ≤ gg) := by
    intro w2 gg cap' hg ho hat
    have hsz : ((w.alloc (.cells #[.int .i64 0, .string ⟨#[]⟩, .slice none 0 0] 121)).drew).heap.size = w.heap.size + 1 := by simp
    have hB := hg.size
    rw [hsz] at hB
    have hg1 : w.grownBy w2 (some g) := World.grownBy.trans (World.grownBy.trans (World.grownBy_alloc w (.cells #[.int .i64 0, .string ⟨#[]⟩, .slice none 0 0] 121) _) (c := (w.alloc (.cells #[.int .i64 0, .string ⟨#[]⟩, .slice none 0 0] 121)).drew) ⟨rfl, rfl, rfl, Nat.le_refl _, fun _ _ _ => rfl⟩) hg
    have hne : some p ≠ some g := fun e => hap (by injection e)
    have k1 := fun j => (hg1.cell_far ⟨p, j, none⟩ hplt hne)
    have k2 := fun j => (hg1.frozen_far ⟨p, j, none⟩ hplt hne)
    have k4 := fun j (hj : j < 3) => ho.cellAt ((low.length + 1) * 3 + j) (by omega)
    have hat2 : gg = g ∨ w.heap.size ≤ gg := by
      rcases hat with h | h
      · exact .inl (by simp only [Value.ownBlock, Option.some.injEq] at h; exact h.symm)
      · exact .inr (by omega)
    refine ⟨⟨⟨(k1 _).trans c2, (k2 _).trans hfz, by omega⟩, ⟨?_, ?_, ?_⟩, ⟨ho.frozenAt _, ho.frozenAt _, ho.frozenAt _⟩, ?_, (ho.lt gg rfl).2⟩, hg1, hat2⟩
    · have := k4 0 (by omega); rw [Nat.add_zero] at this; rw [this, List.getElem?_append_right (by omega)]; simp [hxl]
    · rw [k4 1 (by omega), List.getElem?_append_right (by omega), hxl, Nat.add_sub_cancel_left]; rfl
    · rw [k4 2 (by omega), List.getElem?_append_right (by omega), hxl, Nat.add_sub_cancel_left]; rfl
    · rcases hat2 with h | h
      · rw [h]; exact fun e => hap e.symm
      · omega
  have HK := Lib.hid hK
  have hin : ∀ u ∈ [Value.int .i64 0, .string ⟨#[]⟩, .slice none 0 0], u.oneCell' = true := by simp [Value.oneCell']
  have HA := Lib.hid hA
  have HE := Lib.hid hE
  have HRUN := Lib.hid hrun
  clear hA hE hrun hK
  obtain ⟨xs, hxs⟩ : ∃ xs, low.flatMap LowF.cells ++ [.int .i64 kind, .string .empty, v] = xs := ⟨_, rfl⟩
  rw [hxs] at hown2 hown0 HK
  have HXS := Lib.hid hxs
  clear hxs hxl
  have hnI : (0 : Int) ≤ low.length := by omega
  have hnI2 : ((low.length : Int) + 1) < (low.length : Int) + 1 + 1 := by omega
  have hnI3 : ((low.length + 1 : Nat) : Int) < ((low.length + 1 + 1 : Nat) : Int) := by omega
  have hnI4 : (0 : Int) ≤ (low.length : Int) + 1 := by omega
  go_enter Tryz.func134, Tryz.ntmps134
  go_wp2_with fail
  go_region_law
    ((refine step_append_lies _ (by rfl) (.tmp 9) (.tmp 13) _ (by rfl) 0 121 i0 _ 3 48 Tryz.underlying119 hi0 hz0 hz1 hz2 rfl (by decide) (.slice (some ⟨g, 0, none⟩) (low.length + 1) cap) (low.length + 1) xs (by rfl) hown0.out
        ⟨w.heap.size, 0, none⟩ 1 1 [.int .i64 0, .string ⟨#[]⟩, .slice none 0 0] (by rfl) (by rfl) (World.news_of_block (cs := #[_, _, _]) (t := 121) (fr := (0, 0)) (heap_alloc_new _ _)) hin (by decide) hb1 hb2 (by simp) (w.heap.size + 1) (by simp) ?_; intro gg cap' w2 hown1 hgrow hat hlt; obtain ⟨⟨⟨k1, k2, k3⟩, ⟨k7, k8, k9⟩, ⟨k10, k11, k12⟩, k13, k15⟩, k16, k17⟩ := HK.out _ _ _ hgrow hown1 hat))
  all_goals
    try rw [set_comm _ (a := ⟨p, 2, none⟩) (b := ⟨gg, (low.length + 1) * 3, none⟩) (fun e => k13 e.symm), set_comm _ (a := ⟨p, 2, none⟩) (b := ⟨gg, (low.length + 1) * 3 + 1, none⟩) (fun e => k13 e.symm), set_comm _ (a := ⟨p, 2, none⟩) (b := ⟨gg, (low.length + 1) * 3 + 2, none⟩) (fun e => k13 e.symm)]
    rw [← HXS.out] at hown1
    obtain ⟨P1, P2⟩ := HX.out.push k s.flag hgas k16.out hown1 k17.out (v' := .slice none 0 0) (xs := []) (ch' := []) (.inl rfl) (World.ownsRow_nil _ _ _ _) (fun _ => by unfold RowV; trivial) (by simp)
    obtain ⟨w3, hw3⟩ : ∃ w3, ((((w2.setCell ⟨gg, (low.length + 1) * 3, none⟩ (.int .i64 k)).setCell ⟨gg, (low.length + 1) * 3 + 1, none⟩ (.string .empty)).setCell ⟨gg, (low.length + 1) * 3 + 2, none⟩ (.slice none 0 0)).setCell ⟨p, 2, none⟩ (.slice (some ⟨gg, 0, none⟩) (low.length + 1 + 1) cap')) = w3 := ⟨_, rfl⟩
    rw [hw3] at P1 P2
    have hgo := HA.out w3 _ _ _ _ u (HE.out _ _ _ _ he P2) ⟨_, _, _, _, _, P1⟩ HRUN.out
    have hcall := Lib.hid hgo
    have HP2 := Lib.hid P2
    have bch := HX.out.bch
    have blow := HX.out.blow
    have hg3 : u.gas ≤ s.gas - 1 := hgu.1
    change Exit.then _ _ _ _ ((((w2.setCell ⟨gg, (low.length + 1) * 3, none⟩ (.int .i64 k)).setCell ⟨gg, (low.length + 1) * 3 + 1, none⟩ (.string .empty)).setCell ⟨gg, (low.length + 1) * 3 + 2, none⟩ (.slice none 0 0)).setCell ⟨p, 2, none⟩ (.slice (some ⟨gg, 0, none⟩) (low.length + 1 + 1) cap'))
    rw [hw3]
    clear P1 P2 hgo hw3 hown1 hgrow hat k1 k2 k3 k7 k8 k9 k10 k11 k12 hown0 hown2 c0 c1 c2 hfz hz0 hz1 hz2 hi0
    have hent2 : ∀ w0 : World, Sem.run Tryz.prog (callFunc fid (bs ++ cs)) w0 = .ok (.enter fid (bs ++ cs)) w0 := fun w0 => hent _ _
    go_wp2_with fail
    refine hcall.out.mono ?_
    rintro e w4 ⟨rfl, M4, hp4, hq4⟩
    have hfin := Lib.hid (finish_any w4 p M4 toks low ⟨kind, v, s.ch⟩ k u hp4 u.flag hgu.2 (by show s.ch.length + (u.gas + 1) ≤ 1000000; omega) (by omega))
    have HST := Lib.hid hq4
    clear hp4 hq4 hcall hent2
    go_wp2_with fail
    refine hfin.out.mono ?_
    rintro e w5 ⟨rfl, M5, hp5, hst5⟩
    have HQ := Lib.hid hp5
    have HQ2 := Lib.hid hst5
    clear hp5 hst5 hfin
    go_wp2_with fail
    go_end0
    exact ⟨rfl, M5, HQ.out, w3, _, w4, M4, HP2.out, HST.out, HQ2.out⟩
theorem node_any (w : World) (p : Nat) (M : MM) (toks : List Tok) (low : List LowF) (kind : Int) (s u : PS) (h : PAt w p M toks low kind s) (k : Int) (Rel : PS → PS → Prop) (E : WE) (hE : Stays E) (fid : FuncId) (bs cs : Array Value)
    (hent : Ent fid) (hA : Acts Rel E fid bs cs p toks) (he : E w M) (hgas : 1 < s.gas) (hrun : Rel { s with ch := [], gas := s.gas - 1 } u) (hgu : u.gas ≤ s.gas - 1 ∧ 0 < u.gas) :
    Calls Tryz.prog 134 #[.pointer (some ⟨p, 0, none⟩), .int .i64 k, .func (.func fid) bs cs] w (Post M w p toks low kind { u with ch := s.ch ++ [.mk k .empty u.ch] } (.tuple #[])) :=
  (node_gen w p M toks low kind s u h k Rel E (fun w M w' M' _ => Step M w M' w') hE fid bs cs hent hA he hgas hrun hgu).mono fun e w' ⟨h1, M', h2, w3, M3, w4, M4, h3, h4, h5⟩ => ⟨h1, M', h2, (h3.trans h4).trans h5⟩

theorem ent_of {f : FuncId} {fn : Func} (hf : Tryz.prog.funcs[f]? = some fn) (hn : (fn.name == "runtime.NumGoroutine") = false) (hb : fn.body.isNone = false) : Ent f := by
  intro args w
  have hn' : ¬ fn.name = "runtime.NumGoroutine" := by simpa using hn
  have hb' : ¬ fn.body = none := by intro e; rw [e] at hb; cases hb
  simp [callFunc, go_sem, hf, hn', hb']
theorem ent_bump : Ent 137 := ent_of Tryz.func137 (by kernel_rfl) (by kernel_rfl)

theorem acts_bump (n : Nat) (p : Nat) (toks : List Tok) : Acts (R n .bump) (fun _ _ => True) 137 #[.pointer (some ⟨p, 0, none⟩)] #[] p toks :=
  fun w M low kind s s' _ h hr => bump_any w p M toks low kind s s' h hr.bump
set_option maxRecDepth 100000 in
theorem unexpected_any (w : World) (p : Nat) (M : MM) (toks : List Tok) (low : List LowF) (kind : Int) (n : Nat) (s s' : PS) (h : PAt w p M toks low kind s) (hs : R n Cmd.unexpected s s') :
    Calls Tryz.prog 307 #[.pointer (some ⟨p, 0, none⟩)] w (Post M w p toks low kind s' (.tuple #[])) := by
  unfold Cmd.unexpected at hs
  obtain ⟨hg, u, hu, rfl⟩ := hs.node
  have hcall := Lib.hid (node_any w p M toks low kind s u h 46 (R n .bump) (fun _ _ => True) (fun _ _ _ _ _ _ => True.intro) _ _ _ ent_bump (acts_bump n p toks) True.intro hg hu (hu.gas (by show 0 < s.gas - 1; omega)))
  clear h hs hu
  go_enter Tryz.func307, Tryz.ntmps307
  go_wp2_with fail
  refine hcall.out.mono ?_
  rintro e w1 ⟨rfl, hq⟩
  have HQ := Lib.hid hq
  clear hq hcall
  go_wp2_with fail
  go_end0
  exact ⟨rfl, HQ.out⟩

set_option maxRecDepth 100000 in
theorem optional_any (w : World) (p : Nat) (M : MM) (toks : List Tok) (low : List LowF) (kind : Int) (s s' : PS) (h : PAt w p M toks low kind s) (t : ByteArray) (Rel : PS → PS → Prop) (E : WE) (hE : Stays E) (fid : FuncId) (bs cs : Array Value)
    (hent : Ent fid) (hA : Acts Rel E fid bs cs p toks) (he : E w M) (hyes : atB [t] s.rest = true → ∃ u, s.bump = some u ∧ Rel u s') (hno : atB [t] s.rest = false → s.add [.mk 0 .empty []] = some s') :
    Calls Tryz.prog 261 #[.pointer (some ⟨p, 0, none⟩), .string t, .func (.func fid) bs cs] w (Post M w p toks low kind s' (.tuple #[])) := by
  have HB := Lib.hid (show Below w.heap.size w (w.alloc (.cells #[.string t] 9)) from (Below.refl _ _).alloc (Nat.le_refl _) _)
  have HP := Lib.hid (h.below HB.out)
  have HA := Lib.hid (StrsAt.new w [t] 9 _ rfl)
  have HE := Lib.hid hE
  have HACT := Lib.hid hA
  clear h hE hA
  cases ht : atB [t] s.rest
  · have hs := hno ht
    have HS := Lib.hid hs
    have hcall := Lib.hid (accept_any _ p M toks low kind s s HP.out (some ⟨w.heap.size, 0, none⟩) 1 1 [t] HA.out rfl (by decide) (by rw [ht]; rfl))
    rw [ht] at hcall
    clear ht hs hyes hno
    go_enter Tryz.func261, Tryz.ntmps261
    go_wp2_with fail
    refine hcall.out.mono ?_
    rintro e w1 ⟨rfl, M1, hp1, hst1⟩
    have hcall2 := Lib.hid (absent_any _ p M1 toks low kind s s' hp1 HS.out)
    have HST := Lib.hid ((Step.of_below HB.out).trans hst1)
    clear hp1 hst1 hcall
    go_wp2_with fail
    refine hcall2.out.mono ?_
    rintro e w2 ⟨rfl, hq⟩
    have HQ := Lib.hid hq
    clear hq
    go_wp2_with fail
    go_end0
    exact Post.mono HST.out ⟨rfl, HQ.out⟩
  · obtain ⟨u, h1, h2⟩ := hyes ht
    have H2 := Lib.hid h2
    have hcall := Lib.hid (accept_any _ p M toks low kind s u HP.out (some ⟨w.heap.size, 0, none⟩) 1 1 [t] HA.out rfl (by decide) (by rw [ht]; exact h1))
    rw [ht] at hcall
    clear ht hyes hno h1 h2
    have hent2 : ∀ w0 : World, Sem.run Tryz.prog (callFunc fid (bs ++ cs)) w0 = .ok (.enter fid (bs ++ cs)) w0 := fun w0 => hent _ _
    clear hent
    go_enter Tryz.func261, Tryz.ntmps261
    go_wp2_with fail
    refine hcall.out.mono ?_
    rintro e w1 ⟨rfl, M1, hp1, hst1⟩
    have HST := Lib.hid ((Step.of_below HB.out).trans hst1)
    have hcall2 := Lib.hid (HACT.out w1 M1 low kind u s' (HE.out _ _ _ _ he HST.out) hp1 H2.out)
    clear hp1 hst1 hcall
    go_wp2_with fail
    refine hcall2.out.mono ?_
    rintro e w2 ⟨rfl, hq⟩
    have HQ := Lib.hid hq
    clear hq
    go_wp2_with fail
    go_end0
    exact Post.mono HST.out ⟨rfl, HQ.out⟩

theorem fields_at (lit : ByteArray) (ss : List ByteArray) (h1 : lit.size < 4294967281) (h2 : lit.data.toList.all (fun b => decide (b.toNat < 128)) = true) (h3 : (Lib.fields lit.data.toList).map (fun l => (⟨l.toArray⟩ : ByteArray)) = ss) (w : World) (hA : AscAt w) :
    Calls Tryz.prog 206 #[.string lit] w fun e w' => e = .returned (.slice (some ⟨w.heap.size, 0, none⟩) ss.length ss.length) ∧ w' = w.alloc (.cells (ss.map Value.string).toArray 9) := by
  refine (Tryz.strings_Fields lit w h1 (fun j b hb => ?_) hA).mono ?_
  · have := List.all_eq_true.1 h2 b (List.mem_of_getElem? hb)
    simpa using this
  · rintro e w' ⟨rfl, rfl⟩
    subst h3
    rw [List.length_map, List.map_map]
    exact ⟨rfl, rfl⟩
theorem fields_items (w : World) (hA : AscAt w) : Calls Tryz.prog 206 #[.string ⟨#[117, 115, 101, 32, 112, 117, 98, 32, 102, 110, 32, 115, 116, 114, 117, 99, 116, 32, 101, 110, 117, 109, 32, 116, 114, 97, 105, 116, 32, 105, 109, 112, 108, 32, 99, 111, 110, 115, 116, 32, 109, 97, 99, 114, 111]⟩] w fun e w' =>
    e = .returned (.slice (some ⟨w.heap.size, 0, none⟩) 9 9) ∧ w' = w.alloc (.cells (Cmd.items.map Value.string).toArray 9) := fields_at _ Cmd.items (by decide) (by decide) (by decide) w hA
def kinds : List ByteArray := [kUse, kFn, kStruct, kEnum, kTrait, kImpl, kConst, kMacro]
theorem fields_kinds (w : World) (hA : AscAt w) : Calls Tryz.prog 206 #[.string ⟨#[117, 115, 101, 32, 102, 110, 32, 115, 116, 114, 117, 99, 116, 32, 101, 110, 117, 109, 32, 116, 114, 97, 105, 116, 32, 105, 109, 112, 108, 32, 99, 111, 110, 115, 116, 32, 109, 97, 99, 114, 111]⟩] w fun e w' =>
    e = .returned (.slice (some ⟨w.heap.size, 0, none⟩) 8 8) ∧ w' = w.alloc (.cells (kinds.map Value.string).toArray 9) := fields_at _ kinds (by decide) (by decide) (by decide) w hA
set_option maxRecDepth 100000 in
theorem itemKeywords_any (w : World) (hA : AscAt w) : Calls Tryz.prog 208 #[] w fun e w' => e = .returned (.slice (some ⟨w.heap.size, 0, none⟩) 9 9) ∧ w' = w.alloc (.cells (Cmd.items.map Value.string).toArray 9) := by
  have hcall := Lib.hid (fields_items w hA)
  clear hA
  go_enter Tryz.func208, Tryz.ntmps208
  go_wp2_with fail
  refine hcall.out.mono ?_
  rintro e w1 ⟨rfl, rfl⟩
  clear hcall
  go_wp2_with fail
  go_ret
  exact ⟨rfl, rfl⟩
theorem idxFromS_bd (x : ByteArray) : ∀ (zs : List ByteArray) (k : Nat), Lib.idxFromS zs x k = -1 ∨ ((k : Int) ≤ Lib.idxFromS zs x k ∧ Lib.idxFromS zs x k < (k : Int) + zs.length)
  | [], k => .inl rfl
  | z :: zs, k => by
    unfold Lib.idxFromS
    split
    · exact .inr ⟨Int.le_refl _, by simp only [List.length_cons]; omega⟩
    · rcases idxFromS_bd x zs (k + 1) with h | ⟨h1, h2⟩
      · exact .inl h
      · exact .inr ⟨by omega, by simp only [List.length_cons]; omega⟩
def kindIx (t : ByteArray) : Int := if Lib.idxOfS kinds t < 0 then 0 else 2 + Lib.idxOfS kinds t
theorem kinds_lt : kinds.length = 8 := rfl
set_option maxRecDepth 100000 in
theorem itemKind_any (w : World) (t : ByteArray) (hA : AscAt w) : Calls Tryz.prog 132 #[.string t] w fun e w' => e = .returned (.int .i64 (kindIx t)) ∧ Below w.heap.size w w' := by
  have hcall := Lib.hid (fields_kinds w hA)
  have HB := Lib.hid (show Below w.heap.size w (w.alloc (.cells (kinds.map Value.string).toArray 9)) from (Below.refl _ _).alloc (Nat.le_refl _) _)
  have hcall2 := Lib.hid (Tryz.slices_Index_string w.heap.size 0 8 8 kinds t (w.alloc (.cells (kinds.map Value.string).toArray 9)) (Nat.le_refl _) (by omega) (fun j hj => by
    rw [Lib.cell_of_heap (heap_alloc_new _ _)]
    simp only [Nat.zero_add]
    rw [show ((kinds.map Value.string).toArray)[j]? = (kinds.map Value.string)[j]? by simp, List.getElem?_map, List.getElem?_eq_getElem hj]
    simp [List.getD, List.getElem?_eq_getElem hj]))
  rw [show kinds.take 8 = kinds from rfl] at hcall2
  have hb : -1 ≤ Lib.idxOfS kinds t ∧ Lib.idxOfS kinds t < 8 := by
    rcases idxFromS_bd t kinds 0 with h | ⟨h1, h2⟩
    · unfold Lib.idxOfS; omega
    · rw [kinds_lt] at h2; unfold Lib.idxOfS; omega
  unfold kindIx
  clear hA
  generalize Lib.idxOfS kinds t = i at *
  obtain ⟨hb1, hb2⟩ := hb
  generalize hW : w.alloc (.cells (kinds.map Value.string).toArray 9) = W at *
  clear hW
  by_cases hi : i < 0
  · rw [if_pos hi]
    go_enter Tryz.func132, Tryz.ntmps132
    go_wp2_with fail
    refine hcall.out.mono ?_
    rintro e w1 ⟨rfl, rfl⟩
    clear hcall
    go_wp2_with fail
    refine hcall2.out.mono ?_
    rintro e w1 ⟨rfl, rfl⟩
    clear hcall2
    go_wp2_with fail
    go_ret
    exact ⟨rfl, HB.out⟩
  · rw [if_neg hi]
    have hi0 : 0 ≤ i := by omega
    go_enter Tryz.func132, Tryz.ntmps132
    go_wp2_with fail
    refine hcall.out.mono ?_
    rintro e w1 ⟨rfl, rfl⟩
    clear hcall
    go_wp2_with fail
    refine hcall2.out.mono ?_
    rintro e w1 ⟨rfl, rfl⟩
    clear hcall2
    go_wp2_with fail
    go_ret
    exact ⟨rfl, HB.out⟩
set_option maxRecDepth 100000 in
theorem atItem_any (w : World) (p : Nat) (M : MM) (toks : List Tok) (low : List LowF) (kind : Int) (s : PS) (h : PAt w p M toks low kind s) :
    Calls Tryz.prog 306 #[.pointer (some ⟨p, 0, none⟩)] w fun e w' => e = .returned (.bool (Cmd.atItem.eval s.flag s.rest)) ∧ Below w.heap.size w w' := by
  have hasc : AscAt w := by obtain ⟨g, cap, v, At, ct, hX⟩ := h; exact hX.asc
  have hcall := Lib.hid (itemKeywords_any w hasc)
  have HB := Lib.hid (show Below w.heap.size w (w.alloc (.cells (Cmd.items.map Value.string).toArray 9)) from (Below.refl _ _).alloc (Nat.le_refl _) _)
  have hcall2 := Lib.hid (at_any _ p M toks low kind s (h.below HB.out) (some ⟨w.heap.size, 0, none⟩) 9 9 Cmd.items (StrsAt.new w Cmd.items 9 _ rfl) rfl (by decide))
  have HP := Lib.hid h
  have he : Cmd.atItem.eval s.flag s.rest = (atB Cmd.items s.rest && !atB [kFn] s.rest) := rfl
  rw [he]
  clear he h hasc
  generalize w.alloc (.cells (Cmd.items.map Value.string).toArray 9) = W at *
  cases h1 : atB Cmd.items s.rest
  · rw [h1] at hcall2
    clear h1
    go_enter Tryz.func306, Tryz.ntmps306
    go_wp2_with fail
    refine hcall.out.mono ?_
    rintro e w1 ⟨rfl, rfl⟩
    clear hcall
    go_wp2_with fail
    refine hcall2.out.mono ?_
    rintro e w2 ⟨rfl, hb⟩
    have HB2 := Lib.hid (HB.out.trans (hb.mono HB.out.size))
    clear hb hcall2
    go_wp2_with fail
    go_ret
    exact ⟨rfl, HB2.out⟩
  · rw [h1] at hcall2
    clear h1
    have HK := Lib.hid (fun (w2 : World) (hb : Below w.heap.size w w2) => at_any (w2.alloc (.cells #[.string kFn] 9)) p M toks low kind s (HP.out.below (hb.alloc hb.size _)) (some ⟨w2.heap.size, 0, none⟩) 1 1 [kFn] (StrsAt.new w2 [kFn] 9 _ rfl) rfl (by decide))
    clear HP
    go_enter Tryz.func306, Tryz.ntmps306
    go_wp2_with fail
    refine hcall.out.mono ?_
    rintro e w1 ⟨rfl, rfl⟩
    clear hcall
    go_wp2_with fail
    refine hcall2.out.mono ?_
    rintro e w2 ⟨rfl, hb⟩
    have HB2 := Lib.hid (HB.out.trans (hb.mono HB.out.size))
    clear hb hcall2
    go_wp2_with fail
    refine (HK.out w2 HB2.out).mono ?_
    rintro e w3 ⟨rfl, hb⟩
    have HB3 := Lib.hid ((HB2.out.alloc HB2.out.size _).trans (hb.mono (by have := HB2.out.size; simp; omega)))
    clear hb HK
    go_wp2_with fail
    go_ret
    exact ⟨rfl, HB3.out⟩

theorem heap_alloc_lt (w : World) (o : Obj) {b : Nat} (h : b < w.heap.size) : (w.alloc o).heap[b]? = w.heap[b]? := ((Below.refl _ _).alloc (Nat.le_refl _) o).block b h
theorem taken_length (r : List Tok) : (taken r).length ≤ r.length := by unfold taken; rw [List.length_take]; omega
theorem bump_ex (s : PS) (h : s.rest.length < s.gas) : ∃ u, s.bump = some u ∧ u.rest = after s.rest := by
  unfold PS.bump PS.add
  have := taken_length s.rest
  rw [if_pos (by rw [List.length_map]; omega)]
  exact ⟨_, rfl, rfl⟩
theorem fresh_at {W : World} {F : Nat → Prop} {toks : List Tok} {At : Option Addr} {ct g p : Nat} (rest : List Tok) (hrest : rest <:+ toks) (k : Int) (hk : W.heap[g]? = some (.cells #[.int .i64 k, .string ⟨#[]⟩, .slice none 0 0] 121 (0, 0)))
    (hp : W.heap[p]? = some (.cells #[.slice At toks.length ct, .int .i64 ((toks.length - rest.length : Nat) : Int), .slice (some ⟨g, 0, none⟩) 1 1] 176 (0, 0))) (hne : p ≠ g) (x : Nat) (hx : x < W.heap.size ∧ x ≠ p ∧ x ≠ g) (hF : ∀ b, F b → b < W.heap.size ∧ b ≠ p ∧ b ≠ g ∧ b ≠ x)
    (htok : ToksAt W F At toks) (hb : toks.length ≤ 500000) (hasc : AscAt W) (h1 : 1 ≠ p) (h2 : 1 ≠ g) :
    PAtX W p ⟨fun b => b = p ∨ b = g, x⟩ toks [] k ⟨rest, [], false, 600000⟩ g 1 (.slice none 0 0) At ct := by
  refine ⟨hp, ⟨rfl, .inr ⟨g, 1, _, rfl, Nat.zero_le _, hk, Nat.le_refl _, by decide, rfl, rfl⟩⟩, ⟨[], World.ownsRow_nil _ _ _ _, by unfold RowV; trivial⟩, (fun f hf => by cases hf), htok.keep (fun b hb => ⟨(hF b hb).1, fun h => h.elim (hF b hb).2.1 (hF b hb).2.2.1, (hF b hb).2.2.2⟩) (fun _ _ => rfl),
    ⟨hne, by simp [Value.ownBlock], by simp [Value.ownBlock], (fun f hf => by cases hf), List.Pairwise.nil⟩, ⟨.inl rfl, .inr rfl, by simp [Value.ownBlock], (fun f hf => by cases hf)⟩, hrest, by simp, by simp, hb, hasc, fun h => h.elim h1 h2, ⟨hx.1, fun h => h.elim hx.2.1 hx.2.2⟩⟩
set_option maxRecDepth 100000 in
set_option maxHeartbeats 1600000 in
theorem lookahead_any (w : World) (p : Nat) (M : MM) (toks : List Tok) (low : List LowF) (kind : Int) (s : PS) (h : PAt w p M toks low kind s) :
    Calls Tryz.prog 131 #[.pointer (some ⟨p, 0, none⟩)] w fun e w' => ∃ q M' s', e = .returned (.pointer (some ⟨q, 0, none⟩)) ∧ PAt w' q M' toks [] 0 s' ∧ s'.rest = after s.rest ∧ Below w.heap.size w w' := by
  obtain ⟨g, cap, v, At, ct, hX⟩ := h
  obtain ⟨c0, c1, c2⟩ := hX.cells
  have hplt := lt_of_heap hX.blk
  have HX := Lib.hid hX
  have hle := hX.rest.length_le
  have hbt := hX.btok
  clear hX
  generalize hm : toks.length - s.rest.length = m at *
  generalize hL : toks.length = L at *
  have HM := Lib.hid hm
  have HL := Lib.hid hL
  have hmL : m ≤ L := by omega
  clear hm hL
  go_enter Tryz.func131, Tryz.ntmps131
  go_wp2_with fail
  go_region
  generalize hW : ((w.alloc (.cells #[.int .i64 0, .string ⟨#[]⟩, .slice none 0 0] 121)).alloc (.cells #[.slice At L ct, .int .i64 (m : Int), .slice (some ⟨w.heap.size, 0, none⟩) 1 1] 176)).drew = W
  have hsz : W.heap.size = w.heap.size + 2 := by rw [← hW]; simp
  have HB := Lib.hid (show Below w.heap.size w W by rw [← hW]; exact (((Below.refl _ _).alloc (Nat.le_refl _) _).alloc (by simp) _).drew)
  have n0 : W.heap[w.heap.size]? = some (.cells #[.int .i64 0, .string ⟨#[]⟩, .slice none 0 0] 121 (0, 0)) := by
    rw [← hW]
    show ((w.alloc _).alloc _).heap[_]? = _
    rw [heap_alloc_lt _ _ (by simp)]
    exact heap_alloc_new _ _
  have n1 : W.heap[w.heap.size + 1]? = some (.cells #[.slice At L ct, .int .i64 (m : Int), .slice (some ⟨w.heap.size, 0, none⟩) 1 1] 176 (0, 0)) := by
    rw [← hW]
    have := heap_alloc_new (w.alloc (.cells #[.int .i64 0, .string ⟨#[]⟩, .slice none 0 0] 121)) (.cells #[.slice At L ct, .int .i64 (m : Int), .slice (some ⟨w.heap.size, 0, none⟩) 1 1] 176)
    simp only [World.size_alloc] at this
    exact this
  have hF : ∀ b, Fix w M b → b < W.heap.size ∧ b ≠ w.heap.size + 1 ∧ b ≠ w.heap.size ∧ b ≠ M.x := fun b hb => by have := hb.1; have := hb.3; omega
  rw [← HL.out, ← HM.out, ← HL.out] at n1
  have hasc := HX.out.asc.lt
  have hQ := fresh_at s.rest HX.out.rest 0 n0 n1 (by omega) M.x (by have := HX.out.hole.1; omega) hF (HX.out.tok.keep (fun _ h => h) (fun b hb => HB.out.block b hb.1)) (by rw [HL.out]; exact hbt) (HX.out.asc.below HB.out) (by omega) (by omega)
  obtain ⟨u, hu1, hu2⟩ := bump_ex ⟨s.rest, [], false, 600000⟩ (by show s.rest.length < 600000; omega)
  have hcall := Lib.hid (bump_any W (w.heap.size + 1) _ toks [] 0 _ u ⟨_, _, _, _, _, hQ⟩ hu1)
  have HU := Lib.hid hu2
  clear hW n0 n1 hF hQ hu1 hu2 c0 c1 c2 hasc
  go_wp2_with fail
  refine hcall.out.mono ?_
  rintro e w1 ⟨rfl, M1, hp1, hst1⟩
  have HP1 := Lib.hid hp1
  have HB1 := Lib.hid (show Below w.heap.size w w1 from ⟨hst1.os.trans HB.out.os, hst1.tape.trans HB.out.tape, hst1.output.trans HB.out.output, Nat.le_trans HB.out.size hst1.size, fun b hb => (hst1.block b (Nat.lt_of_lt_of_le hb HB.out.size) (fun h => by rcases h with h | h <;> omega)).trans (HB.out.block b hb)⟩)
  clear hcall hp1 hst1
  go_wp2_with fail
  go_ret
  exact ⟨_, M1, u, rfl, HP1.out, HU.out, HB1.out⟩
end Go.Proofs.YtpibenilagloaaaGreatDoor

namespace Go.Proofs.YtpibenilagloaaaGreatDoor
set_option linter.unusedVariables false
structure Hd where
  k : Int
  v : Int
  t : ByteArray
  s : Int
  e : Int
  nm : Int
instance : Inhabited Hd := ⟨⟨0, 0, .empty, 0, 0, 0⟩⟩
inductive Node where
  | mk (h : Hd) (ch : List Node)
instance : Inhabited Node := ⟨.mk default []⟩
def Node.h : Node → Hd | .mk h _ => h
def Node.ch : Node → List Node | .mk _ c => c
structure Dg where
  code : Int
  mod : Int
  s : Int
  e : Int
  nm : ByteArray
instance : Inhabited Dg := ⟨⟨0, 0, 0, 0, .empty⟩⟩
deriving instance DecidableEq for Dg
structure BS where
  off : Int
  ds : List Dg
def BS.rep (b : BS) (c s e : Int) : BS := { b with ds := b.ds ++ [⟨c, 0, s, e, .empty⟩] }
def orI (a b : Int) : Int := IntKind.i64.wrap ((BitVec.ofInt 64 a ||| BitVec.ofInt 64 b).toNat : Int)
def nameKinds : List Int := [2, 3, 4, 5, 6, 8, 9, 11, 13, 14, 15, 16, 18, 31, 32, 34, 44]
def hasNameB (k : Int) : Bool := nameKinds.contains k
def extendH (h : Hd) (s e : Int) : Hd := { h with s := if h.e < 0 then s else h.s, e := e }
def setFlagH (h : Hd) (t : ByteArray) : Hd :=
  if t = kPub then { h with v := orI h.v 1 }
  else if t = kMut then { h with v := orI h.v 1 }
  else if t = pStar ∧ h.k = 2 then { h with v := orI h.v 2 }
  else if t = kTrue ∧ h.k = 28 then { h with v := 1 }
  else if (h.k = 39 ∨ h.k = 40) ∧ h.t = .empty then { h with t := t } else h
def identB (t : ByteArray) (s : Int) (b : BS) : BS := if 30 < t.size then b.rep 5 s b.off else b
def identH (h : Hd) (t : ByteArray) (s : Int) : Hd := if hasNameB h.k = true ∧ h.nm < 0 then { h with t := t, nm := s } else h
def intOfL (t : ByteArray) : Option Int := match Lib.atoiAll t.data.toList with
  | .ok v => if 2147483647 < v then none else some v
  | _ => none
def intV (t : ByteArray) : Int := (intOfL t).getD 2147483647
def intB (t : ByteArray) (s : Int) (b : BS) : BS := if (intOfL t).isNone then b.rep 4 s b.off else b
def uqG (l : List UInt8) : Nat → Nat → List UInt8 × List Int
  | 0, _ => ([], [])
  | n + 1, i => if i + 1 < l.length then
      (if l.getD i 0 = 92 then
        let d := l.getD (i + 1) 0
        let r := uqG l n (i + 2)
        (if d = 110 then (10 :: r.1, r.2) else if d = 34 ∨ d = 92 then (d :: r.1, r.2) else (d :: r.1, (i : Int) :: r.2))
      else let r := uqG l n (i + 1); (l.getD i 0 :: r.1, r.2))
    else ([], [])
def unqL (t : ByteArray) : List UInt8 := (uqG t.data.toList t.size 1).1
def unqB (t : ByteArray) (s : Int) (b : BS) : BS := { b with ds := b.ds ++ (uqG t.data.toList t.size 1).2.map fun i => ⟨6, 0, s + i, s + i + 2, .empty⟩ }
def tokH (h : Hd) (k : Int) (t : ByteArray) (s e : Int) : Hd :=
  if k = 101 ∨ k = 102 then h
  else if k = 108 then (if t = .empty then h else extendH h s e)
  else if k = 103 then extendH (identH h t s) s e
  else if k = 105 then extendH { h with v := intV t } s e
  else if k = 106 then extendH { h with t := ofL (unqL t) } s e
  else extendH (setFlagH h t) s e
def tokB (k : Int) (t : ByteArray) (b : BS) : BS :=
  let s := b.off
  let b1 : BS := { b with off := b.off + t.size }
  if k = 108 then (if t = .empty then b1.rep 1 s s else b1.rep 3 s b1.off)
  else if k = 103 then identB t s b1
  else if k = 105 then intB t s b1
  else if k = 106 then unqB t s b1
  else b1
def finN (src : ByteArray) (h : Hd) (ch : List Node) : Node :=
  if h.k = 60 then .mk { (ch.headD default).h with s := h.s, e := h.e } (ch.headD default).ch
  else if h.k = 46 then .mk ⟨46, 0, src.extract h.s.toNat h.e.toNat, h.s, h.e, -1⟩ []
  else .mk h ch
def finB (h : Hd) (b : BS) : BS := if h.k = 60 then b else if h.k = 46 then b.rep (if h.s = h.e then 1 else 2) h.s h.e else b
structure NS where
  h : Hd
  ch : List Node
  b : BS
def newH (k s : Int) : Hd := ⟨k, 0, .empty, s, -1, -1⟩
def maxH (h : Hd) : Hd := { h with e := max h.e h.s }
mutual
def nodeL (src : ByteArray) : Tree → BS → Node × BS
  | .mk k t ch, b =>
    let r := kidsL src ch ⟨newH k b.off, [], b⟩
    (finN src (maxH r.h) r.ch, finB (maxH r.h) r.b)
def kidsL (src : ByteArray) : List Tree → NS → NS
  | [], s => s
  | x :: r, s =>
    if 100 ≤ x.k then kidsL src r ⟨tokH s.h x.k x.t s.b.off (s.b.off + x.t.size), s.ch, tokB x.k x.t s.b⟩
    else kidsL src r ⟨extendH s.h (nodeL src x s.b).1.h.s (nodeL src x s.b).1.h.e, s.ch ++ [(nodeL src x s.b).1], (nodeL src x s.b).2⟩
end
theorem kidsL_tok {src : ByteArray} {x : Tree} {r : List Tree} {s : NS} (h : 100 ≤ x.k) : kidsL src (x :: r) s = kidsL src r ⟨tokH s.h x.k x.t s.b.off (s.b.off + x.t.size), s.ch, tokB x.k x.t s.b⟩ := by
  rw [kidsL, if_pos h]
theorem kidsL_node {src : ByteArray} {x : Tree} {r : List Tree} {s : NS} (h : ¬ 100 ≤ x.k) : kidsL src (x :: r) s = kidsL src r ⟨extendH s.h (nodeL src x s.b).1.h.s (nodeL src x s.b).1.h.e, s.ch ++ [(nodeL src x s.b).1], (nodeL src x s.b).2⟩ := by
  rw [kidsL, if_neg h]
mutual
def Tree.wt : Tree → Nat
  | .mk _ t ch => t.size + 1 + wts ch
def wts : List Tree → Nat
  | [] => 0
  | x :: r => x.wt + wts r
end
end Go.Proofs.YtpibenilagloaaaGreatDoor

namespace Go.Proofs.YtpibenilagloaaaGreatDoor
open Go.RowKit
set_option linter.unusedVariables false
theorem Step.alloc {M : MM} (w : World) (o : Obj) : Step M w M (w.alloc o) := Step.of_below ((Below.refl _ _).alloc (Nat.le_refl _) o)
theorem Step.set {M M' : MM} {w w1 : World} (h : Step M w M' w1) (b i : Nat) (v : Value) (hb : M b ∨ w.heap.size ≤ b) : Step M w M' (w1.setCell ⟨b, i, none⟩ v) :=
  ⟨h.os, h.tape, h.output, by simp only [World.size_setCell]; exact h.size, fun c hc hM => (Below.heap_setCell _ _ _ _ (by rintro rfl; rcases hb with hb | hb; exact hM hb; omega)).trans (h.block c hc hM), h.own, h.hx⟩
def More (M : MM) (o : Option Nat) : MM := ⟨fun b => M b ∨ o = some b, M.x⟩
theorem Step.grown {M : MM} {w w2 : World} {v v' : Value} (hg : w.grownBy w2 v.ownBlock) (hm : ∀ b, v.ownBlock = some b → M b) (hat : v'.ownBlock = v.ownBlock ∨ ∃ g, v'.ownBlock = some g ∧ w.heap.size ≤ g) : Step M w (More M v'.ownBlock) w2 :=
  ⟨hg.os, hg.tape, hg.output, hg.size, fun b hb hM => hg.block b hb (fun e => hM (hm b e.symm)), (fun b hb => by
    rcases hb with hb | hb
    · exact .inl hb
    · rcases hat with e | ⟨g, e, hge⟩
      · exact .inl (hm b (by rw [← e, hb]))
      · rw [e] at hb; injection hb with hb; subst hb; exact .inr hge), rfl⟩
def FlatAt {α : Type} (enc : α → List Value) (k : Nat) (w : World) (F : Nat → Prop) (A : Option Addr) (xs : List α) : Prop :=
  0 < xs.length → ∃ b off, A = some ⟨b, off, none⟩ ∧ F b ∧ ∀ i x, xs[i]? = some x → ∀ j v, (enc x)[j]? = some v → w.cell? ⟨b, off + i * k + j, none⟩ = some v
theorem FlatAt.keep {α : Type} {enc : α → List Value} {k : Nat} {w w' : World} {F F' : Nat → Prop} {A : Option Addr} {xs : List α} (h : FlatAt enc k w F A xs) (hF : ∀ b, F b → F' b) (hw : ∀ b, F b → w'.heap[b]? = w.heap[b]?) : FlatAt enc k w' F' A xs := by
  intro hp
  obtain ⟨b, off, rfl, hb, hc⟩ := h hp
  exact ⟨b, off, rfl, hF _ hb, fun i x hx j v hv => (World.cell?_of_block (w := w) (w' := w') (a := ⟨b, _, none⟩) (hw b hb)).trans (hc i x hx j v hv)⟩
theorem flat_length {α : Type} {enc : α → List Value} {k : Nat} (hk : ∀ x, (enc x).length = k) (xs : List α) : (xs.flatMap enc).length = xs.length * k := by
  induction xs with
  | nil => simp
  | cons x r ih => rw [List.flatMap_cons, List.length_append, hk, ih, List.length_cons, Nat.add_mul]; omega
theorem flat_at {α : Type} {enc : α → List Value} {k : Nat} (hk : ∀ x, (enc x).length = k) : ∀ (xs : List α) (i : Nat) (x : α), xs[i]? = some x → ∀ j v, (enc x)[j]? = some v → (xs.flatMap enc)[i * k + j]? = some v
  | [], i, x, h, _, _, _ => by simp at h
  | y :: r, 0, x, h, j, v, hv => by
    simp at h; subst h
    have hj : j < (enc y).length := (List.getElem?_eq_some_iff.1 hv).1
    rw [List.flatMap_cons, Nat.zero_mul, Nat.zero_add, List.getElem?_append_left hj]; exact hv
  | y :: r, i + 1, x, h, j, v, hv => by
    have := flat_at hk r i x (by simpa using h) j v hv
    rw [List.flatMap_cons, List.getElem?_append_right (by rw [hk, Nat.add_mul]; omega), hk, show (i + 1) * k + j - k = i * k + j by rw [Nat.add_mul]; omega]
    exact this
theorem FlatAt.of_own {α : Type} {enc : α → List Value} {k : Nat} (hk : ∀ x, (enc x).length = k) {w : World} {F : Nat → Prop} {base : Nat} {e : TypeId} {v : Value} {xs : List α} (h : w.ownsRow base e k v xs.length (xs.flatMap enc)) (hF : ∀ b, v.ownBlock = some b → F b) :
    ∃ A c, v = .slice A xs.length c ∧ FlatAt enc k w F A xs ∧ (∀ a, A = some a → v.ownBlock = some a.block) ∧ xs.length ≤ c := by
  rcases h.2 with ⟨rfl, hn⟩ | ⟨g, cap, cur, rfl, hb, hh, h3, h4, h5, h6⟩
  · exact ⟨none, 0, by rw [hn], (fun hp => by omega), (fun a ha => by cases ha), by omega⟩
  · refine ⟨some ⟨g, 0, none⟩, cap, rfl, fun _ => ⟨g, 0, rfl, hF g rfl, fun i x hx j u hu => ?_⟩, fun a ha => by injection ha with ha; subst ha; rfl, ?_⟩
    · have := h.cells (g := g) rfl _ _ (flat_at hk xs i x hx j u hu)
      rw [addr0] at this
      simp only [Nat.zero_add]
      exact this
    · exact h3
end Go.Proofs.YtpibenilagloaaaGreatDoor
