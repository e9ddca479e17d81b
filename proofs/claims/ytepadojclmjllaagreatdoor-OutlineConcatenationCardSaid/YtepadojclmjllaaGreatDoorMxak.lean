import Derived.Test.YtepadojclmjllaaGreatDoorMxab
import Derived.Test.YtepadojclmjllaaGreatDoorMxae
import Derived.Test.YtepadojclmjllaaGreatDoorMxaj
/-
  Runs with bounded fuel, taken apart.
-/
namespace Go.Proofs.YtepadojclmjllaaGreatDoor
set_option linter.unusedVariables false

/-- a run with less than n fuel -/
def R (n : Nat) (c : Cmd) (s s' : PS) : Prop := ∃ m, m < n ∧ run m c s = some s'
theorem R.suc {n : Nat} {c : Cmd} {s s' : PS} (h : R n c s s') : ∃ m, m + 1 < n ∧ run (m + 1) c s = some s' := by
  obtain ⟨m, h1, h2⟩ := h
  cases m with
  | zero => simp [run] at h2
  | succ m => exact ⟨m, h1, h2⟩
theorem R.gas {n : Nat} {c : Cmd} {s s' : PS} (h : R n c s s') (h0 : 0 < s.gas) : s'.gas ≤ s.gas ∧ 0 < s'.gas := by
  obtain ⟨m, h1, h2⟩ := h
  exact run_gas m c s s' h2 h0
theorem R.skip {n : Nat} {s s' : PS} (h : R n .skip s s') : s' = s := by
  obtain ⟨m, h1, h2⟩ := h.suc
  simp only [run, Option.some.injEq] at h2
  exact h2.symm
theorem R.bump {n : Nat} {s s' : PS} (h : R n .bump s s') : s.bump = some s' := by
  obtain ⟨m, h1, h2⟩ := h.suc
  simp only [run] at h2
  exact h2
theorem R.triv {n : Nat} {s s' : PS} (h : R n .trivia s s') : s.triv = some s' := by
  obtain ⟨m, h1, h2⟩ := h.suc
  simp only [run] at h2
  exact h2
theorem R.leaf {n : Nat} {k : Int} {s s' : PS} (h : R n (.leaf k) s s') : s.add [.mk k .empty []] = some s' := by
  obtain ⟨m, h1, h2⟩ := h.suc
  simp only [run] at h2
  exact h2
theorem R.node {n : Nat} {k : Int} {c : Cmd} {s s' : PS} (h : R n (.node k c) s s') : 1 < s.gas ∧ ∃ u, R n c { s with ch := [], gas := s.gas - 1 } u ∧ s' = { u with ch := s.ch ++ [.mk k .empty u.ch] } := by
  obtain ⟨m, h1, h2⟩ := h.suc
  simp only [run] at h2
  split at h2
  · next hg =>
    obtain ⟨u, hu, rfl⟩ := Option.map_eq_some_iff.1 h2
    exact ⟨hg, u, ⟨m, by omega, hu⟩, rfl⟩
  · cases h2
theorem R.wrap {n : Nat} {k : Int} {c : Cmd} {s s' : PS} (h : R n (.wrap k c) s s') : ∃ x, s.ch.getLast? = some x ∧ 1 < s.gas ∧ ∃ u, R n c { s with ch := [x], gas := s.gas - 1 } u ∧ s' = { u with ch := s.ch.dropLast ++ [.mk k .empty u.ch] } := by
  obtain ⟨m, h1, h2⟩ := h.suc
  simp only [run] at h2
  split at h2
  · cases h2
  · next x hx =>
    split at h2
    · next hg =>
      obtain ⟨u, hu, rfl⟩ := Option.map_eq_some_iff.1 h2
      exact ⟨x, hx, hg, u, ⟨m, by omega, hu⟩, rfl⟩
    · cases h2
theorem R.seq {n : Nat} {c d : Cmd} {s s' : PS} (h : R n (.seq c d) s s') : ∃ u, R n c s u ∧ R n d u s' := by
  obtain ⟨m, h1, h2⟩ := h.suc
  simp only [run] at h2
  obtain ⟨u, hu, h3⟩ := Option.bind_eq_some_iff.1 h2
  exact ⟨u, ⟨m, by omega, hu⟩, ⟨m, by omega, h3⟩⟩
theorem R.yes {n : Nat} {t : Test} {c d : Cmd} {s s' : PS} (h : R n (.ite t c d) s s') (ht : t.eval s.flag s.rest = true) : R n c s s' := by
  obtain ⟨m, h1, h2⟩ := h.suc
  simp only [run, ht, if_true] at h2
  exact ⟨m, by omega, h2⟩
theorem R.no {n : Nat} {t : Test} {c d : Cmd} {s s' : PS} (h : R n (.ite t c d) s s') (ht : t.eval s.flag s.rest = false) : R n d s s' := by
  obtain ⟨m, h1, h2⟩ := h.suc
  simp only [run, ht, Bool.false_eq_true, if_false] at h2
  exact ⟨m, by omega, h2⟩
/-- a loop with m fuel left, in a run with less than n -/
def RL (n m : Nat) (t : Test) (c : Cmd) (s s' : PS) : Prop := m < n ∧ run m (.loop t c) s = some s'
theorem R.loop {n : Nat} {t : Test} {c : Cmd} {s s' : PS} (h : R n (.loop t c) s s') : ∃ m, RL n m t c s s' := by
  obtain ⟨m, h1, h2⟩ := h
  exact ⟨m, h1, h2⟩
theorem RL.yes {n m : Nat} {t : Test} {c : Cmd} {s s' : PS} (h : RL n m t c s s') (ht : t.eval s.flag s.rest = true) : ∃ k u, k < m ∧ R n c s u ∧ RL n k t c u s' := by
  obtain ⟨h1, h2⟩ := h
  cases m with
  | zero => simp [run] at h2
  | succ m =>
    simp only [run, ht, if_true] at h2
    obtain ⟨u, hu, h3⟩ := Option.bind_eq_some_iff.1 h2
    exact ⟨m, u, by omega, ⟨m, by omega, hu⟩, ⟨by omega, h3⟩⟩
theorem RL.no {n m : Nat} {t : Test} {c : Cmd} {s s' : PS} (h : RL n m t c s s') (ht : t.eval s.flag s.rest = false) : s' = s := by
  obtain ⟨h1, h2⟩ := h
  cases m with
  | zero => simp [run] at h2
  | succ m =>
    simp only [run, ht, Bool.false_eq_true, if_false, Option.some.injEq] at h2
    exact h2.symm
theorem R.moved {n : Nat} {c d e : Cmd} {s s' : PS} (h : R n (.moved c d e) s s') : ∃ u, R n c s u ∧ ((u.rest.length = s.rest.length ∧ R n d u s') ∨ (u.rest.length ≠ s.rest.length ∧ R n e u s')) := by
  obtain ⟨m, h1, h2⟩ := h.suc
  simp only [run] at h2
  obtain ⟨u, hu, h3⟩ := Option.bind_eq_some_iff.1 h2
  refine ⟨u, ⟨m, by omega, hu⟩, ?_⟩
  split at h3
  · next hl => exact .inl ⟨hl, m, by omega, h3⟩
  · next hl => exact .inr ⟨hl, m, by omega, h3⟩
theorem R.dropLast {n : Nat} {s s' : PS} (h : R n .dropLast s s') : s.ch ≠ [] ∧ s' = { s with ch := s.ch.dropLast } := by
  obtain ⟨m, h1, h2⟩ := h.suc
  simp only [run] at h2
  split at h2
  · cases h2
  · next a b hx => injection h2 with h2; exact ⟨by rw [hx]; simp, h2.symm⟩
theorem R.insNone {n : Nat} {s s' : PS} (h : R n .insNone s s') : ∃ x, s.ch.getLast? = some x ∧ 1 < s.gas ∧ s' = { s with ch := s.ch.dropLast ++ [.mk 0 .empty [], x], gas := s.gas - 1 } := by
  obtain ⟨m, h1, h2⟩ := h.suc
  simp only [run] at h2
  split at h2
  · cases h2
  · next x hx =>
    split at h2
    · next hg => injection h2 with h2; exact ⟨x, hx, hg, h2.symm⟩
    · cases h2
theorem R.setFlag {n : Nat} {b : Bool} {s s' : PS} (h : R n (.setFlag b) s s') : s' = { s with flag := b } := by
  obtain ⟨m, h1, h2⟩ := h.suc
  simp only [run, Option.some.injEq] at h2
  exact h2.symm
theorem R.call {n : Nat} {f : Fn} {s s' : PS} (h : R (n + 1) (.call f) s s') : R n (body f) s s' := by
  obtain ⟨m, h1, h2⟩ := h.suc
  simp only [run] at h2
  exact ⟨m, by omega, h2⟩
theorem R.accept {n : Nat} {ts : List ByteArray} {s s' : PS} (h : R n (Cmd.accept ts) s s') : (if atB ts s.rest then s.bump else some s) = some s' := by
  unfold Cmd.accept at h
  cases ht : atB ts s.rest
  · rw [(h.no ht).skip]; rfl
  · exact (h.yes ht).bump
theorem R.expect {n : Nat} {t : ByteArray} {s s' : PS} (h : R n (Cmd.expect t) s s') : (if atB [t] s.rest then s.bump else s.add [.mk 108 .empty []]) = some s' := by
  unfold Cmd.expect at h
  cases ht : atB [t] s.rest
  · exact (h.no ht).leaf
  · exact (h.yes ht).bump
theorem R.expectIdent {n : Nat} {s s' : PS} (h : R n Cmd.expectIdent s s') : (if (peekT s.rest).k == 103 then s.bump else s.add [.mk 108 .empty []]) = some s' := by
  unfold Cmd.expectIdent at h
  cases ht : (peekT s.rest).k == 103
  · exact (h.no ht).leaf
  · exact (h.yes ht).bump
theorem R.optional {n : Nat} {t : ByteArray} {c : Cmd} {s s' : PS} (h : R n (Cmd.optional t c) s s') : (atB [t] s.rest = true → ∃ u, s.bump = some u ∧ R n c u s') ∧ (atB [t] s.rest = false → s.add [.mk 0 .empty []] = some s') := by
  unfold Cmd.optional at h
  refine ⟨fun ht => ?_, fun ht => (h.no ht).leaf⟩
  obtain ⟨u, h1, h2⟩ := (h.yes ht).seq
  exact ⟨u, h1.bump, h2⟩
end Go.Proofs.YtepadojclmjllaaGreatDoor

/-
  (*parser).node: the walk.
-/
namespace Go.Proofs.YtepadojclmjllaaGreatDoor
open Go.RowKit
set_option linter.unusedVariables false

/-- a class of worlds -/
abbrev WE := World → MM → Prop
def Stays (E : WE) : Prop := ∀ w M w' M', E w M → Step M w M' w' → E w' M'
/-- what a function value does to the parser, in worlds of E; Q: what it leaves beside -/
def ActsQ (Rel : PS → PS → Prop) (E : WE) (Q : World → MM → World → MM → PS → Prop) (fid : FuncId) (bs cs : Array Value) (p : Nat) (toks : List Tok) : Prop :=
  ∀ w M low kind s s', E w M → PAt w p M toks low kind s → Rel s s' → Calls Tryz.prog fid (bs ++ cs) w (fun e w' => e = .returned (.tuple #[]) ∧ ∃ M', PAt w' p M' toks low kind s' ∧ Q w M w' M' s')
def Acts (Rel : PS → PS → Prop) (E : WE) (fid : FuncId) (bs cs : Array Value) (p : Nat) (toks : List Tok) : Prop :=
  ∀ w M low kind s s', E w M → PAt w p M toks low kind s → Rel s s' → Calls Tryz.prog fid (bs ++ cs) w (Post M w p toks low kind s' (.tuple #[]))

/-- the function has a body that a call enters -/
def Ent (fid : FuncId) : Prop := ∀ (args : Array Value) (w : World), Sem.run Tryz.prog (callFunc fid args) w = .ok (.enter fid args) w

set_option maxRecDepth 100000 in
set_option maxHeartbeats 1600000 in
theorem node_gen (w : World) (p : Nat) (M : MM) (toks : List Tok) (low : List LowF) (kind : Int) (s u : PS) (h : PAt w p M toks low kind s) (k : Int) (Rel : PS → PS → Prop) (E : WE) (Q : World → MM → World → MM → PS → Prop) (hE : Stays E) (fid : FuncId) (bs cs : Array Value)
    (hent : Ent fid) (hA : ActsQ Rel E Q fid bs cs p toks) (he : E w M) (hgas : 1 < s.gas) (hrun : Rel { s with ch := [], gas := s.gas - 1 } u) (hgu : u.gas ≤ s.gas - 1 ∧ 0 < u.gas) :
    Calls Tryz.prog 56 #[.pointer (some ⟨p, 0, none⟩), .int .i64 k, .func (.func fid) bs cs] w (fun e w' => e = .returned (.tuple #[]) ∧ ∃ M', PAt w' p M' toks low kind { u with ch := s.ch ++ [.mk k .empty u.ch] } ∧ ∃ w3 M3 w4 M4, Step M w M3 w3 ∧ Q w3 M3 w4 M4 u ∧ Step M4 w4 M' w') := by
  obtain ⟨g, cap, v, At, ct, hX⟩ := h
  obtain ⟨c0, c1, c2⟩ := hX.cells
  have hplt := lt_of_heap hX.blk
  have hfz := hX.thaw 2
  have hap := hX.apart.1
  have hown2 := hX.row
  obtain ⟨i0, hi0, hz0, hz1, hz2⟩ := info_parts info_tree
  have hxl : (low.flatMap LowF.cells ++ [.int .i64 kind, .string .empty, v]).length = (low.length + 1) * 3 := by rw [List.length_append, lowCells_length]; simp; omega
  have hb1 : low.length + 1 + 1 ≤ maxLen := by have := hX.blow; unfold maxLen; omega
  have hb2 : (low.length + 1 + 1) * 48 ≤ 140737488355328 := by have := hX.blow; omega
  have hX2 := hX.below (Below.refl _ _)
  have HX := Lib.hid hX
  have hown0 := Lib.hid ((hown2.alloc (.cells #[.int .i64 0, .string ⟨#[]⟩, .slice none 0 0] 53)).drew)
  clear hX hX2
  have hK : ∀ (w2 : World) (gg cap' : Nat), ((w.alloc (.cells #[.int .i64 0, .string ⟨#[]⟩, .slice none 0 0] 53)).drew).grownBy w2 (Value.slice (some ⟨g, 0, none⟩) (low.length + 1) cap).ownBlock →
      w2.ownsRow 0 53 3 (.slice (some ⟨gg, 0, none⟩) (low.length + 1 + 1) cap') (low.length + 1 + 1) (low.flatMap LowF.cells ++ [.int .i64 kind, .string .empty, v] ++ [.int .i64 0, .string ⟨#[]⟩, .slice none 0 0]) → ((Value.slice (some ⟨g, 0, none⟩) (low.length + 1) cap).ownBlock = some gg ∨ gg = w.heap.size + 1) →
      ((w2.cell? ⟨p, 2, none⟩ = some (.slice (some ⟨g, 0, none⟩) (low.length + 1) cap) ∧ w2.frozen? ⟨p, 2, none⟩ = false ∧ p < w2.heap.size) ∧
      (w2.cell? ⟨gg, (low.length + 1) * 3, none⟩ = some (.int .i64 0) ∧ w2.cell? ⟨gg, (low.length + 1) * 3 + 1, none⟩ = some (.string ⟨#[]⟩) ∧ w2.cell? ⟨gg, (low.length + 1) * 3 + 2, none⟩ = some (.slice none 0 0)) ∧
      (w2.frozen? ⟨gg, (low.length + 1) * 3, none⟩ = false ∧ w2.frozen? ⟨gg, (low.length + 1) * 3 + 1, none⟩ = false ∧ w2.frozen? ⟨gg, (low.length + 1) * 3 + 2, none⟩ = false) ∧ gg ≠ p ∧ gg < w2.heap.size) ∧ Hid (w.grownBy w2 (some g)) ∧ Hid (gg = g ∨ w.heap.size ≤ gg) := by
    intro w2 gg cap' hg ho hat
    have hsz : ((w.alloc (.cells #[.int .i64 0, .string ⟨#[]⟩, .slice none 0 0] 53)).drew).heap.size = w.heap.size + 1 := by simp
    have hB := hg.size
    rw [hsz] at hB
    have hg1 : w.grownBy w2 (some g) := World.grownBy.trans (World.grownBy.trans (World.grownBy_alloc w (.cells #[.int .i64 0, .string ⟨#[]⟩, .slice none 0 0] 53) _) (c := (w.alloc (.cells #[.int .i64 0, .string ⟨#[]⟩, .slice none 0 0] 53)).drew) ⟨rfl, rfl, rfl, Nat.le_refl _, fun _ _ _ => rfl⟩) hg
    have hne : some p ≠ some g := fun e => hap (by injection e)
    have k1 := fun j => (hg1.cell_far ⟨p, j, none⟩ hplt hne)
    have k2 := fun j => (hg1.frozen_far ⟨p, j, none⟩ hplt hne)
    have k4 := fun j (hj : j < 3) => ho.cellAt ((low.length + 1) * 3 + j) (by omega)
    have hat2 : gg = g ∨ w.heap.size ≤ gg := by
      rcases hat with h | h
      · exact .inl (by simp only [Value.ownBlock, Option.some.injEq] at h; exact h.symm)
      · exact .inr (by omega)
    refine ⟨⟨⟨(k1 _).trans c2, (k2 _).trans hfz, by omega⟩, ⟨?_, ?_, ?_⟩, ⟨ho.frozenAt _, ho.frozenAt _, ho.frozenAt _⟩, ?_, (ho.lt gg rfl).2⟩, hg1, hat2⟩
    · have := k4 0 (by omega); rw [Nat.add_zero] at this; rw [this, List.getElem?_append_right (by omega)]; simp [hxl]
    · rw [k4 1 (by omega), List.getElem?_append_right (by omega), hxl, Nat.add_sub_cancel_left]; rfl
    · rw [k4 2 (by omega), List.getElem?_append_right (by omega), hxl, Nat.add_sub_cancel_left]; rfl
    · rcases hat2 with h | h
      · rw [h]; exact fun e => hap e.symm
      · omega
  have HK := Lib.hid hK
  have hin : ∀ u ∈ [Value.int .i64 0, .string ⟨#[]⟩, .slice none 0 0], u.oneCell' = true := by simp [Value.oneCell']
  have HA := Lib.hid hA
  have HE := Lib.hid hE
  have HRUN := Lib.hid hrun
  clear hA hE hrun hK
  obtain ⟨xs, hxs⟩ : ∃ xs, low.flatMap LowF.cells ++ [.int .i64 kind, .string .empty, v] = xs := ⟨_, rfl⟩
  rw [hxs] at hown2 hown0 HK
  have HXS := Lib.hid hxs
  clear hxs hxl
  have hnI : (0 : Int) ≤ low.length := by omega
  have hnI2 : ((low.length : Int) + 1) < (low.length : Int) + 1 + 1 := by omega
  have hnI3 : ((low.length + 1 : Nat) : Int) < ((low.length + 1 + 1 : Nat) : Int) := by omega
  have hnI4 : (0 : Int) ≤ (low.length : Int) + 1 := by omega
  go_enter Tryz.func56, Tryz.ntmps56
  go_wp2_with fail
  go_region_law
    ((refine step_append_lies _ (by rfl) (.tmp 9) (.tmp 13) _ (by rfl) 0 53 i0 _ 3 48 Tryz.underlying51 hi0 hz0 hz1 hz2 rfl (by decide) (.slice (some ⟨g, 0, none⟩) (low.length + 1) cap) (low.length + 1) xs (by rfl) hown0.out
        ⟨w.heap.size, 0, none⟩ 1 1 [.int .i64 0, .string ⟨#[]⟩, .slice none 0 0] (by rfl) (by rfl) (World.news_of_block (cs := #[_, _, _]) (t := 53) (fr := (0, 0)) (heap_alloc_new _ _)) hin (by decide) hb1 hb2 (by simp) (w.heap.size + 1) (by simp) ?_; intro gg cap' w2 hown1 hgrow hat hlt; obtain ⟨⟨⟨k1, k2, k3⟩, ⟨k7, k8, k9⟩, ⟨k10, k11, k12⟩, k13, k15⟩, k16, k17⟩ := HK.out _ _ _ hgrow hown1 hat))
  all_goals
    try rw [set_comm _ (a := ⟨p, 2, none⟩) (b := ⟨gg, (low.length + 1) * 3, none⟩) (fun e => k13 e.symm), set_comm _ (a := ⟨p, 2, none⟩) (b := ⟨gg, (low.length + 1) * 3 + 1, none⟩) (fun e => k13 e.symm), set_comm _ (a := ⟨p, 2, none⟩) (b := ⟨gg, (low.length + 1) * 3 + 2, none⟩) (fun e => k13 e.symm)]
    rw [← HXS.out] at hown1
    obtain ⟨P1, P2⟩ := HX.out.push k s.flag hgas k16.out hown1 k17.out (v' := .slice none 0 0) (xs := []) (ch' := []) (.inl rfl) (World.ownsRow_nil _ _ _ _) (fun _ => by unfold RowV; trivial) (by simp)
    obtain ⟨w3, hw3⟩ : ∃ w3, ((((w2.setCell ⟨gg, (low.length + 1) * 3, none⟩ (.int .i64 k)).setCell ⟨gg, (low.length + 1) * 3 + 1, none⟩ (.string .empty)).setCell ⟨gg, (low.length + 1) * 3 + 2, none⟩ (.slice none 0 0)).setCell ⟨p, 2, none⟩ (.slice (some ⟨gg, 0, none⟩) (low.length + 1 + 1) cap')) = w3 := ⟨_, rfl⟩
    rw [hw3] at P1 P2
    have hgo := HA.out w3 _ _ _ _ u (HE.out _ _ _ _ he P2) ⟨_, _, _, _, _, P1⟩ HRUN.out
    have hcall := Lib.hid hgo
    have HP2 := Lib.hid P2
    have bch := HX.out.bch
    have blow := HX.out.blow
    have hg3 : u.gas ≤ s.gas - 1 := hgu.1
    change Exit.then _ _ _ _ ((((w2.setCell ⟨gg, (low.length + 1) * 3, none⟩ (.int .i64 k)).setCell ⟨gg, (low.length + 1) * 3 + 1, none⟩ (.string .empty)).setCell ⟨gg, (low.length + 1) * 3 + 2, none⟩ (.slice none 0 0)).setCell ⟨p, 2, none⟩ (.slice (some ⟨gg, 0, none⟩) (low.length + 1 + 1) cap'))
    rw [hw3]
    clear P1 P2 hgo hw3 hown1 hgrow hat k1 k2 k3 k7 k8 k9 k10 k11 k12 hown0 hown2 c0 c1 c2 hfz hz0 hz1 hz2 hi0
    have hent2 : ∀ w0 : World, Sem.run Tryz.prog (callFunc fid (bs ++ cs)) w0 = .ok (.enter fid (bs ++ cs)) w0 := fun w0 => hent _ _
    go_wp2_with fail
    refine hcall.out.mono ?_
    rintro e w4 ⟨rfl, M4, hp4, hq4⟩
    have hfin := Lib.hid (finish_any w4 p M4 toks low ⟨kind, v, s.ch⟩ k u hp4 u.flag hgu.2 (by show s.ch.length + (u.gas + 1) ≤ 1000000; omega) (by omega))
    have HST := Lib.hid hq4
    clear hp4 hq4 hcall hent2
    go_wp2_with fail
    refine hfin.out.mono ?_
    rintro e w5 ⟨rfl, M5, hp5, hst5⟩
    have HQ := Lib.hid hp5
    have HQ2 := Lib.hid hst5
    clear hp5 hst5 hfin
    go_wp2_with fail
    go_end0
    exact ⟨rfl, M5, HQ.out, w3, _, w4, M4, HP2.out, HST.out, HQ2.out⟩
theorem node_any (w : World) (p : Nat) (M : MM) (toks : List Tok) (low : List LowF) (kind : Int) (s u : PS) (h : PAt w p M toks low kind s) (k : Int) (Rel : PS → PS → Prop) (E : WE) (hE : Stays E) (fid : FuncId) (bs cs : Array Value)
    (hent : Ent fid) (hA : Acts Rel E fid bs cs p toks) (he : E w M) (hgas : 1 < s.gas) (hrun : Rel { s with ch := [], gas := s.gas - 1 } u) (hgu : u.gas ≤ s.gas - 1 ∧ 0 < u.gas) :
    Calls Tryz.prog 56 #[.pointer (some ⟨p, 0, none⟩), .int .i64 k, .func (.func fid) bs cs] w (Post M w p toks low kind { u with ch := s.ch ++ [.mk k .empty u.ch] } (.tuple #[])) :=
  (node_gen w p M toks low kind s u h k Rel E (fun w M w' M' _ => Step M w M' w') hE fid bs cs hent hA he hgas hrun hgu).mono fun e w' ⟨h1, M', h2, w3, M3, w4, M4, h3, h4, h5⟩ => ⟨h1, M', h2, (h3.trans h4).trans h5⟩
end Go.Proofs.YtepadojclmjllaaGreatDoor

/-
  The closures are entered.
-/
namespace Go.Proofs.YtepadojclmjllaaGreatDoor
open Go.RowKit
set_option linter.unusedVariables false
theorem ent_of {f : FuncId} {fn : Func} (hf : Tryz.prog.funcs[f]? = some fn) (hn : (fn.name == "runtime.NumGoroutine") = false) (hb : fn.body.isNone = false) : Ent f := by
  intro args w
  have hn' : ¬ fn.name = "runtime.NumGoroutine" := by simpa using hn
  have hb' : ¬ fn.body = none := by intro e; rw [e] at hb; cases hb
  simp [callFunc, go_sem, hf, hn', hb']
theorem ent_bump : Ent 59 := ent_of Tryz.func59 (by kernel_rfl) (by kernel_rfl)
end Go.Proofs.YtepadojclmjllaaGreatDoor

/-
  (*parser).unexpected: the walk.
-/
namespace Go.Proofs.YtepadojclmjllaaGreatDoor
open Go.RowKit
set_option linter.unusedVariables false

theorem acts_bump (n : Nat) (p : Nat) (toks : List Tok) : Acts (R n .bump) (fun _ _ => True) 59 #[.pointer (some ⟨p, 0, none⟩)] #[] p toks :=
  fun w M low kind s s' _ h hr => bump_any w p M toks low kind s s' h hr.bump
set_option maxRecDepth 100000 in
theorem unexpected_any (w : World) (p : Nat) (M : MM) (toks : List Tok) (low : List LowF) (kind : Int) (n : Nat) (s s' : PS) (h : PAt w p M toks low kind s) (hs : R n Cmd.unexpected s s') :
    Calls Tryz.prog 162 #[.pointer (some ⟨p, 0, none⟩)] w (Post M w p toks low kind s' (.tuple #[])) := by
  unfold Cmd.unexpected at hs
  obtain ⟨hg, u, hu, rfl⟩ := hs.node
  have hcall := Lib.hid (node_any w p M toks low kind s u h 46 (R n .bump) (fun _ _ => True) (fun _ _ _ _ _ _ => True.intro) _ _ _ ent_bump (acts_bump n p toks) True.intro hg hu (hu.gas (by show 0 < s.gas - 1; omega)))
  clear h hs hu
  go_enter Tryz.func162, Tryz.ntmps162
  go_wp2_with fail
  refine hcall.out.mono ?_
  rintro e w1 ⟨rfl, hq⟩
  have HQ := Lib.hid hq
  clear hq hcall
  go_wp2_with fail
  go_end0
  exact ⟨rfl, HQ.out⟩
end Go.Proofs.YtepadojclmjllaaGreatDoor

/-
  (*parser).optional: the walk.
-/
namespace Go.Proofs.YtepadojclmjllaaGreatDoor
open Go.RowKit
set_option linter.unusedVariables false

set_option maxRecDepth 100000 in
theorem optional_any (w : World) (p : Nat) (M : MM) (toks : List Tok) (low : List LowF) (kind : Int) (s s' : PS) (h : PAt w p M toks low kind s) (t : ByteArray) (Rel : PS → PS → Prop) (E : WE) (hE : Stays E) (fid : FuncId) (bs cs : Array Value)
    (hent : Ent fid) (hA : Acts Rel E fid bs cs p toks) (he : E w M) (hyes : atB [t] s.rest = true → ∃ u, s.bump = some u ∧ Rel u s') (hno : atB [t] s.rest = false → s.add [.mk 0 .empty []] = some s') :
    Calls Tryz.prog 129 #[.pointer (some ⟨p, 0, none⟩), .string t, .func (.func fid) bs cs] w (Post M w p toks low kind s' (.tuple #[])) := by
  have HB := Lib.hid (show Below w.heap.size w (w.alloc (.cells #[.string t] 9)) from (Below.refl _ _).alloc (Nat.le_refl _) _)
  have HP := Lib.hid (h.below HB.out)
  have HA := Lib.hid (StrsAt.new w [t] 9 _ rfl)
  have HE := Lib.hid hE
  have HACT := Lib.hid hA
  clear h hE hA
  cases ht : atB [t] s.rest
  · have hs := hno ht
    have HS := Lib.hid hs
    have hcall := Lib.hid (accept_any _ p M toks low kind s s HP.out (some ⟨w.heap.size, 0, none⟩) 1 1 [t] HA.out rfl (by decide) (by rw [ht]; rfl))
    rw [ht] at hcall
    clear ht hs hyes hno
    go_enter Tryz.func129, Tryz.ntmps129
    go_wp2_with fail
    refine hcall.out.mono ?_
    rintro e w1 ⟨rfl, M1, hp1, hst1⟩
    have hcall2 := Lib.hid (absent_any _ p M1 toks low kind s s' hp1 HS.out)
    have HST := Lib.hid ((Step.of_below HB.out).trans hst1)
    clear hp1 hst1 hcall
    go_wp2_with fail
    refine hcall2.out.mono ?_
    rintro e w2 ⟨rfl, hq⟩
    have HQ := Lib.hid hq
    clear hq
    go_wp2_with fail
    go_end0
    exact Post.mono HST.out ⟨rfl, HQ.out⟩
  · obtain ⟨u, h1, h2⟩ := hyes ht
    have H2 := Lib.hid h2
    have hcall := Lib.hid (accept_any _ p M toks low kind s u HP.out (some ⟨w.heap.size, 0, none⟩) 1 1 [t] HA.out rfl (by decide) (by rw [ht]; exact h1))
    rw [ht] at hcall
    clear ht hyes hno h1 h2
    have hent2 : ∀ w0 : World, Sem.run Tryz.prog (callFunc fid (bs ++ cs)) w0 = .ok (.enter fid (bs ++ cs)) w0 := fun w0 => hent _ _
    clear hent
    go_enter Tryz.func129, Tryz.ntmps129
    go_wp2_with fail
    refine hcall.out.mono ?_
    rintro e w1 ⟨rfl, M1, hp1, hst1⟩
    have HST := Lib.hid ((Step.of_below HB.out).trans hst1)
    have hcall2 := Lib.hid (HACT.out w1 M1 low kind u s' (HE.out _ _ _ _ he HST.out) hp1 H2.out)
    clear hp1 hst1 hcall
    go_wp2_with fail
    refine hcall2.out.mono ?_
    rintro e w2 ⟨rfl, hq⟩
    have HQ := Lib.hid hq
    clear hq
    go_wp2_with fail
    go_end0
    exact Post.mono HST.out ⟨rfl, HQ.out⟩
end Go.Proofs.YtepadojclmjllaaGreatDoor
