import Derived.Test.YtepadojclmjllaaGreatDoorMxao
import Derived.Lib.AtoiAllCases
import Derived.Lib.AtoiErrMem
/-
  The builder: hasName, identifier, integer.
-/
namespace Go.Proofs.YtepadojclmjllaaGreatDoor
open Go.RowKit
set_option linter.unusedVariables false

theorem nameKinds_cells (w : World) (t : TypeId) (W : World) (hW : W = w.alloc (.cells #[.int .i64 2, .int .i64 3, .int .i64 4, .int .i64 5, .int .i64 6, .int .i64 8, .int .i64 9, .int .i64 11, .int .i64 13, .int .i64 14, .int .i64 15, .int .i64 16, .int .i64 18, .int .i64 31, .int .i64 32, .int .i64 34, .int .i64 44] t)) :
    ∀ j, j < nameKinds.length → W.cell? ⟨w.heap.size, 0 + j, none⟩ = some (.int .i64 (nameKinds.getD j 0)) := by
  subst hW
  intro j hj
  rw [Lib.cell_of_heap (heap_alloc_new w _)]
  have hj : j < 17 := hj
  rw [Nat.zero_add]
  obtain rfl | rfl | rfl | rfl | rfl | rfl | rfl | rfl | rfl | rfl | rfl | rfl | rfl | rfl | rfl | rfl | rfl : j = 0 ∨ j = 1 ∨ j = 2 ∨ j = 3 ∨ j = 4 ∨ j = 5 ∨ j = 6 ∨ j = 7 ∨ j = 8 ∨ j = 9 ∨ j = 10 ∨ j = 11 ∨ j = 12 ∨ j = 13 ∨ j = 14 ∨ j = 15 ∨ j = 16 := by omega
  all_goals rfl
set_option maxHeartbeats 1600000 in
theorem hasName_any (k : Int) (w : World) : Calls Tryz.prog 111 #[.int .i64 k] w fun e w' => e = .returned (.bool (hasNameB k)) ∧ Below w.heap.size w w' := by
  have hcon := fun (t : TypeId) (W : World) hW => Tryz.slices_Contains_int w.heap.size 0 17 17 nameKinds k W (by decide) (by decide) (nameKinds_cells w t W hW)
  have e : (nameKinds.take 17).contains k = hasNameB k := rfl
  rw [e] at hcon
  have HC := Lib.hid hcon
  clear hcon e
  generalize hasNameB k = r at HC ⊢
  go_enter Tryz.func111, Tryz.ntmps111
  go_wp2_with fail
  refine (HC.out _ _ rfl).mono ?_
  rintro e w1 ⟨rfl, rfl⟩
  go_wp2
  go_ret
  exact ⟨rfl, (Below.refl _ _).alloc (Nat.le_refl _) _⟩

/-- what a function that writes the builder and a node leaves -/
def NPost (M : MM) (w : World) (p : Nat) (src : ByteArray) (b : BS) (q : Nat) (h : Hd) (v r : Value) (e : Ending) (w' : World) : Prop :=
  e = .returned r ∧ HAt w' q h v ∧ ∃ M' w1, BAt w1 p M' src b ∧ Step M w M' w1 ∧ Upd q w1 w'
set_option maxHeartbeats 1600000 in
theorem identifier_any (w : World) (p : Nat) (M : MM) (src : ByteArray) (b : BS) (hB : BAt w p M src b) (q : Nat) (h : Hd) (v : Value) (H : HAt w q h v) (hq : ¬ M q) (t : ByteArray) (s : Int) (ht : t.size ≤ 1000000) (hl : b.ds.length ≤ 1000000) :
    Calls Tryz.prog 64 #[.pointer (some ⟨p, 0, none⟩), .pointer (some ⟨q, 0, none⟩), .string t, .int .i64 s] w (NPost M w p src (identB t s b) q (identH h t s) v (.tuple #[])) := by
  obtain ⟨d0, d1, d2, d3, d4, d5, d6, f⟩ := hcells H
  have hqlt := lt_of_heap H
  have HH := Lib.hid H
  obtain ⟨vb, hX⟩ := id hB
  have c1 := cell_of hX.blk 1 _ rfl
  have hplt := hX.lt
  have HB := Lib.hid hB
  clear hX H d0 d1 d2 d3 d4 d5 d6 f
  have hid : identB t s b = if 30 < t.size then b.rep 5 s b.off else b := rfl
  by_cases hlen : 30 < t.size
  · have hlt : (30 : Int) < t.size := by omega
    have hcall := report_any w p M src b hB 5 s b.off hl
    rw [if_pos hlen] at hid
    rw [← hid] at hcall
    have HC := Lib.hid hcall
    have HID := Lib.hid hid
    clear hcall hid
    go_enter Tryz.func64, Tryz.ntmps64
    go_wp2_with fail
    refine HC.out.mono ?_
    rintro e w1 ⟨rfl, M1, hB1, hS1⟩
    clear c1
    have q0 : HAt w1 q h v := HH.out.keep ((hS1).block q hqlt hq)
    obtain ⟨d0, d1, d2, d3, d4, d5, d6, f⟩ := hcells q0
    have hq1 : q < w1.heap.size := lt_of_heap q0
    have Q0 := Lib.hid q0
    have HB1 := Lib.hid hB1
    have HS1 := Lib.hid (hS1)
    clear q0 d1 d2 d3 d4 d6 f
    have hcall := hasName_any h.k w1
    cases hb : hasNameB h.k
    · rw [hb] at hcall
      have HBB := Lib.hid hb
      have HC := Lib.hid hcall
      clear hb hcall
      go_wp2_with fail
      refine HC.out.mono ?_
      rintro e w2 ⟨rfl, hb2⟩
      have HB2 := Lib.hid hb2
      clear hb2 d0 d5
      go_wp2
      refine bodyPost_ret (results_none rfl _ _ _) rfl ?_
      refine ⟨rfl, ?_, _, w2, HB1.out.below HB2.out, HS1.out.trans (Step.of_below HB2.out), Upd.refl _ _⟩
      unfold identH
      rw [if_neg (by rw [HBB.out]; intro e; cases e.1)]
      exact Q0.out.keep (HB2.out.block q hq1)
    · rw [hb] at hcall
      have HBB := Lib.hid hb
      have HC := Lib.hid hcall
      clear hb hcall
      by_cases hn : h.nm < 0
      · go_wp2_with fail
        refine HC.out.mono ?_
        rintro e w2 ⟨rfl, hb2⟩
        have q2 : HAt w2 q h v := Q0.out.keep (hb2.block q hq1)
        obtain ⟨g0, g1, g2, g3, g4, g5, g6, f⟩ := hcells q2
        have f2 := f 2
        have f5 := f 5
        have hq2 : q < w2.heap.size := lt_of_heap q2
        have HB2 := Lib.hid hb2
        have Q2 := Lib.hid q2
        clear hb2 d0 d5 q2 f g0 g1 g3 g4 g6
        go_wp2
        refine bodyPost_ret (results_none rfl _ _ _) rfl ?_
        refine ⟨rfl, ?_, _, w2, HB1.out.below HB2.out, HS1.out.trans (Step.of_below HB2.out), ((Upd.refl _ _).set 2 _).set 5 _⟩
        unfold identH
        rw [if_pos ⟨HBB.out, hn⟩]
        exact heap_set (heap_set Q2.out 2 _) 5 _
      · go_wp2_with fail
        refine HC.out.mono ?_
        rintro e w2 ⟨rfl, hb2⟩
        have q2 : HAt w2 q h v := Q0.out.keep (hb2.block q hq1)
        obtain ⟨g0, g1, g2, g3, g4, g5, g6, f⟩ := hcells q2
        have f2 := f 2
        have f5 := f 5
        have hq2 : q < w2.heap.size := lt_of_heap q2
        have HB2 := Lib.hid hb2
        have Q2 := Lib.hid q2
        clear hb2 d0 d5 q2 f g0 g1 g3 g4 g6
        go_wp2
        refine bodyPost_ret (results_none rfl _ _ _) rfl ?_
        refine ⟨rfl, ?_, _, w2, HB1.out.below HB2.out, HS1.out.trans (Step.of_below HB2.out), Upd.refl _ _⟩
        unfold identH
        rw [if_neg (fun e => absurd e.2 (by omega))]
        exact Q2.out
  · have hlt : ¬ (30 : Int) < t.size := by omega
    rw [if_neg hlen] at hid
    have hB1 : BAt w p M src (identB t s b) := by rw [hid]; exact HB.out
    have HID := Lib.hid hid
    clear hid hB c1
    go_enter Tryz.func64, Tryz.ntmps64
    have q0 : HAt w q h v := HH.out.keep ((Step.refl M w).block q hqlt hq)
    obtain ⟨d0, d1, d2, d3, d4, d5, d6, f⟩ := hcells q0
    have hq1 : q < w.heap.size := lt_of_heap q0
    have Q0 := Lib.hid q0
    have HB1 := Lib.hid hB1
    have HS1 := Lib.hid (Step.refl M w)
    clear q0 d1 d2 d3 d4 d6 f
    have hcall := hasName_any h.k w
    cases hb : hasNameB h.k
    · rw [hb] at hcall
      have HBB := Lib.hid hb
      have HC := Lib.hid hcall
      clear hb hcall
      go_wp2_with fail
      refine HC.out.mono ?_
      rintro e w2 ⟨rfl, hb2⟩
      have HB2 := Lib.hid hb2
      clear hb2 d0 d5
      go_wp2
      refine bodyPost_ret (results_none rfl _ _ _) rfl ?_
      refine ⟨rfl, ?_, _, w2, HB1.out.below HB2.out, HS1.out.trans (Step.of_below HB2.out), Upd.refl _ _⟩
      unfold identH
      rw [if_neg (by rw [HBB.out]; intro e; cases e.1)]
      exact Q0.out.keep (HB2.out.block q hq1)
    · rw [hb] at hcall
      have HBB := Lib.hid hb
      have HC := Lib.hid hcall
      clear hb hcall
      by_cases hn : h.nm < 0
      · go_wp2_with fail
        refine HC.out.mono ?_
        rintro e w2 ⟨rfl, hb2⟩
        have q2 : HAt w2 q h v := Q0.out.keep (hb2.block q hq1)
        obtain ⟨g0, g1, g2, g3, g4, g5, g6, f⟩ := hcells q2
        have f2 := f 2
        have f5 := f 5
        have hq2 : q < w2.heap.size := lt_of_heap q2
        have HB2 := Lib.hid hb2
        have Q2 := Lib.hid q2
        clear hb2 d0 d5 q2 f g0 g1 g3 g4 g6
        go_wp2
        refine bodyPost_ret (results_none rfl _ _ _) rfl ?_
        refine ⟨rfl, ?_, _, w2, HB1.out.below HB2.out, HS1.out.trans (Step.of_below HB2.out), ((Upd.refl _ _).set 2 _).set 5 _⟩
        unfold identH
        rw [if_pos ⟨HBB.out, hn⟩]
        exact heap_set (heap_set Q2.out 2 _) 5 _
      · go_wp2_with fail
        refine HC.out.mono ?_
        rintro e w2 ⟨rfl, hb2⟩
        have q2 : HAt w2 q h v := Q0.out.keep (hb2.block q hq1)
        obtain ⟨g0, g1, g2, g3, g4, g5, g6, f⟩ := hcells q2
        have f2 := f 2
        have f5 := f 5
        have hq2 : q < w2.heap.size := lt_of_heap q2
        have HB2 := Lib.hid hb2
        have Q2 := Lib.hid q2
        clear hb2 d0 d5 q2 f g0 g1 g3 g4 g6
        go_wp2
        refine bodyPost_ret (results_none rfl _ _ _) rfl ?_
        refine ⟨rfl, ?_, _, w2, HB1.out.below HB2.out, HS1.out.trans (Step.of_below HB2.out), Upd.refl _ _⟩
        unfold identH
        rw [if_neg (fun e => absurd e.2 (by omega))]
        exact Q2.out

end Go.Proofs.YtepadojclmjllaaGreatDoor

/-
  The builder: integer.
-/
namespace Go.Proofs.YtepadojclmjllaaGreatDoor
open Go.RowKit
set_option linter.unusedVariables false

/-- the literal is a numeral -/
def Numeral (t : ByteArray) : Prop := t.size ≤ 281474976710656 ∧ (Lib.atoiAll t.data.toList = .range ∨ ∃ v, Lib.atoiAll t.data.toList = .ok v)
/-- strconv.Atoi at a numeral -/
theorem atoi_any (t : ByteArray) (hn : Numeral t) (w : World) (hg : Gl w) :
    Calls Tryz.prog 112 #[.string t] w fun e w' => ((∃ v, Lib.atoiAll t.data.toList = .ok v ∧ -9223372036854775808 ≤ v ∧ v ≤ 9223372036854775807 ∧ e = .returned (.tuple #[.int .i64 v, .nilIface])) ∨ (Lib.atoiAll t.data.toList = .range ∧ ∃ x te pe, e = .returned (.tuple #[.int .i64 x, .iface te pe]))) ∧ Below w.heap.size w w' := by
  obtain ⟨hl, h | ⟨v, h⟩⟩ := hn
  · obtain ⟨te, pe, hv⟩ := hg.rng
    refine (Tryz.strconv_Atoi_range t hl h _ w hv (.inr ⟨te, pe, rfl⟩)).mono ?_
    rintro e w' ⟨N, rfl, _, _, hb⟩
    exact ⟨.inr ⟨h, _, _, _, rfl⟩, hb⟩
  · refine (Tryz.strconv_Atoi_ok t (by omega) v h w).mono ?_
    rintro e w' ⟨rfl, hw⟩
    have hb := Lib.atoiAll_bounds h
    refine ⟨.inl ⟨v, h, hb.1, hb.2, rfl⟩, ?_⟩
    rcases hw with rfl | ⟨x, rfl⟩
    · exact Below.refl _ _
    · exact Lib.bytesWorld_below _ _ _
set_option maxHeartbeats 1600000 in
theorem integer_any (w : World) (p : Nat) (M : MM) (src : ByteArray) (b : BS) (hB : BAt w p M src b) (t : ByteArray) (s : Int) (hn : Numeral t) (hl : b.ds.length ≤ 1000000) :
    Calls Tryz.prog 65 #[.pointer (some ⟨p, 0, none⟩), .string t, .int .i64 s] w (BPost M w p src (intB t s b) (.int .i64 (intV t))) := by
  have hgl := hB.choose_spec.gl
  have HC := Lib.hid (atoi_any t hn w hgl)
  have HB := Lib.hid hB
  clear hB hgl hn
  go_enter Tryz.func65, Tryz.ntmps65
  go_wp2_with fail
  refine HC.out.mono ?_
  rintro e w1 ⟨hres, hb⟩
  have hB1 := HB.out.below hb
  obtain ⟨vb, hX⟩ := id hB1
  have c1 := cell_of hX.blk 1 _ rfl
  have hplt := hX.lt
  have HB1 := Lib.hid hB1
  have HBB := Lib.hid hb
  have HR := Lib.hid (report_any w1 p M src b hB1 4 s b.off hl)
  clear hX hB1 hb HC HB
  rcases hres with ⟨v, hv, hv1, hv2, rfl⟩ | ⟨hv, x, te, pe, rfl⟩
  · by_cases hgt : 2147483647 < v
    · have E : intOfL t = none := by unfold intOfL; rw [hv]; exact if_pos hgt
      have HQ : Hid (∀ e w', BPost M w1 p src (b.rep 4 s b.off) (.tuple #[]) e w' → e = .returned (.tuple #[]) ∧ BPost M w p src (intB t s b) (.int .i64 (intV t)) (.returned (.int .i64 2147483647)) w') := by
        rintro e w' ⟨rfl, M', h1, h2⟩
        unfold intB intV
        rw [E]
        exact ⟨rfl, rfl, M', h1, (Step.of_below HBB.out).trans h2⟩
      clear hv E
      go_wp2_with fail
      refine HR.out.mono ?_
      rintro e w2 hp
      obtain ⟨rfl, hp2⟩ := HQ.out _ _ hp
      clear hp
      go_wp2
      go_ret
      exact hp2
    · have E : intOfL t = some v := by unfold intOfL; rw [hv]; exact if_neg hgt
      have HQ : Hid (BPost M w p src (intB t s b) (.int .i64 (intV t)) (.returned (.int .i64 v)) w1) := by
        unfold intB intV
        rw [E]
        exact ⟨rfl, M, HB1.out, Step.of_below HBB.out⟩
      clear hv E
      go_wp2
      go_ret
      exact HQ.out
  · have E : intOfL t = none := by unfold intOfL; rw [hv]
    have HQ : Hid (∀ e w', BPost M w1 p src (b.rep 4 s b.off) (.tuple #[]) e w' → e = .returned (.tuple #[]) ∧ BPost M w p src (intB t s b) (.int .i64 (intV t)) (.returned (.int .i64 2147483647)) w') := by
      rintro e w' ⟨rfl, M', h1, h2⟩
      unfold intB intV
      rw [E]
      exact ⟨rfl, rfl, M', h1, (Step.of_below HBB.out).trans h2⟩
    clear hv E
    go_wp2_with fail
    refine HR.out.mono ?_
    rintro e w2 hp
    obtain ⟨rfl, hp2⟩ := HQ.out _ _ hp
    clear hp
    go_wp2
    go_ret
    exact hp2
end Go.Proofs.YtepadojclmjllaaGreatDoor
