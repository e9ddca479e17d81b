import Derived.Test.YtpibenilagloaaaGreatDoorMzaf
import Derived.Test.YtpibenilagloaaaGreatDoorSya
import Derived.Lib.AtoiAllCases
import Derived.Lib.AtoiErrMem
namespace Go.Proofs.YtpibenilagloaaaGreatDoor
open Go.RowKit
set_option linter.unusedVariables false
set_option maxHeartbeats 1600000 in
theorem report_any (w : World) (p : Nat) (M : MM) (src : ByteArray) (b : BS) (h : BAt w p M src b) (c s e : Int) (hl : b.ds.length ≤ 1000000) :
    Calls Tryz.prog 141 #[.pointer (some ⟨p, 0, none⟩), .int .i64 c, .int .i64 s, .int .i64 e] w (BPost M w p src (b.rep c s e) (.tuple #[])) := by
  obtain ⟨v, hX⟩ := h
  have c2 := cell_of hX.blk 2 v rfl
  have f2 := Lib.frozen_of_heap hX.blk 2
  have hrow := hX.row
  have hplt := hX.lt
  have HX := Lib.hid hX
  clear hX
  have hfin : Hid (∀ (v' : Value) (w2 : World), w2.ownsRow 0 99 5 v' (b.ds.length + 1) (b.ds.flatMap Dg.cells ++ Dg.cells ⟨c, 0, s, e, .empty⟩) → w.grownBy w2 v.ownBlock → (v'.ownBlock = v.ownBlock ∨ ∃ g, v'.ownBlock = some g ∧ w.heap.size ≤ g) →
      BPost M w p src (b.rep c s e) (.tuple #[]) (.returned (.tuple #[])) (w2.setCell ⟨p, 2, none⟩ v') ∧ w2.cell? ⟨p, 2, none⟩ = some v ∧ w2.frozen? ⟨p, 2, none⟩ = false) := by
    intro v' w2 ho hg hat
    have hh := HX.out
    obtain ⟨k1, k2⟩ := hh.push ⟨c, 0, s, e, .empty⟩ hg ho hat
    have hpv : v.ownBlock ≠ some p := fun e => (hh.mr p e).2 rfl
    exact ⟨⟨rfl, _, k1, k2⟩, (hg.cell_far ⟨p, 2, none⟩ hplt (fun e => hpv e.symm)).trans c2, (hg.frozen_far ⟨p, 2, none⟩ hplt (fun e => hpv e.symm)).trans f2⟩
  go_enter Tryz.func141, Tryz.ntmps141
  go_wp2_with (at_builtin; refine wpList_append_lit rfl (.tmp 12) (.tmp 17) _ rfl 0 99 _ 5 48 Tryz.underlying58 info_dg rfl (by decide) _ _ _ rfl hrow 1 1 (Dg.cells ⟨c, 0, s, e, .empty⟩) rfl rfl ?c2 ?c3 ?c4 ?c5 ?_)
  case c2 => simp [Dg.cells, Value.oneCell']
  case c3 => simp only [maxLen]; omega
  case c4 => omega
  case c5 => omega
  intro v' w2 hown hg hat
  obtain ⟨k1, k2, k3⟩ := hfin.out v' w2 hown hg hat
  obtain ⟨Av, cv, rfl⟩ := own_slice hown
  go_wp2
  refine bodyPost_ret (results_none rfl _ _ _) rfl ?_
  exact k1
theorem hcells {w : World} {q : Nat} {h : Hd} {v : Value} (H : HAt w q h v) : w.cell? ⟨q, 0, none⟩ = some (.int .i64 h.k) ∧ w.cell? ⟨q, 1, none⟩ = some (.int .i64 h.v) ∧ w.cell? ⟨q, 2, none⟩ = some (.string h.t) ∧ w.cell? ⟨q, 3, none⟩ = some (.int .i64 h.s) ∧
    w.cell? ⟨q, 4, none⟩ = some (.int .i64 h.e) ∧ w.cell? ⟨q, 5, none⟩ = some (.int .i64 h.nm) ∧ w.cell? ⟨q, 6, none⟩ = some v ∧ (∀ i, w.frozen? ⟨q, i, none⟩ = false) :=
  ⟨cell_of H 0 _ rfl, cell_of H 1 _ rfl, cell_of H 2 _ rfl, cell_of H 3 _ rfl, cell_of H 4 _ rfl, cell_of H 5 _ rfl, cell_of H 6 _ rfl, fun i => Lib.frozen_of_heap H i⟩
def HPost (w : World) (q : Nat) (h : Hd) (v : Value) (e : Ending) (w' : World) : Prop := e = .returned (.tuple #[]) ∧ HAt w' q h v ∧ Upd q w w'
set_option maxHeartbeats 1600000 in
theorem extend_any (w : World) (q : Nat) (h : Hd) (v : Value) (H : HAt w q h v) (s e : Int) :
    Calls Tryz.prog 88 #[.pointer (some ⟨q, 0, none⟩), .int .i64 s, .int .i64 e] w (HPost w q (extendH h s e) v) := by
  obtain ⟨d0, d1, d2, d3, d4, d5, d6, f⟩ := hcells H
  have f3 := f 3
  have f4 := f 4
  have hqlt := lt_of_heap H
  have HH := Lib.hid H
  clear H f d0 d1 d2 d5 d6
  by_cases hlt : h.e < 0
  · have HQ : Hid (HPost w q (extendH h s e) v (.returned (.tuple #[])) ((w.setCell ⟨q, 3, none⟩ (.int .i64 s)).setCell ⟨q, 4, none⟩ (.int .i64 e))) := by
      refine ⟨rfl, ?_, ((Upd.refl q w).set 3 _).set 4 _⟩
      unfold extendH
      rw [if_pos hlt]
      exact heap_set (heap_set HH.out 3 _) 4 _
    go_enter Tryz.func88, Tryz.ntmps88
    go_wp2
    refine bodyPost_ret (results_none rfl _ _ _) rfl ?_
    exact HQ.out
  · have HQ : Hid (HPost w q (extendH h s e) v (.returned (.tuple #[])) (w.setCell ⟨q, 4, none⟩ (.int .i64 e))) := by
      refine ⟨rfl, ?_, (Upd.refl q w).set 4 _⟩
      unfold extendH
      rw [if_neg hlt]
      exact heap_set HH.out 4 _
    go_enter Tryz.func88, Tryz.ntmps88
    go_wp2
    refine bodyPost_ret (results_none rfl _ _ _) rfl ?_
    exact HQ.out
theorem str_yes {t k : ByteArray} {l : List UInt8} (h : k.toList = l) (e : t = k) : (t.toList == l) = true := by rw [e, h]; exact beq_self_eq_true _
theorem str_no {t k : ByteArray} {l : List UInt8} (h : k.toList = l) (e : t ≠ k) : (t.toList == l) = false := by rw [← h]; exact str_ne e
theorem kPub_l : kPub.toList = [112, 117, 98] := by rw [ByteArray.toList_eq]; rfl
theorem kMut_l : kMut.toList = [109, 117, 116] := by rw [ByteArray.toList_eq]; rfl
theorem pStar_l : pStar.toList = [42] := by rw [ByteArray.toList_eq]; rfl
theorem kTrue_l : kTrue.toList = [116, 114, 117, 101] := by rw [ByteArray.toList_eq]; rfl
theorem empty_l : ByteArray.empty.toList = [] := by rw [ByteArray.toList_eq]; rfl
set_option maxHeartbeats 3200000 in
theorem setFlag_any (w : World) (q : Nat) (h : Hd) (v : Value) (H : HAt w q h v) (t : ByteArray) :
    Calls Tryz.prog 145 #[.pointer (some ⟨q, 0, none⟩), .string t] w (HPost w q (setFlagH h t) v) := by
  obtain ⟨d0, d1, d2, d3, d4, d5, d6, f⟩ := hcells H
  have f1 := f 1
  have f2 := f 2
  have hqlt := lt_of_heap H
  have HV : ∀ x : Int, setFlagH h t = { h with v := x } → HPost w q (setFlagH h t) v (.returned (.tuple #[])) (w.setCell ⟨q, 1, none⟩ (.int .i64 x)) := fun x e =>
    ⟨rfl, by rw [e]; exact heap_set H 1 _, (Upd.refl q w).set 1 _⟩
  have HT : setFlagH h t = { h with t := t } → HPost w q (setFlagH h t) v (.returned (.tuple #[])) (w.setCell ⟨q, 2, none⟩ (.string t)) := fun e =>
    ⟨rfl, by rw [e]; exact heap_set H 2 _, (Upd.refl q w).set 2 _⟩
  have HN : setFlagH h t = h → HPost w q (setFlagH h t) v (.returned (.tuple #[])) w := fun e =>
    ⟨rfl, by rw [e]; exact H, Upd.refl q w⟩
  have HV' := Lib.hid HV
  have HT' := Lib.hid HT
  have HN' := Lib.hid HN
  clear H f d3 d4 d5 d6 HV HT HN
  by_cases h1 : t = kPub
  · have HQ := Lib.hid (HV'.out (orI h.v 1) (by unfold setFlagH; rw [if_pos h1]))
    have t1 := str_yes kPub_l h1
    clear h1
    go_enter Tryz.func145, Tryz.ntmps145
    go_wp2
    refine bodyPost_ret (results_none rfl _ _ _) rfl ?_
    exact HQ.out
  · have t1 := str_no kPub_l h1
    by_cases h2 : t = kMut
    · have HQ := Lib.hid (HV'.out (orI h.v 1) (by unfold setFlagH; rw [if_neg h1, if_pos h2]))
      have t2 := str_yes kMut_l h2
      clear h1 h2
      go_enter Tryz.func145, Tryz.ntmps145
      go_wp2
      refine bodyPost_ret (results_none rfl _ _ _) rfl ?_
      exact HQ.out
    · have t2 := str_no kMut_l h2
      by_cases h3 : t = pStar
      · have t3 := str_yes pStar_l h3
        by_cases hk : h.k = 2
        · have k2 : (h.k == 2) = true := by simpa using hk
          have HQ := Lib.hid (HV'.out (orI h.v 2) (by unfold setFlagH; rw [if_neg h1, if_neg h2, if_pos ⟨h3, hk⟩]))
          clear h1 h2 h3 hk
          go_enter Tryz.func145, Tryz.ntmps145
          go_wp2
          refine bodyPost_ret (results_none rfl _ _ _) rfl ?_
          exact HQ.out
        · have k2 : (h.k == 2) = false := by simpa using hk
          have h4 : t ≠ kTrue := by rw [h3]; decide
          have t4 := str_no kTrue_l h4
          by_cases h5 : h.k = 39
          · have k5 : (h.k == 39) = true := by simpa using h5
            by_cases h7 : h.t = .empty
            · have te : h.t.toList = [] := by rw [h7]; exact empty_l
              have te2 : (!h.t.toList.isEmpty) = false := by rw [te]; rfl
              have HQ := Lib.hid (HT'.out (by unfold setFlagH; rw [if_neg h1, if_neg h2, if_neg (fun e => hk e.2), if_neg (fun e => h4 e.1), if_pos ⟨.inl h5, h7⟩]))
              clear h1 h2 h3 hk h4 h7 h5
              go_enter Tryz.func145, Tryz.ntmps145
              go_wp2
              refine bodyPost_ret (results_none rfl _ _ _) rfl ?_
              exact HQ.out
            · have te : (h.t.toList == []) = false := str_no empty_l h7
              have te2 : (!h.t.toList.isEmpty) = true := by cases hh : h.t.toList with | nil => (rw [hh] at te; cases te) | cons a r => rfl
              have te3 : ¬ h.t.toList = [] := by intro e; rw [e] at te; cases te
              have HQ := Lib.hid (HN'.out (by unfold setFlagH; rw [if_neg h1, if_neg h2, if_neg (fun e => hk e.2), if_neg (fun e => h4 e.1), if_neg (fun e => h7 e.2)]))
              clear h1 h2 h3 hk h4 h7 h5
              go_enter Tryz.func145, Tryz.ntmps145
              go_wp2
              refine bodyPost_ret (results_none rfl _ _ _) rfl ?_
              exact HQ.out
          · have k5 : (h.k == 39) = false := by simpa using h5
            by_cases h6 : h.k = 40
            · have k6 : (h.k == 40) = true := by simpa using h6
              by_cases h7 : h.t = .empty
              · have te : h.t.toList = [] := by rw [h7]; exact empty_l
                have te2 : (!h.t.toList.isEmpty) = false := by rw [te]; rfl
                have HQ := Lib.hid (HT'.out (by unfold setFlagH; rw [if_neg h1, if_neg h2, if_neg (fun e => hk e.2), if_neg (fun e => h4 e.1), if_pos ⟨.inr h6, h7⟩]))
                clear h1 h2 h3 hk h4 h7 h5 h6
                go_enter Tryz.func145, Tryz.ntmps145
                go_wp2
                refine bodyPost_ret (results_none rfl _ _ _) rfl ?_
                exact HQ.out
              · have te : (h.t.toList == []) = false := str_no empty_l h7
                have te2 : (!h.t.toList.isEmpty) = true := by cases hh : h.t.toList with | nil => (rw [hh] at te; cases te) | cons a r => rfl
                have te3 : ¬ h.t.toList = [] := by intro e; rw [e] at te; cases te
                have HQ := Lib.hid (HN'.out (by unfold setFlagH; rw [if_neg h1, if_neg h2, if_neg (fun e => hk e.2), if_neg (fun e => h4 e.1), if_neg (fun e => h7 e.2)]))
                clear h1 h2 h3 hk h4 h7 h5 h6
                go_enter Tryz.func145, Tryz.ntmps145
                go_wp2
                refine bodyPost_ret (results_none rfl _ _ _) rfl ?_
                exact HQ.out
            · have k6 : (h.k == 40) = false := by simpa using h6
              have HQ := Lib.hid (HN'.out (by unfold setFlagH; rw [if_neg h1, if_neg h2, if_neg (fun e => hk e.2), if_neg (fun e => h4 e.1), if_neg (fun e => e.1.elim h5 h6)]))
              clear h1 h2 h3 hk h4 h5 h6
              go_enter Tryz.func145, Tryz.ntmps145
              go_wp2
              refine bodyPost_ret (results_none rfl _ _ _) rfl ?_
              exact HQ.out
      · have t3 := str_no pStar_l h3
        by_cases h4 : t = kTrue
        · have t4 := str_yes kTrue_l h4
          by_cases hk : h.k = 28
          · have k2 : (h.k == 28) = true := by simpa using hk
            have HQ := Lib.hid (HV'.out 1 (by unfold setFlagH; rw [if_neg h1, if_neg h2, if_neg (fun e => h3 e.1), if_pos ⟨h4, hk⟩]))
            clear h1 h2 h3 h4 hk
            go_enter Tryz.func145, Tryz.ntmps145
            go_wp2
            refine bodyPost_ret (results_none rfl _ _ _) rfl ?_
            exact HQ.out
          · have k2 : (h.k == 28) = false := by simpa using hk
            by_cases h5 : h.k = 39
            · have k5 : (h.k == 39) = true := by simpa using h5
              by_cases h7 : h.t = .empty
              · have te : h.t.toList = [] := by rw [h7]; exact empty_l
                have te2 : (!h.t.toList.isEmpty) = false := by rw [te]; rfl
                have HQ := Lib.hid (HT'.out (by unfold setFlagH; rw [if_neg h1, if_neg h2, if_neg (fun e => h3 e.1), if_neg (fun e => hk e.2), if_pos ⟨.inl h5, h7⟩]))
                clear h1 h2 h3 h4 hk h7 h5
                go_enter Tryz.func145, Tryz.ntmps145
                go_wp2
                refine bodyPost_ret (results_none rfl _ _ _) rfl ?_
                exact HQ.out
              · have te : (h.t.toList == []) = false := str_no empty_l h7
                have te2 : (!h.t.toList.isEmpty) = true := by cases hh : h.t.toList with | nil => (rw [hh] at te; cases te) | cons a r => rfl
                have te3 : ¬ h.t.toList = [] := by intro e; rw [e] at te; cases te
                have HQ := Lib.hid (HN'.out (by unfold setFlagH; rw [if_neg h1, if_neg h2, if_neg (fun e => h3 e.1), if_neg (fun e => hk e.2), if_neg (fun e => h7 e.2)]))
                clear h1 h2 h3 h4 hk h7 h5
                go_enter Tryz.func145, Tryz.ntmps145
                go_wp2
                refine bodyPost_ret (results_none rfl _ _ _) rfl ?_
                exact HQ.out
            · have k5 : (h.k == 39) = false := by simpa using h5
              by_cases h6 : h.k = 40
              · have k6 : (h.k == 40) = true := by simpa using h6
                by_cases h7 : h.t = .empty
                · have te : h.t.toList = [] := by rw [h7]; exact empty_l
                  have te2 : (!h.t.toList.isEmpty) = false := by rw [te]; rfl
                  have HQ := Lib.hid (HT'.out (by unfold setFlagH; rw [if_neg h1, if_neg h2, if_neg (fun e => h3 e.1), if_neg (fun e => hk e.2), if_pos ⟨.inr h6, h7⟩]))
                  clear h1 h2 h3 h4 hk h7 h5 h6
                  go_enter Tryz.func145, Tryz.ntmps145
                  go_wp2
                  refine bodyPost_ret (results_none rfl _ _ _) rfl ?_
                  exact HQ.out
                · have te : (h.t.toList == []) = false := str_no empty_l h7
                  have te2 : (!h.t.toList.isEmpty) = true := by cases hh : h.t.toList with | nil => (rw [hh] at te; cases te) | cons a r => rfl
                  have te3 : ¬ h.t.toList = [] := by intro e; rw [e] at te; cases te
                  have HQ := Lib.hid (HN'.out (by unfold setFlagH; rw [if_neg h1, if_neg h2, if_neg (fun e => h3 e.1), if_neg (fun e => hk e.2), if_neg (fun e => h7 e.2)]))
                  clear h1 h2 h3 h4 hk h7 h5 h6
                  go_enter Tryz.func145, Tryz.ntmps145
                  go_wp2
                  refine bodyPost_ret (results_none rfl _ _ _) rfl ?_
                  exact HQ.out
              · have k6 : (h.k == 40) = false := by simpa using h6
                have HQ := Lib.hid (HN'.out (by unfold setFlagH; rw [if_neg h1, if_neg h2, if_neg (fun e => h3 e.1), if_neg (fun e => hk e.2), if_neg (fun e => e.1.elim h5 h6)]))
                clear h1 h2 h3 h4 hk h5 h6
                go_enter Tryz.func145, Tryz.ntmps145
                go_wp2
                refine bodyPost_ret (results_none rfl _ _ _) rfl ?_
                exact HQ.out
        · have t4 := str_no kTrue_l h4
          by_cases h5 : h.k = 39
          · have k5 : (h.k == 39) = true := by simpa using h5
            by_cases h7 : h.t = .empty
            · have te : h.t.toList = [] := by rw [h7]; exact empty_l
              have te2 : (!h.t.toList.isEmpty) = false := by rw [te]; rfl
              have HQ := Lib.hid (HT'.out (by unfold setFlagH; rw [if_neg h1, if_neg h2, if_neg (fun e => h3 e.1), if_neg (fun e => h4 e.1), if_pos ⟨.inl h5, h7⟩]))
              clear h1 h2 h3 h4 h7 h5
              go_enter Tryz.func145, Tryz.ntmps145
              go_wp2
              refine bodyPost_ret (results_none rfl _ _ _) rfl ?_
              exact HQ.out
            · have te : (h.t.toList == []) = false := str_no empty_l h7
              have te2 : (!h.t.toList.isEmpty) = true := by cases hh : h.t.toList with | nil => (rw [hh] at te; cases te) | cons a r => rfl
              have te3 : ¬ h.t.toList = [] := by intro e; rw [e] at te; cases te
              have HQ := Lib.hid (HN'.out (by unfold setFlagH; rw [if_neg h1, if_neg h2, if_neg (fun e => h3 e.1), if_neg (fun e => h4 e.1), if_neg (fun e => h7 e.2)]))
              clear h1 h2 h3 h4 h7 h5
              go_enter Tryz.func145, Tryz.ntmps145
              go_wp2
              refine bodyPost_ret (results_none rfl _ _ _) rfl ?_
              exact HQ.out
          · have k5 : (h.k == 39) = false := by simpa using h5
            by_cases h6 : h.k = 40
            · have k6 : (h.k == 40) = true := by simpa using h6
              by_cases h7 : h.t = .empty
              · have te : h.t.toList = [] := by rw [h7]; exact empty_l
                have te2 : (!h.t.toList.isEmpty) = false := by rw [te]; rfl
                have HQ := Lib.hid (HT'.out (by unfold setFlagH; rw [if_neg h1, if_neg h2, if_neg (fun e => h3 e.1), if_neg (fun e => h4 e.1), if_pos ⟨.inr h6, h7⟩]))
                clear h1 h2 h3 h4 h7 h5 h6
                go_enter Tryz.func145, Tryz.ntmps145
                go_wp2
                refine bodyPost_ret (results_none rfl _ _ _) rfl ?_
                exact HQ.out
              · have te : (h.t.toList == []) = false := str_no empty_l h7
                have te2 : (!h.t.toList.isEmpty) = true := by cases hh : h.t.toList with | nil => (rw [hh] at te; cases te) | cons a r => rfl
                have te3 : ¬ h.t.toList = [] := by intro e; rw [e] at te; cases te
                have HQ := Lib.hid (HN'.out (by unfold setFlagH; rw [if_neg h1, if_neg h2, if_neg (fun e => h3 e.1), if_neg (fun e => h4 e.1), if_neg (fun e => h7 e.2)]))
                clear h1 h2 h3 h4 h7 h5 h6
                go_enter Tryz.func145, Tryz.ntmps145
                go_wp2
                refine bodyPost_ret (results_none rfl _ _ _) rfl ?_
                exact HQ.out
            · have k6 : (h.k == 40) = false := by simpa using h6
              have HQ := Lib.hid (HN'.out (by unfold setFlagH; rw [if_neg h1, if_neg h2, if_neg (fun e => h3 e.1), if_neg (fun e => h4 e.1), if_neg (fun e => e.1.elim h5 h6)]))
              clear h1 h2 h3 h4 h5 h6
              go_enter Tryz.func145, Tryz.ntmps145
              go_wp2
              refine bodyPost_ret (results_none rfl _ _ _) rfl ?_
              exact HQ.out

theorem nameKinds_cells (w : World) (t : TypeId) (W : World) (hW : W = w.alloc (.cells #[.int .i64 2, .int .i64 3, .int .i64 4, .int .i64 5, .int .i64 6, .int .i64 8, .int .i64 9, .int .i64 11, .int .i64 13, .int .i64 14, .int .i64 15, .int .i64 16, .int .i64 18, .int .i64 31, .int .i64 32, .int .i64 34, .int .i64 44] t)) :
    ∀ j, j < nameKinds.length → W.cell? ⟨w.heap.size, 0 + j, none⟩ = some (.int .i64 (nameKinds.getD j 0)) := by
  subst hW
  intro j hj
  rw [Lib.cell_of_heap (heap_alloc_new w _)]
  have hj : j < 17 := hj
  rw [Nat.zero_add]
  obtain rfl | rfl | rfl | rfl | rfl | rfl | rfl | rfl | rfl | rfl | rfl | rfl | rfl | rfl | rfl | rfl | rfl : j = 0 ∨ j = 1 ∨ j = 2 ∨ j = 3 ∨ j = 4 ∨ j = 5 ∨ j = 6 ∨ j = 7 ∨ j = 8 ∨ j = 9 ∨ j = 10 ∨ j = 11 ∨ j = 12 ∨ j = 13 ∨ j = 14 ∨ j = 15 ∨ j = 16 := by omega
  all_goals rfl
set_option maxHeartbeats 1600000 in
theorem hasName_any (k : Int) (w : World) : Calls Tryz.prog 221 #[.int .i64 k] w fun e w' => e = .returned (.bool (hasNameB k)) ∧ Below w.heap.size w w' := by
  have hcon := fun (t : TypeId) (W : World) hW => Tryz.slices_Contains_int w.heap.size 0 17 17 nameKinds k W (by decide) (by decide) (nameKinds_cells w t W hW)
  have e : (nameKinds.take 17).contains k = hasNameB k := rfl
  rw [e] at hcon
  have HC := Lib.hid hcon
  clear hcon e
  generalize hasNameB k = r at HC ⊢
  go_enter Tryz.func221, Tryz.ntmps221
  go_wp2_with fail
  refine (HC.out _ _ rfl).mono ?_
  rintro e w1 ⟨rfl, rfl⟩
  go_wp2
  go_ret
  exact ⟨rfl, (Below.refl _ _).alloc (Nat.le_refl _) _⟩
def NPost (M : MM) (w : World) (p : Nat) (src : ByteArray) (b : BS) (q : Nat) (h : Hd) (v r : Value) (e : Ending) (w' : World) : Prop :=
  e = .returned r ∧ HAt w' q h v ∧ ∃ M' w1, BAt w1 p M' src b ∧ Step M w M' w1 ∧ Upd q w1 w'
set_option maxHeartbeats 1600000 in
theorem identifier_any (w : World) (p : Nat) (M : MM) (src : ByteArray) (b : BS) (hB : BAt w p M src b) (q : Nat) (h : Hd) (v : Value) (H : HAt w q h v) (hq : ¬ M q) (t : ByteArray) (s : Int) (ht : t.size ≤ 1000000) (hl : b.ds.length ≤ 1000000) :
    Calls Tryz.prog 142 #[.pointer (some ⟨p, 0, none⟩), .pointer (some ⟨q, 0, none⟩), .string t, .int .i64 s] w (NPost M w p src (identB t s b) q (identH h t s) v (.tuple #[])) := by
  obtain ⟨d0, d1, d2, d3, d4, d5, d6, f⟩ := hcells H
  have hqlt := lt_of_heap H
  have HH := Lib.hid H
  obtain ⟨vb, hX⟩ := id hB
  have c1 := cell_of hX.blk 1 _ rfl
  have hplt := hX.lt
  have HB := Lib.hid hB
  clear hX H d0 d1 d2 d3 d4 d5 d6 f
  have hid : identB t s b = if 30 < t.size then b.rep 5 s b.off else b := rfl
  by_cases hlen : 30 < t.size
  · have hlt : (30 : Int) < t.size := by omega
    have hcall := report_any w p M src b hB 5 s b.off hl
    rw [if_pos hlen] at hid
    rw [← hid] at hcall
    have HC := Lib.hid hcall
    have HID := Lib.hid hid
    clear hcall hid
    go_enter Tryz.func142, Tryz.ntmps142
    go_wp2_with fail
    refine HC.out.mono ?_
    rintro e w1 ⟨rfl, M1, hB1, hS1⟩
    clear c1
    have q0 : HAt w1 q h v := HH.out.keep ((hS1).block q hqlt hq)
    obtain ⟨d0, d1, d2, d3, d4, d5, d6, f⟩ := hcells q0
    have hq1 : q < w1.heap.size := lt_of_heap q0
    have Q0 := Lib.hid q0
    have HB1 := Lib.hid hB1
    have HS1 := Lib.hid (hS1)
    clear q0 d1 d2 d3 d4 d6 f
    have hcall := hasName_any h.k w1
    cases hb : hasNameB h.k
    · rw [hb] at hcall
      have HBB := Lib.hid hb
      have HC := Lib.hid hcall
      clear hb hcall
      go_wp2_with fail
      refine HC.out.mono ?_
      rintro e w2 ⟨rfl, hb2⟩
      have HB2 := Lib.hid hb2
      clear hb2 d0 d5
      go_wp2
      refine bodyPost_ret (results_none rfl _ _ _) rfl ?_
      refine ⟨rfl, ?_, _, w2, HB1.out.below HB2.out, HS1.out.trans (Step.of_below HB2.out), Upd.refl _ _⟩
      unfold identH
      rw [if_neg (by rw [HBB.out]; intro e; cases e.1)]
      exact Q0.out.keep (HB2.out.block q hq1)
    · rw [hb] at hcall
      have HBB := Lib.hid hb
      have HC := Lib.hid hcall
      clear hb hcall
      by_cases hn : h.nm < 0
      · go_wp2_with fail
        refine HC.out.mono ?_
        rintro e w2 ⟨rfl, hb2⟩
        have q2 : HAt w2 q h v := Q0.out.keep (hb2.block q hq1)
        obtain ⟨g0, g1, g2, g3, g4, g5, g6, f⟩ := hcells q2
        have f2 := f 2
        have f5 := f 5
        have hq2 : q < w2.heap.size := lt_of_heap q2
        have HB2 := Lib.hid hb2
        have Q2 := Lib.hid q2
        clear hb2 d0 d5 q2 f g0 g1 g3 g4 g6
        go_wp2
        refine bodyPost_ret (results_none rfl _ _ _) rfl ?_
        refine ⟨rfl, ?_, _, w2, HB1.out.below HB2.out, HS1.out.trans (Step.of_below HB2.out), ((Upd.refl _ _).set 2 _).set 5 _⟩
        unfold identH
        rw [if_pos ⟨HBB.out, hn⟩]
        exact heap_set (heap_set Q2.out 2 _) 5 _
      · go_wp2_with fail
        refine HC.out.mono ?_
        rintro e w2 ⟨rfl, hb2⟩
        have q2 : HAt w2 q h v := Q0.out.keep (hb2.block q hq1)
        obtain ⟨g0, g1, g2, g3, g4, g5, g6, f⟩ := hcells q2
        have f2 := f 2
        have f5 := f 5
        have hq2 : q < w2.heap.size := lt_of_heap q2
        have HB2 := Lib.hid hb2
        have Q2 := Lib.hid q2
        clear hb2 d0 d5 q2 f g0 g1 g3 g4 g6
        go_wp2
        refine bodyPost_ret (results_none rfl _ _ _) rfl ?_
        refine ⟨rfl, ?_, _, w2, HB1.out.below HB2.out, HS1.out.trans (Step.of_below HB2.out), Upd.refl _ _⟩
        unfold identH
        rw [if_neg (fun e => absurd e.2 (by omega))]
        exact Q2.out
  · have hlt : ¬ (30 : Int) < t.size := by omega
    rw [if_neg hlen] at hid
    have hB1 : BAt w p M src (identB t s b) := by rw [hid]; exact HB.out
    have HID := Lib.hid hid
    clear hid hB c1
    go_enter Tryz.func142, Tryz.ntmps142
    have q0 : HAt w q h v := HH.out.keep ((Step.refl M w).block q hqlt hq)
    obtain ⟨d0, d1, d2, d3, d4, d5, d6, f⟩ := hcells q0
    have hq1 : q < w.heap.size := lt_of_heap q0
    have Q0 := Lib.hid q0
    have HB1 := Lib.hid hB1
    have HS1 := Lib.hid (Step.refl M w)
    clear q0 d1 d2 d3 d4 d6 f
    have hcall := hasName_any h.k w
    cases hb : hasNameB h.k
    · rw [hb] at hcall
      have HBB := Lib.hid hb
      have HC := Lib.hid hcall
      clear hb hcall
      go_wp2_with fail
      refine HC.out.mono ?_
      rintro e w2 ⟨rfl, hb2⟩
      have HB2 := Lib.hid hb2
      clear hb2 d0 d5
      go_wp2
      refine bodyPost_ret (results_none rfl _ _ _) rfl ?_
      refine ⟨rfl, ?_, _, w2, HB1.out.below HB2.out, HS1.out.trans (Step.of_below HB2.out), Upd.refl _ _⟩
      unfold identH
      rw [if_neg (by rw [HBB.out]; intro e; cases e.1)]
      exact Q0.out.keep (HB2.out.block q hq1)
    · rw [hb] at hcall
      have HBB := Lib.hid hb
      have HC := Lib.hid hcall
      clear hb hcall
      by_cases hn : h.nm < 0
      · go_wp2_with fail
        refine HC.out.mono ?_
        rintro e w2 ⟨rfl, hb2⟩
        have q2 : HAt w2 q h v := Q0.out.keep (hb2.block q hq1)
        obtain ⟨g0, g1, g2, g3, g4, g5, g6, f⟩ := hcells q2
        have f2 := f 2
        have f5 := f 5
        have hq2 : q < w2.heap.size := lt_of_heap q2
        have HB2 := Lib.hid hb2
        have Q2 := Lib.hid q2
        clear hb2 d0 d5 q2 f g0 g1 g3 g4 g6
        go_wp2
        refine bodyPost_ret (results_none rfl _ _ _) rfl ?_
        refine ⟨rfl, ?_, _, w2, HB1.out.below HB2.out, HS1.out.trans (Step.of_below HB2.out), ((Upd.refl _ _).set 2 _).set 5 _⟩
        unfold identH
        rw [if_pos ⟨HBB.out, hn⟩]
        exact heap_set (heap_set Q2.out 2 _) 5 _
      · go_wp2_with fail
        refine HC.out.mono ?_
        rintro e w2 ⟨rfl, hb2⟩
        have q2 : HAt w2 q h v := Q0.out.keep (hb2.block q hq1)
        obtain ⟨g0, g1, g2, g3, g4, g5, g6, f⟩ := hcells q2
        have f2 := f 2
        have f5 := f 5
        have hq2 : q < w2.heap.size := lt_of_heap q2
        have HB2 := Lib.hid hb2
        have Q2 := Lib.hid q2
        clear hb2 d0 d5 q2 f g0 g1 g3 g4 g6
        go_wp2
        refine bodyPost_ret (results_none rfl _ _ _) rfl ?_
        refine ⟨rfl, ?_, _, w2, HB1.out.below HB2.out, HS1.out.trans (Step.of_below HB2.out), Upd.refl _ _⟩
        unfold identH
        rw [if_neg (fun e => absurd e.2 (by omega))]
        exact Q2.out

def Numeral (t : ByteArray) : Prop := t.size ≤ 281474976710656 ∧ (Lib.atoiAll t.data.toList = .range ∨ ∃ v, Lib.atoiAll t.data.toList = .ok v)
theorem atoi_any (t : ByteArray) (hn : Numeral t) (w : World) (hg : Gl w) :
    Calls Tryz.prog 222 #[.string t] w fun e w' => ((∃ v, Lib.atoiAll t.data.toList = .ok v ∧ -9223372036854775808 ≤ v ∧ v ≤ 9223372036854775807 ∧ e = .returned (.tuple #[.int .i64 v, .nilIface])) ∨ (Lib.atoiAll t.data.toList = .range ∧ ∃ x te pe, e = .returned (.tuple #[.int .i64 x, .iface te pe]))) ∧ Below w.heap.size w w' := by
  obtain ⟨hl, h | ⟨v, h⟩⟩ := hn
  · obtain ⟨te, pe, hv⟩ := hg.rng
    refine (Tryz.strconv_Atoi_range t hl h _ w hv (.inr ⟨te, pe, rfl⟩)).mono ?_
    rintro e w' ⟨N, rfl, _, _, hb⟩
    exact ⟨.inr ⟨h, _, _, _, rfl⟩, hb⟩
  · refine (Tryz.strconv_Atoi_ok t (by omega) v h w).mono ?_
    rintro e w' ⟨rfl, hw⟩
    have hb := Lib.atoiAll_bounds h
    refine ⟨.inl ⟨v, h, hb.1, hb.2, rfl⟩, ?_⟩
    rcases hw with rfl | ⟨x, rfl⟩
    · exact Below.refl _ _
    · exact Lib.bytesWorld_below _ _ _
set_option maxHeartbeats 1600000 in
theorem integer_any (w : World) (p : Nat) (M : MM) (src : ByteArray) (b : BS) (hB : BAt w p M src b) (t : ByteArray) (s : Int) (hn : Numeral t) (hl : b.ds.length ≤ 1000000) :
    Calls Tryz.prog 143 #[.pointer (some ⟨p, 0, none⟩), .string t, .int .i64 s] w (BPost M w p src (intB t s b) (.int .i64 (intV t))) := by
  have hgl := hB.choose_spec.gl
  have HC := Lib.hid (atoi_any t hn w hgl)
  have HB := Lib.hid hB
  clear hB hgl hn
  go_enter Tryz.func143, Tryz.ntmps143
  go_wp2_with fail
  refine HC.out.mono ?_
  rintro e w1 ⟨hres, hb⟩
  have hB1 := HB.out.below hb
  obtain ⟨vb, hX⟩ := id hB1
  have c1 := cell_of hX.blk 1 _ rfl
  have hplt := hX.lt
  have HB1 := Lib.hid hB1
  have HBB := Lib.hid hb
  have HR := Lib.hid (report_any w1 p M src b hB1 4 s b.off hl)
  clear hX hB1 hb HC HB
  rcases hres with ⟨v, hv, hv1, hv2, rfl⟩ | ⟨hv, x, te, pe, rfl⟩
  · by_cases hgt : 2147483647 < v
    · have E : intOfL t = none := by unfold intOfL; rw [hv]; exact if_pos hgt
      have HQ : Hid (∀ e w', BPost M w1 p src (b.rep 4 s b.off) (.tuple #[]) e w' → e = .returned (.tuple #[]) ∧ BPost M w p src (intB t s b) (.int .i64 (intV t)) (.returned (.int .i64 2147483647)) w') := by
        rintro e w' ⟨rfl, M', h1, h2⟩
        unfold intB intV
        rw [E]
        exact ⟨rfl, rfl, M', h1, (Step.of_below HBB.out).trans h2⟩
      clear hv E
      go_wp2_with fail
      refine HR.out.mono ?_
      rintro e w2 hp
      obtain ⟨rfl, hp2⟩ := HQ.out _ _ hp
      clear hp
      go_wp2
      go_ret
      exact hp2
    · have E : intOfL t = some v := by unfold intOfL; rw [hv]; exact if_neg hgt
      have HQ : Hid (BPost M w p src (intB t s b) (.int .i64 (intV t)) (.returned (.int .i64 v)) w1) := by
        unfold intB intV
        rw [E]
        exact ⟨rfl, M, HB1.out, Step.of_below HBB.out⟩
      clear hv E
      go_wp2
      go_ret
      exact HQ.out
  · have E : intOfL t = none := by unfold intOfL; rw [hv]
    have HQ : Hid (∀ e w', BPost M w1 p src (b.rep 4 s b.off) (.tuple #[]) e w' → e = .returned (.tuple #[]) ∧ BPost M w p src (intB t s b) (.int .i64 (intV t)) (.returned (.int .i64 2147483647)) w') := by
      rintro e w' ⟨rfl, M', h1, h2⟩
      unfold intB intV
      rw [E]
      exact ⟨rfl, rfl, M', h1, (Step.of_below HBB.out).trans h2⟩
    clear hv E
    go_wp2_with fail
    refine HR.out.mono ?_
    rintro e w2 hp
    obtain ⟨rfl, hp2⟩ := HQ.out _ _ hp
    clear hp
    go_wp2
    go_ret
    exact hp2
end Go.Proofs.YtpibenilagloaaaGreatDoor
