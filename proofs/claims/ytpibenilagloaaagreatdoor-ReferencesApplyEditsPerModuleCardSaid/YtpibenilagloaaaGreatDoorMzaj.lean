import Derived.Test.YtpibenilagloaaaGreatDoorMzah
namespace Go.Proofs.YtpibenilagloaaaGreatDoor
open Go.RowKit
set_option linter.unusedVariables false
def PgM (w : World) (B p : Nat) (M T : Value) (ss : List Sym) (xs : List Xpt) : Prop :=
  ∃ A c v, w.heap[p]? = some (.cells #[M, T, .slice A ss.length c, v] 154 (0, 0)) ∧ syD.At w (fun b => b < B) A ss ∧ w.ownsRow B 208 4 v xs.length (xs.flatMap xpC) ∧ v.ownBlock ≠ some p ∧ B ≤ p ∧ ss.length ≤ c
theorem PgM.below {w w' : World} {B p : Nat} {M T : Value} {ss : List Sym} {xs : List Xpt} (h : PgM w B p M T ss xs) (hb : Below w.heap.size w w') : PgM w' B p M T ss xs := by
  obtain ⟨A, c, v, h1, h2, h3, h4, h5, h6⟩ := h
  have hp := lt_of_heap h1
  exact ⟨A, c, v, (hb.block p hp).trans h1, h2.keep (fun _ h => h) (fun b hb' => hb.block b (by omega)), ownsRow_below h3 (fun g hg => hb.block g (h3.lt g hg).2), h4, h5, h6⟩
theorem PgM.push {w w2 : World} {B p : Nat} {M T : Value} {ss : List Sym} {xs : List Xpt} {A : Option Addr} {c : Nat} {v v' : Value} (h1 : w.heap[p]? = some (.cells #[M, T, .slice A ss.length c, v] 154 (0, 0))) (h2 : syD.At w (fun b => b < B) A ss) (h3 : w.ownsRow B 208 4 v xs.length (xs.flatMap xpC)) (h4 : v.ownBlock ≠ some p) (h5 : B ≤ p) (h6 : ss.length ≤ c) (y : Xpt) (hg : w.grownBy w2 v.ownBlock)
    (ho : w2.ownsRow B 208 4 v' (xs.length + 1) (xs.flatMap xpC ++ xpC y)) (hat : v'.ownBlock = v.ownBlock ∨ ∃ g, v'.ownBlock = some g ∧ w.heap.size ≤ g) : PgM (w2.setCell ⟨p, 3, none⟩ v') B p M T ss (xs ++ [y]) := by
  have hp := lt_of_heap h1
  have hne : v'.ownBlock ≠ some p := by
    rcases hat with e | ⟨g, e, hge⟩
    · rw [e]; exact h4
    · rw [e]; intro e2; injection e2 with e2; omega
  refine ⟨A, c, v', ?_, ?_, ?_, hne, h5, h6⟩
  · exact heap_set ((hg.block p hp (fun e => h4 e.symm)).trans h1) 3 v'
  · refine h2.keep (fun _ h => h) (fun b hb => (Below.heap_setCell _ _ _ _ (by simp; omega)).trans (hg.block b (by omega) (fun e => ?_)))
    have := (h3.lt b e.symm).1
    omega
  · rw [List.length_append, List.flatMap_append]
    simp only [List.length_singleton, List.flatMap_cons, List.flatMap_nil, List.append_nil]
    exact ownsRow_below ho (fun g hg' => Below.heap_setCell _ _ _ _ (fun e => hne (by rw [hg', e])))
set_option maxRecDepth 100000 in
set_option maxHeartbeats 6400000 in
theorem xadd_any (B p : Nat) (M T : Value) (ss : List Sym) (xs : List Xpt) (e : Xpt) (w : World) (h : PgM w B p M T ss xs) (hne : ∀ x ∈ xs, x.sym ≠ e.sym) (hm : xs.length + 1 ≤ 1000000) :
    Calls Tryz.prog 180 #[.pointer (some ⟨p, 0, none⟩), .agg (xpC e).toArray] w fun r w' => r = .returned (.bool true) ∧ PgM w' B p M T ss (xs ++ [e]) ∧ Below B w w' := by
  obtain ⟨A, c, v, h1, h2, h3, h4, h5, h6⟩ := h
  have hp := lt_of_heap h1
  have c3 := cell_of h1 3 _ rfl
  obtain ⟨n, hn⟩ : ∃ n, xs.length = n := ⟨_, rfl⟩
  obtain ⟨XA, xc, rfl⟩ := own_slice h3
  have hXat : xpD.At w (Lt w) XA xs := by
    have ho : xpD.Own w B 208 (Lt w) (.slice XA xs.length xc) xs (xs.flatMap xpC) := ⟨h3, flatD_of xs⟩
    obtain ⟨A5, c5, q1, q2, _⟩ := ho.at (F' := Lt w) (fun _ h => h) (fun g hg => (h3.lt g hg).2)
    injection q1 with q1 _ _
    rw [q1]; exact q2
  have HXA := Lib.hid hXat
  have HLX : Hid (∀ g, (Value.slice XA n xc).ownBlock = some g → g < w.heap.size) := fun g hg => (h3.lt g (by rw [hn]; exact hg)).2
  have HNE := Lib.hid hne
  have HN := Lib.hid hn
  obtain ⟨e0, e1, e2, e3⟩ := e
  have hfin : ∀ w1 : World, Below w.heap.size w w1 → ∀ (v3 : Value) (w3 : World), w3.ownsRow B 208 4 v3 (n + 1) (xs.flatMap xpC ++ xpC ⟨e0, e1, e2, e3⟩) → w1.grownBy w3 (Value.slice XA n xc).ownBlock → (v3.ownBlock = (Value.slice XA n xc).ownBlock ∨ ∃ g, v3.ownBlock = some g ∧ w1.heap.size ≤ g) →
      w3.cell? ⟨p, 3, none⟩ = some (.slice XA n xc) ∧ w3.frozen? ⟨p, 3, none⟩ = false ∧ PgM (w3.setCell ⟨p, 3, none⟩ v3) B p M T ss (xs ++ [⟨e0, e1, e2, e3⟩]) ∧ Below B w (w3.setCell ⟨p, 3, none⟩ v3) := by
    rw [← hn]
    intro w1 hb v3 w3 ho hg hat
    have q1 := (hb.block p hp).trans h1
    have q2 : w3.heap[p]? = _ := (hg.block p (lt_of_heap q1) (fun e => h4 e.symm)).trans q1
    have q3 := ownsRow_below h3 (fun g hg => hb.block g (h3.lt g hg).2)
    refine ⟨cell_of q2 3 _ rfl, Lib.frozen_of_heap q2 3, PgM.push q1 (h2.keep (fun _ h => h) (fun b hb' => hb.block b (by omega))) q3 h4 h5 h6 _ hg ho hat, ?_⟩
    exact ((hb.mono (by omega)).grown hg (by have := hb.size; omega) (fun q hq => (h3.lt q hq).1)).setCell h5 _
  have hown : ∀ w1 : World, Below w.heap.size w w1 → w1.ownsRow B 208 4 (.slice XA n xc) n (xs.flatMap xpC) := by
    rw [← hn]
    exact fun w1 hb => ownsRow_below h3 (fun g hg => hb.block g (h3.lt g hg).2)
  rw [hn] at c3 hm
  have HFN := Lib.hid hfin
  have HOW := Lib.hid hown
  have hone : ∀ u ∈ xpC ⟨e0, e1, e2, e3⟩, u.oneCell' = true := by simp [xpC, Value.oneCell']
  have HON := Lib.hid hone
  obtain ⟨W, hW⟩ : ∃ W, w.alloc (.cells #[.int .i64 e0, .string e1, .int .i64 e2, .bool e3] 208) = W := ⟨_, rfl⟩
  have hbx : W.heap[w.heap.size]? = some (.cells #[.int .i64 e0, .string e1, .int .i64 e2, .bool e3] 208 (0, 0)) := by rw [← hW]; exact heap_alloc_new w _
  have hbw : Below w.heap.size w W := by rw [← hW]; exact (Below.refl _ _).alloc (Nat.le_refl _) _
  have hWs := lt_of_heap hbx
  have hBW : B ≤ w.heap.size := by omega
  clear h1 h2 h3 h4 hXat hne hn hfin hown hone
  have C3 : W.cell? ⟨p, 3, none⟩ = some (.slice XA n xc) := (hbw.cell (p := ⟨p, 3, none⟩) hp).trans c3
  have x0 := cell_of hbx 0 _ rfl
  have x1 := cell_of hbx 1 _ rfl
  have x2 := cell_of hbx 2 _ rfl
  have x3 := cell_of hbx 3 _ rfl
  have HBX := Lib.hid hbx
  have HBW := Lib.hid hbw
  have hpW : p < W.heap.size := by omega
  clear c3 hbx hbw
  simp only [xpC]
  show Calls _ _ #[_, .agg #[.int .i64 e0, .string e1, .int .i64 e2, .bool e3]] _ _
  go_enter Tryz.func180, Tryz.ntmps180
  go_wp2_with fail
  clear hW
  go_loopw [12] (fun i wr => ∃ j : Nat, i = .int .i64 (j : Int) ∧ j ≤ n ∧ Below W.heap.size W wr) (fun i _ => n - (intOf i).toNat)
  case atStart => exact ⟨0, rfl, Nat.zero_le _, Below.refl _ _⟩
  case round =>
    obtain ⟨j, rfl, hj, hb⟩ := hrel
    have hbs := hb.size
    have y0 : wr.cell? ⟨w.heap.size, 0, none⟩ = _ := (hb.cell (p := ⟨w.heap.size, 0, none⟩) hWs).trans x0
    have y1 : wr.cell? ⟨w.heap.size, 1, none⟩ = _ := (hb.cell (p := ⟨w.heap.size, 1, none⟩) hWs).trans x1
    have y2 : wr.cell? ⟨w.heap.size, 2, none⟩ = _ := (hb.cell (p := ⟨w.heap.size, 2, none⟩) hWs).trans x2
    have y3 : wr.cell? ⟨w.heap.size, 3, none⟩ = _ := (hb.cell (p := ⟨w.heap.size, 3, none⟩) hWs).trans x3
    have yp : wr.cell? ⟨p, 3, none⟩ = _ := (hb.cell (p := ⟨p, 3, none⟩) hpW).trans C3
    have hlx : w.heap.size < wr.heap.size := by omega
    have hlp : p < wr.heap.size := by omega
    by_cases hlt : j < n
    · have hjI : (j : Int) < n := by omega
      have hjl : j < xs.length := by rw [HN.out]; exact hlt
      obtain ⟨tb, off, rfl, htb, hxc⟩ := flat_get HXA.out j xs[j] (List.getElem?_eq_getElem hjl)
      have hnx := HNE.out xs[j] (List.getElem_mem hjl)
      generalize xs[j] = x at *
      obtain ⟨z0, z1, z2, z3⟩ := x
      simp only at hnx
      have htl : tb < w.heap.size := htb
      have cc : ∀ i u, ([.int .i64 z0, .string z1, .int .i64 z2, .bool z3] : List Value)[i]? = some u → wr.cell? ⟨tb, off + j * 4 + i, none⟩ = some u := fun i u hu => (hb.cell (p := ⟨tb, _, none⟩) (show tb < W.heap.size by omega)).trans ((HBW.out.cell (p := ⟨tb, _, none⟩) htl).trans (hxc i u hu))
      have d0 := cc 0 _ rfl
      have d1 := cc 1 _ rfl
      have d2 := cc 2 _ rfl
      have d3 := cc 3 _ rfl
      rw [Nat.add_zero] at d0
      have htl2 : tb < wr.heap.size := by omega
      have HB := Lib.hid hb
      clear cc hxc hb x0 x1 x2 x3 C3 yp
      by_cases g1 : z0 = e0
      · subst g1
        by_cases g2 : z1 = e1
        · subst g2
          go_wp2_with fail
          go_roundw
          case rel => exact ⟨j + 1, by go_num, by omega, HB.out.alloc hbs _⟩
          case measure => simp [intOf]; omega
        · have gs : ¬ z1.toList = e1.toList := fun e => g2 (ba_inj e)
          go_wp2_with fail
          go_roundw
          case rel => exact ⟨j + 1, by go_num, by omega, HB.out.alloc hbs _⟩
          case measure => simp [intOf]; omega
      · go_wp2_with fail
        go_roundw
        case rel => exact ⟨j + 1, by go_num, by omega, HB.out.alloc hbs _⟩
        case measure => simp [intOf]; omega
    · have hjI : ¬ (j : Int) < n := by omega
      have HB := Lib.hid (HBW.out.trans (hb.mono (Nat.le_of_lt hWs)))
      have hkp : ∀ w' : World, Below wr.heap.size wr w' → w'.cell? ⟨p, 3, none⟩ = some (.slice XA n xc) ∧ w'.cell? ⟨w.heap.size, 0, none⟩ = some (.int .i64 e0) ∧ w'.cell? ⟨w.heap.size, 1, none⟩ = some (.string e1) ∧ w'.cell? ⟨w.heap.size, 2, none⟩ = some (.int .i64 e2) ∧ w'.cell? ⟨w.heap.size, 3, none⟩ = some (.bool e3) := fun w' hb' =>
        ⟨(hb'.cell (p := ⟨p, 3, none⟩) hlp).trans yp, (hb'.cell (p := ⟨w.heap.size, 0, none⟩) hlx).trans y0, (hb'.cell (p := ⟨w.heap.size, 1, none⟩) hlx).trans y1, (hb'.cell (p := ⟨w.heap.size, 2, none⟩) hlx).trans y2, (hb'.cell (p := ⟨w.heap.size, 3, none⟩) hlx).trans y3⟩
      have HKP := Lib.hid hkp
      have hbx3 : ∀ w3 : World, (wr.drew.alloc (.cells #[.int .i64 e0, .string e1, .int .i64 e2, .bool e3] 208)).grownBy w3 (Value.slice XA n xc).ownBlock → w3.heap[w.heap.size]? = some (.cells #[.int .i64 e0, .string e1, .int .i64 e2, .bool e3] 208 (0, 0)) := fun w3 hg => by
        have q0 := (hb.block w.heap.size hWs).trans HBX.out
        refine (hg.block w.heap.size (by simp; omega) (fun e => ?_)).trans ((heap_alloc_old _ _ (by simpa using hlx)).trans q0)
        have := HLX.out w.heap.size e.symm
        omega
      have HBX3 := Lib.hid hbx3
      have hlit : ∀ w4 : World, RowAt (w4.alloc (.cells #[.int .i64 e0, .string e1, .int .i64 e2, .bool e3] 208)) (Lt (w4.alloc (.cells #[.int .i64 e0, .string e1, .int .i64 e2, .bool e3] 208))) (some ⟨w4.heap.size, 0, none⟩) (xpC ⟨e0, e1, e2, e3⟩) := fun w4 _ =>
        ⟨_, 0, rfl, by simp [Lt], fun j u hu => by rw [Nat.zero_add, Lib.cell_of_heap (heap_alloc_new w4 _)]; simpa [xpC] using hu⟩
      have HLI := Lib.hid hlit
      clear hlit
      clear hb x0 x1 x2 x3 C3 hkp hbx3 y0 y1 y2 y3 yp
      go_wp2_with fail
      refine regionS (fun w' => w'.cell? ⟨p, 3, none⟩ = some (.slice XA n xc) ∧ w'.cell? ⟨w.heap.size, 0, none⟩ = some (.int .i64 e0) ∧ w'.cell? ⟨w.heap.size, 1, none⟩ = some (.string e1) ∧ w'.cell? ⟨w.heap.size, 2, none⟩ = some (.int .i64 e2) ∧ w'.cell? ⟨w.heap.size, 3, none⟩ = some (.bool e3)) 8 (by kernel_rfl) (HKP.out _ (Below.refl wr.heap.size wr).drew) ?_
      intro hS
      refine takeS (i := 0) (v := ?v0) (at_zero) (by kernel_rfl) (by kernel_rfl) (by kernel_rfl) (by kernel_rfl) (fun _ _ _ h => h) (Or.inl ⟨by rfl, ?y0⟩) (by assumption) ?z0
      case y0 => intro wq hSw; (try dsimp only at hSw); go_simp; try with_reducible rfl
      try simp only [Act.put, List.setIfInBounds_toArray, List.set_cons_zero, List.set_cons_succ]
      refine takeS (i := 1) (v := ?v1) (at_succ (at_zero)) (by kernel_rfl) (by kernel_rfl) (by kernel_rfl) (by kernel_rfl) (fun _ _ _ h => h) (Or.inl ⟨by rfl, ?y1⟩) (by assumption) ?z1
      case y1 => intro wq hSw; (try dsimp only at hSw); go_simp; try with_reducible rfl
      try simp only [Act.put, List.setIfInBounds_toArray, List.set_cons_zero, List.set_cons_succ]
      refine takeS (i := 2) (v := ?v2) (at_succ (at_succ (at_zero))) (by kernel_rfl) (by kernel_rfl) (by kernel_rfl) (by kernel_rfl) (fun _ _ _ h => h) (Or.inl ⟨by rfl, ?y2⟩) (by assumption) ?z2
      case y2 => intro wq hSw; (try dsimp only at hSw); go_simp; try with_reducible rfl
      try simp only [Act.put, List.setIfInBounds_toArray, List.set_cons_zero, List.set_cons_succ]
      refine takeS (i := 3) (v := ?v3) (at_succ (at_succ (at_succ (at_zero)))) (by kernel_rfl) (by kernel_rfl) (by kernel_rfl) (by kernel_rfl) (fun _ _ _ h => h) (Or.inl ⟨by rfl, ?y3⟩) (by assumption) ?z3
      case y3 => intro wq hSw; (try dsimp only at hSw); go_simp; try with_reducible rfl
      try simp only [Act.put, List.setIfInBounds_toArray, List.set_cons_zero, List.set_cons_succ]
      refine takeS (i := 4) (v := ?v4) (at_succ (at_succ (at_succ (at_succ (at_zero))))) (by kernel_rfl) (by kernel_rfl) (by kernel_rfl) (by kernel_rfl) (fun _ _ _ h => h) (Or.inl ⟨by rfl, ?y4⟩) (by assumption) ?z4
      case y4 => intro wq hSw; (try dsimp only at hSw); go_simp; try with_reducible rfl
      try simp only [Act.put, List.setIfInBounds_toArray, List.set_cons_zero, List.set_cons_succ]
      refine takeS (i := 5) (v := ?v5) (at_succ (at_succ (at_succ (at_succ (at_succ (at_zero)))))) (by kernel_rfl) (by kernel_rfl) (by kernel_rfl) (by kernel_rfl) (fun _ _ _ h => h) (Or.inl ⟨by rfl, ?y5⟩) (by assumption) ?z5
      case y5 => intro wq hSw; (try dsimp only at hSw); go_simp; try with_reducible rfl
      try simp only [Act.put, List.setIfInBounds_toArray, List.set_cons_zero, List.set_cons_succ]
      refine stepS (i := 6) (by kernel_rfl) (at_succ (at_succ (at_succ (at_succ (at_succ (at_succ (at_zero))))))) (fun K hK => ?_)
      go_simp
      clear hS
      refine hK.out _ _ (HKP.out _ ((Below.refl wr.heap.size wr).drew.alloc (Nat.le_refl _) _)) (fun hS => ?_)
      clear hK K
      try simp only [Act.put, List.setIfInBounds_toArray, List.set_cons_zero, List.set_cons_succ]
      refine stepS (i := 7) (by kernel_rfl) (at_succ (at_succ (at_succ (at_succ (at_succ (at_succ (at_succ (at_zero)))))))) (fun K hK => ?_)
      refine step_append_src (by rfl) (.tmp 65) (.tmp 67) _ (by rfl) B 208 _ 4 40 Tryz.underlying152 info_xp (by rfl) (by decide) (.slice XA n xc) n (xs.flatMap xpC) (by rfl) (HOW.out _ (HB.out.drew.alloc HB.out.size _)) (Lt _) (some ⟨wr.heap.size, 0, none⟩) 1 1 (xpC ⟨e0, e1, e2, e3⟩) (by rfl) (HLI.out wr.drew) rfl HON.out (by unfold maxLen; omega) (by omega) (by have := HB.out.size; simp; omega) ?_
      intro v3 w3 hown3 hg3 hat3
      have hf3 := Lib.hid (HFN.out _ (HB.out.drew.alloc HB.out.size _) v3 w3 hown3 hg3 hat3)
      have hc3 := hf3.out.1
      have hz3 := hf3.out.2.1
      have hq3 := HBX3.out w3 hg3
      have hs3 : w3.cell? ⟨p, 3, none⟩ = some (.slice XA n xc) ∧ w3.cell? ⟨w.heap.size, 0, none⟩ = some (.int .i64 e0) ∧ w3.cell? ⟨w.heap.size, 1, none⟩ = some (.string e1) ∧ w3.cell? ⟨w.heap.size, 2, none⟩ = some (.int .i64 e2) ∧ w3.cell? ⟨w.heap.size, 3, none⟩ = some (.bool e3) := ⟨hc3, cell_of hq3 0 _ rfl, cell_of hq3 1 _ rfl, cell_of hq3 2 _ rfl, cell_of hq3 3 _ rfl⟩
      obtain ⟨Av, cv, rfl⟩ := own_slice hown3
      clear hown3 hg3 hat3 hS hq3
      refine hK.out _ _ hs3 (fun hS => ?_)
      clear hs3
      clear hK K
      try simp only [Act.put, List.setIfInBounds_toArray, List.set_cons_zero, List.set_cons_succ]
      refine tailZ (i := 8) (by kernel_rfl) (at_succ (at_succ (at_succ (at_succ (at_succ (at_succ (at_succ (at_succ (at_zero))))))))) (by kernel_rfl) (fun K hK => ?_)
      go_simp
      refine hK.out _ _ ?_
      clear hK K
      try simp only [Act.put, List.setIfInBounds_toArray, List.set_cons_zero, List.set_cons_succ]
      refine tailZ (i := 9) (by kernel_rfl) (at_succ (at_succ (at_succ (at_succ (at_succ (at_succ (at_succ (at_succ (at_succ (at_zero)))))))))) (by kernel_rfl) (fun K hK => ?_)
      go_simp
      refine hK.out _ _ ?_
      clear hK K
      try simp only [Act.put, List.setIfInBounds_toArray, List.set_cons_zero, List.set_cons_succ]
      refine tailZ (i := 10) (by kernel_rfl) (at_succ (at_succ (at_succ (at_succ (at_succ (at_succ (at_succ (at_succ (at_succ (at_succ (at_zero))))))))))) (by kernel_rfl) (fun K hK => ?_)
      go_simp
      refine hK.out _ _ ?_
      clear hK K
      try simp only [Act.put, List.setIfInBounds_toArray, List.set_cons_zero, List.set_cons_succ]
      refine doneS (by kernel_rfl) ?_ _
      go_wp2_with fail
      go_ret
      exact ⟨rfl, hf3.out.2.2.1, hf3.out.2.2.2⟩

set_option maxRecDepth 100000 in
set_option maxHeartbeats 6400000 in
theorem addDecls_any (B p : Nat) (M T : Value) (ss : List Sym) (w : World) (h : PgM w B p M T ss []) (hy : okY ss) (hm : ss.length ≤ 100000) (hBw : B ≤ w.heap.size) :
    Calls Tryz.prog 112 #[.pointer (some ⟨p, 0, none⟩)] w fun r w' => r = .returned (.tuple #[]) ∧ PgM w' B p M T ss (declN 0 ss) ∧ Below B w w' := by
  have HP := Lib.hid h
  obtain ⟨A, c, v, h1, h2, h3, h4, h5, h6⟩ := h
  have hp := lt_of_heap h1
  have c2 := cell_of h1 2 _ rfl
  obtain ⟨n, hn⟩ : ∃ n, ss.length = n := ⟨_, rfl⟩
  obtain ⟨hy1, y4, hy4, hk4⟩ := hy
  have h4n : 4 < n := by rw [← hn]; exact (List.getElem?_eq_some_iff.1 hy4).1
  have HY4 := Lib.hid hy4
  have HK4 := Lib.hid hk4
  have HN := Lib.hid hn
  have HS := Lib.hid h2
  have HY := Lib.hid hy1
  rw [hn] at c2 hm
  clear h1 h2 h3 h4 hn hy1 hy4 hk4
  go_enter Tryz.func112, Tryz.ntmps112
  go_wp2_with fail
  go_loopw [9] (fun i wr => ∃ j : Nat, i = .int .i64 (j : Int) ∧ j ≤ n ∧ PgM wr B p M T ss (declN 0 (ss.take j)) ∧ Below B w wr) (fun i _ => n - (intOf i).toNat)
  case atStart => exact ⟨0, rfl, Nat.zero_le _, HP.out, Below.refl _ _⟩
  case round =>
    obtain ⟨j, rfl, hj, hpg, hb⟩ := hrel
    by_cases hlt : j < n
    · have hjI : (j : Int) < n := by omega
      have hjl : j < ss.length := by rw [HN.out]; exact hlt
      obtain ⟨tb, off, rfl, htb, hxc⟩ := flat_get HS.out j ss[j] (List.getElem?_eq_getElem hjl)
      have hyj := HY.out ss[j] (List.getElem_mem hjl)
      have htk : declN 0 (ss.take (j + 1)) = declN 0 (ss.take j) ++ (if 0 ≤ ss[j].par then [⟨ss[j].mod, ss[j].nm, (j : Int), ss[j].pub⟩] else []) := by
        rw [List.take_succ_eq_append_getElem hjl, declN_snoc, List.length_take, Nat.min_eq_left (by omega), Nat.zero_add]
      have hlt2 : ∀ x ∈ declN 0 (ss.take j), x.sym ≠ (j : Int) := fun x hx => by
        have := declN_lt (ss.take j) 0 x hx
        rw [List.length_take, Nat.min_eq_left (by omega)] at this
        omega
      have hlen := declN_len (ss.take j) 0
      rw [List.length_take, Nat.min_eq_left (by omega)] at hlen
      generalize ss[j] = y at *
      obtain ⟨z0, z1, z2, z3, z4, z5⟩ := y
      simp only at htk hyj
      have hbs := hb.size
      have htw : tb < wr.heap.size := by omega
      have cc : ∀ i u, ([.int .i64 z0, .int .i64 z1, .int .i64 z2, .int .i64 z3, .string z4, .bool z5] : List Value)[i]? = some u → wr.cell? ⟨tb, off + j * 6 + i, none⟩ = some u := fun i u hu => (hb.cell (p := ⟨tb, _, none⟩) htb).trans (hxc i u hu)
      have d0 := cc 0 _ rfl
      have d1 := cc 1 _ rfl
      have d2 := cc 2 _ rfl
      have d3 := cc 3 _ rfl
      have d4 := cc 4 _ rfl
      have d5 := cc 5 _ rfl
      rw [Nat.add_zero] at d0
      have HPG := Lib.hid hpg
      have HB := Lib.hid hb
      have HTK := Lib.hid htk
      obtain ⟨A9, c9, v9, q1, q2, q3, q4, q5, q6⟩ := hpg
      obtain ⟨tb9, off9, rfl, htb9, hxc9⟩ := flat_get q2 4 y4 HY4.out
      have dp := cell_of q1 2 _ rfl
      have dp4 := hxc9 0 (.int .i64 1) (by rw [← HK4.out]; rfl)
      rw [HN.out] at dp
      simp only [Nat.add_zero] at dp4
      have hpw := lt_of_heap q1
      have htw9 : tb9 < wr.heap.size := by omega
      clear cc hxc hb htk q1 q2 q3 q4 q5 q6 hxc9
      rcases hyj with hneg | ⟨rfl, rfl⟩
      · have gd : decide ((0 : Int) ≤ z3) = false := decide_eq_false (by omega)
        have HF := Lib.hid (show declN 0 (ss.take (j + 1)) = declN 0 (ss.take j) by rw [HTK.out, if_neg (by omega), List.append_nil])
        clear HTK hlt2
        go_wp2_with fail
        go_quiet (fail)
        go_wp2_with fail
        go_roundw
        case rel => exact ⟨j + 1, by go_num, by omega, by rw [HF.out]; exact HPG.out.below (below_drewN ((Below.refl _ _).alloc (Nat.le_refl _) _) _), below_drewN (HB.out.alloc (Nat.le_trans hBw hbs) _) _⟩
        case measure => simp [intOf]; omega
      · have HAD := Lib.hid (fun w' (hb' : Below wr.heap.size wr w') => xadd_any B p M T ss (declN 0 (ss.take j)) ⟨z1, z4, (j : Int), z5⟩ w' (HPG.out.below hb') hlt2 (by omega))
        simp only [xpC] at HAD
        have HIS : Hid (∀ w', Calls Tryz.prog 179 #[.int .i64 2] w' fun e w2 => e = .returned (.bool true) ∧ w2 = w') := fun w' => isc_any 2 w'
        have HF := Lib.hid (show declN 0 (ss.take (j + 1)) = declN 0 (ss.take j) ++ [⟨z1, z4, (j : Int), z5⟩] by rw [HTK.out, if_pos (by omega)])
        have h4I : (4 : Int) < n := by omega
        clear HTK hlt2
        go_wp2_with fail
        go_quiet ((go_at_call 179; exact Calls.quiet_of_same (HIS.out _)))
        go_wp2_with fail
        refine (HAD.out _ (below_drewN ((Below.refl _ _).alloc (Nat.le_refl _) _) _)).mono ?_
        rintro e w4 ⟨rfl, hp4, hb4⟩
        have H4 := Lib.hid hp4
        have HB4 := Lib.hid ((below_drewN (HB.out.alloc (Nat.le_trans hBw hbs) _) _).trans hb4)
        clear hp4 hb4 HAD
        go_wp2_with fail
        go_roundw
        case rel => exact ⟨j + 1, by go_num, by omega, by rw [HF.out]; exact H4.out, HB4.out⟩
        case measure => simp [intOf]; omega
    · have hjI : ¬ (j : Int) < n := by omega
      have htk : ss.take j = ss := List.take_of_length_le (by rw [HN.out]; omega)
      rw [htk] at hpg
      have H1 := Lib.hid hpg
      have H2 := Lib.hid hb
      clear hpg hb htk
      go_wp2_with fail
      go_end0
      exact ⟨rfl, H1.out, H2.out⟩
set_option maxRecDepth 100000 in
set_option maxHeartbeats 6400000 in
theorem addImps_any (B p : Nat) (M : Value) (TA : Option Addr) (tc : Nat) (t : Node) (ss : List Sym) (xs : List Xpt) (w : World) (h : PgM w B p M (.slice TA 1 tc) ss xs) (ht : nodeD.At w (fun b => b < B) TA [t]) (hu : ∀ x ∈ t.ch, x.h.k ≠ 2) (hBw : B ≤ w.heap.size) (hl : t.ch.length ≤ 1000000) :
    Calls Tryz.prog 113 #[.pointer (some ⟨p, 0, none⟩)] w fun r w' => r = .returned (.bool false) ∧ Below w.heap.size w w' := by
  obtain ⟨A, c, v, h1, h2, h3, h4, h5, h6⟩ := h
  have hp := lt_of_heap h1
  have c1 := cell_of h1 1 _ rfl
  obtain ⟨tb, off, us, rfl, htb, hv, hxc⟩ := ht.get 0 t rfl
  obtain ⟨KA, kc, rfl, hk⟩ := hv.kids
  obtain ⟨n, hn⟩ : ∃ n, t.ch.length = n := ⟨_, rfl⟩
  have HN := Lib.hid hn
  have HK := Lib.hid hk
  have HU := Lib.hid hu
  rw [hn] at hxc hl
  obtain ⟨hd, ch⟩ := t
  simp only [Node.ch, Node.h, Nat.zero_mul, Nat.add_zero] at hxc HN HK HU
  have d0 := hxc 0 _ rfl
  have d1 := hxc 1 _ rfl
  have d2 := hxc 2 _ rfl
  have d3 := hxc 3 _ rfl
  have d4 := hxc 4 _ rfl
  have d5 := hxc 5 _ rfl
  have d6 := hxc 6 _ rfl
  rw [Nat.add_zero] at d0
  have htw : tb < w.heap.size := Nat.lt_of_lt_of_le htb hBw
  clear h1 h2 h3 h4 hn hk hu hxc ht hv
  go_enter Tryz.func113, Tryz.ntmps113
  go_wp2_with fail
  go_loopw [3, 15] (fun ch0 i wr => ∃ j : Nat, ch0 = .bool false ∧ i = .int .i64 (j : Int) ∧ j ≤ 1 ∧ Below w.heap.size w wr) (fun _ i _ => 1 - (intOf i).toNat)
  case atStart => exact ⟨0, rfl, rfl, Nat.zero_le _, Below.refl _ _⟩
  case round =>
    obtain ⟨j, rfl, rfl, hj, hb⟩ := hrel
    by_cases hj0 : j = 0
    · subst hj0
      have hbs := hb.size
      have e0 := (hb.cell (p := ⟨tb, _, none⟩) htw).trans d0
      have e1 := (hb.cell (p := ⟨tb, _, none⟩) htw).trans d1
      have e2 := (hb.cell (p := ⟨tb, _, none⟩) htw).trans d2
      have e3 := (hb.cell (p := ⟨tb, _, none⟩) htw).trans d3
      have e4 := (hb.cell (p := ⟨tb, _, none⟩) htw).trans d4
      have e5 := (hb.cell (p := ⟨tb, _, none⟩) htw).trans d5
      have e6 := (hb.cell (p := ⟨tb, _, none⟩) htw).trans d6
      have htr : tb < wr.heap.size := Nat.lt_of_lt_of_le htw hbs
      have HB := Lib.hid hb
      clear hb d0 d1 d2 d3 d4 d5 d6 c1
      go_wp2_with fail
      have HB1 := Lib.hid (HB.out.alloc hbs (.cells #[.int .i64 hd.k, .int .i64 hd.v, .string hd.t, .int .i64 hd.s, .int .i64 hd.e, .int .i64 hd.nm, .slice KA n kc] 57))
      obtain ⟨wo, rfl⟩ : ∃ wo : World, wo = wr := ⟨_, rfl⟩
      go_loopw [3, 23] (fun ch0 i wr => ∃ k : Nat, ch0 = .bool false ∧ i = .int .i64 (k : Int) ∧ k ≤ n ∧ Below w.heap.size w wr) (fun _ i _ => n - (intOf i).toNat)
      case atStart => exact ⟨0, rfl, rfl, Nat.zero_le _, HB1.out⟩
      case round =>
        obtain ⟨k, rfl, rfl, hk, hb2⟩ := hrel
        clear e0 e1 e2 e3 e4 e5 e6
        by_cases hlt : k < n
        · have hkI : (k : Int) < n := by omega
          have hkl : k < ch.length := by rw [HN.out]; exact hlt
          obtain ⟨kb, ko, xs, rfl, hkb, hx, hxc⟩ := HK.out.get k ch[k] (List.getElem?_eq_getElem hkl)
          have hne := HU.out ch[k] (List.getElem_mem hkl)
          generalize ch[k] = x at *
          obtain ⟨A2, c2, rfl, _⟩ := NodeV.vals hx
          have hbs2 := hb2.size
          have hkw : kb < w.heap.size := Nat.lt_of_lt_of_le hkb hBw
          have hc : ∀ t u, (x.h.vals (.slice A2 x.ch.length c2))[t]? = some u → wr.cell? ⟨kb, ko + k * 7 + t, none⟩ = some u := fun t u hu => (hb2.cell (p := ⟨kb, _, none⟩) hkw).trans (hxc t u hu)
          obtain ⟨m2, hm2⟩ : ∃ m2, x.ch.length = m2 := ⟨_, rfl⟩
          obtain ⟨hd2, hhd2⟩ : ∃ hd2, x.h = hd2 := ⟨_, rfl⟩
          rw [hhd2, hm2] at hc
          have hne2 : hd2.k ≠ 2 := by rw [← hhd2]; exact hne
          have f0 := hc 0 _ rfl
          have f1 := hc 1 _ rfl
          have f2 := hc 2 _ rfl
          have f3 := hc 3 _ rfl
          have f4 := hc 4 _ rfl
          have f5 := hc 5 _ rfl
          have f6 := hc 6 _ rfl
          rw [Nat.add_zero] at f0
          have htl : kb < wr.heap.size := Nat.lt_of_lt_of_le hkw hbs2
          have HB2 := Lib.hid hb2
          clear hc hx hxc hb2 hm2 hhd2 hne
          go_wp2_with fail
          go_roundw
          case rel => exact ⟨k + 1, rfl, by go_num, by omega, HB2.out.alloc hbs2 _⟩
          case measure => simp [intOf]; omega
        · have hkI : ¬ (k : Int) < n := by omega
          go_wp2_with fail
          go_roundw
          case rel => exact ⟨1, rfl, by go_num, by omega, hb2⟩
          case measure => simp [intOf]
    · have hkI : ¬ (j : Int) < 1 := by omega
      have hkN : ¬ j < 1 := by omega
      obtain rfl : j = 1 := by omega
      go_wp2_with fail
      go_ret
      exact ⟨rfl, hb⟩
end Go.Proofs.YtpibenilagloaaaGreatDoor
