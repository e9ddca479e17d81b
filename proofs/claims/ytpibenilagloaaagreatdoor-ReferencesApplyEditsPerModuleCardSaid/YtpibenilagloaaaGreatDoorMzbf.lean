import Derived.Test.YtpibenilagloaaaGreatDoorMzaj
import Derived.Test.YtpibenilagloaaaGreatDoorMzaz
import Derived.Test.YtpibenilagloaaaGreatDoorMzat
namespace Go.Proofs.YtpibenilagloaaaGreatDoor
open Go.RowKit
set_option linter.unusedVariables false
def rsC (p : Nat) (bn vr vd : Value) : Array Value := #[.pointer (some ⟨p, 0, none⟩), .int .i64 0, .slice none 0 0, .int .i64 (-1), .int .i64 (-1), bn, vr, vd]
def RsM (w : World) (B R p : Nat) (bn : Value) (s : RD) : Prop :=
  ∃ vr vd, w.heap[R]? = some (.cells (rsC p bn vr vd) 156 (0, 0)) ∧ w.ownsRow B 117 3 vr s.rf.length (s.rf.flatMap rfC) ∧ w.ownsRow B 99 5 vd s.ds.length (s.ds.flatMap Dg.cells) ∧ vr.ownBlock ≠ some R ∧ vd.ownBlock ≠ some R ∧ B ≤ R
theorem RsM.below {w w' : World} {B R p : Nat} {bn : Value} {s : RD} (h : RsM w B R p bn s) (hb : Below w.heap.size w w') : RsM w' B R p bn s := by
  obtain ⟨vr, vd, h1, h2, h3, h4, h5, h6⟩ := h
  exact ⟨vr, vd, (hb.block R (lt_of_heap h1)).trans h1, ownsRow_below h2 (fun g hg => hb.block g (h2.lt g hg).2), ownsRow_below h3 (fun g hg => hb.block g (h3.lt g hg).2), h4, h5, h6⟩
theorem RsM.lt {w : World} {B R p : Nat} {bn : Value} {s : RD} (h : RsM w B R p bn s) : R < w.heap.size := by
  obtain ⟨vr, vd, h1, _⟩ := h; exact lt_of_heap h1
theorem hat_ne {w : World} {R : Nat} {v v' : Value} (hR : R < w.heap.size) (h : v.ownBlock ≠ some R) (hat : v'.ownBlock = v.ownBlock ∨ ∃ g, v'.ownBlock = some g ∧ w.heap.size ≤ g) : v'.ownBlock ≠ some R := by
  rcases hat with e | ⟨g, e, hge⟩
  · rw [e]; exact h
  · rw [e]; intro e2; injection e2 with e2; omega
theorem RsM.pushD {w w2 : World} {B R p : Nat} {bn : Value} {s : RD} {vr vd v' : Value} (h1 : w.heap[R]? = some (.cells (rsC p bn vr vd) 156 (0, 0))) (h2 : w.ownsRow B 117 3 vr s.rf.length (s.rf.flatMap rfC)) (h3 : w.ownsRow B 99 5 vd s.ds.length (s.ds.flatMap Dg.cells)) (h4 : vr.ownBlock ≠ some R) (h5 : vd.ownBlock ≠ some R) (h6 : B ≤ R)
    (y : Dg) (hg : w.grownBy w2 vd.ownBlock) (ho : w2.ownsRow B 99 5 v' (s.ds.length + 1) (s.ds.flatMap Dg.cells ++ Dg.cells y)) (hat : v'.ownBlock = vd.ownBlock ∨ ∃ g, v'.ownBlock = some g ∧ w.heap.size ≤ g) : RsM (w2.setCell ⟨R, 7, none⟩ v') B R p bn ⟨s.rf, s.ds ++ [y]⟩ := by
  have hne := hat_ne (lt_of_heap h1) h5 hat
  refine ⟨vr, v', ?_, ?_, ?_, h4, hne, h6⟩
  · exact heap_set ((hg.block R (lt_of_heap h1) (fun e => h5 e.symm)).trans h1) 7 v'
  · exact ownsRow_below h2 (fun g hg' => (Below.heap_setCell _ _ _ _ (fun e => h4 (by rw [hg', e]))).trans (hg.block g (h2.lt g hg').2 (fun e => own_ne h2 h3 (by decide) hg' e.symm)))
  · rw [List.length_append, List.flatMap_append]
    simp only [List.length_singleton, List.flatMap_cons, List.flatMap_nil, List.append_nil]
    exact ownsRow_below ho (fun g hg' => Below.heap_setCell _ _ _ _ (fun e => hne (by rw [hg', e])))
theorem RsM.pushR {w w2 : World} {B R p : Nat} {bn : Value} {s : RD} {vr vd v' : Value} (h1 : w.heap[R]? = some (.cells (rsC p bn vr vd) 156 (0, 0))) (h2 : w.ownsRow B 117 3 vr s.rf.length (s.rf.flatMap rfC)) (h3 : w.ownsRow B 99 5 vd s.ds.length (s.ds.flatMap Dg.cells)) (h4 : vr.ownBlock ≠ some R) (h5 : vd.ownBlock ≠ some R) (h6 : B ≤ R)
    (y : Rfn) (hg : w.grownBy w2 vr.ownBlock) (ho : w2.ownsRow B 117 3 v' (s.rf.length + 1) (s.rf.flatMap rfC ++ rfC y)) (hat : v'.ownBlock = vr.ownBlock ∨ ∃ g, v'.ownBlock = some g ∧ w.heap.size ≤ g) : RsM (w2.setCell ⟨R, 6, none⟩ v') B R p bn ⟨s.rf ++ [y], s.ds⟩ := by
  have hne := hat_ne (lt_of_heap h1) h4 hat
  refine ⟨v', vd, ?_, ?_, ?_, hne, h5, h6⟩
  · exact heap_set ((hg.block R (lt_of_heap h1) (fun e => h4 e.symm)).trans h1) 6 v'
  · rw [List.length_append, List.flatMap_append]
    simp only [List.length_singleton, List.flatMap_cons, List.flatMap_nil, List.append_nil]
    exact ownsRow_below ho (fun g hg' => Below.heap_setCell _ _ _ _ (fun e => hne (by rw [hg', e])))
  · exact ownsRow_below h3 (fun g hg' => (Below.heap_setCell _ _ _ _ (fun e => h5 (by rw [hg', e]))).trans (hg.block g (h3.lt g hg').2 (fun e => own_ne h3 h2 (by decide) hg' e.symm)))
set_option maxRecDepth 100000 in
set_option maxHeartbeats 6400000 in
theorem report_r (B R p : Nat) (bn : Value) (s : RD) (code st : Int) (nm : ByteArray) (w : World) (h : RsM w B R p bn s) (hm : s.ds.length + 1 ≤ 1000000) (hst : 0 ≤ st ∧ st ≤ 1000000) (hnm : nm.size ≤ 1000000) :
    Calls Tryz.prog 120 #[.pointer (some ⟨R, 0, none⟩), .int .i64 code, .int .i64 st, .string nm] w fun r w' => r = .returned (.tuple #[]) ∧ RsM w' B R p bn ⟨s.rf, s.ds ++ [⟨code, 0, st, st + nm.size, nm⟩]⟩ ∧ Below B w w' ∧ ∀ b cs t fr, w.heap[b]? = some (.cells cs t fr) → t ≠ 99 → b ≠ R → w'.heap[b]? = w.heap[b]? := by
  obtain ⟨vr, vd, h1, h2, h3, h4, h5, h6⟩ := h
  have hR := lt_of_heap h1
  have c1 := cell_of h1 1 _ rfl
  have c7 := cell_of h1 7 _ rfl
  have hw : IntKind.i64.wrap (st + (nm.size : Int)) = st + nm.size := IntWalk.i64_in _ (by omega)
  have hBR : B ≤ w.heap.size := by omega
  obtain ⟨k, hk⟩ : ∃ k, s.ds.length = k := ⟨_, rfl⟩
  have hfin : ∀ w1 : World, Below w.heap.size w w1 → ∀ (v3 : Value) (w3 : World), w3.ownsRow B 99 5 v3 (k + 1) (s.ds.flatMap Dg.cells ++ Dg.cells ⟨code, 0, st, st + nm.size, nm⟩) → w1.grownBy w3 vd.ownBlock → (v3.ownBlock = vd.ownBlock ∨ ∃ g, v3.ownBlock = some g ∧ w1.heap.size ≤ g) →
      w3.cell? ⟨R, 7, none⟩ = some vd ∧ w3.frozen? ⟨R, 7, none⟩ = false ∧ RsM (w3.setCell ⟨R, 7, none⟩ v3) B R p bn ⟨s.rf, s.ds ++ [⟨code, 0, st, st + nm.size, nm⟩]⟩ ∧ Below B w (w3.setCell ⟨R, 7, none⟩ v3) ∧ ∀ b cs t fr, w.heap[b]? = some (.cells cs t fr) → t ≠ 99 → b ≠ R → (w3.setCell ⟨R, 7, none⟩ v3).heap[b]? = w.heap[b]? := by
    rw [← hk]
    intro w1 hb v3 w3 ho hg hat
    have q1 := (hb.block R hR).trans h1
    have q2 : w3.heap[R]? = _ := (hg.block R (lt_of_heap q1) (fun e => h5 e.symm)).trans q1
    have q3 := ownsRow_below h2 (fun g hg => hb.block g (h2.lt g hg).2)
    have q4 := ownsRow_below h3 (fun g hg => hb.block g (h3.lt g hg).2)
    refine ⟨cell_of q2 7 _ rfl, Lib.frozen_of_heap q2 7, RsM.pushD q1 q3 q4 h4 h5 h6 _ hg ho hat, ?_, ?_⟩
    · exact ((hb.mono hBR).grown hg (by have := hb.size; omega) (fun q hq => (h3.lt q hq).1)).setCell h6 _
    · intro b cs t fr e1 e2 e3
      have e4 := (hb.block b (lt_of_heap e1)).trans e1
      exact (Below.heap_setCell _ _ _ _ e3).trans ((hg.block b (lt_of_heap e4) (fun e => e2 (own_type q4 e.symm e4))).trans (hb.block b (lt_of_heap e1)))
  have hown : ∀ w1 : World, Below w.heap.size w w1 → w1.ownsRow B 99 5 vd k (s.ds.flatMap Dg.cells) := by
    rw [← hk]
    exact fun w1 hb => ownsRow_below h3 (fun g hg => hb.block g (h3.lt g hg).2)
  rw [hk] at hm
  have HFN := Lib.hid hfin
  have HOW := Lib.hid hown
  have hone : ∀ u ∈ Dg.cells ⟨code, 0, st, st + nm.size, nm⟩, u.oneCell' = true := by simp [Dg.cells, Value.oneCell']
  have HON := Lib.hid hone
  have hkp : ∀ w' : World, Below w.heap.size w w' → w'.cell? ⟨R, 7, none⟩ = some vd ∧ w'.cell? ⟨R, 1, none⟩ = some (.int .i64 0) := fun w' hb' => ⟨(hb'.cell (p := ⟨R, 7, none⟩) hR).trans c7, (hb'.cell (p := ⟨R, 1, none⟩) hR).trans c1⟩
  have HKP := Lib.hid hkp
  have hk3 : ∀ w3 : World, (w.drew.alloc (.cells #[.int .i64 code, .int .i64 0, .int .i64 st, .int .i64 (st + (nm.size : Int)), .string nm] 99)).grownBy w3 vd.ownBlock → w3.cell? ⟨R, 1, none⟩ = some (.int .i64 0) := fun w3 hg => by
    have q0 := (hg.block R (by simp; omega) (fun e => h5 e.symm)).trans ((heap_alloc_old (r := R) w.drew _ (by simpa using hR)).trans h1)
    exact cell_of q0 1 _ rfl
  have HK3 := Lib.hid hk3
  have hlit : ∀ w4 : World, RowAt (w4.alloc (.cells #[.int .i64 code, .int .i64 0, .int .i64 st, .int .i64 (st + (nm.size : Int)), .string nm] 99)) (Lt (w4.alloc (.cells #[.int .i64 code, .int .i64 0, .int .i64 st, .int .i64 (st + (nm.size : Int)), .string nm] 99))) (some ⟨w4.heap.size, 0, none⟩) (Dg.cells ⟨code, 0, st, st + nm.size, nm⟩) := fun w4 _ =>
    ⟨_, 0, rfl, by simp [Lt], fun j u hu => by rw [Nat.zero_add, Lib.cell_of_heap (heap_alloc_new w4 _)]; simpa [Dg.cells] using hu⟩
  have HLI := Lib.hid hlit
  have HB : Hid (Below w.heap.size w w.drew) := (Below.refl w.heap.size w).drew
  clear h1 h2 h3 h4 h5 hfin hown hone hk hkp hk3 hlit
  go_enter Tryz.func120, Tryz.ntmps120
  go_wp2_with fail
  refine regionS (fun w' => w'.cell? ⟨R, 7, none⟩ = some vd ∧ w'.cell? ⟨R, 1, none⟩ = some (.int .i64 0)) 19 (by kernel_rfl) (HKP.out _ HB.out) ?_
  intro hS
  refine takeS (i := 0) (v := ?v0) (at_zero) (by kernel_rfl) (by kernel_rfl) (by kernel_rfl) (by kernel_rfl) (fun _ _ _ h => h) (Or.inl ⟨by rfl, ?y0⟩) (by assumption) ?z0
  case y0 => intro wq hSw; (try dsimp only at hSw); go_simp; try with_reducible rfl
  try simp only [Act.put, List.setIfInBounds_toArray, List.set_cons_zero, List.set_cons_succ]
  refine takeS (i := 1) (v := ?v1) (at_succ (at_zero)) (by kernel_rfl) (by kernel_rfl) (by kernel_rfl) (by kernel_rfl) (fun _ _ _ h => h) (Or.inl ⟨by rfl, ?y1⟩) (by assumption) ?z1
  case y1 => intro wq hSw; (try dsimp only at hSw); go_simp; try with_reducible rfl
  try simp only [Act.put, List.setIfInBounds_toArray, List.set_cons_zero, List.set_cons_succ]
  refine takeS (i := 2) (v := ?v2) (at_succ (at_succ (at_zero))) (by kernel_rfl) (by kernel_rfl) (by kernel_rfl) (by kernel_rfl) (fun _ _ _ h => h) (Or.inl ⟨by rfl, ?y2⟩) (by assumption) ?z2
  case y2 => intro wq hSw; (try dsimp only at hSw); go_simp; try with_reducible rfl
  try simp only [Act.put, List.setIfInBounds_toArray, List.set_cons_zero, List.set_cons_succ]
  refine takeS (i := 3) (v := ?v3) (at_succ (at_succ (at_succ (at_zero)))) (by kernel_rfl) (by kernel_rfl) (by kernel_rfl) (by kernel_rfl) (fun _ _ _ h => h) (Or.inl ⟨by rfl, ?y3⟩) (by assumption) ?z3
  case y3 => intro wq hSw; (try dsimp only at hSw); go_simp; try with_reducible rfl
  try simp only [Act.put, List.setIfInBounds_toArray, List.set_cons_zero, List.set_cons_succ]
  refine takeS (i := 4) (v := ?v4) (at_succ (at_succ (at_succ (at_succ (at_zero))))) (by kernel_rfl) (by kernel_rfl) (by kernel_rfl) (by kernel_rfl) (fun _ _ _ h => h) (Or.inl ⟨by rfl, ?y4⟩) (by assumption) ?z4
  case y4 => intro wq hSw; (try dsimp only at hSw); go_simp; try with_reducible rfl
  try simp only [Act.put, List.setIfInBounds_toArray, List.set_cons_zero, List.set_cons_succ]
  refine takeS (i := 5) (v := ?v5) (at_succ (at_succ (at_succ (at_succ (at_succ (at_zero)))))) (by kernel_rfl) (by kernel_rfl) (by kernel_rfl) (by kernel_rfl) (fun _ _ _ h => h) (Or.inl ⟨by rfl, ?y5⟩) (by assumption) ?z5
  case y5 => intro wq hSw; (try dsimp only at hSw); go_simp; try with_reducible rfl
  try simp only [Act.put, List.setIfInBounds_toArray, List.set_cons_zero, List.set_cons_succ]
  refine takeS (i := 6) (v := ?v6) (at_succ (at_succ (at_succ (at_succ (at_succ (at_succ (at_zero))))))) (by kernel_rfl) (by kernel_rfl) (by kernel_rfl) (by kernel_rfl) (fun _ _ _ h => h) (Or.inl ⟨by rfl, ?y6⟩) (by assumption) ?z6
  case y6 => intro wq hSw; (try dsimp only at hSw); go_simp; try with_reducible rfl
  try simp only [Act.put, List.setIfInBounds_toArray, List.set_cons_zero, List.set_cons_succ]
  refine takeS (i := 7) (v := ?v7) (at_succ (at_succ (at_succ (at_succ (at_succ (at_succ (at_succ (at_zero)))))))) (by kernel_rfl) (by kernel_rfl) (by kernel_rfl) (by kernel_rfl) (fun _ _ _ h => h) (Or.inl ⟨by rfl, ?y7⟩) (by assumption) ?z7
  case y7 => intro wq hSw; (try dsimp only at hSw); go_simp; try with_reducible rfl
  try simp only [Act.put, List.setIfInBounds_toArray, List.set_cons_zero, List.set_cons_succ]
  refine takeS (i := 8) (v := ?v8) (at_succ (at_succ (at_succ (at_succ (at_succ (at_succ (at_succ (at_succ (at_zero))))))))) (by kernel_rfl) (by kernel_rfl) (by kernel_rfl) (by kernel_rfl) (fun _ _ _ h => h) (Or.inl ⟨by rfl, ?y8⟩) (by assumption) ?z8
  case y8 => intro wq hSw; (try dsimp only at hSw); go_simp; try with_reducible rfl
  try simp only [Act.put, List.setIfInBounds_toArray, List.set_cons_zero, List.set_cons_succ]
  refine takeS (i := 9) (v := ?v9) (at_succ (at_succ (at_succ (at_succ (at_succ (at_succ (at_succ (at_succ (at_succ (at_zero)))))))))) (by kernel_rfl) (by kernel_rfl) (by kernel_rfl) (by kernel_rfl) (fun _ _ _ h => h) (Or.inl ⟨by rfl, ?y9⟩) (by assumption) ?z9
  case y9 => intro wq hSw; (try dsimp only at hSw); go_simp; try with_reducible rfl
  try simp only [Act.put, List.setIfInBounds_toArray, List.set_cons_zero, List.set_cons_succ]
  refine takeS (i := 10) (v := ?v10) (at_succ (at_succ (at_succ (at_succ (at_succ (at_succ (at_succ (at_succ (at_succ (at_succ (at_zero))))))))))) (by kernel_rfl) (by kernel_rfl) (by kernel_rfl) (by kernel_rfl) (fun _ _ _ h => h) (Or.inl ⟨by rfl, ?y10⟩) (by assumption) ?z10
  case y10 => intro wq hSw; (try dsimp only at hSw); go_simp; try with_reducible rfl
  try simp only [Act.put, List.setIfInBounds_toArray, List.set_cons_zero, List.set_cons_succ]
  refine takeS (i := 11) (v := ?v11) (at_succ (at_succ (at_succ (at_succ (at_succ (at_succ (at_succ (at_succ (at_succ (at_succ (at_succ (at_zero)))))))))))) (by kernel_rfl) (by kernel_rfl) (by kernel_rfl) (by kernel_rfl) (fun _ _ _ h => h) (Or.inl ⟨by rfl, ?y11⟩) (by assumption) ?z11
  case y11 => intro wq hSw; (try dsimp only at hSw); go_simp; try with_reducible rfl
  try simp only [Act.put, List.setIfInBounds_toArray, List.set_cons_zero, List.set_cons_succ]
  refine takeS (i := 12) (v := ?v12) (at_succ (at_succ (at_succ (at_succ (at_succ (at_succ (at_succ (at_succ (at_succ (at_succ (at_succ (at_succ (at_zero))))))))))))) (by kernel_rfl) (by kernel_rfl) (by kernel_rfl) (by kernel_rfl) (fun _ _ _ h => h) (Or.inl ⟨by rfl, ?y12⟩) (by assumption) ?z12
  case y12 => intro wq hSw; (try dsimp only at hSw); go_simp; try with_reducible rfl
  try simp only [Act.put, List.setIfInBounds_toArray, List.set_cons_zero, List.set_cons_succ]
  refine takeS (i := 13) (v := ?v13) (at_succ (at_succ (at_succ (at_succ (at_succ (at_succ (at_succ (at_succ (at_succ (at_succ (at_succ (at_succ (at_succ (at_zero)))))))))))))) (by kernel_rfl) (by kernel_rfl) (by kernel_rfl) (by kernel_rfl) (fun _ _ _ h => h) (Or.inl ⟨by rfl, ?y13⟩) (by assumption) ?z13
  case y13 => intro wq hSw; (try dsimp only at hSw); go_simp; try with_reducible rfl
  try simp only [Act.put, List.setIfInBounds_toArray, List.set_cons_zero, List.set_cons_succ]
  refine takeS (i := 14) (v := ?v14) (at_succ (at_succ (at_succ (at_succ (at_succ (at_succ (at_succ (at_succ (at_succ (at_succ (at_succ (at_succ (at_succ (at_succ (at_zero))))))))))))))) (by kernel_rfl) (by kernel_rfl) (by kernel_rfl) (by kernel_rfl) (fun _ _ _ h => h) (Or.inl ⟨by rfl, ?y14⟩) (by assumption) ?z14
  case y14 => intro wq hSw; (try dsimp only at hSw); go_simp; try with_reducible rfl
  try simp only [Act.put, List.setIfInBounds_toArray, List.set_cons_zero, List.set_cons_succ]
  refine takeS (i := 15) (v := ?v15) (at_succ (at_succ (at_succ (at_succ (at_succ (at_succ (at_succ (at_succ (at_succ (at_succ (at_succ (at_succ (at_succ (at_succ (at_succ (at_zero)))))))))))))))) (by kernel_rfl) (by kernel_rfl) (by kernel_rfl) (by kernel_rfl) (fun _ _ _ h => h) (Or.inl ⟨by rfl, ?y15⟩) (by assumption) ?z15
  case y15 => intro wq hSw; (try dsimp only at hSw); go_simp; try with_reducible rfl
  try simp only [Act.put, List.setIfInBounds_toArray, List.set_cons_zero, List.set_cons_succ]
  refine takeS (i := 16) (v := ?v16) (at_succ (at_succ (at_succ (at_succ (at_succ (at_succ (at_succ (at_succ (at_succ (at_succ (at_succ (at_succ (at_succ (at_succ (at_succ (at_succ (at_zero))))))))))))))))) (by kernel_rfl) (by kernel_rfl) (by kernel_rfl) (by kernel_rfl) (fun _ _ _ h => h) (Or.inl ⟨by rfl, ?y16⟩) (by assumption) ?z16
  case y16 => intro wq hSw; (try dsimp only at hSw); go_simp; try with_reducible rfl
  try simp only [Act.put, List.setIfInBounds_toArray, List.set_cons_zero, List.set_cons_succ]
  refine stepS (i := 17) (by kernel_rfl) (at_succ (at_succ (at_succ (at_succ (at_succ (at_succ (at_succ (at_succ (at_succ (at_succ (at_succ (at_succ (at_succ (at_succ (at_succ (at_succ (at_succ (at_zero)))))))))))))))))) (fun K hK => ?_)
  go_simp
  clear hS
  refine hK.out _ _ (HKP.out _ (HB.out.alloc (Nat.le_refl _) _)) (fun hS => ?_)
  clear hK K
  try simp only [Act.put, List.setIfInBounds_toArray, List.set_cons_zero, List.set_cons_succ]
  refine stepS (i := 18) (by kernel_rfl) (at_succ (at_succ (at_succ (at_succ (at_succ (at_succ (at_succ (at_succ (at_succ (at_succ (at_succ (at_succ (at_succ (at_succ (at_succ (at_succ (at_succ (at_succ (at_zero))))))))))))))))))) (fun K hK => ?_)
  refine step_append_src (by rfl) (.tmp 12) (.tmp 25) _ (by rfl) B 99 _ 5 48 Tryz.underlying58 info_dg (by rfl) (by decide) vd k (s.ds.flatMap Dg.cells) (by rfl) (HOW.out _ (HB.out.alloc HB.out.size _)) (Lt _) (some ⟨w.heap.size, 0, none⟩) 1 1 (Dg.cells ⟨code, 0, st, st + nm.size, nm⟩) (by rfl) (HLI.out w.drew) rfl HON.out (by unfold maxLen; omega) (by omega) (by have := HB.out.size; simp; omega) ?_
  intro v3 w3 hown3 hg3 hat3
  have hf3 := Lib.hid (HFN.out _ (HB.out.alloc HB.out.size _) v3 w3 hown3 hg3 hat3)
  have hc3 := hf3.out.1
  have hz3 := hf3.out.2.1
  have hc1 := HK3.out w3 hg3
  obtain ⟨Av, cv, rfl⟩ := own_slice hown3
  clear hown3 hg3 hat3 hS
  refine hK.out _ _ ⟨hc3, hc1⟩ (fun hS => ?_)
  clear hc1
  clear hK K
  try simp only [Act.put, List.setIfInBounds_toArray, List.set_cons_zero, List.set_cons_succ]
  refine tailZ (i := 19) (by kernel_rfl) (at_succ (at_succ (at_succ (at_succ (at_succ (at_succ (at_succ (at_succ (at_succ (at_succ (at_succ (at_succ (at_succ (at_succ (at_succ (at_succ (at_succ (at_succ (at_succ (at_zero)))))))))))))))))))) (by kernel_rfl) (fun K hK => ?_)
  go_simp
  refine hK.out _ _ ?_
  clear hK K
  try simp only [Act.put, List.setIfInBounds_toArray, List.set_cons_zero, List.set_cons_succ]
  refine tailZ (i := 20) (by kernel_rfl) (at_succ (at_succ (at_succ (at_succ (at_succ (at_succ (at_succ (at_succ (at_succ (at_succ (at_succ (at_succ (at_succ (at_succ (at_succ (at_succ (at_succ (at_succ (at_succ (at_succ (at_zero))))))))))))))))))))) (by kernel_rfl) (fun K hK => ?_)
  go_simp
  refine hK.out _ _ ?_
  clear hK K
  try simp only [Act.put, List.setIfInBounds_toArray, List.set_cons_zero, List.set_cons_succ]
  refine tailZ (i := 21) (by kernel_rfl) (at_succ (at_succ (at_succ (at_succ (at_succ (at_succ (at_succ (at_succ (at_succ (at_succ (at_succ (at_succ (at_succ (at_succ (at_succ (at_succ (at_succ (at_succ (at_succ (at_succ (at_succ (at_zero)))))))))))))))))))))) (by kernel_rfl) (fun K hK => ?_)
  go_simp
  refine hK.out _ _ ?_
  clear hK K
  try simp only [Act.put, List.setIfInBounds_toArray, List.set_cons_zero, List.set_cons_succ]
  refine doneS (by kernel_rfl) ?_ _
  go_wp2_with fail
  go_end0
  exact ⟨rfl, hf3.out.2.2.1, hf3.out.2.2.2.1, hf3.out.2.2.2.2⟩

set_option maxRecDepth 100000 in
set_option maxHeartbeats 3200000 in
theorem visall_nil (R : Nat) (A : Option Addr) (c : Nat) (w : World) :
    Calls Tryz.prog 69 #[.pointer (some ⟨R, 0, none⟩), .slice A 0 c] w fun r w' => r = .returned (.tuple #[]) ∧ w' = w := by
  go_enter Tryz.func69, Tryz.ntmps69
  go_wp2_with fail
  go_loopw [8] (fun i wx => i = .int .i64 0 ∧ wx = w) (fun _ _ => 0)
  case atStart => exact ⟨rfl, rfl⟩
  case round =>
    obtain ⟨rfl, rfl⟩ := hrel
    go_wp2_with fail
    go_end0
    exact ⟨rfl, rfl⟩
set_option maxRecDepth 100000 in
set_option maxHeartbeats 3200000 in
theorem typeParams_nil (R : Nat) (hd : Hd) (A : Option Addr) (c : Nat) (w : World) :
    Calls Tryz.prog 187 #[.pointer (some ⟨R, 0, none⟩), .agg (hd.vals (.slice A 0 c)).toArray] w fun r w' => r = .returned (.tuple #[]) ∧ Below w.heap.size w w' := by
  simp only [Hd.vals]
  obtain ⟨k, v, t, s, e, nm⟩ := hd
  obtain ⟨W, hW⟩ : ∃ W, w.alloc (.cells #[.int .i64 k, .int .i64 v, .string t, .int .i64 s, .int .i64 e, .int .i64 nm, .slice A 0 c] 57) = W := ⟨_, rfl⟩
  have hbx : W.heap[w.heap.size]? = some (.cells #[.int .i64 k, .int .i64 v, .string t, .int .i64 s, .int .i64 e, .int .i64 nm, .slice A 0 c] 57 (0, 0)) := by rw [← hW]; exact heap_alloc_new w _
  have hbw : Below w.heap.size w W := by rw [← hW]; exact (Below.refl _ _).alloc (Nat.le_refl _) _
  have d6 := cell_of hbx 6 _ rfl
  have hlt := lt_of_heap hbx
  have HBW := Lib.hid hbw
  clear hbx hbw
  show Calls _ _ #[_, .agg #[.int .i64 k, .int .i64 v, .string t, .int .i64 s, .int .i64 e, .int .i64 nm, .slice A 0 c]] _ _
  go_enter Tryz.func187, Tryz.ntmps187
  go_wp2_with fail
  clear hW
  go_loopw [17] (fun i wx => i = .int .i64 0 ∧ wx = W) (fun _ _ => 0)
  case atStart => exact ⟨rfl, rfl⟩
  case round =>
    obtain ⟨rfl, rfl⟩ := hrel
    go_wp2_with fail
    obtain ⟨W, rfl⟩ : ∃ W : World, W = wr := ⟨_, rfl⟩
    go_loopw [31] (fun i wy => i = .int .i64 0 ∧ wy = W) (fun _ _ => 0)
    case atStart => exact ⟨rfl, rfl⟩
    case round =>
      obtain ⟨rfl, rfl⟩ := hrel
      go_wp2_with fail
      obtain ⟨W, rfl⟩ : ∃ W : World, W = wr := ⟨_, rfl⟩
      go_loopw [82] (fun i wz => i = .int .i64 0 ∧ wz = W) (fun _ _ => 0)
      case atStart => exact ⟨rfl, rfl⟩
      case round =>
        obtain ⟨rfl, rfl⟩ := hrel
        go_wp2_with fail
        go_end0
        exact ⟨rfl, HBW.out⟩
set_option maxRecDepth 100000 in
set_option maxHeartbeats 3200000 in
theorem params_nil (R : Nat) (hd : Hd) (A : Option Addr) (c : Nat) (w : World) :
    Calls Tryz.prog 188 #[.pointer (some ⟨R, 0, none⟩), .agg (hd.vals (.slice A 0 c)).toArray] w fun r w' => r = .returned (.tuple #[]) ∧ Below w.heap.size w w' := by
  simp only [Hd.vals]
  obtain ⟨k, v, t, s, e, nm⟩ := hd
  obtain ⟨W, hW⟩ : ∃ W, w.alloc (.cells #[.int .i64 k, .int .i64 v, .string t, .int .i64 s, .int .i64 e, .int .i64 nm, .slice A 0 c] 57) = W := ⟨_, rfl⟩
  have hbx : W.heap[w.heap.size]? = some (.cells #[.int .i64 k, .int .i64 v, .string t, .int .i64 s, .int .i64 e, .int .i64 nm, .slice A 0 c] 57 (0, 0)) := by rw [← hW]; exact heap_alloc_new w _
  have hbw : Below w.heap.size w W := by rw [← hW]; exact (Below.refl _ _).alloc (Nat.le_refl _) _
  have d6 := cell_of hbx 6 _ rfl
  have hlt := lt_of_heap hbx
  have HBW := Lib.hid hbw
  clear hbx hbw
  show Calls _ _ #[_, .agg #[.int .i64 k, .int .i64 v, .string t, .int .i64 s, .int .i64 e, .int .i64 nm, .slice A 0 c]] _ _
  go_enter Tryz.func188, Tryz.ntmps188
  go_wp2_with fail
  clear hW
  go_loopw [11] (fun i wx => i = .int .i64 0 ∧ wx = W) (fun _ _ => 0)
  case atStart => exact ⟨rfl, rfl⟩
  case round =>
    obtain ⟨rfl, rfl⟩ := hrel
    go_wp2_with fail
    obtain ⟨W, rfl⟩ : ∃ W : World, W = wr := ⟨_, rfl⟩
    go_loopw [23] (fun i wy => i = .int .i64 0 ∧ wy = W) (fun _ _ => 0)
    case atStart => exact ⟨rfl, rfl⟩
    case round =>
      obtain ⟨rfl, rfl⟩ := hrel
      go_wp2_with fail
      go_end0
      exact ⟨rfl, HBW.out⟩

theorem uniqueL_nil_of : ∀ (l : List Int), (uniqueL l).2 = 11 → l = []
  | [], _ => rfl
  | [x], h => by simp [uniqueL] at h
  | x :: y :: r, h => by simp [uniqueL, cAmb] at h
set_option maxRecDepth 100000 in
set_option maxHeartbeats 6400000 in
theorem exported_any (R p : Nat) (ss : List Sym) (xs : List Xpt) (nm : ByteArray) (w : World) (c0 : w.cell? ⟨R, 0, none⟩ = some (.pointer (some ⟨p, 0, none⟩))) (c1 : w.cell? ⟨R, 1, none⟩ = some (.int .i64 0)) (hR : R < w.heap.size) (hp : PgV w p ss xs) (hm : xs.length ≤ 1000000) :
    Calls Tryz.prog 295 #[.pointer (some ⟨R, 0, none⟩), .int .i64 0, .string nm] w fun e w' => e = .returned (.tuple #[.int .i64 (uniqueL ((lookupL xs 0 nm 0).map Xpt.sym)).1, .int .i64 (uniqueL ((lookupL xs 0 nm 0).map Xpt.sym)).2]) ∧ Below w.heap.size w w' := by
  have HL := Lib.hid (fun w' (hb : Below w.heap.size w w') => lookup_any p ss xs 0 0 nm w' (hp.below hb) hm)
  obtain ⟨ys, hys⟩ : ∃ ys, lookupL xs 0 nm 0 = ys := ⟨_, rfl⟩
  have hyl : ys.length ≤ 1000000 := by rw [← hys]; exact Nat.le_trans (List.length_filter_le _ _) hm
  rw [hys] at HL ⊢
  obtain ⟨q1, hq1⟩ : ∃ q1, (uniqueL (ys.map Xpt.sym)).1 = q1 := ⟨_, rfl⟩
  obtain ⟨q2, hq2⟩ : ∃ q2, (uniqueL (ys.map Xpt.sym)).2 = q2 := ⟨_, rfl⟩
  rw [hq1, hq2]
  have HQ1 := Lib.hid hq1
  have HQ2 := Lib.hid hq2
  clear hq1 hq2
  obtain ⟨n, hn⟩ : ∃ n, ys.length = n := ⟨_, rfl⟩
  rw [hn] at HL hyl
  have HN := Lib.hid hn
  have HC0 := Lib.hid c0
  have HC1 := Lib.hid c1
  clear hn hp hm hys
  go_enter Tryz.func295, Tryz.ntmps295
  go_wp2_with fail
  go_region_held3 (fun w' => w'.cell? ⟨R, 0, none⟩ = some (.pointer (some ⟨p, 0, none⟩)) ∧ w'.cell? ⟨R, 1, none⟩ = some (.int .i64 0)) (first | go_keep | assumption) ((go_at_call 288; refine (HL.out _ (Below.refl _ _).drew).mono ?_; rintro e w1 ⟨A, c, rfl, hat, hb1⟩; have HAT := Lib.hid hat; have hb1' := (Below.refl w.heap.size w).drew.trans hb1; have k0 := (hb1'.cell (p := ⟨R, 0, none⟩) hR).trans HC0.out; have k1 := (hb1'.cell (p := ⟨R, 1, none⟩) hR).trans HC1.out; have HB1 := Lib.hid hb1'; clear hat hb1 hb1' c0 c1))
  all_goals
    have hR1 : R < w1.heap.size := Nat.lt_of_lt_of_le hR HB1.out.size
    have hq0 : inD.Own w1 w1.heap.size 3 (OF w1.heap.size (.slice none 0 0) w1) (.slice none 0 0) [] [] := Dat.Own.nil
    have HK0 := Lib.hid k0
    clear k0 k1
    go_wp2_with fail
    go_loopw [8, 25] (fun v i wr => ∃ (j : Nat) (vs : List Value), i = .int .i64 (j : Int) ∧ j ≤ n ∧ inD.Own wr w1.heap.size 3 (OF w1.heap.size v wr) v ((ys.take j).map Xpt.sym) vs ∧ Below w1.heap.size w1 wr) (fun _ i _ => n - (intOf i).toNat)
    case atStart => exact ⟨0, [], rfl, Nat.zero_le _, by simpa using hq0, Below.refl _ _⟩
    case round =>
      clear hq0
      obtain ⟨j, vs, rfl, hj, hown, hb⟩ := hrel
      by_cases hlt : j < n
      · have hjI : (j : Int) < n := by omega
        have hjl : j < ys.length := by rw [HN.out]; exact hlt
        obtain ⟨tb, off, rfl, htb, hxc⟩ := flat_get HAT.out j ys[j] (List.getElem?_eq_getElem hjl)
        have htk : (ys.take (j + 1)).map Xpt.sym = (ys.take j).map Xpt.sym ++ [ys[j].sym] := by
          rw [List.take_succ_eq_append_getElem hjl, List.map_append]; rfl
        have hlen : ((ys.take j).map Xpt.sym).length = j := by rw [List.length_map, List.length_take]; omega
        generalize ys[j] = y at *
        obtain ⟨y0, y1, y2, y3⟩ := y
        simp only at htk
        have hbs := hb.size
        have htl : tb < w1.heap.size := htb.2
        have cc : ∀ i u, ([.int .i64 y0, .string y1, .int .i64 y2, .bool y3] : List Value)[i]? = some u → wr.cell? ⟨tb, off + j * 4 + i, none⟩ = some u := fun i u hu => (hb.cell (p := ⟨tb, _, none⟩) htl).trans (hxc i u hu)
        have d0 := cc 0 _ rfl
        have d1 := cc 1 _ rfl
        have d2 := cc 2 _ rfl
        have d3 := cc 3 _ rfl
        rw [Nat.add_zero] at d0
        have htl2 : tb < wr.heap.size := Nat.lt_of_lt_of_le htl hbs
        have HTK := Lib.hid htk
        have HB := Lib.hid hb
        have hbl : Below wr.heap.size wr (wr.alloc (.cells #[.int .i64 y0, .string y1, .int .i64 y2, .bool y3] 208)) := (Below.refl _ _).alloc (Nat.le_refl _) _
        have hown1 := hown.below hbl
        have ho1 := hown1.1
        rw [hlen] at ho1
        have ho1' : (wr.alloc (.cells #[.int .i64 y0, .string y1, .int .i64 y2, .bool y3] 208)).ownsRow w1.heap.size 3 1 u8 j vs := ho1
        have HO1 := Lib.hid hown1
        have HBL := Lib.hid hbl
        have HLE := Lib.hid hlen
        have hbB : w1.heap.size ≤ (wr.alloc (.cells #[.int .i64 y0, .string y1, .int .i64 y2, .bool y3] 208)).heap.size := by simp; omega
        clear cc hxc htk hown hb hlen hown1 hbl ho1
        go_wp2_with (at_builtin; refine wpList_append_litH rfl (.tmp 29) (.tmp 32) _ rfl w1.heap.size 3 _ 1 8 Tryz.underlying76 info_in rfl (by decide) _ _ _ rfl ho1' 1 1 (wr.heap.size + 1) (by simp) [.int .i64 y2] rfl rfl ?a1 ?a2 ?a3 hbB ?_)
        case a1 => simp [Value.oneCell']
        case a2 => simp only [maxLen]; omega
        case a3 => omega
        intro v2 w2 hown2 hg2 hat2
        have h2 : inD.Own w2 w1.heap.size 3 (OF w1.heap.size v2 w2) v2 ((ys.take (j + 1)).map Xpt.sym) (vs ++ [.int .i64 y2]) := by
          rw [HTK.out]
          exact HO1.out.grow (ys := [y2]) (Dat.Row.single (D := inD) rfl) hg2 (by rw [HLE.out]; exact hown2) (hat2.imp_right fun ⟨g, h1, h2⟩ => ⟨g, h1, by simp; exact h2⟩)
        have hb2 : Below w1.heap.size w1 w2 := (HB.out.trans (HBL.out.mono hbs)).grown hg2 hbB (fun q hq => (HO1.out.1.lt q hq).1)
        have H2 := Lib.hid h2
        have HB2 := Lib.hid hb2
        clear h2 hb2 hown2 hg2 hat2
        go_wp2_with fail
        go_roundw
        case rel => exact ⟨j + 1, _, by go_num, by omega, H2.out, HB2.out⟩
        case measure => simp [intOf]; omega
      · have hjI : ¬ (j : Int) < n := by omega
        have htk : ys.take j = ys := List.take_of_length_le (by rw [HN.out]; omega)
        rw [htk] at hown
        obtain ⟨A3, c3, hv, hAt, _⟩ := hown.at (F' := Lt wr) (fun b hb' => hb'.2.1) (fun b hb' => (hown.1.lt b hb').2)
        subst hv
        have hbs := hb.size
        have HU := Lib.hid (unique_any (ys.map Xpt.sym) A3 c3 wr hAt)
        have hml : (ys.map Xpt.sym).length = n := by rw [List.length_map, HN.out]
        rw [hml] at HU
        have HML := Lib.hid hml
        have k0 := (hb.cell (p := ⟨R, 0, none⟩) hR1).trans HK0.out
        have hRr : R < wr.heap.size := Nat.lt_of_lt_of_le hR1 hbs
        have HB := Lib.hid (HB1.out.trans (hb.mono HB1.out.size))
        have hz : q2 = 11 → n = 0 := fun h => by
          have := uniqueL_nil_of _ (HQ2.out.trans h)
          rw [← hml, this]; rfl
        rw [HQ1.out, HQ2.out] at HU
        have HZ := Lib.hid hz
        have HLW := Lib.hid (HL.out wr HB.out)
        clear hb hAt hown htk hml hz HL
        rw [HML.out]
        by_cases g : q2 = 11
        · have hn0 := HZ.out g
          subst hn0 g
          go_wp2_with fail
          refine HU.out.mono ?_
          rintro e w4 ⟨rfl, rfl⟩
          go_wp2_with fail
          refine HLW.out.mono ?_
          rintro e w5 ⟨A5, c5, rfl, _, hb5⟩
          have HB5 := Lib.hid (HB.out.trans (hb5.mono HB.out.size))
          clear hb5
          go_wp2_with fail
          go_ret2
          exact ⟨rfl, HB5.out⟩
        · have gb : (q2 == 11) = false := by simpa using g
          go_wp2_with fail
          refine HU.out.mono ?_
          rintro e w4 ⟨rfl, rfl⟩
          go_wp2_with fail
          go_ret2
          exact ⟨rfl, HB.out⟩
end Go.Proofs.YtpibenilagloaaaGreatDoor
