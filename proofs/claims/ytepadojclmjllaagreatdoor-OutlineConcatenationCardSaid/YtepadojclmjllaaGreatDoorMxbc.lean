import Derived.Test.YtepadojclmjllaaGreatDoorMxbb
import Derived.Shelf.Spec.SlicesInsert
import Derived.Lib.AppendZerosOnto
import Derived.Laws.NewBlocks
/-
  slices.Insert of one tree ahead of the last: the walk.
-/
namespace Go.Proofs.YtepadojclmjllaaGreatDoor
open Go.RowKit
set_option linter.unusedVariables false

theorem run_copy_row3 (w : World) (ty : TypeId) (g o dLen dCap : Nat) (a : Addr) (sLen sCap : Nat) (cur : Array Value) (t : TypeId) (cs : List Value) (m : Nat)
    (hg : w.heap[g]? = some (.cells cur t (0, 0))) (hm : Nat.min sLen dLen = m) (hn : cs.length = m * 3)
    (hsrc : ∀ j v, cs[j]? = some v → w.cell? (a.add j) = some v) (hfit : o + cs.length ≤ cur.size) (h1 : ∀ v ∈ cs, v.oneCell' = true) :
    (Builtin.copy_ #[51, 51] ty #[.slice (some ⟨g, o, none⟩) dLen dCap, .slice (some a) sLen sCap]).run Tryz.prog w =
      .ok (goInt m) (w.setRow g (cur.toList.take o ++ cs ++ cur.toList.drop (o + cs.length)).toArray) := by
  have hl := run_loadCells_list (P := Tryz.prog) w a cs hsrc
  have hst := run_storeCells_at Tryz.prog g o t cs 0 cur w hg (by simpa using hfit) h1
  obtain ⟨i0, hi0, hz0, hz1, hz2⟩ := info_parts info_tree
  rw [hn] at hl
  simp [Builtin.copy_, run_underlying Tryz.underlying51, Builtin.lenOf, Builtin.firstCells, sizeOf, typeInfo, hi0, hz1, hm, hl, hst]

/-- what an insertion leaves -/
def InsPost (w : World) (b : Nat) (k : Nat) (us : List Value) (z0 z1 z2 v0 v1 v2 : Value) (e : Ending) (w' : World) : Prop :=
  ∃ b' cc', e = .returned (.slice (some ⟨b', 0, none⟩) (k + 2) cc') ∧ w'.ownsRow 0 53 3 (.slice (some ⟨b', 0, none⟩) (k + 2) cc') (k + 2) (us ++ [z0, z1, z2] ++ [v0, v1, v2]) ∧ w.grownBy w' (some b) ∧ (b' = b ∨ w.heap.size ≤ b')
theorem heap_drew (w : World) (b : Nat) : w.drew.heap[b]? = w.heap[b]? := rfl
theorem setRow_other (w : World) (g b : Nat) (cs : Array Value) (h : b ≠ g) : (w.setRow g cs).heap[b]? = w.heap[b]? := by
  unfold World.setRow
  rw [Array.getElem?_modify, if_neg (fun e => h e.symm)]
theorem setRow_size (w : World) (g : Nat) (cs : Array Value) : (w.setRow g cs).heap.size = w.heap.size := by
  unfold World.setRow
  simp
theorem ins_list (cur r1 r2 us : List Value) (z0 z1 z2 v0 v1 v2 : Value) (k : Nat) (hu : us.length = k * 3) (ht : cur.take ((k + 1) * 3) = us ++ [v0, v1, v2])
    (h1 : r1 = cur.take ((k + 1) * 3) ++ [v0, v1, v2] ++ cur.drop ((k + 1) * 3 + 3)) (h2 : r2 = r1.take (k * 3) ++ [z0, z1, z2] ++ r1.drop (k * 3 + 3)) :
    r2.take ((k + 2) * 3) = us ++ [z0, z1, z2] ++ [v0, v1, v2] ∧ ((k + 2) * 3 ≤ cur.length → r2.length = cur.length) := by
  rw [ht] at h1
  generalize hd : cur.drop ((k + 1) * 3 + 3) = d at h1
  have e1 : r1.take (k * 3) = us := by
    rw [h1, ← hu, List.append_assoc, List.append_assoc, List.take_left]
  have e2 : r1.drop (k * 3 + 3) = [v0, v1, v2] ++ d := by
    have : us ++ [v0, v1, v2] ++ [v0, v1, v2] ++ d = (us ++ [v0, v1, v2]) ++ ([v0, v1, v2] ++ d) := by simp
    rw [h1, this, show k * 3 + 3 = (us ++ [v0, v1, v2]).length by simp [hu], List.drop_left]
  rw [e1, e2] at h2
  have e3 : r2 = (us ++ [z0, z1, z2] ++ [v0, v1, v2]) ++ d := by rw [h2]; simp
  refine ⟨?_, fun hc => ?_⟩
  · rw [e3, show (k + 2) * 3 = (us ++ [z0, z1, z2] ++ [v0, v1, v2]).length by simp [hu]; omega, List.take_left]
  · have : d.length = cur.length - ((k + 1) * 3 + 3) := by rw [← hd, List.length_drop]
    rw [e3]
    simp only [List.length_append, List.length_cons, List.length_nil, hu, this]
    omega
set_option maxRecDepth 100000 in
set_option maxHeartbeats 4000000 in
theorem insert_shift (w : World) (b k cc vb : Nat) (us : List Value) (z0 z1 z2 v0 v1 v2 : Value) (hown : w.ownsRow 0 53 3 (.slice (some ⟨b, 0, none⟩) (k + 1) cc) (k + 1) (us ++ [v0, v1, v2])) (hv : w.heap[vb]? = some (.cells #[z0, z1, z2] 53 (0, 0))) (hne : vb ≠ b) (hk : k ≤ 1000000)
    (hz : ∀ v ∈ [z0, z1, z2], v.oneCell' = true) (hvs : ∀ v ∈ [v0, v1, v2], v.oneCell' = true) (hroom : k + 2 ≤ cc) :
    Calls Tryz.prog 140 #[.slice (some ⟨b, 0, none⟩) (k + 1) cc, .int .i64 k, .slice (some ⟨vb, 0, none⟩) 1 1] w (InsPost w b k us z0 z1 z2 v0 v1 v2) := by
  obtain ⟨cur, hb, hcm, hcs, htake, hul⟩ : ∃ cur : Array Value, w.heap[b]? = some (.cells cur 53 (0, 0)) ∧ cc ≤ maxLen ∧ cur.size = cc * 3 ∧ cur.toList.take ((k + 1) * 3) = us ++ [v0, v1, v2] ∧ us.length = k * 3 := by
    have hl := hown.1
    rcases hown.2 with ⟨h', _⟩ | ⟨g', cap', cur, h', _, hg, hnc, hcm, hcs, htake⟩
    · simp at h'
    · simp only [Value.slice.injEq, Option.some.injEq, Addr.mk.injEq, and_true, true_and] at h'
      obtain ⟨rfl, rfl⟩ := h'
      refine ⟨cur, hg, hcm, hcs, htake, ?_⟩
      simp at hl
      omega
  have hcell : ∀ j v, [v0, v1, v2][j]? = some v → w.cell? ⟨b, k * 3 + j, none⟩ = some v := fun j v hj => by
    have hj3 : j < 3 := (List.getElem?_eq_some_iff.1 hj).1
    rw [hown.cellAt _ (by omega), List.getElem?_append_right (by omega), hul, Nat.add_sub_cancel_left]
    exact hj
  have hov : ∀ lb cb, (callFunc 163 #[.slice (some ⟨vb, 0, none⟩) 1 1, .slice (some ⟨b, (k + 1) * 3, none⟩) lb cb]).run Tryz.prog w = .ok (.value (.bool false)) w := fun lb cb => by
    rw [run_callFunc_extern Tryz.func163 (by kernel_rfl) (by kernel_rfl) (by kernel_rfl) (e := Extern.SlicesOverlaps.overlaps #[51, 51] #[4]) (by kernel_rfl),
      Lib.run_overlaps_apart w 51 4 53 Tryz.underlying51 3 Tryz.sizeOf53 ⟨vb, 0, none⟩ ⟨b, (k + 1) * 3, none⟩ 1 1 lb cb hne 53 53 3 (cc * 3) (by simp [World.shape?, hv]) (by simp [World.shape?, hb, hcs]) (by omega) (Lib.frozen_of_heap hv 0) (Lib.frozen_of_heap hv 3)]
    rfl
  have hcp1 : ∀ ty dl sl dc sc, dl = 1 → sl = 2 → (Builtin.copy_ #[51, 51] ty #[.slice (some ⟨b, (k + 1) * 3, none⟩) dl dc, .slice (some ⟨b, k * 3, none⟩) sl sc]).run Tryz.prog w.drew = .ok (goInt 1) (w.drew.setRow b (cur.toList.take ((k + 1) * 3) ++ [v0, v1, v2] ++ cur.toList.drop ((k + 1) * 3 + 3)).toArray) := fun ty dl sl dc sc h1 h2 => by
    subst h1 h2
    exact run_copy_row3 w.drew ty b ((k + 1) * 3) 1 dc ⟨b, k * 3, none⟩ 2 sc cur 53 [v0, v1, v2] 1 hb rfl rfl (fun j v hj => by rw [Go.Addr.add_lit]; exact hcell j v hj) (by simp; omega) hvs
  generalize hR1 : (cur.toList.take ((k + 1) * 3) ++ [v0, v1, v2] ++ cur.toList.drop ((k + 1) * 3 + 3)).toArray = R1 at hcp1
  generalize hR2 : (R1.toList.take (k * 3) ++ [z0, z1, z2] ++ R1.toList.drop (k * 3 + 3)).toArray = R2
  have hcp2 : ∀ ty dl dc, 1 ≤ dl → (Builtin.copy_ #[51, 51] ty #[.slice (some ⟨b, k * 3, none⟩) dl dc, .slice (some ⟨vb, 0, none⟩) 1 1]).run Tryz.prog (w.drew.setRow b R1) = .ok (goInt 1) ((w.drew.setRow b R1).setRow b R2) := fun ty dl dc h1 => by
    rw [← hR2]
    exact run_copy_row3 _ ty b (k * 3) dl dc ⟨vb, 0, none⟩ 1 1 R1 53 [z0, z1, z2] 1 (setRow_heap _ b cur _ 53 _ hb) (by simp only [Nat.min_def]; split <;> omega) rfl (fun j v hj => by
      rw [Go.Addr.add_lit, World.cell?_of_block (w := w) (a := ⟨vb, 0 + j, none⟩) (setRow_other w.drew b vb R1 hne), Lib.cell_of_heap hv]
      simpa using hj) (by rw [← hR1]; simp; omega) hz
  have hR1l : R1.size = cc * 3 := by rw [← hR1]; simp; omega
  have HR1 := Lib.hid hR1
  have HR2 := Lib.hid hR2
  have HT := Lib.hid htake
  have HB := Lib.hid hb
  have HCS := Lib.hid hcs
  have HOWN := Lib.hid hown
  have HUL := Lib.hid hul
  unfold maxLen at hcm
  have hz1 : (k : Int) + 1 + 1 ≤ cc := by omega
  have hkk : (0 : Int) ≤ k := by omega
  have hk9 : (k : Int) ≤ 1000000 := by omega
  have hne1 : ((k : Int) == (k : Int) + 1) = false := beq_eq_false_iff_ne.2 (by omega)
  have hne2 : ((k : Int) == ((k + 1 : Nat) : Int)) = false := beq_eq_false_iff_ne.2 (by omega)
  have hck : ¬ (cc = k) := by omega
  have hck1 : ¬ (cc = k + 1) := by omega
  have hin1 : k ≤ k + 1 := by omega
  have hin2 : k ≤ k + 2 := by omega
  have hin3 : k + 1 ≤ k + 2 := by omega
  have hsl : k + 1 + 1 - k = 2 := by omega
  have hw1 : IntKind.i64.wrap ((k : Int) + 1) = (k : Int) + 1 := by rw [IntKind.wrap_i64]; omega
  have hb1 : (0 : Int) ≤ (k : Int) + 1 := by omega
  have htn : ((k : Int) + 1).toNat = k + 1 := by omega
  have hb2 : (k : Int) + 1 ≤ (k : Int) + 1 + 1 := by omega
  have hb3 : (k : Int) ≤ (k : Int) + 1 + 1 := by omega
  clear hR1 hR2 htake hb hcs hown hul hcell
  go_enter Tryz.func140, Tryz.ntmps140
  go_wp2_with (simp only [hov])
  go_region_law (refine step_copy_runI rfl _ _ 51 51 rfl (.slice (some ⟨b, (k + 1) * 3, none⟩) 1 (cc - (k + 1))) (.slice (some ⟨b, k * 3, none⟩) 2 (cc - k)) (by simp [Act.eval, Act.put]) (by simp [Act.eval, Act.put]) (hcp1 _ 1 2 _ _ rfl rfl) ?_)
  go_wp2_with (at_builtin; refine wpList_copy_runI _ rfl _ _ 51 51 rfl _ _ rfl rfl (hcp2 _ _ _ (by clear hw1; omega)) ?_)
  go_ret
  have h1 := setRow_heap w.drew b cur R1 53 (0, 0) HB.out
  have h2 := setRow_heap (w.drew.setRow b R1) b R1 R2 53 (0, 0) h1
  obtain ⟨l1, l2⟩ := ins_list cur.toList R1.toList R2.toList us z0 z1 z2 v0 v1 v2 k HUL.out HT.out (by rw [← HR1.out]) (by rw [← HR2.out])
  refine ⟨b, cc, rfl, ⟨?_, .inr ⟨b, cc, R2, rfl, Nat.zero_le _, h2, hroom, by unfold maxLen; exact hcm, ?_, l1⟩⟩, ⟨rfl, rfl, rfl, ?_, fun g hg hgb => ?_⟩, .inl rfl⟩
  · have := HUL.out
    simp
    omega
  · rw [← HCS.out]
    have : R2.toList.length = cur.toList.length := l2 (by have := HCS.out; simp; omega)
    simpa using this
  · rw [setRow_size, setRow_size]; exact Nat.le_refl _
  · have hne : g ≠ b := fun e => hgb (by rw [e])
    rw [setRow_other _ _ _ _ hne, setRow_other _ _ _ _ hne]
    rfl

theorem ins_list2 (row r1 r2 us : List Value) (z0 z1 z2 v0 v1 v2 : Value) (k : Nat) (hu : us.length = k * 3) (ht : row.take (k * 3) = us) (hl : (k + 2) * 3 ≤ row.length)
    (h1 : r1 = row.take (k * 3) ++ [z0, z1, z2] ++ row.drop (k * 3 + 3)) (h2 : r2 = r1.take ((k + 1) * 3) ++ [v0, v1, v2] ++ r1.drop ((k + 1) * 3 + 3)) :
    r2.take ((k + 2) * 3) = us ++ [z0, z1, z2] ++ [v0, v1, v2] ∧ r2.length = row.length := by
  rw [ht] at h1
  have l1 : r1.length = row.length := by
    rw [h1]
    simp only [List.length_append, List.length_cons, List.length_nil, List.length_drop, hu]
    omega
  have e1 : r1.take ((k + 1) * 3) = us ++ [z0, z1, z2] := by
    rw [h1, show (k + 1) * 3 = (us ++ [z0, z1, z2]).length by simp [hu]; omega, List.take_left]
  rw [e1] at h2
  have l2 : r2.length = row.length := by
    rw [h2]
    simp only [List.length_append, List.length_cons, List.length_nil, List.length_drop, hu, l1]
    omega
  refine ⟨?_, l2⟩
  rw [h2, show (k + 2) * 3 = (us ++ [z0, z1, z2] ++ [v0, v1, v2]).length by simp [hu]; omega, List.take_left]
theorem zero_cells (n : Nat) : (Builtin.zeroCells (Value.agg #[.int .i64 0, .string ⟨#[]⟩, .slice none 0 0]).cells n).size = n * 3 := by
  simp [Builtin.zeroCells, Value.cells]
set_option maxRecDepth 100000 in
set_option maxHeartbeats 4000000 in
theorem insert_grow (w : World) (b k cc vb : Nat) (us : List Value) (z0 z1 z2 v0 v1 v2 : Value) (hown : w.ownsRow 0 53 3 (.slice (some ⟨b, 0, none⟩) (k + 1) cc) (k + 1) (us ++ [v0, v1, v2])) (hv : w.heap[vb]? = some (.cells #[z0, z1, z2] 53 (0, 0))) (hne : vb ≠ b) (hk : k ≤ 1000000)
    (hz : ∀ v ∈ [z0, z1, z2], v.oneCell' = true) (hvs : ∀ v ∈ [v0, v1, v2], v.oneCell' = true) (hus : us.length = k * 3) (hkc : k + 1 ≤ cc) (hroom : cc < k + 2) :
    Calls Tryz.prog 140 #[.slice (some ⟨b, 0, none⟩) (k + 1) cc, .int .i64 k, .slice (some ⟨vb, 0, none⟩) 1 1] w (InsPost w b k us z0 z1 z2 v0 v1 v2) := by
  have hbw := (hown.lt b rfl).2
  have hvw := lt_of_heap hv
  obtain ⟨i0, hi0, hz0, hz1, hz2⟩ := info_parts info_tree
  have hcell : ∀ j v, (us ++ [v0, v1, v2])[j]? = some v → w.cell? ⟨b, j, none⟩ = some v := fun j v hj => by
    have := (List.getElem?_eq_some_iff.1 hj).1
    rw [hown.cellAt _ (by simp at this; omega)]
    exact hj
  have hold : (Builtin.firstCells i0.size k (.slice (some ⟨b, 0, none⟩) k cc)).run Tryz.prog w.drew = .ok us.toArray w.drew := by
    rw [hz1]
    exact run_firstCells_some w.drew 3 k ⟨b, 0, none⟩ k cc us hus (fun j v hj => by
      rw [Go.Addr.add_lit, Nat.zero_add]
      exact hcell j v (by rw [List.getElem?_append_left (List.getElem?_eq_some_iff.1 hj).1]; exact hj))
  have hrz : ∀ ty, (Builtin.append_ #[51, 3] ty #[.slice (some ⟨b, 0, none⟩) k cc, .int .i64 2]).run Tryz.prog w =
      .ok (.slice (some ⟨w.heap.size, 0, none⟩) (k + 2) (grownCap w (k + 2) cc 53)) (w.drew.alloc (.cells (us.toArray ++ Builtin.zeroCells (Value.agg #[.int .i64 0, .string ⟨#[]⟩, .slice none 0 0]).cells 2 ++ Builtin.zeroCells (Value.agg #[.int .i64 0, .string ⟨#[]⟩, .slice none 0 0]).cells (grownCap w (k + 2) cc 53 - (k + 2))) 53)) := fun ty => by
    have h := Lib.run_append_grow_zeros w 51 3 ty 53 i0 _ .i64 .i64 Tryz.underlying51 Tryz.underlying3 hi0 hz0 (some ⟨b, 0, none⟩) k cc us hold 2 (by omega) (by omega) (by omega) (by omega) (by rw [hz2]; omega) (by rw [hz2]; exact growslice_fits hroom (by omega))
    exact h
  have hGn : k + 2 ≤ grownCap w (k + 2) cc 53 := grownCap_ge w _ _ _
  have hG63 := grownCap_le_maxLen w (k + 2) cc 53 (by unfold maxLen; omega)
  generalize grownCap w (k + 2) cc 53 = G at *
  generalize hROW : us.toArray ++ Builtin.zeroCells (Value.agg #[.int .i64 0, .string ⟨#[]⟩, .slice none 0 0]).cells 2 ++ Builtin.zeroCells (Value.agg #[.int .i64 0, .string ⟨#[]⟩, .slice none 0 0]).cells (G - (k + 2)) = ROW at *
  have hRl : ROW.size = G * 3 := by
    rw [← hROW]
    simp only [Array.size_append, zero_cells, List.size_toArray, hus]
    omega
  have hRt : ROW.toList.take (k * 3) = us := by
    rw [← hROW]
    simp only [Array.toList_append, List.append_assoc]
    rw [← hus, List.take_left]
  obtain ⟨W1, hW1⟩ : ∃ W1, W1 = w.drew.alloc (.cells ROW 53) := ⟨_, rfl⟩
  have hN : W1.heap[w.heap.size]? = some (.cells ROW 53 (0, 0)) := by rw [hW1]; exact heap_alloc_new w.drew _
  have hO : ∀ g, g < w.heap.size → W1.heap[g]? = w.heap[g]? := fun g hg => by rw [hW1]; exact heap_alloc_lt w.drew _ hg
  have hS : W1.heap.size = w.heap.size + 1 := by rw [hW1]; simp
  rw [← hW1] at hrz
  generalize hR1 : (ROW.toList.take (k * 3) ++ [z0, z1, z2] ++ ROW.toList.drop (k * 3 + 3)).toArray = R1
  have hcpA : ∀ (W : World), W.heap = W1.heap → ∀ ty dl dc, 1 ≤ dl → (Builtin.copy_ #[51, 51] ty #[.slice (some ⟨w.heap.size, k * 3, none⟩) dl dc, .slice (some ⟨vb, 0, none⟩) 1 1]).run Tryz.prog W = .ok (goInt 1) (W.setRow w.heap.size R1) := fun W hW ty dl dc h1 => by
    rw [← hR1]
    exact run_copy_row3 W ty w.heap.size (k * 3) dl dc ⟨vb, 0, none⟩ 1 1 ROW 53 [z0, z1, z2] 1 (by rw [hW]; exact hN) (by simp only [Nat.min_def]; split <;> omega) rfl (fun j v hj => by
      rw [Go.Addr.add_lit, World.cell?_of_block (w := w) (a := ⟨vb, 0 + j, none⟩) (by rw [hW]; exact hO vb hvw), Lib.cell_of_heap hv]
      simpa using hj) (by simp; omega) hz
  generalize hR2 : (R1.toList.take ((k + 1) * 3) ++ [v0, v1, v2] ++ R1.toList.drop ((k + 1) * 3 + 3)).toArray = R2
  have hcpB : ∀ (W : World), W.heap = (W1.setRow w.heap.size R1).heap → ∀ ty dc sc, (Builtin.copy_ #[51, 51] ty #[.slice (some ⟨w.heap.size, (k + 1) * 3, none⟩) 1 dc, .slice (some ⟨b, k * 3, none⟩) 1 sc]).run Tryz.prog W = .ok (goInt 1) (W.setRow w.heap.size R2) := fun W hW ty dc sc => by
    rw [← hR2]
    exact run_copy_row3 W ty w.heap.size ((k + 1) * 3) 1 dc ⟨b, k * 3, none⟩ 1 sc R1 53 [v0, v1, v2] 1 (by rw [hW]; exact setRow_heap W1 _ ROW R1 53 (0, 0) hN) rfl rfl (fun j v hj => by
      rw [Go.Addr.add_lit, World.cell?_of_block (w := w) (a := ⟨b, k * 3 + j, none⟩) (by rw [hW, setRow_other _ _ _ _ (by show b ≠ w.heap.size; omega)]; exact hO b hbw)]
      exact hcell _ v (by rw [List.getElem?_append_right (by omega), hus, Nat.add_sub_cancel_left]; exact hj)) (by rw [← hR1]; simp; omega) hvs
  have HR1 := Lib.hid hR1
  have HR2 := Lib.hid hR2
  have HRT := Lib.hid hRt
  have HRL := Lib.hid hRl
  have HN := Lib.hid hN
  have HO := Lib.hid hO
  have HS := Lib.hid hS
  have HUS := Lib.hid hus
  unfold maxLen at hG63
  have hsl : (k : Int) + 1 + 1 - (k : Int) = 2 := by omega
  have hkk : (0 : Int) ≤ k := by omega
  have hk9 : (k : Int) ≤ 1000000 := by omega
  have hz9 : (cc : Int) < (k : Int) + 1 + 1 := by omega
  have hne1 : ((k : Int) == (k : Int) + 1) = false := beq_eq_false_iff_ne.2 (by omega)
  have hck : ¬ (cc = k) := by omega
  have hGk : ¬ (G = k) := by omega
  have hGk1 : ¬ (G = k + 1) := by omega
  have hin1 : k ≤ k + 1 := by omega
  have hin2 : k ≤ k + 2 := by omega
  have hin3 : k + 1 ≤ k + 2 := by omega
  have hw1 : IntKind.i64.wrap ((k : Int) + 1) = (k : Int) + 1 := by rw [IntKind.wrap_i64]; omega
  have hb1 : (0 : Int) ≤ (k : Int) + 1 := by omega
  have htn : ((k : Int) + 1).toNat = k + 1 := by omega
  have hb2 : (k : Int) + 1 ≤ (k : Int) + 1 + 1 := by omega
  have hb3 : (k : Int) ≤ (k : Int) + 1 + 1 := by omega
  have hb4 : (k : Int) ≤ (cc : Int) := by omega
  have hb5 : (k : Int) ≤ (k : Int) + 2 := by omega
  have hb6 : (k : Int) + 1 ≤ (k : Int) + 2 := by omega
  have hb7 : (k : Int) ≤ (k : Int) + 1 := by omega
  have HOWN := Lib.hid hown
  clear hR1 hR2 hRt hRl hN hO hS hus hold hcell hROW hown
  subst hW1
  have hE1 : ((w.alloc (.cells ROW 53)).drew).heap = (w.drew.alloc (.cells ROW 53)).heap := rfl
  go_enter Tryz.func140, Tryz.ntmps140
  go_wp2_with (first
    | (at_builtin; refine Lib.wpList_append_run _ rfl _ _ _ _ rfl _ _ rfl rfl _ _ (hrz _) ?_)
    | (at_builtin; refine wpList_copy_runI _ rfl _ _ 51 51 rfl _ _ rfl rfl (hcpA _ hE1 _ _ _ (by clear hw1; omega)) ?_))
  go_region_law (refine step_copy_runI rfl _ _ 51 51 rfl (.slice (some ⟨w.heap.size, (k + 1) * 3, none⟩) 1 (G - (k + 1))) (.slice (some ⟨b, k * 3, none⟩) 1 (cc - k)) (by simp [Act.eval, Act.put]) (by simp [Act.eval, Act.put]) (hcpB (((w.alloc (.cells ROW 53)).drew.setRow w.heap.size R1).drew) rfl _ _ _) ?_)
  go_wp2_with fail
  go_ret
  have h1 := setRow_heap _ w.heap.size ROW R1 53 (0, 0) HN.out
  have h2 : ((((w.alloc (.cells ROW 53)).drew.setRow w.heap.size R1).drew).setRow w.heap.size R2).heap[w.heap.size]? = some (.cells R2 53 (0, 0)) := setRow_heap _ w.heap.size R1 R2 53 (0, 0) h1
  obtain ⟨l1, l2⟩ := ins_list2 ROW.toList R1.toList R2.toList us z0 z1 z2 v0 v1 v2 k HUS.out HRT.out (by have := HRL.out; simp; omega) (by rw [← HR1.out]) (by rw [← HR2.out])
  refine ⟨w.heap.size, G, rfl, ⟨?_, .inr ⟨w.heap.size, G, R2, rfl, Nat.zero_le _, h2, hGn, by unfold maxLen; exact hG63, ?_, l1⟩⟩, ⟨rfl, rfl, rfl, ?_, fun g hg hgb => ?_⟩, .inr (Nat.le_refl _)⟩
  · have := HUS.out
    simp
    omega
  · rw [← HRL.out]
    simpa using l2
  · rw [setRow_size]
    show _ ≤ ((w.alloc (.cells ROW 53)).drew.setRow w.heap.size R1).heap.size
    rw [setRow_size]
    show _ ≤ (w.alloc (.cells ROW 53)).heap.size
    simp
  · have hne : g ≠ w.heap.size := by omega
    rw [setRow_other _ _ _ _ hne]
    show ((w.alloc (.cells ROW 53)).drew.setRow w.heap.size R1).heap[g]? = _
    rw [setRow_other _ _ _ _ hne]
    exact heap_alloc_lt w _ hg
theorem insert_any (w : World) (b k cc vb : Nat) (us : List Value) (z0 z1 z2 v0 v1 v2 : Value) (hown : w.ownsRow 0 53 3 (.slice (some ⟨b, 0, none⟩) (k + 1) cc) (k + 1) (us ++ [v0, v1, v2])) (hv : w.heap[vb]? = some (.cells #[z0, z1, z2] 53 (0, 0))) (hne : vb ≠ b) (hk : k ≤ 1000000)
    (hz : ∀ v ∈ [z0, z1, z2], v.oneCell' = true) (hvs : ∀ v ∈ [v0, v1, v2], v.oneCell' = true) (hus : us.length = k * 3) (hkc : k + 1 ≤ cc) :
    Calls Tryz.prog 140 #[.slice (some ⟨b, 0, none⟩) (k + 1) cc, .int .i64 k, .slice (some ⟨vb, 0, none⟩) 1 1] w (InsPost w b k us z0 z1 z2 v0 v1 v2) := by
  by_cases h : k + 2 ≤ cc
  · exact insert_shift w b k cc vb us z0 z1 z2 v0 v1 v2 hown hv hne hk hz hvs h
  · exact insert_grow w b k cc vb us z0 z1 z2 v0 v1 v2 hown hv hne hk hz hvs hus hkc (by omega)
end Go.Proofs.YtepadojclmjllaaGreatDoor
