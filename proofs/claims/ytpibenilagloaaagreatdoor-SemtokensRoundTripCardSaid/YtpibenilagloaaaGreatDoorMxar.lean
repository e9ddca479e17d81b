import Derived.Test.YtpibenilagloaaaGreatDoorMxaq
import Derived.Shelf.Spec.SlicesInsert
import Derived.Lib.AppendZerosOnto
import Derived.Laws.NewBlocks
import Derived.Test.YtpibenilagloaaaGreatDoorMxao
/-
  slices.Insert of one tree ahead of the last: the walk.
-/
namespace Go.Proofs.YtpibenilagloaaaGreatDoor
open Go.RowKit
set_option linter.unusedVariables false

theorem run_copy_row3 (w : World) (ty : TypeId) (g o dLen dCap : Nat) (a : Addr) (sLen sCap : Nat) (cur : Array Value) (t : TypeId) (cs : List Value) (m : Nat)
    (hg : w.heap[g]? = some (.cells cur t (0, 0))) (hm : Nat.min sLen dLen = m) (hn : cs.length = m * 3)
    (hsrc : ∀ j v, cs[j]? = some v → w.cell? (a.add j) = some v) (hfit : o + cs.length ≤ cur.size) (h1 : ∀ v ∈ cs, v.oneCell' = true) :
    (Builtin.copy_ #[119, 119] ty #[.slice (some ⟨g, o, none⟩) dLen dCap, .slice (some a) sLen sCap]).run Tryz.prog w =
      .ok (goInt m) (w.setRow g (cur.toList.take o ++ cs ++ cur.toList.drop (o + cs.length)).toArray) := by
  have hl := run_loadCells_list (P := Tryz.prog) w a cs hsrc
  have hst := run_storeCells_at Tryz.prog g o t cs 0 cur w hg (by simpa using hfit) h1
  obtain ⟨i0, hi0, hz0, hz1, hz2⟩ := info_parts info_tree
  rw [hn] at hl
  simp [Builtin.copy_, run_underlying Tryz.underlying119, Builtin.lenOf, Builtin.firstCells, sizeOf, typeInfo, hi0, hz1, hm, hl, hst]

/-- what an insertion leaves -/
def InsPost (w : World) (b : Nat) (k : Nat) (us : List Value) (z0 z1 z2 v0 v1 v2 : Value) (e : Ending) (w' : World) : Prop :=
  ∃ b' cc', e = .returned (.slice (some ⟨b', 0, none⟩) (k + 2) cc') ∧ w'.ownsRow 0 121 3 (.slice (some ⟨b', 0, none⟩) (k + 2) cc') (k + 2) (us ++ [z0, z1, z2] ++ [v0, v1, v2]) ∧ w.grownBy w' (some b) ∧ (b' = b ∨ w.heap.size ≤ b')
theorem heap_drew (w : World) (b : Nat) : w.drew.heap[b]? = w.heap[b]? := rfl
theorem setRow_other (w : World) (g b : Nat) (cs : Array Value) (h : b ≠ g) : (w.setRow g cs).heap[b]? = w.heap[b]? := by
  unfold World.setRow
  rw [Array.getElem?_modify, if_neg (fun e => h e.symm)]
theorem setRow_size (w : World) (g : Nat) (cs : Array Value) : (w.setRow g cs).heap.size = w.heap.size := by
  unfold World.setRow
  simp
theorem ins_list (cur r1 r2 us : List Value) (z0 z1 z2 v0 v1 v2 : Value) (k : Nat) (hu : us.length = k * 3) (ht : cur.take ((k + 1) * 3) = us ++ [v0, v1, v2])
    (h1 : r1 = cur.take ((k + 1) * 3) ++ [v0, v1, v2] ++ cur.drop ((k + 1) * 3 + 3)) (h2 : r2 = r1.take (k * 3) ++ [z0, z1, z2] ++ r1.drop (k * 3 + 3)) :
    r2.take ((k + 2) * 3) = us ++ [z0, z1, z2] ++ [v0, v1, v2] ∧ ((k + 2) * 3 ≤ cur.length → r2.length = cur.length) := by
  rw [ht] at h1
  generalize hd : cur.drop ((k + 1) * 3 + 3) = d at h1
  have e1 : r1.take (k * 3) = us := by
    rw [h1, ← hu, List.append_assoc, List.append_assoc, List.take_left]
  have e2 : r1.drop (k * 3 + 3) = [v0, v1, v2] ++ d := by
    have : us ++ [v0, v1, v2] ++ [v0, v1, v2] ++ d = (us ++ [v0, v1, v2]) ++ ([v0, v1, v2] ++ d) := by simp
    rw [h1, this, show k * 3 + 3 = (us ++ [v0, v1, v2]).length by simp [hu], List.drop_left]
  rw [e1, e2] at h2
  have e3 : r2 = (us ++ [z0, z1, z2] ++ [v0, v1, v2]) ++ d := by rw [h2]; simp
  refine ⟨?_, fun hc => ?_⟩
  · rw [e3, show (k + 2) * 3 = (us ++ [z0, z1, z2] ++ [v0, v1, v2]).length by simp [hu]; omega, List.take_left]
  · have : d.length = cur.length - ((k + 1) * 3 + 3) := by rw [← hd, List.length_drop]
    rw [e3]
    simp only [List.length_append, List.length_cons, List.length_nil, hu, this]
    omega
set_option maxRecDepth 100000 in
set_option maxHeartbeats 4000000 in
theorem insert_shift (w : World) (b k cc vb : Nat) (us : List Value) (z0 z1 z2 v0 v1 v2 : Value) (hown : w.ownsRow 0 121 3 (.slice (some ⟨b, 0, none⟩) (k + 1) cc) (k + 1) (us ++ [v0, v1, v2])) (hv : w.heap[vb]? = some (.cells #[z0, z1, z2] 121 (0, 0))) (hne : vb ≠ b) (hk : k ≤ 1000000)
    (hz : ∀ v ∈ [z0, z1, z2], v.oneCell' = true) (hvs : ∀ v ∈ [v0, v1, v2], v.oneCell' = true) (hroom : k + 2 ≤ cc) :
    Calls Tryz.prog 272 #[.slice (some ⟨b, 0, none⟩) (k + 1) cc, .int .i64 k, .slice (some ⟨vb, 0, none⟩) 1 1] w (InsPost w b k us z0 z1 z2 v0 v1 v2) := by
  obtain ⟨cur, hb, hcm, hcs, htake, hul⟩ : ∃ cur : Array Value, w.heap[b]? = some (.cells cur 121 (0, 0)) ∧ cc ≤ maxLen ∧ cur.size = cc * 3 ∧ cur.toList.take ((k + 1) * 3) = us ++ [v0, v1, v2] ∧ us.length = k * 3 := by
    have hl := hown.1
    rcases hown.2 with ⟨h', _⟩ | ⟨g', cap', cur, h', _, hg, hnc, hcm, hcs, htake⟩
    · simp at h'
    · simp only [Value.slice.injEq, Option.some.injEq, Addr.mk.injEq, and_true, true_and] at h'
      obtain ⟨rfl, rfl⟩ := h'
      refine ⟨cur, hg, hcm, hcs, htake, ?_⟩
      simp at hl
      omega
  have hcell : ∀ j v, [v0, v1, v2][j]? = some v → w.cell? ⟨b, k * 3 + j, none⟩ = some v := fun j v hj => by
    have hj3 : j < 3 := (List.getElem?_eq_some_iff.1 hj).1
    rw [hown.cellAt _ (by omega), List.getElem?_append_right (by omega), hul, Nat.add_sub_cancel_left]
    exact hj
  have hov : ∀ lb cb, (callFunc 308 #[.slice (some ⟨vb, 0, none⟩) 1 1, .slice (some ⟨b, (k + 1) * 3, none⟩) lb cb]).run Tryz.prog w = .ok (.value (.bool false)) w := fun lb cb => by
    rw [run_callFunc_extern Tryz.func308 (by kernel_rfl) (by kernel_rfl) (by kernel_rfl) (e := Extern.SlicesOverlaps.overlaps #[119, 119] #[4]) (by kernel_rfl),
      Lib.run_overlaps_apart w 119 4 121 Tryz.underlying119 3 Tryz.sizeOf121 ⟨vb, 0, none⟩ ⟨b, (k + 1) * 3, none⟩ 1 1 lb cb hne 121 121 3 (cc * 3) (by simp [World.shape?, hv]) (by simp [World.shape?, hb, hcs]) (by omega) (Lib.frozen_of_heap hv 0) (Lib.frozen_of_heap hv 3)]
    rfl
  have hcp1 : ∀ ty dl sl dc sc, dl = 1 → sl = 2 → (Builtin.copy_ #[119, 119] ty #[.slice (some ⟨b, (k + 1) * 3, none⟩) dl dc, .slice (some ⟨b, k * 3, none⟩) sl sc]).run Tryz.prog w.drew = .ok (goInt 1) (w.drew.setRow b (cur.toList.take ((k + 1) * 3) ++ [v0, v1, v2] ++ cur.toList.drop ((k + 1) * 3 + 3)).toArray) := fun ty dl sl dc sc h1 h2 => by
    subst h1 h2
    exact run_copy_row3 w.drew ty b ((k + 1) * 3) 1 dc ⟨b, k * 3, none⟩ 2 sc cur 121 [v0, v1, v2] 1 hb rfl rfl (fun j v hj => by rw [Go.Addr.add_lit]; exact hcell j v hj) (by simp; omega) hvs
  generalize hR1 : (cur.toList.take ((k + 1) * 3) ++ [v0, v1, v2] ++ cur.toList.drop ((k + 1) * 3 + 3)).toArray = R1 at hcp1
  generalize hR2 : (R1.toList.take (k * 3) ++ [z0, z1, z2] ++ R1.toList.drop (k * 3 + 3)).toArray = R2
  have hcp2 : ∀ ty dl dc, 1 ≤ dl → (Builtin.copy_ #[119, 119] ty #[.slice (some ⟨b, k * 3, none⟩) dl dc, .slice (some ⟨vb, 0, none⟩) 1 1]).run Tryz.prog (w.drew.setRow b R1) = .ok (goInt 1) ((w.drew.setRow b R1).setRow b R2) := fun ty dl dc h1 => by
    rw [← hR2]
    exact run_copy_row3 _ ty b (k * 3) dl dc ⟨vb, 0, none⟩ 1 1 R1 121 [z0, z1, z2] 1 (setRow_heap _ b cur _ 121 _ hb) (by simp only [Nat.min_def]; split <;> omega) rfl (fun j v hj => by
      rw [Go.Addr.add_lit, World.cell?_of_block (w := w) (a := ⟨vb, 0 + j, none⟩) (setRow_other w.drew b vb R1 hne), Lib.cell_of_heap hv]
      simpa using hj) (by rw [← hR1]; simp; omega) hz
  have hR1l : R1.size = cc * 3 := by rw [← hR1]; simp; omega
  have HR1 := Lib.hid hR1
  have HR2 := Lib.hid hR2
  have HT := Lib.hid htake
  have HB := Lib.hid hb
  have HCS := Lib.hid hcs
  have HOWN := Lib.hid hown
  have HUL := Lib.hid hul
  unfold maxLen at hcm
  have hz1 : (k : Int) + 1 + 1 ≤ cc := by omega
  have hkk : (0 : Int) ≤ k := by omega
  have hk9 : (k : Int) ≤ 1000000 := by omega
  have hne1 : ((k : Int) == (k : Int) + 1) = false := beq_eq_false_iff_ne.2 (by omega)
  have hne2 : ((k : Int) == ((k + 1 : Nat) : Int)) = false := beq_eq_false_iff_ne.2 (by omega)
  have hck : ¬ (cc = k) := by omega
  have hck1 : ¬ (cc = k + 1) := by omega
  have hin1 : k ≤ k + 1 := by omega
  have hin2 : k ≤ k + 2 := by omega
  have hin3 : k + 1 ≤ k + 2 := by omega
  have hsl : k + 1 + 1 - k = 2 := by omega
  have hw1 : IntKind.i64.wrap ((k : Int) + 1) = (k : Int) + 1 := by rw [IntKind.wrap_i64]; omega
  have hb1 : (0 : Int) ≤ (k : Int) + 1 := by omega
  have htn : ((k : Int) + 1).toNat = k + 1 := by omega
  have hb2 : (k : Int) + 1 ≤ (k : Int) + 1 + 1 := by omega
  have hb3 : (k : Int) ≤ (k : Int) + 1 + 1 := by omega
  clear hR1 hR2 htake hb hcs hown hul hcell
  go_enter Tryz.func272, Tryz.ntmps272
  go_wp2_with (simp only [hov])
  go_region_law (refine step_copy_runI rfl _ _ 119 119 rfl (.slice (some ⟨b, (k + 1) * 3, none⟩) 1 (cc - (k + 1))) (.slice (some ⟨b, k * 3, none⟩) 2 (cc - k)) (by simp [Act.eval, Act.put]) (by simp [Act.eval, Act.put]) (hcp1 _ 1 2 _ _ rfl rfl) ?_)
  go_wp2_with (at_builtin; refine wpList_copy_runI _ rfl _ _ 119 119 rfl _ _ rfl rfl (hcp2 _ _ _ (by clear hw1; omega)) ?_)
  go_ret
  have h1 := setRow_heap w.drew b cur R1 121 (0, 0) HB.out
  have h2 := setRow_heap (w.drew.setRow b R1) b R1 R2 121 (0, 0) h1
  obtain ⟨l1, l2⟩ := ins_list cur.toList R1.toList R2.toList us z0 z1 z2 v0 v1 v2 k HUL.out HT.out (by rw [← HR1.out]) (by rw [← HR2.out])
  refine ⟨b, cc, rfl, ⟨?_, .inr ⟨b, cc, R2, rfl, Nat.zero_le _, h2, hroom, by unfold maxLen; exact hcm, ?_, l1⟩⟩, ⟨rfl, rfl, rfl, ?_, fun g hg hgb => ?_⟩, .inl rfl⟩
  · have := HUL.out
    simp
    omega
  · rw [← HCS.out]
    have : R2.toList.length = cur.toList.length := l2 (by have := HCS.out; simp; omega)
    simpa using this
  · rw [setRow_size, setRow_size]; exact Nat.le_refl _
  · have hne : g ≠ b := fun e => hgb (by rw [e])
    rw [setRow_other _ _ _ _ hne, setRow_other _ _ _ _ hne]
    rfl

theorem ins_list2 (row r1 r2 us : List Value) (z0 z1 z2 v0 v1 v2 : Value) (k : Nat) (hu : us.length = k * 3) (ht : row.take (k * 3) = us) (hl : (k + 2) * 3 ≤ row.length)
    (h1 : r1 = row.take (k * 3) ++ [z0, z1, z2] ++ row.drop (k * 3 + 3)) (h2 : r2 = r1.take ((k + 1) * 3) ++ [v0, v1, v2] ++ r1.drop ((k + 1) * 3 + 3)) :
    r2.take ((k + 2) * 3) = us ++ [z0, z1, z2] ++ [v0, v1, v2] ∧ r2.length = row.length := by
  rw [ht] at h1
  have l1 : r1.length = row.length := by
    rw [h1]
    simp only [List.length_append, List.length_cons, List.length_nil, List.length_drop, hu]
    omega
  have e1 : r1.take ((k + 1) * 3) = us ++ [z0, z1, z2] := by
    rw [h1, show (k + 1) * 3 = (us ++ [z0, z1, z2]).length by simp [hu]; omega, List.take_left]
  rw [e1] at h2
  have l2 : r2.length = row.length := by
    rw [h2]
    simp only [List.length_append, List.length_cons, List.length_nil, List.length_drop, hu, l1]
    omega
  refine ⟨?_, l2⟩
  rw [h2, show (k + 2) * 3 = (us ++ [z0, z1, z2] ++ [v0, v1, v2]).length by simp [hu]; omega, List.take_left]
theorem zero_cells (n : Nat) : (Builtin.zeroCells (Value.agg #[.int .i64 0, .string ⟨#[]⟩, .slice none 0 0]).cells n).size = n * 3 := by
  simp [Builtin.zeroCells, Value.cells]
set_option maxRecDepth 100000 in
set_option maxHeartbeats 4000000 in
theorem insert_grow (w : World) (b k cc vb : Nat) (us : List Value) (z0 z1 z2 v0 v1 v2 : Value) (hown : w.ownsRow 0 121 3 (.slice (some ⟨b, 0, none⟩) (k + 1) cc) (k + 1) (us ++ [v0, v1, v2])) (hv : w.heap[vb]? = some (.cells #[z0, z1, z2] 121 (0, 0))) (hne : vb ≠ b) (hk : k ≤ 1000000)
    (hz : ∀ v ∈ [z0, z1, z2], v.oneCell' = true) (hvs : ∀ v ∈ [v0, v1, v2], v.oneCell' = true) (hus : us.length = k * 3) (hkc : k + 1 ≤ cc) (hroom : cc < k + 2) :
    Calls Tryz.prog 272 #[.slice (some ⟨b, 0, none⟩) (k + 1) cc, .int .i64 k, .slice (some ⟨vb, 0, none⟩) 1 1] w (InsPost w b k us z0 z1 z2 v0 v1 v2) := by
  have hbw := (hown.lt b rfl).2
  have hvw := lt_of_heap hv
  obtain ⟨i0, hi0, hz0, hz1, hz2⟩ := info_parts info_tree
  have hcell : ∀ j v, (us ++ [v0, v1, v2])[j]? = some v → w.cell? ⟨b, j, none⟩ = some v := fun j v hj => by
    have := (List.getElem?_eq_some_iff.1 hj).1
    rw [hown.cellAt _ (by simp at this; omega)]
    exact hj
  have hold : (Builtin.firstCells i0.size k (.slice (some ⟨b, 0, none⟩) k cc)).run Tryz.prog w.drew = .ok us.toArray w.drew := by
    rw [hz1]
    exact run_firstCells_some w.drew 3 k ⟨b, 0, none⟩ k cc us hus (fun j v hj => by
      rw [Go.Addr.add_lit, Nat.zero_add]
      exact hcell j v (by rw [List.getElem?_append_left (List.getElem?_eq_some_iff.1 hj).1]; exact hj))
  have hrz : ∀ ty, (Builtin.append_ #[119, 3] ty #[.slice (some ⟨b, 0, none⟩) k cc, .int .i64 2]).run Tryz.prog w =
      .ok (.slice (some ⟨w.heap.size, 0, none⟩) (k + 2) (grownCap w (k + 2) cc 121)) (w.drew.alloc (.cells (us.toArray ++ Builtin.zeroCells (Value.agg #[.int .i64 0, .string ⟨#[]⟩, .slice none 0 0]).cells 2 ++ Builtin.zeroCells (Value.agg #[.int .i64 0, .string ⟨#[]⟩, .slice none 0 0]).cells (grownCap w (k + 2) cc 121 - (k + 2))) 121)) := fun ty => by
    have h := Lib.run_append_grow_zeros w 119 3 ty 121 i0 _ .i64 .i64 Tryz.underlying119 Tryz.underlying3 hi0 hz0 (some ⟨b, 0, none⟩) k cc us hold 2 (by omega) (by omega) (by omega) (by omega) (by rw [hz2]; omega) (by rw [hz2]; exact growslice_fits hroom (by omega))
    exact h
  have hGn : k + 2 ≤ grownCap w (k + 2) cc 121 := grownCap_ge w _ _ _
  have hG63 := grownCap_le_maxLen w (k + 2) cc 121 (by unfold maxLen; omega)
  generalize grownCap w (k + 2) cc 121 = G at *
  generalize hROW : us.toArray ++ Builtin.zeroCells (Value.agg #[.int .i64 0, .string ⟨#[]⟩, .slice none 0 0]).cells 2 ++ Builtin.zeroCells (Value.agg #[.int .i64 0, .string ⟨#[]⟩, .slice none 0 0]).cells (G - (k + 2)) = ROW at *
  have hRl : ROW.size = G * 3 := by
    rw [← hROW]
    simp only [Array.size_append, zero_cells, List.size_toArray, hus]
    omega
  have hRt : ROW.toList.take (k * 3) = us := by
    rw [← hROW]
    simp only [Array.toList_append, List.append_assoc]
    rw [← hus, List.take_left]
  obtain ⟨W1, hW1⟩ : ∃ W1, W1 = w.drew.alloc (.cells ROW 121) := ⟨_, rfl⟩
  have hN : W1.heap[w.heap.size]? = some (.cells ROW 121 (0, 0)) := by rw [hW1]; exact heap_alloc_new w.drew _
  have hO : ∀ g, g < w.heap.size → W1.heap[g]? = w.heap[g]? := fun g hg => by rw [hW1]; exact heap_alloc_lt w.drew _ hg
  have hS : W1.heap.size = w.heap.size + 1 := by rw [hW1]; simp
  rw [← hW1] at hrz
  generalize hR1 : (ROW.toList.take (k * 3) ++ [z0, z1, z2] ++ ROW.toList.drop (k * 3 + 3)).toArray = R1
  have hcpA : ∀ (W : World), W.heap = W1.heap → ∀ ty dl dc, 1 ≤ dl → (Builtin.copy_ #[119, 119] ty #[.slice (some ⟨w.heap.size, k * 3, none⟩) dl dc, .slice (some ⟨vb, 0, none⟩) 1 1]).run Tryz.prog W = .ok (goInt 1) (W.setRow w.heap.size R1) := fun W hW ty dl dc h1 => by
    rw [← hR1]
    exact run_copy_row3 W ty w.heap.size (k * 3) dl dc ⟨vb, 0, none⟩ 1 1 ROW 121 [z0, z1, z2] 1 (by rw [hW]; exact hN) (by simp only [Nat.min_def]; split <;> omega) rfl (fun j v hj => by
      rw [Go.Addr.add_lit, World.cell?_of_block (w := w) (a := ⟨vb, 0 + j, none⟩) (by rw [hW]; exact hO vb hvw), Lib.cell_of_heap hv]
      simpa using hj) (by simp; omega) hz
  generalize hR2 : (R1.toList.take ((k + 1) * 3) ++ [v0, v1, v2] ++ R1.toList.drop ((k + 1) * 3 + 3)).toArray = R2
  have hcpB : ∀ (W : World), W.heap = (W1.setRow w.heap.size R1).heap → ∀ ty dc sc, (Builtin.copy_ #[119, 119] ty #[.slice (some ⟨w.heap.size, (k + 1) * 3, none⟩) 1 dc, .slice (some ⟨b, k * 3, none⟩) 1 sc]).run Tryz.prog W = .ok (goInt 1) (W.setRow w.heap.size R2) := fun W hW ty dc sc => by
    rw [← hR2]
    exact run_copy_row3 W ty w.heap.size ((k + 1) * 3) 1 dc ⟨b, k * 3, none⟩ 1 sc R1 121 [v0, v1, v2] 1 (by rw [hW]; exact setRow_heap W1 _ ROW R1 121 (0, 0) hN) rfl rfl (fun j v hj => by
      rw [Go.Addr.add_lit, World.cell?_of_block (w := w) (a := ⟨b, k * 3 + j, none⟩) (by rw [hW, setRow_other _ _ _ _ (by show b ≠ w.heap.size; omega)]; exact hO b hbw)]
      exact hcell _ v (by rw [List.getElem?_append_right (by omega), hus, Nat.add_sub_cancel_left]; exact hj)) (by rw [← hR1]; simp; omega) hvs
  have HR1 := Lib.hid hR1
  have HR2 := Lib.hid hR2
  have HRT := Lib.hid hRt
  have HRL := Lib.hid hRl
  have HN := Lib.hid hN
  have HO := Lib.hid hO
  have HS := Lib.hid hS
  have HUS := Lib.hid hus
  unfold maxLen at hG63
  have hsl : (k : Int) + 1 + 1 - (k : Int) = 2 := by omega
  have hkk : (0 : Int) ≤ k := by omega
  have hk9 : (k : Int) ≤ 1000000 := by omega
  have hz9 : (cc : Int) < (k : Int) + 1 + 1 := by omega
  have hne1 : ((k : Int) == (k : Int) + 1) = false := beq_eq_false_iff_ne.2 (by omega)
  have hck : ¬ (cc = k) := by omega
  have hGk : ¬ (G = k) := by omega
  have hGk1 : ¬ (G = k + 1) := by omega
  have hin1 : k ≤ k + 1 := by omega
  have hin2 : k ≤ k + 2 := by omega
  have hin3 : k + 1 ≤ k + 2 := by omega
  have hw1 : IntKind.i64.wrap ((k : Int) + 1) = (k : Int) + 1 := by rw [IntKind.wrap_i64]; omega
  have hb1 : (0 : Int) ≤ (k : Int) + 1 := by omega
  have htn : ((k : Int) + 1).toNat = k + 1 := by omega
  have hb2 : (k : Int) + 1 ≤ (k : Int) + 1 + 1 := by omega
  have hb3 : (k : Int) ≤ (k : Int) + 1 + 1 := by omega
  have hb4 : (k : Int) ≤ (cc : Int) := by omega
  have hb5 : (k : Int) ≤ (k : Int) + 2 := by omega
  have hb6 : (k : Int) + 1 ≤ (k : Int) + 2 := by omega
  have hb7 : (k : Int) ≤ (k : Int) + 1 := by omega
  have HOWN := Lib.hid hown
  clear hR1 hR2 hRt hRl hN hO hS hus hold hcell hROW hown
  subst hW1
  have hE1 : ((w.alloc (.cells ROW 121)).drew).heap = (w.drew.alloc (.cells ROW 121)).heap := rfl
  go_enter Tryz.func272, Tryz.ntmps272
  go_wp2_with (first
    | (at_builtin; refine Lib.wpList_append_run _ rfl _ _ _ _ rfl _ _ rfl rfl _ _ (hrz _) ?_)
    | (at_builtin; refine wpList_copy_runI _ rfl _ _ 119 119 rfl _ _ rfl rfl (hcpA _ hE1 _ _ _ (by clear hw1; omega)) ?_))
  go_region_law (refine step_copy_runI rfl _ _ 119 119 rfl (.slice (some ⟨w.heap.size, (k + 1) * 3, none⟩) 1 (G - (k + 1))) (.slice (some ⟨b, k * 3, none⟩) 1 (cc - k)) (by simp [Act.eval, Act.put]) (by simp [Act.eval, Act.put]) (hcpB (((w.alloc (.cells ROW 121)).drew.setRow w.heap.size R1).drew) rfl _ _ _) ?_)
  go_wp2_with fail
  go_ret
  have h1 := setRow_heap _ w.heap.size ROW R1 121 (0, 0) HN.out
  have h2 : ((((w.alloc (.cells ROW 121)).drew.setRow w.heap.size R1).drew).setRow w.heap.size R2).heap[w.heap.size]? = some (.cells R2 121 (0, 0)) := setRow_heap _ w.heap.size R1 R2 121 (0, 0) h1
  obtain ⟨l1, l2⟩ := ins_list2 ROW.toList R1.toList R2.toList us z0 z1 z2 v0 v1 v2 k HUS.out HRT.out (by have := HRL.out; simp; omega) (by rw [← HR1.out]) (by rw [← HR2.out])
  refine ⟨w.heap.size, G, rfl, ⟨?_, .inr ⟨w.heap.size, G, R2, rfl, Nat.zero_le _, h2, hGn, by unfold maxLen; exact hG63, ?_, l1⟩⟩, ⟨rfl, rfl, rfl, ?_, fun g hg hgb => ?_⟩, .inr (Nat.le_refl _)⟩
  · have := HUS.out
    simp
    omega
  · rw [← HRL.out]
    simpa using l2
  · rw [setRow_size]
    show _ ≤ ((w.alloc (.cells ROW 121)).drew.setRow w.heap.size R1).heap.size
    rw [setRow_size]
    show _ ≤ (w.alloc (.cells ROW 121)).heap.size
    simp
  · have hne : g ≠ w.heap.size := by omega
    rw [setRow_other _ _ _ _ hne]
    show ((w.alloc (.cells ROW 121)).drew.setRow w.heap.size R1).heap[g]? = _
    rw [setRow_other _ _ _ _ hne]
    exact heap_alloc_lt w _ hg
theorem insert_any (w : World) (b k cc vb : Nat) (us : List Value) (z0 z1 z2 v0 v1 v2 : Value) (hown : w.ownsRow 0 121 3 (.slice (some ⟨b, 0, none⟩) (k + 1) cc) (k + 1) (us ++ [v0, v1, v2])) (hv : w.heap[vb]? = some (.cells #[z0, z1, z2] 121 (0, 0))) (hne : vb ≠ b) (hk : k ≤ 1000000)
    (hz : ∀ v ∈ [z0, z1, z2], v.oneCell' = true) (hvs : ∀ v ∈ [v0, v1, v2], v.oneCell' = true) (hus : us.length = k * 3) (hkc : k + 1 ≤ cc) :
    Calls Tryz.prog 272 #[.slice (some ⟨b, 0, none⟩) (k + 1) cc, .int .i64 k, .slice (some ⟨vb, 0, none⟩) 1 1] w (InsPost w b k us z0 z1 z2 v0 v1 v2) := by
  by_cases h : k + 2 ≤ cc
  · exact insert_shift w b k cc vb us z0 z1 z2 v0 v1 v2 hown hv hne hk hz hvs h
  · exact insert_grow w b k cc vb us z0 z1 z2 v0 v1 v2 hown hv hne hk hz hvs hus hkc (by omega)
end Go.Proofs.YtpibenilagloaaaGreatDoor

/-
  (*parser).impl: the walk.
-/
namespace Go.Proofs.YtpibenilagloaaaGreatDoor
open Go.RowKit
set_option linter.unusedVariables false

theorem body_impl : body .implS = .seq (.call .typeParams) (.seq (.call .typeExpr) (.seq (.ite (.at [kFor]) (.seq .bump (.call .typeExpr)) .insNone) (.call .members))) := rfl
/-- what the code reads and what it leaves where it puts a placeholder ahead of the last child -/
theorem Cx.At.ins {n : Nat} {c : Cx} {w : World} {s s' : PS} (h : c.At w s) (hs : R n .insNone s s') : ∃ g cap b k cc, w.cell? ⟨c.p, 2, none⟩ = some (.slice (some ⟨g, 0, none⟩) (c.low.length + 1) cap) ∧ w.cell? ⟨g, c.low.length * 3 + 2, none⟩ = some (.slice (some ⟨b, 0, none⟩) (k + 1) cc) ∧ g < w.heap.size ∧ k + 1 ≤ cc ∧ k ≤ 1000000 ∧ c.low.length ≤ 1000000 ∧ c.p < w.heap.size ∧
    ∀ W vb, Below w.heap.size w W → W.heap[vb]? = some (.cells #[.int .i64 0, .string ⟨#[]⟩, .slice none 0 0] 121 (0, 0)) → w.heap.size ≤ vb →
      Calls Tryz.prog 272 #[.slice (some ⟨b, 0, none⟩) (k + 1) cc, .int .i64 k, .slice (some ⟨vb, 0, none⟩) 1 1] W (fun e w' => ∃ b' cc', e = .returned (.slice (some ⟨b', 0, none⟩) (k + 2) cc') ∧ (w'.cell? ⟨g, c.low.length * 3 + 2, none⟩ = some (.slice (some ⟨b, 0, none⟩) (k + 1) cc) ∧ w'.frozen? ⟨g, c.low.length * 3 + 2, none⟩ = false ∧ g < w'.heap.size) ∧ c.At (w'.setCell ⟨g, c.low.length * 3 + 2, none⟩ (.slice (some ⟨b', 0, none⟩) (k + 2) cc')) s') := by
  obtain ⟨x, hx, hgas, hs'⟩ := hs.insNone
  obtain ⟨hE, M, ⟨g, cap, v, At, ct, hX⟩, hst, hen⟩ := h
  obtain ⟨pre, hpre⟩ : ∃ pre, s.ch.dropLast = pre := ⟨_, rfl⟩
  have hch := append_last hx
  rw [hpre] at hch hs'
  obtain ⟨xs, hown, hrow⟩ := hX.kids
  rw [hch] at hrow
  obtain ⟨us, v0, v1, v2, rfl, hr, ht⟩ := RowV.last _ _ _ hrow
  have hul := hr.length
  rw [hch, List.length_append, List.length_singleton] at hown
  obtain ⟨b, cc, rfl, hkc⟩ : ∃ b cc, v = .slice (some ⟨b, 0, none⟩) (pre.length + 1) cc ∧ pre.length + 1 ≤ cc := by
    rcases hown.2 with ⟨_, h0⟩ | ⟨b, cc, cur, rfl, _, _, hnc, _⟩
    · omega
    · exact ⟨b, cc, rfl, hnc⟩
  obtain ⟨xk, xt, xch⟩ := x
  obtain ⟨A2, m2, c2, rfl, rfl, rfl⟩ : ∃ A2 m2 c2, v0 = .int .i64 xk ∧ v1 = .string xt ∧ v2 = .slice A2 m2 c2 := by
    unfold TreeV at ht
    obtain ⟨h0, h1, A, c, h2, _⟩ := ht
    exact ⟨A, _, c, h0, h1, h2⟩
  have hbc := hX.bch
  rw [hch, List.length_append, List.length_singleton] at hbc
  have hglt := (hX.row.lt g rfl).2
  have hblt := hX.kids.lt b rfl
  have hbg : b ≠ g := fun e => hX.apart.2.2.1 (by rw [← e]; rfl)
  refine ⟨g, cap, b, pre.length, cc, hX.cells.2.2, hX.top.2.2, hglt, hkc, by omega, by have := hX.blow; omega, lt_of_heap hX.blk, fun W vb hb hvb hvlt => ?_⟩
  have hXW := hX.below hb
  refine (insert_any W b pre.length cc vb us _ _ _ _ _ _ (own_below' hown hb) hvb (by omega) (by omega) (by simp [Value.oneCell']) (by simp [Value.oneCell']) hul hkc).mono ?_
  rintro e w' ⟨b', cc', rfl, hown', hgr, hb'⟩
  have hgW : some g ≠ some b := fun e => hbg (by injection e with e; exact e.symm)
  refine ⟨b', cc', rfl, ⟨(hgr.cell_far ⟨g, _, none⟩ (Nat.lt_of_lt_of_le hglt hb.size) hgW).trans hXW.top.2.2, (hgr.frozen_far ⟨g, _, none⟩ (Nat.lt_of_lt_of_le hglt hb.size) hgW).trans (hXW.row.frozenAt _), Nat.lt_of_lt_of_le (Nat.lt_of_lt_of_le hglt hb.size) hgr.size⟩, ?_⟩
  have hbg' : b' ≠ g := by
    rcases hb' with e | e
    · rw [e]; exact hbg
    · have := hb.size; omega
  obtain ⟨o4, q4⟩ := (hXW.row.kept hgr (.inr (fun e => hgW e))).stored (c.low.length * 3 + 2) (.slice (some ⟨b', 0, none⟩) (pre.length + 2) cc')
  rw [← lowCells_length c.low, List.set_append_right _ _ (by omega), Nat.add_sub_cancel_left, lowCells_length c.low] at o4
  obtain ⟨X0, T0⟩ := hXW.retop (wf := w'.setCell ⟨g, c.low.length * 3 + 2, none⟩ (.slice (some ⟨b', 0, none⟩) (pre.length + 2) cc')) (.slice (some ⟨b', 0, none⟩) (pre.length + 2) cc') s' hgr.os hgr.tape hgr.output (by rw [World.size_setCell]; exact hgr.size)
    (fun d hlt hdg hdv => by
      rw [Below.heap_setCell _ _ _ _ hdg]
      exact hgr.block d hlt (fun e => hdv (by rw [e]; rfl)))
    (by
      rcases hb' with e | e
      · exact .inr (.inl (by rw [e]; rfl))
      · exact .inr (.inr ⟨b', rfl, e⟩))
    o4
    (fun hfix hsame => by
      have hsame2 : ∀ d, Fix w M d → (w'.setCell ⟨g, c.low.length * 3 + 2, none⟩ (.slice (some ⟨b', 0, none⟩) (pre.length + 2) cc')).heap[d]? = w.heap[d]? := fun d hd => (hsame d ⟨Nat.lt_of_lt_of_le hd.1 hb.size, hd.2, hd.3⟩).trans (hb.block d hd.1)
      have hfix2 : ∀ d, Fix w M d → Fix (w'.setCell ⟨g, c.low.length * 3 + 2, none⟩ (.slice (some ⟨b', 0, none⟩) (pre.length + 2) cc')) (With M (.slice (some ⟨b', 0, none⟩) (pre.length + 2) cc')) d := fun d hd => hfix d ⟨Nat.lt_of_lt_of_le hd.1 hb.size, hd.2, hd.3⟩
      refine ⟨us ++ [.int .i64 0, .string ⟨#[]⟩, .slice none 0 0] ++ [.int .i64 xk, .string xt, .slice A2 m2 c2], ?_, ?_⟩
      · have hl : s'.ch.length = pre.length + 2 := by rw [hs']; simp
        rw [hl]
        exact ownsRow_below hown' (fun d hd => Below.heap_setCell _ _ _ _ (by
          simp only [Value.ownBlock, Option.some.injEq] at hd
          rw [← hd]; exact hbg'))
      · rw [hs']
        show RowV _ _ _ (pre ++ [.mk 0 .empty [], .mk xk xt xch])
        rw [show pre ++ [Tree.mk 0 .empty [], .mk xk xt xch] = (pre ++ [Tree.mk 0 .empty []]) ++ [.mk xk xt xch] by simp]
        refine RowV.append _ _ (RowV.append _ _ (RowV.keep hfix2 hsame2 _ _ hr) _ _ ?_) _ _ ?_
        · unfold RowV
          exact ⟨by unfold TreeV; exact ⟨rfl, rfl, none, 0, rfl, .inl rfl⟩, by unfold RowV; trivial⟩
        · unfold RowV
          exact ⟨TreeV.keep hfix2 hsame2 _ _ _ _ ht, by unfold RowV; trivial⟩)
    (by rw [hs']) (by rw [hs']; simp; omega) (by rw [hs']; have := hX.blow; show c.low.length + (s.gas - 1) ≤ 1000000; omega)
  exact ⟨hE, _, ⟨_, _, _, _, _, X0⟩, (hst.trans (Step.of_below hb)).trans T0, hE _ _ _ _ (hE _ _ _ _ hen (Step.of_below hb)) T0⟩
set_option maxRecDepth 100000 in
set_option maxHeartbeats 1600000 in
theorem fn_impl {n : Nat} {p : Nat} {toks : List Tok} (hI : AllOk n p toks) : FnOk n p toks .implS := by
  intro hd w M low kind s s' hp hs
  rw [body_impl] at hs
  show Calls Tryz.prog 215 #[.pointer (some ⟨p, 0, none⟩)] w _
  obtain ⟨u1, r1, hs⟩ := R.seq hs
  obtain ⟨u2, r2, hs⟩ := R.seq hs
  obtain ⟨u3, r3, r4⟩ := R.seq hs
  have h0 := Cx.At.bare hp
  clear hp hs
  go_enter Tryz.func215, Tryz.ntmps215
  go_wp2_with fail
  refine (Cx.fn .typeParams hI h0 r1 True.intro).mono ?_
  rintro e w1 ⟨rfl, h1⟩
  clear h0 r1
  go_wp2_with fail
  refine (Cx.fn .typeExpr hI h1 r2 True.intro).mono ?_
  rintro e w2 ⟨rfl, h2⟩
  clear h1 r2
  cases ht : atB [kFor] u2.rest
  · have r5 := R.no r3 ht
    have ht' := Lib.hid ht
    clear ht r3
    go_wp2_with fail
    refine (Cx.acceptF h2 ht'.out (by simp)).mono ?_
    rintro e w3 ⟨rfl, h3⟩
    clear h2
    obtain ⟨g, cap, b, k, cc, c2, d2, hgl, hkc, hk9, hl9, hpl, hcall⟩ := h3.ins r5
    simp only at c2 d2 hl9 hpl hcall
    have HC := Lib.hid (hcall ((w3.alloc (.cells #[.int .i64 0, .string ⟨#[]⟩, .slice none 0 0] 121)).drew) w3.heap.size (((Below.refl _ _).alloc (Nat.le_refl _) _).drew) (heap_alloc_new _ _) (Nat.le_refl _))
    clear hcall h3 r5
    have hkI : (0 : Int) ≤ k := by omega
    have hLI : (0 : Int) ≤ low.length := by omega
    have hLI2 : (low.length : Int) < (low.length : Int) + 1 := by omega
    have hLI3 : (low.length : Int) < ((low.length + 1 : Nat) : Int) := by omega
    go_wp2_with fail
    go_region
    go_wp2_with fail
    refine HC.out.mono ?_
    rintro e w4 ⟨b', cc', rfl, ⟨k1, k2, k3⟩, h4⟩
    clear HC c2 d2
    go_wp2_with fail
    refine (Cx.fn .members hI h4 r4 True.intro).mono ?_
    rintro e w5 ⟨rfl, h5⟩
    clear h4 r4 k1 k2
    go_wp2_with fail
    go_end0
    exact h5.post
  · obtain ⟨v, r6, r7⟩ := R.seq (R.yes r3 ht)
    have ht' := Lib.hid ht
    have r6b := Lib.hid r6.bump
    clear ht r3 r6
    go_wp2_with fail
    refine (Cx.acceptT h2 ht'.out r6b.out (by simp)).mono ?_
    rintro e w3 ⟨rfl, h3⟩
    clear h2
    go_wp2_with fail
    refine (Cx.fn .typeExpr hI h3 r7 True.intro).mono ?_
    rintro e w4 ⟨rfl, h4⟩
    clear h3 r7
    go_wp2_with fail
    refine (Cx.fn .members hI h4 r4 True.intro).mono ?_
    rintro e w5 ⟨rfl, h5⟩
    clear h4 r4
    go_wp2_with fail
    go_end0
    exact h5.post
end Go.Proofs.YtpibenilagloaaaGreatDoor

/-
  (*parser).postfix: the walk.
-/
namespace Go.Proofs.YtpibenilagloaaaGreatDoor
open Go.RowKit
set_option linter.unusedVariables false

def postT : Test := .and (.ahead 1 Cmd.ident) (.ahead 2 (.at [pLp]))
theorem postT_eval (f : Bool) (r : List Tok) : postT.eval f r = ((peekT (after r)).k == 103 && atB [pLp] (after (after r))) := rfl
set_option maxRecDepth 100000 in
set_option maxHeartbeats 1600000 in
theorem fn_postfix {n : Nat} {p : Nat} {toks : List Tok} (hI : AllOk n p toks) : FnOk n p toks .postfixS := by
  intro hd w M low kind s s' hp hs
  show Calls Tryz.prog 338 #[.pointer (some ⟨p, 0, none⟩)] w _
  have h0 := Cx.At.start hp (v := .pointer (some ⟨p, 0, none⟩)) (t := 174)
  clear hp
  have x0 := h0.bx (fun _ _ e => e)
  obtain ⟨m, hl⟩ := R.loop hs
  clear hs
  go_enter Tryz.func338, Tryz.ntmps338
  go_wp2_with fail
  go_loopg [2] m (fun gk v2 wr => ∃ s1, (⟨(Bx (w.heap.size) (.pointer (some ⟨p, 0, none⟩))), p, toks, low, kind, M, w⟩ : Cx).At wr s1 ∧ RL n gk (.at [pLp, pDot]) (.ite (.at [pLp]) (.wrap 30 (.call .arguments)) (.ite postT (.wrap 31 (.seq .bump (.seq .bump (.call .arguments)))) (.wrap 32 (.seq .bump Cmd.expectIdent)))) s1 s')
  case atStart => exact ⟨_, h0, hl⟩
  case round =>
    clear h0 hl x0
    obtain ⟨s1, h1, hl⟩ := hrel
    have x0 := h1.bx (fun _ _ e => e)
    go_wp2_with fail
    refine (Cx.at2 h1 pLp pDot (by simp)).mono ?_
    rintro e w2 ⟨rfl, h2⟩
    clear x0 h1
    have x0 := h2.bx (fun _ _ e => e)
    cases ht : atB [pLp, pDot] s1.rest
    · have hz := Lib.hid (hl.no ht)
      clear ht hl
      go_wp2_with fail
      have h3 := h2.eq hz.out
      clear h2 hz
      go_end0
      exact h3.post
    · obtain ⟨k, u, hk, hc, hl2⟩ := hl.yes ht
      clear ht hl
      go_wp2_with fail
      refine (Cx.at1 h2 pLp (by simp)).mono ?_
      rintro e w3 ⟨rfl, h3⟩
      clear x0 h2
      have x0 := h3.bx (fun _ _ e => e)
      cases ht : atB [pLp] s1.rest
      · have hc2 := R.no hc ht
        clear ht hc
        go_wp2_with fail
        refine (Cx.look h3).mono ?_
        rintro e w4 ⟨q, Mq, sq, rfl, hq, hr, h4⟩
        clear x0 h3
        have x0 := h4.bx (fun _ _ e => e)
        have HR := Lib.hid hr
        clear hr
        go_wp2_with fail
        refine (Cx.identQ h4 hq).mono ?_
        rintro e w5 ⟨rfl, h5, hq5⟩
        clear x0 h4 hq
        have x0 := h5.bx (fun _ _ e => e)
        rw [HR.out]
        cases hi : (peekT (after s1.rest)).k == 103
        · have hc3 := R.no hc2 (by show postT.eval s1.flag s1.rest = false; rw [postT_eval, hi]; rfl)
          clear hi hc2
          go_wp2_with fail
          refine (Cx.wrap h5 hc3 (acts_postfix_2 hI _)).mono ?_
          rintro e w6 ⟨rfl, h6⟩
          clear x0 h5 hc3
          go_wp2_with fail
          go_roundg k
          case rel => exact ⟨u, h6, hl2⟩
          case measure => exact hk
        · have HI := Lib.hid hi
          clear hi
          go_wp2_with fail
          refine (Cx.lookQ h5 hq5).mono ?_
          rintro e w6 ⟨q2, Mq2, sq2, rfl, hq6, hr2, h6⟩
          clear x0 h5 hq5
          have x0 := h6.bx (fun _ _ e => e)
          have HR2 := Lib.hid (hr2.trans (by rw [HR.out]))
          clear hr2
          go_wp2_with fail
          refine (Cx.ahead1 h6 hq6 HR2.out pLp (by simp)).mono ?_
          rintro e w7 ⟨rfl, h7⟩
          clear x0 h6 hq6
          have x0 := h7.bx (fun _ _ e => e)
          cases ha : atB [pLp] (after (after s1.rest))
          · have hc3 := R.no hc2 (by show postT.eval s1.flag s1.rest = false; rw [postT_eval, HI.out, ha]; rfl)
            clear ha hc2
            go_wp2_with fail
            refine (Cx.wrap h7 hc3 (acts_postfix_2 hI _)).mono ?_
            rintro e w8 ⟨rfl, h8⟩
            clear x0 h7 hc3
            go_wp2_with fail
            go_roundg k
            case rel => exact ⟨u, h8, hl2⟩
            case measure => exact hk
          · have hc3 := R.yes hc2 (by show postT.eval s1.flag s1.rest = true; rw [postT_eval, HI.out, ha]; rfl)
            clear ha hc2
            go_wp2_with fail
            refine (Cx.wrap h7 hc3 (acts_postfix_1 hI _)).mono ?_
            rintro e w8 ⟨rfl, h8⟩
            clear x0 h7 hc3
            go_wp2_with fail
            go_roundg k
            case rel => exact ⟨u, h8, hl2⟩
            case measure => exact hk
      · have hc2 := R.yes hc ht
        clear ht hc
        go_wp2_with fail
        refine (Cx.wrap h3 hc2 (actsC_fn _ .arguments hI ent_arguments True.intro (fun _ => rfl) rfl)).mono ?_
        rintro e w4 ⟨rfl, h4⟩
        clear x0 h3 hc2
        go_wp2_with fail
        go_roundg k
        case rel => exact ⟨u, h4, hl2⟩
        case measure => exact hk
end Go.Proofs.YtpibenilagloaaaGreatDoor

/-
  Every function of the parser does what its body says.
-/
namespace Go.Proofs.YtpibenilagloaaaGreatDoor
open Go.RowKit
set_option linter.unusedVariables false

theorem fn_all {n : Nat} {p : Nat} {toks : List Tok} (hI : AllOk n p toks) : ∀ f, FnOk n p toks f
  | .typeExpr => fn_typeExpr hI
  | .path true => fn_path_true hI
  | .path false => fn_path_false hI
  | .typeParams => fn_typeParams hI
  | .typeParam => fn_typeParam hI
  | .params c => fn_params hI c
  | .pattern => fn_pattern hI
  | .block => fn_block hI
  | .statement => fn_statement hI
  | .letS => fn_let hI
  | .returnS => fn_returnStmt hI
  | .expr => fn_expr hI
  | .binary l => fn_binary hI l
  | .unary => fn_unary hI
  | .arguments => fn_arguments hI
  | .postfixS => fn_postfix hI
  | .primary => fn_primary hI
  | .ifExpr => fn_ifExpr hI
  | .matchS => fn_match hI
  | .structLit => fn_structLit hI
  | .lambda => fn_lambda hI
  | .item => fn_item hI
  | .skipToItem => fn_skipToItem hI
  | .itemBody k => fn_itemBody hI k
  | .useS => fn_use hI
  | .function true => fn_functionT hI
  | .function false => fn_functionF hI
  | .dataType k => fn_dataType hI k
  | .members => fn_members hI
  | .implS => fn_impl hI
theorem all_ok (n : Nat) (p : Nat) (toks : List Tok) : AllOk n p toks := by
  induction n with
  | zero =>
    intro f hd w M low kind s s' hp hs
    obtain ⟨m, h1, _⟩ := hs
    omega
  | succ n ih =>
    intro f hd w M low kind s s' hp hs
    exact fn_all ih f hd w M low kind s s' hp hs.call
end Go.Proofs.YtpibenilagloaaaGreatDoor
