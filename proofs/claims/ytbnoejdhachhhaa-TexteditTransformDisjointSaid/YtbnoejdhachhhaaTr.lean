/-
  textedit.trace: the walk.
-/
import Derived.Test.YtbnoejdhachhhaaTb
namespace Go.Proofs.Ytbnoejdhachhhaa
open Go.RowKit

/-- textedit.trace -/
def traceL (l : List UInt8) : List TB := (List.range l.length).map fun i => ⟨l.getD i 0, i⟩
theorem traceL_length (l : List UInt8) : (traceL l).length = l.length := by simp [traceL]

theorem run_make_tb (n : Nat) (hn : n ≤ 4294967296) (u : World) :
    (Instr.makeSlice 64 (.int .i64 (n : Int)) (.int .i64 (n : Int))).run Try.prog u = .ok (.slice (some ⟨u.heap.size, 0, none⟩) n n) (u.alloc (.cells (madeCells #[.int .u8 0, .int .i64 0] (n * 2)) 73)) := by
  obtain ⟨i0, hi, hz0, hz1, hz2⟩ := info_parts info_tb
  have h := run_make (P := Try.prog) u 64 73 i0 _ Try.underlying64 hi hz0 .i64 .i64 (n : Int) (n : Int) (by omega) (Int.le_refl _) (by rw [hz2]; omega) (by omega)
  simp only [Int.toNat_natCast, hz1, Value.cells] at h
  exact h

theorem heap_set {w : World} {g : Nat} {cs : Array Value} {t : TypeId} {fr : Nat × Nat} (h : w.heap[g]? = some (.cells cs t fr)) (i : Nat) (u : Value) : (w.setCell ⟨g, i, none⟩ u).heap[g]? = some (.cells (cs.setIfInBounds i u) t fr) := by
  simp [World.setCell, Array.getElem?_modify, h]
theorem traceL_at (l : List UInt8) (k : Nat) (h : k < l.length) : (traceL l)[k]? = some ⟨l[k], k⟩ := by
  simp [traceL, h]
theorem tbCells_get (bs : List TB) (j : Nat) (u : Value) (h : (tbCells bs)[j]? = some u) : ∃ (k : Nat) (x : TB), bs[k]? = some x ∧ ((j = k * 2 ∧ u = .int .u8 x.v.toNat) ∨ (j = k * 2 + 1 ∧ u = .int .i64 x.o)) := by
  have hj : j < (tbCells bs).length := (List.getElem?_eq_some_iff.1 h).1
  rw [tbCells_length] at hj
  have hk : j / 2 < bs.length := by omega
  have hx := List.getElem?_eq_getElem hk
  obtain ⟨h1, h2⟩ := tbCells_at bs (j / 2) _ hx
  refine ⟨j / 2, _, hx, ?_⟩
  by_cases he : j = j / 2 * 2
  · rw [he, h1] at h
    injection h with h
    exact .inl ⟨he, h.symm⟩
  · have he2 : j = j / 2 * 2 + 1 := by omega
    rw [he2, h2] at h
    injection h with h
    exact .inr ⟨he2, h.symm⟩

set_option maxHeartbeats 800000 in
theorem trace_any (src : ByteArray) (w : World) (hs : src.size ≤ 2000) :
    Calls Try.prog 32 #[.string src] w fun e w' => ∃ D' d', e = .returned (.slice D' (traceL src.data.toList).length d') ∧ (traceL src.data.toList).length ≤ d' ∧ d' ≤ maxLen ∧ RowAt w' w'.heap.size D' (tbCells (traceL src.data.toList)) ∧ Below w.heap.size w w' := by
  have hmk := fun u => run_make_tb src.size (by omega) u
  go_enter Try.func32, Try.ntmps32
  go_wp2
  have hmk0 : (madeCells #[Value.int .u8 0, Value.int .i64 0] (src.size * 2)).size = src.size * 2 := by simp [madeCells]
  have hg0 := heap_alloc_new w (.cells (madeCells #[Value.int .u8 0, Value.int .i64 0] (src.size * 2)) 73)
  have hb0 : Below w.heap.size w (w.alloc (.cells (madeCells #[Value.int .u8 0, Value.int .i64 0] (src.size * 2)) 73)) := (Below.refl _ _).alloc (Nat.le_refl _) _
  clear hmk
  have HMK := Lib.hid hmk0
  clear hmk0
  generalize madeCells #[Value.int .u8 0, Value.int .i64 0] (src.size * 2) = cs0 at *
  go_loopw [10] (fun i wr => ∃ (k : Nat) (cs : Array Value), k ≤ src.size ∧ i = .int .i64 k ∧ wr.heap[w.heap.size]? = some (.cells cs 73 (0, 0)) ∧ Hid (cs.size = src.size * 2) ∧
    Hid (∀ j (hj : j < k) (hs : j < src.data.size), cs[j * 2]? = some (.int .u8 (src.data[j].toNat : Int)) ∧ cs[j * 2 + 1]? = some (.int .i64 j)) ∧ Below w.heap.size w wr) (fun i _ => src.size - (intOf i).toNat)
  case atStart => exact ⟨0, cs0, Nat.zero_le _, rfl, hg0, HMK, fun j hj => absurd hj (by omega), hb0⟩
  case round =>
    obtain ⟨k, cs, hk, rfl, hg, HS, HC, hb⟩ := hrel
    by_cases hlt : k < src.size
    · have hlt3 : k < src.data.size := hlt
      have hk1 : k * 2 < cs.size := by have := HS.out; omega
      have hk2 : k * 2 + 1 < cs.size := by have := HS.out; omega
      obtain ⟨v0, hv0⟩ : ∃ v, v = cs[k * 2] := ⟨_, rfl⟩
      obtain ⟨v1, hv1⟩ : ∃ v, v = cs[k * 2 + 1] := ⟨_, rfl⟩
      have c0 : wr.cell? ⟨w.heap.size, k * 2, none⟩ = some v0 := by rw [Lib.cell_of_heap hg, hv0]; exact Array.getElem?_eq_getElem hk1
      have c1 : wr.cell? ⟨w.heap.size, k * 2 + 1, none⟩ = some v1 := by rw [Lib.cell_of_heap hg, hv1]; exact Array.getElem?_eq_getElem hk2
      have f0 : wr.frozen? ⟨w.heap.size, k * 2, none⟩ = false := Lib.frozen_of_heap hg _
      have f1 : wr.frozen? ⟨w.heap.size, k * 2 + 1, none⟩ = false := Lib.frozen_of_heap hg _
      clear hv0 hv1
      have hg1 := heap_set hg (k * 2) (.int .u8 (src.data[k].toNat : Int))
      have hg2 := heap_set hg1 (k * 2 + 1) (.int .i64 (k : Int))
      have hb2 : Below w.heap.size w ((wr.setCell ⟨w.heap.size, k * 2, none⟩ (.int .u8 (src.data[k].toNat : Int))).setCell ⟨w.heap.size, k * 2 + 1, none⟩ (.int .i64 (k : Int))) := (hb.setCell (p := ⟨w.heap.size, _, none⟩) (Nat.le_refl _) _).setCell (p := ⟨w.heap.size, _, none⟩) (Nat.le_refl _) _
      have HG := Lib.hid hg2
      have HB := Lib.hid hb2
      clear hg1 hg2 hb2
      have HS2 : Hid (((cs.setIfInBounds (k * 2) (.int .u8 (src.data[k].toNat : Int))).setIfInBounds (k * 2 + 1) (.int .i64 (k : Int))).size = src.size * 2) := by unfold Hid; rw [Array.size_setIfInBounds, Array.size_setIfInBounds, HS.out]
      have HC2 : Hid (∀ j (hj : j < k + 1) (hs : j < src.data.size), ((cs.setIfInBounds (k * 2) (.int .u8 (src.data[k].toNat : Int))).setIfInBounds (k * 2 + 1) (.int .i64 (k : Int)))[j * 2]? = some (.int .u8 (src.data[j].toNat : Int)) ∧
          ((cs.setIfInBounds (k * 2) (.int .u8 (src.data[k].toNat : Int))).setIfInBounds (k * 2 + 1) (.int .i64 (k : Int)))[j * 2 + 1]? = some (.int .i64 j)) := by
        intro j hj hs
        rw [Array.getElem?_setIfInBounds, Array.getElem?_setIfInBounds, Array.getElem?_setIfInBounds, Array.getElem?_setIfInBounds]
        rcases Nat.lt_or_eq_of_le (Nat.lt_succ_iff.1 hj) with h | h
        · have := HC.out j h hs
          rw [if_neg (by omega), if_neg (by omega), if_neg (by omega), if_neg (by omega)]
          exact this
        · subst h
          rw [if_neg (by omega), if_pos rfl, if_pos hk1, if_pos rfl, if_pos (by rw [Array.size_setIfInBounds]; exact hk2)]
          exact ⟨rfl, rfl⟩
      go_wp2
      go_roundw
      case rel => exact ⟨k + 1, _, by omega, by go_num, HG.out, HS2, HC2, HB.out⟩
      case measure => simp [intOf]; omega
    · have hr : RowAt wr wr.heap.size (some ⟨w.heap.size, 0, none⟩) (tbCells (traceL src.data.toList)) := by
        intro _
        refine ⟨_, 0, rfl, lt_of_heap hg, fun j u hu => ?_⟩
        obtain ⟨m, x, hx, h⟩ := tbCells_get _ _ _ hu
        have hm : m < src.data.toList.length := by have := (List.getElem?_eq_some_iff.1 hx).1; rwa [traceL_length] at this
        rw [traceL_at _ _ hm] at hx
        injection hx with hx
        subst hx
        have hm2 : m < src.data.size := by rwa [Array.length_toList] at hm
        obtain ⟨h1, h2⟩ := HC.out m (by show m < k; have : src.data.size = src.size := rfl; omega) hm2
        rw [Nat.zero_add, Lib.cell_of_heap hg]
        rcases h with ⟨rfl, rfl⟩ | ⟨rfl, rfl⟩
        · exact h1
        · exact h2
      have HL := Lib.hid (show (traceL src.data.toList).length = src.size by rw [traceL_length, Array.length_toList]; rfl)
      have HR := Lib.hid hr
      clear hr
      go_wp2
      go_ret
      exact ⟨_, src.size, by rw [HL.out]; rfl, by rw [HL.out]; exact Nat.le_refl _, by unfold maxLen; omega, HR.out, hb⟩
end Go.Proofs.Ytbnoejdhachhhaa
