/-
  slices.Repeat at []int: the walk.
-/
import Derived.Test.YtbnoejdhachhhabMul
import Derived.Deep.RegionHeld3
import Derived.Deep.RegionLaw
namespace Go.Proofs.Ytbnoejdhachhhab
open Go.RowKit Go.Lib
set_option linter.unusedVariables false

/-- m times x, then zeros, n in all -/
def part (x : Int) (m n : Nat) : List Value := List.replicate m (.int .i64 x) ++ List.replicate (n - m) (.int .i64 0)

theorem run_make_int (n : Nat) (hn : n ≤ 4294967296) (u : World) :
    (Instr.makeSlice 22 (.int .i64 (n : Int)) (.int .i64 (n : Int))).run Try.prog u = .ok (.slice (some ⟨u.heap.size, 0, none⟩) n n) (u.alloc (.cells (madeCells #[.int .i64 0] (n * 1)) 3)) := by
  obtain ⟨i0, hi, hz0, hz1, hz2⟩ := info_parts info_int
  have h := run_make (P := Try.prog) u 22 3 i0 _ Try.underlying22 hi hz0 .i64 .i64 (n : Int) (n : Int) (by omega) (Int.le_refl _) (by rw [hz2]; omega) (by omega)
  simp only [Int.toNat_natCast, hz1, Value.cells] at h
  exact h

theorem splice_part (x : Int) (m k n : Nat) (h : m + k ≤ n) : splice (part x m n) m (List.replicate k (.int .i64 x)) = part x (m + k) n := by
  unfold splice part
  have h1 : (List.replicate m (Value.int .i64 x) ++ List.replicate (n - m) (Value.int .i64 0)).take m = List.replicate m (Value.int .i64 x) := List.take_left' (by simp)
  have h2 : (List.replicate m (Value.int .i64 x) ++ List.replicate (n - m) (Value.int .i64 0)).drop (m + (List.replicate k (Value.int .i64 x)).length) = List.replicate (n - (m + k)) (Value.int .i64 0) := by
    rw [← List.drop_drop, List.drop_left' (by simp), List.length_replicate, List.drop_replicate]
    congr 1; omega
  rw [h1, h2, ← List.append_assoc, List.replicate_append_replicate]
theorem part_length (x : Int) (m n : Nat) (h : m ≤ n) : (part x m n).length = n := by simp [part]; omega
theorem part_at (x : Int) (m n j : Nat) (h : j < m) : (part x m n)[j]? = some (.int .i64 x) := by
  unfold part
  rw [List.getElem?_append_left (by simpa using h)]
  simp [h]
theorem made_part (x : Int) (n : Nat) : madeCells #[.int .i64 0] n = (part x 0 n).toArray := by
  apply Array.ext'
  simp only [part, List.replicate_zero, List.nil_append, Nat.sub_zero]
  apply List.ext_getElem?
  intro i
  by_cases h : i < n
  · simp [madeCells, h, Nat.mod_one]
  · simp [madeCells, h]
theorem sz_int : (Try.prog.info? 3).map (·.size) = some 1 := by kernel_rfl

set_option maxHeartbeats 800000 in
theorem rep_any (A : Option Addr) (c : Nat) (x : Int) (n : Nat) (w : World) (h : IntsAt w w.heap.size A [x]) (hn : n ≤ 1000) :
    Calls Try.prog 23 #[.slice A 1 c, .int .i64 n] w fun e w' => e = .returned (.slice (some ⟨w.heap.size, 0, none⟩) n n) ∧ w'.heap[w.heap.size]? = some (.cells (List.replicate n (.int .i64 x)).toArray 3 (0, 0)) ∧ Below w.heap.size w w' := by
  obtain ⟨b, off, rfl, hb, hc⟩ := h (by simp)
  have c1 := hc 0 x rfl
  rw [Nat.add_zero] at c1
  have hmk := fun u => run_make_int n (by omega) u
  have hmul := fun u => mul_any 1 n (by omega) (by omega) u
  have e1 : ((1 * n / 18446744073709551616 : Nat) : Int) = 0 := by omega
  have e2 : ((1 * n % 18446744073709551616 : Nat) : Int) = n := by omega
  have hw1 : IntKind.u64.wrap (n : Int) = n := by rw [IntKind.wrap_u64]; omega
  rw [e1, e2] at hmul
  clear hc h
  go_enter Try.func23, Try.ntmps23
  go_wp2_with fail
  refine (hmul _).mono ?_
  rintro e w0 ⟨rfl, hw0⟩
  rw [hw0]
  clear hw0 hmul e1 e2 w0
  have hg0 := heap_alloc_new w (.cells (madeCells #[.int .i64 0] n) 3)
  have hb0 : Below w.heap.size w (w.alloc (.cells (madeCells #[.int .i64 0] n) 3)) := (Below.refl _ _).alloc (Nat.le_refl _) _
  have c2 := (hb0.cell (p := ⟨b, off, none⟩) hb).trans c1
  have HM := Lib.hid (made_part x n)
  have H1 := Lib.hid (show min 1 n ≤ n from Nat.min_le_right _ _)
  have hg1 : (w.alloc (.cells (madeCells #[.int .i64 0] n) 3)).heap[w.heap.size]? = some (.cells (part x 0 n).toArray 3 (0, 0)) := by rw [hg0, HM.out]
  clear hg0
  go_wp2_with (refine wpList_copy_splice (o := ⟨some 33, _, _, _, _, _⟩) rfl (.tmp 31) (.tmp 32) _ _ rfl 3 Try.underlying22 sz_int _ _ _ _ _ _ rfl rfl w.heap.size 0 (part x 0 n) 3 hg1 (List.replicate (min 1 n) (.int .i64 x)) ?c1 ?c2 ?c3 ?c4 w.heap.size w hb0 (Nat.le_refl _) ?_)
  case c1 => simp
  case c2 =>
    intro hp j v hj
    have hj1 := (List.getElem?_eq_some_iff.1 hj).1
    rw [List.length_replicate] at hj1
    have hj0 : j = 0 := by omega
    subst hj0
    rw [List.getElem?_replicate, if_pos (by omega)] at hj
    injection hj with hj
    rw [← hj]
    exact c1
  case c3 => rw [part_length x 0 n (by omega), List.length_replicate]; omega
  case c4 => intro v hv; rw [(List.mem_replicate.1 hv).2]; rfl
  intro w1 hg2 hb1
  have hg3 : w1.heap[w.heap.size]? = some (.cells (part x (min 1 n) n).toArray 3 (0, 0)) := by rw [hg2.out, splice_part x 0 (min 1 n) n (by omega), Nat.zero_add]
  have HG3 := Lib.hid hg3
  clear hg1 hg2 c2 hb0 hmk hg3
  obtain ⟨mm, hmm⟩ : ∃ mm, min 1 n = mm := ⟨_, rfl⟩
  have hm0 : 0 < mm ∨ n = 0 := by omega
  have hmn : mm ≤ n := by omega
  rw [hmm] at HG3 ⊢
  clear hmm H1
  go_wp2_with fail
  go_loopw [8] (fun i wr => ∃ m : Nat, m ≤ n ∧ (0 < m ∨ n = 0) ∧ i = .int .i64 m ∧ Hid (wr.heap[w.heap.size]? = some (.cells (part x m n).toArray 3 (0, 0))) ∧ Below w.heap.size w wr) (fun i _ => n - (intOf i).toNat)
  case atStart => exact ⟨mm, hmn, hm0, rfl, HG3, hb1⟩
  case round =>
    obtain ⟨m, hm, hmp, rfl, HG, hbr⟩ := hrel
    clear hm0 hmn HG3 hb1
    by_cases hlt : m < n
    · have hm1 : 0 < m := by omega
      have i1 : (m : Int) < (n : Int) := by omega
      have hne : ¬ n = m := by omega
      have hne2 : ¬ m = n := by omega
      have hle : m ≤ n := by omega
      have hgm := HG.out
      have hpl := part_length x m n hm
      have hsrc : ∀ (j : Nat) (v : Value), (List.replicate (min m (n - m)) (Value.int .i64 x))[j]? = some v → wr.drew.cell? ((⟨w.heap.size, 0, none⟩ : Addr).add j) = some v := by
        intro j v hj
        have hj1 := (List.getElem?_eq_some_iff.1 hj).1
        rw [List.length_replicate] at hj1
        rw [List.getElem?_replicate, if_pos hj1] at hj
        rw [addr0]
        show wr.cell? _ = _
        rw [Lib.cell_of_heap hgm]
        have := part_at x m n j (by omega)
        simpa [hj] using this
      have hl1 : (List.replicate (min m (n - m)) (Value.int .i64 x)).length = Nat.min m (n - m) := by simp [Nat.min_def]
      have hfit : m + (List.replicate (min m (n - m)) (Value.int .i64 x)).length ≤ (part x m n).length := by rw [hpl, List.length_replicate]; omega
      have hone : ∀ v ∈ List.replicate (min m (n - m)) (Value.int .i64 x), v.oneCell' = true := by intro v hv; rw [(List.mem_replicate.1 hv).2]; rfl
      obtain ⟨k, hk⟩ : ∃ k, min m (n - m) = k := ⟨_, rfl⟩
      have hk1 : m + k ≤ n ∧ 0 < k := by omega
      rw [hk] at hsrc hl1 hfit hone
      have HW := Lib.hid (show IntKind.i64.wrap ((m : Int) + (k : Int)) = ((m + k : Nat) : Int) by rw [IntWalk.i64_in _ (by omega)]; omega)
      go_wp2_with fail
      go_region_held3 (fun _ => True) (first | go_keep | trivial) ((refine step_copy_splice (o := ⟨some 45, _, _, _, _, _⟩) rfl (.tmp 41) (.tmp 44) _ _ rfl 3 Try.underlying22 sz_int _ _ _ _ _ _ rfl rfl w.heap.size m (part x m n) 3 hgm (List.replicate k (.int .i64 x)) hl1 (fun hp => ⟨rfl, _, rfl, hsrc⟩) hfit hone w.heap.size w hbr.drew (Nat.le_refl _) ?_; intro w2 HG2 hb2))
      all_goals
        have HG4 : Hid (w2.heap[w.heap.size]? = some (.cells (part x (m + k) n).toArray 3 (0, 0))) := by unfold Hid; rw [HG2.out, splice_part x m k n hk1.1]
        clear hgm HG2 hsrc hl1 hfit hone
        go_wp2_with fail
        go_roundw
        case rel => exact ⟨m + k, by omega, by omega, by rw [HW.out], HG4, hb2⟩
        case measure => rw [HW.out]; simp only [intOf, Int.toNat_natCast]; omega
    · have hmn : m = n := by omega
      have HF : Hid (wr.heap[w.heap.size]? = some (.cells (List.replicate n (.int .i64 x)).toArray 3 (0, 0))) := by
        unfold Hid; rw [HG.out, hmn]; simp [part]
      go_wp2_with fail
      go_ret
      exact ⟨rfl, HF.out, hbr⟩
end Go.Proofs.Ytbnoejdhachhhab
