/-
  slices.Backward at [][]int: the iterator's contract, over a table that the loop's body writes.
-/
import Derived.Test.YtbnoejdhachhhabRep
import Derived.RangeFuncNested
import Derived.RangeFuncBound
import Derived.RangeFuncCalls
import Derived.RangeFuncLeaves
import Derived.Shelf.Abstract
import Derived.Shelf.RegionOpen
import Derived.OwnWalkIn
import Derived.TacticsInMore
import Derived.LoopNIn
import Derived.LoopIn
namespace Go.Proofs.Ytbnoejdhachhhab
open Go.RowKit Go.Shelf
set_option linter.unusedVariables false
attribute [local go_sem] Oper.semAt_some

def isSl (v : Value) : Prop := ∃ A n c, v = .slice A n c
/-- block T is a table of len slices -/
def TableAt (T len : Nat) (W : World) : Prop := ∃ cs : List Value, W.heap[T]? = some (.cells cs.toArray 22 (0, 0)) ∧ cs.length = len ∧ ∀ v ∈ cs, isSl v
/-- what a round keeps: blocks below n₀ but T; T stays a table -/
def KpT (n₀ T len : Nat) (W W' : World) : Prop := (∀ k, k < n₀ → k ≠ T → W'.heap[k]? = W.heap[k]?) ∧ (TableAt T len W → TableAt T len W')
theorem kpT_t {n₀ T len : Nat} {A B C : World} (h : KpT n₀ T len A B) (k : KpT n₀ T len B C) : KpT n₀ T len A C := ⟨fun j hj hT => (k.1 j hj hT).trans (h.1 j hj hT), fun q => k.2 (h.2 q)⟩
theorem kpT_b {n₀ T len : Nat} {w : World} (hn : n₀ ≤ w.heap.size) (hT : T < n₀) (W : World) (l : Nat) (o o' : Obj) (hl : w.heap.size ≤ l) : KpT n₀ T len W (W.putObj l o') := by
  refine ⟨fun k hk _ => World.putObj_heap_other (by omega), fun ⟨cs, h1, h2, h3⟩ => ⟨cs, ?_, h2, h3⟩⟩
  rw [World.putObj_heap_other (by omega)]; exact h1

abbrev Rnd (len : Nat) := { x : Nat × Value // x.1 < len ∧ isSl x.2 }
def down (len k : Nat) : List Nat := (List.range k).map fun j => len - 1 - j
theorem down_succ (len k : Nat) : down len (k + 1) = down len k ++ [len - 1 - k] := by simp [down, List.range_succ]

set_option maxRecDepth 100000 in
set_option maxHeartbeats 2000000 in
theorem bwd1_in (F : Fence) (n : Nat) (h8 : F.fn 29) (hro : F.round = none) (hn : 1 ≤ n) (l Bs n₀ T len cap : Nat) (hlen : len ≤ 1000) (hT : T < n₀) (hBs : Bs < n₀) (hne : Bs ≠ T) (J Jx : List (Rnd len) → World → Prop)
    (hY : ∀ (pre : List (Rnd len)) (x : Rnd len) W, J pre W → pre.length < len → YieldAt F (n - 1) Try.prog l #[.int .i64 (x.1.1 : Int), x.1.2] W fun e W' =>
      (e = .returned (.bool true) ∧ J (pre ++ [x]) W' ∧ KpT n₀ T len W W') ∨ (e = .returned (.bool false) ∧ Jx (pre ++ [x]) W'))
    (W : World) (hB : W.heap[Bs]? = some (.cells #[.slice (some ⟨T, 0, none⟩) len cap] 37 (0, 0))) (hTb : TableAt T len W) (h0 : J [] W) :
    CallsIn F n Try.prog 29 #[.func (.yield l) #[] #[], .pointer (some ⟨Bs, 0, none⟩)] W fun e W' => (∃ v, e = .returned v) ∧
      ((∃ ys : List (Rnd len), ys.map (fun x => x.1.1) = down len len ∧ J ys W') ∨ (∃ pre, True ∧ Jx pre W')) := by
  refine callsIn_of_wp Try.func29 rfl h8 ?_ hro
  simp only [Try.ntmps29, List.size_toArray, List.length_cons, List.length_nil, Nat.reduceAdd, Nat.reduceSub, Array.replicate_succ, Array.replicate_zero, List.push_toArray, List.append_toArray, List.nil_append, List.cons_append]
  have hc0 : W.cell? ⟨Bs, 0, none⟩ = some (.slice (some ⟨T, 0, none⟩) len cap) := by rw [Lib.cell_of_heap hB]; rfl
  gi_wp2
  gi_loopw [3] (fun i wr => ∃ (k : Nat) (pre : List (Rnd len)), k ≤ len ∧ i = .int .i64 ((len : Int) - 1 - k) ∧ pre.length = k ∧ pre.map (fun x => x.1.1) = down len k ∧ J pre wr ∧ wr.heap[Bs]? = some (.cells #[.slice (some ⟨T, 0, none⟩) len cap] 37 (0, 0)) ∧ TableAt T len wr)
    (fun i _ => (intOf i + 1).toNat)
  case atStart => exact ⟨0, [], Nat.zero_le _, by simp, rfl, rfl, h0, hB, hTb⟩
  case round =>
    obtain ⟨k, pre, hk, rfl, hpl, hpm, hJ, hBw, hTw⟩ := hrel
    have HT := Lib.hid hTw
    have hcw : wr.cell? ⟨Bs, 0, none⟩ = some (.slice (some ⟨T, 0, none⟩) len cap) := by rw [Lib.cell_of_heap hBw]; rfl
    by_cases hlt : k < len
    · obtain ⟨m, hm⟩ : ∃ m : Nat, m = len - 1 - k := ⟨_, rfl⟩
      obtain ⟨cs, t1, t2, t3⟩ := hTw
      have hml : m < cs.length := by omega
      obtain ⟨v, hv⟩ : ∃ v, cs[m] = v := ⟨_, rfl⟩
      have hsl : isSl v := hv ▸ t3 _ (List.getElem_mem hml)
      have hcell : wr.cell? ⟨T, m, none⟩ = some v := by rw [Lib.cell_of_heap t1]; simp [hml, hv]
      obtain ⟨A, nn, c, rfl⟩ := hsl
      obtain ⟨x, hx1, hx2⟩ : ∃ x : Rnd len, x.1.1 = m ∧ x.1.2 = .slice A nn c := ⟨⟨(m, .slice A nn c), ⟨by show m < len; omega, A, nn, c, rfl⟩⟩, rfl, rfl⟩
      have hPM := Lib.hid (show List.map (fun x : Rnd len => x.1.1) (pre ++ [x]) = down len (k + 1) by rw [List.map_append, hpm, down_succ, ← hm, ← hx1]; rfl)
      have hPL := Lib.hid (show (pre ++ [x]).length = k + 1 by rw [List.length_append, hpl]; rfl)
      obtain ⟨fn, tmps, assign, body, hy, hR⟩ := hY pre x wr hJ (by omega)
      rw [hx1, hx2] at hy
      clear hx1 hx2
      have e1 : (len : Int) - 1 - k = (m : Int) := by omega
      rw [e1]
      have hb1 : (m : Int) < len := by omega
      have HM := Lib.hid hm
      clear hc0 hB hTb h0 hv t1 t2 t3 hpm hpl e1 hm hml
      gi_wp2
      refine hR.mono ?_
      rintro e W3 (⟨rfl, hJ3, hk3⟩ | ⟨rfl, hJx3⟩)
      · have hB3 : W3.heap[Bs]? = some (.cells #[.slice (some ⟨T, 0, none⟩) len cap] 37 (0, 0)) := (hk3.1 Bs hBs hne).trans hBw
        have hT3 := hk3.2 HT.out
        clear hR hy hcw hcell
        gi_wp2
        go_roundw
        case rel => exact ⟨k + 1, _, by omega, by rw [show (m : Int) - 1 = (len : Int) - 1 - ((k + 1 : Nat) : Int) by have := HM.out; omega], hPL.out, hPM.out, hJ3, hB3, hT3⟩
        case measure => simp only [intOf]; omega
      · gi_wp2
        refine bodyPost_ret (results_none rfl _ _ _) rfl ?_
        exact ⟨⟨_, rfl⟩, .inr ⟨_, trivial, hJx3⟩⟩
    · obtain rfl : k = len := by omega
      have i1 : (k : Int) - 1 - k = -1 := by omega
      rw [i1]
      gi_wp2
      go_end0
      exact ⟨⟨_, rfl⟩, .inl ⟨_, hpm, hJ⟩⟩

theorem bwd_in (F : Fence) (n : Nat) (h5 : F.fn 22) (hro : F.round = none) (a : Option Addr) (len cap : Nat) (w : World) :
    CallsIn F n Try.prog 22 #[.slice a len cap] w fun e w' => e = .returned (.func (.func 29) #[] #[.pointer (some ⟨w.heap.size, 0, none⟩)]) ∧ w' = w.alloc (.cells #[.slice a len cap] 37) := by
  refine callsIn_of_wp Try.func22 rfl h5 ?_ hro
  simp only [Try.ntmps22, List.size_toArray, List.length_cons, List.length_nil, Nat.reduceAdd, Nat.reduceSub, Array.replicate_succ, Array.replicate_zero, List.push_toArray, List.append_toArray, List.nil_append, List.cons_append]
  gi_wp2
  go_ret
  exact ⟨rfl, rfl⟩

theorem bwd_stops (F : Fence) (n : Nat) (h8 : F.fn 29) (hro : F.round = none) (hn : 1 ≤ n) (Bs n₀ T len cap : Nat) (hlen : len ≤ 1000) (hT : T < n₀) (hBs : Bs < n₀) (hne : Bs ≠ T) (w : World) (hn₀ : n₀ ≤ w.heap.size)
    (hB : w.heap[Bs]? = some (.cells #[.slice (some ⟨T, 0, none⟩) len cap] 37 (0, 0))) (hTb : TableAt T len w) :
    SeqStopsK F n Try.prog 29 #[.pointer (some ⟨Bs, 0, none⟩)] (fun x : Rnd len => #[Value.int .i64 (x.1.1 : Int), x.1.2]) (KpT n₀ T len) (fun ys => ys.map (fun x => x.1.1) = down len len) (fun _ => True) len w := fun l J Jx W hW _ _ hY h0 => by
  have hk : ∀ k, k < n₀ → W.heap[k]? = w.heap[k]? := fun k hk => hW.block k (by omega)
  exact bwd1_in F n h8 hro hn l Bs n₀ T len cap hlen hT hBs hne J Jx hY W ((hk Bs hBs).trans hB) (by obtain ⟨cs, h1, h2, h3⟩ := hTb; exact ⟨cs, (hk T hT).trans h1, h2, h3⟩) h0
end Go.Proofs.Ytbnoejdhachhhab
