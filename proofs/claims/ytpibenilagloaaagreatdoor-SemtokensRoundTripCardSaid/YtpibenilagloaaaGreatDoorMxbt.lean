import Derived.Test.YtpibenilagloaaaGreatDoorMxbo
import Derived.Maps.OwnOps
import Derived.Maps.OwnIn
/-
  semtokens.identKinds, where no name of the module is resolved.
-/
namespace Go.Proofs.YtpibenilagloaaaGreatDoor
open Go.RowKit Go.Shelf Go.Maps
set_option linter.unusedVariables false
attribute [local go_sem] Oper.semAt_some

abbrev RndS (ss : List Sym) := { x : Nat × Sym // ss[x.1]? = some x.2 }
def dnL (len k : Nat) : List Nat := (List.range k).map fun j => len - 1 - j
theorem dnL_succ (len k : Nat) : dnL len (k + 1) = dnL len k ++ [len - 1 - k] := by simp [dnL, List.range_succ]
/-- what a round keeps: the blocks below n₀ but the map's -/
def KpM (n₀ mb : Nat) (A B : World) : Prop := ∀ k, k < n₀ → k ≠ mb → B.heap[k]? = A.heap[k]?
theorem kpM_t {n₀ mb : Nat} {A B C : World} (h : KpM n₀ mb A B) (k : KpM n₀ mb B C) : KpM n₀ mb A C := fun j hj hm => (k j hj hm).trans (h j hj hm)
set_option maxRecDepth 100000 in
set_option maxHeartbeats 3200000 in
theorem bwdS_in (F : Fence) (n : Nat) (h8 : F.fn 171) (hro : F.round = none) (hn : 1 ≤ n) (l Bs n₀ mb T off len cap : Nat) (ss : List Sym) (hlen : ss.length = len) (hl : len ≤ 1000000) (hT : T < n₀) (hTm : T ≠ mb) (hBs : Bs < n₀) (hBm : Bs ≠ mb) (J Jx : List (RndS ss) → World → Prop)
    (hY : ∀ (pre : List (RndS ss)) (x : RndS ss) W, J pre W → pre.length < len → YieldAt F (n - 1) Tryz.prog l #[.int .i64 (x.1.1 : Int), .agg (syC x.1.2).toArray] W fun e W' =>
      (e = .returned (.bool true) ∧ J (pre ++ [x]) W' ∧ KpM n₀ mb W W') ∨ (e = .returned (.bool false) ∧ Jx (pre ++ [x]) W'))
    (W : World) (hB : W.heap[Bs]? = some (.cells #[.slice (some ⟨T, off, none⟩) len cap] 82 (0, 0))) (hTl : T < W.heap.size) (hc : ∀ i y, ss[i]? = some y → ∀ k u, (syC y)[k]? = some u → W.cell? ⟨T, off + i * 6 + k, none⟩ = some u) (h0 : J [] W) :
    CallsIn F n Tryz.prog 171 #[.func (.yield l) #[] #[], .pointer (some ⟨Bs, 0, none⟩)] W fun e W' => (∃ v, e = .returned v) ∧
      ((∃ ys : List (RndS ss), ys.map (fun x => x.1.1) = dnL len len ∧ J ys W') ∨ (∃ pre, True ∧ Jx pre W')) := by
  refine callsIn_of_wp Tryz.func171 rfl h8 ?_ hro
  simp only [Tryz.ntmps171, List.size_toArray, List.length_cons, List.length_nil, Nat.reduceAdd, Nat.reduceSub, Array.replicate_succ, Array.replicate_zero, List.push_toArray, List.append_toArray, List.nil_append, List.cons_append]
  have hc0 : W.cell? ⟨Bs, 0, none⟩ = some (.slice (some ⟨T, off, none⟩) len cap) := by rw [Lib.cell_of_heap hB]; rfl
  have HC := Lib.hid hc
  have HLEN := Lib.hid hlen
  clear hc hlen
  gi_wp2
  gi_loopw [3] (fun i wr => ∃ (k : Nat) (pre : List (RndS ss)), k ≤ len ∧ i = .int .i64 ((len : Int) - 1 - k) ∧ pre.length = k ∧ pre.map (fun x => x.1.1) = dnL len k ∧ J pre wr ∧ wr.heap[Bs]? = some (.cells #[.slice (some ⟨T, off, none⟩) len cap] 82 (0, 0)) ∧ wr.heap[T]? = W.heap[T]? ∧ T < wr.heap.size)
    (fun i _ => (intOf i + 1).toNat)
  case atStart => exact ⟨0, [], Nat.zero_le _, by simp, rfl, rfl, h0, hB, rfl, hTl⟩
  case round =>
    obtain ⟨k, pre, hk, rfl, hpl, hpm, hJ, hBw, hTw, hTl'⟩ := hrel
    have HT := Lib.hid hTw
    have hcw : wr.cell? ⟨Bs, 0, none⟩ = some (.slice (some ⟨T, off, none⟩) len cap) := by rw [Lib.cell_of_heap hBw]; rfl
    by_cases hlt : k < len
    · obtain ⟨m, hm⟩ : ∃ m : Nat, m = len - 1 - k := ⟨_, rfl⟩
      have hml : m < ss.length := by rw [HLEN.out]; omega
      obtain ⟨y, hy0⟩ : ∃ y, ss[m]? = some y := ⟨_, List.getElem?_eq_getElem hml⟩
      have cc : ∀ i u, (syC y)[i]? = some u → wr.cell? ⟨T, off + m * 6 + i, none⟩ = some u := fun i u hu => (World.cell?_of_block (w := W) (w' := wr) (a := ⟨T, _, none⟩) hTw).trans (HC.out m y hy0 i u hu)
      obtain ⟨x, hx1, hx2⟩ : ∃ x : RndS ss, x.1.1 = m ∧ x.1.2 = y := ⟨⟨(m, y), hy0⟩, rfl, rfl⟩
      have hPM := Lib.hid (show List.map (fun x : RndS ss => x.1.1) (pre ++ [x]) = dnL len (k + 1) by rw [List.map_append, hpm, dnL_succ, ← hm, ← hx1]; rfl)
      have hPL := Lib.hid (show (pre ++ [x]).length = k + 1 by rw [List.length_append, hpl]; rfl)
      obtain ⟨fn, tmps, assign, body, hy, hR⟩ := hY pre x wr hJ (by omega)
      rw [hx1, hx2] at hy
      clear hx1 hx2 hy0
      obtain ⟨y0, y1, y2, y3, y4, y5⟩ := y
      have d0 := cc 0 _ rfl
      have d1 := cc 1 _ rfl
      have d2 := cc 2 _ rfl
      have d3 := cc 3 _ rfl
      have d4 := cc 4 _ rfl
      have d5 := cc 5 _ rfl
      rw [Nat.add_zero] at d0
      simp only [syC] at hy
      have e1 : (len : Int) - 1 - k = (m : Int) := by omega
      rw [e1]
      have hb1 : (m : Int) < len := by omega
      have HM := Lib.hid hm
      clear hc0 hB h0 hpm hpl e1 hm hml cc hTw hTl
      gi_wp2
      refine hR.mono ?_
      rintro e W3 (⟨rfl, hJ3, hk3⟩ | ⟨rfl, hJx3⟩)
      · have hB3 : W3.heap[Bs]? = some (.cells #[.slice (some ⟨T, off, none⟩) len cap] 82 (0, 0)) := (hk3 Bs hBs hBm).trans hBw
        have hT3 := (hk3 T hT hTm).trans HT.out
        have hTl3 : T < W3.heap.size := by
          have := (hk3 T hT hTm)
          rcases Nat.lt_or_ge T W3.heap.size with h' | h'
          · exact h'
          · rw [Array.getElem?_eq_none h', Array.getElem?_eq_getElem hTl'] at this; cases this
        have HT3 := Lib.hid hT3
        clear hR hy hcw d0 d1 d2 d3 d4 d5 hT3
        gi_wp2
        go_roundw
        case rel => exact ⟨k + 1, _, by omega, by rw [show (m : Int) - 1 = (len : Int) - 1 - ((k + 1 : Nat) : Int) by have := HM.out; omega], hPL.out, hPM.out, hJ3, hB3, HT3.out, hTl3⟩
        case measure => simp only [intOf]; omega
      · gi_wp2
        refine bodyPost_ret (results_none rfl _ _ _) rfl ?_
        exact ⟨⟨_, rfl⟩, .inr ⟨_, trivial, hJx3⟩⟩
    · obtain rfl : k = len := by omega
      have i1 : (k : Int) - 1 - k = -1 := by omega
      rw [i1]
      gi_wp2
      go_end0
      exact ⟨⟨_, rfl⟩, .inl ⟨_, hpm, hJ⟩⟩
theorem bwdSf_any (a : Option Addr) (len cap : Nat) (w : World) :
    Calls Tryz.prog 103 #[.slice a len cap] w fun e w' => e = .returned (.func (.func 171) #[] #[.pointer (some ⟨w.heap.size, 0, none⟩)]) ∧ w' = w.alloc (.cells #[.slice a len cap] 82) := by
  go_enter Tryz.func103, Tryz.ntmps103
  go_wp2_with fail
  go_ret
  exact ⟨rfl, rfl⟩
theorem bwdS_stops (F : Fence) (n : Nat) (h8 : F.fn 171) (hro : F.round = none) (hn : 1 ≤ n) (Bs n₀ mb T off len cap : Nat) (ss : List Sym) (hlen : ss.length = len) (hl : len ≤ 1000000) (hT : T < n₀) (hTm : T ≠ mb) (hBs : Bs < n₀) (hBm : Bs ≠ mb) (w : World) (hn₀ : n₀ ≤ w.heap.size)
    (hB : w.heap[Bs]? = some (.cells #[.slice (some ⟨T, off, none⟩) len cap] 82 (0, 0))) (hc : ∀ i y, ss[i]? = some y → ∀ k u, (syC y)[k]? = some u → w.cell? ⟨T, off + i * 6 + k, none⟩ = some u) :
    SeqStopsK F n Tryz.prog 171 #[.pointer (some ⟨Bs, 0, none⟩)] (fun x : RndS ss => #[Value.int .i64 (x.1.1 : Int), .agg (syC x.1.2).toArray]) (KpM n₀ mb) (fun ys => ys.map (fun x => x.1.1) = dnL len len) (fun _ => True) len w := fun l J Jx W hW _ _ hY h0 =>
  bwdS_in F n h8 hro hn l Bs n₀ mb T off len cap ss hlen hl hT hTm hBs hBm J Jx hY W ((hW.block Bs (by omega)).trans hB) (by have := hW.size; omega) (fun i y hy k u hu => (hW.cell (p := ⟨T, _, none⟩) (show T < w.heap.size by omega)).trans (hc i y hy k u hu)) h0
theorem lawI : Keyed Tryz.prog 3 := int_keyed Tryz.underlying3
theorem zeroI (w : World) : (zeroValue 3).run Tryz.prog w = .ok (.int .i64 0) w := by kernel_rfl
/-- an unresolved name -/
def rfPut (D : DataW Unit) (r : Rfn) : DataW Unit := D.put (.int .i64 r.st) (.lit (.int .i64 26))
/-- a declaration -/
def syPut (D : DataW Unit) (y : Sym) : DataW Unit := if y.mod = 0 ∧ 0 ≤ y.st ∧ y.kind ≠ 6 then D.put (.int .i64 y.st) (.lit (.int .i64 y.kind)) else D
def rfD0 (rf : List Rfn) : DataW Unit := rf.foldl rfPut (.map [])
def idkD (rf : List Rfn) (ss : List Sym) : DataW Unit := (dnL ss.length ss.length).foldl (fun D i => syPut D (ss.getD i default)) (rfD0 rf)
/-- the map when the rounds pre over the symbols are over -/
def dAt (rf : List Rfn) (ss : List Sym) (pre : List (RndS ss)) : DataW Unit := (pre.map (fun x => x.1.1)).foldl (fun D i => syPut D (ss.getD i default)) (rfD0 rf)
theorem dAt_snoc (rf : List Rfn) (ss : List Sym) (pre : List (RndS ss)) (x : RndS ss) : dAt rf ss (pre ++ [x]) = syPut (dAt rf ss pre) x.1.2 := by
  unfold dAt
  rw [List.map_append, List.foldl_append]
  have e : ss.getD x.1.1 default = x.1.2 := by rw [List.getD_eq_getElem?_getD, x.2]; rfl
  show syPut _ (ss.getD x.1.1 default) = _
  rw [e]
/-- the three boxes that identKinds reads -/
def IdkInv (N : Nat) (res : Array Value) (W : World) : Prop :=
  W.heap[N]? = some (.cells res 85 (0, 0)) ∧ W.heap[N + 1]? = some (.cells #[.int .i64 0] 3 (0, 0)) ∧ W.heap[N + 1 + 1 + 1]? = some (.cells #[.map (some (N + 1 + 1))] 139 (0, 0)) ∧ N + 4 ≤ W.heap.size
theorem IdkInv.keep {N : Nat} {res : Array Value} {W W' : World} (h : IdkInv N res W) (hs : W.heap.size ≤ W'.heap.size) (hk : ∀ b, b < N + 4 → b ≠ N + 1 + 1 → W'.heap[b]? = W.heap[b]?) : IdkInv N res W' := by
  obtain ⟨h1, h2, h3, h4⟩ := h
  exact ⟨(hk _ (by omega) (by omega)).trans h1, (hk _ (by omega) (by omega)).trans h2, (hk _ (by omega) (by omega)).trans h3, by omega⟩
set_option maxRecDepth 100000 in
set_option maxHeartbeats 12800000 in
theorem identKinds_any (T off RB ro sc rc dc : Nat) (nd : Nat) (DA : Option Addr) (ss : List Sym) (rf : List Rfn) (w : World) (hs : syD.At w (Lt w) (some ⟨T, off, none⟩) ss) (hr : rfD.At w (Lt w) (some ⟨RB, ro, none⟩) rf) (hTl : T < w.heap.size) (hsl : ss.length ≤ 1000) (hrl : rf.length ≤ 1000)
    (hss : ∀ y ∈ ss, y.st ≤ 1000000 ∧ 0 ≤ y.kind ∧ y.kind ≤ 1000) (hrf : ∀ r ∈ rf, r.mod = 0 ∧ r.sym < 0 ∧ 0 ≤ r.st ∧ r.st ≤ 1000000) :
    Calls Tryz.prog 60 #[.agg #[.slice (some ⟨T, off, none⟩) ss.length sc, .slice (some ⟨RB, ro, none⟩) rf.length rc, .slice DA nd dc], .int .i64 0] w fun e w' => e = .returned (.map (some (w.heap.size + 1 + 1))) ∧ w'.ownsMap Tryz.prog 3 (plainElem Tryz.prog 3) (w.heap.size + 1 + 1) (rf.length + ss.length) (idkD rf ss) ∧ Below w.heap.size w w' := by
  obtain ⟨ns, hns⟩ : ∃ ns, ss.length = ns := ⟨_, rfl⟩
  obtain ⟨nr, hnr⟩ : ∃ nr, rf.length = nr := ⟨_, rfl⟩
  have HS := Lib.hid hs
  have HR := Lib.hid hr
  have HSS := Lib.hid hss
  have HRF := Lib.hid hrf
  have HNS := Lib.hid hns
  have HNR := Lib.hid hnr
  rw [hns] at hsl
  rw [hnr] at hrl
  rw [hns, hnr]
  clear hs hr hss hrf hns hnr
  have hmm := @run_makeMap Tryz.prog
  refine (callsIn_wide (n := 5)).1 ?_
  refine callsIn_of_wp_marks Tryz.func60 rfl trivial ?_ rfl
  refine wpIn_wide.2 ?_
  simp only [Tryz.ntmps60, List.size_toArray, List.length_cons, List.length_nil, Nat.reduceAdd, Nat.reduceSub, Array.replicate_succ, Array.replicate_zero, List.push_toArray, List.append_toArray, List.nil_append, List.cons_append]
  obtain ⟨W0, hW0⟩ : ∃ W0, (((w.alloc (.cells #[.slice (some ⟨T, off, none⟩) ns sc, .slice (some ⟨RB, ro, none⟩) nr rc, .slice DA nd dc] 85)).alloc (.cells #[.int .i64 0] 3)).alloc (.map #[] 0)).alloc (.cells #[.map (some (w.heap.size + 1 + 1))] 139) = W0 := ⟨_, rfl⟩
  have hb0 : Below w.heap.size w W0 := by rw [← hW0]; exact ((((Below.refl _ w).alloc (Nat.le_refl _) _).alloc (by simp) _).alloc (by simp; omega) _).alloc (by simp; omega) _
  have hi0 : IdkInv w.heap.size #[.slice (some ⟨T, off, none⟩) ns sc, .slice (some ⟨RB, ro, none⟩) nr rc, .slice DA nd dc] W0 := by
    rw [← hW0]
    have h2 := heap_alloc_new (w.alloc (.cells #[.slice (some ⟨T, off, none⟩) ns sc, .slice (some ⟨RB, ro, none⟩) nr rc, .slice DA nd dc] 85)) (.cells #[.int .i64 0] 3)
    rw [World.size_alloc] at h2
    have h4 := heap_alloc_new (((w.alloc (.cells #[.slice (some ⟨T, off, none⟩) ns sc, .slice (some ⟨RB, ro, none⟩) nr rc, .slice DA nd dc] 85)).alloc (.cells #[.int .i64 0] 3)).alloc (.map #[] 0)) (.cells #[.map (some (w.heap.size + 1 + 1))] 139)
    rw [World.size_alloc, World.size_alloc, World.size_alloc] at h4
    exact ⟨(heap_alloc_old _ _ (by simp; omega)).trans ((heap_alloc_old _ _ (by simp; omega)).trans ((heap_alloc_old _ _ (by simp)).trans (heap_alloc_new w _))),
      (heap_alloc_old _ _ (by simp)).trans ((heap_alloc_old _ _ (by simp)).trans h2), h4, by simp⟩
  have ho0 : W0.ownsMap Tryz.prog 3 (plainElem (H := Unit) Tryz.prog 3) (w.heap.size + 1 + 1) 0 (.map []) := by
    rw [← hW0]
    have := World.ownsMap_made (H := Unit) ((w.alloc (.cells #[.slice (some ⟨T, off, none⟩) ns sc, .slice (some ⟨RB, ro, none⟩) nr rc, .slice DA nd dc] 85)).alloc (.cells #[.int .i64 0] 3)) Tryz.prog 3 (plainElem Tryz.prog 3)
    rw [World.size_alloc, World.size_alloc] at this
    exact this.alloc _
  have HI0 := Lib.hid hi0
  have HO0 := Lib.hid ho0
  have HB0 := Lib.hid hb0
  have y1 := cell_of hi0.1 1 _ rfl
  have yl := lt_of_heap hi0.1
  clear hi0 ho0 hb0
  go_wp2_with fail
  clear hW0 hmm y1 yl
  go_loopw [14] (fun i wr => ∃ j : Nat, i = .int .i64 (j : Int) ∧ j ≤ nr ∧ IdkInv w.heap.size #[.slice (some ⟨T, off, none⟩) ns sc, .slice (some ⟨RB, ro, none⟩) nr rc, .slice DA nd dc] wr ∧ wr.ownsMap Tryz.prog 3 (plainElem (H := Unit) Tryz.prog 3) (w.heap.size + 1 + 1) j (rfD0 (rf.take j)) ∧ Below w.heap.size w wr) (fun i _ => nr - (intOf i).toNat)
  case atStart => exact ⟨0, rfl, Nat.zero_le _, HI0.out, HO0.out, HB0.out⟩
  case round =>
    obtain ⟨j, rfl, hj, hinv, hown, hb⟩ := hrel
    have hbs := hb.size
    obtain ⟨i0, i1, i3, hz4⟩ := hinv
    have HINV := Lib.hid (show IdkInv w.heap.size #[.slice (some ⟨T, off, none⟩) ns sc, .slice (some ⟨RB, ro, none⟩) nr rc, .slice DA nd dc] wr from ⟨i0, i1, i3, hz4⟩)
    have l0 := lt_of_heap i0
    have l1 := lt_of_heap i1
    have l3 := lt_of_heap i3
    have c0 := cell_of i0 0 _ rfl
    have c1 := cell_of i1 0 _ rfl
    have c3 := cell_of i3 0 _ rfl
    by_cases hlt : j < nr
    · have hjI : (j : Int) < nr := by omega
      have hjl : j < rf.length := by rw [HNR.out]; exact hlt
      obtain ⟨tb, o2, hA, htb, hxc⟩ := flat_get HR.out j rf[j] (List.getElem?_eq_getElem hjl)
      injection hA with hA
      injection hA with hA1 hA2 _
      subst hA1 hA2
      have hrr := HRF.out rf[j] (List.getElem_mem hjl)
      have htk : rfD0 (rf.take (j + 1)) = rfPut (rfD0 (rf.take j)) rf[j] := by
        unfold rfD0; rw [List.take_succ_eq_append_getElem hjl, List.foldl_append]; rfl
      generalize rf[j] = r at *
      obtain ⟨r0, r1, r2⟩ := r
      simp only at hrr
      obtain ⟨rfl, hr2, hr1, hr1'⟩ := hrr
      have htl : RB < w.heap.size := htb
      have cc : ∀ i u, ([.int .i64 0, .int .i64 r1, .int .i64 r2] : List Value)[i]? = some u → wr.cell? ⟨RB, ro + j * 3 + i, none⟩ = some u := fun i u hu => (hb.cell (p := ⟨RB, _, none⟩) htl).trans (hxc i u hu)
      have d0 := cc 0 _ rfl
      have d1 := cc 1 _ rfl
      have d2 := cc 2 _ rfl
      rw [Nat.add_zero] at d0
      have htl2 : RB < wr.heap.size := Nat.lt_of_lt_of_le htl hbs
      obtain ⟨W2, hW2⟩ : ∃ W2, wr.alloc (.cells #[.int .i64 0, .int .i64 r1, .int .i64 r2] 117) = W2 := ⟨_, rfl⟩
      have hx2 : W2.heap[wr.heap.size]? = some (.cells #[.int .i64 0, .int .i64 r1, .int .i64 r2] 117 (0, 0)) := by rw [← hW2]; exact heap_alloc_new wr _
      have hb2 : Below wr.heap.size wr W2 := by rw [← hW2]; exact (Below.refl _ _).alloc (Nat.le_refl _) _
      have hown2 : W2.ownsMap Tryz.prog 3 (plainElem (H := Unit) Tryz.prog 3) (w.heap.size + 1 + 1) j (rfD0 (rf.take j)) := by rw [← hW2]; exact hown.alloc _
      have e0 := cell_of hx2 0 _ rfl
      have e1 := cell_of hx2 1 _ rfl
      have e2 := cell_of hx2 2 _ rfl
      have hl2 := lt_of_heap hx2
      have g1 : W2.cell? ⟨w.heap.size + 1, 0, none⟩ = some (.int .i64 0) := (hb2.cell (p := ⟨w.heap.size + 1, 0, none⟩) l1).trans c1
      have g3 : W2.cell? ⟨w.heap.size + 1 + 1 + 1, 0, none⟩ = some (.map (some (w.heap.size + 1 + 1))) := (hb2.cell (p := ⟨w.heap.size + 1 + 1 + 1, 0, none⟩) l3).trans c3
      have m1 : w.heap.size + 1 < W2.heap.size := by omega
      have m3 : w.heap.size + 1 + 1 + 1 < W2.heap.size := by omega
      have hkey : keyOf Tryz.prog 3 (.int .i64 r1) = some (.int .i64 r1) := keyOf_int_mk Tryz.underlying3 (WalkArith.wf_i64 (by omega))
      have h26 : (Lit.int .i64 26).wf = true := by decide
      have HB := Lib.hid (hb.trans (hb2.mono hbs))
      have HB2 := Lib.hid hb2
      have HX2 := Lib.hid hx2
      have HTK := Lib.hid htk
      clear cc hxc hb hb2 hx2 htk i0 i1 i3 c0 c1 c3 hown
      go_wp2_with (at_mapUpdate; refine wpList_mapUpdate_own _ rfl _ _ _ 139 rfl 3 3 lawI Tryz.underlying139 _ (w.heap.size + 1 + 1) j _ rfl hown2 (by unfold maxLen; omega) _ _ _ rfl rfl hkey _ [] (plainElem_int Tryz.underlying3 h26) ?_; intro w1 hown1 hgrow1; have hx1 := (hgrow1.block _ hl2 (by intro e; injection e with e; omega)).trans HX2.out; have f2 := cell_of hx1 2 _ rfl; have fl := lt_of_heap hx1)
      have hs1 := hgrow1.size
      have hI1 : IdkInv w.heap.size #[.slice (some ⟨T, off, none⟩) ns sc, .slice (some ⟨RB, ro, none⟩) nr rc, .slice DA nd dc] w1 := HINV.out.keep (by omega) (fun b hb hne => (hgrow1.block b (by omega) (by intro e; injection e with e; omega)).trans (HB2.out.block b (by omega)))
      have hbb : Below w.heap.size w w1 := HB.out.grown hgrow1 HB.out.size (fun q hq => by injection hq with hq; omega)
      have H1 := Lib.hid hI1
      have H2 := Lib.hid hbb
      have H3 := Lib.hid hown1
      clear hx1 hgrow1 hI1 hbb hown1 hown2 hW2 e0 e1 e2 g1 g3
      go_roundw
      case rel => exact ⟨j + 1, by go_num, by omega, H1.out, by rw [HTK.out]; exact H3.out, H2.out⟩
      case measure => simp [intOf]; omega
    · have hjI : ¬ (j : Int) < nr := by omega
      obtain rfl : j = nr := by omega
      have htk : rf.take j = rf := List.take_of_length_le (by rw [HNR.out]; omega)
      rw [htk] at hown
      have HOW := Lib.hid hown
      have HB := Lib.hid hb
      clear htk hown hb i0 i1 i3 c1 c3
      go_wp2_with (go_at_call 103; refine (bwdSf_any _ _ _ _).mono ?_; rintro e w' ⟨rfl, rfl⟩)
      obtain ⟨W5, hW5⟩ : ∃ W5, wr.alloc (.cells #[.slice (some ⟨T, off, none⟩) ns sc] 82) = W5 := ⟨_, rfl⟩
      have hx5 : W5.heap[wr.heap.size]? = some (.cells #[.slice (some ⟨T, off, none⟩) ns sc] 82 (0, 0)) := by rw [← hW5]; exact heap_alloc_new wr _
      have hb5 : Below wr.heap.size wr W5 := by rw [← hW5]; exact (Below.refl _ _).alloc (Nat.le_refl _) _
      have hz5 : W5.heap.size ≤ wr.heap.size + 1 ∧ wr.heap.size + 1 ≤ W5.heap.size := by rw [← hW5]; simp
      have ho5 : W5.ownsMap Tryz.prog 3 (plainElem (H := Unit) Tryz.prog 3) (w.heap.size + 1 + 1) j (rfD0 rf) := by rw [← hW5]; exact HOW.out.alloc _
      have hbw5 := HB.out.trans (hb5.mono HB.out.size)
      have hI5 := HINV.out.keep hb5.size (fun b hb _ => hb5.block b (by omega))
      rw [hW5]
      clear hW5
      refine (wpIn_wide (n := 5)).1 (wpIn_rangeFunc_ownH rfl (by omega) (gf := 171) (lb := #[.pointer (some ⟨wr.heap.size, 0, none⟩)]) rfl trivial (enters_of Tryz.func171 (by kernel_rfl) rfl) (α := RndS ss) (encs := fun x : RndS ss => #[Value.int .i64 (x.1.1 : Int), .agg (syC x.1.2).toArray]) (Kp := KpM W5.heap.size (w.heap.size + 1 + 1)) (S := fun ys => ys.map (fun x => x.1.1) = dnL ns ns) (Sp := fun _ => True) (N := ns) (w0 := W5)
        (bwdS_stops Fence.wide _ trivial rfl (by omega) wr.heap.size W5.heap.size (w.heap.size + 1 + 1) T off ns sc ss HNS.out (by omega) (by omega) (by omega) (by omega) (by omega) W5 (Nat.le_refl _) hx5 (fun i y hy k u hu => by
          obtain ⟨tb, o2, hA, htb, hxc⟩ := flat_get HS.out i y hy
          injection hA with hA
          injection hA with hA1 hA2 _
          subst hA1 hA2
          exact (hbw5.cell (p := ⟨T, _, none⟩) htb).trans (hxc k u hu)))
        kpM_t (fun W l o o' hl _ _ _ => fun k hk _ => World.putObj_heap_other (by omega)) (Below.refl _ _) (fun _ => rfl)
        (fun (pre : List (RndS ss)) W => IdkInv w.heap.size #[.slice (some ⟨T, off, none⟩) ns sc, .slice (some ⟨RB, ro, none⟩) j rc, .slice DA nd dc] W ∧ W.ownsMap Tryz.prog 3 (plainElem (H := Unit) Tryz.prog 3) (w.heap.size + 1 + 1) (j + pre.length) (dAt rf ss pre) ∧ Below w.heap.size w W ∧ W5.heap.size ≤ W.heap.size)
        (fun _ _ _ => False)
        (fun pre A B row hs hg hr => ⟨hs.1.keep hg.size (fun b hb _ => hg.block b (by have := hs.1.2.2.2; omega) (fun e => by have := (hr b e.symm).1; omega)), hs.2.1.kept hg (fun e => by have := (hr _ e.symm).1; omega), hs.2.2.1.grown hg hs.2.2.1.size (fun q hq => by have := (hr q hq).1; omega), Nat.le_trans hs.2.2.2 hg.size⟩)
        (fun _ _ _ _ _ hs _ _ => hs)
        ⟨hI5, ho5, hbw5, Nat.le_refl _⟩
        (fun x a' W => ∃ c, a' = { tmps := #[.agg #[.slice (some ⟨T, off, none⟩) ns sc, .slice (some ⟨RB, ro, none⟩) j rc, .slice DA nd dc], .int .i64 0, .pointer (some ⟨w.heap.size, 0, none⟩), .pointer (some ⟨w.heap.size + 1, 0, none⟩), .map none, .pointer (some ⟨w.heap.size + 1 + 1 + 1, 0, none⟩), undef, u7, undef, .pointer (some ⟨c, 0, none⟩), .map (some (w.heap.size + 1 + 1)), .pointer (some ⟨w.heap.size, 1, none⟩), .slice (some ⟨RB, ro, none⟩) j rc, .int .i64 (j : Int), .int .i64 (j : Int), .bool false, u16, u17, u18, u19, u20, u21, u22, u23, u24, u25, u26, u27, u28, u29, u30, u31, u32, u33, u34, u35, u36, u37, u38, .pointer (some ⟨w.heap.size, 0, none⟩), .slice (some ⟨T, off, none⟩) ns sc, .func (.func 171) #[] #[.pointer (some ⟨wr.heap.size, 0, none⟩)], .int .i64 (x.1.1 : Int), .agg (syC x.1.2).toArray, undef, undef, undef, undef, undef, undef, undef, undef, undef, undef, undef, undef, undef, undef, undef, undef, undef, undef, undef, undef], defers := [] } ∧ W.heap[c]? = some (.cells (syC x.1.2).toArray 89 (0, 0)) ∧ W5.heap.size ≤ c)
        (fun x a' _ A B row hs hg hr => by
          obtain ⟨c, e1, e2, e3⟩ := hs
          exact ⟨c, e1, (grownBy_keeps_cells hg (fun r e => (hr r e).2) e2 rfl).trans e2, e3⟩)
        ?assign ?body ?done (fun _ _ _ _ _ _ h _ => h.elim))
      case assign =>
        rintro l pre ⟨⟨i, y0, y1, y2, y3, y4, y5⟩, hy⟩ W K ⟨hI1, hI2, hI3, hI4⟩ hK
        have hbb : Below W.heap.size W (W.alloc (.cells #[.int .i64 y0, .int .i64 y1, .int .i64 y2, .int .i64 y3, .string y4, .bool y5] 89)) := (Below.refl _ _).alloc (Nat.le_refl _) _
        have hWl := hI3.size
        have h4 := hI1.2.2.2
        have HK := Lib.hid hK
        have HI1 := Lib.hid hI1
        have HI2 := Lib.hid hI2
        have HI3 := Lib.hid hI3
        clear hK hI1 hI2 hI3
        dsimp only [syC]
        gi_wp2
        exact HK.out _ _ ((KeepsOthers.alloc W _).from _) (fun k hk _ => hbb.block k (by omega)) ⟨HI1.out.keep hbb.size (fun b hb _ => hbb.block b (by omega)), HI2.out.alloc _, HI3.out.trans (hbb.mono HI3.out.size), Nat.le_trans hI4 hbb.size⟩ ⟨W.heap.size, rfl, heap_alloc_new W _, hI4⟩
      case body =>
        rintro l pre ⟨⟨i, y0, y1, y2, y3, y4, y5⟩, hy⟩ a' W hl hrec ⟨hI1, hI2, hI3, hI4⟩ ⟨c, rfl, hxc, hcl⟩ hlen
        have hys := HSS.out _ (List.mem_of_getElem? hy)
        have HD := Lib.hid (dAt_snoc rf ss pre ⟨(i, ⟨y0, y1, y2, y3, y4, y5⟩), hy⟩)
        dsimp only at hys hy HD
        dsimp only [syC] at hxc
        have h4 := hI1.2.2.2
        obtain ⟨i0, i1, i3, _⟩ := hI1
        have HI1 := Lib.hid (show IdkInv w.heap.size #[.slice (some ⟨T, off, none⟩) ns sc, .slice (some ⟨RB, ro, none⟩) j rc, .slice DA nd dc] W from ⟨i0, i1, i3, h4⟩)
        have c1 := cell_of i1 0 _ rfl
        have c3 := cell_of i3 0 _ rfl
        have l1 := lt_of_heap i1
        have l3 := lt_of_heap i3
        have e0 := cell_of hxc 0 _ rfl
        have e1 := cell_of hxc 1 _ rfl
        have e2 := cell_of hxc 2 _ rfl
        have hlc := lt_of_heap hxc
        have HI3 := Lib.hid hI3
        have HL := Lib.hid hlen
        have hmbl := hI2.lt
        have hlen1 : (pre ++ [(⟨(i, ⟨y0, y1, y2, y3, y4, y5⟩), hy⟩ : RndS ss)]).length = pre.length + 1 := by simp
        have HLEN1 := Lib.hid hlen1
        dsimp only [syC]
        have HI2 := Lib.hid hI2
        -- a round that changes nothing
        have hskip : (¬ (y1 = 0 ∧ 0 ≤ y2 ∧ y0 ≠ 6)) → ownPostG W5.heap.size (KpM W5.heap.size (w.heap.size + 1 + 1)) (fun (pre : List (RndS ss)) W => IdkInv w.heap.size #[.slice (some ⟨T, off, none⟩) ns sc, .slice (some ⟨RB, ro, none⟩) j rc, .slice DA nd dc] W ∧ W.ownsMap Tryz.prog 3 (plainElem (H := Unit) Tryz.prog 3) (w.heap.size + 1 + 1) (j + pre.length) (dAt rf ss pre) ∧ Below w.heap.size w W ∧ W5.heap.size ≤ W.heap.size) (fun _ _ _ => False) (pre ++ [⟨(i, ⟨y0, y1, y2, y3, y4, y5⟩), hy⟩]) W .normal { tmps := #[], defers := [] } W := fun hn =>
          ⟨KeepsFrom.refl _ _, fun _ _ _ => rfl, HI1.out, by rw [HLEN1.out, HD.out]; unfold syPut; rw [if_neg hn]; exact HI2.out.mono (by omega), HI3.out, hI4⟩
        have HSK := Lib.hid hskip
        clear hskip hI2 hI3 hxc i0 i1 i3 hlen1 hlen hrec
        obtain ⟨hy2, hk1, hk2⟩ := hys
        by_cases g1 : y1 = 0
        · subst g1
          by_cases g2 : 0 ≤ y2
          · by_cases g3 : y0 = 6
            · subst g3
              have HS1 := Lib.hid (HSK.out (by simp))
              clear HSK
              gi_wp2_with fail
              exact HS1.out
            · have g3b : (y0 == 6) = false := by simpa using g3
              have g3c : (y0 != 6) = true := by simpa using g3
              have hkey : keyOf Tryz.prog 3 (.int .i64 y2) = some (.int .i64 y2) := keyOf_int_mk Tryz.underlying3 (WalkArith.wf_i64 (by omega))
              have hwv : (Lit.int .i64 y0).wf = true := WalkArith.wf_i64 (by omega)
              have ho := HI2.out
              have hjm : j + pre.length < maxLen := by have := HL.out; unfold maxLen; omega
              clear HSK
              gi_wp2_with (gi_at_mapUpdate; refine wpListIn_mapUpdate_own _ rfl _ _ _ 139 rfl 3 3 lawI Tryz.underlying139 _ (w.heap.size + 1 + 1) (j + pre.length) _ rfl ho hjm _ _ _ rfl rfl hkey _ [] (plainElem_int Tryz.underlying3 hwv) ?_; intro w1 hown1 hgrow1)
              refine ⟨KeepsFrom.of_grownBy hgrow1 (fun q hq => by injection hq with hq; omega), fun k hk hne => hgrow1.block k (by omega) (by intro e; injection e with e; omega), HI1.out.keep hgrow1.size (fun b hb hne => hgrow1.block b (by omega) (by intro e; injection e with e; omega)), ?_, HI3.out.grown hgrow1 HI3.out.size (fun q hq => by injection hq with hq; omega), Nat.le_trans hI4 hgrow1.size⟩
              rw [HLEN1.out, HD.out]
              unfold syPut
              rw [if_pos ⟨rfl, g2, g3⟩]
              exact hown1
          · have g2b : decide (0 ≤ y2) = false := decide_eq_false g2
            have HS1 := Lib.hid (HSK.out (fun h => g2 h.2.1))
            clear HSK
            gi_wp2_with fail
            exact HS1.out
        · have g1b : (y1 == 0) = false := by simpa using g1
          have HS1 := Lib.hid (HSK.out (fun h => g1 h.1))
          clear HSK
          gi_wp2_with fail
          exact HS1.out
      case done =>
        rintro D ys W hD hys ⟨hI1, hI2, hI3, hI4⟩ hK
        obtain ⟨i0, i1, i3, h4⟩ := hI1
        have c3 := cell_of i3 0 _ rfl
        have l3 := lt_of_heap i3
        have hyl : ys.length = ns := by
          have := congrArg List.length hys
          simpa [dnL] using this
        have hdd : dAt rf ss ys = idkD rf ss := by
          unfold dAt idkD; rw [hys, HNS.out]
        rw [hyl, hdd] at hI2
        have HK := Lib.hid hK
        have HI2 := Lib.hid hI2
        have HI3 := Lib.hid hI3
        have HD := Lib.hid hD
        have HZ5 := Lib.hid hz5
        clear i0 i1 i3 hI2 hI3 hK hyl hdd hys
        go_wp2_with fail
        refine ⟨by simp, .inl ⟨_, _, rfl, run_takeDeferred HK.out, ?_⟩⟩
        refine ⟨_, results_tmp rfl _ _ _, rfl, HI2.out.kept (grownBy_putObj' W D _) (fun e => by injection e with e; have := HD.out; have := HZ5.out; omega), HI3.out.trans (belowK_b (w := w) (Nat.le_refl _) W D _ _ (by have := HD.out; have := HZ5.out; omega) HK.out rfl rfl)⟩
end Go.Proofs.YtpibenilagloaaaGreatDoor
