import Derived.Test.YtpibenilagloaaaGreatDoorMxbq
import Derived.Test.YtpibenilagloaaaGreatDoorMxbp
import Derived.Test.YtpibenilagloaaaGreatDoorMxbb
import Derived.Laws.EntriesVeiled
/-
  resolve: visit, at functions, blocks, calls, statements and paths of one segment.
-/
namespace Go.Proofs.YtpibenilagloaaaGreatDoor
open Go.RowKit
set_option linter.unusedVariables false

set_option maxRecDepth 100000 in
set_option maxHeartbeats 12800000 in
theorem visitR_step (B R p mb mo mc : Nat) (bn : Value) (x : Mdl) (ss : List Sym) (xs : List Xpt) (w0 : World) (hB : w0.heap.size = B) (hE : EnvV w0 p mb mo mc x ss xs) (n : Nat) (ih : VisROk B R p bn x ss xs w0 n) : VisROk B R p bn x ss xs w0 (n + 1) := by
  intro t htn hok s w us hb0 hr hus hl1 hl2
  obtain ⟨A, c, rfl, hk⟩ := hus.kids
  obtain ⟨hd, ch⟩ := t
  have hBw : B ≤ w.heap.size := by have := hb0.size; omega
  have hcase := okR_cases x.nm hd ch hok
  unfold Node.sz at htn hl1 hl2
  simp only [Node.h, Node.ch] at hk ⊢
  obtain ⟨W, hW⟩ : ∃ W, (w.alloc (.cells #[.pointer (some ⟨R, 0, none⟩)] 150)).alloc (.cells (hd.vals (.slice A ch.length c)).toArray 57) = W := ⟨_, rfl⟩
  have hbW : Below w.heap.size w W := by rw [← hW]; exact ((Below.refl _ _).alloc (Nat.le_refl _) _).alloc (by simp) _
  have hx1 : W.heap[w.heap.size]? = some (.cells #[.pointer (some ⟨R, 0, none⟩)] 150 (0, 0)) := by
    rw [← hW]; exact (heap_alloc_old _ _ (by simp)).trans (heap_alloc_new w _)
  have hx2 : W.heap[w.heap.size + 1]? = some (.cells (hd.vals (.slice A ch.length c)).toArray 57 (0, 0)) := by
    rw [← hW]
    have := heap_alloc_new (w.alloc (.cells #[.pointer (some ⟨R, 0, none⟩)] 150)) (.cells (hd.vals (.slice A ch.length c)).toArray 57)
    rw [World.size_alloc] at this
    exact this
  have hbW2 := hbW.mono hBw
  have hb0W := hb0.trans hbW2
  have hrW := hr.below hbW
  have hkW : nodeD.At W (fun b => b < B) A ch := hk.keep (fun _ h => h) (fun b hb => hbW.block b (by omega))
  have hfW := Fr.below (R := R) hbW
  have hl1W := lt_of_heap hx1
  have hl2W := lt_of_heap hx2
  have HOK := Lib.hid hok
  -- the calls, at W
  have hpath : hd.k = 17 → Calls Tryz.prog 184 #[.pointer (some ⟨R, 0, none⟩), .agg (hd.vals (.slice A ch.length c)).toArray, .bool false] W fun r w' => (∃ q, r = .returned (.int .i64 q)) ∧ RsM w' B R p bn (visN (firstN ss xs) (.mk hd ch) s) ∧ Below B W w' ∧ Fr R W w' := by
    intro h17
    rcases hcase with ⟨_, g, rfl, q1, q2, q3, q4⟩ | ⟨h, _⟩ | ⟨h, _⟩ | ⟨h, _⟩
    · have e : visN (firstN ss xs) (.mk hd [.mk g []]) s = segN (firstN ss xs) g s := by unfold visN; rw [if_pos h17]
      rw [e]
      have z1 : szs [Node.mk g []] = 1 := by simp [szs, Node.sz]
      have := path_any B R p mb mo mc bn x ss xs w0 hB hE hd g q1 q2 q3 (fun e => q4 e.symm) s (by omega) (by omega) W hb0W hrW _ (NodeV.keep (fun _ h => h) (fun b hb => hbW.block b (by omega)) _ _ hus)
      exact this.mono fun r w' h => ⟨⟨_, h.1⟩, h.2⟩
    · omega
    · omega
    · omega
  have htp : hd.k = 10 → Calls Tryz.prog 187 #[.pointer (some ⟨R, 0, none⟩), .agg (hd.vals (.slice A ch.length c)).toArray] W fun r w' => r = .returned (.tuple #[]) ∧ RsM w' B R p bn (visN (firstN ss xs) (.mk hd ch) s) ∧ Below B W w' ∧ Fr R W w' := by
    intro h10
    rcases hcase with ⟨h, _⟩ | ⟨_, rfl⟩ | ⟨h, _⟩ | ⟨h, _⟩
    · omega
    · have e : visN (firstN ss xs) (.mk hd []) s = s := by unfold visN; rw [if_neg (by omega), visNs]
      rw [e]
      exact (typeParams_nil R hd A c W).mono fun r w' h => ⟨h.1, hrW.below h.2, h.2.mono (Nat.le_trans hBw hbW.size), Fr.below h.2⟩
    · omega
    · omega
  have hpr : hd.k = 12 → Calls Tryz.prog 188 #[.pointer (some ⟨R, 0, none⟩), .agg (hd.vals (.slice A ch.length c)).toArray] W fun r w' => r = .returned (.tuple #[]) ∧ RsM w' B R p bn (visN (firstN ss xs) (.mk hd ch) s) ∧ Below B W w' ∧ Fr R W w' := by
    intro h12
    rcases hcase with ⟨h, _⟩ | ⟨h, _⟩ | ⟨_, rfl⟩ | ⟨h, _⟩
    · omega
    · omega
    · have e : visN (firstN ss xs) (.mk hd []) s = s := by unfold visN; rw [if_neg (by omega), visNs]
      rw [e]
      exact (params_nil R hd A c W).mono fun r w' h => ⟨h.1, hrW.below h.2, h.2.mono (Nat.le_trans hBw hbW.size), Fr.below h.2⟩
    · omega
  have hva : hd.k ≠ 17 → hd.k ≠ 10 → hd.k ≠ 12 → Calls Tryz.prog 69 #[.pointer (some ⟨R, 0, none⟩), .slice A ch.length c] W (VisPost B R p bn (visN (firstN ss xs) (.mk hd ch) s) W) := by
    intro h17 h10 h12
    rcases hcase with ⟨h, _⟩ | ⟨h, _⟩ | ⟨h, _⟩ | ⟨_, ho⟩
    · exact absurd h h17
    · exact absurd h h10
    · exact absurd h h12
    · have e : visN (firstN ss xs) (.mk hd ch) s = visNs (firstN ss xs) ch s := by unfold visN; rw [if_neg h17]
      rw [e]
      exact visitAll_of B R p bn x ss xs w0 hB n ih ch (by omega) ho s W A c hb0W hrW hkW (by omega) (by omega)
  have hkk : hd.k = 17 ∨ hd.k = 10 ∨ hd.k = 12 ∨ (hd.k = 3 ∨ hd.k = 21) ∨ (hd.k = 0 ∨ hd.k = 26 ∨ hd.k = 30) := by
    rcases hcase with ⟨h, _⟩ | ⟨h, _⟩ | ⟨h, _⟩ | ⟨h, _⟩
    · exact .inl h
    · exact .inr (.inl h)
    · exact .inr (.inr (.inl h))
    · omega
  generalize visN (firstN ss xs) (.mk hd ch) s = s' at *
  obtain ⟨L, hL⟩ : ∃ L, ch.length = L := ⟨_, rfl⟩
  rw [hL] at hW hx2 hpath htp hpr hva ⊢
  obtain ⟨k, va, tx, st, en, nm⟩ := hd
  simp only [Hd.vals] at *
  have HBW := Lib.hid hbW2
  have HFW := Lib.hid hfW
  have HPA := Lib.hid hpath
  have HTP := Lib.hid htp
  have HPR := Lib.hid hpr
  have HVA := Lib.hid hva
  have y1 := cell_of hx1 0 _ rfl
  have d0 := cell_of hx2 0 _ rfl
  have d1 := cell_of hx2 1 _ rfl
  have d2 := cell_of hx2 2 _ rfl
  have d3 := cell_of hx2 3 _ rfl
  have d4 := cell_of hx2 4 _ rfl
  have d5 := cell_of hx2 5 _ rfl
  have d6 := cell_of hx2 6 _ rfl
  have HRW := Lib.hid hrW
  clear hx1 hx2 hpath htp hpr hva hbW2 hfW hb0W hkW hrW hbW hk hus hr hb0 hcase hok HOK ih hE hB hl1 hl2 htn hL
  show Calls _ _ #[_, .agg #[.int .i64 k, .int .i64 va, .string tx, .int .i64 st, .int .i64 en, .int .i64 nm, .slice A L c]] _ _
  have hfin : ∀ w1 : World, RsM w1 B R p bn s' → Below B W w1 → Fr R W w1 → RsM w1 B R p bn s' ∧ Below B w w1 ∧ Fr R w w1 := fun w1 a b f => ⟨a, HBW.out.trans b, HFW.out.trans f⟩
  have HFIN := Lib.hid hfin
  clear hfin
  rcases hkk with rfl | rfl | rfl | hk3 | hk0
  · have H1 := Lib.hid (HPA.out rfl)
    clear HPA HTP HPR HVA
    go_enter Tryz.func116, Tryz.ntmps116
    go_wp2_with fail
    refine H1.out.mono ?_
    rintro e w1 ⟨⟨q, rfl⟩, hr1, hb1, hf1⟩
    have H2 := Lib.hid (HFIN.out w1 hr1 hb1 hf1)
    clear hr1 hb1 hf1
    go_wp2_with fail
    go_end0
    exact ⟨rfl, H2.out⟩
  · have H1 := Lib.hid (HTP.out rfl)
    clear HPA HTP HPR HVA
    go_enter Tryz.func116, Tryz.ntmps116
    go_wp2_with fail
    refine H1.out.mono ?_
    rintro e w1 ⟨rfl, hr1, hb1, hf1⟩
    have H2 := Lib.hid (HFIN.out w1 hr1 hb1 hf1)
    clear hr1 hb1 hf1
    go_wp2_with fail
    go_end0
    exact ⟨rfl, H2.out⟩
  · have H1 := Lib.hid (HPR.out rfl)
    clear HPA HTP HPR HVA
    go_enter Tryz.func116, Tryz.ntmps116
    go_wp2_with fail
    refine H1.out.mono ?_
    rintro e w1 ⟨rfl, hr1, hb1, hf1⟩
    have H2 := Lib.hid (HFIN.out w1 hr1 hb1 hf1)
    clear hr1 hb1 hf1
    go_wp2_with fail
    go_end0
    exact ⟨rfl, H2.out⟩
  · rcases hk3 with rfl | rfl
    all_goals
      have hv := HVA.out (by decide) (by decide) (by decide)
      have H1 := Lib.hid (scoped_any B R p bn s s' w.heap.size (w.heap.size + 1) W HRW.out (visit2_any B R p bn s' w.heap.size (w.heap.size + 1) A L c W y1 d6 hl1W hl2W hv))
      clear HPA HTP HPR HVA hv
      go_enter Tryz.func116, Tryz.ntmps116
      go_wp2_with fail
      refine H1.out.mono ?_
      rintro e w1 ⟨rfl, hr1, hb1, hf1⟩
      have H2 := Lib.hid (HFIN.out w1 hr1 hb1 hf1)
      clear hr1 hb1 hf1
      go_wp2_with fail
      go_end0
      exact ⟨rfl, H2.out⟩
  · rcases hk0 with rfl | rfl | rfl
    all_goals
      have H1 := Lib.hid (HVA.out (by decide) (by decide) (by decide))
      clear HPA HTP HPR HVA
      go_enter Tryz.func116, Tryz.ntmps116
      go_wp2_with fail
      refine H1.out.mono ?_
      rintro e w1 ⟨rfl, hr1, hb1, hf1⟩
      have H2 := Lib.hid (HFIN.out w1 hr1 hb1 hf1)
      clear hr1 hb1 hf1
      go_wp2_with fail
      go_end0
      exact ⟨rfl, H2.out⟩
theorem visitR_any (B R p mb mo mc : Nat) (bn : Value) (x : Mdl) (ss : List Sym) (xs : List Xpt) (w0 : World) (hB : w0.heap.size = B) (hE : EnvV w0 p mb mo mc x ss xs) : ∀ n, VisROk B R p bn x ss xs w0 n
  | 0 => fun t h => by omega
  | n + 1 => visitR_step B R p mb mo mc bn x ss xs w0 hB hE n (visitR_any B R p mb mo mc bn x ss xs w0 hB hE n)
end Go.Proofs.YtpibenilagloaaaGreatDoor

/-
  resolve: reportDuplicates, where nothing is declared twice.
-/
namespace Go.Proofs.YtpibenilagloaaaGreatDoor
open Go.RowKit
set_option linter.unusedVariables false

set_option maxRecDepth 100000 in
set_option maxHeartbeats 1600000 in
theorem named_any (y : Sym) (w : World) :
    Calls Tryz.prog 117 #[.agg (syC y).toArray] w fun e w' => e = .returned (.bool (namedB y)) ∧ Below w.heap.size w w' := by
  have HB := Lib.hid (fun o => (Below.refl w.heap.size w).alloc (Nat.le_refl _) o)
  obtain ⟨k, m, st, pa, nm, pu⟩ := y
  have HN := Lib.hid (show namedB ⟨k, m, st, pa, nm, pu⟩ = (decide (0 ≤ pa) && (decide (k ≠ 14) && decide (k ≠ 6))) from rfl)
  generalize namedB ⟨k, m, st, pa, nm, pu⟩ = q at *
  show Calls _ _ #[.agg #[.int .i64 k, .int .i64 m, .int .i64 st, .int .i64 pa, .string nm, .bool pu]] _ _
  by_cases g1 : 0 ≤ pa
  · by_cases g2 : k = 14
    · obtain rfl : q = false := by rw [HN.out]; simp [g2]
      subst g2
      go_enter Tryz.func117, Tryz.ntmps117
      go_wp2_with fail
      go_ret
      exact ⟨rfl, HB.out _⟩
    · have g2b : (k == 14) = false := by simpa using g2
      have g2c : (k != 14) = true := by simpa using g2
      by_cases g3 : k = 6
      · obtain rfl : q = false := by rw [HN.out]; simp [g3]
        subst g3
        go_enter Tryz.func117, Tryz.ntmps117
        go_wp2_with fail
        go_ret
        exact ⟨rfl, HB.out _⟩
      · have g3b : (k == 6) = false := by simpa using g3
        have g3c : (k != 6) = true := by simpa using g3
        obtain rfl : q = true := by rw [HN.out]; simp [g1, g2, g3]
        go_enter Tryz.func117, Tryz.ntmps117
        go_wp2_with fail
        go_ret
        exact ⟨rfl, HB.out _⟩
  · have g1b : decide (0 ≤ pa) = false := decide_eq_false g1
    obtain rfl : q = false := by rw [HN.out, g1b]; rfl
    go_enter Tryz.func117, Tryz.ntmps117
    go_wp2_with fail
    go_ret
    exact ⟨rfl, HB.out _⟩
/-- x is declared beside y, under the same name -/
def dupB (y x : Sym) : Bool := namedB x && (decide (x.par = y.par) && decide (x.nm = y.nm))
set_option maxRecDepth 100000 in
set_option maxHeartbeats 3200000 in
theorem dup_pred (y : Sym) (b2 b4 : Nat) (w : World) (h2 : w.heap[b2]? = some (.cells #[.func (.func 117) #[] #[]] 211 (0, 0))) (h4 : w.heap[b4]? = some (.cells (syC y).toArray 89 (0, 0))) :
    PredBelow Tryz.prog 119 #[.pointer (some ⟨b2, 0, none⟩), .pointer (some ⟨b4, 0, none⟩)] (fun x : Sym => .agg (syC x).toArray) (dupB y) w := fun W x hb => by
  have hBW2 : b2 < W.heap.size := Nat.lt_of_lt_of_le (lt_of_heap h2) hb.size
  have hBW4 : b4 < W.heap.size := Nat.lt_of_lt_of_le (lt_of_heap h4) hb.size
  have H2 := (hb.block _ (lt_of_heap h2)).trans h2
  have H4 := (hb.block _ (lt_of_heap h4)).trans h4
  obtain ⟨k, m, st, pa, nm, pu⟩ := x
  obtain ⟨yk, ym, yst, ypa, ynm, ypu⟩ := y
  have HN := Lib.hid (show dupB ⟨yk, ym, yst, ypa, ynm, ypu⟩ ⟨k, m, st, pa, nm, pu⟩ = (namedB ⟨k, m, st, pa, nm, pu⟩ && (decide (pa = ypa) && decide (nm = ynm))) from rfl)
  have HNM := Lib.hid (fun w' => named_any ⟨k, m, st, pa, nm, pu⟩ w')
  generalize namedB ⟨k, m, st, pa, nm, pu⟩ = q at *
  generalize dupB ⟨yk, ym, yst, ypa, ynm, ypu⟩ ⟨k, m, st, pa, nm, pu⟩ = r at *
  simp only [syC] at HNM H4
  show Calls Tryz.prog 119 #[.agg #[.int .i64 k, .int .i64 m, .int .i64 st, .int .i64 pa, .string nm, .bool pu], .pointer (some ⟨b2, 0, none⟩), .pointer (some ⟨b4, 0, none⟩)] W _
  obtain ⟨W1, hW1⟩ : ∃ W1, W.alloc (.cells #[.int .i64 k, .int .i64 m, .int .i64 st, .int .i64 pa, .string nm, .bool pu] 89) = W1 := ⟨_, rfl⟩
  have hb1 : Below W.heap.size W W1 := by rw [← hW1]; exact (Below.refl _ _).alloc (Nat.le_refl _) _
  have hx1 : W1.heap[W.heap.size]? = some (.cells #[.int .i64 k, .int .i64 m, .int .i64 st, .int .i64 pa, .string nm, .bool pu] 89 (0, 0)) := by rw [← hW1]; exact heap_alloc_new W _
  have c2 : W1.cell? ⟨b2, 0, none⟩ = some (.func (.func 117) #[] #[]) := cell_of ((hb1.block _ hBW2).trans H2) 0 _ rfl
  have d0 := cell_of hx1 0 _ rfl
  have d1 := cell_of hx1 1 _ rfl
  have d2 := cell_of hx1 2 _ rfl
  have d3 := cell_of hx1 3 _ rfl
  have d4 := cell_of hx1 4 _ rfl
  have d5 := cell_of hx1 5 _ rfl
  have hl1 := lt_of_heap hx1
  have hl2 : b2 < W1.heap.size := by omega
  have HX1 := Lib.hid hx1
  have HBB := Lib.hid (hb.trans (hb1.mono hb.size))
  have HBS := Lib.hid hb.size
  have HY := Lib.hid (fun w' (hb' : Below W1.heap.size W1 w') => (hb'.block b4 (by omega)).trans ((hb1.block _ hBW4).trans H4))
  have hl4 : b4 < W1.heap.size := by omega
  clear H2 H4 hb hb1 hx1 h2 h4
  have hfin : ∀ w', Below W1.heap.size W1 w' → Below w.heap.size w w' := fun w' hb' => HBB.out.trans (hb'.mono HBB.out.size)
  have HFIN := Lib.hid hfin
  clear hfin
  cases q with
  | false =>
    obtain rfl : r = false := HN.out
    go_enter Tryz.func119, Tryz.ntmps119
    go_wp2_with fail
    refine (HNM.out _).mono ?_
    rintro e w3 ⟨rfl, hb3⟩
    have HB3 := Lib.hid (HFIN.out w3 hb3)
    clear hb3
    go_wp2_with fail
    go_ret
    exact ⟨rfl, HB3.out⟩
  | true =>
    by_cases g1 : pa = ypa
    · by_cases g2 : nm = ynm
      · obtain rfl : r = true := by rw [HN.out]; simp [g1, g2]
        subst g1 g2
        go_enter Tryz.func119, Tryz.ntmps119
        go_wp2_with fail
        refine (HNM.out _).mono ?_
        rintro e w3 ⟨rfl, hb3⟩
        have x3 := (hb3.block _ hl1).trans HX1.out
        have y3 := HY.out w3 hb3
        have e3 := cell_of x3 3 _ rfl
        have e4 := cell_of x3 4 _ rfl
        have f3 := cell_of y3 3 _ rfl
        have f4 := cell_of y3 4 _ rfl
        have HB3 := Lib.hid (HFIN.out w3 hb3)
        clear hb3 x3 y3
        go_wp2_with fail
        go_ret
        exact ⟨by simp, HB3.out⟩
      · have gs : ¬ nm.toList = ynm.toList := fun e => g2 (ba_inj e)
        obtain rfl : r = false := by rw [HN.out]; simp [g2]
        subst g1
        go_enter Tryz.func119, Tryz.ntmps119
        go_wp2_with fail
        refine (HNM.out _).mono ?_
        rintro e w3 ⟨rfl, hb3⟩
        have x3 := (hb3.block _ hl1).trans HX1.out
        have y3 := HY.out w3 hb3
        have e3 := cell_of x3 3 _ rfl
        have e4 := cell_of x3 4 _ rfl
        have f3 := cell_of y3 3 _ rfl
        have f4 := cell_of y3 4 _ rfl
        have HB3 := Lib.hid (HFIN.out w3 hb3)
        clear hb3 x3 y3
        go_wp2_with fail
        go_ret
        exact ⟨by simp [gs], HB3.out⟩
    · obtain rfl : r = false := by rw [HN.out]; simp [g1]
      have g1b : (pa == ypa) = false := by simpa using g1
      go_enter Tryz.func119, Tryz.ntmps119
      go_wp2_with fail
      refine (HNM.out _).mono ?_
      rintro e w3 ⟨rfl, hb3⟩
      have x3 := (hb3.block _ hl1).trans HX1.out
      have y3 := HY.out w3 hb3
      have e3 := cell_of x3 3 _ rfl
      have f3 := cell_of y3 3 _ rfl
      have HB3 := Lib.hid (HFIN.out w3 hb3)
      clear hb3 x3 y3
      go_wp2_with fail
      go_ret
      exact ⟨by simp, HB3.out⟩
set_option maxRecDepth 100000 in
set_option maxHeartbeats 6400000 in
theorem reportDups_none (R p : Nat) (ss : List Sym) (SA : Option Addr) (sc : Nat) (w : World) (c0 : w.cell? ⟨R, 0, none⟩ = some (.pointer (some ⟨p, 0, none⟩))) (c2 : w.cell? ⟨p, 2, none⟩ = some (.slice SA ss.length sc)) (hR : R < w.heap.size) (hp : p < w.heap.size) (hs : syD.At w (Lt w) SA ss) (hl : ss.length ≤ 1000000) (hsc : ss.length ≤ sc)
    (hnd : ∀ i y, ss[i]? = some y → namedB y = true → (ss.take i).any (dupB y) = false) :
    Calls Tryz.prog 70 #[.pointer (some ⟨R, 0, none⟩)] w fun e w' => e = .returned (.tuple #[]) ∧ Below w.heap.size w w' := by
  obtain ⟨n, hn⟩ : ∃ n, ss.length = n := ⟨_, rfl⟩
  have HN := Lib.hid hn
  have HND := Lib.hid hnd
  have HS := Lib.hid hs
  rw [hn] at c2 hl hsc
  obtain ⟨W, hW⟩ : ∃ W, w.alloc (.cells #[.func (.func 117) #[] #[]] 211) = W := ⟨_, rfl⟩
  have hbw : Below w.heap.size w W := by rw [← hW]; exact (Below.refl _ _).alloc (Nat.le_refl _) _
  have hx : W.heap[w.heap.size]? = some (.cells #[.func (.func 117) #[] #[]] 211 (0, 0)) := by rw [← hW]; exact heap_alloc_new w _
  have hc : ∀ w', Below W.heap.size W w' → w'.cell? ⟨R, 0, none⟩ = some (.pointer (some ⟨p, 0, none⟩)) ∧ w'.cell? ⟨p, 2, none⟩ = some (.slice SA n sc) ∧ w'.heap[w.heap.size]? = some (.cells #[.func (.func 117) #[] #[]] 211 (0, 0)) ∧ R < w'.heap.size ∧ p < w'.heap.size ∧ Below w.heap.size w w' := fun w' hb => by
    have hb' := hbw.trans (hb.mono hbw.size)
    exact ⟨(hb'.cell (p := ⟨R, 0, none⟩) hR).trans c0, (hb'.cell (p := ⟨p, 2, none⟩) hp).trans c2, (hb.block _ (lt_of_heap hx)).trans hx, Nat.lt_of_lt_of_le hR hb'.size, Nat.lt_of_lt_of_le hp hb'.size, hb'⟩
  have HC := Lib.hid hc
  obtain ⟨a1, a2, a3, a4, a5, _⟩ := hc W (Below.refl _ _)
  clear hn hs hnd c0 c2 hbw hx hc a3
  go_enter Tryz.func70, Tryz.ntmps70
  go_wp2_with fail
  clear hW a1 a2 a4 a5
  go_loopw [13] (fun i wr => ∃ j : Nat, i = .int .i64 (j : Int) ∧ j ≤ n ∧ Below W.heap.size W wr) (fun i _ => n - (intOf i).toNat)
  case atStart => exact ⟨0, rfl, Nat.zero_le _, Below.refl _ _⟩
  case round =>
    obtain ⟨j, rfl, hj, hb⟩ := hrel
    by_cases hlt : j < n
    · have hjI : (j : Int) < n := by omega
      have hjl : j < ss.length := by rw [HN.out]; exact hlt
      obtain ⟨tb, off, rfl, htb, hxc⟩ := flat_get HS.out j ss[j] (List.getElem?_eq_getElem hjl)
      have hnj := HND.out j ss[j] (List.getElem?_eq_getElem hjl)
      have eg : ∀ args w, (callFunc 119 args).run Tryz.prog w = .ok (.enter 119 args) w := enters_of Tryz.func119 (by kernel_rfl) rfl
      have hcon := fun (w' : World) (hb' : Below W.heap.size W w') (b4 : Nat) (y : Sym) (h4 : w'.heap[b4]? = some (.cells (syC y).toArray 89 (0, 0))) =>
        AnyQ.slices_ContainsFunc Tryz.conSy 6 Tryz.isAgg89 Tryz.sizeOf89 syC (fun _ => rfl) (dupB y) 119 #[.pointer (some ⟨w.heap.size, 0, none⟩), .pointer (some ⟨b4, 0, none⟩)] eg tb off j sc ss w' (dup_pred y w.heap.size b4 w' (HC.out w' hb').2.2.1 h4) (by omega) (by omega) (Nat.lt_of_lt_of_le htb (HC.out w' hb').2.2.2.2.2.size) (fun i hi k v hv => by
          obtain ⟨tb2, off2, q1, _, q3⟩ := flat_get HS.out i ss[i] (List.getElem?_eq_getElem hi)
          injection q1 with q1; injection q1 with q1 q1' _
          subst q1 q1'
          have e : ss[i]! = ss[i] := getElem!_pos ss i hi
          rw [e] at hv
          exact ((HC.out w' hb').2.2.2.2.2.cell (p := ⟨tb, _, none⟩) htb).trans (q3 k v hv))
      have HCON := Lib.hid hcon
      clear hcon eg
      generalize ss[j] = y at *
      obtain ⟨yk, ym, yst, ypa, ynm, ypu⟩ := y
      have hbs := hb.size
      have htl : tb < w.heap.size := htb
      have hbw := (HC.out wr hb).2.2.2.2.2
      have cc : ∀ i u, ([.int .i64 yk, .int .i64 ym, .int .i64 yst, .int .i64 ypa, .string ynm, .bool ypu] : List Value)[i]? = some u → wr.cell? ⟨tb, off + j * 6 + i, none⟩ = some u := fun i u hu => (hbw.cell (p := ⟨tb, _, none⟩) htl).trans (hxc i u hu)
      have d0 := cc 0 _ rfl
      have d1 := cc 1 _ rfl
      have d2 := cc 2 _ rfl
      have d3 := cc 3 _ rfl
      have d4 := cc 4 _ rfl
      have d5 := cc 5 _ rfl
      rw [Nat.add_zero] at d0
      have htl2 : tb < wr.heap.size := Nat.lt_of_lt_of_le htl hbw.size
      obtain ⟨W2, hW2⟩ : ∃ W2, wr.alloc (.cells #[.int .i64 yk, .int .i64 ym, .int .i64 yst, .int .i64 ypa, .string ynm, .bool ypu] 89) = W2 := ⟨_, rfl⟩
      have hb2 : Below wr.heap.size wr W2 := by rw [← hW2]; exact (Below.refl _ _).alloc (Nat.le_refl _) _
      have hx2 : W2.heap[wr.heap.size]? = some (.cells #[.int .i64 yk, .int .i64 ym, .int .i64 yst, .int .i64 ypa, .string ynm, .bool ypu] 89 (0, 0)) := by rw [← hW2]; exact heap_alloc_new wr _
      have hbW2 := hb.trans (hb2.mono hbs)
      obtain ⟨a1, a2, a3, a4, a5, _⟩ := HC.out W2 hbW2
      have f0 : W2.cell? ⟨w.heap.size, 0, none⟩ = some (.func (.func 117) #[] #[]) := cell_of a3 0 _ rfl
      have fl := lt_of_heap a3
      have e0 := cell_of hx2 0 _ rfl
      have e1 := cell_of hx2 1 _ rfl
      have e2 := cell_of hx2 2 _ rfl
      have e3 := cell_of hx2 3 _ rfl
      have e4 := cell_of hx2 4 _ rfl
      have e5 := cell_of hx2 5 _ rfl
      have hl2 := lt_of_heap hx2
      have HX2 := Lib.hid hx2
      have HBW2 := Lib.hid hbW2
      have HNM := Lib.hid (named_any ⟨yk, ym, yst, ypa, ynm, ypu⟩ W2)
      simp only [syC] at HNM
      obtain ⟨q, hq⟩ : ∃ q, namedB ⟨yk, ym, yst, ypa, ynm, ypu⟩ = q := ⟨_, rfl⟩
      rw [hq] at HNM hnj
      have HQ := Lib.hid hnj
      clear hnj hq cc hxc hb hb2 hx2 hbW2 hbw a3
      cases q with
      | false =>
        go_wp2_with fail
        refine HNM.out.mono ?_
        rintro e w3 ⟨rfl, hb3⟩
        have HB3 := Lib.hid (HBW2.out.trans (hb3.mono HBW2.out.size))
        clear hb3 hW2
        go_wp2_with fail
        go_roundw
        case rel => exact ⟨j + 1, by go_num, by omega, HB3.out⟩
        case measure => simp [intOf]; omega
      | true =>
        go_wp2_with fail
        refine HNM.out.mono ?_
        rintro e w3 ⟨rfl, hb3⟩
        have hbw3 := HBW2.out.trans (hb3.mono HBW2.out.size)
        have HB3 := Lib.hid hbw3
        obtain ⟨p1, p2, p3, p4, p5, _⟩ := HC.out w3 hbw3
        have hx3 := (hb3.block _ hl2).trans HX2.out
        have HC3 := Lib.hid (HCON.out w3 hbw3 wr.heap.size ⟨yk, ym, yst, ypa, ynm, ypu⟩ hx3)
        have HQ2 := Lib.hid (HQ.out (by trivial))
        have hjn : (j : Int) ≤ sc := by omega
        clear hb3 hW2 a1 a2 a4 a5 f0 e0 e1 e2 e3 e4 e5 hx3 p3 HCON HQ hbw3
        go_wp2_with fail
        refine HC3.out.mono ?_
        rintro e w4 ⟨rfl, hb4⟩
        rw [HQ2.out]
        have HB4 := Lib.hid (HB3.out.trans (hb4.mono HB3.out.size))
        clear hb4
        go_wp2_with fail
        go_roundw
        case rel => exact ⟨j + 1, by go_num, by omega, HB4.out⟩
        case measure => simp [intOf]; omega
    · have hjI : ¬ (j : Int) < n := by omega
      have HB := Lib.hid (HC.out wr hb).2.2.2.2.2
      clear hb
      go_wp2_with fail
      go_end0
      exact ⟨rfl, HB.out⟩
end Go.Proofs.YtpibenilagloaaaGreatDoor
