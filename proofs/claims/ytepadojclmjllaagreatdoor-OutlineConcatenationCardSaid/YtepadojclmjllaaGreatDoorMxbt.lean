import Derived.Test.YtepadojclmjllaaGreatDoorMxbs
import Derived.Test.YtepadojclmjllaaGreatDoorMxbi
import Derived.Test.YtepadojclmjllaaGreatDoorMxbo
import Derived.Test.YtepadojclmjllaaGreatDoorMxbq
import Derived.Deep.Onto
import Derived.Test.YtepadojclmjllaaGreatDoorMxbp
import Derived.Test.YtepadojclmjllaaGreatDoorMxbr
import Derived.Test.YtepadojclmjllaaGreatDoorMxag
import Derived.Test.YtepadojclmjllaaGreatDoorRows
import Derived.ProofKit
import Derived.OpenShut
import Derived.ShutString
import Derived.ChangeOld
import Derived.SizedLaws
import Derived.ChangeSame
import Derived.Lay
import Derived.LaidLaws
import Derived.MakeChecks
import Derived.Lib.LaidU8
import Derived.Lib.LaidTab
/-
  outline.FoldingRanges: the walk (where at most one range is found).
-/
namespace Go.Proofs.YtepadojclmjllaaGreatDoor
open Go.RowKit
open Go.Sort (grow grow_grow alloc_eq_grow PermIn SortedIn SWO)
set_option linter.unusedVariables false

def cmpRg (a b : Int × Int) : Int := orL [cmpI a.1 b.1, cmpI b.2 a.2]
theorem cmpRg_law : CmpLaw cmpRg := by
  have h1 : CmpLaw (fun a b : Int × Int => cmpI a.1 b.1) := cmpI_law.of Prod.fst
  have h2 : CmpLaw (fun a b : Int × Int => cmpI b.2 a.2) := (cmpI_law.of Prod.snd).flip
  have h := h1.lex h2
  have e : cmpRg = fun a b : Int × Int => if cmpI a.1 b.1 = 0 then cmpI b.2 a.2 else cmpI a.1 b.1 := by
    funext a b
    unfold cmpRg
    simp only [orL]
    by_cases k : cmpI b.2 a.2 = 0
    · simp [k]
    · simp [k]
  rw [e]
  exact h
set_option maxRecDepth 100000 in
set_option maxHeartbeats 3200000 in
theorem cmpRg_any (x y : Int × Int) (w : World) :
    Calls Tryz.prog 15 #[.agg (rgC x).toArray, .agg (rgC y).toArray] w fun e w' => e = .returned (.int .i64 (cmpRg x y)) ∧ ∃ q os', w' = grow (w.drewN q) os' := by
  obtain ⟨x1, x2⟩ := x
  obtain ⟨y1, y2⟩ := y
  have HC := Lib.hid (show cmpRg (x1, x2) (y1, y2) = orL [cmpI x1 y1, cmpI y2 x2] from rfl)
  show Calls _ _ #[.agg #[.int .i64 0, .int .i64 x1, .int .i64 x2], .agg #[.int .i64 0, .int .i64 y1, .int .i64 y2]] _ _
  go_enter Tryz.func15, Tryz.ntmps15
  go_wp2_with fail
  have hx := heap_one w (.cells #[.int .i64 0, .int .i64 x1, .int .i64 x2] 37) (.cells #[.int .i64 0, .int .i64 y1, .int .i64 y2] 37)
  have hy := heap_two w (.cells #[.int .i64 0, .int .i64 x1, .int .i64 x2] 37) (.cells #[.int .i64 0, .int .i64 y1, .int .i64 y2] 37)
  generalize hW : (w.alloc (.cells #[.int .i64 0, .int .i64 x1, .int .i64 x2] 37)).alloc (.cells #[.int .i64 0, .int .i64 y1, .int .i64 y2] 37) = W at *
  have HW := Lib.hid hW
  have xc1 := cell_of hx 1 _ rfl
  have xc2 := cell_of hx 2 _ rfl
  have yc1 := cell_of hy 1 _ rfl
  have yc2 := cell_of hy 2 _ rfl
  have hl1 := lt_of_heap hx
  have hl2 := lt_of_heap hy
  clear hx hy hW
  refine wp_region_still_tail 10 (by kernel_rfl) (by kernel_rfl) ?_
  simp only [List.take_succ_cons, List.take_zero, List.drop_succ_cons, List.drop_zero]
  repeat still_step
  still_call (cmp_any _ _ _)
  repeat still_step
  still_call (cmp_any _ _ _)
  repeat still_step
  refine wpStill_nil ?_
  generalize cmpI x1 y1 = c1 at *
  generalize cmpI y2 x2 = c2 at *
  go_wp2_with fail
  refine (or_any (some ⟨W.heap.size, 0, none⟩) 2 [c1, c2] _ (fun _ => ⟨W.heap.size, 0, rfl, by simp, fun k z hz => ?_⟩) (by unfold maxLen; simp)).mono ?_
  · rw [show ∀ (X : World) (a : Addr), X.drew.cell? a = X.cell? a from fun _ _ => rfl, Nat.zero_add, Lib.cell_of_heap (heap_alloc_new W _)]
    match k, hz with
    | 0, hz => cases hz; rfl
    | 1, hz => cases hz; rfl
    | k + 2, hz => simp at hz
  · rintro e w1 ⟨rfl, rfl⟩
    go_wp2_with fail
    go_ret
    refine ⟨by rw [HC.out]; rfl, 1, #[.cells #[.int .i64 0, .int .i64 x1, .int .i64 x2] 37] ++ #[.cells #[.int .i64 0, .int .i64 y1, .int .i64 y2] 37] ++ #[.cells #[.int .i64 c1, .int .i64 c2] 3], ?_⟩
    rw [← HW.out, alloc_eq_grow, alloc_eq_grow, alloc_eq_grow, grow_grow, grow_grow]
    rfl
theorem cmpRg_eq (x y : Int × Int) (h : cmpRg x y = 0) : x = y := by
  unfold cmpRg at h
  simp only [orL] at h
  have g1 : cmpI x.1 y.1 = 0 := by
    by_cases k : cmpI x.1 y.1 = 0
    · exact k
    · rw [if_neg k] at h; exact absurd h k
  rw [if_pos g1] at h
  have g2 : cmpI y.2 x.2 = 0 := by
    by_cases k : cmpI y.2 x.2 = 0
    · exact k
    · rw [if_neg k] at h; exact absurd h k
  rw [cmpI_eq] at g1 g2
  exact Prod.ext g1 g2.symm
def sortRgs (ds : List (Int × Int)) : List (Int × Int) := ds.mergeSort fun x y => !(ltOf cmpRg) y x
theorem sortRgs_len (ds : List (Int × Int)) : (sortRgs ds).length = ds.length := List.length_mergeSort _
theorem sortRgs_any (w : World) (g cap n : Nat) (ds : List (Int × Int)) (hl : ds.length = n) (hb : n ≤ 1000000) (row : w.ownsRow 0 37 3 (.slice (some ⟨g, 0, none⟩) n cap) n (ds.flatMap rgC)) :
    Calls Tryz.prog 14 #[.slice (some ⟨g, 0, none⟩) n cap, .func (.func 15) #[] #[]] w fun e w' => e = .returned (.tuple #[]) ∧ w'.ownsRow 0 37 3 (.slice (some ⟨g, 0, none⟩) n cap) n ((sortRgs ds).flatMap rgC) ∧ (w'.os = w.os ∧ w'.tape = w.tape ∧ w'.output = w.output) ∧ w.heap.size ≤ w'.heap.size ∧ ∀ b, b < w.heap.size → b ≠ g → w'.heap[b]? = w.heap[b]? := by
  have eg : ∀ args w, (callFunc 15 args).run Tryz.prog w = .ok (.enter 15 args) w := enters_of Tryz.func15 (by kernel_rfl) rfl
  have hcmp : CmpLays Tryz.prog 15 #[] rgC 3 cmpRg g 0 ds.toArray.size w := fun _ _ _ _ x y => cmpRg_any x y _
  have hglt := (row.lt g rfl).2
  have hcon := AnyQ.slices_SortFunc_total Tryz.sortRg 3 Tryz.isAgg37 Tryz.sizeOf37 rgC (fun _ => rfl) (fun x v hv => by simp [rgC] at hv; rcases hv with rfl | rfl | rfl <;> rfl) cmpRg cmpRg_law.swo 15 #[] g 0 cap ds.toArray w eg hcmp (holdsK_own (enc := rgC) (k := 3) (fun _ => rfl) hl row) hglt (by simp only [List.size_toArray, hl]; omega)
    (fun x y h1 h2 => by
      unfold ltOf at h1 h2
      rw [decide_eq_false_iff_not] at h1 h2
      have := cmpRg_law.anti x y
      exact cmpRg_eq x y (by omega))
  simp only [List.size_toArray, hl] at hcon
  refine Calls.mono (show Calls Tryz.prog 14 _ _ _ from hcon) ?_
  rintro e w' ⟨rfl, m, os, hw⟩
  exact ⟨rfl, own_sorted (enc := rgC) (k := 3) (fun _ => rfl) hl (by rw [sortRgs_len, hl]) row m os hw⟩
theorem compactR_short (w : World) (A : Option Addr) (n c : Nat) (hn : n < 2) :
    Calls Tryz.prog 18 #[.slice A n c] w fun e w' => e = .returned (.slice A n c) ∧ w' = w := by
  have h : (n : Int) < 2 := by omega
  go_enter Tryz.func18, Tryz.ntmps18
  go_wp2
  go_ret
  exact ⟨rfl, rfl⟩
/-- FoldingRanges at a source with one folding range -/
def FrPost (w : World) (r : Int × Int) (e : Ending) (w' : World) : Prop :=
  ∃ g c, e = .returned (.tuple #[.slice (some ⟨g, 0, none⟩) 1 c, .int .i64 0]) ∧ Below w.heap.size w w' ∧ w'.ownsRow 0 37 3 (.slice (some ⟨g, 0, none⟩) 1 c) 1 (rgC r)
set_option maxRecDepth 100000 in
set_option maxHeartbeats 3200000 in
theorem folding_one (src : ByteArray) (w : World) (hg : Gl w) (hs : src.size ≤ 2000) (n : Nat) (u : PS) (hu : run n fileC ⟨tokensL src.data.toList, [], false, 600000⟩ = some u) (r : Int × Int) (hr : foldL src (astN src u.ch) = [r]) :
    Calls Tryz.prog 10 #[.string src] w (FrPost w r) := by
  have hsz : src.data.toList.length = src.size := Array.length_toList
  obtain ⟨hok, hyl, hwt⟩ := parse_safe src.data.toList (by rw [hsz]; exact hs) n u hu
  have hnz := astN_sz src u.ch hwt
  have hne := astN_nest src u.ch hok (by rw [← hsz]; exact hyl)
  have HP := Lib.hid (astParse_any src w hg hs n u hu)
  clear hu hg hsz hok hyl hwt
  generalize u.ch = ch at *
  go_enter Tryz.func10, Tryz.ntmps10
  go_wp2_with fail
  refine HP.out.mono ?_
  rintro e w1 ⟨us, A, c, rfl, hv, hf, hb1⟩
  generalize astN src ch = x at *
  have hbl : Below w1.heap.size w1 (w1.alloc (.cells us.toArray 40)) := (Below.refl _ _).alloc (Nat.le_refl _) _
  have hv2 := NodeV.keep (F' := New w w1) (fun _ h => h) (fun b hb => hbl.block b hb.2) _ _ hv
  have HC := Lib.hid (fold_any (x.sz + 1) x (Nat.lt_succ_self _) (by omega) src 0 src.size hne (Int.le_refl _) (Int.le_refl _) hs _ (New w w1) us hv2 (fun c hc => Nat.lt_of_lt_of_le hc.2 hbl.size))
  rw [hr] at HC
  obtain ⟨A2, c2, rfl, _⟩ := hv.vals
  have HB1 := Lib.hid hb1
  have hs1 := hb1.size
  obtain ⟨hd, hhd⟩ : ∃ hd, x.h = hd := ⟨_, rfl⟩
  obtain ⟨m, hm⟩ : ∃ m, x.ch.length = m := ⟨_, rfl⟩
  simp only [Hd.vals] at HC ⊢
  rw [hhd, hm] at HC ⊢
  clear hv hf hbl hv2 hb1 hhd hm HP hr hne hnz
  go_wp2_with fail
  refine HC.out.mono ?_
  rintro e w3 ⟨A3, c3, rfl, _, hb3, vs, hown⟩
  have hs3 := hb3.size
  have HB3 := Lib.hid ((HB1.out.alloc hs1 _).trans (hb3.mono (by simp; omega)))
  have hvs : vs = rgC r := by have := flatD_row _ _ hown.2; simpa using this
  subst hvs
  have hrow : w3.ownsRow 0 37 3 (.slice A3 1 c3) 1 (rgC r) := World.ownsRow.mono hown.1 (Nat.zero_le _)
  obtain ⟨g, cap, cur, h1, h2, h3, h4, h5, h6, h7⟩ := hown.1.2.resolve_left (by rintro ⟨_, h⟩; simp at h)
  injection h1 with h1 _ h1c
  subst h1 h1c
  have hgw : w.heap.size ≤ g := by simp at h2; omega
  have HS := Lib.hid (sortRgs_any w3 g c3 1 [r] rfl (by decide) (by simpa using hrow))
  have HGW := Lib.hid hgw
  clear hb3 hrow hown h2 h3 h4 h5 h6 h7 hgw HC
  go_wp2_with fail
  refine HS.out.mono ?_
  rintro e w4 ⟨rfl, hrow4, ⟨ho, ht, hp⟩, hsz4, hbk⟩
  have hrow4' : w4.ownsRow 0 37 3 (.slice (some ⟨g, 0, none⟩) 1 c3) 1 (rgC r) := by
    have e : sortRgs [r] = [r] := by unfold sortRgs; simp
    rw [e] at hrow4
    simpa using hrow4
  have HB4 := Lib.hid (show Below w.heap.size w w4 from ⟨ho.trans HB3.out.os, ht.trans HB3.out.tape, hp.trans HB3.out.output, Nat.le_trans HB3.out.size hsz4, fun b hb => (hbk b (Nat.lt_of_lt_of_le hb HB3.out.size) (by have := HGW.out; omega)).trans (HB3.out.block b hb)⟩)
  have HR4 := Lib.hid hrow4'
  have HK := Lib.hid (compactR_short w4 (some ⟨g, 0, none⟩) 1 c3 (by decide))
  clear hrow4 hrow4' ho ht hp hbk HS
  go_wp2_with fail
  refine HK.out.mono ?_
  rintro e w5 ⟨rfl, rfl⟩
  go_wp2_with fail
  go_ret2
  exact ⟨g, c3, rfl, HB4.out, HR4.out⟩
end Go.Proofs.YtepadojclmjllaaGreatDoor

/-
  outlineExamples: what its sources parse to, and the walk.
-/
namespace Go.Proofs.YtepadojclmjllaaGreatDoor
open Go.RowKit
set_option linter.unusedVariables false
def exS1 : ByteArray := ⟨#[115, 116, 114, 117, 99, 116, 32, 83, 32, 123, 32, 97, 58, 32, 105, 110, 116, 32, 125, 10, 101, 110, 117, 109, 32, 69, 32, 123, 32, 65, 44, 32, 66, 40, 105, 110, 116, 41, 32, 125]⟩
def exS2 : ByteArray := ⟨#[102, 110, 32, 102, 40, 41, 32, 123, 10, 125, 10, 102, 110, 32, 103, 40, 41, 32, 123, 32, 125]⟩
def exI : List Item := [.mk 3 0 19 ⟨#[83]⟩ [.mk 11 11 17 ⟨#[97]⟩ []], .mk 4 20 40 ⟨#[69]⟩ [.mk 12 29 30 ⟨#[65]⟩ [], .mk 12 32 38 ⟨#[66]⟩ []]]
theorem map_some {α β : Type} {o : Option α} {f : α → β} {y : β} (h : o.map f = some y) : ∃ x, o = some x ∧ f x = y := by
  cases o with
  | none => cases h
  | some x => exact ⟨x, rfl, by injection h⟩
theorem ex1_run : (run 100 fileC ⟨tokensL exS1.data.toList, [], false, 600000⟩).map (fun u => itemsL (astN exS1 u.ch)) = some exI := by kernel_rfl
theorem ex2_run : (run 100 fileC ⟨tokensL exS2.data.toList, [], false, 600000⟩).map (fun u => foldL exS2 (astN exS2 u.ch)) = some [(7, 10)] := by kernel_rfl
theorem Gl.below {w w' : World} (h : Gl w) (hb : Below w.heap.size w w') : Gl w' := h.keep hb.size fun b hlt => hb.block b (Nat.lt_of_lt_of_le hlt h.big)
set_option maxRecDepth 100000 in
set_option maxHeartbeats 3200000 in
theorem outlineEx_any (w : World) (hg : Gl w) :
    Calls Tryz.prog 5 #[] w fun e w' => e = .returned (.bool true) ∧ Below w.heap.size w w' := by
  obtain ⟨u1, hu1, hi1⟩ := map_some ex1_run
  obtain ⟨u2, hu2, hi2⟩ := map_some ex2_run
  have h1 := symbols_any exS1 w hg (by decide) 100 u1 hu1
  unfold SymPost at h1
  rw [hi1, show exI.length = 2 from rfl] at h1
  have H1 := Lib.hid h1
  have H2 := Lib.hid (fun w' (hb : Below w.heap.size w w') => folding_one exS2 w' (hg.below hb) (by decide) 100 u2 hu2 (7, 10) hi2)
  clear h1 hi1 hi2 hu1 hu2 hg u1 u2
  go_enter Tryz.func5, Tryz.ntmps5
  go_wp2_with fail
  refine H1.out.mono ?_
  rintro e w1 ⟨A, c, rfl, hat, hb1⟩
  obtain ⟨b, off, us0, rfl, hB, hx0, hc0⟩ := hat.get 0 _ rfl
  obtain ⟨b', off', us1, heq, _, hx1, hc1⟩ := hat.get 1 _ rfl
  injection heq with heq
  injection heq with e1 e2 _
  subst e1 e2
  obtain ⟨A0, c0, rfl, hk0⟩ := hx0.kids
  obtain ⟨A1, c1, rfl, hk1⟩ := hx1.kids
  obtain ⟨g0, of0, vs0, rfl, hG0, hy0, hd0⟩ := hk0.get 0 _ rfl
  obtain ⟨g1, of1, vs1, rfl, hG1, hy1, hd1⟩ := hk1.get 1 _ rfl
  obtain ⟨_, _, rfl, _⟩ := hy0.vals
  obtain ⟨_, _, rfl, _⟩ := hy1.vals
  have h2 := H2.out w1 hb1
  have HB1 := Lib.hid hb1
  have HAT := Lib.hid hat
  have HC0 := Lib.hid hc0
  have HC1 := Lib.hid hc1
  have HD0 := Lib.hid hd0
  have HD1 := Lib.hid hd1
  have HH2 := Lib.hid h2
  clear hb1 hat hc0 hc1 hd0 hd1 h2 hx0 hx1 hy0 hy1 hk0 hk1 H1 H2
  go_wp2_with fail
  refine HH2.out.mono ?_
  rintro e w2 ⟨g, cg, rfl, hb2, hrow⟩
  have hbs1 := HB1.out.size
  have hkp : ∀ q, New w w1 q → w2.heap[q]? = w1.heap[q]? := fun q hq => hb2.block q hq.2
  have hc0 : ∀ i v, _ → w2.cell? ⟨b, off + 0 * itemD.k + i, none⟩ = some v := fun i v hv => (World.cell?_of_block (w := w1) (w' := w2) (a := ⟨b, _, none⟩) (hkp b hB)).trans (HC0.out i v hv)
  have hc1 : ∀ i v, _ → w2.cell? ⟨b, off + 1 * itemD.k + i, none⟩ = some v := fun i v hv => (World.cell?_of_block (w := w1) (w' := w2) (a := ⟨b, _, none⟩) (hkp b hB)).trans (HC1.out i v hv)
  have hd0 : ∀ i v, _ → w2.cell? ⟨g0, of0 + 0 * itemD.k + i, none⟩ = some v := fun i v hv => (World.cell?_of_block (w := w1) (w' := w2) (a := ⟨g0, _, none⟩) (hkp g0 hG0)).trans (HD0.out i v hv)
  have hd1 : ∀ i v, _ → w2.cell? ⟨g1, of1 + 1 * itemD.k + i, none⟩ = some v := fun i v hv => (World.cell?_of_block (w := w1) (w' := w2) (a := ⟨g1, _, none⟩) (hkp g1 hG1)).trans (HD1.out i v hv)
  have a0 : w2.cell? ⟨b, off, none⟩ = some (.int .i64 3) := hc0 0 _ rfl
  have a3 : w2.cell? ⟨b, off + 3, none⟩ = some (.string ⟨#[83]⟩) := hc0 3 _ rfl
  have a4 : w2.cell? ⟨b, off + 4, none⟩ = some (.slice (some ⟨g0, of0, none⟩) 1 c0) := hc0 4 _ rfl
  have a9 : w2.cell? ⟨b, off + 5 + 4, none⟩ = some (.slice (some ⟨g1, of1, none⟩) 2 c1) := hc1 4 _ rfl
  have b3 : w2.cell? ⟨g0, of0 + 3, none⟩ = some (.string ⟨#[97]⟩) := hd0 3 _ rfl
  have b5 : w2.cell? ⟨g1, of1 + 5, none⟩ = some (.int .i64 12) := hd1 0 _ rfl
  have r0 : w2.cell? ⟨g, 0, none⟩ = some (.int .i64 0) := by simpa [rgC] using hrow.cellAt 0 (by decide)
  have r1 : w2.cell? ⟨g, 1, none⟩ = some (.int .i64 7) := by simpa [rgC] using hrow.cellAt 1 (by decide)
  have r2 : w2.cell? ⟨g, 2, none⟩ = some (.int .i64 10) := by simpa [rgC] using hrow.cellAt 2 (by decide)
  have hgl := (hrow.lt g rfl).2
  have hbl : b < w2.heap.size := Nat.lt_of_lt_of_le hB.2 hb2.size
  have hg0l : g0 < w2.heap.size := Nat.lt_of_lt_of_le hG0.2 hb2.size
  have hg1l : g1 < w2.heap.size := Nat.lt_of_lt_of_le hG1.2 hb2.size
  have hfl := flat_any 100 exI (by decide) (by decide) w2 (New w w1) (some ⟨b, off, none⟩) c (HAT.out.keep (fun _ h => h) hkp) (fun q hq => Nat.lt_of_lt_of_le hq.2 hb2.size)
  unfold ItPost at hfl
  rw [show exI.length = 2 from rfl, show (flatL exI).length = 5 from by decide] at hfl
  have HFL := Lib.hid hfl
  have HB2 := Lib.hid hb2
  clear hkp hc0 hc1 hd0 hd1 hfl hb2 hrow HH2
  go_wp2_with fail
  refine HFL.out.mono ?_
  rintro e w3 ⟨A3, c3, rfl, _, hb3⟩
  have r0' := (World.cell?_of_block (w := w2) (w' := w3) (a := ⟨g, 0, none⟩) (hb3.block g hgl)).trans r0
  have r1' := (World.cell?_of_block (w := w2) (w' := w3) (a := ⟨g, 1, none⟩) (hb3.block g hgl)).trans r1
  have r2' := (World.cell?_of_block (w := w2) (w' := w3) (a := ⟨g, 2, none⟩) (hb3.block g hgl)).trans r2
  have hgl3 : g < w3.heap.size := Nat.lt_of_lt_of_le hgl hb3.size
  have HB := Lib.hid (show Below w.heap.size w w3 from (HB1.out.trans (HB2.out.mono hbs1)).trans (hb3.mono (Nat.le_trans hbs1 HB2.out.size)))
  clear r0 r1 r2 a0 a3 a4 a9 b3 b5 hb3 HFL
  go_wp2_with fail
  go_ret
  exact ⟨rfl, HB.out⟩
end Go.Proofs.YtepadojclmjllaaGreatDoor

/-
  OutlineProperlyNested: the walk.
-/
namespace Go.Proofs.YtepadojclmjllaaGreatDoor
open Go.RowKit
set_option linter.unusedVariables false
theorem inest_le : ∀ (xs : List Item) (lo hi : Int), inest lo hi xs → lo ≤ hi
  | [], lo, hi, h => h
  | x :: r, lo, hi, h => by
    unfold inest at h
    obtain ⟨a, b, c, _⟩ := h.1.le
    omega
set_option maxRecDepth 100000 in
set_option maxHeartbeats 3200000 in
theorem opn_any (src : ByteArray) (hm : src.size ≤ maxLen) (w : World) (hg : Gl w) :
    Calls Tryz.prog 3 #[.string src] w fun e w' => e = .returned (.bool true) ∧ Below w.heap.size w w' := by
  have hx := outlineEx_any w hg
  have HX := Lib.hid hx
  have HX2 := Lib.hid (fun w' (hb : Below w.heap.size w w') => outlineEx_any w' (hg.below hb))
  by_cases hs : src.size ≤ 2000
  · have hsz : src.data.toList.length = src.size := Array.length_toList
    obtain ⟨n, u, hu⟩ := file_ends (tokensL src.data.toList) (Nat.le_trans (tokensL_length _) (by rw [hsz]; exact hs))
    obtain ⟨hok, hyl, hwt⟩ := parse_safe src.data.toList (by rw [hsz]; exact hs) n u hu
    have hnz := astN_sz src u.ch hwt
    have hne := (items_nest _ _ _ (astN_nest src u.ch hok (by rw [← hsz]; exact hyl))).1
    have hht := astN_ht src u.ch hok (parse_dp _ (by rw [hsz]; exact hs) n u hu)
    have hiz := itemsL_sz (astN src u.ch)
    have HS := Lib.hid (fun w' (hb : Below w.heap.size w w') => symbols_any src w' (hg.below hb) hs n u hu)
    clear hu hok hyl hwt hx hg hsz
    generalize astN src u.ch = x at *
    have hPN := fun w' F A c hat hF => pn_any (iszs (itemsL x) + 1) (itemsL x) (Nat.lt_succ_self _) (by omega) 0 src.size 0 hne (Int.le_refl _) (by omega) (by omega) w' F A c hat hF
    unfold SymPost at HS
    obtain ⟨L, hL⟩ : ∃ L, (itemsL x).length = L := ⟨_, rfl⟩
    rw [hL] at HS hPN
    have HPN := Lib.hid hPN
    clear hPN hL hne hht hiz hnz
    go_enter Tryz.func3, Tryz.ntmps3
    go_wp2_with fail
    refine HX.out.mono ?_
    rintro e w1 ⟨rfl, hb1⟩
    have H1 := HS.out w1 hb1
    have HB1 := Lib.hid hb1
    have HH := Lib.hid H1
    clear hb1 H1 HX HS
    go_wp2_with fail
    refine HH.out.mono ?_
    rintro e w2 ⟨A, c, rfl, hat, hb2⟩
    have HB2 := Lib.hid (HB1.out.trans (hb2.mono HB1.out.size))
    have HAT := Lib.hid hat
    have hx2 := Lib.hid (HX2.out w2 HB2.out)
    clear hat hb2 HH
    go_wp2_with fail
    refine hx2.out.mono ?_
    rintro e w3 ⟨rfl, hb3⟩
    have HC := Lib.hid (HPN.out w3 (New w1 w2) A c (HAT.out.keep (fun _ h => h) (fun b hb => hb3.block b hb.2)) (fun q hq => Nat.lt_of_lt_of_le hq.2 hb3.size))
    have HB3 := Lib.hid (HB2.out.trans (hb3.mono HB2.out.size))
    clear hb3 hx2 HAT HPN
    go_wp2_with fail
    refine HC.out.mono ?_
    rintro e w4 ⟨rfl, hb4⟩
    have HB4 := Lib.hid (HB3.out.trans (hb4.mono HB3.out.size))
    clear hb4 HC
    go_wp2_with fail
    go_ret
    exact ⟨rfl, HB4.out⟩
  · have HS := Lib.hid (fun w' => symbols_big src w' (by omega) hm)
    clear hs hx hg hm
    go_enter Tryz.func3, Tryz.ntmps3
    go_wp2_with fail
    refine HX.out.mono ?_
    rintro e w1 ⟨rfl, hb1⟩
    have HB1 := Lib.hid hb1
    clear hb1
    go_wp2_with fail
    refine (HS.out w1).mono ?_
    rintro e w2 ⟨rfl, hb2⟩
    have HB2 := Lib.hid (HB1.out.trans (hb2.mono HB1.out.size))
    have hx2 := Lib.hid (HX2.out w2 HB2.out)
    clear hb2
    go_wp2_with fail
    refine hx2.out.mono ?_
    rintro e w3 ⟨rfl, hb3⟩
    have HB3 := Lib.hid (HB2.out.trans (hb3.mono HB2.out.size))
    clear hb3 hx2
    go_wp2_with fail
    go_ret
    exact ⟨rfl, HB3.out⟩
end Go.Proofs.YtepadojclmjllaaGreatDoor

/-
  The row's step: from the listed variables to Gl.
-/
namespace Go.Proofs.YtepadojclmjllaaGreatDoor
open Go.ChangeShapes Go.WideShapes Go.ChangeAt Go.RowKit Go.Deep
open Go.ChangeMaps (open_string shut_string)
set_option linter.unusedVariables false

theorem own : ownKnob Tryz.prog.godebug = none := by kernel_rfl
theorem laidOut : laidOutB Tryz.prog = true := by kernel_rfl
theorem glob_rng : Tryz.prog.globalNamed "strconv.ErrRange" = some 4 := by kernel_rfl
theorem asc_data : (Rows.laid_strings_asciiSpace : DataW Unit) = Lib.tabData .u8 Lib.asciiSpaceTab := by kernel_rfl
theorem gl_of_laid {W : World} {laid : List (String × DataW Unit)} (h : laidMet Tryz.prog laid W) (h1 : ("strings.asciiSpace", (Rows.laid_strings_asciiSpace : DataW Unit)) ∈ laid) (h2 : ("strconv.ErrRange", (Rows.laid_strconv_ErrRange : DataW Unit)) ∈ laid) : Gl W := by
  obtain ⟨g, t, cs, fuel, p, hg, ht, hv, hr⟩ := Lib.laidMet.reads h h1
  obtain rfl := Option.some.inj (glob_asc.symm.trans hg)
  obtain rfl := Option.some.inj ((show (Tryz.prog.globals[1]?).map (·.type) = some 146 by kernel_rfl).symm.trans ht)
  rw [asc_data] at hr
  have hcs := Lib.cells_of_tab (n := 256) Tryz.underlying146 Tryz.underlying5 (by kernel_rfl) (by kernel_rfl) hr
  have hasc : AscAt W := by
    unfold AscAt Lib.TabIs
    rw [hv, ← hcs]
  obtain ⟨g2, t2, cs2, fuel2, p2, hg2, ht2, hv2, hr2⟩ := Lib.laidMet.reads h h2
  obtain rfl := Option.some.inj (glob_rng.symm.trans hg2)
  obtain rfl := Option.some.inj ((show (Tryz.prog.globals[4]?).map (·.type) = some 133 by kernel_rfl).symm.trans ht2)
  obtain ⟨f3, u, v, hcs2, _, _⟩ := iface_of_trod Tryz.underlying133 hr2
  have hrng : W.cell? ⟨4, 0, none⟩ = some (.iface u v) := by
    refine World.var?_cell (cs := cs2) glob_rng hv2 0 |>.trans ?_
    have := congrArg (fun l : List Value => l[0]?) hcs2
    simpa using this
  refine ⟨hasc, ⟨u, v, hrng⟩, ?_⟩
  have l1 : 4 < W.heap.size := World.block_lt_of_cell? W ⟨4, 0, none⟩ hrng
  have l2 : 1 < W.heap.size := World.block_lt_of_cell? W ⟨1, 0, none⟩ (Lib.TabIs.cell hasc glob_asc 0 (by rw [Lib.asciiSpaceTab_length]; decide))
  unfold ng
  exact Nat.succ_le_of_lt (Nat.max_lt.2 ⟨l2, l1⟩)
end Go.Proofs.YtepadojclmjllaaGreatDoor
