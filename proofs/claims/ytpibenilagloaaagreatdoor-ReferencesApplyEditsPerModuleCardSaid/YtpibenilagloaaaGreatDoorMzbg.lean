import Derived.Test.YtpibenilagloaaaGreatDoorMzbf
import Derived.Test.YtpibenilagloaaaGreatDoorMzat
import Derived.RangeFuncNested
import Derived.RangeFuncBound
import Derived.RangeFuncCalls
import Derived.RangeFuncLeaves
import Derived.Shelf.Abstract
import Derived.Shelf.RegionOpen
import Derived.OwnWalkIn
import Derived.TacticsInMore
import Derived.LoopNIn
import Derived.LoopIn
namespace Go.Proofs.YtpibenilagloaaaGreatDoor
open Go.RowKit Go.Shelf
set_option linter.unusedVariables false
attribute [local go_sem] Oper.semAt_some
set_option maxRecDepth 100000 in
set_option maxHeartbeats 2000000 in
theorem bwd0_in {α : Type} (F : Fence) (n : Nat) (h8 : F.fn 325) (hro : F.round = none) (l Bs : Nat) (J Jx : List α → World → Prop) (W : World) (hB : W.heap[Bs]? = some (.cells #[.slice none 0 0] 76 (0, 0))) (h0 : J [] W) :
    CallsIn F n Tryz.prog 325 #[.func (.yield l) #[] #[], .pointer (some ⟨Bs, 0, none⟩)] W fun e W' => (∃ v, e = .returned v) ∧ ((∃ ys : List α, ys = [] ∧ J ys W') ∨ (∃ pre, False ∧ Jx pre W')) := by
  refine callsIn_of_wp Tryz.func325 rfl h8 ?_ hro
  simp only [Tryz.ntmps325, List.size_toArray, List.length_cons, List.length_nil, Nat.reduceAdd, Nat.reduceSub, Array.replicate_succ, Array.replicate_zero, List.push_toArray, List.append_toArray, List.nil_append, List.cons_append]
  have hc0 : W.cell? ⟨Bs, 0, none⟩ = some (.slice none 0 0) := by rw [Lib.cell_of_heap hB]; rfl
  gi_wp2
  gi_loopw [3] (fun i wr => i = .int .i64 (-1) ∧ wr = W) (fun _ _ => 0)
  case atStart => exact ⟨by simp, rfl⟩
  case round =>
    obtain ⟨rfl, rfl⟩ := hrel
    gi_wp2
    go_end0
    exact ⟨⟨_, rfl⟩, .inl ⟨[], rfl, h0⟩⟩
theorem bwdf_any (a : Option Addr) (len cap : Nat) (w : World) :
    Calls Tryz.prog 294 #[.slice a len cap] w fun e w' => e = .returned (.func (.func 325) #[] #[.pointer (some ⟨w.heap.size, 0, none⟩)]) ∧ w' = w.alloc (.cells #[.slice a len cap] 76) := by
  go_enter Tryz.func294, Tryz.ntmps294
  go_wp2_with fail
  go_ret
  exact ⟨rfl, rfl⟩
theorem bwd0_stops {α : Type} (F : Fence) (n : Nat) (h8 : F.fn 325) (hro : F.round = none) (Bs : Nat) (encs : α → Array Value) (Kp : World → World → Prop) (w : World) (hB : w.heap[Bs]? = some (.cells #[.slice none 0 0] 76 (0, 0))) :
    SeqStopsK F n Tryz.prog 325 #[.pointer (some ⟨Bs, 0, none⟩)] encs Kp (fun ys => ys = []) (fun _ => False) 0 w := fun l J Jx W hW _ _ hY h0 =>
  bwd0_in F n h8 hro l Bs J Jx W ((hW.block Bs (lt_of_heap hB)).trans hB) h0
theorem idxOf_ne (x : Mdl) (nm : ByteArray) (h : x.nm ≠ nm) : idxOf ([x].take 1) nm = -1 := by
  simp [idxOf, Lib.idxBy, Lib.idxByFrom, h]
theorem first_fin {n0 : Nat} {w w2 : World} {D a b : Nat} {v1 v2 : Value} (hn : n0 = w.heap.size) (h1 : w2.heap[a]? = some (.cells #[.int .i64 0] 3 (0, 0))) (h2 : w2.heap[b]? = some (.cells #[.int .i64 0] 3 (0, 0))) (h3 : w2.heap[D]? = some (.deferred (some []))) (hab : a ≠ b) (ha : n0 ≤ a) (hb : n0 ≤ b) (hd : n0 ≤ D) (hB : Below w.heap.size w w2) :
    ((w2.setCell ⟨a, 0, none⟩ v1).setCell ⟨b, 0, none⟩ v2).heap[D]? = some (.deferred (some [])) ∧ ∀ o, (((w2.setCell ⟨a, 0, none⟩ v1).setCell ⟨b, 0, none⟩ v2).putObj D o).cell? ⟨a, 0, none⟩ = some v1 ∧ (((w2.setCell ⟨a, 0, none⟩ v1).setCell ⟨b, 0, none⟩ v2).putObj D o).cell? ⟨b, 0, none⟩ = some v2 ∧ Below w.heap.size w (((w2.setCell ⟨a, 0, none⟩ v1).setCell ⟨b, 0, none⟩ v2).putObj D o) := by
  subst hn
  have hDa : D ≠ a := fun e => by rw [e, h1] at h3; cases h3
  have hDb : D ≠ b := fun e => by rw [e, h2] at h3; cases h3
  have e1 : (w2.setCell ⟨a, 0, none⟩ v1).heap[a]? = some (.cells #[v1] 3 (0, 0)) := heap_set h1 0 v1
  have e2 : (w2.setCell ⟨a, 0, none⟩ v1).heap[b]? = some (.cells #[.int .i64 0] 3 (0, 0)) := (Below.heap_setCell _ _ _ _ (fun e => hab e.symm)).trans h2
  have e3 : (w2.setCell ⟨a, 0, none⟩ v1).heap[D]? = some (.deferred (some [])) := (Below.heap_setCell _ _ _ _ hDa).trans h3
  have g1 : ((w2.setCell ⟨a, 0, none⟩ v1).setCell ⟨b, 0, none⟩ v2).heap[a]? = some (.cells #[v1] 3 (0, 0)) := (Below.heap_setCell _ _ _ _ hab).trans e1
  have g2 : ((w2.setCell ⟨a, 0, none⟩ v1).setCell ⟨b, 0, none⟩ v2).heap[b]? = some (.cells #[v2] 3 (0, 0)) := heap_set e2 0 v2
  have g3 : ((w2.setCell ⟨a, 0, none⟩ v1).setCell ⟨b, 0, none⟩ v2).heap[D]? = some (.deferred (some [])) := (Below.heap_setCell _ _ _ _ hDb).trans e3
  refine ⟨g3, fun o => ⟨?_, ?_, ?_⟩⟩
  · exact cell_of ((World.putObj_heap_other (fun e => hDa e.symm)).trans g1) 0 _ rfl
  · exact cell_of ((World.putObj_heap_other (fun e => hDb e.symm)).trans g2) 0 _ rfl
  · exact ((hB.setCell ha v1).setCell hb v2).trans (belowK_b (w := w) (Nat.le_refl _) _ D _ _ hd g3 rfl rfl)
set_option maxRecDepth 100000 in
set_option maxHeartbeats 6400000 in
theorem firstSeg_any (R p : Nat) (ss : List Sym) (xs : List Xpt) (nm : ByteArray) (mb mo mc : Nat) (x : Mdl) (w : World) (c0 : w.cell? ⟨R, 0, none⟩ = some (.pointer (some ⟨p, 0, none⟩))) (c1 : w.cell? ⟨R, 1, none⟩ = some (.int .i64 0)) (c2 : w.cell? ⟨R, 2, none⟩ = some (.slice none 0 0)) (hR : R < w.heap.size) (hp : PgV w p ss xs)
    (hpm : w.cell? ⟨p, 0, none⟩ = some (.slice (some ⟨mb, mo, none⟩) 1 mc)) (hmb : mb < w.heap.size) (hmc : ∀ i u, (mdC x)[i]? = some u → w.cell? ⟨mb, mo + i, none⟩ = some u) (hne : x.nm ≠ nm) (hm : xs.length ≤ 1000000) (hms : ss.length ≤ 1000000) :
    Calls Tryz.prog 247 #[.pointer (some ⟨R, 0, none⟩), .string nm, .bool false] w fun e w' => e = .returned (.tuple #[.int .i64 (firstN ss xs nm).1, .int .i64 (firstN ss xs nm).2]) ∧ Below w.heap.size w w' := by
  have hpl := hp.lt
  have HE := Lib.hid (fun w' (hb : Below w.heap.size w w') => exported_any R p ss xs nm w' ((hb.cell (p := ⟨R, 0, none⟩) hR).trans c0) ((hb.cell (p := ⟨R, 1, none⟩) hR).trans c1) (Nat.lt_of_lt_of_le hR hb.size) (hp.below hb) hm)
  have HIX := Lib.hid (fun w' (hb : Below w.heap.size w w') => indexOf_any mb mo 1 mc [x] nm w' (Nat.le_refl _) (by decide) (Nat.lt_of_lt_of_le hmb hb.size) (fun j y hy i u hi => by
    obtain ⟨hj, rfl⟩ := List.getElem?_eq_some_iff.1 hy
    obtain rfl : j = 0 := by simpa using hj
    rw [Nat.zero_mul, Nat.add_zero]
    exact (hb.cell (p := ⟨mb, _, none⟩) hmb).trans (hmc i u hi)))
  rw [idxOf_ne x nm hne] at HIX
  have HMB := Lib.hid (fun w' (hb : Below w.heap.size w w') Ak ck (hk : inD.At w' (Lt w') Ak [15]) => members_any p ss xs (-1) 15 nm Ak ck w' (hp.below hb) hk hms)
  have HFN := Lib.hid (show firstN ss xs nm = if (uniqueL ((lookupL xs 0 nm 0).map Xpt.sym)).2 ≠ 11 then uniqueL ((lookupL xs 0 nm 0).map Xpt.sym) else uniqueL (membersL ss (-1) nm [15]) from rfl)
  generalize firstN ss xs nm = fn at *
  obtain ⟨u, hu⟩ : ∃ u, uniqueL ((lookupL xs 0 nm 0).map Xpt.sym) = u := ⟨_, rfl⟩
  rw [hu] at HE HFN
  clear hmc hne hp hm hms hu
  have HC : Hid (∀ w', Below w.heap.size w w' → w'.cell? ⟨R, 0, none⟩ = some (.pointer (some ⟨p, 0, none⟩)) ∧ w'.cell? ⟨R, 1, none⟩ = some (.int .i64 0) ∧ w'.cell? ⟨p, 0, none⟩ = some (.slice (some ⟨mb, mo, none⟩) 1 mc) ∧ R < w'.heap.size ∧ p < w'.heap.size) := fun w' hb =>
    ⟨(hb.cell (p := ⟨R, 0, none⟩) hR).trans c0, (hb.cell (p := ⟨R, 1, none⟩) hR).trans c1, (hb.cell (p := ⟨p, 0, none⟩) hpl).trans hpm, Nat.lt_of_lt_of_le hR hb.size, Nat.lt_of_lt_of_le hpl hb.size⟩
  obtain ⟨W4, hW4⟩ : ∃ W4, (((w.alloc (.cells #[.pointer (some ⟨R, 0, none⟩)] 150)).alloc (.cells #[.string nm] 9)).alloc (.cells #[.int .i64 0] 3)).alloc (.cells #[.int .i64 0] 3) = W4 := ⟨_, rfl⟩
  have hb4 : Below w.heap.size w W4 := by rw [← hW4]; exact ((((Below.refl _ w).alloc (Nat.le_refl _) _).alloc (by simp) _).alloc (by simp; omega) _).alloc (by simp; omega) _
  have hz4 : W4.heap.size = w.heap.size + 4 := by rw [← hW4]; simp
  have k1 : W4.heap[w.heap.size]? = some (.cells #[.pointer (some ⟨R, 0, none⟩)] 150 (0, 0)) := by
    rw [← hW4]; exact (heap_alloc_old _ _ (by simp; omega)).trans ((heap_alloc_old _ _ (by simp; omega)).trans ((heap_alloc_old _ _ (by simp)).trans (heap_alloc_new w _)))
  have k2 : W4.heap[w.heap.size + 1]? = some (.cells #[.string nm] 9 (0, 0)) := by
    rw [← hW4]
    have := heap_alloc_new (w.alloc (.cells #[.pointer (some ⟨R, 0, none⟩)] 150)) (.cells #[.string nm] 9)
    rw [World.size_alloc] at this
    exact (heap_alloc_old _ _ (by simp)).trans ((heap_alloc_old _ _ (by simp)).trans this)
  have k3 : W4.heap[w.heap.size + 1 + 1]? = some (.cells #[.int .i64 0] 3 (0, 0)) := by
    rw [← hW4]
    have := heap_alloc_new ((w.alloc (.cells #[.pointer (some ⟨R, 0, none⟩)] 150)).alloc (.cells #[.string nm] 9)) (.cells #[.int .i64 0] 3)
    rw [World.size_alloc, World.size_alloc] at this
    exact (heap_alloc_old _ _ (by simp)).trans this
  have k4 : W4.heap[w.heap.size + 1 + 1 + 1]? = some (.cells #[.int .i64 0] 3 (0, 0)) := by
    rw [← hW4]
    have := heap_alloc_new (((w.alloc (.cells #[.pointer (some ⟨R, 0, none⟩)] 150)).alloc (.cells #[.string nm] 9)).alloc (.cells #[.int .i64 0] 3)) (.cells #[.int .i64 0] 3)
    rw [World.size_alloc, World.size_alloc, World.size_alloc] at this
    exact this
  obtain ⟨W0, hW0⟩ : ∃ W0, W4.alloc (.cells #[.slice none 0 0] 76) = W0 := ⟨_, rfl⟩
  have hb0 : Below W4.heap.size W4 W0 := by rw [← hW0]; exact (Below.refl _ _).alloc (Nat.le_refl _) _
  have k5 : W0.heap[W4.heap.size]? = some (.cells #[.slice none 0 0] 76 (0, 0)) := by rw [← hW0]; exact heap_alloc_new W4 _
  have HB0 := Lib.hid (hb4.trans (hb0.mono hb4.size))
  have hx : ∀ w' : World, Below W0.heap.size W0 w' → w'.heap[w.heap.size]? = some (.cells #[.pointer (some ⟨R, 0, none⟩)] 150 (0, 0)) ∧ w'.heap[w.heap.size + 1]? = some (.cells #[.string nm] 9 (0, 0)) ∧ w'.heap[w.heap.size + 1 + 1]? = some (.cells #[.int .i64 0] 3 (0, 0)) ∧ w'.heap[w.heap.size + 1 + 1 + 1]? = some (.cells #[.int .i64 0] 3 (0, 0)) ∧ w.heap.size + 5 ≤ w'.heap.size := fun w' hb => by
    have hz0 : W0.heap.size = w.heap.size + 5 := by rw [← hW0, World.size_alloc, hz4]
    have e : ∀ b, b < W4.heap.size → w'.heap[b]? = W4.heap[b]? := fun b hb' => (hb.block b (by omega)).trans (hb0.block b hb')
    exact ⟨(e _ (by omega)).trans k1, (e _ (by omega)).trans k2, (e _ (by omega)).trans k3, (e _ (by omega)).trans k4, by have := hb.size; omega⟩
  have HX := Lib.hid hx
  have y2 : W4.cell? ⟨R, 2, none⟩ = some (.slice none 0 0) := (hb4.cell (p := ⟨R, 2, none⟩) hR).trans c2
  have yb : W4.cell? ⟨w.heap.size, 0, none⟩ = some (.pointer (some ⟨R, 0, none⟩)) := cell_of k1 0 _ rfl
  have hR4 : R < W4.heap.size := by omega
  have hb4l : w.heap.size < W4.heap.size := by omega
  have HZ4 := Lib.hid hz4
  have K5 := Lib.hid k5
  clear hb4 hb0 k1 k2 k3 k4 k5 hx c0 c1 c2 hpm hz4
  refine (callsIn_wide (n := 5)).1 ?_
  refine callsIn_of_wp_marks Tryz.func247 rfl trivial ?_ rfl
  refine wpIn_wide.2 ?_
  simp only [Tryz.ntmps247, List.size_toArray, List.length_cons, List.length_nil, Nat.reduceAdd, Nat.reduceSub, Array.replicate_succ, Array.replicate_zero, List.push_toArray, List.append_toArray, List.nil_append, List.cons_append]
  go_wp2_with (go_at_call 294; refine (bwdf_any _ _ _ _).mono ?_; rintro e w' ⟨rfl, rfl⟩)
  clear hW4 hW0
  refine (wpIn_wide (n := 5)).1 (wpIn_rangeFunc_ownH rfl (by omega) (gf := 325) (lb := #[.pointer (some ⟨W4.heap.size, 0, none⟩)]) rfl trivial (enters_of Tryz.func325 (by kernel_rfl) rfl) (α := Int) (encs := fun x => #[.int .i64 0, .int .i64 x]) (Kp := fun _ _ => True) (S := fun ys => ys = []) (Sp := fun _ => False) (N := 0) (w0 := W0)
    (bwd0_stops Fence.wide _ trivial rfl W4.heap.size _ _ W0 K5.out) (fun _ _ => trivial) (fun _ _ _ _ _ _ _ _ => trivial) (Below.refl _ _) (fun _ => rfl) (fun _ W => Below W0.heap.size W0 W) (fun _ _ _ => False) (ownFrom_below (Nat.le_refl _) (Nat.le_refl _)) (fun _ _ _ _ _ hs _ _ => hs) (Below.refl _ _) (fun _ _ _ => True) (fun _ _ => ownFrom_pure _ _) ?assign (fun _ _ _ _ _ _ _ _ _ h => absurd h (by simp)) ?done (fun _ _ _ _ _ h _ _ => h.elim))
  case assign =>
    intro l pre x W K hI hK
    gi_wp2
    exact hK _ _ (KeepsFrom.refl _ _) trivial hI trivial
  case done =>
    rintro D ys W hD hys hI hK
    obtain ⟨q1, q2, q3, q4, q5⟩ := HX.out W hI
    have hbW := HB0.out.trans (hI.mono HB0.out.size)
    have hDl : D < W.heap.size := lt_of_heap hK
    have HSS : Hid (∀ w', Below W.heap.size W w' → (w'.cell? ⟨w.heap.size, 0, none⟩ = some (.pointer (some ⟨R, 0, none⟩)) ∧ w'.cell? ⟨w.heap.size + 1, 0, none⟩ = some (.string nm) ∧ w'.cell? ⟨R, 0, none⟩ = some (.pointer (some ⟨p, 0, none⟩)) ∧ w'.cell? ⟨R, 1, none⟩ = some (.int .i64 0) ∧ w'.cell? ⟨p, 0, none⟩ = some (.slice (some ⟨mb, mo, none⟩) 1 mc)) ∧ (R < w'.heap.size ∧ p < w'.heap.size ∧ w.heap.size < w'.heap.size ∧ w.heap.size + 1 < w'.heap.size ∧ w.heap.size + 1 + 1 < w'.heap.size ∧ w.heap.size + 1 + 1 + 1 < w'.heap.size) ∧ Below w.heap.size w w' ∧ (w'.heap[w.heap.size + 1 + 1]? = some (.cells #[.int .i64 0] 3 (0, 0)) ∧ w'.heap[w.heap.size + 1 + 1 + 1]? = some (.cells #[.int .i64 0] 3 (0, 0)) ∧ w'.heap[D]? = some (.deferred (some [])))) := fun w' hb => by
      obtain ⟨z0, z1, zp, zR, zpl⟩ := HC.out w' (hbW.trans (hb.mono hbW.size))
      have hz := hb.size
      exact ⟨⟨cell_of ((hb.block _ (by omega)).trans q1) 0 _ rfl, cell_of ((hb.block _ (by omega)).trans q2) 0 _ rfl, z0, z1, zp⟩, ⟨zR, zpl, by omega, by omega, by omega, by omega⟩, hbW.trans (hb.mono hbW.size), (hb.block _ (by omega)).trans q3, (hb.block _ (by omega)).trans q4, (hb.block _ hDl).trans hK⟩
    have HD := Lib.hid (show w.heap.size + 5 ≤ D by have h5 := (HX.out W0 (Below.refl _ _)).2.2.2.2; omega)
    obtain ⟨⟨b1, b2, z0, z1, zp⟩, ⟨l1, l2, l3, l4, l5, l6⟩, _, _⟩ := HSS.out W (Below.refl _ _)
    clear q1 q2 q3 q4 q5 hI hK hD hys y2 yb hbW hDl HC HX HB0 hR4 hb4l hR hmb hpl
    obtain ⟨u1, u2⟩ := u
    have HE2 := Lib.hid (fun w' (hb : Below W.heap.size W w') => HE.out w' ((HSS.out w' hb).2.2.1))
    have HIX2 := Lib.hid (HIX.out _ ((HSS.out _ (Below.refl W.heap.size W).drew).2.2.1))
    have HMB2 := Lib.hid (fun w' (hb : Below W.heap.size W w') => HMB.out w' ((HSS.out w' hb).2.2.1))
    simp only at HE2
    clear HE HIX HMB
    by_cases g : u2 = 11
    · subst g
      have HF := Lib.hid (show fn = uniqueL (membersL ss (-1) nm [15]) by rw [HFN.out]; simp)
      go_wp2_with fail
      go_region_held3 (fun w' => w'.cell? ⟨w.heap.size, 0, none⟩ = some (.pointer (some ⟨R, 0, none⟩)) ∧ w'.cell? ⟨w.heap.size + 1, 0, none⟩ = some (.string nm) ∧ w'.cell? ⟨R, 0, none⟩ = some (.pointer (some ⟨p, 0, none⟩)) ∧ w'.cell? ⟨R, 1, none⟩ = some (.int .i64 0) ∧ w'.cell? ⟨p, 0, none⟩ = some (.slice (some ⟨mb, mo, none⟩) 1 mc)) (first | go_keep | assumption) ((go_at_call 82; refine HIX2.out.mono ?_; rintro e w1 ⟨rfl, hb1⟩; have hb1' := (Below.refl W.heap.size W).drew.trans hb1; obtain ⟨⟨s0, s1, s2, s3, s4⟩, hls1, _, _⟩ := HSS.out w1 hb1'; have HB1 := Lib.hid hb1'; clear hb1 hb1' b1 b2 z0 z1 zp l1 l2 l3 l4 l5 l6))
      all_goals
        obtain ⟨l1, l2, l3, l4, l5, l6⟩ := hls1
        have HE3 := Lib.hid (HE2.out _ HB1.out.drew)
        go_wp2_with fail
        go_region_held3 (fun w' => w'.cell? ⟨w.heap.size, 0, none⟩ = some (.pointer (some ⟨R, 0, none⟩)) ∧ w'.cell? ⟨w.heap.size + 1, 0, none⟩ = some (.string nm) ∧ w'.cell? ⟨R, 0, none⟩ = some (.pointer (some ⟨p, 0, none⟩)) ∧ w'.cell? ⟨R, 1, none⟩ = some (.int .i64 0) ∧ w'.cell? ⟨p, 0, none⟩ = some (.slice (some ⟨mb, mo, none⟩) 1 mc)) (first | go_keep | assumption) ((go_at_call 295; refine HE3.out.mono ?_; rintro e w2 ⟨rfl, hb2⟩; have hb2' := HB1.out.drew.trans (hb2.mono HB1.out.drew.size); obtain ⟨⟨s0', s1', s2', s3', s4'⟩, hls2, _, hc2⟩ := HSS.out w2 hb2'; have HB2 := Lib.hid hb2'; clear hb2 hb2' s0 s1 s2 s3 s4 l1 l2 l3 l4 l5 l6))
        all_goals
          obtain ⟨l1, l2, l3, l4, l5, l6⟩ := hls2
          clear hc2 HE3 HE2 HIX2
          have HBA := Lib.hid (HB2.out.drew.alloc HB2.out.size (.cells #[.int .i64 15] 3))
          have HM3 := Lib.hid (HMB2.out _ HBA.out (some ⟨w2.heap.size, 0, none⟩) 1 ⟨[.int .i64 15], ⟨[.int .i64 15], [], rfl, rfl, rfl⟩, fun _ => ⟨_, 0, rfl, by simp [Lt], fun j u hu => by
            rw [Nat.zero_add]
            exact (Lib.cell_of_heap (heap_alloc_new w2.drew _) j).trans (by simpa using hu)⟩⟩)
          clear HMB2
          go_wp2_with fail
          refine wp_region_noPanic ?_
          refine regionS (fun w' => w'.cell? ⟨w.heap.size, 0, none⟩ = some (.pointer (some ⟨R, 0, none⟩)) ∧ w'.cell? ⟨w.heap.size + 1, 0, none⟩ = some (.string nm) ∧ w'.cell? ⟨R, 0, none⟩ = some (.pointer (some ⟨p, 0, none⟩))) 10 (by kernel_rfl) ⟨s0', s1', s2'⟩ ?_
          intro hS
          refine takeS (i := 0) (v := ?v0) (at_zero) (by kernel_rfl) (by kernel_rfl) (by kernel_rfl) (by kernel_rfl) (fun _ _ _ h => h) (Or.inl ⟨by rfl, ?y0⟩) (by assumption) ?z0
          case y0 => intro wq hSw; (try dsimp only at hSw); go_simp; try with_reducible rfl
          try simp only [Act.put, List.setIfInBounds_toArray, List.set_cons_zero, List.set_cons_succ]
          refine takeS (i := 1) (v := ?v1) (at_succ (at_zero)) (by kernel_rfl) (by kernel_rfl) (by kernel_rfl) (by kernel_rfl) (fun _ _ _ h => h) (Or.inl ⟨by rfl, ?y1⟩) (by assumption) ?z1
          case y1 => intro wq hSw; (try dsimp only at hSw); go_simp; try with_reducible rfl
          try simp only [Act.put, List.setIfInBounds_toArray, List.set_cons_zero, List.set_cons_succ]
          refine takeS (i := 2) (v := ?v2) (at_succ (at_succ (at_zero))) (by kernel_rfl) (by kernel_rfl) (by kernel_rfl) (by kernel_rfl) (fun _ _ _ h => h) (Or.inl ⟨by rfl, ?y2⟩) (by assumption) ?z2
          case y2 => intro wq hSw; (try dsimp only at hSw); go_simp; try with_reducible rfl
          try simp only [Act.put, List.setIfInBounds_toArray, List.set_cons_zero, List.set_cons_succ]
          refine takeS (i := 3) (v := ?v3) (at_succ (at_succ (at_succ (at_zero)))) (by kernel_rfl) (by kernel_rfl) (by kernel_rfl) (by kernel_rfl) (fun _ _ _ h => h) (Or.inl ⟨by rfl, ?y3⟩) (by assumption) ?z3
          case y3 => intro wq hSw; (try dsimp only at hSw); go_simp; try with_reducible rfl
          try simp only [Act.put, List.setIfInBounds_toArray, List.set_cons_zero, List.set_cons_succ]
          refine takeS (i := 4) (v := ?v4) (at_succ (at_succ (at_succ (at_succ (at_zero))))) (by kernel_rfl) (by kernel_rfl) (by kernel_rfl) (by kernel_rfl) (fun _ _ _ h => h) (Or.inl ⟨by rfl, ?y4⟩) (by assumption) ?z4
          case y4 => intro wq hSw; (try dsimp only at hSw); go_simp; try with_reducible rfl
          try simp only [Act.put, List.setIfInBounds_toArray, List.set_cons_zero, List.set_cons_succ]
          refine stepS (i := 5) (by kernel_rfl) (at_succ (at_succ (at_succ (at_succ (at_succ (at_zero)))))) (fun K hK => ?_)
          go_simp
          clear hS
          refine hK.out _ _ ⟨(HSS.out _ HBA.out).1.1, (HSS.out _ HBA.out).1.2.1, (HSS.out _ HBA.out).1.2.2.1⟩ (fun hS => ?_)
          clear hK K
          try simp only [Act.put, List.setIfInBounds_toArray, List.set_cons_zero, List.set_cons_succ]
          refine stepS (i := 6) (by kernel_rfl) (at_succ (at_succ (at_succ (at_succ (at_succ (at_succ (at_zero))))))) (fun K hK => ?_)
          go_simp
          refine HM3.out.mono ?_
          rintro e w4 ⟨A, c, rfl, hat, hb4⟩
          have HB4 := Lib.hid (HBA.out.trans (hb4.mono HBA.out.size))
          have HU := Lib.hid (unique_any (membersL ss (-1) nm [15]) A c w4 (hat.keep (fun b hb => hb.2) (fun _ _ => rfl)))
          generalize membersL ss (-1) nm [15] = ml at *
          clear hat hb4 hS s0' s1' s2' s3' s4' l1 l2 l3 l4 l5 l6
          obtain ⟨⟨s0, s1, s2, _, _⟩, ⟨l1, l2, l3, l4, l5, l6⟩, _, hc4⟩ := HSS.out w4 HB4.out
          refine hK.out _ _ ⟨s0, s1, s2⟩ (fun hS => ?_)
          clear hK K
          try simp only [Act.put, List.setIfInBounds_toArray, List.set_cons_zero, List.set_cons_succ]
          refine stepS (i := 7) (by kernel_rfl) (at_succ (at_succ (at_succ (at_succ (at_succ (at_succ (at_succ (at_zero)))))))) (fun K hK => ?_)
          go_simp
          refine HU.out.mono ?_
          rintro e w5 ⟨rfl, rfl⟩
          refine hK.out _ _ ⟨s0, s1, s2⟩ (fun hS => ?_)
          obtain ⟨g1, g2, g3⟩ := hc4
          have y1 := cell_of g1 0 _ rfl
          have y2 := cell_of g2 0 _ rfl
          have f1 := Lib.frozen_of_heap g1 0
          have f2 := Lib.frozen_of_heap g2 0
          have HG := Lib.hid (show w5.heap[w.heap.size + 1 + 1]? = _ ∧ w5.heap[w.heap.size + 1 + 1 + 1]? = _ ∧ w5.heap[D]? = _ from ⟨g1, g2, g3⟩)
          clear g1 g2 g3
          clear hK K
          try simp only [Act.put, List.setIfInBounds_toArray, List.set_cons_zero, List.set_cons_succ]
          refine takeS (i := 8) (v := ?v8) (at_succ (at_succ (at_succ (at_succ (at_succ (at_succ (at_succ (at_succ (at_zero))))))))) (by kernel_rfl) (by kernel_rfl) (by kernel_rfl) (by kernel_rfl) (fun _ _ _ h => h) (Or.inl ⟨by rfl, ?y8⟩) (by assumption) ?z8
          case y8 => intro wq hSw; (try dsimp only at hSw); go_simp; try with_reducible rfl
          try simp only [Act.put, List.setIfInBounds_toArray, List.set_cons_zero, List.set_cons_succ]
          refine takeS (i := 9) (v := ?v9) (at_succ (at_succ (at_succ (at_succ (at_succ (at_succ (at_succ (at_succ (at_succ (at_zero)))))))))) (by kernel_rfl) (by kernel_rfl) (by kernel_rfl) (by kernel_rfl) (fun _ _ _ h => h) (Or.inl ⟨by rfl, ?y9⟩) (by assumption) ?z9
          case y9 => intro wq hSw; (try dsimp only at hSw); go_simp; try with_reducible rfl
          try simp only [Act.put, List.setIfInBounds_toArray, List.set_cons_zero, List.set_cons_succ]
          refine tailZ (i := 10) (by kernel_rfl) (at_succ (at_succ (at_succ (at_succ (at_succ (at_succ (at_succ (at_succ (at_succ (at_succ (at_zero))))))))))) (by kernel_rfl) (fun K hK => ?_)
          go_simp
          refine hK.out _ _ ?_
          clear hK K
          try simp only [Act.put, List.setIfInBounds_toArray, List.set_cons_zero, List.set_cons_succ]
          refine tailZ (i := 11) (by kernel_rfl) (at_succ (at_succ (at_succ (at_succ (at_succ (at_succ (at_succ (at_succ (at_succ (at_succ (at_succ (at_zero)))))))))))) (by kernel_rfl) (fun K hK => ?_)
          go_simp
          refine hK.out _ _ ?_
          clear hK K
          try simp only [Act.put, List.setIfInBounds_toArray, List.set_cons_zero, List.set_cons_succ]
          refine doneS (by kernel_rfl) ?_ _
          refine NoPanic.normal ?_
          go_wp2_with fail
          obtain ⟨g1, g2, g3⟩ := HG.out
          obtain ⟨m1, m2⟩ := first_fin (v1 := .int .i64 (uniqueL ml).1) (v2 := .int .i64 (uniqueL ml).2) rfl g1 g2 g3 (by omega) (by omega) (by omega) (by have := HD.out; omega) (HSS.out w5 HB4.out).2.2.1
          refine ⟨by simp, .inl ⟨_, _, rfl, run_takeDeferred m1, ?_⟩⟩
          obtain ⟨m3, m4, m5⟩ := m2 (.deferred none)
          refine ⟨.tuple #[.int .i64 (uniqueL ml).1, .int .i64 (uniqueL ml).2], by simp [results, Tryz.results247, go_sem, m3, m4], by rw [HF.out], m5⟩
    · have gb : (u2 == 11) = false := by simpa using g
      have gb2 : (u2 != 11) = true := by simpa using g
      have HF := Lib.hid (show fn = (u1, u2) by rw [HFN.out, if_pos (by simpa using g)])
      go_wp2_with fail
      go_region_held3 (fun w' => w'.cell? ⟨w.heap.size, 0, none⟩ = some (.pointer (some ⟨R, 0, none⟩)) ∧ w'.cell? ⟨w.heap.size + 1, 0, none⟩ = some (.string nm) ∧ w'.cell? ⟨R, 0, none⟩ = some (.pointer (some ⟨p, 0, none⟩)) ∧ w'.cell? ⟨R, 1, none⟩ = some (.int .i64 0) ∧ w'.cell? ⟨p, 0, none⟩ = some (.slice (some ⟨mb, mo, none⟩) 1 mc)) (first | go_keep | assumption) ((go_at_call 82; refine HIX2.out.mono ?_; rintro e w1 ⟨rfl, hb1⟩; have hb1' := (Below.refl W.heap.size W).drew.trans hb1; obtain ⟨⟨s0, s1, s2, s3, s4⟩, hls1, _, _⟩ := HSS.out w1 hb1'; have HB1 := Lib.hid hb1'; clear hb1 hb1' b1 b2 z0 z1 zp l1 l2 l3 l4 l5 l6))
      all_goals
        obtain ⟨l1, l2, l3, l4, l5, l6⟩ := hls1
        have HE3 := Lib.hid (HE2.out _ HB1.out.drew)
        go_wp2_with fail
        go_region_held3 (fun w' => w'.cell? ⟨w.heap.size, 0, none⟩ = some (.pointer (some ⟨R, 0, none⟩)) ∧ w'.cell? ⟨w.heap.size + 1, 0, none⟩ = some (.string nm) ∧ w'.cell? ⟨R, 0, none⟩ = some (.pointer (some ⟨p, 0, none⟩)) ∧ w'.cell? ⟨R, 1, none⟩ = some (.int .i64 0) ∧ w'.cell? ⟨p, 0, none⟩ = some (.slice (some ⟨mb, mo, none⟩) 1 mc)) (first | go_keep | assumption) ((go_at_call 295; refine HE3.out.mono ?_; rintro e w2 ⟨rfl, hb2⟩; have hb2' := HB1.out.drew.trans (hb2.mono HB1.out.drew.size); obtain ⟨⟨s0', s1', s2', s3', s4'⟩, hls2, _, hc2⟩ := HSS.out w2 hb2'; have HB2 := Lib.hid hb2'; clear hb2 hb2' s0 s1 s2 s3 s4 l1 l2 l3 l4 l5 l6))
        all_goals
          obtain ⟨l1, l2, l3, l4, l5, l6⟩ := hls2
          obtain ⟨g1, g2, g3⟩ := hc2
          have y1 := cell_of g1 0 _ rfl
          have y2 := cell_of g2 0 _ rfl
          have f1 := Lib.frozen_of_heap g1 0
          have f2 := Lib.frozen_of_heap g2 0
          have HG := Lib.hid (show w2.heap[w.heap.size + 1 + 1]? = _ ∧ w2.heap[w.heap.size + 1 + 1 + 1]? = _ ∧ w2.heap[D]? = _ from ⟨g1, g2, g3⟩)
          clear g1 g2 g3
          go_wp2_with fail
          obtain ⟨g1, g2, g3⟩ := HG.out
          obtain ⟨m1, m2⟩ := first_fin (v1 := .int .i64 u1) (v2 := .int .i64 u2) rfl g1 g2 g3 (by omega) (by omega) (by omega) (by have := HD.out; omega) (HSS.out w2 HB2.out).2.2.1
          refine ⟨by simp, .inl ⟨_, _, rfl, run_takeDeferred m1, ?_⟩⟩
          obtain ⟨m3, m4, m5⟩ := m2 (.deferred none)
          refine ⟨.tuple #[.int .i64 u1, .int .i64 u2], by simp [results, Tryz.results247, go_sem, m3, m4], by rw [HF.out], m5⟩
end Go.Proofs.YtpibenilagloaaaGreatDoor
