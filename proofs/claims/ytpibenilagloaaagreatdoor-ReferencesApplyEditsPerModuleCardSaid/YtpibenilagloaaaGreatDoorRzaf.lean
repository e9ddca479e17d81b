import Derived.Test.YtpibenilagloaaaGreatDoorRzae
import Derived.Test.YtpibenilagloaaaGreatDoorSyc
import Derived.Deep.DeepCutAuto
import Derived.Test.YtpibenilagloaaaGreatDoorRzac
import Derived.Test.YtpibenilagloaaaGreatDoorMzaf
namespace Go.Proofs.YtpibenilagloaaaGreatDoor
open Go.RowKit
set_option linter.unusedVariables false
theorem cor_pred (m s : Int) (a b : Nat) (w : World) (ha : w.heap[a]? = some (.cells #[.int .i64 m] 3 (0, 0))) (hb : w.heap[b]? = some (.cells #[.int .i64 s] 3 (0, 0))) :
    PredBelow Tryz.prog 124 #[.pointer (some ⟨a, 0, none⟩), .pointer (some ⟨b, 0, none⟩)] (fun x : Sym => .agg (syC x).toArray) (fun x => decide (x.mod = m) && decide (x.st = s)) w := fun W x hW => by
  have la := lt_of_heap ha
  have lb := lt_of_heap hb
  have ca : W.cell? ⟨a, 0, none⟩ = some (.int .i64 m) := cell_of ((hW.block a la).trans ha) 0 _ rfl
  have cb : W.cell? ⟨b, 0, none⟩ = some (.int .i64 s) := cell_of ((hW.block b lb).trans hb) 0 _ rfl
  have hs := hW.size
  have la2 : a < W.heap.size := by omega
  have lb2 : b < W.heap.size := by omega
  obtain ⟨x0, x1, x2, x3, x4, x5⟩ := x
  have HB := Lib.hid (hW.alloc hs (.cells #[.int .i64 x0, .int .i64 x1, .int .i64 x2, .int .i64 x3, .string x4, .bool x5] 89))
  clear hW ha hb
  show Calls Tryz.prog 124 #[.agg #[.int .i64 x0, .int .i64 x1, .int .i64 x2, .int .i64 x3, .string x4, .bool x5], .pointer (some ⟨a, 0, none⟩), .pointer (some ⟨b, 0, none⟩)] W _
  simp only
  cases k1 : (x1 == m)
  · have HF := Lib.hid (show (decide (x1 = m) && decide (x2 = s)) = false from by
      have h1 : ¬ x1 = m := by simpa using k1
      simp [h1])
    go_enter Tryz.func124, Tryz.ntmps124
    go_wp2_with fail
    go_ret
    exact ⟨by rw [HF.out]; rfl, HB.out⟩
  · cases k2 : (x2 == s)
    · have HF := Lib.hid (show (decide (x1 = m) && decide (x2 = s)) = false from by
        have h2 : ¬ x2 = s := by simpa using k2
        simp [h2])
      go_enter Tryz.func124, Tryz.ntmps124
      go_wp2_with fail
      go_ret
      exact ⟨by rw [HF.out]; rfl, HB.out⟩
    · have HF := Lib.hid (show (decide (x1 = m) && decide (x2 = s)) = true from by
        have h1 : x1 = m := by simpa using k1
        have h2 : x2 = s := by simpa using k2
        simp [h1, h2])
      go_enter Tryz.func124, Tryz.ntmps124
      go_wp2_with fail
      go_ret
      exact ⟨by rw [HF.out]; rfl, HB.out⟩
theorem two_al (W : World) (o1 o2 : Obj) : ((W.alloc o1).alloc o2).drew.heap[W.heap.size]? = some o1 ∧ ((W.alloc o1).alloc o2).drew.heap[W.heap.size + 1]? = some o2 ∧ Below W.heap.size W ((W.alloc o1).alloc o2).drew := by
  refine ⟨?_, ?_, (((Below.refl _ _).alloc (Nat.le_refl _) _).alloc (by simp) _).drew⟩
  · exact (Below.heap_alloc (W.alloc o1) o2 _ (by simp)).trans (heap_alloc_new W o1)
  · have := heap_alloc_new (W.alloc o1) o2
    rw [World.size_alloc] at this
    exact this
def corrL (ss2 : List Sym) (m s : Int) : Int := Lib.idxBy (fun _ (t : Sym) => decide (t.mod = m) && decide (t.st = s)) ss2 default
set_option maxRecDepth 100000 in
set_option maxHeartbeats 6400000 in
theorem corr_any (ss ss2 : List Sym) (es : List FEd) (j : Nat) (y : Sym) (m' s' : Int) (SA SB RA RB DA DB A : Option Addr) (sc sc2 nr rc nd dc nr2 rc2 nd2 dc2 c mc : Nat) (w : World)
    (hs : syD.At w (Lt w) SA ss) (hs2 : syD.At w (Lt w) SB ss2) (hp : 0 < ss2.length) (hl2 : ss2.length ≤ 100000) (he : feD.At w (Lt w) A es) (hl : es.length * 40 ≤ 140737488351232)
    (hy : ss[j]? = some y) (hk1 : y.kind ≠ 15) (hk2 : y.kind ≠ 1) (hnp : newPosL es y.mod y.st = (m', s', true)) :
    Calls Tryz.prog 75 #[.agg #[.slice SA ss.length sc, .slice RA nr rc, .slice DA nd dc], .agg #[.slice SB ss2.length sc2, .slice RB nr2 rc2, .slice DB nd2 dc2], .slice A es.length c, .slice none 0 mc, .int .i64 (j : Int)] w
      fun e w' => e = .returned (.int .i64 (corrL ss2 m' s')) ∧ Below w.heap.size w w' := by
  obtain ⟨tb, off, rfl, htb, hxc⟩ := flat_get hs j y hy
  obtain ⟨z0, hz0⟩ : ∃ z, ss2[0]? = some z := ⟨_, List.getElem?_eq_getElem hp⟩
  obtain ⟨ub, uoff, rfl, hub, _⟩ := flat_get hs2 0 z0 hz0
  have hjl := (List.getElem?_eq_some_iff.1 hy).1
  have HNP := Lib.hid (fun w' (hb : Below w.heap.size w w') => newPos_any es A c mc y.mod y.st w' (he.keep (fun b hb' => Nat.lt_of_lt_of_le hb' hb.size) (fun b hb' => hb.block b hb')) hl)
  have HNE := Lib.hid (show ∀ (w1 : World) e w', NpoPost es y.mod y.st w1 e w' → e = .returned (.tuple #[.int .i64 m', .int .i64 s', .bool true]) ∧ Below w1.heap.size w1 w' from fun w1 e w' h => by unfold NpoPost at h; rw [hnp] at h; exact h)
  have eg : ∀ args w, (callFunc 124 args).run Tryz.prog w = .ok (.enter 124 args) w := enters_of Tryz.func124 (by kernel_rfl) rfl
  obtain ⟨n2, hn2⟩ : ∃ n2, ss2.length = n2 := ⟨_, rfl⟩
  have HIX := Lib.hid (fun (a b : Nat) (W : World) (hb : Below w.heap.size w W) (ha : W.heap[a]? = some (.cells #[.int .i64 m'] 3 (0, 0))) (hb2 : W.heap[b]? = some (.cells #[.int .i64 s'] 3 (0, 0))) => (show Calls Tryz.prog 123 #[.slice (some ⟨ub, uoff, none⟩) n2 sc2, .func (.func 124) #[] #[.pointer (some ⟨a, 0, none⟩), .pointer (some ⟨b, 0, none⟩)]] W fun e w' => e = .returned (.int .i64 (corrL ss2 m' s')) ∧ Below W.heap.size W w' from by
    have := AnyQ.slices_IndexFunc Tryz.idxSy 6 Tryz.isAgg89 Tryz.sizeOf89 syC (fun _ => rfl) (fun x => decide (x.mod = m') && decide (x.st = s')) 124 #[.pointer (some ⟨a, 0, none⟩), .pointer (some ⟨b, 0, none⟩)] eg ub uoff n2 sc2 ss2 W (cor_pred m' s' a b W ha hb2) (by rw [hn2]; exact Nat.le_refl _) (by rw [hn2] at hl2; omega) (Nat.lt_of_lt_of_le hub hb.size) (fun k hk i v hi => by
      obtain ⟨b2, o2, e, hbl, hc⟩ := flat_get hs2 k (ss2[k]!) (by rw [getElem!_pos ss2 k hk]; exact List.getElem?_eq_getElem hk)
      injection e with e
      injection e with e1 e2 _
      subst e1 e2
      exact (hb.cell (p := ⟨ub, _, none⟩) hub).trans (hc i v hi))
    have e : ss2.take n2 = ss2 := by rw [← hn2]; exact List.take_length
    rw [e] at this
    exact this))
  obtain ⟨n, hn⟩ : ∃ n, ss.length = n := ⟨_, rfl⟩
  obtain ⟨ne, hne⟩ : ∃ ne, es.length = ne := ⟨_, rfl⟩
  obtain ⟨rr, hrr⟩ : ∃ rr, corrL ss2 m' s' = rr := ⟨_, rfl⟩
  rw [hrr] at HIX
  rw [hne] at HNP
  rw [hn] at hjl
  rw [hrr, hn, hn2, hne]
  have hjI : (j : Int) < n := by omega
  have hjI2 : ¬ (n : Int) ≤ j := by omega
  have hjN : ¬ n ≤ j := by omega
  obtain ⟨y0, y1, y2, y3, y4, y5⟩ := y
  simp only at hk1 hk2 HNP HNE
  have hk1' : (y0 == 15) = false := by simpa using hk1
  have hk2' : (y0 == 1) = false := by simpa using hk2
  have d0 := hxc 0 _ rfl
  have d1 := hxc 1 _ rfl
  have d2 := hxc 2 _ rfl
  have d3 := hxc 3 _ rfl
  have d4 := hxc 4 _ rfl
  have d5 := hxc 5 _ rfl
  rw [Nat.add_zero] at d0
  have htb' : tb < w.heap.size := htb
  obtain ⟨W0, hW0⟩ : ∃ W0, w.alloc (.cells #[.slice (some ⟨tb, off, none⟩) n sc, .slice RA nr rc, .slice DA nd dc] 85) = W0 := ⟨_, rfl⟩
  obtain ⟨W1, hW1⟩ : ∃ W1, W0.alloc (.cells #[.slice (some ⟨ub, uoff, none⟩) n2 sc2, .slice RB nr2 rc2, .slice DB nd2 dc2] 85) = W1 := ⟨_, rfl⟩
  obtain ⟨W2, hW2⟩ : ∃ W2, W1.alloc (.cells #[.int .i64 y0, .int .i64 y1, .int .i64 y2, .int .i64 y3, .string y4, .bool y5] 89) = W2 := ⟨_, rfl⟩
  have b0 : Below w.heap.size w W0 := by rw [← hW0]; exact (Below.refl _ _).alloc (Nat.le_refl _) _
  have x0 : W0.heap[w.heap.size]? = some (.cells #[.slice (some ⟨tb, off, none⟩) n sc, .slice RA nr rc, .slice DA nd dc] 85 (0, 0)) := by rw [← hW0]; exact heap_alloc_new w _
  have b1 : Below W0.heap.size W0 W1 := by rw [← hW1]; exact (Below.refl _ _).alloc (Nat.le_refl _) _
  have x1 : W1.heap[W0.heap.size]? = some (.cells #[.slice (some ⟨ub, uoff, none⟩) n2 sc2, .slice RB nr2 rc2, .slice DB nd2 dc2] 85 (0, 0)) := by rw [← hW1]; exact heap_alloc_new W0 _
  have b2 : Below W1.heap.size W1 W2 := by rw [← hW2]; exact (Below.refl _ _).alloc (Nat.le_refl _) _
  have x2 : W2.heap[W1.heap.size]? = some (.cells #[.int .i64 y0, .int .i64 y1, .int .i64 y2, .int .i64 y3, .string y4, .bool y5] 89 (0, 0)) := by rw [← hW2]; exact heap_alloc_new W1 _
  have x01 := (b1.block _ (lt_of_heap x0)).trans x0
  have q0 := cell_of x01 0 _ rfl
  have b01 := b0.trans (b1.mono b0.size)
  have b02 := b01.trans (b2.mono b01.size)
  have l0 := lt_of_heap x01
  have htb1 : tb < W1.heap.size := by have := b01.size; omega
  have cw : ∀ i, W1.cell? ⟨tb, i, none⟩ = w.cell? ⟨tb, i, none⟩ := fun i => b01.cell (p := ⟨tb, i, none⟩) htb'
  have e0 := (cw _).trans d0
  have e1 := (cw _).trans d1
  have e2 := (cw _).trans d2
  have e3 := (cw _).trans d3
  have e4 := (cw _).trans d4
  have e5 := (cw _).trans d5
  have x12 := (b2.block _ (lt_of_heap x1)).trans x1
  have s0 := cell_of x2 0 _ rfl
  have s1 := cell_of x2 1 _ rfl
  have s2 := cell_of x2 2 _ rfl
  have l2 := lt_of_heap x2
  have l1 := lt_of_heap x12
  have HX12 := Lib.hid x12
  have HX2 := Lib.hid x2
  have HB02 := Lib.hid b02
  have HRR := Lib.hid hrr
  clear hs hs2 he hy hz0 hxc hnp hn hne hn2 hrr hk1 hk2 d0 d1 d2 d3 d4 d5 cw x0 x1 x2 x12 b0 b1 b2 b01 b02 eg hl hp hl2
  go_enter Tryz.func75, Tryz.ntmps75
  go_wp2_with fail
  go_cut [12, 13] (fun v12 v13 wx => ∃ a b : Nat, v12 = .pointer (some ⟨a, 0, none⟩) ∧ v13 = .pointer (some ⟨b, 0, none⟩) ∧ a ≠ b ∧ W2.heap.size ≤ a ∧ W2.heap.size ≤ b ∧ wx.heap[a]? = some (.cells #[.int .i64 y1] 3 (0, 0)) ∧ wx.heap[b]? = some (.cells #[.int .i64 y2] 3 (0, 0)) ∧ Below W2.heap.size W2 wx)
  case first =>
    go_region
    all_goals
      go_wp2_with fail
      go_meet
    · obtain ⟨t1, t2, t3⟩ := two_al W2 (.cells #[.int .i64 y1] 3) (.cells #[.int .i64 y2] 3)
      exact ⟨_, _, rfl, rfl, by omega, by omega, by omega, t1, t2, t3⟩
    · obtain ⟨t1, t2, t3⟩ := two_al W2 (.cells #[.int .i64 y2] 3) (.cells #[.int .i64 y1] 3)
      exact ⟨_, _, rfl, rfl, by omega, by omega, by omega, t2, t1, t3⟩
  case rest =>
    obtain ⟨a, b, rfl, rfl, hab, ha, hb, hca, hcb, hbw⟩ := hcut
    have p2 := (hbw.block _ l2).trans HX2.out
    have p1 := (hbw.block _ l1).trans HX12.out
    have r0 := cell_of p2 0 _ rfl
    have r1 := cell_of p2 1 _ rfl
    have r2 := cell_of p2 2 _ rfl
    have r3 := cell_of p1 0 _ rfl
    have m2 := lt_of_heap p2
    have m1 := lt_of_heap p1
    have ma := lt_of_heap hca
    have mb := lt_of_heap hcb
    have hbw2 := HB02.out.trans (hbw.mono HB02.out.size)
    have HN := Lib.hid (HNP.out _ hbw2)
    have HCA := Lib.hid hca
    have HCB := Lib.hid hcb
    have HBW := Lib.hid hbw2
    have HP1 := Lib.hid p1
    clear hca hcb hbw hbw2 p1 p2
    go_wp2_with fail
    refine HN.out.mono ?_
    intro e w5 hnp
    obtain ⟨rfl, hb5⟩ := HNE.out _ _ _ hnp
    have ga := (hb5.block _ ma).trans HCA.out
    have gb := (hb5.block _ mb).trans HCB.out
    have g1 := (hb5.block _ m1).trans HP1.out
    have fa := Lib.frozen_of_heap ga 0
    have fb := Lib.frozen_of_heap gb 0
    have v0 := cell_of g1 0 _ rfl
    have na := lt_of_heap ga
    have nb := lt_of_heap gb
    have n1 := lt_of_heap g1
    have ca := cell_of ga 0 _ rfl
    have cb := cell_of gb 0 _ rfl
    have hs0 := HB02.out.size
    obtain ⟨W6, hW6⟩ : ∃ W6, (w5.setCell ⟨a, 0, none⟩ (.int .i64 m')).setCell ⟨b, 0, none⟩ (.int .i64 s') = W6 := ⟨_, rfl⟩
    have ka : W6.heap[a]? = some (.cells #[.int .i64 m'] 3 (0, 0)) := by
      rw [← hW6, Below.heap_setCell _ _ _ _ hab]
      exact heap_set ga 0 _
    have kb : W6.heap[b]? = some (.cells #[.int .i64 s'] 3 (0, 0)) := by
      rw [← hW6]
      exact heap_set ((Below.heap_setCell _ _ _ _ (fun e => hab e.symm)).trans gb) 0 _
    have hb6 : Below w.heap.size w W6 := by
      rw [← hW6]
      exact ((HBW.out.trans (hb5.mono HBW.out.size)).setCell (p := ⟨a, 0, none⟩) (by show w.heap.size ≤ a; omega) _).setCell (p := ⟨b, 0, none⟩) (by show w.heap.size ≤ b; omega) _
    have HI := Lib.hid (HIX.out a b W6 hb6 ka kb)
    have HB6 := Lib.hid hb6
    have g6 : W6.heap[W0.heap.size]? = some (.cells #[.slice (some ⟨ub, uoff, none⟩) n2 sc2, .slice RB nr2 rc2, .slice DB nd2 dc2] 85 (0, 0)) := by
      rw [← hW6, Below.heap_setCell _ _ _ _ (show W0.heap.size ≠ b by omega), Below.heap_setCell _ _ _ _ (show W0.heap.size ≠ a by omega)]
      exact g1
    have v6 := cell_of g6 0 _ rfl
    have n6 := lt_of_heap g6
    clear hb5 ga gb g1 ka kb hb6 hnp HN g6
    go_wp2_with fail
    refine HI.out.mono ?_
    rintro e w7 ⟨rfl, hb7⟩
    have HB7 := Lib.hid (HB6.out.trans (hb7.mono HB6.out.size))
    clear hb7 HI
    go_wp2_with fail
    go_ret
    exact ⟨rfl, HB7.out⟩

def violL (ex : Bool) (was now cor : Int) : Int := if ex = false ∨ (0 ≤ was ∧ now < 0) then 202 else if (was < 0 ∧ now < 0) ∨ (0 ≤ was ∧ now = cor) then 0 else 201
set_option maxHeartbeats 1600000 in
theorem viol_any (ex : Bool) (was now cor : Int) (w : World) : Calls Tryz.prog 74 #[.bool ex, .int .i64 was, .int .i64 now, .int .i64 cor] w fun e w' => e = .returned (.int .i64 (violL ex was now cor)) ∧ w' = w := by
  obtain ⟨r, hr⟩ : ∃ r, violL ex was now cor = r := ⟨_, rfl⟩
  rw [hr]
  have HR := Lib.hid hr
  clear hr
  cases ex with
  | false =>
    have HF := Lib.hid (show r = 202 by rw [← HR.out]; simp [violL])
    go_enter Tryz.func74, Tryz.ntmps74
    go_wp2_with fail
    go_ret
    exact ⟨by rw [HF.out]; rfl, rfl⟩
  | true =>
    by_cases h1 : was < 0
    · have h1' : ¬ 0 ≤ was := by omega
      by_cases h2 : now < 0
      · have HF := Lib.hid (show r = 0 by rw [← HR.out]; simp [violL, h1, h2, h1'])
        go_enter Tryz.func74, Tryz.ntmps74
        go_wp2_with fail
        go_ret
        exact ⟨by rw [HF.out]; rfl, rfl⟩
      · have HF := Lib.hid (show r = 201 by rw [← HR.out]; simp [violL, h1, h2, h1'])
        go_enter Tryz.func74, Tryz.ntmps74
        go_wp2_with fail
        go_ret
        exact ⟨by rw [HF.out]; rfl, rfl⟩
    · have h1' : 0 ≤ was := by omega
      by_cases h2 : now < 0
      · have HF := Lib.hid (show r = 202 by rw [← HR.out]; simp [violL, h2, h1'])
        go_enter Tryz.func74, Tryz.ntmps74
        go_wp2_with fail
        go_ret
        exact ⟨by rw [HF.out]; rfl, rfl⟩
      · by_cases h3 : now = cor
        · have HF := Lib.hid (show r = 0 by rw [← HR.out]; unfold violL; rw [if_neg (by simp [h2]), if_pos (.inr ⟨h1', h3⟩)])
          have h3' : (now == cor) = true := by simpa using h3
          clear h3
          go_enter Tryz.func74, Tryz.ntmps74
          go_wp2_with fail
          go_ret
          exact ⟨by rw [HF.out]; rfl, rfl⟩
        · have HF := Lib.hid (show r = 201 by rw [← HR.out]; unfold violL; rw [if_neg (by simp [h2]), if_neg (by simp [h3]; omega)])
          have h3' : (now == cor) = false := by simpa using h3
          clear h3
          go_enter Tryz.func74, Tryz.ntmps74
          go_wp2_with fail
          go_ret
          exact ⟨by rw [HF.out]; rfl, rfl⟩
def dgD : Dat Dg := flatD Dg.cells 5 (by decide) (fun _ => rfl) (fun x v hv => by simp [Dg.cells] at hv; rcases hv with rfl | rfl | rfl | rfl | rfl <;> rfl)
theorem dg_self (x0 x1 x2 x3 : Int) (x4 : ByteArray) (w : World) : (Op.equalIn 10000 99 (.agg #[.int .i64 x0, .int .i64 x1, .int .i64 x2, .int .i64 x3, .string x4]) (.agg #[.int .i64 x0, .int .i64 x1, .int .i64 x2, .int .i64 x3, .string x4])).run Tryz.prog w = .ok true w := by
  have hS : Tryz.prog.underlying 99 = some (.struct (Tryz.prog.fieldsOf 99)) := by kernel_rfl
  have hp : Tryz.prog.stoodInHeld 99 = false := by kernel_rfl
  rw [show (10000 : Nat) = 9999 + 1 from rfl, run_equalIn_agg w 9999 99 _ _ hS hp]
  simp only [Program.fieldsOf, Tryz.underlying99]
  go_simp
theorem dg_nself (x0 x1 x2 x3 : Int) (x4 : ByteArray) (w : World) : (binOp .neq 99 (.agg #[.int .i64 x0, .int .i64 x1, .int .i64 x2, .int .i64 x3, .string x4]) (.agg #[.int .i64 x0, .int .i64 x1, .int .i64 x2, .int .i64 x3, .string x4])).run Tryz.prog w = .ok (.bool false) w := by
  rw [run_neq_struct, dg_self]; rfl
set_option maxRecDepth 100000 in
set_option maxHeartbeats 1600000 in
theorem eqDgs_any (xs : List Dg) (A D : Option Addr) (c d : Nat) (w : World) (F : Nat → Prop) (h : dgD.At w F A xs) (h' : dgD.At w F D xs) (hF : ∀ b, F b → b < w.heap.size) (hm : xs.length ≤ maxLen) :
    Calls Tryz.prog 41 #[.slice A xs.length c, .slice D xs.length d] w fun e w' => e = .returned (.bool true) ∧ Below w.heap.size w w' := by
  unfold maxLen at hm
  obtain ⟨n, hn⟩ : ∃ n, xs.length = n := ⟨_, rfl⟩
  have HN := Lib.hid hn
  have HA := Lib.hid h
  have HD := Lib.hid h'
  have HF := Lib.hid hF
  rw [hn] at hm ⊢
  clear hn h h' hF
  go_enter Tryz.func41, Tryz.ntmps41
  go_wp2_with fail
  go_loopw [5] (fun i wr => ∃ k : Nat, k ≤ n ∧ i = .int .i64 k ∧ Below w.heap.size w wr) (fun i _ => n - (intOf i).toNat)
  case atStart => exact ⟨0, Nat.zero_le _, rfl, Below.refl _ _⟩
  case round =>
    obtain ⟨k, hk, rfl, hb⟩ := hrel
    by_cases hlt : k < n
    · have hkI : (k : Int) < n := by omega
      have hkl : k < xs.length := by rw [HN.out]; exact hlt
      obtain ⟨b, off, rfl, hbb, hc⟩ := flat_get HA.out k xs[k] (List.getElem?_eq_getElem hkl)
      obtain ⟨b', off', rfl, hbb', hc'⟩ := flat_get HD.out k xs[k] (List.getElem?_eq_getElem hkl)
      generalize xs[k] = x at *
      obtain ⟨x0, x1, x2, x3, x4⟩ := x
      have hbl := HF.out b hbb
      have hbl' := HF.out b' hbb'
      have cc : ∀ j u, ([.int .i64 x0, .int .i64 x1, .int .i64 x2, .int .i64 x3, .string x4] : List Value)[j]? = some u → wr.cell? ⟨b, off + k * 5 + j, none⟩ = some u := fun j u hu => (hb.cell (p := ⟨b, _, none⟩) hbl).trans (hc j u hu)
      have dd : ∀ j u, ([.int .i64 x0, .int .i64 x1, .int .i64 x2, .int .i64 x3, .string x4] : List Value)[j]? = some u → wr.cell? ⟨b', off' + k * 5 + j, none⟩ = some u := fun j u hu => (hb.cell (p := ⟨b', _, none⟩) hbl').trans (hc' j u hu)
      have c0 := cc 0 _ rfl
      have c1 := cc 1 _ rfl
      have c2 := cc 2 _ rfl
      have c3 := cc 3 _ rfl
      have c4 := cc 4 _ rfl
      have d0 := dd 0 _ rfl
      have d1 := dd 1 _ rfl
      have d2 := dd 2 _ rfl
      have d3 := dd 3 _ rfl
      have d4 := dd 4 _ rfl
      rw [Nat.add_zero] at c0 d0
      have heq := fun w => dg_nself x0 x1 x2 x3 x4 w
      clear cc dd hc hc' hbb hbb'
      go_wp2_with fail
      go_quiet (fail)
      go_wp2_with fail
      go_roundw
      case rel => exact ⟨k + 1, by omega, by go_num, below_drewN hb _⟩
      case measure => simp [intOf]; omega
    · have hkI : ¬ (k : Int) < n := by omega
      go_wp2_with fail
      go_ret
      exact ⟨rfl, hb⟩
set_option maxHeartbeats 1600000 in
theorem fileEdit_any (s e : Int) (t : ByteArray) (w : World) : Calls Tryz.prog 40 #[.int .i64 s, .int .i64 e, .string t] w fun r w' => r = .returned (.agg #[.int .i64 0, .int .i64 s, .int .i64 e, .string t]) ∧ Below w.heap.size w w' := by
  go_enter Tryz.func40, Tryz.ntmps40
  go_wp2_with fail
  refine bodyPost_ret (results_cell_row (P := Tryz.prog) (ty := 95) rfl _ _ w.heap.size 95 _ _ _ rfl (heap_alloc_new w _) Tryz.underlying95 rfl (by kernel_rfl)) rfl ?_
  exact ⟨rfl, (Below.refl _ _).alloc (Nat.le_refl _) _⟩
end Go.Proofs.YtpibenilagloaaaGreatDoor
