import Derived.Test.YtpibenilagloaaaGreatDoorMzau
import Derived.Test.YtpibenilagloaaaGreatDoorMzbj
import Derived.Test.YtpibenilagloaaaGreatDoorSya
import Derived.Deep.RegionHeld3
import Derived.Laws.MakeOwn
import Derived.Laws.OwnMore
namespace Go.Proofs.YtpibenilagloaaaGreatDoor
open Go.RowKit
set_option linter.unusedVariables false
def bigM (x : Mdl) : Bool := decide (2000 < x.src.size)
def badM (x : Mdl) : Bool := !isIdB x.nm
def dupAt (xs : List Mdl) (i : Nat) : Bool := match xs[i]? with
  | some y => decide (0 ≤ idxOf (xs.take i) y.nm)
  | none => false
def dupsM (xs : List Mdl) : Bool := (List.range xs.length).any (dupAt xs)
def valM (xs : List Mdl) : Int := if 8 < xs.length then 2 else if xs.any bigM then 2 else if xs.any badM then 3 else if dupsM xs then 6 else 0
theorem idx_empty (A : Option Addr) (c : Nat) (f : Value) (w : World) :
    Calls Tryz.prog 126 #[.slice A 0 c, f] w fun e w' => e = .returned (.int .i64 (-1)) ∧ w' = w := by
  go_enter Tryz.func126, Tryz.ntmps126
  go_wp2_with fail
  go_loopw [8] (fun i wr => i = .int .i64 0 ∧ wr = w) (fun _ _ => 0)
  case atStart => exact ⟨rfl, rfl⟩
  case round =>
    obtain ⟨rfl, rfl⟩ := hrel
    go_wp2_with fail
    go_ret
    exact ⟨rfl, rfl⟩
theorem contains_empty (A : Option Addr) (c : Nat) (f : Value) (w : World) :
    Calls Tryz.prog 78 #[.slice A 0 c, f] w fun e w' => e = .returned (.bool false) ∧ w' = w := by
  go_enter Tryz.func78, Tryz.ntmps78
  go_wp2_with fail
  refine (idx_empty A c f w).mono ?_
  rintro e w1 ⟨rfl, rfl⟩
  go_wp2_with fail
  go_ret
  exact ⟨rfl, rfl⟩
theorem contains_md (p : Mdl → Bool) (f : Nat) (ef : ∀ args w, (callFunc f args).run Tryz.prog w = .ok (.enter f args) w) (xs : List Mdl) (A : Option Addr) (c : Nat) (w : World) (hp : PredBelow Tryz.prog f #[] (fun x : Mdl => .agg (mdC x).toArray) p w) (h : mdD.At w (Lt w) A xs) (hl : xs.length ≤ 9223372036854775807) :
    Calls Tryz.prog 78 #[.slice A xs.length c, .func (.func f) #[] #[]] w fun e w' => e = .returned (.bool (xs.any p)) ∧ Below w.heap.size w w' := by
  match xs, h, hl with
  | [], h, hl => exact (contains_empty A c _ w).mono fun e w' ⟨he, hw⟩ => ⟨he, by rw [hw]; exact Below.refl _ _⟩
  | x :: r, h, hl =>
    obtain ⟨b, off, rfl, hb, _⟩ := flat_get h 0 x rfl
    have := AnyQ.slices_ContainsFunc Tryz.conMd 2 Tryz.isAgg48 Tryz.sizeOf48 mdC (fun _ => rfl) p f #[] ef b off (x :: r).length c (x :: r) w hp (Nat.le_refl _) hl hb (fun j hj i v hi => by
      obtain ⟨b2, off2, e, _, hc⟩ := flat_get h j ((x :: r)[j]!) (by rw [getElem!_pos (x :: r) j hj]; exact List.getElem?_eq_getElem hj)
      injection e with e
      injection e with e1 e2 _
      subst e1 e2
      exact hc i v hi)
    rw [List.take_length] at this
    exact this
set_option maxRecDepth 100000 in
set_option maxHeartbeats 3200000 in
theorem val_any (xs : List Mdl) (A : Option Addr) (c : Nat) (w : World) (hA : AscAt w) (h : mdD.At w (Lt w) A xs) (hcap : xs.length ≤ c) (hl : xs.length ≤ maxLen) :
    Calls Tryz.prog 42 #[.slice A xs.length c] w fun e w' => e = .returned (.int .i64 (valM xs)) ∧ Below w.heap.size w w' := by
  have e1 : ∀ args w, (callFunc 79 args).run Tryz.prog w = .ok (.enter 79 args) w := enters_of Tryz.func79 (by kernel_rfl) rfl
  have e2 : ∀ args w, (callFunc 80 args).run Tryz.prog w = .ok (.enter 80 args) w := enters_of Tryz.func80 (by kernel_rfl) rfl
  have h63 : xs.length ≤ 9223372036854775807 := by unfold maxLen at hl; omega
  have hc1 := Lib.hid (fun w' (hb' : Below w.heap.size w w') => contains_md bigM 79 e1 xs A c w' (big_below w') (h.keep (fun b hb => Nat.lt_of_lt_of_le hb hb'.size) (fun b hb => hb'.block b hb)) h63)
  have hc2 := Lib.hid (fun w' (hb' : Below w.heap.size w w') => contains_md badM 80 e2 xs A c w' (name_below w' (AscAt.below hA hb')) (h.keep (fun b hb => Nat.lt_of_lt_of_le hb hb'.size) (fun b hb => hb'.block b hb)) h63)
  have HV := Lib.hid (show valM xs = if 8 < xs.length then 2 else if xs.any bigM then 2 else if xs.any badM then 3 else if dupsM xs then 6 else 0 from rfl)
  have HDM := Lib.hid (show dupsM xs = (List.range xs.length).any (dupAt xs) from rfl)
  have HDA := Lib.hid (show ∀ i y, xs[i]? = some y → dupAt xs i = decide (0 ≤ idxOf (xs.take i) y.nm) from fun i y hy => by unfold dupAt; rw [hy])
  have HIX := Lib.hid (fun (b off j : Nat) (nm : ByteArray) w' (hb' : Below w.heap.size w w') (hj : j ≤ xs.length) (hb : b < w.heap.size) (hA : A = some ⟨b, off, none⟩) => indexOf_any b off j c xs nm w' hj (by omega) (Nat.lt_of_lt_of_le hb hb'.size) (fun k y hy i u hi => by
    obtain ⟨b2, off2, e, hb2, hc⟩ := flat_get h k y hy
    rw [hA] at e
    injection e with e
    injection e with e1 e2 _
    subst e1 e2
    exact (hb'.cell (p := ⟨b, _, none⟩) hb2).trans (hc i u hi)))
  have HH := Lib.hid h
  obtain ⟨n, hn⟩ : ∃ n, xs.length = n := ⟨_, rfl⟩
  have HN := Lib.hid hn
  rw [hn] at hc1 hc2 hcap hl h63
  rw [hn]
  obtain ⟨B1, hB1⟩ : ∃ B1, xs.any bigM = B1 := ⟨_, rfl⟩
  obtain ⟨B2, hB2⟩ : ∃ B2, xs.any badM = B2 := ⟨_, rfl⟩
  rw [hB1] at hc1
  rw [hB2] at hc2
  have HB1 := Lib.hid hB1
  have HB2 := Lib.hid hB2
  clear h hA e1 e2 hn hB1 hB2
  by_cases g8 : 8 < n
  · have HF := Lib.hid (show valM xs = 2 by rw [HV.out, if_pos (by rw [HN.out]; exact g8)])
    have g8I : (8 : Int) < n := by omega
    go_enter Tryz.func42, Tryz.ntmps42
    go_wp2_with fail
    go_ret
    exact ⟨by rw [HF.out]; rfl, Below.refl _ _⟩
  have g8I : ¬ (8 : Int) < n := by omega
  have HV1 := Lib.hid (show valM xs = if xs.any bigM then 2 else if xs.any badM then 3 else if dupsM xs then 6 else 0 by rw [HV.out, if_neg (by rw [HN.out]; exact g8)])
  have H1 := Lib.hid (hc1.out w (Below.refl _ _))
  clear HV hc1
  cases B1 with
  | true =>
    have HF := Lib.hid (show valM xs = 2 by rw [HV1.out, HB1.out]; rfl)
    go_enter Tryz.func42, Tryz.ntmps42
    go_wp2_with fail
    refine H1.out.mono ?_
    rintro e w1 ⟨rfl, hb1⟩
    have HB1 := Lib.hid hb1
    clear hb1 H1
    go_wp2_with fail
    go_ret
    exact ⟨by rw [HF.out]; rfl, HB1.out⟩
  | false =>
    have HV2 := Lib.hid (show valM xs = if xs.any badM then 3 else if dupsM xs then 6 else 0 by rw [HV1.out, HB1.out]; rfl)
    clear HV1
    cases B2 with
    | true =>
      have HF := Lib.hid (show valM xs = 3 by rw [HV2.out, HB2.out]; rfl)
      go_enter Tryz.func42, Tryz.ntmps42
      go_wp2_with fail
      refine H1.out.mono ?_
      rintro e w1 ⟨rfl, hb1⟩
      have HB1 := Lib.hid hb1
      have H2 := Lib.hid (hc2.out w1 hb1)
      clear hb1 H1 hc2
      go_wp2_with fail
      refine H2.out.mono ?_
      rintro e w2 ⟨rfl, hb2⟩
      have HB2 := Lib.hid (HB1.out.trans (hb2.mono HB1.out.size))
      clear hb2 H2
      go_wp2_with fail
      go_ret
      exact ⟨by rw [HF.out]; rfl, HB2.out⟩
    | false =>
      have HV3 := Lib.hid (show valM xs = if dupsM xs then 6 else 0 by rw [HV2.out, HB2.out]; rfl)
      clear HV2
      go_enter Tryz.func42, Tryz.ntmps42
      go_wp2_with fail
      refine H1.out.mono ?_
      rintro e w1 ⟨rfl, hb1⟩
      have HB1 := Lib.hid hb1
      have H2 := Lib.hid (hc2.out w1 hb1)
      clear hb1 H1 hc2
      go_wp2_with fail
      refine H2.out.mono ?_
      rintro e w2 ⟨rfl, hb2⟩
      have HB2 := Lib.hid (HB1.out.trans (hb2.mono HB1.out.size))
      clear hb2 H2
      go_wp2_with fail
      go_loopw [16] (fun i wr => ∃ k : Nat, k ≤ n ∧ i = .int .i64 (k : Int) ∧ (∀ t, t < k → dupAt xs t = false) ∧ Below w.heap.size w wr) (fun i _ => n - (intOf i).toNat)
      case atStart => exact ⟨0, Nat.zero_le _, rfl, fun t ht => absurd ht (Nat.not_lt_zero _), HB2.out⟩
      case round =>
        obtain ⟨k, hk, rfl, hall, hb3⟩ := hrel
        have HALL := Lib.hid hall
        clear hall
        by_cases hlt : k < n
        · have hkI : (k : Int) < n := by omega
          have hkl : k < xs.length := by rw [HN.out]; exact hlt
          obtain ⟨b, off, rfl, htb, hxc⟩ := flat_get HH.out k xs[k] (List.getElem?_eq_getElem hkl)
          have hda := HDA.out k xs[k] (List.getElem?_eq_getElem hkl)
          generalize xs[k] = x at *
          obtain ⟨nm, src⟩ := x
          simp only at hda
          have htb' : b < w.heap.size := htb
          have d0 : wr.cell? ⟨b, off + k * 2, none⟩ = some (.string nm) := (hb3.cell (p := ⟨b, _, none⟩) htb').trans (hxc 0 _ rfl)
          have d1 : wr.cell? ⟨b, off + k * 2 + 1, none⟩ = some (.string src) := (hb3.cell (p := ⟨b, _, none⟩) htb').trans (hxc 1 _ rfl)
          have hs3 := hb3.size
          have hbw : b < wr.heap.size := by omega
          have HB3 := Lib.hid (hb3.alloc hs3 (.cells #[.string nm, .string src] 48))
          have H4 := Lib.hid (HIX.out b off k nm _ HB3.out.drew (by omega) htb' rfl)
          have hkc : (k : Int) ≤ c := by omega
          obtain ⟨r, hr⟩ : ∃ r, idxOf (xs.take k) nm = r := ⟨_, rfl⟩
          rw [hr] at H4 hda
          have HDK := Lib.hid hda
          clear hb3 hxc hr hda
          by_cases hr0 : 0 ≤ r
          · have HF := Lib.hid (show valM xs = 6 by
              rw [HV3.out, if_pos]
              rw [HDM.out, List.any_eq_true]
              exact ⟨k, List.mem_range.2 hkl, by rw [HDK.out]; exact decide_eq_true hr0⟩)
            go_wp2_with fail
            go_region_with (go_at_call 82; refine H4.out.mono ?_; rintro e w4 ⟨rfl, hb4⟩)
            all_goals
              have HB4 := Lib.hid ((HB3.out.drew).trans (hb4.mono HB3.out.size))
              clear hb4 H4
              go_wp2_with fail
              go_ret
              exact ⟨by rw [HF.out]; rfl, HB4.out⟩
          · go_wp2_with fail
            go_region_with (go_at_call 82; refine H4.out.mono ?_; rintro e w4 ⟨rfl, hb4⟩)
            all_goals
              have HB4 := Lib.hid ((HB3.out.drew).trans (hb4.mono HB3.out.size))
              clear hb4 H4
              go_wp2_with fail
              go_roundw
              case rel => exact ⟨k + 1, by omega, by go_num, fun t ht => by
                by_cases e : t < k
                · exact HALL.out t e
                · obtain rfl : t = k := by omega
                  rw [HDK.out]; exact decide_eq_false (by omega), HB4.out⟩
              case measure => simp [intOf]; omega
        · have hkI : ¬ (k : Int) < n := by omega
          have HF := Lib.hid (show valM xs = 0 by
            rw [HV3.out, if_neg]
            rw [HDM.out, Bool.not_eq_true, List.any_eq_false]
            intro t ht
            rw [HALL.out t (by have := List.mem_range.1 ht; rw [HN.out] at this; omega)]
            decide)
          have HB := Lib.hid hb3
          clear hb3
          go_wp2_with fail
          go_ret
          exact ⟨by rw [HF.out]; rfl, HB.out⟩

theorem kinds_any (w : World) : Calls Tryz.prog 107 #[] w fun e w' => e = .returned (.slice (some ⟨w.heap.size, 0, none⟩) 9 9) ∧ w' = w.alloc (.cells #[.int .i64 2, .int .i64 3, .int .i64 4, .int .i64 5, .int .i64 7, .int .i64 8, .int .i64 9, .int .i64 10, .int .i64 14] 3) := by
  go_enter Tryz.func107, Tryz.ntmps107
  go_wp2_with fail
  go_ret
  exact ⟨rfl, rfl⟩
theorem heap_set6 {w : World} {g : Nat} {cs : Array Value} {t : TypeId} {fr : Nat × Nat} (h : w.heap[g]? = some (.cells cs t fr)) (v0 v1 v2 v3 v4 v5 : Value) (W : World) (hW : ((((((w.setCell ⟨g, 0, none⟩ v0).setCell ⟨g, 1, none⟩ v1).setCell ⟨g, 2, none⟩ v2).setCell ⟨g, 3, none⟩ v3).setCell ⟨g, 4, none⟩ v4).setCell ⟨g, 5, none⟩ v5) = W) :
    W.heap[g]? = some (.cells ((((((cs.setIfInBounds 0 v0).setIfInBounds 1 v1).setIfInBounds 2 v2).setIfInBounds 3 v3).setIfInBounds 4 v4).setIfInBounds 5 v5) t fr) := by
  rw [← hW]
  exact heap_set (heap_set (heap_set (heap_set (heap_set (heap_set h 0 v0) 1 v1) 2 v2) 3 v3) 4 v4) 5 v5
set_option maxRecDepth 100000 in
set_option maxHeartbeats 3200000 in
theorem isMem_any (ss : List Sym) (S : Option Addr) (c : Nat) (y z : Sym) (w : World) (hs : syD.At w (Lt w) S ss) (hy : y.par < 0 ∨ y.par = 4) (hz : ss[4]? = some z) (hz1 : z.kind = 1) (hz2 : z.par < 0) :
    Calls Tryz.prog 109 #[.slice S ss.length c, .agg (syC y).toArray] w fun e w' => e = .returned (.bool false) ∧ Below w.heap.size w w' := by
  obtain ⟨n, hn⟩ : ∃ n, ss.length = n := ⟨_, rfl⟩
  have h4 : 4 < n := by rw [← hn]; exact (List.getElem?_eq_some_iff.1 hz).1
  obtain ⟨tb, off, rfl, htb, hxc⟩ := flat_get hs 4 z hz
  rw [hn]
  obtain ⟨z0, z1, z2, z3, z4, z5⟩ := z
  obtain ⟨y0, y1, y2, y3, y4, y5⟩ := y
  simp only at hz1 hz2 hy
  subst hz1
  have d0 := hxc 0 _ rfl
  have d1 := hxc 1 _ rfl
  have d2 := hxc 2 _ rfl
  have d3 := hxc 3 _ rfl
  have d4 := hxc 4 _ rfl
  have d5 := hxc 5 _ rfl
  rw [Nat.add_zero] at d0
  have htb' : tb < w.heap.size := htb
  obtain ⟨W1, hW1⟩ : ∃ W1, w.alloc (.cells #[.int .i64 y0, .int .i64 y1, .int .i64 y2, .int .i64 y3, .string y4, .bool y5] 89) = W1 := ⟨_, rfl⟩
  have b1 : Below w.heap.size w W1 := by rw [← hW1]; exact (Below.refl _ _).alloc (Nat.le_refl _) _
  have x1 : W1.heap[w.heap.size]? = some (.cells #[.int .i64 y0, .int .i64 y1, .int .i64 y2, .int .i64 y3, .string y4, .bool y5] 89 (0, 0)) := by rw [← hW1]; exact heap_alloc_new w _
  have cw : ∀ i, W1.cell? ⟨tb, i, none⟩ = w.cell? ⟨tb, i, none⟩ := fun i => b1.cell (p := ⟨tb, i, none⟩) htb'
  have e0 := (cw _).trans d0
  have e1 := (cw _).trans d1
  have e2 := (cw _).trans d2
  have e3 := (cw _).trans d3
  have e4 := (cw _).trans d4
  have e5 := (cw _).trans d5
  have htw : tb < W1.heap.size := by have := b1.size; omega
  have q0 := cell_of x1 0 _ rfl
  have q1 := cell_of x1 1 _ rfl
  have q2 := cell_of x1 2 _ rfl
  have q3 := cell_of x1 3 _ rfl
  have q4 := cell_of x1 4 _ rfl
  have q5 := cell_of x1 5 _ rfl
  have l1 := lt_of_heap x1
  have f0 := Lib.frozen_of_heap x1 0
  have f1 := Lib.frozen_of_heap x1 1
  have f2 := Lib.frozen_of_heap x1 2
  have f3 := Lib.frozen_of_heap x1 3
  have f4 := Lib.frozen_of_heap x1 4
  have f5 := Lib.frozen_of_heap x1 5
  obtain ⟨W2, hW2⟩ : ∃ W2, ((((((W1.setCell ⟨w.heap.size, 0, none⟩ (.int .i64 1)).setCell ⟨w.heap.size, 1, none⟩ (.int .i64 z1)).setCell ⟨w.heap.size, 2, none⟩ (.int .i64 z2)).setCell ⟨w.heap.size, 3, none⟩ (.int .i64 z3)).setCell ⟨w.heap.size, 4, none⟩ (.string z4)).setCell ⟨w.heap.size, 5, none⟩ (.bool z5)) = W2 := ⟨_, rfl⟩
  have x2 := heap_set6 x1 _ _ _ _ _ _ W2 hW2
  have r0 := cell_of x2 0 (.int .i64 1) rfl
  have r3 := cell_of x2 3 (.int .i64 z3) rfl
  have l2 := lt_of_heap x2
  have b2 : Below w.heap.size w W2 := by
    rw [← hW2]
    exact (((((b1.setCell (p := ⟨w.heap.size, 0, none⟩) (Nat.le_refl _) _).setCell (p := ⟨w.heap.size, 1, none⟩) (Nat.le_refl _) _).setCell (p := ⟨w.heap.size, 2, none⟩) (Nat.le_refl _) _).setCell (p := ⟨w.heap.size, 3, none⟩) (Nat.le_refl _) _).setCell (p := ⟨w.heap.size, 4, none⟩) (Nat.le_refl _) _).setCell (p := ⟨w.heap.size, 5, none⟩) (Nat.le_refl _) _
  have B1 := Lib.hid b1
  have B2 := Lib.hid b2
  have h4I : (4 : Int) < n := by omega
  have hr3 := Lib.hid r3
  have hl2 := Lib.hid l2
  clear hs hz hn hxc cw d0 d1 d2 d3 d4 d5 x1 x2 b1 b2 r3
  show Calls Tryz.prog 109 #[.slice (some ⟨tb, off, none⟩) n c, .agg #[.int .i64 y0, .int .i64 y1, .int .i64 y2, .int .i64 y3, .string y4, .bool y5]] w _
  rcases hy with hy | rfl
  · go_enter Tryz.func109, Tryz.ntmps109
    go_wp2_with fail
    go_loopw [5] (fun i wr => i = .int .i64 0 ∧ wr = W1) (fun _ _ => 0)
    case atStart => exact ⟨rfl, rfl⟩
    case round =>
      obtain ⟨rfl, rfl⟩ := hrel
      go_wp2_with fail
      go_ret
      exact ⟨rfl, B1.out⟩
  · go_enter Tryz.func109, Tryz.ntmps109
    go_wp2_with fail
    clear hW1
    go_loopw [5] (fun i wr => (i = .int .i64 0 ∧ wr = W1) ∨ (i = .int .i64 1 ∧ wr = W2)) (fun i _ => 2 - (intOf i).toNat)
    case atStart => exact .inl ⟨rfl, rfl⟩
    case round =>
      rcases hrel with ⟨rfl, rfl⟩ | ⟨rfl, rfl⟩
      · go_wp2_with fail
        go_roundw
        case rel => exact .inr ⟨rfl, trivial⟩
        case measure => simp [intOf]
      · have t3 := hr3.out
        have t4 := hl2.out
        clear hW2
        go_wp2_with fail
        go_ret
        exact ⟨rfl, B2.out⟩

theorem at_s5 {x a b c d e : Oper} {l : List Oper} {n : Nat} (h : l.toArray[n]? = some x) : (a :: b :: c :: d :: e :: l).toArray[n + 5]? = some x := by simpa using h
def kindsL : List Int := [2, 3, 4, 5, 7, 8, 9, 10, 14]
theorem kinds_con (b : Nat) (k : Int) (w : World) (h : w.heap[b]? = some (.cells #[.int .i64 2, .int .i64 3, .int .i64 4, .int .i64 5, .int .i64 7, .int .i64 8, .int .i64 9, .int .i64 10, .int .i64 14] 3 (0, 0))) :
    Calls Tryz.prog 106 #[.slice (some ⟨b, 0, none⟩) 9 9, .int .i64 k] w fun e w' => e = .returned (.bool (kindsL.contains k)) ∧ w' = w := by
  have h2 := Tryz.slices_Contains_int b 0 9 9 kindsL k w (by decide) (by decide) (fun j hj => by
    rw [Nat.zero_add]
    refine (Lib.cell_of_heap h j).trans ?_
    match j, hj with
    | 0, _ => rfl
    | 1, _ => rfl
    | 2, _ => rfl
    | 3, _ => rfl
    | 4, _ => rfl
    | 5, _ => rfl
    | 6, _ => rfl
    | 7, _ => rfl
    | 8, _ => rfl
    | j + 9, hj => exact absurd hj (by simp [kindsL]))
  have e : kindsL.take 9 = kindsL := rfl
  rw [e] at h2
  exact h2
set_option maxRecDepth 100000 in
set_option maxHeartbeats 6400000 in
theorem sbr_no (S : Option Addr) (n c : Nat) (y : Sym) (w : World) (hk : kindsL.contains y.kind = false) :
    Calls Tryz.prog 67 #[.slice S n c, .agg (syC y).toArray] w fun e w' => e = .returned (.bool false) ∧ Below w.heap.size w w' := by
  obtain ⟨y0, y1, y2, y3, y4, y5⟩ := y
  simp only at hk
  obtain ⟨W1, hW1⟩ : ∃ W1, w.alloc (.cells #[.int .i64 y0, .int .i64 y1, .int .i64 y2, .int .i64 y3, .string y4, .bool y5] 89) = W1 := ⟨_, rfl⟩
  have b1 : Below w.heap.size w W1 := by rw [← hW1]; exact (Below.refl _ _).alloc (Nat.le_refl _) _
  have x1 : W1.heap[w.heap.size]? = some (.cells #[.int .i64 y0, .int .i64 y1, .int .i64 y2, .int .i64 y3, .string y4, .bool y5] 89 (0, 0)) := by rw [← hW1]; exact heap_alloc_new w _
  have l1 := lt_of_heap x1
  have HSW := Lib.hid (show ∀ u, Below W1.heap.size W1 u → (fun u : World => u.cell? ⟨w.heap.size, 0, none⟩ = some (.int .i64 y0) ∧ u.cell? ⟨w.heap.size, 1, none⟩ = some (.int .i64 y1) ∧ u.cell? ⟨w.heap.size, 2, none⟩ = some (.int .i64 y2) ∧ u.cell? ⟨w.heap.size, 3, none⟩ = some (.int .i64 y3) ∧ u.cell? ⟨w.heap.size, 4, none⟩ = some (.string y4) ∧ u.cell? ⟨w.heap.size, 5, none⟩ = some (.bool y5)) u from fun u hu => ⟨cell_of ((hu.block _ l1).trans x1) 0 _ rfl, cell_of ((hu.block _ l1).trans x1) 1 _ rfl, cell_of ((hu.block _ l1).trans x1) 2 _ rfl, cell_of ((hu.block _ l1).trans x1) 3 _ rfl, cell_of ((hu.block _ l1).trans x1) 4 _ rfl, cell_of ((hu.block _ l1).trans x1) 5 _ rfl⟩)
  have B1 := Lib.hid b1
  have HKA := Lib.hid (fun W => kinds_any W)
  have HKC := Lib.hid (fun b W h => kinds_con b y0 W h)
  rw [hk] at HKC
  clear b1 x1 hk
  show Calls Tryz.prog 67 #[.slice S n c, .agg #[.int .i64 y0, .int .i64 y1, .int .i64 y2, .int .i64 y3, .string y4, .bool y5]] w _
  go_enter Tryz.func67, Tryz.ntmps67
  go_wp2_with fail
  clear hW1
  refine wp_region_held_drew (S := (fun u : World => u.cell? ⟨w.heap.size, 0, none⟩ = some (.int .i64 y0) ∧ u.cell? ⟨w.heap.size, 1, none⟩ = some (.int .i64 y1) ∧ u.cell? ⟨w.heap.size, 2, none⟩ = some (.int .i64 y2) ∧ u.cell? ⟨w.heap.size, 3, none⟩ = some (.int .i64 y3) ∧ u.cell? ⟨w.heap.size, 4, none⟩ = some (.string y4) ∧ u.cell? ⟨w.heap.size, 5, none⟩ = some (.bool y5))) (by kernel_rfl) (HSW.out _ (Below.refl _ _).drew) ?_
  intro hS
  refine wpAnyH_take (i := 1) (v := ?v1) (at_succ at_zero) (by kernel_rfl) (by kernel_rfl) (by kernel_rfl) (fun _ _ _ h => h) (Or.inl ⟨by rfl, ?y1⟩) (by assumption) ?z1
  case y1 => intro wq hSw; obtain ⟨s0, s1, s2, s3, s4, s5⟩ := hSw; go_simp; try with_reducible rfl
  try simp only [Act.put, List.setIfInBounds_toArray, List.set_cons_zero, List.set_cons_succ]
  refine wpAnyH_take (i := 2) (v := ?v2) (at_succ (at_succ at_zero)) (by kernel_rfl) (by kernel_rfl) (by kernel_rfl) (fun _ _ _ h => h) (Or.inl ⟨by rfl, ?y2⟩) (by assumption) ?z2
  case y2 => intro wq hSw; obtain ⟨s0, s1, s2, s3, s4, s5⟩ := hSw; go_simp; try with_reducible rfl
  try simp only [Act.put, List.setIfInBounds_toArray, List.set_cons_zero, List.set_cons_succ]
  refine wpAnyH_ready (rs := [0]) (by kernel_rfl) (by simp) (AllReadyH.cons at_zero (fun K hK => ?_) AllReadyH.nil)
  go_simp
  refine (HKA.out _).mono ?_
  rintro e w3 ⟨rfl, hw3⟩
  have b3 : Hid (Below W1.heap.size W1 w3) := Lib.hid (by rw [hw3]; exact (Below.refl _ _).drew.alloc (Nat.le_refl _) _)
  have x3 : Hid (w3.heap[W1.heap.size]? = some (.cells #[.int .i64 2, .int .i64 3, .int .i64 4, .int .i64 5, .int .i64 7, .int .i64 8, .int .i64 9, .int .i64 10, .int .i64 14] 3 (0, 0))) := Lib.hid (by rw [hw3]; exact heap_alloc_new W1.drew _)
  clear hw3
  refine hK.out _ _ ?s3 (fun hS => ?_)
  case s3 => exact HSW.out _ b3.out
  clear hK K
  try simp only [Act.put, List.setIfInBounds_toArray, List.set_cons_zero, List.set_cons_succ]
  refine wpAnyH_ready (rs := [3]) (by kernel_rfl) (by simp) (AllReadyH.cons (at_succ (at_succ (at_succ at_zero))) (fun K hK => ?_) AllReadyH.nil)
  go_simp
  refine (HKC.out _ _ x3.out).mono ?_
  rintro e w4 ⟨rfl, rfl⟩
  refine hK.out _ _ ?s4 (fun hS => ?_)
  case s4 => exact hS
  clear hK K
  try simp only [Act.put, List.setIfInBounds_toArray, List.set_cons_zero, List.set_cons_succ]
  refine wpAnyH_take (i := 4) (v := ?v5) (at_succ (at_succ (at_succ (at_succ at_zero)))) (by kernel_rfl) (by kernel_rfl) (by kernel_rfl) (fun _ _ _ h => h) (Or.inl ⟨by rfl, ?y5⟩) (by assumption) ?z5
  case y5 => intro wq hSw; obtain ⟨s0, s1, s2, s3, s4, s5⟩ := hSw; go_simp; try with_reducible rfl
  try simp only [Act.put, List.setIfInBounds_toArray, List.set_cons_zero, List.set_cons_succ]
  refine wpAnyH_take (i := 5) (v := undef) (at_s5 at_zero) (by kernel_rfl) (by kernel_rfl) (by kernel_rfl) (fun _ _ _ h => h) (Or.inr ⟨by rfl, rfl⟩) (by assumption) ?z6
  try simp only [Act.put, List.setIfInBounds_toArray, List.set_cons_zero, List.set_cons_succ]
  refine wpAnyH_take (i := 6) (v := undef) (at_s5 (at_succ at_zero)) (by kernel_rfl) (by kernel_rfl) (by kernel_rfl) (fun _ _ _ h => h) (Or.inr ⟨by rfl, rfl⟩) (by assumption) ?z7
  try simp only [Act.put, List.setIfInBounds_toArray, List.set_cons_zero, List.set_cons_succ]
  refine wpAnyH_take (i := 7) (v := undef) (at_s5 (at_succ (at_succ at_zero))) (by kernel_rfl) (by kernel_rfl) (by kernel_rfl) (fun _ _ _ h => h) (Or.inr ⟨by rfl, rfl⟩) (by assumption) ?z8
  try simp only [Act.put, List.setIfInBounds_toArray, List.set_cons_zero, List.set_cons_succ]
  refine wpAnyH_take (i := 8) (v := ?v9) (at_s5 (at_succ (at_succ (at_succ at_zero)))) (by kernel_rfl) (by kernel_rfl) (by kernel_rfl) (fun _ _ _ h => h) (Or.inl ⟨by rfl, ?y9⟩) (by assumption) ?z9
  case y9 => intro wq hSw; obtain ⟨s0, s1, s2, s3, s4, s5⟩ := hSw; go_simp; try with_reducible rfl
  try simp only [Act.put, List.setIfInBounds_toArray, List.set_cons_zero, List.set_cons_succ]
  refine wpAnyH_take (i := 9) (v := ?v10) (at_s5 (at_succ (at_succ (at_succ (at_succ at_zero))))) (by kernel_rfl) (by kernel_rfl) (by kernel_rfl) (fun _ _ _ h => h) (Or.inl ⟨by rfl, ?y10⟩) (by assumption) ?z10
  case y10 => intro wq hSw; obtain ⟨s0, s1, s2, s3, s4, s5⟩ := hSw; go_simp; try with_reducible rfl
  try simp only [Act.put, List.setIfInBounds_toArray, List.set_cons_zero, List.set_cons_succ]
  refine wpAnyH_take (i := 10) (v := undef) (at_s5 (at_s5 at_zero)) (by kernel_rfl) (by kernel_rfl) (by kernel_rfl) (fun _ _ _ h => h) (Or.inr ⟨by rfl, rfl⟩) (by assumption) ?z11
  try simp only [Act.put, List.setIfInBounds_toArray, List.set_cons_zero, List.set_cons_succ]
  refine wpAnyH_take (i := 11) (v := undef) (at_s5 (at_s5 (at_succ at_zero))) (by kernel_rfl) (by kernel_rfl) (by kernel_rfl) (fun _ _ _ h => h) (Or.inr ⟨by rfl, rfl⟩) (by assumption) ?z12
  try simp only [Act.put, List.setIfInBounds_toArray, List.set_cons_zero, List.set_cons_succ]
  refine wpAnyH_take (i := 12) (v := undef) (at_s5 (at_s5 (at_succ (at_succ at_zero)))) (by kernel_rfl) (by kernel_rfl) (by kernel_rfl) (fun _ _ _ h => h) (Or.inr ⟨by rfl, rfl⟩) (by assumption) ?z13
  try simp only [Act.put, List.setIfInBounds_toArray, List.set_cons_zero, List.set_cons_succ]
  refine wpAnyH_take (i := 13) (v := undef) (at_s5 (at_s5 (at_succ (at_succ (at_succ at_zero))))) (by kernel_rfl) (by kernel_rfl) (by kernel_rfl) (fun _ _ _ h => h) (Or.inr ⟨by rfl, rfl⟩) (by assumption) ?z14
  try simp only [Act.put, List.setIfInBounds_toArray, List.set_cons_zero, List.set_cons_succ]
  refine wpAnyH_take (i := 14) (v := ?v15) (at_s5 (at_s5 (at_succ (at_succ (at_succ (at_succ at_zero)))))) (by kernel_rfl) (by kernel_rfl) (by kernel_rfl) (fun _ _ _ h => h) (Or.inl ⟨by rfl, ?y15⟩) (by assumption) ?z15
  case y15 => intro wq hSw; obtain ⟨s0, s1, s2, s3, s4, s5⟩ := hSw; go_simp; try with_reducible rfl
  try simp only [Act.put, List.setIfInBounds_toArray, List.set_cons_zero, List.set_cons_succ]
  refine wpAnyH_take (i := 15) (v := ?v16) (at_s5 (at_s5 (at_s5 at_zero))) (by kernel_rfl) (by kernel_rfl) (by kernel_rfl) (fun _ _ _ h => h) (Or.inl ⟨by rfl, ?y16⟩) (by assumption) ?z16
  case y16 => intro wq hSw; obtain ⟨s0, s1, s2, s3, s4, s5⟩ := hSw; go_simp; try with_reducible rfl
  try simp only [Act.put, List.setIfInBounds_toArray, List.set_cons_zero, List.set_cons_succ]
  refine wpAnyH_take (i := 16) (v := undef) (at_s5 (at_s5 (at_s5 (at_succ at_zero)))) (by kernel_rfl) (by kernel_rfl) (by kernel_rfl) (fun _ _ _ h => h) (Or.inr ⟨by rfl, rfl⟩) (by assumption) ?z17
  try simp only [Act.put, List.setIfInBounds_toArray, List.set_cons_zero, List.set_cons_succ]
  refine wpAnyH_take (i := 17) (v := undef) (at_s5 (at_s5 (at_s5 (at_succ (at_succ at_zero))))) (by kernel_rfl) (by kernel_rfl) (by kernel_rfl) (fun _ _ _ h => h) (Or.inr ⟨by rfl, rfl⟩) (by assumption) ?z18
  try simp only [Act.put, List.setIfInBounds_toArray, List.set_cons_zero, List.set_cons_succ]
  refine wpAnyH_take (i := 18) (v := undef) (at_s5 (at_s5 (at_s5 (at_succ (at_succ (at_succ at_zero)))))) (by kernel_rfl) (by kernel_rfl) (by kernel_rfl) (fun _ _ _ h => h) (Or.inr ⟨by rfl, rfl⟩) (by assumption) ?z19
  try simp only [Act.put, List.setIfInBounds_toArray, List.set_cons_zero, List.set_cons_succ]
  refine wpAnyH_take (i := 19) (v := ?v20) (at_s5 (at_s5 (at_s5 (at_succ (at_succ (at_succ (at_succ at_zero))))))) (by kernel_rfl) (by kernel_rfl) (by kernel_rfl) (fun _ _ _ h => h) (Or.inl ⟨by rfl, ?y20⟩) (by assumption) ?z20
  case y20 => intro wq hSw; obtain ⟨s0, s1, s2, s3, s4, s5⟩ := hSw; go_simp; try with_reducible rfl
  try simp only [Act.put, List.setIfInBounds_toArray, List.set_cons_zero, List.set_cons_succ]
  refine wpAnyH_take (i := 20) (v := ?v21) (at_s5 (at_s5 (at_s5 (at_s5 at_zero)))) (by kernel_rfl) (by kernel_rfl) (by kernel_rfl) (fun _ _ _ h => h) (Or.inl ⟨by rfl, ?y21⟩) (by assumption) ?z21
  case y21 => intro wq hSw; obtain ⟨s0, s1, s2, s3, s4, s5⟩ := hSw; go_simp; try with_reducible rfl
  try simp only [Act.put, List.setIfInBounds_toArray, List.set_cons_zero, List.set_cons_succ]
  refine wpAnyH_take (i := 21) (v := undef) (at_s5 (at_s5 (at_s5 (at_s5 (at_succ at_zero))))) (by kernel_rfl) (by kernel_rfl) (by kernel_rfl) (fun _ _ _ h => h) (Or.inr ⟨by rfl, rfl⟩) (by assumption) ?z22
  try simp only [Act.put, List.setIfInBounds_toArray, List.set_cons_zero, List.set_cons_succ]
  refine wpAnyH_take (i := 22) (v := undef) (at_s5 (at_s5 (at_s5 (at_s5 (at_succ (at_succ at_zero)))))) (by kernel_rfl) (by kernel_rfl) (by kernel_rfl) (fun _ _ _ h => h) (Or.inr ⟨by rfl, rfl⟩) (by assumption) ?z23
  try simp only [Act.put, List.setIfInBounds_toArray, List.set_cons_zero, List.set_cons_succ]
  refine wpAnyH_take (i := 23) (v := undef) (at_s5 (at_s5 (at_s5 (at_s5 (at_succ (at_succ (at_succ at_zero))))))) (by kernel_rfl) (by kernel_rfl) (by kernel_rfl) (fun _ _ _ h => h) (Or.inr ⟨by rfl, rfl⟩) (by assumption) ?z24
  try simp only [Act.put, List.setIfInBounds_toArray, List.set_cons_zero, List.set_cons_succ]
  refine wpAnyH_take (i := 24) (v := undef) (at_s5 (at_s5 (at_s5 (at_s5 (at_succ (at_succ (at_succ (at_succ at_zero)))))))) (by kernel_rfl) (by kernel_rfl) (by kernel_rfl) (fun _ _ _ h => h) (Or.inr ⟨by rfl, rfl⟩) (by assumption) ?z25
  try simp only [Act.put, List.setIfInBounds_toArray, List.set_cons_zero, List.set_cons_succ]
  refine wpAnyH_take (i := 25) (v := undef) (at_s5 (at_s5 (at_s5 (at_s5 (at_s5 at_zero))))) (by kernel_rfl) (by kernel_rfl) (by kernel_rfl) (fun _ _ _ h => h) (Or.inr ⟨by rfl, rfl⟩) (by assumption) ?z26
  try simp only [Act.put, List.setIfInBounds_toArray, List.set_cons_zero, List.set_cons_succ]
  refine wpAnyH_take (i := 26) (v := undef) (at_s5 (at_s5 (at_s5 (at_s5 (at_s5 (at_succ at_zero)))))) (by kernel_rfl) (by kernel_rfl) (by kernel_rfl) (fun _ _ _ h => h) (Or.inr ⟨by rfl, rfl⟩) (by assumption) ?z27
  try simp only [Act.put, List.setIfInBounds_toArray, List.set_cons_zero, List.set_cons_succ]
  refine wpAnyH_take (i := 27) (v := undef) (at_s5 (at_s5 (at_s5 (at_s5 (at_s5 (at_succ (at_succ at_zero))))))) (by kernel_rfl) (by kernel_rfl) (by kernel_rfl) (fun _ _ _ h => h) (Or.inr ⟨by rfl, rfl⟩) (by assumption) ?z28
  try simp only [Act.put, List.setIfInBounds_toArray, List.set_cons_zero, List.set_cons_succ]
  refine wpAnyH_take (i := 28) (v := undef) (at_s5 (at_s5 (at_s5 (at_s5 (at_s5 (at_succ (at_succ (at_succ at_zero)))))))) (by kernel_rfl) (by kernel_rfl) (by kernel_rfl) (fun _ _ _ h => h) (Or.inr ⟨by rfl, rfl⟩) (by assumption) ?z29
  try simp only [Act.put, List.setIfInBounds_toArray, List.set_cons_zero, List.set_cons_succ]
  refine wpAnyH_take (i := 29) (v := undef) (at_s5 (at_s5 (at_s5 (at_s5 (at_s5 (at_succ (at_succ (at_succ (at_succ at_zero))))))))) (by kernel_rfl) (by kernel_rfl) (by kernel_rfl) (fun _ _ _ h => h) (Or.inr ⟨by rfl, rfl⟩) (by assumption) ?z30
  try simp only [Act.put, List.setIfInBounds_toArray, List.set_cons_zero, List.set_cons_succ]
  refine wpAnyH_take (i := 30) (v := ?v31) (at_s5 (at_s5 (at_s5 (at_s5 (at_s5 (at_s5 at_zero)))))) (by kernel_rfl) (by kernel_rfl) (by kernel_rfl) (fun _ _ _ h => h) (Or.inl ⟨by rfl, ?y31⟩) (by assumption) ?z31
  case y31 => intro wq hSw; obtain ⟨s0, s1, s2, s3, s4, s5⟩ := hSw; go_simp; try with_reducible rfl
  try simp only [Act.put, List.setIfInBounds_toArray, List.set_cons_zero, List.set_cons_succ]
  refine wpAnyH_take (i := 31) (v := ?v32) (at_s5 (at_s5 (at_s5 (at_s5 (at_s5 (at_s5 (at_succ at_zero))))))) (by kernel_rfl) (by kernel_rfl) (by kernel_rfl) (fun _ _ _ h => h) (Or.inl ⟨by rfl, ?y32⟩) (by assumption) ?z32
  case y32 => intro wq hSw; obtain ⟨s0, s1, s2, s3, s4, s5⟩ := hSw; go_simp; try with_reducible rfl
  try simp only [Act.put, List.setIfInBounds_toArray, List.set_cons_zero, List.set_cons_succ]
  refine wpAnyH_take (i := 32) (v := undef) (at_s5 (at_s5 (at_s5 (at_s5 (at_s5 (at_s5 (at_succ (at_succ at_zero)))))))) (by kernel_rfl) (by kernel_rfl) (by kernel_rfl) (fun _ _ _ h => h) (Or.inr ⟨by rfl, rfl⟩) (by assumption) ?z33
  try simp only [Act.put, List.setIfInBounds_toArray, List.set_cons_zero, List.set_cons_succ]
  refine wpAnyH_take (i := 33) (v := undef) (at_s5 (at_s5 (at_s5 (at_s5 (at_s5 (at_s5 (at_succ (at_succ (at_succ at_zero))))))))) (by kernel_rfl) (by kernel_rfl) (by kernel_rfl) (fun _ _ _ h => h) (Or.inr ⟨by rfl, rfl⟩) (by assumption) ?z34
  try simp only [Act.put, List.setIfInBounds_toArray, List.set_cons_zero, List.set_cons_succ]
  refine wpAnyH_take (i := 34) (v := undef) (at_s5 (at_s5 (at_s5 (at_s5 (at_s5 (at_s5 (at_succ (at_succ (at_succ (at_succ at_zero)))))))))) (by kernel_rfl) (by kernel_rfl) (by kernel_rfl) (fun _ _ _ h => h) (Or.inr ⟨by rfl, rfl⟩) (by assumption) ?z35
  try simp only [Act.put, List.setIfInBounds_toArray, List.set_cons_zero, List.set_cons_succ]
  refine wpAnyH_take (i := 35) (v := undef) (at_s5 (at_s5 (at_s5 (at_s5 (at_s5 (at_s5 (at_s5 at_zero))))))) (by kernel_rfl) (by kernel_rfl) (by kernel_rfl) (fun _ _ _ h => h) (Or.inr ⟨by rfl, rfl⟩) (by assumption) ?z36
  try simp only [Act.put, List.setIfInBounds_toArray, List.set_cons_zero, List.set_cons_succ]
  refine wpAnyH_take (i := 36) (v := ?v37) (at_s5 (at_s5 (at_s5 (at_s5 (at_s5 (at_s5 (at_s5 (at_succ at_zero)))))))) (by kernel_rfl) (by kernel_rfl) (by kernel_rfl) (fun _ _ _ h => h) (Or.inl ⟨by rfl, ?y37⟩) (by assumption) ?z37
  case y37 => intro wq hSw; obtain ⟨s0, s1, s2, s3, s4, s5⟩ := hSw; go_simp; try with_reducible rfl
  try simp only [Act.put, List.setIfInBounds_toArray, List.set_cons_zero, List.set_cons_succ]
  refine wpAnyH_take (i := 37) (v := ?v38) (at_s5 (at_s5 (at_s5 (at_s5 (at_s5 (at_s5 (at_s5 (at_succ (at_succ at_zero))))))))) (by kernel_rfl) (by kernel_rfl) (by kernel_rfl) (fun _ _ _ h => h) (Or.inl ⟨by rfl, ?y38⟩) (by assumption) ?z38
  case y38 => intro wq hSw; obtain ⟨s0, s1, s2, s3, s4, s5⟩ := hSw; go_simp; try with_reducible rfl
  try simp only [Act.put, List.setIfInBounds_toArray, List.set_cons_zero, List.set_cons_succ]
  refine wpAnyH_done (by kernel_rfl) ?_ _
  go_wp2_with fail
  go_ret
  exact ⟨rfl, (B1.out.trans (b3.out.mono B1.out.size))⟩
set_option maxRecDepth 100000 in
set_option maxHeartbeats 6400000 in
theorem sbr_yes (ss : List Sym) (S : Option Addr) (c : Nat) (y1 y2 y3 : Int) (z : Sym) (w : World) (hs : syD.At w (Lt w) S ss) (hy : y3 < 0 ∨ y3 = 4) (hz : ss[4]? = some z) (hz1 : z.kind = 1) (hz2 : z.par < 0) :
    Calls Tryz.prog 67 #[.slice S ss.length c, .agg (syC ⟨2, y1, y2, y3, ⟨#[103]⟩, false⟩).toArray] w fun e w' => e = .returned (.bool true) ∧ Below w.heap.size w w' := by
  obtain ⟨W1, hW1⟩ : ∃ W1, w.alloc (.cells #[.int .i64 2, .int .i64 y1, .int .i64 y2, .int .i64 y3, .string ⟨#[103]⟩, .bool false] 89) = W1 := ⟨_, rfl⟩
  have b1 : Below w.heap.size w W1 := by rw [← hW1]; exact (Below.refl _ _).alloc (Nat.le_refl _) _
  have x1 : W1.heap[w.heap.size]? = some (.cells #[.int .i64 2, .int .i64 y1, .int .i64 y2, .int .i64 y3, .string ⟨#[103]⟩, .bool false] 89 (0, 0)) := by rw [← hW1]; exact heap_alloc_new w _
  have l1 := lt_of_heap x1
  have HSW := Lib.hid (show ∀ u, Below W1.heap.size W1 u → (fun u : World => u.cell? ⟨w.heap.size, 0, none⟩ = some (.int .i64 2) ∧ u.cell? ⟨w.heap.size, 1, none⟩ = some (.int .i64 y1) ∧ u.cell? ⟨w.heap.size, 2, none⟩ = some (.int .i64 y2) ∧ u.cell? ⟨w.heap.size, 3, none⟩ = some (.int .i64 y3) ∧ u.cell? ⟨w.heap.size, 4, none⟩ = some (.string ⟨#[103]⟩) ∧ u.cell? ⟨w.heap.size, 5, none⟩ = some (.bool false)) u from fun u hu => ⟨cell_of ((hu.block _ l1).trans x1) 0 _ rfl, cell_of ((hu.block _ l1).trans x1) 1 _ rfl, cell_of ((hu.block _ l1).trans x1) 2 _ rfl, cell_of ((hu.block _ l1).trans x1) 3 _ rfl, cell_of ((hu.block _ l1).trans x1) 4 _ rfl, cell_of ((hu.block _ l1).trans x1) 5 _ rfl⟩)
  have B1 := Lib.hid b1
  have HKA := Lib.hid (fun W => kinds_any W)
  have HKC := Lib.hid (fun b W h => kinds_con b 2 W h)
  have e1 : kindsL.contains 2 = true := by rfl
  rw [e1] at HKC
  have HHP := Lib.hid (fun W => Tryz.strings_HasPrefix ⟨#[103]⟩ ⟨#[95]⟩ W)
  have e2 : Lib.hasPrefix (⟨#[103]⟩ : ByteArray).data.toList (⟨#[95]⟩ : ByteArray).data.toList = false := by rfl
  rw [e2] at HHP
  have HIM := Lib.hid (fun W (hb : Below W1.heap.size W1 W) => isMem_any ss S c ⟨2, y1, y2, y3, ⟨#[103]⟩, false⟩ z W (hs.keep (fun b hb' => Nat.lt_of_lt_of_le (Nat.lt_of_lt_of_le hb' b1.size) hb.size) (fun b hb' => (hb.block b (Nat.lt_of_lt_of_le hb' b1.size)).trans (b1.block b hb'))) hy hz hz1 hz2)
  simp only [syC] at HIM
  obtain ⟨n, hn⟩ : ∃ n, ss.length = n := ⟨_, rfl⟩
  rw [hn] at HIM
  rw [hn]
  clear b1 x1 hs hy hz hz1 hz2 hn e1 e2
  show Calls Tryz.prog 67 #[.slice S n c, .agg #[.int .i64 2, .int .i64 y1, .int .i64 y2, .int .i64 y3, .string ⟨#[103]⟩, .bool false]] w _
  go_enter Tryz.func67, Tryz.ntmps67
  go_wp2_with fail
  clear hW1
  refine wp_region_held_drew (S := (fun u : World => u.cell? ⟨w.heap.size, 0, none⟩ = some (.int .i64 2) ∧ u.cell? ⟨w.heap.size, 1, none⟩ = some (.int .i64 y1) ∧ u.cell? ⟨w.heap.size, 2, none⟩ = some (.int .i64 y2) ∧ u.cell? ⟨w.heap.size, 3, none⟩ = some (.int .i64 y3) ∧ u.cell? ⟨w.heap.size, 4, none⟩ = some (.string ⟨#[103]⟩) ∧ u.cell? ⟨w.heap.size, 5, none⟩ = some (.bool false))) (by kernel_rfl) (HSW.out _ (Below.refl _ _).drew) ?_
  intro hS
  refine wpAnyH_take (i := 1) (v := ?v1) (at_succ at_zero) (by kernel_rfl) (by kernel_rfl) (by kernel_rfl) (fun _ _ _ h => h) (Or.inl ⟨by rfl, ?y1⟩) (by assumption) ?z1
  case y1 => intro wq hSw; obtain ⟨s0, s1, s2, s3, s4, s5⟩ := hSw; go_simp; try with_reducible rfl
  try simp only [Act.put, List.setIfInBounds_toArray, List.set_cons_zero, List.set_cons_succ]
  refine wpAnyH_take (i := 2) (v := ?v2) (at_succ (at_succ at_zero)) (by kernel_rfl) (by kernel_rfl) (by kernel_rfl) (fun _ _ _ h => h) (Or.inl ⟨by rfl, ?y2⟩) (by assumption) ?z2
  case y2 => intro wq hSw; obtain ⟨s0, s1, s2, s3, s4, s5⟩ := hSw; go_simp; try with_reducible rfl
  try simp only [Act.put, List.setIfInBounds_toArray, List.set_cons_zero, List.set_cons_succ]
  refine wpAnyH_ready (rs := [0]) (by kernel_rfl) (by simp) (AllReadyH.cons at_zero (fun K hK => ?_) AllReadyH.nil)
  go_simp
  refine (HKA.out _).mono ?_
  rintro e w3 ⟨rfl, hw3⟩
  have b3 : Hid (Below W1.heap.size W1 w3) := Lib.hid (by rw [hw3]; exact (Below.refl _ _).drew.alloc (Nat.le_refl _) _)
  have x3 : Hid (w3.heap[W1.heap.size]? = some (.cells #[.int .i64 2, .int .i64 3, .int .i64 4, .int .i64 5, .int .i64 7, .int .i64 8, .int .i64 9, .int .i64 10, .int .i64 14] 3 (0, 0))) := Lib.hid (by rw [hw3]; exact heap_alloc_new W1.drew _)
  clear hw3
  refine hK.out _ _ ?s3 (fun hS => ?_)
  case s3 => exact HSW.out _ b3.out
  clear hK K
  try simp only [Act.put, List.setIfInBounds_toArray, List.set_cons_zero, List.set_cons_succ]
  refine wpAnyH_ready (rs := [3]) (by kernel_rfl) (by simp) (AllReadyH.cons (at_succ (at_succ (at_succ at_zero))) (fun K hK => ?_) AllReadyH.nil)
  go_simp
  refine (HKC.out _ _ x3.out).mono ?_
  rintro e w4 ⟨rfl, rfl⟩
  refine hK.out _ _ ?s4 (fun hS => ?_)
  case s4 => exact hS
  clear hK K
  try simp only [Act.put, List.setIfInBounds_toArray, List.set_cons_zero, List.set_cons_succ]
  refine wpAnyH_take (i := 4) (v := ?v5) (at_succ (at_succ (at_succ (at_succ at_zero)))) (by kernel_rfl) (by kernel_rfl) (by kernel_rfl) (fun _ _ _ h => h) (Or.inl ⟨by rfl, ?y5⟩) (by assumption) ?z5
  case y5 => intro wq hSw; obtain ⟨s0, s1, s2, s3, s4, s5⟩ := hSw; go_simp; try with_reducible rfl
  try simp only [Act.put, List.setIfInBounds_toArray, List.set_cons_zero, List.set_cons_succ]
  refine wpAnyH_take (i := 5) (v := ?v6) (at_s5 at_zero) (by kernel_rfl) (by kernel_rfl) (by kernel_rfl) (fun _ _ _ h => h) (Or.inl ⟨by rfl, ?y6⟩) (by assumption) ?z6
  case y6 => intro wq hSw; obtain ⟨s0, s1, s2, s3, s4, s5⟩ := hSw; go_simp; try with_reducible rfl
  try simp only [Act.put, List.setIfInBounds_toArray, List.set_cons_zero, List.set_cons_succ]
  refine wpAnyH_take (i := 6) (v := ?v7) (at_s5 (at_succ at_zero)) (by kernel_rfl) (by kernel_rfl) (by kernel_rfl) (fun _ _ _ h => h) (Or.inl ⟨by rfl, ?y7⟩) (by assumption) ?z7
  case y7 => intro wq hSw; obtain ⟨s0, s1, s2, s3, s4, s5⟩ := hSw; go_simp; try with_reducible rfl
  try simp only [Act.put, List.setIfInBounds_toArray, List.set_cons_zero, List.set_cons_succ]
  refine wpAnyH_take (i := 7) (v := ?v8) (at_s5 (at_succ (at_succ at_zero))) (by kernel_rfl) (by kernel_rfl) (by kernel_rfl) (fun _ _ _ h => h) (Or.inl ⟨by rfl, ?y8⟩) (by assumption) ?z8
  case y8 => intro wq hSw; obtain ⟨s0, s1, s2, s3, s4, s5⟩ := hSw; go_simp; try with_reducible rfl
  try simp only [Act.put, List.setIfInBounds_toArray, List.set_cons_zero, List.set_cons_succ]
  refine wpAnyH_take (i := 8) (v := ?v9) (at_s5 (at_succ (at_succ (at_succ at_zero)))) (by kernel_rfl) (by kernel_rfl) (by kernel_rfl) (fun _ _ _ h => h) (Or.inl ⟨by rfl, ?y9⟩) (by assumption) ?z9
  case y9 => intro wq hSw; obtain ⟨s0, s1, s2, s3, s4, s5⟩ := hSw; go_simp; try with_reducible rfl
  try simp only [Act.put, List.setIfInBounds_toArray, List.set_cons_zero, List.set_cons_succ]
  refine wpAnyH_take (i := 9) (v := ?v10) (at_s5 (at_succ (at_succ (at_succ (at_succ at_zero))))) (by kernel_rfl) (by kernel_rfl) (by kernel_rfl) (fun _ _ _ h => h) (Or.inl ⟨by rfl, ?y10⟩) (by assumption) ?z10
  case y10 => intro wq hSw; obtain ⟨s0, s1, s2, s3, s4, s5⟩ := hSw; go_simp; try with_reducible rfl
  try simp only [Act.put, List.setIfInBounds_toArray, List.set_cons_zero, List.set_cons_succ]
  refine wpAnyH_take (i := 10) (v := ?v11) (at_s5 (at_s5 at_zero)) (by kernel_rfl) (by kernel_rfl) (by kernel_rfl) (fun _ _ _ h => h) (Or.inl ⟨by rfl, ?y11⟩) (by assumption) ?z11
  case y11 => intro wq hSw; obtain ⟨s0, s1, s2, s3, s4, s5⟩ := hSw; go_simp; try with_reducible rfl
  try simp only [Act.put, List.setIfInBounds_toArray, List.set_cons_zero, List.set_cons_succ]
  refine wpAnyH_take (i := 11) (v := ?v12) (at_s5 (at_s5 (at_succ at_zero))) (by kernel_rfl) (by kernel_rfl) (by kernel_rfl) (fun _ _ _ h => h) (Or.inl ⟨by rfl, ?y12⟩) (by assumption) ?z12
  case y12 => intro wq hSw; obtain ⟨s0, s1, s2, s3, s4, s5⟩ := hSw; go_simp; try with_reducible rfl
  try simp only [Act.put, List.setIfInBounds_toArray, List.set_cons_zero, List.set_cons_succ]
  refine wpAnyH_ready (rs := [12]) (by kernel_rfl) (by simp) (AllReadyH.cons (at_s5 (at_s5 (at_succ (at_succ at_zero)))) (fun K hK => ?_) AllReadyH.nil)
  go_simp
  refine (HHP.out _).mono ?_
  rintro e w4 ⟨rfl, rfl⟩
  refine hK.out _ _ ?s13 (fun hS => ?_)
  case s13 => exact hS
  clear hK K
  try simp only [Act.put, List.setIfInBounds_toArray, List.set_cons_zero, List.set_cons_succ]
  refine wpAnyH_take (i := 13) (v := ?v14) (at_s5 (at_s5 (at_succ (at_succ (at_succ at_zero))))) (by kernel_rfl) (by kernel_rfl) (by kernel_rfl) (fun _ _ _ h => h) (Or.inl ⟨by rfl, ?y14⟩) (by assumption) ?z14
  case y14 => intro wq hSw; obtain ⟨s0, s1, s2, s3, s4, s5⟩ := hSw; go_simp; try with_reducible rfl
  try simp only [Act.put, List.setIfInBounds_toArray, List.set_cons_zero, List.set_cons_succ]
  refine wpAnyH_take (i := 14) (v := ?v15) (at_s5 (at_s5 (at_succ (at_succ (at_succ (at_succ at_zero)))))) (by kernel_rfl) (by kernel_rfl) (by kernel_rfl) (fun _ _ _ h => h) (Or.inl ⟨by rfl, ?y15⟩) (by assumption) ?z15
  case y15 => intro wq hSw; obtain ⟨s0, s1, s2, s3, s4, s5⟩ := hSw; go_simp; try with_reducible rfl
  try simp only [Act.put, List.setIfInBounds_toArray, List.set_cons_zero, List.set_cons_succ]
  refine wpAnyH_take (i := 15) (v := ?v16) (at_s5 (at_s5 (at_s5 at_zero))) (by kernel_rfl) (by kernel_rfl) (by kernel_rfl) (fun _ _ _ h => h) (Or.inl ⟨by rfl, ?y16⟩) (by assumption) ?z16
  case y16 => intro wq hSw; obtain ⟨s0, s1, s2, s3, s4, s5⟩ := hSw; go_simp; try with_reducible rfl
  try simp only [Act.put, List.setIfInBounds_toArray, List.set_cons_zero, List.set_cons_succ]
  refine wpAnyH_take (i := 16) (v := ?v17) (at_s5 (at_s5 (at_s5 (at_succ at_zero)))) (by kernel_rfl) (by kernel_rfl) (by kernel_rfl) (fun _ _ _ h => h) (Or.inl ⟨by rfl, ?y17⟩) (by assumption) ?z17
  case y17 => intro wq hSw; obtain ⟨s0, s1, s2, s3, s4, s5⟩ := hSw; go_simp; try with_reducible rfl
  try simp only [Act.put, List.setIfInBounds_toArray, List.set_cons_zero, List.set_cons_succ]
  refine wpAnyH_take (i := 17) (v := ?v18) (at_s5 (at_s5 (at_s5 (at_succ (at_succ at_zero))))) (by kernel_rfl) (by kernel_rfl) (by kernel_rfl) (fun _ _ _ h => h) (Or.inl ⟨by rfl, ?y18⟩) (by assumption) ?z18
  case y18 => intro wq hSw; obtain ⟨s0, s1, s2, s3, s4, s5⟩ := hSw; go_simp; try with_reducible rfl
  try simp only [Act.put, List.setIfInBounds_toArray, List.set_cons_zero, List.set_cons_succ]
  refine wpAnyH_take (i := 18) (v := ?v19) (at_s5 (at_s5 (at_s5 (at_succ (at_succ (at_succ at_zero)))))) (by kernel_rfl) (by kernel_rfl) (by kernel_rfl) (fun _ _ _ h => h) (Or.inl ⟨by rfl, ?y19⟩) (by assumption) ?z19
  case y19 => intro wq hSw; obtain ⟨s0, s1, s2, s3, s4, s5⟩ := hSw; go_simp; try with_reducible rfl
  try simp only [Act.put, List.setIfInBounds_toArray, List.set_cons_zero, List.set_cons_succ]
  refine wpAnyH_take (i := 19) (v := ?v20) (at_s5 (at_s5 (at_s5 (at_succ (at_succ (at_succ (at_succ at_zero))))))) (by kernel_rfl) (by kernel_rfl) (by kernel_rfl) (fun _ _ _ h => h) (Or.inl ⟨by rfl, ?y20⟩) (by assumption) ?z20
  case y20 => intro wq hSw; obtain ⟨s0, s1, s2, s3, s4, s5⟩ := hSw; go_simp; try with_reducible rfl
  try simp only [Act.put, List.setIfInBounds_toArray, List.set_cons_zero, List.set_cons_succ]
  refine wpAnyH_take (i := 20) (v := ?v21) (at_s5 (at_s5 (at_s5 (at_s5 at_zero)))) (by kernel_rfl) (by kernel_rfl) (by kernel_rfl) (fun _ _ _ h => h) (Or.inl ⟨by rfl, ?y21⟩) (by assumption) ?z21
  case y21 => intro wq hSw; obtain ⟨s0, s1, s2, s3, s4, s5⟩ := hSw; go_simp; try with_reducible rfl
  try simp only [Act.put, List.setIfInBounds_toArray, List.set_cons_zero, List.set_cons_succ]
  refine wpAnyH_take (i := 21) (v := ?v22) (at_s5 (at_s5 (at_s5 (at_s5 (at_succ at_zero))))) (by kernel_rfl) (by kernel_rfl) (by kernel_rfl) (fun _ _ _ h => h) (Or.inl ⟨by rfl, ?y22⟩) (by assumption) ?z22
  case y22 => intro wq hSw; obtain ⟨s0, s1, s2, s3, s4, s5⟩ := hSw; go_simp; try with_reducible rfl
  try simp only [Act.put, List.setIfInBounds_toArray, List.set_cons_zero, List.set_cons_succ]
  refine wpAnyH_take (i := 22) (v := ?v23) (at_s5 (at_s5 (at_s5 (at_s5 (at_succ (at_succ at_zero)))))) (by kernel_rfl) (by kernel_rfl) (by kernel_rfl) (fun _ _ _ h => h) (Or.inl ⟨by rfl, ?y23⟩) (by assumption) ?z23
  case y23 => intro wq hSw; obtain ⟨s0, s1, s2, s3, s4, s5⟩ := hSw; go_simp; try with_reducible rfl
  try simp only [Act.put, List.setIfInBounds_toArray, List.set_cons_zero, List.set_cons_succ]
  refine wpAnyH_take (i := 23) (v := ?v24) (at_s5 (at_s5 (at_s5 (at_s5 (at_succ (at_succ (at_succ at_zero))))))) (by kernel_rfl) (by kernel_rfl) (by kernel_rfl) (fun _ _ _ h => h) (Or.inl ⟨by rfl, ?y24⟩) (by assumption) ?z24
  case y24 => intro wq hSw; obtain ⟨s0, s1, s2, s3, s4, s5⟩ := hSw; go_simp; try with_reducible rfl
  try simp only [Act.put, List.setIfInBounds_toArray, List.set_cons_zero, List.set_cons_succ]
  refine wpAnyH_take (i := 24) (v := ?v25) (at_s5 (at_s5 (at_s5 (at_s5 (at_succ (at_succ (at_succ (at_succ at_zero)))))))) (by kernel_rfl) (by kernel_rfl) (by kernel_rfl) (fun _ _ _ h => h) (Or.inl ⟨by rfl, ?y25⟩) (by assumption) ?z25
  case y25 => intro wq hSw; obtain ⟨s0, s1, s2, s3, s4, s5⟩ := hSw; go_simp; try with_reducible rfl
  try simp only [Act.put, List.setIfInBounds_toArray, List.set_cons_zero, List.set_cons_succ]
  refine wpAnyH_take (i := 25) (v := ?v26) (at_s5 (at_s5 (at_s5 (at_s5 (at_s5 at_zero))))) (by kernel_rfl) (by kernel_rfl) (by kernel_rfl) (fun _ _ _ h => h) (Or.inl ⟨by rfl, ?y26⟩) (by assumption) ?z26
  case y26 => intro wq hSw; obtain ⟨s0, s1, s2, s3, s4, s5⟩ := hSw; go_simp; try with_reducible rfl
  try simp only [Act.put, List.setIfInBounds_toArray, List.set_cons_zero, List.set_cons_succ]
  refine wpAnyH_take (i := 26) (v := ?v27) (at_s5 (at_s5 (at_s5 (at_s5 (at_s5 (at_succ at_zero)))))) (by kernel_rfl) (by kernel_rfl) (by kernel_rfl) (fun _ _ _ h => h) (Or.inl ⟨by rfl, ?y27⟩) (by assumption) ?z27
  case y27 => intro wq hSw; obtain ⟨s0, s1, s2, s3, s4, s5⟩ := hSw; go_simp; try with_reducible rfl
  try simp only [Act.put, List.setIfInBounds_toArray, List.set_cons_zero, List.set_cons_succ]
  refine wpAnyH_take (i := 27) (v := ?v28) (at_s5 (at_s5 (at_s5 (at_s5 (at_s5 (at_succ (at_succ at_zero))))))) (by kernel_rfl) (by kernel_rfl) (by kernel_rfl) (fun _ _ _ h => h) (Or.inl ⟨by rfl, ?y28⟩) (by assumption) ?z28
  case y28 => intro wq hSw; obtain ⟨s0, s1, s2, s3, s4, s5⟩ := hSw; go_simp; try with_reducible rfl
  try simp only [Act.put, List.setIfInBounds_toArray, List.set_cons_zero, List.set_cons_succ]
  refine wpAnyH_take (i := 28) (v := ?v29) (at_s5 (at_s5 (at_s5 (at_s5 (at_s5 (at_succ (at_succ (at_succ at_zero)))))))) (by kernel_rfl) (by kernel_rfl) (by kernel_rfl) (fun _ _ _ h => h) (Or.inl ⟨by rfl, ?y29⟩) (by assumption) ?z29
  case y29 => intro wq hSw; obtain ⟨s0, s1, s2, s3, s4, s5⟩ := hSw; go_simp; try with_reducible rfl
  try simp only [Act.put, List.setIfInBounds_toArray, List.set_cons_zero, List.set_cons_succ]
  refine wpAnyH_take (i := 29) (v := ?v30) (at_s5 (at_s5 (at_s5 (at_s5 (at_s5 (at_succ (at_succ (at_succ (at_succ at_zero))))))))) (by kernel_rfl) (by kernel_rfl) (by kernel_rfl) (fun _ _ _ h => h) (Or.inl ⟨by rfl, ?y30⟩) (by assumption) ?z30
  case y30 => intro wq hSw; obtain ⟨s0, s1, s2, s3, s4, s5⟩ := hSw; go_simp; try with_reducible rfl
  try simp only [Act.put, List.setIfInBounds_toArray, List.set_cons_zero, List.set_cons_succ]
  refine wpAnyH_take (i := 30) (v := ?v31) (at_s5 (at_s5 (at_s5 (at_s5 (at_s5 (at_s5 at_zero)))))) (by kernel_rfl) (by kernel_rfl) (by kernel_rfl) (fun _ _ _ h => h) (Or.inl ⟨by rfl, ?y31⟩) (by assumption) ?z31
  case y31 => intro wq hSw; obtain ⟨s0, s1, s2, s3, s4, s5⟩ := hSw; go_simp; try with_reducible rfl
  try simp only [Act.put, List.setIfInBounds_toArray, List.set_cons_zero, List.set_cons_succ]
  refine wpAnyH_take (i := 31) (v := ?v32) (at_s5 (at_s5 (at_s5 (at_s5 (at_s5 (at_s5 (at_succ at_zero))))))) (by kernel_rfl) (by kernel_rfl) (by kernel_rfl) (fun _ _ _ h => h) (Or.inl ⟨by rfl, ?y32⟩) (by assumption) ?z32
  case y32 => intro wq hSw; obtain ⟨s0, s1, s2, s3, s4, s5⟩ := hSw; go_simp; try with_reducible rfl
  try simp only [Act.put, List.setIfInBounds_toArray, List.set_cons_zero, List.set_cons_succ]
  refine wpAnyH_take (i := 32) (v := ?v33) (at_s5 (at_s5 (at_s5 (at_s5 (at_s5 (at_s5 (at_succ (at_succ at_zero)))))))) (by kernel_rfl) (by kernel_rfl) (by kernel_rfl) (fun _ _ _ h => h) (Or.inl ⟨by rfl, ?y33⟩) (by assumption) ?z33
  case y33 => intro wq hSw; obtain ⟨s0, s1, s2, s3, s4, s5⟩ := hSw; go_simp; try with_reducible rfl
  try simp only [Act.put, List.setIfInBounds_toArray, List.set_cons_zero, List.set_cons_succ]
  refine wpAnyH_take (i := 33) (v := ?v34) (at_s5 (at_s5 (at_s5 (at_s5 (at_s5 (at_s5 (at_succ (at_succ (at_succ at_zero))))))))) (by kernel_rfl) (by kernel_rfl) (by kernel_rfl) (fun _ _ _ h => h) (Or.inl ⟨by rfl, ?y34⟩) (by assumption) ?z34
  case y34 => intro wq hSw; obtain ⟨s0, s1, s2, s3, s4, s5⟩ := hSw; go_simp; try with_reducible rfl
  try simp only [Act.put, List.setIfInBounds_toArray, List.set_cons_zero, List.set_cons_succ]
  refine wpAnyH_ready (rs := [34]) (by kernel_rfl) (by simp) (AllReadyH.cons (at_s5 (at_s5 (at_s5 (at_s5 (at_s5 (at_s5 (at_succ (at_succ (at_succ (at_succ at_zero)))))))))) (fun K hK => ?_) AllReadyH.nil)
  go_simp
  refine (HIM.out _ b3.out).mono ?_
  rintro e w5 ⟨rfl, hb5⟩
  have b5 : Hid (Below W1.heap.size W1 w5) := Lib.hid (b3.out.trans (hb5.mono b3.out.size))
  clear hb5
  refine hK.out _ _ ?s35 (fun hS => ?_)
  case s35 => exact HSW.out _ b5.out
  clear hK K
  try simp only [Act.put, List.setIfInBounds_toArray, List.set_cons_zero, List.set_cons_succ]
  refine wpAnyH_take (i := 35) (v := ?v36) (at_s5 (at_s5 (at_s5 (at_s5 (at_s5 (at_s5 (at_s5 at_zero))))))) (by kernel_rfl) (by kernel_rfl) (by kernel_rfl) (fun _ _ _ h => h) (Or.inl ⟨by rfl, ?y36⟩) (by assumption) ?z36
  case y36 => intro wq hSw; obtain ⟨s0, s1, s2, s3, s4, s5⟩ := hSw; go_simp; try with_reducible rfl
  try simp only [Act.put, List.setIfInBounds_toArray, List.set_cons_zero, List.set_cons_succ]
  refine wpAnyH_take (i := 36) (v := ?v37) (at_s5 (at_s5 (at_s5 (at_s5 (at_s5 (at_s5 (at_s5 (at_succ at_zero)))))))) (by kernel_rfl) (by kernel_rfl) (by kernel_rfl) (fun _ _ _ h => h) (Or.inl ⟨by rfl, ?y37⟩) (by assumption) ?z37
  case y37 => intro wq hSw; obtain ⟨s0, s1, s2, s3, s4, s5⟩ := hSw; go_simp; try with_reducible rfl
  try simp only [Act.put, List.setIfInBounds_toArray, List.set_cons_zero, List.set_cons_succ]
  refine wpAnyH_take (i := 37) (v := ?v38) (at_s5 (at_s5 (at_s5 (at_s5 (at_s5 (at_s5 (at_s5 (at_succ (at_succ at_zero))))))))) (by kernel_rfl) (by kernel_rfl) (by kernel_rfl) (fun _ _ _ h => h) (Or.inl ⟨by rfl, ?y38⟩) (by assumption) ?z38
  case y38 => intro wq hSw; obtain ⟨s0, s1, s2, s3, s4, s5⟩ := hSw; go_simp; try with_reducible rfl
  try simp only [Act.put, List.setIfInBounds_toArray, List.set_cons_zero, List.set_cons_succ]
  refine wpAnyH_done (by kernel_rfl) ?_ _
  go_wp2_with fail
  go_ret
  exact ⟨rfl, (B1.out.trans (b5.out.mono B1.out.size))⟩

def ResQ (ss : List Sym) (rf : List Rfn) (nd : Nat) (w : World) (e : Ending) (w' : World) : Prop :=
  ∃ SA sc RA rc DA dc, e = .returned (.tuple #[.agg #[.slice SA ss.length sc, .slice RA rf.length rc, .slice DA nd dc], .int .i64 0]) ∧ syD.At w' (Lt w') SA ss ∧ rfD.At w' (Lt w') RA rf ∧ Below w.heap.size w w'
theorem run_make_int (n : Nat) (hn : n ≤ 1000) (u : World) :
    (Instr.makeSlice 76 (.int .i64 (n : Int)) (.int .i64 (n : Int))).run Tryz.prog u = .ok (.slice (some ⟨u.heap.size, 0, none⟩) n n) (u.alloc (.cells (madeCells #[.int .i64 0] n) 3)) := by
  obtain ⟨i0, hi, hz0, hz1, hz2⟩ := info_parts info_in
  have h := run_make (P := Tryz.prog) u 76 3 i0 _ Tryz.underlying76 hi hz0 .i64 .i64 (n : Int) (n : Int) (by omega) (Int.le_refl _) (by rw [hz2]; omega) (by omega)
  simp only [Int.toNat_natCast, hz1, Value.cells, Nat.mul_one] at h
  exact h
def cntL (rf : List Rfn) (i : Nat) : Nat := (rf.filter fun r => decide (r.sym = (i : Int))).length
theorem cntL_le (rf : List Rfn) (i : Nat) : cntL rf i ≤ rf.length := List.length_filter_le _ _
theorem cntL_succ (rf : List Rfn) (j : Nat) (r : Rfn) (h : rf[j]? = some r) (i : Nat) : cntL (rf.take (j + 1)) i = cntL (rf.take j) i + (if r.sym = (i : Int) then 1 else 0) := by
  unfold cntL
  rw [filter_take_succ _ rf j r h, List.length_append]
  by_cases hq : r.sym = (i : Int)
  · simp [hq]
  · simp [hq]
def CntAt (w : World) (C n : Nat) (f : Nat → Nat) : Prop := ∃ cs : Array Value, w.heap[C]? = some (.cells cs 3 (0, 0)) ∧ cs.size = n ∧ ∀ i, i < n → cs[i]? = some (.int .i64 (f i : Nat))
theorem CntAt.below {w w' : World} {C n : Nat} {f : Nat → Nat} (h : CntAt w C n f) (hb : Below w.heap.size w w') : CntAt w' C n f := by
  obtain ⟨cs, h1, h2, h3⟩ := h
  exact ⟨cs, (hb.block _ (lt_of_heap h1)).trans h1, h2, h3⟩
theorem CntAt.set {w : World} {C n : Nat} {f g : Nat → Nat} (h : CntAt w C n f) (s : Nat) (hs : s < n) (hg : ∀ i, i < n → g i = if i = s then f s + 1 else f i) : CntAt (w.setCell ⟨C, s, none⟩ (.int .i64 ((f s + 1 : Nat) : Int))) C n g := by
  obtain ⟨cs, h1, h2, h3⟩ := h
  refine ⟨_, heap_set h1 s _, by simp [h2], fun i hi => ?_⟩
  rw [hg i hi]
  by_cases e : i = s
  · subst e; simp [h2, hi]
  · rw [Array.getElem?_setIfInBounds, if_neg (fun h => e h.symm), if_neg e]; exact h3 i hi
theorem CntAt.made (w : World) (n : Nat) : CntAt (w.alloc (.cells (madeCells #[.int .i64 0] n) 3)) w.heap.size n (fun _ => 0) := by
  refine ⟨_, heap_alloc_new w _, size_madeCells _ _, fun m hm => ?_⟩
  have hl : m < (madeCells #[Value.int .i64 0] n).size := by rw [size_madeCells]; exact hm
  have h : (madeCells #[Value.int .i64 0] n).toList[m]? = some (.int .i64 0) := by
    rw [toList_madeCells_one, List.getElem?_replicate, if_pos hm]
  rw [Array.getElem?_toList] at h
  exact h
def unuF (rf : List Rfn) (i : Nat) (y : Sym) : Bool := decide (cntL rf i = 0) && kindsL.contains y.kind
def unuL (rf : List Rfn) : Nat → List Sym → List Int
  | _, [] => []
  | i, y :: r => (if unuF rf i y then [(i : Int)] else []) ++ unuL rf (i + 1) r
theorem unuL_snoc (rf : List Rfn) : ∀ (l : List Sym) (i : Nat) (y : Sym), unuL rf i (l ++ [y]) = unuL rf i l ++ (if unuF rf (i + l.length) y then [((i + l.length : Nat) : Int)] else [])
  | [], i, y => by simp [unuL]
  | x :: r, i, y => by
    rw [List.cons_append, unuL, unuL, unuL_snoc rf r (i + 1) y, List.length_cons, show i + 1 + r.length = i + (r.length + 1) by omega, List.append_assoc]
theorem unuL_len (rf : List Rfn) : ∀ (l : List Sym) (i : Nat), (unuL rf i l).length ≤ l.length
  | [], i => by simp [unuL]
  | x :: r, i => by
    have := unuL_len rf r (i + 1)
    unfold unuL
    split <;> simp <;> omega
def unuOk (ss : List Sym) (rf : List Rfn) : Bool := (List.range ss.length).all fun i => match ss[i]? with
  | some y => decide (cntL rf i ≠ 0) || (!kindsL.contains y.kind || (decide (y.kind = 2) && (decide (y.nm.data = #[103]) && (!y.pub && (decide (y.par < 0) || decide (y.par = 4))))))
  | none => true
theorem unuOk_at {ss : List Sym} {rf : List Rfn} (h : unuOk ss rf = true) (i : Nat) (y : Sym) (hy : ss[i]? = some y) (hc : cntL rf i = 0) : kindsL.contains y.kind = false ∨ (kindsL.contains y.kind = true ∧ y.kind = 2 ∧ y.nm = ⟨#[103]⟩ ∧ y.pub = false ∧ (y.par < 0 ∨ y.par = 4)) := by
  unfold unuOk at h
  have := List.all_eq_true.1 h i (List.mem_range.2 (List.getElem?_eq_some_iff.1 hy).1)
  rw [hy] at this
  simp only [hc, ne_eq, not_true_eq_false, decide_false, Bool.false_or, Bool.or_eq_true, Bool.not_eq_true', Bool.and_eq_true, decide_eq_true_eq] at this
  rcases this with h1 | ⟨h1, h2, h3, h4⟩
  · exact .inl h1
  · refine .inr ⟨by rw [h1]; rfl, h1, ?_, h3, h4⟩
    cases hn : y.nm
    rw [hn] at h2
    simp only at h2
    rw [h2]
def UnuPost (ss : List Sym) (rf : List Rfn) (w : World) (e : Ending) (w' : World) : Prop := ∃ A c, e = .returned (.tuple #[.slice A (unuL rf 0 ss).length c, .int .i64 0]) ∧ inD.At w' (Nw w w') A (unuL rf 0 ss) ∧ Below w.heap.size w w'
set_option maxRecDepth 100000 in
set_option maxHeartbeats 1000000 in
theorem unused_of (ss : List Sym) (rf : List Rfn) (nd mc : Nat) (M : Option Addr) (z : Sym) (w : World) (hs : ss.length ≤ 1000) (hr : rf.length ≤ 1000) (hrs : ∀ r ∈ rf, r.sym < (ss.length : Int)) (hz : ss[4]? = some z) (hz1 : z.kind = 1) (hz2 : z.par < 0) (hok : unuOk ss rf = true)
    (hres : ∀ w', Below w.heap.size w w' → Calls Tryz.prog 38 #[.slice M 1 mc] w' (ResQ ss rf nd w')) :
    Calls Tryz.prog 37 #[.slice M 1 mc] w (UnuPost ss rf w) := by
  have HPO := Lib.hid (show ∀ e w', UnuPost ss rf w e w' = (∃ A c, e = .returned (.tuple #[.slice A (unuL rf 0 ss).length c, .int .i64 0]) ∧ inD.At w' (Nw w w') A (unuL rf 0 ss) ∧ Below w.heap.size w w') from fun _ _ => rfl)
  have HR := Lib.hid (hres w (Below.refl _ _))
  have HRS := Lib.hid hrs
  have HZ := Lib.hid hz
  have HZ1 := Lib.hid hz1
  have HZ2 := Lib.hid hz2
  have HOK := Lib.hid (fun i y => unuOk_at hok i y)
  have HSN := Lib.hid (show ∀ (j : Nat) y, ss[j]? = some y → unuL rf 0 (ss.take (j + 1)) = unuL rf 0 (ss.take j) ++ (if unuF rf j y then [(j : Int)] else []) from fun j y hy => by
    obtain ⟨hjl, e⟩ := List.getElem?_eq_some_iff.1 hy
    rw [List.take_succ_eq_append_getElem hjl, unuL_snoc, List.length_take, Nat.min_eq_left (by omega), Nat.zero_add, e])
  have HCS := Lib.hid (show ∀ (j : Nat) r, rf[j]? = some r → ∀ i, cntL (rf.take (j + 1)) i = cntL (rf.take j) i + (if r.sym = (i : Int) then 1 else 0) from fun j r h i => cntL_succ rf j r h i)
  have HCL := Lib.hid (show ∀ (j i : Nat), cntL (rf.take j) i ≤ 1000 from fun j i => by have := cntL_le (rf.take j) i; rw [List.length_take] at this; omega)
  obtain ⟨n, hn⟩ : ∃ n, ss.length = n := ⟨_, rfl⟩
  obtain ⟨m, hm⟩ : ∃ m, rf.length = m := ⟨_, rfl⟩
  have HN := Lib.hid hn
  have HM := Lib.hid hm
  rw [hn] at hs HRS
  rw [hm] at hr
  have hmk := fun u => run_make_int n hs u
  clear hres hrs hz hz1 hz2 hok hn hm
  go_enter Tryz.func37, Tryz.ntmps37
  go_wp2_with fail
  refine HR.out.mono ?_
  rintro e w2 ⟨SA, sc, RA, rc, DA, dc, rfl, hsy, hrf, hb2⟩
  rw [HN.out, HM.out]
  obtain ⟨W3, hW3⟩ : ∃ W3, w2.alloc (.cells #[.slice SA n sc, .slice RA m rc, .slice DA nd dc] 85) = W3 := ⟨_, rfl⟩
  have hb3 : Below w2.heap.size w2 W3 := by rw [← hW3]; exact (Below.refl _ _).alloc (Nat.le_refl _) _
  have hx3 : W3.heap[w2.heap.size]? = some (.cells #[.slice SA n sc, .slice RA m rc, .slice DA nd dc] 85 (0, 0)) := by rw [← hW3]; exact heap_alloc_new w2 _
  have r0 := cell_of hx3 0 _ rfl
  have l3 := lt_of_heap hx3
  obtain ⟨W4, hW4⟩ : ∃ W4, W3.alloc (.cells (madeCells #[.int .i64 0] n) 3) = W4 := ⟨_, rfl⟩
  have hb4 : Below W3.heap.size W3 W4 := by rw [← hW4]; exact (Below.refl _ _).alloc (Nat.le_refl _) _
  have hc4 : CntAt W4 W3.heap.size n (fun i => cntL (rf.take 0) i) := by rw [← hW4]; exact CntAt.made W3 n
  have hb24 := hb3.trans (hb4.mono hb3.size)
  have hx4 := (hb4.block _ l3).trans hx3
  have HS4 := Lib.hid (hsy.keep (F' := Lt W4) (fun b hb => Nat.lt_of_lt_of_le hb hb24.size) (fun b hb => hb24.block b hb))
  have HR4 := Lib.hid (hrf.keep (F' := Lt w2) (fun b hb => hb) (fun b hb => rfl))
  have HX4 := Lib.hid hx4
  have HB4 := Lib.hid (hb2.trans (hb24.mono hb2.size))
  have HB24 := Lib.hid hb24
  have HC4 := Lib.hid hc4
  have HS2 := Lib.hid (hsy.keep (F' := Lt w2) (fun b hb => hb) (fun b hb => rfl))
  have s34 : W3.heap.size < W4.heap.size := by obtain ⟨_, h, _⟩ := hc4; exact lt_of_heap h
  have s23 := hb3.size
  have r1' := cell_of hx4 1 _ rfl
  have l4 := lt_of_heap hx4
  have hw3 : w.heap.size ≤ W3.heap.size := by have := hb2.size; omega
  clear hsy hrf hb2 hb3 hx3 hb4 hc4 hb24 hx4 HR
  go_wp2_with fail
  clear hmk hW3 hW4
  go_loopw [27] (fun i wr => ∃ j : Nat, i = .int .i64 (j : Int) ∧ j ≤ m ∧ CntAt wr W3.heap.size n (fun i => cntL (rf.take j) i) ∧ Below W3.heap.size W4 wr) (fun i _ => m - (intOf i).toNat)
  case atStart => exact ⟨0, rfl, Nat.zero_le _, HC4.out, Below.refl _ _⟩
  case round =>
    obtain ⟨j, rfl, hj, hcn, hb⟩ := hrel
    have hbs := hb.size
    by_cases hlt : j < m
    · have hjI : (j : Int) < m := by omega
      have hjl : j < rf.length := by rw [HM.out]; exact hlt
      have hyj : rf[j]? = some rf[j] := List.getElem?_eq_getElem hjl
      obtain ⟨tb, off, rfl, htb, hxc⟩ := flat_get HR4.out j rf[j] hyj
      have hcs := HCS.out j _ hyj
      have hrs := HRS.out rf[j] (List.getElem_mem hjl)
      generalize rf[j] = r at *
      obtain ⟨y0, y1, y2⟩ := r
      simp only at hcs hrs
      have htb' : tb < w2.heap.size := htb
      have htw : tb < wr.heap.size := by omega
      have cc : ∀ i u, ([.int .i64 y0, .int .i64 y1, .int .i64 y2] : List Value)[i]? = some u → wr.cell? ⟨tb, off + j * 3 + i, none⟩ = some u := fun i u hu => (hb.cell (p := ⟨tb, _, none⟩) (show tb < W3.heap.size by omega)).trans ((HB24.out.cell (p := ⟨tb, _, none⟩) htb').trans (hxc i u hu))
      have d0 := cc 0 _ rfl
      have d1 := cc 1 _ rfl
      have d2 := cc 2 _ rfl
      rw [Nat.add_zero] at d0
      obtain ⟨W5, hW5⟩ : ∃ W5, wr.alloc (.cells #[.int .i64 y0, .int .i64 y1, .int .i64 y2] 117) = W5 := ⟨_, rfl⟩
      have hb5 : Below wr.heap.size wr W5 := by rw [← hW5]; exact (Below.refl _ _).alloc (Nat.le_refl _) _
      have hx5 : W5.heap[wr.heap.size]? = some (.cells #[.int .i64 y0, .int .i64 y1, .int .i64 y2] 117 (0, 0)) := by rw [← hW5]; exact heap_alloc_new wr _
      have s2 := cell_of hx5 2 _ rfl
      have l5 := lt_of_heap hx5
      have hc5 := hcn.below hb5
      have HB5 := Lib.hid (hb.trans (hb5.mono (by omega)))
      have HC5 := Lib.hid hc5
      have HCS1 := Lib.hid hcs
      by_cases g : 0 ≤ y2
      · obtain ⟨s, rfl⟩ : ∃ s : Nat, y2 = s := ⟨y2.toNat, by omega⟩
        have hsn : s < n := by omega
        obtain ⟨cs, k1, k2, k3⟩ := hc5
        have e1 : W5.cell? ⟨W3.heap.size, s, none⟩ = some (.int .i64 (cntL (rf.take j) s : Nat)) := cell_of k1 s _ (k3 s hsn)
        have e2 := Lib.frozen_of_heap k1 s
        have e3 := lt_of_heap k1
        have hcl := HCL.out j s
        have HSET := Lib.hid (HC5.out.set (g := fun i => cntL (rf.take (j + 1)) i) s hsn (fun i hi => by
          show cntL (rf.take (j + 1)) i = if i = s then cntL (rf.take j) s + 1 else cntL (rf.take j) i
          rw [HCS1.out i]
          by_cases e : i = s
          · subst e; simp
          · have : ¬ (s : Int) = i := by omega
            simp [e, this]))
        obtain ⟨q, hq⟩ : ∃ q, cntL (rf.take j) s = q := ⟨_, rfl⟩
        rw [hq] at e1 hcl
        simp only [hq] at HSET
        have hq1 : ((q + 1 : Nat) : Int) = (q : Int) + 1 := by omega
        rw [hq1] at HSET
        clear cc hxc hb hb5 hx5 hcn k1 k2 k3 hcs hrs hq hq1 HCS1
        go_wp2_with fail
        go_roundw
        case rel => exact ⟨j + 1, by go_num, by omega, HSET.out, HB5.out.setCell (p := ⟨W3.heap.size, s, none⟩) (Nat.le_refl _) _⟩
        case measure => simp [intOf]; omega
      · have HC6 := Lib.hid (show CntAt W5 W3.heap.size n (fun i => cntL (rf.take (j + 1)) i) from by
          obtain ⟨cs, k1, k2, k3⟩ := hc5
          refine ⟨cs, k1, k2, fun i hi => ?_⟩
          rw [k3 i hi]
          show some (Value.int .i64 (cntL (rf.take j) i : Nat)) = some (Value.int .i64 (cntL (rf.take (j + 1)) i : Nat))
          rw [HCS1.out i, if_neg (by omega), Nat.add_zero])
        clear cc hxc hb hb5 hx5 hcn hc5 hcs hrs HCS1
        go_wp2_with fail
        go_roundw
        case rel => exact ⟨j + 1, by go_num, by omega, HC6.out, HB5.out⟩
        case measure => simp [intOf]; omega
    · have hjI : ¬ (j : Int) < m := by omega
      have htk : rf.take j = rf := List.take_of_length_le (by rw [HM.out]; omega)
      rw [htk] at hcn
      have HCN := Lib.hid hcn
      have HB := Lib.hid hb
      obtain ⟨wo, rfl⟩ : ∃ wo : World, wo = wr := ⟨_, rfl⟩
      have HX := Lib.hid ((hb.block _ (show w2.heap.size < W3.heap.size by omega)).trans HX4.out)
      have u0 := cell_of HX.out 0 _ rfl
      have lo := lt_of_heap HX.out
      have HSO := Lib.hid (HS2.out.keep (F' := Lt wo) (fun b hb' => by have h : b < w2.heap.size := hb'; show b < wo.heap.size; omega) (fun b hb' => (hb.block b (by have h : b < w2.heap.size := hb'; omega)).trans (HB24.out.block b hb')))
      have hCo : W3.heap.size < wo.heap.size := by obtain ⟨_, h, _⟩ := hcn; exact lt_of_heap h
      clear hb hcn htk
      go_wp2_with fail
      have hq0 : inD.Own wo wo.heap.size 3 (OF wo.heap.size (.slice none 0 0) wo) (.slice none 0 0) [] [] := Dat.Own.nil
      go_loopw [9, 45] (fun v i wr => ∃ (j : Nat) (vs : List Value), i = .int .i64 (j : Int) ∧ j ≤ n ∧ inD.Own wr wo.heap.size 3 (OF wo.heap.size v wr) v (unuL rf 0 (ss.take j)) vs ∧ Below wo.heap.size wo wr) (fun _ i _ => n - (intOf i).toNat)
      case atStart => exact ⟨0, [], rfl, Nat.zero_le _, by simpa [unuL] using hq0, Below.refl _ _⟩
      case round =>
        clear hq0
        obtain ⟨j, vs, rfl, hj, hown, hb⟩ := hrel
        have hbs := hb.size
        by_cases hlt : j < n
        · have hjI : (j : Int) < n := by omega
          have hjl : j < ss.length := by rw [HN.out]; exact hlt
          have hyj : ss[j]? = some ss[j] := List.getElem?_eq_getElem hjl
          obtain ⟨tb, off, rfl, htb, hxc⟩ := flat_get HSO.out j ss[j] hyj
          have hsn := HSN.out j _ hyj
          have hok := HOK.out j _ hyj
          have hlen := unuL_len rf (ss.take j) 0
          rw [List.length_take, Nat.min_eq_left (by omega)] at hlen
          obtain ⟨y, hyy⟩ : ∃ y, ss[j] = y := ⟨_, rfl⟩
          rw [hyy] at hxc hsn hok
          have htb' : tb < wo.heap.size := htb
          have htw : tb < wr.heap.size := by omega
          obtain ⟨cs, k1, k2, k3⟩ := HCN.out
          have hce : wr.cell? ⟨W3.heap.size, j, none⟩ = some (.int .i64 (cntL rf j : Nat)) := (hb.cell (p := ⟨W3.heap.size, j, none⟩) hCo).trans (cell_of k1 j _ (k3 j hlt))
          have hCr : W3.heap.size < wr.heap.size := by omega
          have hcl : cntL rf j ≤ 1000 := by have := cntL_le rf j; rw [HM.out] at this; omega
          have t0 := (hb.cell (p := ⟨w2.heap.size, 0, none⟩) lo).trans u0
          have lr : w2.heap.size < wr.heap.size := by omega
          have huf : unuF rf j y = (decide (cntL rf j = 0) && kindsL.contains y.kind) := rfl
          have hsb : ∃ b : Bool, unuF rf j y = b ∧ (cntL rf j = 0 → ∀ W, Below wo.heap.size wo W → Calls Tryz.prog 67 #[.slice (some ⟨tb, off, none⟩) n sc, .agg (syC y).toArray] W fun e W' => e = .returned (.bool b) ∧ Below W.heap.size W W') := by
            refine ⟨_, rfl, fun hc0 W hW => ?_⟩
            rcases hok hc0 with h1 | ⟨h0, h1, h2, h3, h4⟩
            · rw [huf, h1, Bool.and_false]
              exact sbr_no (some ⟨tb, off, none⟩) n sc y W h1
            · rw [huf, h0, decide_eq_true hc0]
              have hat := HSO.out.keep (F' := Lt W) (fun b hb => Nat.lt_of_lt_of_le hb hW.size) (fun b hb => hW.block b hb)
              have := sbr_yes ss (some ⟨tb, off, none⟩) sc y.mod y.st y.par z W hat h4 HZ.out HZ1.out HZ2.out
              rw [HN.out] at this
              obtain ⟨y0, y1, y2, y3, y4, y5⟩ := y
              simp only at h1 h2 h3 this
              subst h1 h2 h3
              exact this
          obtain ⟨bb, hbb, hsb⟩ := hsb
          rw [hbb] at hsn
          obtain ⟨y0, y1, y2, y3, y4, y5⟩ := y
          have cc : ∀ i u, ([.int .i64 y0, .int .i64 y1, .int .i64 y2, .int .i64 y3, .string y4, .bool y5] : List Value)[i]? = some u → wr.cell? ⟨tb, off + j * 6 + i, none⟩ = some u := fun i u hu => (hb.cell (p := ⟨tb, _, none⟩) htb').trans (hxc i u hu)
          have d0 := cc 0 _ rfl
          have d1 := cc 1 _ rfl
          have d2 := cc 2 _ rfl
          have d3 := cc 3 _ rfl
          have d4 := cc 4 _ rfl
          have d5 := cc 5 _ rfl
          rw [Nat.add_zero] at d0
          obtain ⟨W5, hW5⟩ : ∃ W5, wr.alloc (.cells #[.int .i64 y0, .int .i64 y1, .int .i64 y2, .int .i64 y3, .string y4, .bool y5] 89) = W5 := ⟨_, rfl⟩
          have hb5 : Below wr.heap.size wr W5 := by rw [← hW5]; exact (Below.refl _ _).alloc (Nat.le_refl _) _
          have hx5 : W5.heap[wr.heap.size]? = some (.cells #[.int .i64 y0, .int .i64 y1, .int .i64 y2, .int .i64 y3, .string y4, .bool y5] 89 (0, 0)) := by rw [← hW5]; exact heap_alloc_new wr _
          have s0 := cell_of hx5 0 _ rfl
          have s1 := cell_of hx5 1 _ rfl
          have s2 := cell_of hx5 2 _ rfl
          have s3 := cell_of hx5 3 _ rfl
          have s4 := cell_of hx5 4 _ rfl
          have s5 := cell_of hx5 5 _ rfl
          have l5 := lt_of_heap hx5
          have v0 := (hb5.cell (p := ⟨w2.heap.size, 0, none⟩) lr).trans t0
          have v1 := (hb5.cell (p := ⟨W3.heap.size, j, none⟩) hCr).trans hce
          have lr5 : w2.heap.size < W5.heap.size := Nat.lt_of_lt_of_le lr hb5.size
          have lC5 : W3.heap.size < W5.heap.size := Nat.lt_of_lt_of_le hCr hb5.size
          have hb05 := hb.trans (hb5.mono hbs)
          have HB5 := Lib.hid hb05
          have HOW := Lib.hid (hown.below hb5)
          have HSB := Lib.hid (fun (h0 : cntL rf j = 0) => hsb h0 W5 hb05)
          simp only [syC] at HSB
          have HSN1 := Lib.hid hsn
          have HUF := Lib.hid (show cntL rf j ≠ 0 → bb = false from fun h => by rw [← hbb, huf, decide_eq_false h]; rfl)
          obtain ⟨q, hq⟩ : ∃ q, cntL rf j = q := ⟨_, rfl⟩
          rw [hq] at v1 hcl HSB HUF
          clear cc hxc hb hb5 hx5 hown hsb hsn hbb huf hb05 hq hok hce k1 k2 k3 hyy hyj HSN HOK
          by_cases hq0 : q = 0
          · subst hq0
            have HSB0 := Lib.hid (HSB.out rfl)
            clear HSB HUF
            cases bb with
            | false =>
              have HF := Lib.hid (show unuL rf 0 (ss.take (j + 1)) = unuL rf 0 (ss.take j) by rw [HSN1.out]; simp)
              go_wp2_with fail
              refine HSB0.out.mono ?_
              rintro e w6 ⟨rfl, hb6⟩
              have HOW6 := Lib.hid (HOW.out.below hb6)
              have HB6 := Lib.hid (HB5.out.trans (hb6.mono HB5.out.size))
              clear hb6 HSB0
              go_wp2_with fail
              go_roundw
              case rel => exact ⟨j + 1, vs, by go_num, by omega, by rw [HF.out]; exact HOW6.out, HB6.out⟩
              case measure => simp [intOf]; omega
            | true =>
              have HF := Lib.hid (show unuL rf 0 (ss.take (j + 1)) = unuL rf 0 (ss.take j) ++ [(j : Int)] by rw [HSN1.out]; simp)
              go_wp2_with fail
              refine HSB0.out.mono ?_
              rintro e w6 ⟨rfl, hb6⟩
              have how6 := HOW.out.below hb6
              have HB6 := Lib.hid (HB5.out.trans (hb6.mono HB5.out.size))
              obtain ⟨n0, hn0⟩ : ∃ n0, (unuL rf 0 (ss.take j)).length = n0 := ⟨_, rfl⟩
              have ho1 := how6.1
              have hn0b : n0 ≤ j := by rw [← hn0]; exact hlen
              rw [hn0] at ho1
              have ho1' : w6.ownsRow wo.heap.size 3 1 u9 n0 vs := ho1
              have HOW6 := Lib.hid how6
              have HN0 := Lib.hid hn0
              have hbB : wo.heap.size ≤ w6.heap.size := HB6.out.size
              have hin : ∀ u ∈ ([.int .i64 (j : Int)] : List Value), u.oneCell' = true := by simp [Value.oneCell']
              have hkl : n0 + 1 ≤ maxLen := by unfold maxLen; omega
              have hkb : (n0 + 1) * 8 ≤ 140737488355328 := by omega
              clear hb6 HSB0 how6 ho1 hn0
              go_wp2_with (at_builtin; refine wpList_append_litH rfl (.tmp 61) (.tmp 63) _ rfl wo.heap.size 3 _ 1 8 Tryz.underlying76 info_in rfl (by decide) _ _ _ rfl ho1' 1 1 w6.heap.size rfl [.int .i64 (j : Int)] rfl rfl hin hkl hkb hbB ?_)
              intro v7 w7 hown7 hg7 hat7
              have h7 : inD.Own w7 wo.heap.size 3 (OF wo.heap.size v7 w7) v7 (unuL rf 0 (ss.take (j + 1))) (vs ++ [.int .i64 (j : Int)]) := by
                rw [HF.out]
                exact HOW6.out.grow (ys := [(j : Int)]) (Dat.Row.single (D := inD) rfl) hg7 (by rw [HN0.out]; exact hown7) hat7
              have HB7 := Lib.hid (HB6.out.grown hg7 hbB (fun q hq => (HOW6.out.1.lt q hq).1))
              have H7 := Lib.hid h7
              clear h7 hown7 hg7 hat7
              go_wp2_with fail
              go_roundw
              case rel => exact ⟨j + 1, _, by go_num, by omega, H7.out, HB7.out⟩
              case measure => simp [intOf]; omega
          · have hbf := HUF.out hq0
            subst hbf
            have HF := Lib.hid (show unuL rf 0 (ss.take (j + 1)) = unuL rf 0 (ss.take j) by rw [HSN1.out]; simp)
            have hqI : ((q : Int) == 0) = false := by simpa using hq0
            clear HSB HUF
            go_wp2_with fail
            go_roundw
            case rel => exact ⟨j + 1, vs, by go_num, by omega, by rw [HF.out]; exact HOW.out, HB5.out⟩
            case measure => simp [intOf]; omega
        · have hjI : ¬ (j : Int) < n := by omega
          have htk : ss.take j = ss := List.take_of_length_le (by rw [HN.out]; omega)
          rw [htk] at hown
          have HBA := Lib.hid (HB4.out.trans ((HB.out.mono hw3).trans (hb.mono (by omega))))
          obtain ⟨A3, c3, hv, hAt, _⟩ := hown.at (F' := Nw w wr) (fun c hc => ⟨by have := hc.1; omega, hc.2.1⟩) (fun c hc => ⟨by have := (hown.1.lt c hc).1; omega, (hown.1.lt c hc).2⟩)
          subst hv
          have HAt := Lib.hid hAt
          obtain ⟨q, hq⟩ : ∃ q, (unuL rf 0 ss).length = q := ⟨_, rfl⟩
          have HQ := Lib.hid hq
          rw [hq]
          clear hb hAt hown htk hq
          go_wp2_with fail
          go_ret2
          exact (HPO.out _ _).mpr ⟨A3, c3, by rw [HQ.out]; rfl, HAt.out, HBA.out⟩
end Go.Proofs.YtpibenilagloaaaGreatDoor
