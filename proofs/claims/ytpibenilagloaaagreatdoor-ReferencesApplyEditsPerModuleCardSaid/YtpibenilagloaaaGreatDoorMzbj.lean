import Derived.Test.YtpibenilagloaaaGreatDoorMzbh
import Derived.Test.YtpibenilagloaaaGreatDoorMzat
import Derived.Laws.EntriesVeiled
import Derived.Test.YtpibenilagloaaaGreatDoorMzbi
namespace Go.Proofs.YtpibenilagloaaaGreatDoor
open Go.RowKit
set_option linter.unusedVariables false
set_option maxRecDepth 100000 in
set_option maxHeartbeats 1600000 in
theorem named_any (y : Sym) (w : World) :
    Calls Tryz.prog 117 #[.agg (syC y).toArray] w fun e w' => e = .returned (.bool (namedB y)) ∧ Below w.heap.size w w' := by
  have HB := Lib.hid (fun o => (Below.refl w.heap.size w).alloc (Nat.le_refl _) o)
  obtain ⟨k, m, st, pa, nm, pu⟩ := y
  have HN := Lib.hid (show namedB ⟨k, m, st, pa, nm, pu⟩ = (decide (0 ≤ pa) && (decide (k ≠ 14) && decide (k ≠ 6))) from rfl)
  generalize namedB ⟨k, m, st, pa, nm, pu⟩ = q at *
  show Calls _ _ #[.agg #[.int .i64 k, .int .i64 m, .int .i64 st, .int .i64 pa, .string nm, .bool pu]] _ _
  by_cases g1 : 0 ≤ pa
  · by_cases g2 : k = 14
    · obtain rfl : q = false := by rw [HN.out]; simp [g2]
      subst g2
      go_enter Tryz.func117, Tryz.ntmps117
      go_wp2_with fail
      go_ret
      exact ⟨rfl, HB.out _⟩
    · have g2b : (k == 14) = false := by simpa using g2
      have g2c : (k != 14) = true := by simpa using g2
      by_cases g3 : k = 6
      · obtain rfl : q = false := by rw [HN.out]; simp [g3]
        subst g3
        go_enter Tryz.func117, Tryz.ntmps117
        go_wp2_with fail
        go_ret
        exact ⟨rfl, HB.out _⟩
      · have g3b : (k == 6) = false := by simpa using g3
        have g3c : (k != 6) = true := by simpa using g3
        obtain rfl : q = true := by rw [HN.out]; simp [g1, g2, g3]
        go_enter Tryz.func117, Tryz.ntmps117
        go_wp2_with fail
        go_ret
        exact ⟨rfl, HB.out _⟩
  · have g1b : decide (0 ≤ pa) = false := decide_eq_false g1
    obtain rfl : q = false := by rw [HN.out, g1b]; rfl
    go_enter Tryz.func117, Tryz.ntmps117
    go_wp2_with fail
    go_ret
    exact ⟨rfl, HB.out _⟩
def dupB (y x : Sym) : Bool := namedB x && (decide (x.par = y.par) && decide (x.nm = y.nm))
set_option maxRecDepth 100000 in
set_option maxHeartbeats 3200000 in
theorem dup_pred (y : Sym) (b2 b4 : Nat) (w : World) (h2 : w.heap[b2]? = some (.cells #[.func (.func 117) #[] #[]] 211 (0, 0))) (h4 : w.heap[b4]? = some (.cells (syC y).toArray 89 (0, 0))) :
    PredBelow Tryz.prog 119 #[.pointer (some ⟨b2, 0, none⟩), .pointer (some ⟨b4, 0, none⟩)] (fun x : Sym => .agg (syC x).toArray) (dupB y) w := fun W x hb => by
  have hBW2 : b2 < W.heap.size := Nat.lt_of_lt_of_le (lt_of_heap h2) hb.size
  have hBW4 : b4 < W.heap.size := Nat.lt_of_lt_of_le (lt_of_heap h4) hb.size
  have H2 := (hb.block _ (lt_of_heap h2)).trans h2
  have H4 := (hb.block _ (lt_of_heap h4)).trans h4
  obtain ⟨k, m, st, pa, nm, pu⟩ := x
  obtain ⟨yk, ym, yst, ypa, ynm, ypu⟩ := y
  have HN := Lib.hid (show dupB ⟨yk, ym, yst, ypa, ynm, ypu⟩ ⟨k, m, st, pa, nm, pu⟩ = (namedB ⟨k, m, st, pa, nm, pu⟩ && (decide (pa = ypa) && decide (nm = ynm))) from rfl)
  have HNM := Lib.hid (fun w' => named_any ⟨k, m, st, pa, nm, pu⟩ w')
  generalize namedB ⟨k, m, st, pa, nm, pu⟩ = q at *
  generalize dupB ⟨yk, ym, yst, ypa, ynm, ypu⟩ ⟨k, m, st, pa, nm, pu⟩ = r at *
  simp only [syC] at HNM H4
  show Calls Tryz.prog 119 #[.agg #[.int .i64 k, .int .i64 m, .int .i64 st, .int .i64 pa, .string nm, .bool pu], .pointer (some ⟨b2, 0, none⟩), .pointer (some ⟨b4, 0, none⟩)] W _
  obtain ⟨W1, hW1⟩ : ∃ W1, W.alloc (.cells #[.int .i64 k, .int .i64 m, .int .i64 st, .int .i64 pa, .string nm, .bool pu] 89) = W1 := ⟨_, rfl⟩
  have hb1 : Below W.heap.size W W1 := by rw [← hW1]; exact (Below.refl _ _).alloc (Nat.le_refl _) _
  have hx1 : W1.heap[W.heap.size]? = some (.cells #[.int .i64 k, .int .i64 m, .int .i64 st, .int .i64 pa, .string nm, .bool pu] 89 (0, 0)) := by rw [← hW1]; exact heap_alloc_new W _
  have c2 : W1.cell? ⟨b2, 0, none⟩ = some (.func (.func 117) #[] #[]) := cell_of ((hb1.block _ hBW2).trans H2) 0 _ rfl
  have d0 := cell_of hx1 0 _ rfl
  have d1 := cell_of hx1 1 _ rfl
  have d2 := cell_of hx1 2 _ rfl
  have d3 := cell_of hx1 3 _ rfl
  have d4 := cell_of hx1 4 _ rfl
  have d5 := cell_of hx1 5 _ rfl
  have hl1 := lt_of_heap hx1
  have hl2 : b2 < W1.heap.size := by omega
  have HX1 := Lib.hid hx1
  have HBB := Lib.hid (hb.trans (hb1.mono hb.size))
  have HBS := Lib.hid hb.size
  have HY := Lib.hid (fun w' (hb' : Below W1.heap.size W1 w') => (hb'.block b4 (by omega)).trans ((hb1.block _ hBW4).trans H4))
  have hl4 : b4 < W1.heap.size := by omega
  clear H2 H4 hb hb1 hx1 h2 h4
  have hfin : ∀ w', Below W1.heap.size W1 w' → Below w.heap.size w w' := fun w' hb' => HBB.out.trans (hb'.mono HBB.out.size)
  have HFIN := Lib.hid hfin
  clear hfin
  cases q with
  | false =>
    obtain rfl : r = false := HN.out
    go_enter Tryz.func119, Tryz.ntmps119
    go_wp2_with fail
    refine (HNM.out _).mono ?_
    rintro e w3 ⟨rfl, hb3⟩
    have HB3 := Lib.hid (HFIN.out w3 hb3)
    clear hb3
    go_wp2_with fail
    go_ret
    exact ⟨rfl, HB3.out⟩
  | true =>
    by_cases g1 : pa = ypa
    · by_cases g2 : nm = ynm
      · obtain rfl : r = true := by rw [HN.out]; simp [g1, g2]
        subst g1 g2
        go_enter Tryz.func119, Tryz.ntmps119
        go_wp2_with fail
        refine (HNM.out _).mono ?_
        rintro e w3 ⟨rfl, hb3⟩
        have x3 := (hb3.block _ hl1).trans HX1.out
        have y3 := HY.out w3 hb3
        have e3 := cell_of x3 3 _ rfl
        have e4 := cell_of x3 4 _ rfl
        have f3 := cell_of y3 3 _ rfl
        have f4 := cell_of y3 4 _ rfl
        have HB3 := Lib.hid (HFIN.out w3 hb3)
        clear hb3 x3 y3
        go_wp2_with fail
        go_ret
        exact ⟨by simp, HB3.out⟩
      · have gs : ¬ nm.toList = ynm.toList := fun e => g2 (ba_inj e)
        obtain rfl : r = false := by rw [HN.out]; simp [g2]
        subst g1
        go_enter Tryz.func119, Tryz.ntmps119
        go_wp2_with fail
        refine (HNM.out _).mono ?_
        rintro e w3 ⟨rfl, hb3⟩
        have x3 := (hb3.block _ hl1).trans HX1.out
        have y3 := HY.out w3 hb3
        have e3 := cell_of x3 3 _ rfl
        have e4 := cell_of x3 4 _ rfl
        have f3 := cell_of y3 3 _ rfl
        have f4 := cell_of y3 4 _ rfl
        have HB3 := Lib.hid (HFIN.out w3 hb3)
        clear hb3 x3 y3
        go_wp2_with fail
        go_ret
        exact ⟨by simp [gs], HB3.out⟩
    · obtain rfl : r = false := by rw [HN.out]; simp [g1]
      have g1b : (pa == ypa) = false := by simpa using g1
      go_enter Tryz.func119, Tryz.ntmps119
      go_wp2_with fail
      refine (HNM.out _).mono ?_
      rintro e w3 ⟨rfl, hb3⟩
      have x3 := (hb3.block _ hl1).trans HX1.out
      have y3 := HY.out w3 hb3
      have e3 := cell_of x3 3 _ rfl
      have f3 := cell_of y3 3 _ rfl
      have HB3 := Lib.hid (HFIN.out w3 hb3)
      clear hb3 x3 y3
      go_wp2_with fail
      go_ret
      exact ⟨by simp, HB3.out⟩
set_option maxRecDepth 100000 in
set_option maxHeartbeats 6400000 in
theorem reportDups_none (R p : Nat) (ss : List Sym) (SA : Option Addr) (sc : Nat) (w : World) (c0 : w.cell? ⟨R, 0, none⟩ = some (.pointer (some ⟨p, 0, none⟩))) (c2 : w.cell? ⟨p, 2, none⟩ = some (.slice SA ss.length sc)) (hR : R < w.heap.size) (hp : p < w.heap.size) (hs : syD.At w (Lt w) SA ss) (hl : ss.length ≤ 1000000) (hsc : ss.length ≤ sc)
    (hnd : ∀ i y, ss[i]? = some y → namedB y = true → (ss.take i).any (dupB y) = false) :
    Calls Tryz.prog 70 #[.pointer (some ⟨R, 0, none⟩)] w fun e w' => e = .returned (.tuple #[]) ∧ Below w.heap.size w w' := by
  obtain ⟨n, hn⟩ : ∃ n, ss.length = n := ⟨_, rfl⟩
  have HN := Lib.hid hn
  have HND := Lib.hid hnd
  have HS := Lib.hid hs
  rw [hn] at c2 hl hsc
  obtain ⟨W, hW⟩ : ∃ W, w.alloc (.cells #[.func (.func 117) #[] #[]] 211) = W := ⟨_, rfl⟩
  have hbw : Below w.heap.size w W := by rw [← hW]; exact (Below.refl _ _).alloc (Nat.le_refl _) _
  have hx : W.heap[w.heap.size]? = some (.cells #[.func (.func 117) #[] #[]] 211 (0, 0)) := by rw [← hW]; exact heap_alloc_new w _
  have hc : ∀ w', Below W.heap.size W w' → w'.cell? ⟨R, 0, none⟩ = some (.pointer (some ⟨p, 0, none⟩)) ∧ w'.cell? ⟨p, 2, none⟩ = some (.slice SA n sc) ∧ w'.heap[w.heap.size]? = some (.cells #[.func (.func 117) #[] #[]] 211 (0, 0)) ∧ R < w'.heap.size ∧ p < w'.heap.size ∧ Below w.heap.size w w' := fun w' hb => by
    have hb' := hbw.trans (hb.mono hbw.size)
    exact ⟨(hb'.cell (p := ⟨R, 0, none⟩) hR).trans c0, (hb'.cell (p := ⟨p, 2, none⟩) hp).trans c2, (hb.block _ (lt_of_heap hx)).trans hx, Nat.lt_of_lt_of_le hR hb'.size, Nat.lt_of_lt_of_le hp hb'.size, hb'⟩
  have HC := Lib.hid hc
  obtain ⟨a1, a2, a3, a4, a5, _⟩ := hc W (Below.refl _ _)
  clear hn hs hnd c0 c2 hbw hx hc a3
  go_enter Tryz.func70, Tryz.ntmps70
  go_wp2_with fail
  clear hW a1 a2 a4 a5
  go_loopw [13] (fun i wr => ∃ j : Nat, i = .int .i64 (j : Int) ∧ j ≤ n ∧ Below W.heap.size W wr) (fun i _ => n - (intOf i).toNat)
  case atStart => exact ⟨0, rfl, Nat.zero_le _, Below.refl _ _⟩
  case round =>
    obtain ⟨j, rfl, hj, hb⟩ := hrel
    by_cases hlt : j < n
    · have hjI : (j : Int) < n := by omega
      have hjl : j < ss.length := by rw [HN.out]; exact hlt
      obtain ⟨tb, off, rfl, htb, hxc⟩ := flat_get HS.out j ss[j] (List.getElem?_eq_getElem hjl)
      have hnj := HND.out j ss[j] (List.getElem?_eq_getElem hjl)
      have eg : ∀ args w, (callFunc 119 args).run Tryz.prog w = .ok (.enter 119 args) w := enters_of Tryz.func119 (by kernel_rfl) rfl
      have hcon := fun (w' : World) (hb' : Below W.heap.size W w') (b4 : Nat) (y : Sym) (h4 : w'.heap[b4]? = some (.cells (syC y).toArray 89 (0, 0))) =>
        AnyQ.slices_ContainsFunc Tryz.conSy 6 Tryz.isAgg89 Tryz.sizeOf89 syC (fun _ => rfl) (dupB y) 119 #[.pointer (some ⟨w.heap.size, 0, none⟩), .pointer (some ⟨b4, 0, none⟩)] eg tb off j sc ss w' (dup_pred y w.heap.size b4 w' (HC.out w' hb').2.2.1 h4) (by omega) (by omega) (Nat.lt_of_lt_of_le htb (HC.out w' hb').2.2.2.2.2.size) (fun i hi k v hv => by
          obtain ⟨tb2, off2, q1, _, q3⟩ := flat_get HS.out i ss[i] (List.getElem?_eq_getElem hi)
          injection q1 with q1; injection q1 with q1 q1' _
          subst q1 q1'
          have e : ss[i]! = ss[i] := getElem!_pos ss i hi
          rw [e] at hv
          exact ((HC.out w' hb').2.2.2.2.2.cell (p := ⟨tb, _, none⟩) htb).trans (q3 k v hv))
      have HCON := Lib.hid hcon
      clear hcon eg
      generalize ss[j] = y at *
      obtain ⟨yk, ym, yst, ypa, ynm, ypu⟩ := y
      have hbs := hb.size
      have htl : tb < w.heap.size := htb
      have hbw := (HC.out wr hb).2.2.2.2.2
      have cc : ∀ i u, ([.int .i64 yk, .int .i64 ym, .int .i64 yst, .int .i64 ypa, .string ynm, .bool ypu] : List Value)[i]? = some u → wr.cell? ⟨tb, off + j * 6 + i, none⟩ = some u := fun i u hu => (hbw.cell (p := ⟨tb, _, none⟩) htl).trans (hxc i u hu)
      have d0 := cc 0 _ rfl
      have d1 := cc 1 _ rfl
      have d2 := cc 2 _ rfl
      have d3 := cc 3 _ rfl
      have d4 := cc 4 _ rfl
      have d5 := cc 5 _ rfl
      rw [Nat.add_zero] at d0
      have htl2 : tb < wr.heap.size := Nat.lt_of_lt_of_le htl hbw.size
      obtain ⟨W2, hW2⟩ : ∃ W2, wr.alloc (.cells #[.int .i64 yk, .int .i64 ym, .int .i64 yst, .int .i64 ypa, .string ynm, .bool ypu] 89) = W2 := ⟨_, rfl⟩
      have hb2 : Below wr.heap.size wr W2 := by rw [← hW2]; exact (Below.refl _ _).alloc (Nat.le_refl _) _
      have hx2 : W2.heap[wr.heap.size]? = some (.cells #[.int .i64 yk, .int .i64 ym, .int .i64 yst, .int .i64 ypa, .string ynm, .bool ypu] 89 (0, 0)) := by rw [← hW2]; exact heap_alloc_new wr _
      have hbW2 := hb.trans (hb2.mono hbs)
      obtain ⟨a1, a2, a3, a4, a5, _⟩ := HC.out W2 hbW2
      have f0 : W2.cell? ⟨w.heap.size, 0, none⟩ = some (.func (.func 117) #[] #[]) := cell_of a3 0 _ rfl
      have fl := lt_of_heap a3
      have e0 := cell_of hx2 0 _ rfl
      have e1 := cell_of hx2 1 _ rfl
      have e2 := cell_of hx2 2 _ rfl
      have e3 := cell_of hx2 3 _ rfl
      have e4 := cell_of hx2 4 _ rfl
      have e5 := cell_of hx2 5 _ rfl
      have hl2 := lt_of_heap hx2
      have HX2 := Lib.hid hx2
      have HBW2 := Lib.hid hbW2
      have HNM := Lib.hid (named_any ⟨yk, ym, yst, ypa, ynm, ypu⟩ W2)
      simp only [syC] at HNM
      obtain ⟨q, hq⟩ : ∃ q, namedB ⟨yk, ym, yst, ypa, ynm, ypu⟩ = q := ⟨_, rfl⟩
      rw [hq] at HNM hnj
      have HQ := Lib.hid hnj
      clear hnj hq cc hxc hb hb2 hx2 hbW2 hbw a3
      cases q with
      | false =>
        go_wp2_with fail
        refine HNM.out.mono ?_
        rintro e w3 ⟨rfl, hb3⟩
        have HB3 := Lib.hid (HBW2.out.trans (hb3.mono HBW2.out.size))
        clear hb3 hW2
        go_wp2_with fail
        go_roundw
        case rel => exact ⟨j + 1, by go_num, by omega, HB3.out⟩
        case measure => simp [intOf]; omega
      | true =>
        go_wp2_with fail
        refine HNM.out.mono ?_
        rintro e w3 ⟨rfl, hb3⟩
        have hbw3 := HBW2.out.trans (hb3.mono HBW2.out.size)
        have HB3 := Lib.hid hbw3
        obtain ⟨p1, p2, p3, p4, p5, _⟩ := HC.out w3 hbw3
        have hx3 := (hb3.block _ hl2).trans HX2.out
        have HC3 := Lib.hid (HCON.out w3 hbw3 wr.heap.size ⟨yk, ym, yst, ypa, ynm, ypu⟩ hx3)
        have HQ2 := Lib.hid (HQ.out (by trivial))
        have hjn : (j : Int) ≤ sc := by omega
        clear hb3 hW2 a1 a2 a4 a5 f0 e0 e1 e2 e3 e4 e5 hx3 p3 HCON HQ hbw3
        go_wp2_with fail
        refine HC3.out.mono ?_
        rintro e w4 ⟨rfl, hb4⟩
        rw [HQ2.out]
        have HB4 := Lib.hid (HB3.out.trans (hb4.mono HB3.out.size))
        clear hb4
        go_wp2_with fail
        go_roundw
        case rel => exact ⟨j + 1, by go_num, by omega, HB4.out⟩
        case measure => simp [intOf]; omega
    · have hjI : ¬ (j : Int) < n := by omega
      have HB := Lib.hid (HC.out wr hb).2.2.2.2.2
      clear hb
      go_wp2_with fail
      go_end0
      exact ⟨rfl, HB.out⟩

theorem info_sl : (Tryz.prog.info? 76).map (fun i => (i.zero, i.size, i.bytes)) = some (some (.slice none 0 0), 1, 24) := by kernel_rfl
theorem run_make_rows (n : Nat) (hn : n ≤ 1000) (u : World) :
    (Instr.makeSlice 151 (.int .i64 (n : Int)) (.int .i64 (n : Int))).run Tryz.prog u = .ok (.slice (some ⟨u.heap.size, 0, none⟩) n n) (u.alloc (.cells (madeCells #[.slice none 0 0] (n * 1)) 76)) := by
  obtain ⟨i0, hi, hz0, hz1, hz2⟩ := info_parts info_sl
  have h := run_make (P := Tryz.prog) u 151 76 i0 _ Tryz.underlying151 hi hz0 .i64 .i64 (n : Int) (n : Int) (by omega) (Int.le_refl _) (by rw [hz2]; omega) (by omega)
  simp only [Int.toNat_natCast, hz1, Value.cells] at h
  exact h
theorem sort_lt2 (w : World) (B : Nat) (A : Option Addr) (c n : Nat) (ds : List Dg) (hn : ds.length = n) (h2 : n < 2) (row : w.ownsRow B 99 5 (.slice A n c) n (ds.flatMap Dg.cells)) :
    Calls Tryz.prog 52 #[.slice A n c, .func (.func 53) #[] #[]] w fun e w' => e = .returned (.tuple #[]) ∧ w'.ownsRow 0 99 5 (.slice A n c) n (ds.flatMap Dg.cells) ∧ (w'.os = w.os ∧ w'.tape = w.tape ∧ w'.output = w.output) ∧ w.heap.size ≤ w'.heap.size ∧ ∀ b, b < w.heap.size → (Value.slice A n c).ownBlock ≠ some b → w'.heap[b]? = w.heap[b]? := by
  rcases Nat.eq_zero_or_pos n with h0 | h0
  · subst h0
    exact (sort_none w A c _).mono fun e w' ⟨he, hw⟩ => by subst hw; exact ⟨he, own_base row, ⟨rfl, rfl, rfl⟩, Nat.le_refl _, fun _ _ _ => rfl⟩
  · obtain rfl : n = 1 := by omega
    obtain ⟨g, c', hv, hBg, hgl⟩ := own_some row (by omega)
    injection hv with hv1 _ hv2
    subst hv1 hv2
    match ds, hn with
    | [d], hn =>
      have := sort_any w g c 1 [d] rfl (by omega) (own_base row)
      have e : sortDg [d] = [d] := by simp [sortDg]
      rw [e] at this
      exact this.mono fun e w' ⟨h1, h2, h3, h4, h5⟩ => ⟨h1, h2, h3, h4, fun b hb hne => h5 b hb (fun e => hne (by rw [e]; rfl))⟩
theorem RsM.mod0 {w : World} {B R p : Nat} {bn : Value} {s : RD} (h : RsM w B R p bn s) : RsM (w.setCell ⟨R, 1, none⟩ (.int .i64 0)) B R p bn s := by
  obtain ⟨vr, vd, h1, h2, h3, h4, h5, h6⟩ := h
  refine ⟨vr, vd, ?_, ?_, ?_, h4, h5, h6⟩
  · exact heap_set h1 1 (.int .i64 0)
  · exact ownsRow_below h2 (fun g hg => Below.heap_setCell _ _ _ _ (fun e => h4 (by rw [hg, e])))
  · exact ownsRow_below h3 (fun g hg => Below.heap_setCell _ _ _ _ (fun e => h5 (by rw [hg, e])))
theorem sy_ne {w : World} {F : Nat → Prop} {A : Option Addr} {xs : List Sym} (h : syD.At w F A xs) {b : Nat} {cs : Array Value} {T : TypeId} (hb : w.heap[b]? = some (.cells cs T (0, 0))) (hcs : ∀ (i : Nat) k v, cs[i]? = some (.int k v) → False) : syD.At w (fun c => F c ∧ c ≠ b) A xs := by
  obtain ⟨vs, h1, h2⟩ := h
  have e := flatD_row xs vs h1
  subst e
  refine ⟨_, flatD_of xs, fun hp => ?_⟩
  obtain ⟨b', off, rfl, hF, hc⟩ := h2 hp
  refine ⟨b', off, rfl, ⟨hF, fun e => ?_⟩, hc⟩
  subst e
  match xs, hp, hc with
  | y :: r, _, hc =>
    have := hc 0 (.int .i64 y.kind) rfl
    rw [Lib.cell_of_heap hb] at this
    exact hcs _ _ _ this
def xpsN (x : Mdl) (t : Node) : List Xpt := sortI cmpXp (declN 0 (symsN x t))
def resN (x : Mdl) (t : Node) : RD := visNs (firstN (symsN x t) (xpsN x t)) t.ch ⟨[], []⟩
def ResPost (x : Mdl) (t : Node) (w : World) (e : Ending) (w' : World) : Prop :=
  ∃ SA sc RA rc DA dc, e = .returned (.tuple #[.agg #[.slice SA (symsN x t).length sc, .slice RA (sortI cmpRf (resN x t).rf).length rc, .slice DA (resN x t).ds.length dc], .int .i64 0]) ∧ syD.At w' (Lt w') SA (symsN x t) ∧ rfD.At w' (Lt w') RA (sortI cmpRf (resN x t).rf) ∧ Below w.heap.size w w'
structure ModOk (x : Mdl) (u : PS) (t : Node) : Prop where
  idn : isIdB x.nm = true
  sz : x.src.size ≤ 2000
  rn : run 100 fileC ⟨tokensL x.src.data.toList, [], false, 600000⟩ = some u
  dg : astD x.src u.ch = []
  tr : astN x.src u.ch = t
  ks : okS t = true
  kr : okRs x.nm t.ch = true
  tz : t.sz ≤ 800000
  us : ∀ y ∈ t.ch, y.h.k ≠ 2
  yy : okY (symsN x t)
  d1 : declN 0 (symsN x t) ≠ []
  d2 : (declN 0 (symsN x t)).length ≤ 12
  sl : (symsN x t).length ≤ 1000
  nd : ∀ i y, (symsN x t)[i]? = some y → namedB y = true → ((symsN x t).take i).any (dupB y) = false
  r1 : (resN x t).rf ≠ []
  r2 : (resN x t).rf.length ≤ 12
  r3 : (resN x t).ds.length < 2
set_option maxRecDepth 100000 in
set_option maxHeartbeats 12800000 in
theorem resolve_one (x : Mdl) (u : PS) (t : Node) (M : ModOk x u t) (mb mo mc : Nat) (w : World) (hg : Gl w) (hb : mb < w.heap.size) (hc : ∀ i u, (mdC x)[i]? = some u → w.cell? ⟨mb, mo + i, none⟩ = some u) :
    Calls Tryz.prog 38 #[.slice (some ⟨mb, mo, none⟩) 1 mc] w (ResPost x t w) := by
  have HBL := Lib.hid (fun w' (hb' : Below w.heap.size w w') => build_one x mb mo mc w' (gl_below hg hb') (AscAt.below hg.1 hb') (Nat.lt_of_lt_of_le hb hb'.size) (fun i u hu => (hb'.cell (p := ⟨mb, _, none⟩) hb).trans (hc i u hu)) M.idn M.sz 100 u M.rn M.dg t M.tr M.ks (by have := M.tz; omega) M.us M.yy M.d1 M.d2 (by have := M.sl; omega))
  have HM := Lib.hid M
  have hszs : szs t.ch ≤ 800000 := by
    have h3 : t.sz = 1 + szs t.ch := by cases t; unfold Node.sz; rfl
    have := M.tz
    omega
  obtain ⟨n, hn⟩ : ∃ n, (symsN x t).length = n := ⟨_, rfl⟩
  have HN := Lib.hid hn
  have hn1 : n ≤ 1000 := by rw [← hn]; exact M.sl
  obtain ⟨W0, hW0⟩ : ∃ W0, w.alloc (.cells #[.slice none 0 0, .slice none 0 0, .slice none 0 0] 85) = W0 := ⟨_, rfl⟩
  have hb0 : Below w.heap.size w W0 := by rw [← hW0]; exact (Below.refl _ _).alloc (Nat.le_refl _) _
  have hx0 : W0.heap[w.heap.size]? = some (.cells #[.slice none 0 0, .slice none 0 0, .slice none 0 0] 85 (0, 0)) := by rw [← hW0]; exact heap_alloc_new w _
  have HB0 := Lib.hid hb0
  have HX0 := Lib.hid hx0
  have HSZ := Lib.hid hszs
  have HL0 := lt_of_heap hx0
  clear hn M hb hc hg hb0 hx0 hszs
  go_enter Tryz.func38, Tryz.ntmps38
  go_wp2_with fail
  clear hW0
  refine (HBL.out W0 HB0.out).mono ?_
  rintro e w1 ⟨p, TA, tc, rfl, henv, hp1, htr, ⟨SA, sc, hp2, hsy, hsc⟩, hb1⟩
  have hn1' := hn1
  rw [HN.out] at hp2 hsc
  have hmk := fun u => run_make_rows n hn1 u
  -- the rows of bounds, the resolver
  obtain ⟨W2, hW2⟩ : ∃ W2, w1.alloc (.cells (madeCells #[.slice none 0 0] n) 76) = W2 := ⟨_, rfl⟩
  have hb2 : Below w1.heap.size w1 W2 := by rw [← hW2]; exact (Below.refl _ _).alloc (Nat.le_refl _) _
  obtain ⟨W3, hW3⟩ : ∃ W3, W2.alloc (.cells #[.pointer (some ⟨p, 0, none⟩), .int .i64 0, .slice none 0 0, .int .i64 (-1), .int .i64 (-1), (.slice (some ⟨w1.heap.size, 0, none⟩) n n), .slice none 0 0, .slice none 0 0] 156) = W3 := ⟨_, rfl⟩
  have hb3 : Below W2.heap.size W2 W3 := by rw [← hW3]; exact (Below.refl _ _).alloc (Nat.le_refl _) _
  have hx3 : W3.heap[W2.heap.size]? = some (.cells #[.pointer (some ⟨p, 0, none⟩), .int .i64 0, .slice none 0 0, .int .i64 (-1), .int .i64 (-1), (.slice (some ⟨w1.heap.size, 0, none⟩) n n), .slice none 0 0, .slice none 0 0] 156 (0, 0)) := by rw [← hW3]; exact heap_alloc_new W2 _
  have hr3 : RsM W3 W2.heap.size W2.heap.size p (.slice (some ⟨w1.heap.size, 0, none⟩) n n) ⟨[], []⟩ := ⟨.slice none 0 0, .slice none 0 0, hx3, World.ownsRow_nil _ _ _ _, World.ownsRow_nil _ _ _ _, by simp [Value.ownBlock], by simp [Value.ownBlock], Nat.le_refl _⟩
  have henv2 := henv.below hb2
  have hs12 := hb2.size
  have hplt := henv.1.lt
  have hp12 : W2.cell? ⟨p, 1, none⟩ = some (.slice TA 1 tc) := (hb2.cell (p := ⟨p, 1, none⟩) hplt).trans hp1
  have hp22 : W2.cell? ⟨p, 2, none⟩ = some (.slice SA n sc) := (hb2.cell (p := ⟨p, 2, none⟩) hplt).trans hp2
  have hp2lt : p < W2.heap.size := by omega
  have htr2 : nodeD.At W2 (fun b => b < W2.heap.size) TA [t] := htr.keep (fun b hb => Nat.lt_of_lt_of_le hb hs12) (fun b hb => hb2.block b hb)
  have hsy2 : syD.At W2 (fun b => b < W2.heap.size) SA (symsN x t) := hsy.keep (fun b hb => Nat.lt_of_lt_of_le hb hs12) (fun b hb => hb2.block b hb)
  have hbw2 : Below w.heap.size w W2 := (HB0.out.trans (hb1.mono HB0.out.size)).trans (hb2.mono (by have := HB0.out.size; have := hb1.size; omega))
  have hx2 : W2.heap[w.heap.size]? = some (.cells #[.slice none 0 0, .slice none 0 0, .slice none 0 0] 85 (0, 0)) := (hb2.block _ (by have := hb1.size; omega)).trans ((hb1.block _ HL0).trans HX0.out)
  have hwW2 : w.heap.size < W2.heap.size := lt_of_heap hx2
  have HR3 := Lib.hid hr3
  have HENV := Lib.hid henv2
  have HTR := Lib.hid htr2
  have HSY := Lib.hid hsy2
  have HBW2 := Lib.hid hbw2
  have HX2 := Lib.hid hx2
  have HB3 := Lib.hid hb3
  have HP22 := Lib.hid hp22
  have z1 : W3.cell? ⟨p, 1, none⟩ = some (.slice TA 1 tc) := (hb3.cell (p := ⟨p, 1, none⟩) hp2lt).trans hp12
  have hp3lt : p < W3.heap.size := by have := hb3.size; omega
  have hp1lt : p < w1.heap.size := hplt
  obtain ⟨tb, off, us, rfl, htb, hv, hxc⟩ := htr2.get 0 t rfl
  obtain ⟨KA, kc, rfl, hk⟩ := hv.kids
  have HK := Lib.hid hk
  obtain ⟨kn, hkn⟩ : ∃ kn, t.ch.length = kn := ⟨_, rfl⟩
  have HKN := Lib.hid hkn
  obtain ⟨hd, hhd⟩ : ∃ hd, t.h = hd := ⟨_, rfl⟩
  rw [hhd, hkn] at hxc
  simp only [Nat.zero_mul, Nat.add_zero] at hxc
  obtain ⟨k, va, tx, st, en, nm⟩ := hd
  have htb' : tb < W2.heap.size := htb
  have HD : Hid (∀ w', Below W2.heap.size W2 w' → ∀ i v, ((Hd.mk k va tx st en nm).vals (.slice KA kn kc))[i]? = some v → w'.cell? ⟨tb, off + i, none⟩ = some v) := fun w' hb' i v hi => (hb'.cell (p := ⟨tb, _, none⟩) htb').trans (hxc i v hi)
  clear hb1 hsy htr henv henv2 hr3 htr2 hsy2 hbw2 hx2 hp22 hp12 hv hk hkn hhd hxc hb2 HBL hx3 hb3
  go_wp2_with fail
  clear hmk hW2 hW3 hp1 hp2
  go_loopw [35] (fun i wr => (i = .int .i64 0 ∧ wr = W3) ∨ (i = .int .i64 1 ∧ RsM wr W2.heap.size W2.heap.size p (.slice (some ⟨w1.heap.size, 0, none⟩) n n) (resN x t) ∧ Below W2.heap.size W3 wr)) (fun i _ => 1 - (intOf i).toNat)
  case atStart => exact .inl ⟨rfl, rfl⟩
  case round =>
    rcases hrel with ⟨rfl, rfl⟩ | ⟨rfl, hrf, hbf⟩
    · have hcc := HD.out wr HB3.out
      have d0 := hcc 0 _ rfl
      have d1 := hcc 1 _ rfl
      have d2 := hcc 2 _ rfl
      have d3 := hcc 3 _ rfl
      have d4 := hcc 4 _ rfl
      have d5 := hcc 5 _ rfl
      have d6 := hcc 6 _ rfl
      rw [Nat.add_zero] at d0
      have hs3 := HB3.out.size
      have htr3 : tb < wr.heap.size := by omega
      obtain ⟨W4, hW4⟩ : ∃ W4, wr.alloc (.cells #[.int .i64 k, .int .i64 va, .string tx, .int .i64 st, .int .i64 en, .int .i64 nm, .slice KA kn kc] 57) = W4 := ⟨_, rfl⟩
      have hx4 : W4.heap[wr.heap.size]? = some (.cells #[.int .i64 k, .int .i64 va, .string tx, .int .i64 st, .int .i64 en, .int .i64 nm, .slice KA kn kc] 57 (0, 0)) := by rw [← hW4]; exact heap_alloc_new wr _
      have hb4 : Below wr.heap.size wr W4 := by rw [← hW4]; exact (Below.refl _ _).alloc (Nat.le_refl _) _
      have hr4 := HR3.out.below hb4
      have hRl := HR3.out.lt
      obtain ⟨W5, hW5⟩ : ∃ W5, W4.setCell ⟨W2.heap.size, 1, none⟩ (.int .i64 0) = W5 := ⟨_, rfl⟩
      have hr5 : RsM W5 W2.heap.size W2.heap.size p (.slice (some ⟨w1.heap.size, 0, none⟩) n n) ⟨[], []⟩ := by rw [← hW5]; exact hr4.mod0
      have hx5 : W5.heap[wr.heap.size]? = some (.cells #[.int .i64 k, .int .i64 va, .string tx, .int .i64 st, .int .i64 en, .int .i64 nm, .slice KA kn kc] 57 (0, 0)) := by rw [← hW5]; exact (Below.heap_setCell _ _ _ _ (show wr.heap.size ≠ W2.heap.size by omega)).trans hx4
      have hb5 : Below W2.heap.size wr W5 := by rw [← hW5]; exact (hb4.mono hs3).setCell (Nat.le_refl _) _
      have hb25 := HB3.out.trans hb5
      obtain ⟨vr4, vd4, g4, _⟩ := hr4
      have r1 : W4.cell? ⟨W2.heap.size, 1, none⟩ = some (.int .i64 0) := cell_of g4 1 _ rfl
      have rf1 := Lib.frozen_of_heap g4 1
      have hRl4 := lt_of_heap g4
      have e6 := cell_of hx5 6 _ rfl
      have hl5 := lt_of_heap hx5
      have HVA := Lib.hid (visitAll_of W2.heap.size W2.heap.size p (.slice (some ⟨w1.heap.size, 0, none⟩) n n) x (symsN x t) (xpsN x t) W2 rfl (szs t.ch + 1) (visitR_any W2.heap.size W2.heap.size p mb mo mc (.slice (some ⟨w1.heap.size, 0, none⟩) n n) x (symsN x t) (xpsN x t) W2 rfl HENV.out _) t.ch (by omega) HM.out.kr ⟨[], []⟩ W5 KA kc hb25 hr5 (HK.out.keep (fun _ h => h) (fun b hb => hb25.block b hb)) (by have := HSZ.out; show 0 + _ ≤ _; omega) (by have := HSZ.out; show 0 + _ ≤ _; omega))
      rw [HKN.out] at HVA
      have HB5 := Lib.hid hb5
      clear hcc hx4 hb4 hr5 hx5 hb5 hb25 g4
      go_wp2_with fail
      refine HVA.out.mono ?_
      rintro e w6 ⟨rfl, hr6, hb6, _⟩
      have H6 := Lib.hid (show RsM w6 W2.heap.size W2.heap.size p (.slice (some ⟨w1.heap.size, 0, none⟩) n n) (resN x t) from hr6)
      have H7 := Lib.hid (HB5.out.trans hb6)
      clear hr6 hb6 hW4 hW5
      go_wp2_with fail
      go_roundw
      case rel => exact .inr ⟨by go_num, H6.out, H7.out⟩
      case measure => simp [intOf]
    · have hb2r := HB3.out.trans hbf
      obtain ⟨vr, vd, g1, g2, g3, g4, g5, g6⟩ := hrf
      have c0 : wr.cell? ⟨W2.heap.size, 0, none⟩ = some (.pointer (some ⟨p, 0, none⟩)) := cell_of g1 0 _ rfl
      have hRl := lt_of_heap g1
      have hsr := hb2r.size
      have c2 := (hb2r.cell (p := ⟨p, 2, none⟩) hp2lt).trans HP22.out
      have hpr : p < wr.heap.size := by omega
      have hsyr : syD.At wr (Lt wr) SA (symsN x t) := HSY.out.keep (fun b hb => Nat.lt_of_lt_of_le hb hsr) (fun b hb => hb2r.block b hb)
      have HRD := Lib.hid (reportDups_none W2.heap.size p (symsN x t) SA sc wr c0 (by rw [HN.out]; exact c2) hRl hpr hsyr (by have := HM.out.sl; omega) (by rw [HN.out]; exact hsc) HM.out.nd)
      have HB2R := Lib.hid hb2r
      have HG := Lib.hid (show wr.heap[W2.heap.size]? = _ ∧ wr.ownsRow W2.heap.size 117 3 vr _ _ ∧ wr.ownsRow W2.heap.size 99 5 vd _ _ ∧ vr.ownBlock ≠ some W2.heap.size ∧ vd.ownBlock ≠ some W2.heap.size from ⟨g1, g2, g3, g4, g5⟩)
      clear g1 g2 g3 g4 g5 hb2r hbf hsyr c0 c2
      go_wp2_with fail
      refine HRD.out.mono ?_
      rintro e w7 ⟨rfl, hb7⟩
      obtain ⟨g1, g2, g3, g4, g5⟩ := HG.out
      have q1 := (hb7.block _ hRl).trans g1
      have q2 := ownsRow_below g2 (fun g hg => hb7.block g (g2.lt g hg).2)
      have q3 := ownsRow_below g3 (fun g hg => hb7.block g (g3.lt g hg).2)
      have hb27 := HB2R.out.trans (hb7.mono hsr)
      obtain ⟨nr, hnr⟩ : ∃ nr, (resN x t).rf.length = nr := ⟨_, rfl⟩
      obtain ⟨nd, hnd⟩ : ∃ nd, (resN x t).ds.length = nd := ⟨_, rfl⟩
      rw [hnr] at q2
      rw [hnd] at q3
      have hnr0 : nr ≠ 0 := by rw [← hnr]; intro h; exact HM.out.r1 (List.eq_nil_of_length_eq_zero h)
      have hnr12 : nr ≤ 12 := by rw [← hnr]; exact HM.out.r2
      have hnd2 : nd < 2 := by rw [← hnd]; exact HM.out.r3
      obtain ⟨g, cr, rfl, hBg, hgl⟩ := own_some q2 hnr0
      obtain ⟨DA, dc, rfl⟩ := own_slice q3
      have hgR : W2.heap.size ≠ g := fun e => g4 (by rw [e]; rfl)
      have z6 : w7.cell? ⟨W2.heap.size, 6, none⟩ = some (.slice (some ⟨g, 0, none⟩) nr cr) := cell_of q1 6 _ rfl
      have hR7 := lt_of_heap q1
      have HSO := Lib.hid (sortRf_any w7 g cr nr (resN x t).rf hnr hnr12 (own_base q2))
      have HQ := Lib.hid (And.intro q1 (And.intro q2 (And.intro q3 hb27)))
      have HNR := Lib.hid hnr
      have HNDD := Lib.hid hnd
      clear g1 g2 g3 g4 g5 q1 q2 q3 hb27 hb7 HRD HG hnr hnd
      go_wp2_with fail
      refine HSO.out.mono ?_
      rintro e w8 ⟨rfl, hrow8, ⟨o1, o2, o3⟩, hs8, hk8⟩
      obtain ⟨q1, q2, q3, hb27⟩ := HQ.out
      have hs27 := hb27.size
      have hb78 : Below W2.heap.size w7 w8 := ⟨o1, o2, o3, hs8, fun b hb => hk8 b (by omega) (by omega)⟩
      have k1 := (hk8 _ hR7 hgR).trans q1
      have k3 : w8.ownsRow W2.heap.size 99 5 (.slice DA nd dc) nd ((resN x t).ds.flatMap Dg.cells) := ownsRow_below q3 (fun b hb => hk8 b (q3.lt b hb).2 (fun e => own_ne q2 q3 (by decide) (g := g) rfl (by rw [hb, e])))
      have hg8 : ∀ b, (Value.slice DA nd dc).ownBlock = some b → b ≠ g := fun b hb e => own_ne q2 q3 (by decide) (g := g) rfl (by rw [hb, e])
      have hg9 : ∀ b, (Value.slice DA nd dc).ownBlock = some b → b ≠ W2.heap.size := fun b hb e => by
        subst e
        exact absurd (own_type q3 hb q1) (by decide)
      have z7 : w8.cell? ⟨W2.heap.size, 7, none⟩ = some (.slice DA nd dc) := cell_of k1 7 _ rfl
      have hR8 := lt_of_heap k1
      have HSD := Lib.hid (sort_lt2 w8 W2.heap.size DA dc nd (resN x t).ds HNDD.out hnd2 k3)
      have HQ2 := Lib.hid (And.intro k1 (And.intro hrow8 (And.intro hg8 (And.intro hg9 (hb27.trans hb78)))))
      have HK3 := Lib.hid k3
      clear q1 q2 q3 hb27 hrow8 o1 o2 o3 hk8 hb78 k1 k3 hg8 hg9 HSO HQ z6
      go_wp2_with fail
      refine HSD.out.mono ?_
      rintro e w9 ⟨rfl, hrow9, ⟨o1, o2, o3⟩, hs9, hk9⟩
      obtain ⟨k1, hrow8, hg8, hg9, hb28⟩ := HQ2.out
      have hs28 := hb28.size
      have hb89 : Below W2.heap.size w8 w9 := ⟨o1, o2, o3, hs9, fun b hb => hk9 b (by omega) (fun e => by have := (HK3.out.lt b e).1; omega)⟩
      have hb29 := hb28.trans hb89
      have m1 := (hk9 _ hR8 (fun e => hg9 _ e rfl)).trans k1
      have m2 := ownsRow_below hrow8 (fun b hb => hk9 b (hrow8.lt b hb).2 (fun e => hg8 b e (by injection hb with hb; exact hb.symm)))
      have y2 : w9.cell? ⟨p, 2, none⟩ = some (.slice SA n sc) := (hb29.cell (p := ⟨p, 2, none⟩) hp2lt).trans HP22.out
      have y6 : w9.cell? ⟨W2.heap.size, 6, none⟩ = some (.slice (some ⟨g, 0, none⟩) nr cr) := cell_of m1 6 _ rfl
      have y7 : w9.cell? ⟨W2.heap.size, 7, none⟩ = some (.slice DA nd dc) := cell_of m1 7 _ rfl
      have hx9 := (hb29.block _ hwW2).trans HX2.out
      have hR9 := lt_of_heap m1
      have hp9 : p < w9.heap.size := by have := hb29.size; omega
      have hl9 := lt_of_heap hx9
      have x0 := cell_of hx9 0 _ rfl
      have x1 := cell_of hx9 1 _ rfl
      have x2 := cell_of hx9 2 _ rfl
      have f0 := Lib.frozen_of_heap hx9 0
      have f1 := Lib.frozen_of_heap hx9 1
      have f2 := Lib.frozen_of_heap hx9 2
      have hn0 : n ≠ 0 := fun e => by
        have e2 : symsN x t = [] := List.eq_nil_of_length_eq_zero (HN.out.trans e)
        exact HM.out.d1 (by rw [e2]; rfl)
      have hpne : p ≠ w.heap.size := fun e => by
        rw [e] at y2
        have := y2.symm.trans x2
        injection this with this
        injection this with _ this _
        exact hn0 this
      have hpne' : w.heap.size ≠ p := fun e => hpne e.symm
      have hRne : W2.heap.size ≠ w.heap.size := by omega
      have hRne' : w.heap.size ≠ W2.heap.size := by omega
      have HF := Lib.hid (And.intro hx9 (And.intro m2 (And.intro hrow9 hb29)))
      clear k1 hrow8 hg8 hg9 hb28 hrow9 o1 o2 o3 hk9 hb89 hb29 m1 m2 hx9 HSD HQ2 HK3 z7
      go_wp2_with fail
      go_region_held3 (fun w' => w'.cell? ⟨p, 2, none⟩ = some (.slice SA n sc) ∧ w'.cell? ⟨W2.heap.size, 6, none⟩ = some (.slice (some ⟨g, 0, none⟩) nr cr) ∧ w'.cell? ⟨W2.heap.size, 7, none⟩ = some (.slice DA nd dc)) (first | go_keep | assumption) ((go_at_call 54; refine (compact_short _ _ _ _ hnd2).mono ?_; rintro e w10 ⟨rfl, rfl⟩))
      all_goals
        go_wp2_with fail
        obtain ⟨hx9, m2, m3, hb29⟩ := HF.out
        have hX : ((((w9.setCell ⟨w.heap.size, 0, none⟩ (.slice SA n sc)).setCell ⟨w.heap.size, 1, none⟩ (.slice (some ⟨g, 0, none⟩) nr cr)).setCell ⟨w.heap.size, 2, none⟩ (.slice DA nd dc)).drew).heap[w.heap.size]? = some (.cells #[.slice SA n sc, .slice (some ⟨g, 0, none⟩) nr cr, .slice DA nd dc] 85 (0, 0)) :=
          heap_set (heap_set (heap_set hx9 0 _) 1 _) 2 _
        have hO : ∀ b, b ≠ w.heap.size → ((((w9.setCell ⟨w.heap.size, 0, none⟩ (.slice SA n sc)).setCell ⟨w.heap.size, 1, none⟩ (.slice (some ⟨g, 0, none⟩) nr cr)).setCell ⟨w.heap.size, 2, none⟩ (.slice DA nd dc)).drew).heap[b]? = w9.heap[b]? := fun b hb =>
          (Below.heap_setCell _ _ _ _ hb).trans ((Below.heap_setCell _ _ _ _ hb).trans (Below.heap_setCell _ _ _ _ hb))
        have hsy9 : syD.At w9 (fun b => b < W2.heap.size) SA (symsN x t) := HSY.out.keep (fun _ h => h) (fun b hb => hb29.block b hb)
        have hsyX := sy_ne hsy9 hx9 (fun i kk v hi => by
          match i with
          | 0 => cases hi
          | 1 => cases hi
          | 2 => cases hi
          | i + 3 => simp at hi)
        have hgne : g ≠ w.heap.size := fun e => by
          subst e
          exact absurd (own_type m2 rfl hx9) (by decide)
        have hB9 := (HBW2.out.trans (hb29.mono (Nat.le_of_lt hwW2)))
        refine bodyPost_ret (results_cell_slot (P := Tryz.prog) (ty := 85) rfl _ _ w.heap.size 85 _ _ _ (.int .i64 0) rfl rfl hX Tryz.underlying85 rfl (by kernel_rfl)) rfl ?_
        refine ⟨SA, sc, some ⟨g, 0, none⟩, cr, DA, dc, ?_, ?_, ?_, ?_⟩
        · rw [HN.out, sortI_len, HNR.out, HNDD.out]
        · exact hsyX.keep (fun b hb => by have h1 : b < W2.heap.size := hb.1; have h2 := hb29.size; show b < _; simp; omega) (fun b hb => hO b hb.2)
        · exact own_at (by rw [sortI_len, HNR.out]) (ownsRow_below m2 (fun b hb => hO b (fun e => by
            injection hb with hb
            exact hgne (hb.trans e))))
        · exact ((((hB9.setCell (Nat.le_refl _) _).setCell (Nat.le_refl _) _).setCell (Nat.le_refl _) _).drew)

def okYB (ss : List Sym) : Bool := ss.all (fun y => decide (y.par < 0) || (decide (y.kind = 2) && decide (y.par = 4))) && (match ss[4]? with | some z => decide (z.kind = 1) | none => false)
theorem okYB_ok {ss : List Sym} (h : okYB ss = true) : okY ss := by
  unfold okYB at h
  rw [Bool.and_eq_true, List.all_eq_true] at h
  obtain ⟨h1, h2⟩ := h
  refine ⟨fun y hy => ?_, ?_⟩
  · have := h1 y hy
    simp only [Bool.or_eq_true, Bool.and_eq_true, decide_eq_true_eq] at this
    exact this
  · split at h2
    · rename_i z hz
      exact ⟨z, hz, by simpa using h2⟩
    · cases h2
def ndB (ss : List Sym) : Bool := (List.range ss.length).all fun i => match ss[i]? with
  | some y => !namedB y || !((ss.take i).any (dupB y))
  | none => true
theorem ndB_ok {ss : List Sym} (h : ndB ss = true) : ∀ (i : Nat) y, ss[i]? = some y → namedB y = true → (ss.take i).any (dupB y) = false := by
  intro i y hy hn
  unfold ndB at h
  rw [List.all_eq_true] at h
  have := h i (List.mem_range.2 (List.getElem?_eq_some_iff.1 hy).1)
  rw [hy] at this
  simp only [hn, Bool.not_true, Bool.false_or, Bool.not_eq_true'] at this
  exact this
def modB (x : Mdl) (u : PS) : Bool :=
  isIdB x.nm && (decide (x.src.size ≤ 2000) && ((astD x.src u.ch).isEmpty && (okS (astN x.src u.ch) && (okRs x.nm (astN x.src u.ch).ch && (decide ((astN x.src u.ch).sz ≤ 800000) && ((astN x.src u.ch).ch.all (fun y => decide (y.h.k ≠ 2)) &&
    (okYB (symsN x (astN x.src u.ch)) && (!(declN 0 (symsN x (astN x.src u.ch))).isEmpty && (decide ((declN 0 (symsN x (astN x.src u.ch))).length ≤ 12) && (decide ((symsN x (astN x.src u.ch)).length ≤ 1000) && (ndB (symsN x (astN x.src u.ch)) &&
    (!(resN x (astN x.src u.ch)).rf.isEmpty && (decide ((resN x (astN x.src u.ch)).rf.length ≤ 12) && decide ((resN x (astN x.src u.ch)).ds.length < 2))))))))))))))
theorem modOk_of {x : Mdl} {u : PS} (hr : run 100 fileC ⟨tokensL x.src.data.toList, [], false, 600000⟩ = some u) (h : modB x u = true) : ModOk x u (astN x.src u.ch) := by
  unfold modB at h
  simp only [Bool.and_eq_true, decide_eq_true_eq, Bool.not_eq_true', List.isEmpty_iff, List.isEmpty_eq_false_iff] at h
  obtain ⟨h1, h2, h3, h4, h5, h6, h7, h8, h9, h10, h11, h12, h13, h14, h15⟩ := h
  exact ⟨h1, h2, hr, h3, rfl, h4, h5, h6, fun y hy => by have := List.all_eq_true.1 h7 y hy; simpa using this, okYB_ok h8, h9, h10, h11, ndB_ok h12, h13, h14, h15⟩
end Go.Proofs.YtpibenilagloaaaGreatDoor
