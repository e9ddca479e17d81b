import Derived.Test.YtpibenilagloaaaGreatDoorMzay
import Derived.Test.YtpibenilagloaaaGreatDoorMzag
import Derived.Test.YtpibenilagloaaaGreatDoorMzaz
import Derived.Test.YtpibenilagloaaaGreatDoorSya
import Derived.Shelf.SlSortCmp.SmallK
import Derived.Test.YtpibenilagloaaaGreatDoorMzai
import Derived.Test.YtpibenilagloaaaGreatDoorMzaj
import Derived.Test.YtpibenilagloaaaGreatDoorMzbe
import Derived.Test.YtpibenilagloaaaGreatDoorMzbh
namespace Go.Proofs.YtpibenilagloaaaGreatDoor
open Go.RowKit
open Go.Sort (grow grow_grow alloc_eq_grow)
set_option linter.unusedVariables false
def cmpXp (a b : Xpt) : Int := orL [cmpI a.mod b.mod, cmpB a.nm b.nm, cmpI a.sym b.sym]
def cmpRf (a b : Rfn) : Int := orL [cmpI a.mod b.mod, cmpI a.st b.st]
set_option maxRecDepth 100000 in
set_option maxHeartbeats 3200000 in
theorem cmpXp_any (x y : Xpt) (w : World) :
    Calls Tryz.prog 115 #[.agg (xpC x).toArray, .agg (xpC y).toArray] w fun e w' => e = .returned (.int .i64 (cmpXp x y)) ∧ ∃ q os', w' = grow (w.drewN q) os' := by
  obtain ⟨x0, x1, x2, x3⟩ := x
  obtain ⟨y0, y1, y2, y3⟩ := y
  have HC := Lib.hid (show cmpXp ⟨x0, x1, x2, x3⟩ ⟨y0, y1, y2, y3⟩ = orL [cmpI x0 y0, cmpB x1 y1, cmpI x2 y2] from rfl)
  show Calls _ _ #[.agg #[.int .i64 x0, .string x1, .int .i64 x2, .bool x3], .agg #[.int .i64 y0, .string y1, .int .i64 y2, .bool y3]] _ _
  go_enter Tryz.func115, Tryz.ntmps115
  go_wp2_with fail
  have hx := heap_one w (.cells #[.int .i64 x0, .string x1, .int .i64 x2, .bool x3] 208) (.cells #[.int .i64 y0, .string y1, .int .i64 y2, .bool y3] 208)
  have hy := heap_two w (.cells #[.int .i64 x0, .string x1, .int .i64 x2, .bool x3] 208) (.cells #[.int .i64 y0, .string y1, .int .i64 y2, .bool y3] 208)
  generalize hW : (w.alloc (.cells #[.int .i64 x0, .string x1, .int .i64 x2, .bool x3] 208)).alloc (.cells #[.int .i64 y0, .string y1, .int .i64 y2, .bool y3] 208) = W at *
  have HW := Lib.hid hW
  have xc0 := cell_of hx 0 _ rfl
  have xc1 := cell_of hx 1 _ rfl
  have xc2 := cell_of hx 2 _ rfl
  have yc0 := cell_of hy 0 _ rfl
  have yc1 := cell_of hy 1 _ rfl
  have yc2 := cell_of hy 2 _ rfl
  have hl1 := lt_of_heap hx
  have hl2 := lt_of_heap hy
  clear hx hy hW
  refine wp_region_still_tail 15 (by kernel_rfl) (by kernel_rfl) ?_
  simp only [List.take_succ_cons, List.take_zero, List.drop_succ_cons, List.drop_zero]
  repeat still_step
  still_call (cmp_any _ _ _)
  repeat still_step
  still_call (cmpS_any _ _ _)
  repeat still_step
  still_call (cmp_any _ _ _)
  repeat still_step
  refine wpStill_nil ?_
  generalize cmpI x0 y0 = c1 at *
  generalize cmpB x1 y1 = c2 at *
  generalize cmpI x2 y2 = c3 at *
  go_wp2_with fail
  refine (or_any (some ⟨W.heap.size, 0, none⟩) 3 [c1, c2, c3] _ (fun _ => ⟨W.heap.size, 0, rfl, by simp, fun k z hz => ?_⟩) (by unfold maxLen; simp)).mono ?_
  · rw [show ∀ (X : World) (a : Addr), X.drew.cell? a = X.cell? a from fun _ _ => rfl, Nat.zero_add, Lib.cell_of_heap (heap_alloc_new W _)]
    match k, hz with
    | 0, hz => cases hz; rfl
    | 1, hz => cases hz; rfl
    | 2, hz => cases hz; rfl
    | k + 3, hz => simp at hz
  · rintro e w1 ⟨rfl, rfl⟩
    go_wp2_with fail
    go_ret
    refine ⟨by rw [HC.out]; rfl, 1, #[.cells #[.int .i64 x0, .string x1, .int .i64 x2, .bool x3] 208] ++ #[.cells #[.int .i64 y0, .string y1, .int .i64 y2, .bool y3] 208] ++ #[.cells #[.int .i64 c1, .int .i64 c2, .int .i64 c3] 3], ?_⟩
    rw [← HW.out, alloc_eq_grow, alloc_eq_grow, alloc_eq_grow, grow_grow, grow_grow]
    rfl
set_option maxRecDepth 100000 in
set_option maxHeartbeats 3200000 in
theorem cmpRf_any (x y : Rfn) (w : World) :
    Calls Tryz.prog 72 #[.agg (rfC x).toArray, .agg (rfC y).toArray] w fun e w' => e = .returned (.int .i64 (cmpRf x y)) ∧ ∃ q os', w' = grow (w.drewN q) os' := by
  obtain ⟨x0, x1, x2⟩ := x
  obtain ⟨y0, y1, y2⟩ := y
  have HC := Lib.hid (show cmpRf ⟨x0, x1, x2⟩ ⟨y0, y1, y2⟩ = orL [cmpI x0 y0, cmpI x1 y1] from rfl)
  show Calls _ _ #[.agg #[.int .i64 x0, .int .i64 x1, .int .i64 x2], .agg #[.int .i64 y0, .int .i64 y1, .int .i64 y2]] _ _
  go_enter Tryz.func72, Tryz.ntmps72
  go_wp2_with fail
  have hx := heap_one w (.cells #[.int .i64 x0, .int .i64 x1, .int .i64 x2] 117) (.cells #[.int .i64 y0, .int .i64 y1, .int .i64 y2] 117)
  have hy := heap_two w (.cells #[.int .i64 x0, .int .i64 x1, .int .i64 x2] 117) (.cells #[.int .i64 y0, .int .i64 y1, .int .i64 y2] 117)
  generalize hW : (w.alloc (.cells #[.int .i64 x0, .int .i64 x1, .int .i64 x2] 117)).alloc (.cells #[.int .i64 y0, .int .i64 y1, .int .i64 y2] 117) = W at *
  have HW := Lib.hid hW
  have xc0 := cell_of hx 0 _ rfl
  have xc1 := cell_of hx 1 _ rfl
  have yc0 := cell_of hy 0 _ rfl
  have yc1 := cell_of hy 1 _ rfl
  have hl1 := lt_of_heap hx
  have hl2 := lt_of_heap hy
  clear hx hy hW
  refine wp_region_still_tail 10 (by kernel_rfl) (by kernel_rfl) ?_
  simp only [List.take_succ_cons, List.take_zero, List.drop_succ_cons, List.drop_zero]
  repeat still_step
  still_call (cmp_any _ _ _)
  repeat still_step
  still_call (cmp_any _ _ _)
  repeat still_step
  refine wpStill_nil ?_
  generalize cmpI x0 y0 = c1 at *
  generalize cmpI x1 y1 = c2 at *
  go_wp2_with fail
  refine (or_any (some ⟨W.heap.size, 0, none⟩) 2 [c1, c2] _ (fun _ => ⟨W.heap.size, 0, rfl, by simp, fun k z hz => ?_⟩) (by unfold maxLen; simp)).mono ?_
  · rw [show ∀ (X : World) (a : Addr), X.drew.cell? a = X.cell? a from fun _ _ => rfl, Nat.zero_add, Lib.cell_of_heap (heap_alloc_new W _)]
    match k, hz with
    | 0, hz => cases hz; rfl
    | 1, hz => cases hz; rfl
    | k + 2, hz => simp at hz
  · rintro e w1 ⟨rfl, rfl⟩
    go_wp2_with fail
    go_ret
    refine ⟨by rw [HC.out]; rfl, 1, #[.cells #[.int .i64 x0, .int .i64 x1, .int .i64 x2] 117] ++ #[.cells #[.int .i64 y0, .int .i64 y1, .int .i64 y2] 117] ++ #[.cells #[.int .i64 c1, .int .i64 c2] 3], ?_⟩
    rw [← HW.out, alloc_eq_grow, alloc_eq_grow, alloc_eq_grow, grow_grow, grow_grow]
    rfl
end Go.Proofs.YtpibenilagloaaaGreatDoor

namespace Go.Proofs.YtpibenilagloaaaGreatDoor
open Go.RowKit
open Go.Sort (swp insInner insOuter insertionSort)
set_option linter.unusedVariables false
theorem size_swp {α : Type} [Inhabited α] (d : Array α) (i j : Nat) : (swp d i j).size = d.size := by simp [swp]
theorem size_insInner {α : Type} [Inhabited α] (lt : α → α → Bool) (a : Nat) : ∀ (j : Nat) (d : Array α), (insInner lt a j d).size = d.size
  | 0, d => by unfold insInner; rfl
  | j + 1, d => by
    unfold insInner
    split
    · rw [size_insInner lt a j, size_swp]
    · rfl
theorem size_insOuter {α : Type} [Inhabited α] (lt : α → α → Bool) (a b : Nat) : ∀ (n i : Nat) (d : Array α), b - i = n → (insOuter lt a b i d).size = d.size
  | 0, i, d, h => by unfold insOuter; rw [if_neg (by omega)]
  | n + 1, i, d, h => by unfold insOuter; rw [if_pos (by omega), size_insOuter lt a b n (i + 1) _ (by omega), size_insInner]
def sortI {α : Type} [Inhabited α] (c : α → α → Int) (ds : List α) : List α := (insertionSort (ltOf c) ds.toArray 0 ds.length).toList
theorem sortI_len {α : Type} [Inhabited α] (c : α → α → Int) (ds : List α) : (sortI c ds).length = ds.length := by
  unfold sortI insertionSort
  rw [Array.length_toList, size_insOuter _ _ _ _ _ _ rfl]; simp
def SrtPostK (k : Nat) (T : TypeId) (w : World) (g cap n : Nat) (cs : List Value) (e : Ending) (w' : World) : Prop :=
  e = .returned (.tuple #[]) ∧ w'.ownsRow 0 T k (.slice (some ⟨g, 0, none⟩) n cap) n cs ∧ (w'.os = w.os ∧ w'.tape = w.tape ∧ w'.output = w.output) ∧ w.heap.size ≤ w'.heap.size ∧ ∀ b, b < w.heap.size → b ≠ g → w'.heap[b]? = w.heap[b]?
theorem xpC_len (x : Xpt) : (xpC x).length = 4 := rfl
theorem rfC_len (x : Rfn) : (rfC x).length = 3 := rfl
theorem bitsLen_any (n : Nat) (W : World) (h : n ≤ 12) : Calls Tryz.prog 57 #[.int .u64 n] W fun e w' => (∃ l : Int, e = .returned (.int .i64 l)) ∧ w' = W :=
  (Tryz.bits_Len n W (by omega) (by omega)).mono fun _ _ ⟨he, hw⟩ => ⟨⟨_, he⟩, hw⟩
theorem sortXp_any (w : World) (g cap n : Nat) (ds : List Xpt) (hl : ds.length = n) (hb : n ≤ 12) (row : w.ownsRow 0 208 4 (.slice (some ⟨g, 0, none⟩) n cap) n (ds.flatMap xpC)) :
    Calls Tryz.prog 114 #[.slice (some ⟨g, 0, none⟩) n cap, .func (.func 115) #[] #[]] w (SrtPostK 4 208 w g cap n ((sortI cmpXp ds).flatMap xpC)) := by
  have eg : ∀ args w, (callFunc 115 args).run Tryz.prog w = .ok (.enter 115 args) w := enters_of Tryz.func115 (by kernel_rfl) rfl
  have hcmp : CmpLays Tryz.prog 115 #[] xpC 4 cmpXp g 0 ds.toArray.size w := fun _ _ _ _ x y => cmpXp_any x y _
  have hglt := (row.lt g rfl).2
  have hcon := AnyQ.slices_SortFunc_small Tryz.sortXp 4 Tryz.isAgg208 Tryz.sizeOf208 xpC (fun _ => rfl) (fun x v hv => by simp [xpC] at hv; rcases hv with rfl | rfl | rfl | rfl <;> rfl) cmpXp 115 #[] g 0 cap ds.toArray w eg hcmp (holdsK_own xpC_len hl row) hglt (by simp only [List.size_toArray, hl]; omega) bitsLen_any
  simp only [List.size_toArray, hl] at hcon
  refine Calls.mono (show Calls Tryz.prog 114 _ _ _ from hcon) ?_
  rintro e w' ⟨rfl, m, os, hw⟩
  refine ⟨rfl, own_sorted xpC_len hl (by rw [sortI_len, hl]) row m os ?_⟩
  rw [hw]; unfold sortI; rw [hl]
theorem sortRf_any (w : World) (g cap n : Nat) (ds : List Rfn) (hl : ds.length = n) (hb : n ≤ 12) (row : w.ownsRow 0 117 3 (.slice (some ⟨g, 0, none⟩) n cap) n (ds.flatMap rfC)) :
    Calls Tryz.prog 71 #[.slice (some ⟨g, 0, none⟩) n cap, .func (.func 72) #[] #[]] w (SrtPostK 3 117 w g cap n ((sortI cmpRf ds).flatMap rfC)) := by
  have eg : ∀ args w, (callFunc 72 args).run Tryz.prog w = .ok (.enter 72 args) w := enters_of Tryz.func72 (by kernel_rfl) rfl
  have hcmp : CmpLays Tryz.prog 72 #[] rfC 3 cmpRf g 0 ds.toArray.size w := fun _ _ _ _ x y => cmpRf_any x y _
  have hglt := (row.lt g rfl).2
  have hcon := AnyQ.slices_SortFunc_small Tryz.sortRf 3 Tryz.isAgg117 Tryz.sizeOf117 rfC (fun _ => rfl) (fun x v hv => by simp [rfC] at hv; rcases hv with rfl | rfl | rfl <;> rfl) cmpRf 72 #[] g 0 cap ds.toArray w eg hcmp (holdsK_own rfC_len hl row) hglt (by simp only [List.size_toArray, hl]; omega) bitsLen_any
  simp only [List.size_toArray, hl] at hcon
  refine Calls.mono (show Calls Tryz.prog 71 _ _ _ from hcon) ?_
  rintro e w' ⟨rfl, m, os, hw⟩
  refine ⟨rfl, own_sorted rfC_len hl (by rw [sortI_len, hl]) row m os ?_⟩
  rw [hw]; unfold sortI; rw [hl]
end Go.Proofs.YtpibenilagloaaaGreatDoor

namespace Go.Proofs.YtpibenilagloaaaGreatDoor
open Go.RowKit
set_option linter.unusedVariables false
theorem own_base {w : World} {B : Nat} {e : TypeId} {k n : Nat} {v : Value} {xs : List Value} (h : w.ownsRow B e k v n xs) : w.ownsRow 0 e k v n xs := by
  rcases h.2 with ⟨rfl, hn⟩ | ⟨g, cap, cur, rfl, hb', hh, h3⟩
  · exact ⟨h.1, .inl ⟨rfl, hn⟩⟩
  · exact ⟨h.1, .inr ⟨g, cap, cur, rfl, Nat.zero_le _, hh, h3⟩⟩
theorem own_some {w : World} {B : Nat} {e : TypeId} {k n : Nat} {v : Value} {xs : List Value} (h : w.ownsRow B e k v n xs) (hn : n ≠ 0) : ∃ g c, v = .slice (some ⟨g, 0, none⟩) n c ∧ B ≤ g ∧ g < w.heap.size := by
  rcases h.2 with ⟨_, h0⟩ | ⟨g, cap, cur, hv, hb', hh, h3⟩
  · exact absurd h0 hn
  · exact ⟨g, cap, hv, hb', lt_of_heap hh⟩
theorem own_at {α : Type} {enc : α → List Value} {k : Nat} {hp : 0 < k} {hk : ∀ x, (enc x).length = k} {h1 : ∀ x, ∀ v ∈ enc x, v.oneCell' = true} {w : World} {B : Nat} {e : TypeId} {A : Option Addr} {c : Nat} {xs : List α} {n : Nat} (hn : xs.length = n) (h : w.ownsRow B e k (.slice A n c) n (xs.flatMap enc)) : (flatD enc k hp hk h1).At w (Lt w) A xs := by
  subst hn
  have ho : (flatD enc k hp hk h1).Own w B e (Lt w) (.slice A xs.length c) xs (xs.flatMap enc) := ⟨h, flatD_of xs⟩
  obtain ⟨A5, c5, q1, q2, _⟩ := ho.at (F' := Lt w) (fun _ h => h) (fun g hg => (h.lt g hg).2)
  injection q1 with q1 _ _
  rw [q1]; exact q2
def BldPost (x : Mdl) (t : Node) (mb mo mc : Nat) (w : World) (e : Ending) (w' : World) : Prop :=
  ∃ p TA tc, e = .returned (.tuple #[.pointer (some ⟨p, 0, none⟩), .slice none 0 0, .int .i64 0]) ∧ EnvV w' p mb mo mc x (symsN x t) (sortI cmpXp (declN 0 (symsN x t))) ∧ w'.cell? ⟨p, 1, none⟩ = some (.slice TA 1 tc) ∧ nodeD.At w' (Lt w') TA [t] ∧ (∃ SA sc, w'.cell? ⟨p, 2, none⟩ = some (.slice SA (symsN x t).length sc) ∧ syD.At w' (Lt w') SA (symsN x t) ∧ (symsN x t).length ≤ sc) ∧ Below w.heap.size w w'
set_option maxRecDepth 100000 in
set_option maxHeartbeats 6400000 in
theorem build_one (x : Mdl) (mb mo mc : Nat) (w : World) (hg : Gl w) (hA : AscAt w) (hb : mb < w.heap.size) (hc : ∀ i u, (mdC x)[i]? = some u → w.cell? ⟨mb, mo + i, none⟩ = some u) (h1 : isIdB x.nm = true) (h2 : x.src.size ≤ 2000) (n : Nat) (u : PS) (hu : run n fileC ⟨tokensL x.src.data.toList, [], false, 600000⟩ = some u) (hd : astD x.src u.ch = [])
    (t : Node) (ht : astN x.src u.ch = t) (hok : okS t = true) (hsz : t.sz ≤ 900000) (hus : ∀ y ∈ t.ch, y.h.k ≠ 2) (hy : okY (symsN x t)) (hd1 : declN 0 (symsN x t) ≠ []) (hd2 : (declN 0 (symsN x t)).length ≤ 12) (hsl : (symsN x t).length ≤ 100000) :
    Calls Tryz.prog 68 #[.slice (some ⟨mb, mo, none⟩) 1 mc] w (BldPost x t mb mo mc w) := by
  have HPA := Lib.hid (pa_one x mb mo mc w hg hA hb hc h1 h2 n u hu hd)
  rw [ht] at HPA
  have HLI := Lib.hid (fun w' (hb' : Below w.heap.size w w') TA tc (hta : nodeD.At w' (Lt w') TA [t]) => list_one x t mb mo mc tc TA w' (Nat.lt_of_lt_of_le hb hb'.size) (fun i u hu => (hb'.cell (p := ⟨mb, _, none⟩) hb).trans (hc i u hu)) hta hok hsz)
  obtain ⟨ss, hss⟩ : ∃ ss, symsN x t = ss := ⟨_, rfl⟩
  have hch : t.ch.length ≤ 1000000 := by
    have := len_szs t.ch
    have h3 : t.sz = 1 + szs t.ch := by cases t; unfold Node.sz; rfl
    omega
  unfold ListPost at HLI
  unfold BldPost
  rw [hss] at HLI hy hd1 hd2 hsl
  rw [hss]
  have HCC := Lib.hid (fun w' (hb' : Below w.heap.size w w') => show mb < w'.heap.size ∧ (∀ i u, (mdC x)[i]? = some u → w'.cell? ⟨mb, mo + i, none⟩ = some u) from ⟨Nat.lt_of_lt_of_le hb hb'.size, fun i u hu => (hb'.cell (p := ⟨mb, _, none⟩) hb).trans (hc i u hu)⟩)
  have HY := Lib.hid hy
  have HSL := Lib.hid hsl
  have HUS := Lib.hid hus
  have HCH := Lib.hid hch
  have HD1 := Lib.hid hd1
  have HD2 := Lib.hid hd2
  clear hg hA hc h1 h2 hu hd ht hok hsz hus hy hd1 hd2 hsl hss hch
  go_enter Tryz.func68, Tryz.ntmps68
  go_wp2_with fail
  refine HPA.out.mono ?_
  rintro e w1 ⟨TA, tc, rfl, hta, hb1⟩
  have HB1 := Lib.hid hb1
  have HTA := Lib.hid hta
  have HL := Lib.hid (HLI.out w1 hb1 TA tc (hta.keep (fun b hb => hb.2) (fun _ _ => rfl)))
  clear hb1 hta HPA HLI
  go_wp2_with fail
  refine HL.out.mono ?_
  rintro e w2 ⟨SA, sc, rfl, hsa, hscb, hb2⟩
  obtain ⟨W3, hW3⟩ : ∃ W3, w2.alloc (.cells #[.slice (some ⟨mb, mo, none⟩) 1 mc, .slice TA 1 tc, .slice SA ss.length sc, .slice none 0 0] 154) = W3 := ⟨_, rfl⟩
  have hx3 : W3.heap[w2.heap.size]? = some (.cells #[.slice (some ⟨mb, mo, none⟩) 1 mc, .slice TA 1 tc, .slice SA ss.length sc, .slice none 0 0] 154 (0, 0)) := by rw [← hW3]; exact heap_alloc_new w2 _
  have hb3 : Below w2.heap.size w2 W3 := by rw [← hW3]; exact (Below.refl _ _).alloc (Nat.le_refl _) _
  have hw12 : w1.heap.size ≤ w2.heap.size := hb2.size
  have hpg : PgM W3 w2.heap.size w2.heap.size (.slice (some ⟨mb, mo, none⟩) 1 mc) (.slice TA 1 tc) ss [] :=
    ⟨SA, sc, .slice none 0 0, hx3, hsa.keep (fun b hb => hb.2) (fun b hb' => hb3.block b hb'.2), World.ownsRow_nil _ _ _ _, by simp [Value.ownBlock], Nat.le_refl _, hscb⟩
  have hta3 : nodeD.At W3 (fun b => b < w2.heap.size) TA [t] := HTA.out.keep (fun b hb => Nat.lt_of_lt_of_le hb.2 hw12) (fun b hb' => (hb3.block b (Nat.lt_of_lt_of_le hb'.2 hw12)).trans (hb2.block b hb'.2))
  have hbw3 : Below w.heap.size w W3 := (HB1.out.trans (hb2.mono HB1.out.size)).trans (hb3.mono (Nat.le_trans HB1.out.size hw12))
  have hl3 := lt_of_heap hx3
  have HAD := Lib.hid (addDecls_any w2.heap.size w2.heap.size _ _ ss W3 hpg HY.out HSL.out (by omega))
  have HT3 := Lib.hid hta3
  have HB3 := Lib.hid hbw3
  obtain ⟨sn, hsn⟩ : ∃ sn, ss.length = sn := ⟨_, rfl⟩
  have HSN := Lib.hid hsn
  rw [hsn] at hW3
  rw [hsn]
  clear hx3 hb3 hpg hta3 hbw3 hsa hscb hb2 HL HTA hsn
  go_wp2_with fail
  refine HAD.out.mono ?_
  rintro e w4 ⟨rfl, hp4, hb4⟩
  clear hW3 HAD
  have hs4 := hb4.size
  have hta4 : nodeD.At w4 (fun b => b < w2.heap.size) TA [t] := HT3.out.keep (fun _ h => h) (fun b hb' => hb4.block b hb')
  have HAI := Lib.hid (addImps_any w2.heap.size w2.heap.size _ TA tc t ss _ w4 hp4 hta4 HUS.out (by omega) HCH.out)
  have hw2 : w.heap.size ≤ w2.heap.size := Nat.le_trans HB1.out.size hw12
  have HB4 := Lib.hid (HB3.out.trans (hb4.mono hw2))
  have HT4 := Lib.hid hta4
  have HP4 := Lib.hid hp4
  clear hta4 hp4 hb4 HT3 HB3 HB1
  go_wp2_with fail
  go_loopw [28] (fun v wr => wr = w4) (fun _ _ => 0)
  case atStart => rfl
  case round =>
    obtain rfl := hrel
    go_wp2_with fail
    refine HAI.out.mono ?_
    rintro e w5 ⟨rfl, hb5⟩
    have hp5 := HP4.out.below hb5
    have hs5 := hb5.size
    have HB5 := Lib.hid (HB4.out.trans (hb5.mono HB4.out.size))
    have ht5 : nodeD.At w5 (fun b => b < w2.heap.size) TA [t] := HT4.out.keep (fun _ h => h) (fun b hb' => hb5.block b (by omega))
    have HT5 := Lib.hid ht5
    clear hb5 HP4 HT4 HAI ht5
    obtain ⟨SA, sc, v, g1, g2, g3, g4, g5, g6⟩ := hp5
    obtain ⟨dn, hdn⟩ : ∃ dn, (declN 0 ss).length = dn := ⟨_, rfl⟩
    have HDN := Lib.hid hdn
    rw [hdn] at g3
    have hd0 : dn ≠ 0 := by rw [← hdn]; intro h; exact HD1.out (List.eq_nil_of_length_eq_zero h)
    have hd12 : dn ≤ 12 := by rw [← hdn]; exact HD2.out
    obtain ⟨g, cp, rfl, hBg, hgl⟩ := own_some g3 hd0
    have hgp : w2.heap.size ≠ g := fun e => g4 (by rw [e]; rfl)
    have HSO := Lib.hid (sortXp_any w5 g cp dn (declN 0 ss) hdn hd12 (own_base g3))
    have z3 := cell_of g1 3 _ rfl
    have hpl := lt_of_heap g1
    have HG1 := Lib.hid g1
    have HG2 := Lib.hid g2
    clear g1 g2 g3 g4 hdn
    go_wp2_with fail
    refine HSO.out.mono ?_
    rintro e w6 ⟨rfl, hrow, ⟨ho1, ho2, ho3⟩, hs6, hkp⟩
    have hb6 : Below w2.heap.size w5 w6 := ⟨ho1, ho2, ho3, hs6, fun b hb' => hkp b (by omega) (by omega)⟩
    have q1 := (hkp _ hpl hgp).trans HG1.out
    have hpgv : PgV w6 w2.heap.size ss (sortI cmpXp (declN 0 ss)) :=
      ⟨⟨SA, sc, cell_of q1 2 _ rfl, HG2.out.keep (fun b hb' => (by have : b < w2.heap.size := hb'; show b < w6.heap.size; omega)) (fun b hb' => hkp b (by have : b < w2.heap.size := hb'; omega) (by have : b < w2.heap.size := hb'; omega))⟩,
        ⟨some ⟨g, 0, none⟩, cp, by rw [sortI_len, HDN.out]; exact cell_of q1 3 _ rfl, own_at (by rw [sortI_len, HDN.out]) hrow⟩, lt_of_heap q1⟩
    have hsy6 : ∃ SA sc, w6.cell? ⟨w2.heap.size, 2, none⟩ = some (.slice SA ss.length sc) ∧ syD.At w6 (Lt w6) SA ss ∧ ss.length ≤ sc := by
      obtain ⟨SA', sc', k1, k2⟩ := hpgv.sy
      have e : some (Value.slice SA ss.length sc) = some (Value.slice SA' ss.length sc') := (cell_of q1 2 _ rfl).symm.trans k1
      injection e with e; injection e with e1 _ e2
      subst e1 e2
      exact ⟨_, _, k1, k2, g6⟩
    have HSY6 := Lib.hid hsy6
    have hb6w := HB5.out.trans (hb6.mono (by omega))
    obtain ⟨m1, m2⟩ := HCC.out w6 hb6w
    have HENV := Lib.hid (show EnvV w6 w2.heap.size mb mo mc x ss (sortI cmpXp (declN 0 ss)) from ⟨hpgv, cell_of q1 0 _ rfl, m1, m2, by rw [sortI_len]; have := HD2.out; omega, by have := HSL.out; omega⟩)
    have HQ1 := Lib.hid (show w6.cell? ⟨w2.heap.size, 1, none⟩ = some (.slice TA 1 tc) from cell_of q1 1 _ rfl)
    have HT6 := Lib.hid (HT5.out.keep (F' := Lt w6) (fun b hb' => (by have : b < w2.heap.size := hb'; show b < w6.heap.size; omega)) (fun b hb' => hb6.block b hb'))
    have HB6 := Lib.hid hb6w
    clear hrow ho1 ho2 ho3 hkp hb6 q1 hpgv hb6w m1 m2 HSO hsy6
    go_wp2_with fail
    go_ret3
    exact ⟨w2.heap.size, TA, tc, rfl, HENV.out, HQ1.out, HT6.out, HSY6.out, HB6.out⟩

def VisPost (B R p : Nat) (bn : Value) (s : RD) (w : World) (r : Ending) (w' : World) : Prop := r = .returned (.tuple #[]) ∧ RsM w' B R p bn s ∧ Below B w w' ∧ Fr R w w'
theorem RsM.scope0 {w : World} {B R p : Nat} {bn : Value} {s : RD} (h : RsM w B R p bn s) : RsM (w.setCell ⟨R, 2, none⟩ (.slice none 0 0)) B R p bn s := by
  obtain ⟨vr, vd, h1, h2, h3, h4, h5, h6⟩ := h
  refine ⟨vr, vd, ?_, ?_, ?_, h4, h5, h6⟩
  · exact heap_set h1 2 (.slice none 0 0)
  · exact ownsRow_below h2 (fun g hg => Below.heap_setCell _ _ _ _ (fun e => h4 (by rw [hg, e])))
  · exact ownsRow_below h3 (fun g hg => Below.heap_setCell _ _ _ _ (fun e => h5 (by rw [hg, e])))
set_option maxRecDepth 100000 in
set_option maxHeartbeats 3200000 in
theorem scoped_any (B R p : Nat) (bn : Value) (s s' : RD) (P1 P2 : Nat) (w : World) (hr : RsM w B R p bn s) (hc : Calls Tryz.prog 193 #[.pointer (some ⟨P1, 0, none⟩), .pointer (some ⟨P2, 0, none⟩)] w (VisPost B R p bn s' w)) :
    Calls Tryz.prog 190 #[.pointer (some ⟨R, 0, none⟩), .func (.func 193) #[] #[.pointer (some ⟨P1, 0, none⟩), .pointer (some ⟨P2, 0, none⟩)]] w (VisPost B R p bn s' w) := by
  obtain ⟨vr, vd, h1, _⟩ := hr
  have c2 : w.cell? ⟨R, 2, none⟩ = some (.slice none 0 0) := cell_of h1 2 _ rfl
  have hR := lt_of_heap h1
  have HC := Lib.hid hc
  clear h1 hc
  go_enter Tryz.func190, Tryz.ntmps190
  go_wp2_with fail
  refine HC.out.mono ?_
  rintro e w1 ⟨rfl, hr1, hb1, hf1⟩
  have hr2 := hr1.scope0
  have hf2 : Fr R w (w1.setCell ⟨R, 2, none⟩ (.slice none 0 0)) := fun b cs t fr e1 e2 e3 e4 => (Below.heap_setCell _ _ _ _ e4).trans (hf1 b cs t fr e1 e2 e3 e4)
  obtain ⟨vr1, vd1, k1, _, _, _, _, hBR⟩ := hr1
  have d2 : w1.cell? ⟨R, 2, none⟩ = some (.slice none 0 0) := cell_of k1 2 _ rfl
  have z2 := Lib.frozen_of_heap k1 2
  have hR1 := lt_of_heap k1
  have H1 := Lib.hid hr2
  have H2 := Lib.hid (hb1.setCell hBR (Value.slice none 0 0) (p := ⟨R, 2, none⟩))
  have H3 := Lib.hid hf2
  clear hr2 hf2 hb1 hf1 k1 HC c2
  go_wp2_with fail
  go_end0
  exact ⟨rfl, H1.out, H2.out, H3.out⟩
def VisROk (B R p : Nat) (bn : Value) (x : Mdl) (ss : List Sym) (xs : List Xpt) (w0 : World) (n : Nat) : Prop := ∀ t : Node, t.sz < n → okR x.nm t = true → ∀ (s : RD) (w : World) (us : List Value), Below B w0 w → RsM w B R p bn s → NodeV w (fun b => b < B) t us → s.rf.length + t.sz ≤ 1000000 → s.ds.length + t.sz ≤ 1000000 →
  Calls Tryz.prog 116 #[.pointer (some ⟨R, 0, none⟩), .agg us.toArray] w (VisPost B R p bn (visN (firstN ss xs) t s) w)
set_option maxRecDepth 100000 in
set_option maxHeartbeats 6400000 in
theorem visitAll_of (B R p : Nat) (bn : Value) (x : Mdl) (ss : List Sym) (xs : List Xpt) (w0 : World) (hB : w0.heap.size = B) (n : Nat) (ih : VisROk B R p bn x ss xs w0 n) (ch : List Node) (hn : szs ch < n) (ho : okRs x.nm ch = true) (s : RD) (w : World) (A : Option Addr) (c : Nat) (hb0 : Below B w0 w) (hr : RsM w B R p bn s) (hk : nodeD.At w (fun b => b < B) A ch) (hl1 : s.rf.length + szs ch ≤ 1000000) (hl2 : s.ds.length + szs ch ≤ 1000000) :
    Calls Tryz.prog 69 #[.pointer (some ⟨R, 0, none⟩), .slice A ch.length c] w (VisPost B R p bn (visNs (firstN ss xs) ch s) w) := by
  have hBw : B ≤ w.heap.size := by have := hb0.size; omega
  obtain ⟨L, hL⟩ : ∃ L, ch.length = L := ⟨_, rfl⟩
  have hLz := len_szs ch
  have hLb : L ≤ 1000000 := by omega
  have HK := Lib.hid hk
  have HL := Lib.hid hL
  have HI := Lib.hid ih
  have HN := Lib.hid hn
  have HO := Lib.hid ho
  have HB0 := Lib.hid hb0
  have HR := Lib.hid hr
  have HL1 := Lib.hid hl1
  have HL2 := Lib.hid hl2
  have HBw := Lib.hid hBw
  rw [hL]
  clear hk hL ih hn ho hb0 hr hl1 hl2 hLz
  go_enter Tryz.func69, Tryz.ntmps69
  go_wp2_with fail
  have hq0 : visNs (firstN ss xs) (ch.take 0) s = s := by rw [List.take_zero, visNs]
  go_loopw [8] (fun i wr => ∃ j : Nat, i = .int .i64 (j : Int) ∧ j ≤ L ∧ RsM wr B R p bn (visNs (firstN ss xs) (ch.take j) s) ∧ Below B w wr ∧ Fr R w wr) (fun i _ => L - (intOf i).toNat)
  case atStart => exact ⟨0, rfl, Nat.zero_le _, by rw [hq0]; exact HR.out, Below.refl _ _, fun _ _ _ _ _ _ _ _ => rfl⟩
  case round =>
    clear hq0
    obtain ⟨j, rfl, hj, hrj, hbj, hfj⟩ := hrel
    by_cases hlt : j < L
    · have hjI : (j : Int) < L := by omega
      have hjl : j < ch.length := by rw [HL.out]; exact hlt
      obtain ⟨tb, off, us, rfl, htb, hx, hxc⟩ := HK.out.get j ch[j] (List.getElem?_eq_getElem hjl)
      have htk : visNs (firstN ss xs) (ch.take (j + 1)) s = visN (firstN ss xs) ch[j] (visNs (firstN ss xs) (ch.take j) s) := by
        rw [List.take_succ_eq_append_getElem hjl, visNs_append, visNs, visNs]
      have hsg := szs_get ch j hjl
      have hxo := okRs_get x.nm ch j ch[j] HO.out (List.getElem?_eq_getElem hjl)
      have hln := visNs_len (firstN ss xs) (ch.take j) s
      generalize ch[j] = t at *
      obtain ⟨A2, c2, rfl, _⟩ := NodeV.vals hx
      have hbs := hbj.size
      have hc : ∀ i u, (t.h.vals (.slice A2 t.ch.length c2))[i]? = some u → wr.cell? ⟨tb, off + j * 7 + i, none⟩ = some u := fun i u hu => (hbj.cell (p := ⟨tb, _, none⟩) htb).trans (hxc i u hu)
      have hbl : Below wr.heap.size wr (wr.alloc (.cells (t.h.vals (.slice A2 t.ch.length c2)).toArray 57)) := (Below.refl _ _).alloc (Nat.le_refl _) _
      have hBr : B ≤ wr.heap.size := Nat.le_trans HBw.out hbs
      have hbj2 := hbj.trans (hbl.mono hBr)
      have hfj2 := hfj.trans (Fr.below (R := R) hbl)
      have hcall := HI.out t (by have := HN.out; omega) hxo (visNs (firstN ss xs) (ch.take j) s) _ _ (HB0.out.trans hbj2) (hrj.below hbl) (NodeV.keep (fun _ h => h) (fun b hb' => hbj2.block b hb') _ _ hx) (by have := HL1.out; omega) (by have := HL2.out; omega)
      obtain ⟨m2, hm2⟩ : ∃ m2, t.ch.length = m2 := ⟨_, rfl⟩
      obtain ⟨hd2, hhd2⟩ : ∃ hd2, t.h = hd2 := ⟨_, rfl⟩
      rw [hhd2, hm2] at hc hcall hbj2 hfj2
      have d0 := hc 0 _ rfl
      have d1 := hc 1 _ rfl
      have d2 := hc 2 _ rfl
      have d3 := hc 3 _ rfl
      have d4 := hc 4 _ rfl
      have d5 := hc 5 _ rfl
      have d6 := hc 6 _ rfl
      rw [Nat.add_zero] at d0
      have htl : tb < wr.heap.size := Nat.lt_of_lt_of_le htb hBr
      simp only [Hd.vals] at hcall hbj2 hfj2
      have HC := Lib.hid hcall
      have HBJ := Lib.hid hbj2
      have HFJ := Lib.hid hfj2
      have HTK := Lib.hid htk
      clear hc hx hxc hbl hm2 hhd2 htk hcall hbj2 hrj hbj hln hsg hxo hfj hfj2
      go_wp2_with fail
      refine HC.out.mono ?_
      rintro e w3 ⟨rfl, hr3, hb3, hf3⟩
      have H3 := Lib.hid hr3
      have HB3 := Lib.hid (HBJ.out.trans hb3)
      have HF3 := Lib.hid (HFJ.out.trans hf3)
      clear hr3 hb3 hf3 HC
      go_wp2_with fail
      go_roundw
      case rel => exact ⟨j + 1, by go_num, by omega, by rw [HTK.out]; exact H3.out, HB3.out, HF3.out⟩
      case measure => simp [intOf]; omega
    · have hjI : ¬ (j : Int) < L := by omega
      have htk : ch.take j = ch := List.take_of_length_le (by rw [HL.out]; omega)
      rw [htk] at hrj
      have H1 := Lib.hid hrj
      have H2 := Lib.hid hbj
      have H3 := Lib.hid hfj
      clear hrj hbj htk hfj
      go_wp2_with fail
      go_end0
      exact ⟨rfl, H1.out, H2.out, H3.out⟩
set_option maxHeartbeats 3200000 in
theorem visit2_any (B R p : Nat) (bn : Value) (s' : RD) (P1 P2 : Nat) (A : Option Addr) (n c : Nat) (w : World) (c1 : w.cell? ⟨P1, 0, none⟩ = some (.pointer (some ⟨R, 0, none⟩))) (c2 : w.cell? ⟨P2, 6, none⟩ = some (.slice A n c)) (h1 : P1 < w.heap.size) (h2 : P2 < w.heap.size)
    (hc : Calls Tryz.prog 69 #[.pointer (some ⟨R, 0, none⟩), .slice A n c] w (VisPost B R p bn s' w)) :
    Calls Tryz.prog 193 #[.pointer (some ⟨P1, 0, none⟩), .pointer (some ⟨P2, 0, none⟩)] w (VisPost B R p bn s' w) := by
  have HC := Lib.hid hc
  clear hc
  go_enter Tryz.func193, Tryz.ntmps193
  go_wp2_with fail
  refine HC.out.mono ?_
  rintro e w1 ⟨rfl, hr1, hb1, hf1⟩
  have H1 := Lib.hid hr1
  have H2 := Lib.hid hb1
  have H3 := Lib.hid hf1
  clear hr1 hb1 hf1
  go_wp2_with fail
  go_end0
  exact ⟨rfl, H1.out, H2.out, H3.out⟩

set_option maxRecDepth 100000 in
set_option maxHeartbeats 12800000 in
theorem visitR_step (B R p mb mo mc : Nat) (bn : Value) (x : Mdl) (ss : List Sym) (xs : List Xpt) (w0 : World) (hB : w0.heap.size = B) (hE : EnvV w0 p mb mo mc x ss xs) (n : Nat) (ih : VisROk B R p bn x ss xs w0 n) : VisROk B R p bn x ss xs w0 (n + 1) := by
  intro t htn hok s w us hb0 hr hus hl1 hl2
  obtain ⟨A, c, rfl, hk⟩ := hus.kids
  obtain ⟨hd, ch⟩ := t
  have hBw : B ≤ w.heap.size := by have := hb0.size; omega
  have hcase := okR_cases x.nm hd ch hok
  unfold Node.sz at htn hl1 hl2
  simp only [Node.h, Node.ch] at hk ⊢
  obtain ⟨W, hW⟩ : ∃ W, (w.alloc (.cells #[.pointer (some ⟨R, 0, none⟩)] 150)).alloc (.cells (hd.vals (.slice A ch.length c)).toArray 57) = W := ⟨_, rfl⟩
  have hbW : Below w.heap.size w W := by rw [← hW]; exact ((Below.refl _ _).alloc (Nat.le_refl _) _).alloc (by simp) _
  have hx1 : W.heap[w.heap.size]? = some (.cells #[.pointer (some ⟨R, 0, none⟩)] 150 (0, 0)) := by
    rw [← hW]; exact (heap_alloc_old _ _ (by simp)).trans (heap_alloc_new w _)
  have hx2 : W.heap[w.heap.size + 1]? = some (.cells (hd.vals (.slice A ch.length c)).toArray 57 (0, 0)) := by
    rw [← hW]
    have := heap_alloc_new (w.alloc (.cells #[.pointer (some ⟨R, 0, none⟩)] 150)) (.cells (hd.vals (.slice A ch.length c)).toArray 57)
    rw [World.size_alloc] at this
    exact this
  have hbW2 := hbW.mono hBw
  have hb0W := hb0.trans hbW2
  have hrW := hr.below hbW
  have hkW : nodeD.At W (fun b => b < B) A ch := hk.keep (fun _ h => h) (fun b hb => hbW.block b (by omega))
  have hfW := Fr.below (R := R) hbW
  have hl1W := lt_of_heap hx1
  have hl2W := lt_of_heap hx2
  have HOK := Lib.hid hok
  -- the calls, at W
  have hpath : hd.k = 17 → Calls Tryz.prog 184 #[.pointer (some ⟨R, 0, none⟩), .agg (hd.vals (.slice A ch.length c)).toArray, .bool false] W fun r w' => (∃ q, r = .returned (.int .i64 q)) ∧ RsM w' B R p bn (visN (firstN ss xs) (.mk hd ch) s) ∧ Below B W w' ∧ Fr R W w' := by
    intro h17
    rcases hcase with ⟨_, g, rfl, q1, q2, q3, q4⟩ | ⟨h, _⟩ | ⟨h, _⟩ | ⟨h, _⟩
    · have e : visN (firstN ss xs) (.mk hd [.mk g []]) s = segN (firstN ss xs) g s := by unfold visN; rw [if_pos h17]
      rw [e]
      have z1 : szs [Node.mk g []] = 1 := by simp [szs, Node.sz]
      have := path_any B R p mb mo mc bn x ss xs w0 hB hE hd g q1 q2 q3 (fun e => q4 e.symm) s (by omega) (by omega) W hb0W hrW _ (NodeV.keep (fun _ h => h) (fun b hb => hbW.block b (by omega)) _ _ hus)
      exact this.mono fun r w' h => ⟨⟨_, h.1⟩, h.2⟩
    · omega
    · omega
    · omega
  have htp : hd.k = 10 → Calls Tryz.prog 187 #[.pointer (some ⟨R, 0, none⟩), .agg (hd.vals (.slice A ch.length c)).toArray] W fun r w' => r = .returned (.tuple #[]) ∧ RsM w' B R p bn (visN (firstN ss xs) (.mk hd ch) s) ∧ Below B W w' ∧ Fr R W w' := by
    intro h10
    rcases hcase with ⟨h, _⟩ | ⟨_, rfl⟩ | ⟨h, _⟩ | ⟨h, _⟩
    · omega
    · have e : visN (firstN ss xs) (.mk hd []) s = s := by unfold visN; rw [if_neg (by omega), visNs]
      rw [e]
      exact (typeParams_nil R hd A c W).mono fun r w' h => ⟨h.1, hrW.below h.2, h.2.mono (Nat.le_trans hBw hbW.size), Fr.below h.2⟩
    · omega
    · omega
  have hpr : hd.k = 12 → Calls Tryz.prog 188 #[.pointer (some ⟨R, 0, none⟩), .agg (hd.vals (.slice A ch.length c)).toArray] W fun r w' => r = .returned (.tuple #[]) ∧ RsM w' B R p bn (visN (firstN ss xs) (.mk hd ch) s) ∧ Below B W w' ∧ Fr R W w' := by
    intro h12
    rcases hcase with ⟨h, _⟩ | ⟨h, _⟩ | ⟨_, rfl⟩ | ⟨h, _⟩
    · omega
    · omega
    · have e : visN (firstN ss xs) (.mk hd []) s = s := by unfold visN; rw [if_neg (by omega), visNs]
      rw [e]
      exact (params_nil R hd A c W).mono fun r w' h => ⟨h.1, hrW.below h.2, h.2.mono (Nat.le_trans hBw hbW.size), Fr.below h.2⟩
    · omega
  have hva : hd.k ≠ 17 → hd.k ≠ 10 → hd.k ≠ 12 → Calls Tryz.prog 69 #[.pointer (some ⟨R, 0, none⟩), .slice A ch.length c] W (VisPost B R p bn (visN (firstN ss xs) (.mk hd ch) s) W) := by
    intro h17 h10 h12
    rcases hcase with ⟨h, _⟩ | ⟨h, _⟩ | ⟨h, _⟩ | ⟨_, ho⟩
    · exact absurd h h17
    · exact absurd h h10
    · exact absurd h h12
    · have e : visN (firstN ss xs) (.mk hd ch) s = visNs (firstN ss xs) ch s := by unfold visN; rw [if_neg h17]
      rw [e]
      exact visitAll_of B R p bn x ss xs w0 hB n ih ch (by omega) ho s W A c hb0W hrW hkW (by omega) (by omega)
  have hkk : hd.k = 17 ∨ hd.k = 10 ∨ hd.k = 12 ∨ (hd.k = 3 ∨ hd.k = 21) ∨ (hd.k = 0 ∨ hd.k = 26 ∨ hd.k = 30) := by
    rcases hcase with ⟨h, _⟩ | ⟨h, _⟩ | ⟨h, _⟩ | ⟨h, _⟩
    · exact .inl h
    · exact .inr (.inl h)
    · exact .inr (.inr (.inl h))
    · omega
  generalize visN (firstN ss xs) (.mk hd ch) s = s' at *
  obtain ⟨L, hL⟩ : ∃ L, ch.length = L := ⟨_, rfl⟩
  rw [hL] at hW hx2 hpath htp hpr hva ⊢
  obtain ⟨k, va, tx, st, en, nm⟩ := hd
  simp only [Hd.vals] at *
  have HBW := Lib.hid hbW2
  have HFW := Lib.hid hfW
  have HPA := Lib.hid hpath
  have HTP := Lib.hid htp
  have HPR := Lib.hid hpr
  have HVA := Lib.hid hva
  have y1 := cell_of hx1 0 _ rfl
  have d0 := cell_of hx2 0 _ rfl
  have d1 := cell_of hx2 1 _ rfl
  have d2 := cell_of hx2 2 _ rfl
  have d3 := cell_of hx2 3 _ rfl
  have d4 := cell_of hx2 4 _ rfl
  have d5 := cell_of hx2 5 _ rfl
  have d6 := cell_of hx2 6 _ rfl
  have HRW := Lib.hid hrW
  clear hx1 hx2 hpath htp hpr hva hbW2 hfW hb0W hkW hrW hbW hk hus hr hb0 hcase hok HOK ih hE hB hl1 hl2 htn hL
  show Calls _ _ #[_, .agg #[.int .i64 k, .int .i64 va, .string tx, .int .i64 st, .int .i64 en, .int .i64 nm, .slice A L c]] _ _
  have hfin : ∀ w1 : World, RsM w1 B R p bn s' → Below B W w1 → Fr R W w1 → RsM w1 B R p bn s' ∧ Below B w w1 ∧ Fr R w w1 := fun w1 a b f => ⟨a, HBW.out.trans b, HFW.out.trans f⟩
  have HFIN := Lib.hid hfin
  clear hfin
  rcases hkk with rfl | rfl | rfl | hk3 | hk0
  · have H1 := Lib.hid (HPA.out rfl)
    clear HPA HTP HPR HVA
    go_enter Tryz.func116, Tryz.ntmps116
    go_wp2_with fail
    refine H1.out.mono ?_
    rintro e w1 ⟨⟨q, rfl⟩, hr1, hb1, hf1⟩
    have H2 := Lib.hid (HFIN.out w1 hr1 hb1 hf1)
    clear hr1 hb1 hf1
    go_wp2_with fail
    go_end0
    exact ⟨rfl, H2.out⟩
  · have H1 := Lib.hid (HTP.out rfl)
    clear HPA HTP HPR HVA
    go_enter Tryz.func116, Tryz.ntmps116
    go_wp2_with fail
    refine H1.out.mono ?_
    rintro e w1 ⟨rfl, hr1, hb1, hf1⟩
    have H2 := Lib.hid (HFIN.out w1 hr1 hb1 hf1)
    clear hr1 hb1 hf1
    go_wp2_with fail
    go_end0
    exact ⟨rfl, H2.out⟩
  · have H1 := Lib.hid (HPR.out rfl)
    clear HPA HTP HPR HVA
    go_enter Tryz.func116, Tryz.ntmps116
    go_wp2_with fail
    refine H1.out.mono ?_
    rintro e w1 ⟨rfl, hr1, hb1, hf1⟩
    have H2 := Lib.hid (HFIN.out w1 hr1 hb1 hf1)
    clear hr1 hb1 hf1
    go_wp2_with fail
    go_end0
    exact ⟨rfl, H2.out⟩
  · rcases hk3 with rfl | rfl
    all_goals
      have hv := HVA.out (by decide) (by decide) (by decide)
      have H1 := Lib.hid (scoped_any B R p bn s s' w.heap.size (w.heap.size + 1) W HRW.out (visit2_any B R p bn s' w.heap.size (w.heap.size + 1) A L c W y1 d6 hl1W hl2W hv))
      clear HPA HTP HPR HVA hv
      go_enter Tryz.func116, Tryz.ntmps116
      go_wp2_with fail
      refine H1.out.mono ?_
      rintro e w1 ⟨rfl, hr1, hb1, hf1⟩
      have H2 := Lib.hid (HFIN.out w1 hr1 hb1 hf1)
      clear hr1 hb1 hf1
      go_wp2_with fail
      go_end0
      exact ⟨rfl, H2.out⟩
  · rcases hk0 with rfl | rfl | rfl
    all_goals
      have H1 := Lib.hid (HVA.out (by decide) (by decide) (by decide))
      clear HPA HTP HPR HVA
      go_enter Tryz.func116, Tryz.ntmps116
      go_wp2_with fail
      refine H1.out.mono ?_
      rintro e w1 ⟨rfl, hr1, hb1, hf1⟩
      have H2 := Lib.hid (HFIN.out w1 hr1 hb1 hf1)
      clear hr1 hb1 hf1
      go_wp2_with fail
      go_end0
      exact ⟨rfl, H2.out⟩
theorem visitR_any (B R p mb mo mc : Nat) (bn : Value) (x : Mdl) (ss : List Sym) (xs : List Xpt) (w0 : World) (hB : w0.heap.size = B) (hE : EnvV w0 p mb mo mc x ss xs) : ∀ n, VisROk B R p bn x ss xs w0 n
  | 0 => fun t h => by omega
  | n + 1 => visitR_step B R p mb mo mc bn x ss xs w0 hB hE n (visitR_any B R p mb mo mc bn x ss xs w0 hB hE n)
end Go.Proofs.YtpibenilagloaaaGreatDoor
