import Derived.Test.YtpibenilagloaaaGreatDoorCuab
import Derived.Test.YtpibenilagloaaaGreatDoorMxbi
import Derived.Test.YtpibenilagloaaaGreatDoorMxbf
import Derived.Test.YtpibenilagloaaaGreatDoorMxbe
import Derived.Test.YtpibenilagloaaaGreatDoorMxbc
/-
  cursor.ExpandSelection.
-/
namespace Go.Proofs.YtpibenilagloaaaGreatDoor
open Go.RowKit
open Go.Sort (pdq pdq_sorts PermIn SortedIn insertionSort)
set_option linter.unusedVariables false

/-- the ranges, sorted -/
def sortCu (ds : List Rg3) : List Rg3 := (pdq (ltOf cmpCu) ds.toArray 0 ds.length (Lib.bitLen ds.length) true true).toList
theorem sortCu_facts (ds : List Rg3) : PermIn 0 ds.length ds.toArray (pdq (ltOf cmpCu) ds.toArray 0 ds.length (Lib.bitLen ds.length) true true) ∧ SortedIn (ltOf cmpCu) 0 ds.length (pdq (ltOf cmpCu) ds.toArray 0 ds.length (Lib.bitLen ds.length) true true) :=
  pdq_sorts (ltOf cmpCu) cmpCu_law.swo ds.toArray 0 ds.length (Lib.bitLen ds.length) true true (Nat.zero_le _) (by simp) (Or.inl rfl)
theorem sortCu_len (ds : List Rg3) : (sortCu ds).length = ds.length := by
  have h := (sortCu_facts ds).1.1
  unfold sortCu
  rw [Array.length_toList, h]; simp
theorem sortCu_mem (ds : List Rg3) (x : Rg3) (hx : x ∈ sortCu ds) : x ∈ ds := by
  obtain ⟨h0, _, h⟩ := (sortCu_facts ds).1
  unfold sortCu at hx
  generalize pdq (ltOf cmpCu) ds.toArray 0 ds.length (Lib.bitLen ds.length) true true = d at *
  have e1 : (d.extract 0 ds.length).toList = d.toList := by
    have : d.size = ds.length := by rw [h0]; simp
    rw [← this, Array.extract_size]
  have e2 : (ds.toArray.extract 0 ds.length).toList = ds := by
    have : ds.toArray.size = ds.length := by simp
    rw [← this, Array.extract_size]
  rw [e1, e2] at h
  exact h.mem_iff.1 hx
theorem sortCu_sorted (ds : List Rg3) (i j : Nat) (x y : Rg3) (hij : i < j) (hx : (sortCu ds)[i]? = some x) (hy : (sortCu ds)[j]? = some y) : x.len ≤ y.len := by
  have hl := sortCu_len ds
  have h := (sortCu_facts ds).2
  have hj : j < (sortCu ds).length := (List.getElem?_eq_some_iff.1 hy).1
  have := h i j (Nat.zero_le _) hij (by omega)
  unfold sortCu at hx hy
  generalize pdq (ltOf cmpCu) ds.toArray 0 ds.length (Lib.bitLen ds.length) true true = d at *
  have gx : d[i]! = x := by rw [Array.getElem?_toList] at hx; rw [Array.getElem!_eq_getD, Array.getD_eq_getD_getElem?, hx]; rfl
  have gy : d[j]! = y := by rw [Array.getElem?_toList] at hy; rw [Array.getElem!_eq_getD, Array.getD_eq_getD_getElem?, hy]; rfl
  rw [gx, gy] at this
  unfold ltOf at this
  rw [decide_eq_false_iff_not] at this
  unfold cmpCu at this
  simp only [orL] at this
  by_cases hc : x.len ≤ y.len
  · exact hc
  · exfalso
    have h1 : cmpI y.len x.len < 0 := by unfold cmpI; rw [if_pos (by omega)]; decide
    rw [if_neg (show ¬ cmpI y.len x.len = 0 by omega)] at this
    exact this h1
theorem sortCu_small (ds : List Rg3) (h : ds.length ≤ 12) : sortCu ds = sortI cmpCu ds := by
  unfold sortCu sortI
  rw [pdq, if_pos (by omega)]
theorem sortCu_any (w : World) (g cap n : Nat) (ds : List Rg3) (hl : ds.length = n) (hb : n ≤ 1000000) (row : w.ownsRow 0 28 3 (.slice (some ⟨g, 0, none⟩) n cap) n (ds.flatMap Rg3.cells)) :
    Calls Tryz.prog 25 #[.slice (some ⟨g, 0, none⟩) n cap, .func (.func 26) #[] #[]] w (SrtPostK 3 28 w g cap n ((sortCu ds).flatMap Rg3.cells)) := by
  have eg : ∀ args w, (callFunc 26 args).run Tryz.prog w = .ok (.enter 26 args) w := enters_of Tryz.func26 (by kernel_rfl) rfl
  have hcmp : CmpLays Tryz.prog 26 #[] Rg3.cells 3 cmpCu g 0 ds.toArray.size w := fun _ _ _ _ x y => cmpCu_any x y _
  have hglt := (row.lt g rfl).2
  have hcon := AnyQ.slices_SortFunc_eq Tryz.sortRg 3 Tryz.isAgg28 Tryz.sizeOf28 Rg3.cells (fun _ => rfl) (fun x v hv => by simp [Rg3.cells] at hv; rcases hv with rfl | rfl | rfl <;> rfl) cmpCu cmpCu_law.swo 26 #[] g 0 cap ds.toArray w eg hcmp (holdsK_own Rg3.cells_len hl row) hglt (by simp only [List.size_toArray, hl]; omega)
  simp only [List.size_toArray, hl] at hcon
  refine Calls.mono (show Calls Tryz.prog 25 _ _ _ from hcon) ?_
  rintro e w' ⟨rfl, m, os, hw⟩
  refine ⟨rfl, own_sorted Rg3.cells_len hl (by rw [sortCu_len, hl]) row m os ?_⟩
  rw [hw]; unfold sortCu; rw [hl]
/-- what ExpandSelection finds -/
def exL (src : ByteArray) (ch : List Tree) (s e : Int) : List Rg3 := compactL (sortCu ((enclN s e (astN src ch)).filter fun x => !isSel s e x))
def EsPost (w : World) (xs : List Rg3) (r : Ending) (w' : World) : Prop :=
  ∃ A c, r = .returned (.tuple #[.slice A xs.length c, .int .i64 0]) ∧ FlatAt Rg3.cells 3 w' (New w w') A xs ∧ Below w.heap.size w w'
theorem flat_of_row {w : World} {g cap n : Nat} {ds : List Rg3} (hl : ds.length = n) (h : w.ownsRow 0 28 3 (.slice (some ⟨g, 0, none⟩) n cap) n (ds.flatMap Rg3.cells)) : FlatAt Rg3.cells 3 w (fun b => b = g) (some ⟨g, 0, none⟩) ds := by
  intro _
  refine ⟨g, 0, rfl, rfl, fun i x hx t v hv2 => ?_⟩
  have hi := (List.getElem?_eq_some_iff.1 hx).1
  have h5 : t < 3 := (List.getElem?_eq_some_iff.1 hv2).1
  rw [Nat.zero_add, h.cellAt _ (by omega)]
  exact flat_at Rg3.cells_len ds i x hx t v hv2
/-- Compact at ranges of any length -/
theorem compactR_all (w : World) (g cap n : Nat) (ds : List Rg3) (hn : ds.length = n) (hb : n ≤ 1000000) (hrow : w.ownsRow 0 28 3 (.slice (some ⟨g, 0, none⟩) n cap) n (ds.flatMap Rg3.cells)) :
    Calls Tryz.prog 29 #[.slice (some ⟨g, 0, none⟩) n cap] w (CrpPost w g ds) := by
  by_cases h2 : 2 ≤ n
  · exact compactR_any w g cap n ds hn h2 hb hrow
  · refine (compactR_short w _ n cap (by omega)).mono ?_
    rintro e w' ⟨rfl, rfl⟩
    have hc : compactL ds = ds := by
      match ds, hn with
      | [], _ => rfl
      | [x], _ => rfl
      | x :: y :: r, h => simp at h; omega
    exact ⟨cap, by rw [hc, hn], by rw [hc]; exact flat_of_row hn hrow, Upd.refl _ _⟩
set_option maxRecDepth 100000 in
set_option maxHeartbeats 3200000 in
theorem expand_any (src : ByteArray) (s e : Int) (w : World) (hg : Gl w) (hs : src.size ≤ 2000) (n : Nat) (u : PS) (hu : run n fileC ⟨tokensL src.data.toList, [], false, 600000⟩ = some u) (h1 : 0 ≤ s) (h2 : s ≤ e) (h3 : e ≤ src.size) :
    Calls Tryz.prog 8 #[.string src, .int .i64 s, .int .i64 e] w (EsPost w (exL src u.ch s e)) := by
  have hsz : src.data.toList.length = src.size := Array.length_toList
  obtain ⟨_, _, hwt⟩ := parse_safe src.data.toList (by rw [hsz]; exact hs) n u hu
  have hnz := astN_sz src u.ch hwt
  obtain ⟨W2, hW2⟩ : ∃ W2, (w.alloc (.cells #[.int .i64 s] 3)).alloc (.cells #[.int .i64 e] 3) = W2 := ⟨_, rfl⟩
  have hb2 : Below w.heap.size w W2 := by rw [← hW2]; exact ((Below.refl _ _).alloc (Nat.le_refl _) _).alloc (by simp) _
  have hx1 : W2.heap[w.heap.size]? = some (.cells #[.int .i64 s] 3) := by rw [← hW2]; exact heap_one w _ _
  have hx2 : W2.heap[w.heap.size + 1]? = some (.cells #[.int .i64 e] 3) := by rw [← hW2]; exact heap_two w _ _
  have HP := Lib.hid (astParse_any src W2 (gl_below hg hb2) hs n u hu)
  have HX1 := Lib.hid hx1
  have HX2 := Lib.hid hx2
  have HB2 := Lib.hid hb2
  have HE := Lib.hid (show exL src u.ch s e = compactL (sortCu ((enclN s e (astN src u.ch)).filter fun x => !isSel s e x)) from rfl)
  have hroot : 1 ≤ (enclN s e (astN src u.ch)).length := by
    unfold astN enclN
    rw [if_neg (by simp only; omega)]
    simp
  rw [HE.out]
  have hxl := enclN_len s e (astN src u.ch)
  have hxb : (enclN s e (astN src u.ch)).length ≤ 700000 := by omega
  obtain ⟨xs, hxs⟩ : ∃ xs, enclN s e (astN src u.ch) = xs := ⟨_, rfl⟩
  have HXS := Lib.hid hxs
  obtain ⟨ys, hys⟩ : ∃ ys, (xs.filter fun x => !isSel s e x) = ys := ⟨_, rfl⟩
  have HYS := Lib.hid hys
  obtain ⟨zs, hzs⟩ : ∃ zs, compactL (sortCu ys) = zs := ⟨_, rfl⟩
  have HZS := Lib.hid hzs
  rw [hxs] at hroot hxb
  rw [hxs, hys, hzs]
  clear hu hg hsz hwt hx1 hx2 hb2 hxl hxs hys hzs
  generalize u.ch = ch at *
  clear HE
  go_enter Tryz.func8, Tryz.ntmps8
  go_wp2_with fail
  refine HP.out.mono ?_
  rintro r w3 ⟨us, A, c, rfl, hv, hf, hb3⟩
  generalize astN src ch = x at *
  obtain ⟨A2, c2, rfl, _⟩ := hv.vals
  obtain ⟨hd, hhd⟩ : ∃ hd, x.h = hd := ⟨_, rfl⟩
  obtain ⟨m, hm⟩ : ∃ m, x.ch.length = m := ⟨_, rfl⟩
  obtain ⟨W4, hW4⟩ : ∃ W4, w3.alloc (.cells #[.int .i64 hd.k, .int .i64 hd.v, .string hd.t, .int .i64 hd.s, .int .i64 hd.e, .int .i64 hd.nm, .slice A2 m c2] 57) = W4 := ⟨_, rfl⟩
  have hb4 : Below w3.heap.size w3 W4 := by rw [← hW4]; exact (Below.refl _ _).alloc (Nat.le_refl _) _
  have hx4 : W4.heap[w3.heap.size]? = some (.cells #[.int .i64 hd.k, .int .i64 hd.v, .string hd.t, .int .i64 hd.s, .int .i64 hd.e, .int .i64 hd.nm, .slice A2 m c2] 57) := by rw [← hW4]; exact heap_alloc_new w3 _
  have hv4 := NodeV.keep (F' := New W2 w3) (fun _ h => h) (fun b hb => hb4.block b hb.2) _ _ hv
  have HC := Lib.hid (en_any (x.sz + 1) x (Nat.lt_succ_self _) (by omega) s e W4 (New W2 w3) _ hv4 (fun c hc => Nat.lt_of_lt_of_le hc.2 hb4.size))
  have HW34 := Lib.hid (hb3.trans (hb4.mono hb3.size))
  have HB4 := Lib.hid (HB2.out.trans (HW34.out.mono HB2.out.size))
  have hz2 := HB2.out.size
  have hz4 := HW34.out.size
  have hy1 := (HW34.out.block _ (lt_of_heap HX1.out)).trans HX1.out
  have hy2 := (HW34.out.block _ (lt_of_heap HX2.out)).trans HX2.out
  have HY1 := Lib.hid hy1
  have HY2 := Lib.hid hy2
  have c1 := cell_of hy1 0 _ rfl
  have c2' := cell_of hy2 0 _ rfl
  have d0 := cell_of hx4 0 _ rfl
  have d1 := cell_of hx4 1 _ rfl
  have d2 := cell_of hx4 2 _ rfl
  have d3 := cell_of hx4 3 _ rfl
  have d4 := cell_of hx4 4 _ rfl
  have d5 := cell_of hx4 5 _ rfl
  have d6 := cell_of hx4 6 _ rfl
  have l1 := lt_of_heap hy1
  have l2 := lt_of_heap hy2
  have l4 := lt_of_heap hx4
  have k1 : ¬ s < 0 := by omega
  have k2 : ¬ e < s := by omega
  have k3 : ¬ (src.size : Int) < e := by omega
  have k4 : ¬ e > (src.size : Int) := by omega
  simp only [Hd.vals] at HC ⊢
  rw [hhd, hm] at HC ⊢
  rw [HXS.out] at HC
  obtain ⟨N, hN⟩ : ∃ N, xs.length = N := ⟨_, rfl⟩
  have HN := Lib.hid hN
  clear hv hf hb3 hb4 hx4 hv4 hy1 hy2 HP hhd hm hN
  go_wp2_with fail
  all_goals (try go_region)
  all_goals (try go_wp2_with fail)
  refine HC.out.mono ?_
  rintro r w5 ⟨A3, c3, rfl, _, hb5, vs, hown⟩
  have hvs : vs = xs.flatMap Rg3.cells := flatD_row _ _ hown.2
  subst hvs
  have hrow : w5.ownsRow 0 28 3 (.slice A3 N c3) N (xs.flatMap Rg3.cells) := by
    have := World.ownsRow.mono hown.1 (Nat.zero_le _)
    rw [HN.out] at this
    exact this
  obtain ⟨g, cap, cur, e1, e2, e3, e4, e5, e6, e7⟩ := hown.1.2.resolve_left (by rintro ⟨_, h⟩; omega)
  injection e1 with e1 _ e1c
  subst e1 e1c
  have hz5 := hb5.size
  have hy1 := (hb5.block _ l1).trans HY1.out
  have hy2 := (hb5.block _ l2).trans HY2.out
  have q1 := cell_of hy1 0 _ rfl
  have q2 := cell_of hy2 0 _ rfl
  have HD := Lib.hid (deleteR_any w5 g c3 N xs HN.out (by have := HN.out; omega) hrow s e ⟨w.heap.size, 0, none⟩ ⟨w.heap.size + 1, 0, none⟩ q1 q2 (show w.heap.size ≠ g by omega) (show w.heap.size + 1 ≠ g by omega))
  have HB5 := Lib.hid (HB4.out.trans (hb5.mono HB4.out.size))
  have hgw : w.heap.size ≤ g := by omega
  have hgl : g < w5.heap.size := (hrow.lt g rfl).2
  have hfl : (xs.filter fun x => !isSel s e x).length ≤ N := by have := List.length_filter_le (fun x => !isSel s e x) xs; rw [HN.out] at this; exact this
  have hNb : N ≤ 700000 := by have := HN.out; omega
  rw [HN.out]
  clear hy1 hy2 q1 q2 hown hrow e2 e3 e4 e5 e6 e7 hb5 HC c1 c2' d0 d1 d2 d3 d4 d5 d6
  rw [HYS.out] at HD hfl
  obtain ⟨M, hM⟩ : ∃ M, ys.length = M := ⟨_, rfl⟩
  have HM := Lib.hid hM
  rw [hM] at HD hfl
  clear hM
  go_wp2_with fail
  refine HD.out.mono ?_
  rintro r w6 ⟨rfl, hrow6, hu6⟩
  have HR6 := Lib.hid hrow6
  have HU6 := Lib.hid hu6
  have HS := Lib.hid (sortCu_any w6 g c3 M ys HM.out (by omega) hrow6)
  clear hrow6 hu6 HD
  go_wp2_with fail
  refine HS.out.mono ?_
  rintro r w7 ⟨rfl, hrow7, ⟨ho, ht, hp⟩, hsz7, hbk⟩
  have HK := Lib.hid (compactR_all w7 g c3 M (sortCu ys) (by rw [sortCu_len]; exact HM.out) (by omega) hrow7)
  have HU7 := Lib.hid (show UpG g w5 w7 from ⟨ho.trans HU6.out.os, ht.trans HU6.out.tape, hp.trans HU6.out.output, Nat.le_trans HU6.out.size hsz7, fun b hb hne => (hbk b (Nat.lt_of_lt_of_le hb HU6.out.size) hne).trans (HU6.out.block b hb hne)⟩)
  clear hrow7 ho ht hp hsz7 hbk HS
  go_wp2_with fail
  refine HK.out.mono ?_
  rintro r w8 ⟨c', rfl, hfl8, hu8⟩
  have HF8 := Lib.hid hfl8
  have HB8 := Lib.hid (show Below w.heap.size w w8 from ⟨hu8.os.trans (HU7.out.os.trans HB5.out.os), hu8.tape.trans (HU7.out.tape.trans HB5.out.tape), hu8.output.trans (HU7.out.output.trans HB5.out.output), by rw [hu8.size]; exact Nat.le_trans HB5.out.size HU7.out.size, fun b hb => (hu8.block b (by omega)).trans ((HU7.out.block b (Nat.lt_of_lt_of_le hb HB5.out.size) (by omega)).trans (HB5.out.block b hb))⟩)
  have hgl8 : g < w8.heap.size := by rw [hu8.size]; exact Nat.lt_of_lt_of_le hgl HU7.out.size
  rw [HZS.out] at HF8
  rw [HZS.out]
  obtain ⟨Z, hZ⟩ : ∃ Z, zs.length = Z := ⟨_, rfl⟩
  have HZ := Lib.hid hZ
  rw [hZ]
  clear hfl8 hu8 HK hZ
  go_wp2_with fail
  go_ret2
  exact ⟨some ⟨g, 0, none⟩, c', by rw [HZ.out]; rfl, HF8.out.keep (F' := New w w8) (fun b (hb : b = g) => by rw [hb]; exact ⟨hgw, hgl8⟩) (fun _ _ => rfl), HB8.out⟩
end Go.Proofs.YtpibenilagloaaaGreatDoor

/-
  The syntax tree's nodes nest; the ranges that ExpandSelection finds: each holds the selection and is longer, none is shorter than the one before.
-/
namespace Go.Proofs.YtpibenilagloaaaGreatDoor
set_option linter.unusedVariables false

mutual
/-- a node lies between lo and hi, its children in it, one behind the other -/
def nest : Int → Int → Node → Prop
  | lo, hi, .mk h ch => lo ≤ h.s ∧ h.s ≤ h.e ∧ h.e ≤ hi ∧ nests h.s h.e ch
def nests : Int → Int → List Node → Prop
  | lo, hi, [] => lo ≤ hi
  | lo, hi, x :: r => nest lo hi x ∧ nests x.h.e hi r
end
theorem nest.le {lo hi : Int} {x : Node} (h : nest lo hi x) : lo ≤ x.h.s ∧ x.h.s ≤ x.h.e ∧ x.h.e ≤ hi ∧ nests x.h.s x.h.e x.ch := by
  cases x; unfold nest at h; exact h
theorem nest.of {lo hi : Int} {x : Node} (h1 : lo ≤ x.h.s) (h2 : x.h.s ≤ x.h.e) (h3 : x.h.e ≤ hi) (h4 : nests x.h.s x.h.e x.ch) : nest lo hi x := by
  cases x; unfold nest; exact ⟨h1, h2, h3, h4⟩
theorem nest.mono {lo hi lo' hi' : Int} {x : Node} (h : nest lo hi x) (h1 : lo' ≤ lo) (h2 : hi ≤ hi') : nest lo' hi' x := by
  obtain ⟨a, b, c, d⟩ := h.le
  exact nest.of (by omega) b (by omega) d
theorem nests.mono : ∀ {l : List Node} {lo hi lo' hi' : Int}, nests lo hi l → lo' ≤ lo → hi ≤ hi' → nests lo' hi' l
  | [], lo, hi, lo', hi', h, h1, h2 => by unfold nests at *; omega
  | x :: r, lo, hi, lo', hi', h, h1, h2 => by
    unfold nests at *
    exact ⟨h.1.mono h1 h2, nests.mono h.2 (Int.le_refl _) h2⟩
theorem nests.snoc : ∀ {l : List Node} {lo hi hi' : Int} {x : Node}, nests lo hi l → nest hi hi' x → nests lo hi' (l ++ [x])
  | [], lo, hi, hi', x, h, hx => by
    unfold nests at h
    obtain ⟨a, b, c, d⟩ := hx.le
    show nests lo hi' [x]
    unfold nests nests
    exact ⟨hx.mono h (Int.le_refl _), c⟩
  | y :: r, lo, hi, hi', x, h, hx => by
    unfold nests at h
    obtain ⟨a, b, c, d⟩ := hx.le
    show nests lo hi' (y :: (r ++ [x]))
    unfold nests
    exact ⟨h.1.mono (Int.le_refl _) (by omega), nests.snoc h.2 hx⟩
theorem nests.lohi : ∀ {l : List Node} {lo hi : Int}, nests lo hi l → lo ≤ hi
  | [], lo, hi, h => by unfold nests at h; exact h
  | x :: r, lo, hi, h => by
    unfold nests at h
    obtain ⟨a, b, c, d⟩ := h.1.le
    omega
/-- the state of a node under construction -/
def KInv (s : NS) (s0 : Int) : Prop := Ext s.h s0 s.b.off ∧ ((s.h.e < 0 ∧ s.ch = []) ∨ (0 ≤ s.h.e ∧ nests s.h.s s.h.e s.ch))
theorem extendH_cases (h : Hd) (s e : Int) : (extendH h s e).e = e ∧ (extendH h s e).s = if h.e < 0 then s else h.s := ⟨rfl, rfl⟩
theorem tokH_cases (h : Hd) (k : Int) (t : ByteArray) (s e : Int) : ((tokH h k t s e).s = h.s ∧ (tokH h k t s e).e = h.e) ∨ ((tokH h k t s e).e = e ∧ (tokH h k t s e).s = if h.e < 0 then s else h.s) := by
  unfold tokH
  split
  · exact .inl ⟨rfl, rfl⟩
  · split
    · split
      · exact .inl ⟨rfl, rfl⟩
      · exact .inr ⟨rfl, rfl⟩
    · split
      · right; refine ⟨rfl, ?_⟩; show (if (identH h t s).e < 0 then s else (identH h t s).s) = _; rw [(identH_ext h t s).1, (identH_ext h t s).2.1]
      · split
        · exact .inr ⟨rfl, rfl⟩
        · split
          · exact .inr ⟨rfl, rfl⟩
          · right; refine ⟨rfl, ?_⟩; show (if (setFlagH h t).e < 0 then s else (setFlagH h t).s) = _; rw [(setFlagH_ext h t).1, (setFlagH_ext h t).2.1]
theorem finN_nest (src : ByteArray) (h : Hd) (ch : List Node) (lo hi : Int) (h1 : lo ≤ h.s) (h2 : h.s ≤ h.e) (h3 : h.e ≤ hi) (h4 : nests h.s h.e ch) (h5 : h.k = 60 → ch ≠ []) : nest lo hi (finN src h ch) := by
  unfold finN
  split
  · next hk =>
    cases ch with
    | nil => exact absurd rfl (h5 hk)
    | cons y r =>
      unfold nests at h4
      obtain ⟨a, b, c, d⟩ := h4.1.le
      unfold nest
      exact ⟨h1, h2, h3, d.mono a c⟩
  · split
    · unfold nest nests; exact ⟨h1, h2, h3, h2⟩
    · unfold nest; exact ⟨h1, h2, h3, h4⟩
mutual
theorem nodeL_nest (src : ByteArray) : ∀ (x : Tree) (b : BS), ¬ 100 ≤ x.k → x.ok → 0 ≤ b.off → nest b.off (b.off + x.yl) (nodeL src x b).1
  | .mk k t ch, b, h, hok, h0 => by
    unfold nodeL
    simp only
    unfold Tree.ok at hok
    have hi := kidsL_nest src ch ⟨newH k b.off, [], b⟩ b.off h0 (Int.le_refl _) hok.2.2 ⟨.inl ⟨show (-1 : Int) < 0 by decide, rfl⟩, .inl ⟨show (-1 : Int) < 0 by decide, rfl⟩⟩
    have ho := kidsL_off src ch ⟨newH k b.off, [], b⟩
    have hk := kidsL_k src ch ⟨newH k b.off, [], b⟩
    have hne := fun e => kidsL_ne src ch ⟨newH k b.off, [], b⟩ (hok.2.1 e)
    simp only at ho
    generalize kidsL src ch ⟨newH k b.off, [], b⟩ = R at *
    obtain ⟨he, hn⟩ := hi
    rw [ho] at he
    have m := maxH_ext he h0 (by omega)
    rw [Tree.yl_node h]
    refine finN_nest src _ _ _ _ m.1 m.2.1 m.2.2 ?_ (fun e => hne (by have e : R.h.k = 60 := e; rw [hk] at e; exact e))
    unfold maxH
    simp only
    rcases hn with ⟨a, c⟩ | ⟨a, c⟩
    · rw [c]; unfold nests; omega
    · exact c.mono (Int.le_refl _) (by omega)
theorem kidsL_nest (src : ByteArray) : ∀ (l : List Tree) (s : NS) (s0 : Int), 0 ≤ s0 → s0 ≤ s.b.off → oks l → KInv s s0 → KInv (kidsL src l s) s0
  | [], s, s0, h0, h1, hl, H => by simpa [kidsL] using H
  | x :: r, s, s0, h0, h1, hl, H => by
    unfold oks at hl
    by_cases h : 100 ≤ x.k
    · rw [kidsL_tok h]
      refine kidsL_nest src r _ s0 h0 (by simp only; rw [tokB_off]; omega) hl.2 ⟨by simp only; rw [tokB_off]; exact H.1.tok h0 h1 x.k x.t, ?_⟩
      simp only
      have hE := H.1
      unfold Ext at hE
      rcases tokH_cases s.h x.k x.t s.b.off (s.b.off + x.t.size) with ⟨a, c⟩ | ⟨a, c⟩
      · rw [a, c]; exact H.2
      · rw [a, c]
        right
        refine ⟨by omega, ?_⟩
        rcases H.2 with ⟨p, q⟩ | ⟨p, q⟩
        · rw [q]; unfold nests; rw [if_pos p]; omega
        · rw [if_neg (by omega)]; exact q.mono (Int.le_refl _) (by omega)
    · rw [kidsL_node h]
      have e := nodeL_nest src x s.b h hl.1 (by omega)
      have o := nodeL_off src x s.b h
      obtain ⟨a, b, c, d⟩ := e.le
      refine kidsL_nest src r _ s0 h0 (by simp only; rw [o]; omega) hl.2 ⟨by simp only; rw [o]; exact H.1.extend rfl rfl h0 h1 a b c, ?_⟩
      simp only
      right
      have hE := H.1
      unfold Ext at hE
      rw [(extendH_cases _ _ _).1, (extendH_cases _ _ _).2]
      refine ⟨by omega, ?_⟩
      rcases H.2 with ⟨p, q⟩ | ⟨p, q⟩
      · rw [q, if_pos p]
        show nests _ _ [(nodeL src x s.b).1]
        unfold nests nests
        exact ⟨nest.of (Int.le_refl _) b (Int.le_refl _) d, Int.le_refl _⟩
      · rw [if_neg (by omega)]
        exact q.snoc (nest.of (by omega) b (Int.le_refl _) d)
end
/-- the file's tree nests -/
theorem astN_nest (src : ByteArray) (ch : List Tree) (hok : (Tree.mk 1 .empty ch).ok) (hyl : yls ch ≤ src.size) : nest 0 src.size (astN src ch) := by
  have hx : ¬ 100 ≤ (Tree.mk 1 ByteArray.empty ch).k := fun h : (100 : Int) ≤ 1 => absurd h (by decide)
  have h := nodeL_nest src (.mk 1 .empty ch) ⟨0, []⟩ hx hok (Int.le_refl _)
  rw [Tree.yl_node hx] at h
  obtain ⟨a, b, c, d⟩ := h.le
  unfold astN astR
  unfold nest
  simp only at a c ⊢
  have hy : yls (Tree.mk 1 ByteArray.empty ch).ch = yls ch := rfl
  rw [hy] at c
  exact ⟨Int.le_refl _, by omega, Int.le_refl _, d.mono (by omega) (by omega)⟩

theorem nests_mem : ∀ {l : List Node} {lo hi : Int} {x : Node}, nests lo hi l → x ∈ l → nest lo hi x
  | [], lo, hi, x, h, hx => by cases hx
  | y :: r, lo, hi, x, h, hx => by
    unfold nests at h
    rcases List.mem_cons.1 hx with rfl | hx
    · obtain ⟨_, _, _, _⟩ := h.1.le
      exact h.1
    · obtain ⟨a, b, c, d⟩ := h.1.le
      exact (nests_mem h.2 hx).mono (by omega) (Int.le_refl _)
mutual
theorem enclN_in (s e : Int) : ∀ (x : Node) (lo hi : Int), nest lo hi x → ∀ r ∈ enclN s e x, lo ≤ r.s ∧ r.e ≤ hi ∧ r.s ≤ s ∧ e ≤ r.e
  | .mk h ch, lo, hi, hn => by
    intro r hr
    obtain ⟨a, b, c, d⟩ := hn.le
    unfold enclN at hr
    split at hr
    · cases hr
    · rename_i hc
      rcases List.mem_cons.1 hr with rfl | hr
      · simp only [Node.h] at a b c ⊢; omega
      · obtain ⟨p, q, u, v⟩ := enclNs_in s e ch _ _ d r hr
        simp only [Node.h] at a b c p q
        exact ⟨by omega, by omega, u, v⟩
theorem enclNs_in (s e : Int) : ∀ (l : List Node) (lo hi : Int), nests lo hi l → ∀ r ∈ enclNs s e l, lo ≤ r.s ∧ r.e ≤ hi ∧ r.s ≤ s ∧ e ≤ r.e
  | [], lo, hi, hn => by intro r hr; rw [enclNs] at hr; cases hr
  | x :: l, lo, hi, hn => by
    intro r hr
    unfold nests at hn
    obtain ⟨a, b, c, d⟩ := hn.1.le
    have hl := hn.2.lohi
    rw [enclNs] at hr
    rcases List.mem_append.1 hr with hr | hr
    · exact enclN_in s e x lo hi hn.1 r hr
    · obtain ⟨p, q, u, v⟩ := enclNs_in s e l _ _ hn.2 r hr
      exact ⟨by omega, q, u, v⟩
end
theorem compactFrom_sub {α : Type} [DecidableEq α] : ∀ (l : List α) (p : α), (compactFrom p l).Sublist l
  | [], p => by simp [compactFrom]
  | z :: r, p => by
    unfold compactFrom
    split
    · exact (compactFrom_sub r p).cons z
    · exact (compactFrom_sub r z).cons_cons z
theorem compactL_sub {α : Type} [DecidableEq α] (l : List α) : (compactL l).Sublist l := by
  cases l with
  | nil => exact List.Sublist.refl _
  | cons x r => exact (compactFrom_sub r x).cons_cons x
/-- what the law asks of the ranges -/
structure CuOk (s e : Int) (xs : List Rg3) : Prop where
  len : xs.length ≤ 700000
  has : ∀ (i : Nat) (x : Rg3), xs[i]? = some x → x.s ≤ s ∧ e ≤ x.e ∧ ¬ IntKind.i64.wrap (x.e - x.s) ≤ IntKind.i64.wrap (e - s)
  grow : ∀ (i : Nat) (x y : Rg3), xs[i]? = some x → xs[i + 1]? = some y → ¬ IntKind.i64.wrap (y.e - y.s) < IntKind.i64.wrap (x.e - x.s)
theorem exL_ok (src : ByteArray) (hs : src.size ≤ 2000) (n : Nat) (u : PS) (hu : run n fileC ⟨tokensL src.data.toList, [], false, 600000⟩ = some u) (s e : Int) (h1 : 0 ≤ s) (h2 : s ≤ e) (h3 : e ≤ src.size) : CuOk s e (exL src u.ch s e) := by
  have hsz : src.data.toList.length = src.size := Array.length_toList
  obtain ⟨hok, hyl, hwt⟩ := parse_safe src.data.toList (by rw [hsz]; exact hs) n u hu
  have hne := astN_nest src u.ch hok (by rw [← hsz]; exact hyl)
  refine ⟨?_, fun i x hx => ?_, fun i x y hx hy => ?_⟩
  · have a1 := compactL_len (sortCu ((enclN s e (astN src u.ch)).filter fun x => !isSel s e x))
    have a2 := sortCu_len ((enclN s e (astN src u.ch)).filter fun x => !isSel s e x)
    have a3 := List.length_filter_le (fun x => !isSel s e x) (enclN s e (astN src u.ch))
    have a4 := enclN_len s e (astN src u.ch)
    have a5 := astN_sz src u.ch hwt
    unfold exL
    omega
  · have hm : x ∈ (enclN s e (astN src u.ch)).filter fun x => !isSel s e x := sortCu_mem _ _ ((compactL_sub _).mem (List.mem_of_getElem? hx))
    obtain ⟨hm1, hm2⟩ := List.mem_filter.1 hm
    obtain ⟨a, b, c, d⟩ := enclN_in s e _ 0 src.size hne x hm1
    refine ⟨c, d, ?_⟩
    rw [IntWalk.i64_in _ (by omega), IntWalk.i64_in _ (by omega)]
    unfold isSel at hm2
    by_cases k : x.s = s
    · have : x.e ≠ e := fun h => by simp [k, h] at hm2
      omega
    · omega
  · have hp : (sortCu ((enclN s e (astN src u.ch)).filter fun x => !isSel s e x)).Pairwise fun x y => x.len ≤ y.len := by
      rw [List.pairwise_iff_getElem]
      intro i j hi hj hij
      exact sortCu_sorted _ i j _ _ hij (List.getElem?_eq_getElem hi) (List.getElem?_eq_getElem hj)
    have hq := hp.sublist (compactL_sub _)
    rw [List.pairwise_iff_getElem] at hq
    obtain ⟨hi, rfl⟩ := List.getElem?_eq_some_iff.1 hx
    obtain ⟨hj, rfl⟩ := List.getElem?_eq_some_iff.1 hy
    have := hq i (i + 1) hi hj (Nat.lt_succ_self _)
    unfold Rg3.len at this
    exact Int.not_lt.2 this
end Go.Proofs.YtpibenilagloaaaGreatDoor

/-
  cursor.ExpandSelection where it refuses: a source that is too large; a selection that is none.
-/
namespace Go.Proofs.YtpibenilagloaaaGreatDoor
open Go.RowKit
set_option linter.unusedVariables false

/-- what Parse leaves of a source that is too large -/
def BigPost (w : World) (e : Ending) (w' : World) : Prop :=
  e = .returned (.tuple #[.agg #[.int .i64 0, .int .i64 0, .string ⟨#[]⟩, .int .i64 0, .int .i64 0, .int .i64 0, .slice none 0 0], .slice none 0 0, .int .i64 2]) ∧ Below w.heap.size w w'
set_option maxRecDepth 100000 in
set_option maxHeartbeats 1600000 in
theorem astParse_big (src : ByteArray) (w : World) (hs : 2000 < src.size) (hm : src.size ≤ maxLen) :
    Calls Tryz.prog 21 #[.string src] w (BigPost w) := by
  go_enter Tryz.func21, Tryz.ntmps21
  go_wp2_with fail
  generalize hW : w.alloc _ = W
  have hbw : Below w.heap.size w W := by rw [← hW]; exact (Below.refl _ _).alloc (Nat.le_refl _) _
  have hR : W.heap[w.heap.size]? = some (.cells #[.int .i64 0, .int .i64 0, .string ⟨#[]⟩, .int .i64 0, .int .i64 0, .int .i64 0, .slice none 0 0] 57 (0, 0)) := by rw [← hW]; exact heap_alloc_new w _
  clear hW
  refine (parse_big src W hs hm).mono ?_
  rintro e w1 ⟨rfl, hb1⟩
  have h1R := (hb1.block _ (lt_of_heap hR)).trans hR
  have HB := Lib.hid (show Below w.heap.size w w1 from hbw.trans (hb1.mono hbw.size))
  have r0 := cell_of h1R 0 _ rfl
  have r1 := cell_of h1R 1 _ rfl
  have r2 := cell_of h1R 2 _ rfl
  have r3 := cell_of h1R 3 _ rfl
  have r4 := cell_of h1R 4 _ rfl
  have r5 := cell_of h1R 5 _ rfl
  have r6 := cell_of h1R 6 _ rfl
  have f0 := Lib.frozen_of_heap h1R 0
  have f1 := Lib.frozen_of_heap h1R 1
  have f2 := Lib.frozen_of_heap h1R 2
  have f3 := Lib.frozen_of_heap h1R 3
  have f4 := Lib.frozen_of_heap h1R 4
  have f5 := Lib.frozen_of_heap h1R 5
  have f6 := Lib.frozen_of_heap h1R 6
  have hl := lt_of_heap h1R
  have HR := Lib.hid h1R
  clear hR hbw hb1 h1R
  go_wp2_with fail
  generalize hWf : World.setCell _ ⟨w.heap.size, 6, none⟩ _ = Wf
  obtain ⟨hz0, hu⟩ := heap_set7p HR.out _ _ _ _ _ _ _ Wf hWf
  clear hWf
  have hz := (heap_alloc_lt Wf (.cells #[.int .i64 0, .string ⟨#[]⟩, .slice none 0 0] 121) (lt_of_heap hz0)).trans hz0
  have h2 : Below w.heap.size w Wf := ⟨hu.os.trans HB.out.os, hu.tape.trans HB.out.tape, hu.output.trans HB.out.output, by rw [hu.size]; exact HB.out.size, fun b hb => (hu.block b (by omega)).trans (HB.out.block b hb)⟩
  refine bodyPost_ret (results_cell_slot2 (P := Tryz.prog) (ty := 57) rfl _ _ w.heap.size 57 _ _ _ _ _ rfl rfl rfl hz Tryz.underlying57 rfl (by kernel_rfl)) rfl ?_
  exact ⟨rfl, h2.alloc h2.size _⟩
set_option maxRecDepth 100000 in
set_option maxHeartbeats 3200000 in
theorem expand_big (src : ByteArray) (s e : Int) (w : World) (hs : 2000 < src.size) (hm : src.size ≤ maxLen) :
    Calls Tryz.prog 8 #[.string src, .int .i64 s, .int .i64 e] w fun r w' => r = .returned (.tuple #[.slice none 0 0, .int .i64 2]) ∧ Below w.heap.size w w' := by
  obtain ⟨W2, hW2⟩ : ∃ W2, (w.alloc (.cells #[.int .i64 s] 3)).alloc (.cells #[.int .i64 e] 3) = W2 := ⟨_, rfl⟩
  have hb2 : Below w.heap.size w W2 := by rw [← hW2]; exact ((Below.refl _ _).alloc (Nat.le_refl _) _).alloc (by simp) _
  have HB2 := Lib.hid hb2
  have HP := Lib.hid (astParse_big src W2 hs hm)
  clear hs hm hb2
  go_enter Tryz.func8, Tryz.ntmps8
  go_wp2_with fail
  refine HP.out.mono ?_
  rintro r w3 ⟨rfl, hb3⟩
  have HB3 := Lib.hid (HB2.out.trans (hb3.mono HB2.out.size))
  clear hb3 HP
  go_wp2_with fail
  go_ret2
  exact ⟨rfl, HB3.out.alloc HB3.out.size _⟩
set_option maxRecDepth 100000 in
set_option maxHeartbeats 3200000 in
theorem expand_none (src : ByteArray) (s e : Int) (w : World) (hg : Gl w) (hs : src.size ≤ 2000) (n : Nat) (u : PS) (hu : run n fileC ⟨tokensL src.data.toList, [], false, 600000⟩ = some u) (hc : ¬ (0 ≤ s ∧ s ≤ e ∧ e ≤ src.size)) :
    Calls Tryz.prog 8 #[.string src, .int .i64 s, .int .i64 e] w fun r w' => r = .returned (.tuple #[.slice none 0 0, .int .i64 1]) ∧ Below w.heap.size w w' := by
  obtain ⟨W2, hW2⟩ : ∃ W2, (w.alloc (.cells #[.int .i64 s] 3)).alloc (.cells #[.int .i64 e] 3) = W2 := ⟨_, rfl⟩
  have hb2 : Below w.heap.size w W2 := by rw [← hW2]; exact ((Below.refl _ _).alloc (Nat.le_refl _) _).alloc (by simp) _
  have hx1 : W2.heap[w.heap.size]? = some (.cells #[.int .i64 s] 3) := by rw [← hW2]; exact heap_one w _ _
  have hx2 : W2.heap[w.heap.size + 1]? = some (.cells #[.int .i64 e] 3) := by rw [← hW2]; exact heap_two w _ _
  have HP := Lib.hid (astParse_any src W2 (gl_below hg hb2) hs n u hu)
  have HX1 := Lib.hid hx1
  have HX2 := Lib.hid hx2
  have HB2 := Lib.hid hb2
  clear hu hg hs hx1 hx2 hb2
  generalize u.ch = ch at *
  go_enter Tryz.func8, Tryz.ntmps8
  go_wp2_with fail
  refine HP.out.mono ?_
  rintro r w3 ⟨us, A, c, rfl, hv, hf, hb3⟩
  generalize astN src ch = x at *
  obtain ⟨A2, c2, rfl, _⟩ := hv.vals
  obtain ⟨hd, hhd⟩ : ∃ hd, x.h = hd := ⟨_, rfl⟩
  obtain ⟨m, hm⟩ : ∃ m, x.ch.length = m := ⟨_, rfl⟩
  obtain ⟨W4, hW4⟩ : ∃ W4, w3.alloc (.cells #[.int .i64 hd.k, .int .i64 hd.v, .string hd.t, .int .i64 hd.s, .int .i64 hd.e, .int .i64 hd.nm, .slice A2 m c2] 57) = W4 := ⟨_, rfl⟩
  have hb4 : Below w3.heap.size w3 W4 := by rw [← hW4]; exact (Below.refl _ _).alloc (Nat.le_refl _) _
  have HW34 := Lib.hid (hb3.trans (hb4.mono hb3.size))
  have HB4 := Lib.hid (HB2.out.trans (HW34.out.mono HB2.out.size))
  have hy1 := (HW34.out.block _ (lt_of_heap HX1.out)).trans HX1.out
  have hy2 := (HW34.out.block _ (lt_of_heap HX2.out)).trans HX2.out
  have c1 := cell_of hy1 0 _ rfl
  have c2' := cell_of hy2 0 _ rfl
  have l1 := lt_of_heap hy1
  have l2 := lt_of_heap hy2
  simp only [Hd.vals]
  rw [hhd, hm]
  clear hv hf hb3 hb4 hy1 hy2 HP hhd hm
  by_cases k1 : s < 0
  · clear hc
    go_wp2_with fail
    all_goals (try go_region)
    all_goals (try go_wp2_with fail)
    go_ret2
    exact ⟨rfl, by first | exact HB4.out | exact HB4.out.drew⟩
  · by_cases k2 : e < s
    · clear hc
      go_wp2_with fail
      all_goals (try go_region)
      all_goals (try go_wp2_with fail)
      go_ret2
      exact ⟨rfl, by first | exact HB4.out | exact HB4.out.drew⟩
    · have k3 : (src.size : Int) < e := by omega
      have k4 : e > (src.size : Int) := by omega
      clear hc
      go_wp2_with fail
      all_goals (try go_region)
      all_goals (try go_wp2_with fail)
      go_ret2
      exact ⟨rfl, by first | exact HB4.out | exact HB4.out.drew⟩
end Go.Proofs.YtpibenilagloaaaGreatDoor
