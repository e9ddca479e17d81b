import Derived.Test.YtpibenilagloaaaGreatDoorRzab
import Derived.Test.YtpibenilagloaaaGreatDoorRzaa
import Derived.Test.YtpibenilagloaaaGreatDoorMzag
import Derived.Laws.MakeOwn
import Derived.Laws.OwnMore
import Derived.Deep.RegionLaw
import Derived.Deep.DeepCutAuto
namespace Go.Proofs.YtpibenilagloaaaGreatDoor
open Go.RowKit
set_option linter.unusedVariables false
structure FEd where
  mod : Int
  s : Int
  e : Int
  t : ByteArray
instance : Inhabited FEd := ⟨⟨0, 0, 0, .empty⟩⟩
def FEd.ed (x : FEd) : tx.Ed := ⟨x.s, x.e, x.t⟩
def feC (x : FEd) : List Value := [.int .i64 x.mod, .int .i64 x.s, .int .i64 x.e, .string x.t]
def feD : Dat FEd := flatD feC 4 (by decide) (fun _ => rfl) (fun x v hv => by simp [feC] at hv; rcases hv with rfl | rfl | rfl | rfl <;> rfl)
def edC (x : tx.Ed) : List Value := [.int .i64 x.s, .int .i64 x.e, .string x.t]
def edD : Dat tx.Ed := flatD edC 3 (by decide) (fun _ => rfl) (fun x v hv => by simp [edC] at hv; rcases hv with rfl | rfl | rfl <;> rfl)
theorem info_ed : (Tryz.prog.info? 93).map (fun i => (i.zero, i.size, i.bytes)) = some (some (.agg #[.int .i64 0, .int .i64 0, .string .empty]), 3, 32) := by kernel_rfl
theorem eds_of {w : World} {F : Nat → Prop} {A : Option Addr} {es : List tx.Ed} (h : edD.At w F A es) (hF : ∀ b, F b → b < w.heap.size) : tx.EdsAt w w.heap.size A es := by
  intro hp
  obtain ⟨x, hx⟩ : ∃ x, es[0]? = some x := ⟨_, List.getElem?_eq_getElem hp⟩
  obtain ⟨b, off, rfl, hb, _⟩ := flat_get h 0 x hx
  refine ⟨b, off, rfl, hF b hb, fun k y hy => ?_⟩
  obtain ⟨b2, off2, e, _, hc⟩ := flat_get h k y hy
  injection e with e
  injection e with e1 e2 _
  subst e1 e2
  exact ⟨hc 0 _ rfl, hc 1 _ rfl, hc 2 _ rfl⟩
theorem flatMap_get5 {α : Type} {enc : α → List Value} {k : Nat} (hk : ∀ x, (enc x).length = k) : ∀ (xs : List α) (j : Nat) (u : Value), (xs.flatMap enc)[j]? = some u → ∃ i x j', xs[i]? = some x ∧ (enc x)[j']? = some u ∧ j = i * k + j'
  | [], j, u, h => by simp at h
  | x :: r, j, u, h => by
    rw [List.flatMap_cons] at h
    by_cases hj : j < (enc x).length
    · rw [List.getElem?_append_left hj] at h
      exact ⟨0, x, j, rfl, h, by omega⟩
    · rw [List.getElem?_append_right (by omega)] at h
      obtain ⟨i, y, j', h1, h2, h3⟩ := flatMap_get5 hk r _ u h
      rw [hk] at h3 hj
      exact ⟨i + 1, y, j', by simpa using h1, h2, by rw [Nat.add_mul]; omega⟩
theorem flat_at5 {α : Type} {enc : α → List Value} {k : Nat} {hp : 0 < k} {hk : ∀ x, (enc x).length = k} {h1 : ∀ x, ∀ v ∈ enc x, v.oneCell' = true} {w : World} {F : Nat → Prop} (xs : List α) (b off : Nat) (hb : F b)
    (h : ∀ i x, xs[i]? = some x → ∀ j u, (enc x)[j]? = some u → w.cell? ⟨b, off + i * k + j, none⟩ = some u) : (flatD enc k hp hk h1).At w F (some ⟨b, off, none⟩) xs := by
  refine ⟨xs.flatMap enc, flatD_of xs, fun _ => ⟨b, off, rfl, hb, fun j u hu => ?_⟩⟩
  obtain ⟨i, x, j', h2, h3, rfl⟩ := flatMap_get5 hk xs j u hu
  rw [← Nat.add_assoc]
  exact h i x h2 j' u h3
def edsOf (es : List FEd) (m : Int) : List tx.Ed := (es.filter fun x => decide (x.mod = m)).map FEd.ed
theorem edsOf_len (es : List FEd) (m : Int) : (edsOf es m).length ≤ es.length := by unfold edsOf; rw [List.length_map]; exact List.length_filter_le _ _
theorem edsOf_snoc (es : List FEd) (m : Int) (j : Nat) (x : FEd) (h : es[j]? = some x) : edsOf (es.take (j + 1)) m = edsOf (es.take j) m ++ (if x.mod = m then [x.ed] else []) := by
  unfold edsOf
  rw [filter_take_succ _ es j x h, List.map_append]
  by_cases hq : x.mod = m
  · simp [hq]
  · simp [hq]
def FShort (es : List FEd) : Prop := ∀ x ∈ es, x.t.size ≤ 140737488351232
theorem edsOf_short {es : List FEd} (h : FShort es) (m : Int) : tx.Short (edsOf es m) := by
  intro y hy
  obtain ⟨x, hx, rfl⟩ := List.mem_map.1 hy
  exact h x (List.mem_filter.1 hx).1
def sortedM (n : Int) : Int → List FEd → Bool
  | _, [] => true
  | p, x :: r => if x.mod < p ∨ n ≤ x.mod then false else sortedM n x.mod r

def GrpC (w : World) (B G n : Nat) (cs : Array Value) (f : Nat → List tx.Ed) : Prop :=
  w.heap[G]? = some (.cells cs 49 (0, 0)) ∧ cs.size = n ∧ B ≤ G ∧
    ∀ m, m < n → ∃ v, cs[m]? = some v ∧ w.ownsRow B 93 3 v (f m).length ((f m).flatMap edC) ∧ v.ownBlock ≠ some G ∧ ∀ k u, k ≠ m → cs[k]? = some u → ∀ b, v.ownBlock = some b → u.ownBlock ≠ some b
theorem GrpC.below {w w' : World} {B G n : Nat} {cs : Array Value} {f : Nat → List tx.Ed} (h : GrpC w B G n cs f) (hb : Below w.heap.size w w') : GrpC w' B G n cs f := by
  obtain ⟨h1, h2, h3, h4⟩ := h
  refine ⟨(hb.block _ (lt_of_heap h1)).trans h1, h2, h3, fun m hm => ?_⟩
  obtain ⟨v, a1, a2, a3, a4⟩ := h4 m hm
  exact ⟨v, a1, ownsRow_below a2 (fun g hg => hb.block g (a2.lt g hg).2), a3, a4⟩
theorem GrpC.push {w w' : World} {B G n : Nat} {cs : Array Value} {f : Nat → List tx.Ed} (h : GrpC w B G n cs f) {m : Nat} (hm : m < n) {v v' : Value} (hv : cs[m]? = some v) (x : tx.Ed)
    (hown : w'.ownsRow B 93 3 v' ((f m).length + 1) ((f m).flatMap edC ++ edC x)) (hg : w.grownBy w' v.ownBlock) (hat : v.ownBlock = v'.ownBlock ∨ ∃ g, v'.ownBlock = some g ∧ w.heap.size ≤ g) :
    w'.heap[G]? = some (.cells cs 49 (0, 0)) ∧ GrpC (w'.setCell ⟨G, m, none⟩ v') B G n (cs.setIfInBounds m v') (fun k => if k = m then f m ++ [x] else f k) := by
  obtain ⟨h1, h2, h3, h4⟩ := h
  obtain ⟨v0, a1, a2, a3, a4⟩ := h4 m hm
  obtain rfl : v0 = v := by rw [hv] at a1; injection a1 with a1; exact a1.symm
  have hGl := lt_of_heap h1
  have hG' : w'.heap[G]? = some (.cells cs 49 (0, 0)) := (hg.block G hGl (fun e => a3 e.symm)).trans h1
  have hv'G : v'.ownBlock ≠ some G := by
    rcases hat with e | ⟨g, e, hge⟩
    · rw [← e]; exact a3
    · rw [e]; intro e2; injection e2 with e2; omega
  refine ⟨hG', heap_set hG' m v', by simp [h2], h3, fun k hk => ?_⟩
  by_cases hkm : k = m
  · subst hkm
    refine ⟨v', by simp [h2, hm], ?_, hv'G, fun j u hj hu b hb hub => ?_⟩
    · simp only [if_true, List.length_append, List.length_cons, List.length_nil, Nat.zero_add, List.flatMap_append, List.flatMap_cons, List.flatMap_nil, List.append_nil]
      exact ownsRow_below hown (fun g hg => Below.heap_setCell _ _ _ _ (fun e => hv'G (by rw [hg, e])))
    · rw [Array.getElem?_setIfInBounds, if_neg (fun e => hj e.symm)] at hu
      rcases hat with e | ⟨g, e, hge⟩
      · exact a4 j u hj hu b (by rw [e]; exact hb) hub
      · rw [e] at hb
        injection hb with hb
        subst hb
        have hjn : j < n := by rw [← h2]; exact (Array.getElem?_eq_some_iff.1 hu).1
        obtain ⟨u', b1, b2, _⟩ := h4 j hjn
        obtain rfl : u' = u := by rw [hu] at b1; injection b1 with b1; exact b1.symm
        have := (b2.lt _ hub).2
        omega
  · obtain ⟨u, b1, b2, b3, b4⟩ := h4 k hk
    refine ⟨u, by rw [Array.getElem?_setIfInBounds, if_neg (fun e => hkm e.symm)]; exact b1, ?_, b3, fun j z hj hz b hb hzb => ?_⟩
    · simp only [if_neg hkm]
      have q1 : w'.ownsRow B 93 3 u (f k).length ((f k).flatMap edC) := ownsRow_below b2 (fun g hgg => hg.block g (b2.lt g hgg).2 (fun e => b4 m v0 (fun e => hkm e.symm) hv g hgg e.symm))
      exact ownsRow_below q1 (fun g hg => Below.heap_setCell _ _ _ _ (fun e => b3 (by rw [hg, e])))
    · by_cases hjm : j = m
      · subst hjm
        have hz' : z = v' := by
          rw [Array.getElem?_setIfInBounds, if_pos rfl] at hz
          simp [h2, hm] at hz
          exact hz.symm
        subst hz'
        rcases hat with e | ⟨g, e, hge⟩
        · exact b4 j v0 hj hv b hb (by rw [e]; exact hzb)
        · rw [e] at hzb
          injection hzb with hzb
          subst hzb
          have := (b2.lt _ hb).2
          omega
      · rw [Array.getElem?_setIfInBounds, if_neg (fun e => hjm e.symm)] at hz
        exact b4 j z hj hz b hb hzb
theorem info_tes : (Tryz.prog.info? 49).map (fun i => (i.zero, i.size, i.bytes)) = some (some (.slice none 0 0), 1, 24) := by kernel_rfl
theorem run_make_grp (n : Nat) (hn : n ≤ 1000) (u : World) :
    (Instr.makeSlice 101 (.int .i64 (n : Int)) (.int .i64 (n : Int))).run Tryz.prog u = .ok (.slice (some ⟨u.heap.size, 0, none⟩) n n) (u.alloc (.cells (madeCells #[.slice none 0 0] n) 49)) := by
  obtain ⟨i0, hi, hz0, hz1, hz2⟩ := info_parts info_tes
  have h := run_make (P := Tryz.prog) u 101 49 i0 _ Tryz.underlying101 hi hz0 .i64 .i64 (n : Int) (n : Int) (by omega) (Int.le_refl _) (by rw [hz2]; omega) (by omega)
  simp only [Int.toNat_natCast, hz1, Value.cells, Nat.mul_one] at h
  exact h
theorem GrpC.made (w : World) (n : Nat) : GrpC (w.alloc (.cells (madeCells #[.slice none 0 0] n) 49)) w.heap.size w.heap.size n (madeCells #[.slice none 0 0] n) (fun _ => []) := by
  have e : ∀ (m : Nat) v, (madeCells #[Value.slice none 0 0] n)[m]? = some v → v = .slice none 0 0 := fun m v hv => by
    have : (madeCells #[Value.slice none 0 0] n).toList[m]? = some v := by rw [Array.getElem?_toList]; exact hv
    rw [toList_madeCells_one, List.getElem?_replicate] at this
    split at this
    · injection this with this; exact this.symm
    · cases this
  refine ⟨heap_alloc_new w _, size_madeCells _ _, Nat.le_refl _, fun m hm => ⟨.slice none 0 0, ?_, World.ownsRow_nil _ _ _ _, by simp [Value.ownBlock], fun k u _ hu b hb => by simp [Value.ownBlock] at hb⟩⟩
  have hl : m < (madeCells #[Value.slice none 0 0] n).size := by rw [size_madeCells]; exact hm
  rw [Array.getElem?_eq_getElem hl]
  rw [e m _ (Array.getElem?_eq_getElem hl)]

theorem sortedM_bad {n p : Int} {x : FEd} {r : List FEd} (h : x.mod < p ∨ n ≤ x.mod) : sortedM n p (x :: r) = false := by unfold sortedM; rw [if_pos h]
theorem sortedM_ok {n p : Int} {x : FEd} {r : List FEd} (h : ¬ (x.mod < p ∨ n ≤ x.mod)) : sortedM n p (x :: r) = sortedM n x.mod r := by rw [sortedM, if_neg h]
def BymPost (es : List FEd) (n : Nat) (w : World) (e : Ending) (w' : World) : Prop :=
  ((sortedM n 0 es = false ∧ e = .returned (.tuple #[.slice none 0 0, .bool false])) ∨
    (sortedM n 0 es = true ∧ ∃ cs, e = .returned (.tuple #[.slice (some ⟨w.heap.size, 0, none⟩) n n, .bool true]) ∧ GrpC w' w.heap.size w.heap.size n cs (fun m => edsOf es m))) ∧ Below w.heap.size w w'
set_option maxRecDepth 100000 in
set_option maxHeartbeats 6400000 in
theorem byModule_any (es : List FEd) (A M : Option Addr) (c n mc : Nat) (w : World) (h : feD.At w (Lt w) A es) (hl : es.length * 40 ≤ 140737488351232) (hn : n ≤ 1000) :
    Calls Tryz.prog 43 #[.slice M n mc, .slice A es.length c] w (BymPost es n w) := by
  obtain ⟨i0, hi0, hz0, hz1, hz2⟩ := info_parts info_ed
  obtain ⟨ne, hne⟩ : ∃ ne, es.length = ne := ⟨_, rfl⟩
  have HN := Lib.hid hne
  have HA := Lib.hid h
  rw [hne] at hl
  rw [hne]
  have HES := Lib.hid (show ∀ j (x : FEd), es[j]? = some x → ∀ m, edsOf (es.take (j + 1)) m = edsOf (es.take j) m ++ (if x.mod = m then [x.ed] else []) from fun j x hx m => edsOf_snoc es m j x hx)
  have HEL := Lib.hid (show ∀ j (m : Int), j ≤ ne → (edsOf (es.take j) m).length ≤ j from fun j m hj => by have := edsOf_len (es.take j) m; rw [List.length_take] at this; omega)
  have hmk := fun u => run_make_grp n hn u
  have HW := Lib.hid (show ∀ e w', BymPost es n w e w' = (((sortedM n 0 es = false ∧ e = .returned (.tuple #[.slice none 0 0, .bool false])) ∨ (sortedM n 0 es = true ∧ ∃ cs, e = .returned (.tuple #[.slice (some ⟨w.heap.size, 0, none⟩) n n, .bool true]) ∧ GrpC w' w.heap.size w.heap.size n cs (fun m => edsOf es m))) ∧ Below w.heap.size w w') from fun _ _ => rfl)
  obtain ⟨W0, hW0⟩ : ∃ W0, w.alloc (.cells (madeCells #[.slice none 0 0] n) 49) = W0 := ⟨_, rfl⟩
  have hg0 : GrpC W0 w.heap.size w.heap.size n (madeCells #[.slice none 0 0] n) (fun m => edsOf (es.take 0) m) := by
    rw [← hW0]; exact GrpC.made w n
  have hb0 : Below w.heap.size w W0 := by rw [← hW0]; exact (Below.refl _ _).alloc (Nat.le_refl _) _
  have HG0 := Lib.hid hg0
  have HB0 := Lib.hid hb0
  have hsW : w.heap.size < W0.heap.size := by rw [← hW0]; simp
  clear hne h hg0 hb0
  go_enter Tryz.func43, Tryz.ntmps43
  go_wp2_with fail
  clear hmk hW0
  go_loopw [7, 15] (fun q i wr => ∃ (j p : Nat) (cs : Array Value), i = .int .i64 (j : Int) ∧ q = .int .i64 (p : Int) ∧ j ≤ ne ∧ sortedM n 0 es = sortedM n p (es.drop j) ∧ GrpC wr w.heap.size w.heap.size n cs (fun m => edsOf (es.take j) m) ∧ Below w.heap.size w wr) (fun _ i _ => ne - (intOf i).toNat)
  case atStart => exact ⟨0, 0, _, rfl, rfl, Nat.zero_le _, by simp, HG0.out, HB0.out⟩
  case round =>
    obtain ⟨j, p, cs, rfl, rfl, hj, hso, hgr, hb⟩ := hrel
    have HSO := Lib.hid hso
    clear hso
    by_cases hlt : j < ne
    · have hjI : (j : Int) < ne := by omega
      have hjl : j < es.length := by rw [HN.out]; exact hlt
      obtain ⟨tb, off, rfl, htb, hxc⟩ := flat_get HA.out j es[j] (List.getElem?_eq_getElem hjl)
      have htk := HES.out j es[j] (List.getElem?_eq_getElem hjl)
      have hdr : es.drop j = es[j] :: es.drop (j + 1) := List.drop_eq_getElem_cons hjl
      generalize es[j] = x at *
      obtain ⟨x0, x1, x2, x3⟩ := x
      simp only [FEd.ed] at htk
      have hbs := hb.size
      have htl : tb < w.heap.size := htb
      have cc : ∀ i u, ([.int .i64 x0, .int .i64 x1, .int .i64 x2, .string x3] : List Value)[i]? = some u → wr.cell? ⟨tb, off + j * 4 + i, none⟩ = some u := fun i u hu => (hb.cell (p := ⟨tb, _, none⟩) htl).trans (hxc i u hu)
      have d0 := cc 0 _ rfl
      have d1 := cc 1 _ rfl
      have d2 := cc 2 _ rfl
      have d3 := cc 3 _ rfl
      rw [Nat.add_zero] at d0
      have htl2 : tb < wr.heap.size := Nat.lt_of_lt_of_le htl hbs
      have HTK := Lib.hid htk
      have HDR := Lib.hid hdr
      have HB := Lib.hid hb
      have HGR := Lib.hid hgr
      clear cc hxc htk hb hdr hgr
      by_cases hbad : x0 < p ∨ (n : Int) ≤ x0
      · have HF := Lib.hid (show sortedM n 0 es = false by rw [HSO.out, HDR.out]; exact sortedM_bad hbad)
        have HBW := Lib.hid (HB.out.alloc hbs (.cells #[.int .i64 x0, .int .i64 x1, .int .i64 x2, .string x3] 95))
        by_cases g1 : x0 < p
        · clear hbad
          go_wp2_with fail
          go_ret2
          exact (HW.out _ _).mpr ⟨.inl ⟨HF.out, rfl⟩, HBW.out⟩
        · have g2 : (n : Int) ≤ x0 := by omega
          clear hbad
          go_wp2_with fail
          go_ret2
          exact (HW.out _ _).mpr ⟨.inl ⟨HF.out, rfl⟩, HBW.out⟩
      · obtain ⟨m, rfl⟩ : ∃ m : Nat, x0 = m := ⟨x0.toNat, by omega⟩
        have HF := Lib.hid (show sortedM n 0 es = sortedM n m (es.drop (j + 1)) by rw [HSO.out, HDR.out]; exact sortedM_ok hbad)
        have g1 : ¬ m < p := by omega
        have g2 : m < n := by omega
        have g3 : ¬ n ≤ m := by omega
        have g1I : ¬ (m : Int) < p := by omega
        have g3I : ¬ (n : Int) ≤ m := by omega
        clear hbad
        obtain ⟨W2, hW2⟩ : ∃ W2, wr.alloc (.cells #[.int .i64 (m : Int), .int .i64 x1, .int .i64 x2, .string x3] 95) = W2 := ⟨_, rfl⟩
        have hb2 : Below wr.heap.size wr W2 := by rw [← hW2]; exact (Below.refl _ _).alloc (Nat.le_refl _) _
        have hx2 : W2.heap[wr.heap.size]? = some (.cells #[.int .i64 (m : Int), .int .i64 x1, .int .i64 x2, .string x3] 95 (0, 0)) := by rw [← hW2]; exact heap_alloc_new wr _
        have hgr2 := HGR.out.below hb2
        obtain ⟨v, hv, hvo, hvG, _⟩ := hgr2.2.2.2 m g2
        have q0 := cell_of hgr2.1 m v hv
        have f0 := Lib.frozen_of_heap hgr2.1 m
        have hGl := lt_of_heap hgr2.1
        have hxl := lt_of_heap hx2
        have e0 := cell_of hx2 0 _ rfl
        have e1 := cell_of hx2 1 _ rfl
        have e2 := cell_of hx2 2 _ rfl
        have e3 := cell_of hx2 3 _ rfl
        have hs2 := hb2.size
        have hvx : v.ownBlock ≠ some wr.heap.size := fun e => by
          obtain ⟨v', hv', hvo', _⟩ := HGR.out.2.2.2 m g2
          obtain rfl : v' = v := by rw [hv] at hv'; injection hv' with hv'; exact hv'.symm
          have := (hvo'.lt _ e).2
          omega
        have hGx : w.heap.size ≠ wr.heap.size := by have := lt_of_heap HGR.out.1; omega
        have HGR2 := Lib.hid hgr2
        have HB2 := Lib.hid (HB.out.trans (hb2.mono hbs))
        have HX2 := Lib.hid hx2
        have HV := Lib.hid hv
        obtain ⟨k, hk⟩ : ∃ k, (edsOf (es.take j) m).length = k := ⟨_, rfl⟩
        obtain ⟨row, hrow⟩ : ∃ row, (edsOf (es.take j) m).flatMap edC = row := ⟨_, rfl⟩
        have hkj : k ≤ j := by rw [← hk]; exact HEL.out j m hj
        rw [hk, hrow] at hvo
        have HK := Lib.hid hk
        have HROW := Lib.hid hrow
        obtain ⟨A9, c9, rfl⟩ := own_slice hvo
        have hin : ∀ u ∈ ([.int .i64 x1, .int .i64 x2, .string x3] : List Value), u.oneCell' = true := by simp [Value.oneCell']
        have hkl : k + 1 ≤ maxLen := by unfold maxLen; omega
        have hkb : (k + 1) * 32 ≤ 140737488355328 := by omega
        have hK2 := fun (cs' : Array Value) (t : TypeId) (w1 : World) (hg : ((W2.alloc (.cells cs' t)).drew).grownBy w1 (Value.slice A9 k c9).ownBlock) => (show (w1.cell? ⟨wr.heap.size, 0, none⟩ = some (.int .i64 (m : Int)) ∧ w1.cell? ⟨w.heap.size, m, none⟩ = some (.slice A9 k c9)) ∧ w1.frozen? ⟨w.heap.size, m, none⟩ = false ∧ w.heap.size < w1.heap.size ∧ wr.heap.size < w1.heap.size from by
          have hs := hg.size
          have hs' : W2.heap.size + 1 ≤ w1.heap.size := by have : ((W2.alloc (.cells cs' t)).drew).heap.size = W2.heap.size + 1 := by show (W2.alloc _).heap.size = _; simp
                                                           omega
          have p1 : w1.heap[wr.heap.size]? = some (.cells #[.int .i64 (m : Int), .int .i64 x1, .int .i64 x2, .string x3] 95 (0, 0)) := (hg.block _ (by show wr.heap.size < (W2.alloc _).heap.size; simp; omega) (fun e => hvx e.symm)).trans ((Below.heap_alloc W2 _ _ hxl).trans HX2.out)
          have p2 : w1.heap[w.heap.size]? = some (.cells cs 49 (0, 0)) := (hg.block _ (by show w.heap.size < (W2.alloc _).heap.size; simp; omega) (fun e => hvG e.symm)).trans ((Below.heap_alloc W2 _ _ hGl).trans HGR2.out.1)
          exact ⟨⟨cell_of p1 0 _ rfl, cell_of p2 m _ HV.out⟩, Lib.frozen_of_heap p2 m, by omega, by omega⟩)
        go_wp2_with fail
        have hfin : ∀ (gg cap : Nat) (w1 : World), w1.ownsRow w.heap.size 93 3 (.slice (some ⟨gg, 0, none⟩) (k + 1) cap) (k + 1) (row ++ [.int .i64 x1, .int .i64 x2, .string x3]) →
            (W2.alloc (.cells #[.int .i64 x1, .int .i64 x2, .string x3] 93)).drew.grownBy w1 (Value.slice A9 k c9).ownBlock → ((Value.slice A9 k c9).ownBlock = some gg ∨ gg = (W2.alloc (.cells #[.int .i64 x1, .int .i64 x2, .string x3] 93)).drew.heap.size) →
            ∃ cs', GrpC (w1.setCell ⟨w.heap.size, m, none⟩ (.slice (some ⟨gg, 0, none⟩) (k + 1) cap)) w.heap.size w.heap.size n cs' (fun q => edsOf (es.take (j + 1)) q) ∧ Below w.heap.size w (w1.setCell ⟨w.heap.size, m, none⟩ (.slice (some ⟨gg, 0, none⟩) (k + 1) cap)) := by
          intro gg cap w1 hown1 hgrow hat
          have hb3 : Below W2.heap.size W2 (W2.alloc (.cells #[.int .i64 x1, .int .i64 x2, .string x3] 93)).drew := ((Below.refl _ _).alloc (Nat.le_refl _) _).drew
          have hg3 := HGR2.out.below hb3
          have hp := hg3.push g2 HV.out ⟨x1, x2, x3⟩ (by rw [HK.out, HROW.out]; exact hown1) hgrow (by
            rcases hat with hat | hat
            · exact .inl hat
            · exact .inr ⟨gg, rfl, by omega⟩)
          refine ⟨cs.setIfInBounds m (.slice (some ⟨gg, 0, none⟩) (k + 1) cap), ?_, ?_⟩
          · have e : (fun q : Nat => edsOf (es.take (j + 1)) q) = fun q : Nat => if q = m then edsOf (es.take j) m ++ [⟨x1, x2, x3⟩] else edsOf (es.take j) q := by
              funext q
              rw [HTK.out]
              by_cases hq : q = m
              · subst hq; simp
              · have hq' : ¬ (m : Int) = q := by omega
                rw [if_neg hq', if_neg hq, List.append_nil]
            rw [e]
            exact hp.2
          · have hvo2 := HGR2.out.2.2.2 m g2
            have hb4 : Below w.heap.size w (W2.alloc (.cells #[.int .i64 x1, .int .i64 x2, .string x3] 93)).drew := HB2.out.trans (hb3.mono HB2.out.size)
            exact (hb4.grown hgrow hb4.size (fun q hq => (hvo.lt _ hq).1)).setCell (p := ⟨w.heap.size, m, none⟩) (Nat.le_refl _) _
        go_region_law
          ((refine step_append_lies _ (by rfl) (.tmp 39) (.tmp 42) _ (by rfl) w.heap.size 93 i0 _ 3 32 Tryz.underlying49 hi0 hz0 hz1 hz2 rfl (by omega) (.slice A9 k c9) k row (by rfl) ((hvo.alloc _).drew)
              ⟨W2.heap.size, 0, none⟩ 1 1 [.int .i64 x1, .int .i64 x2, .string x3] (by rfl) (by rfl) (World.news_of_block (cs := #[_, _, _]) (t := 93) (fr := (0, 0)) (heap_alloc_new _ _)) hin (by omega) hkl hkb (by simp; omega) _ rfl ?_; intro gg cap w1 hown1 hgrow hat hlt; obtain ⟨⟨k1, k2⟩, k3, k4, k5⟩ := hK2 _ _ _ hgrow))
        all_goals
          obtain ⟨cs', hgr3, hb3⟩ := hfin _ _ _ hown1 hgrow hat
          have H1 := Lib.hid hgr3
          have H2 := Lib.hid hb3
          clear hgr3 hb3 hfin hK2
          go_wp2_with fail
          go_roundw
          case rel => exact ⟨j + 1, m, cs', by go_num, rfl, by omega, HF.out, H1.out, H2.out⟩
          case measure => simp [intOf]; omega
    · have hjI : ¬ (j : Int) < ne := by omega
      have htk : es.take j = es := List.take_of_length_le (by rw [HN.out]; omega)
      have HF := Lib.hid (show sortedM n 0 es = true by rw [HSO.out, List.drop_of_length_le (by rw [HN.out]; omega)]; rfl)
      rw [htk] at hgr
      have H1 := Lib.hid hgr
      have H2 := Lib.hid hb
      clear hgr hb htk
      go_wp2_with fail
      go_ret2
      exact (HW.out _ _).mpr ⟨.inr ⟨HF.out, cs, rfl, H1.out⟩, H2.out⟩
end Go.Proofs.YtpibenilagloaaaGreatDoor
