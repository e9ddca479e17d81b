import Derived.Test.YtpibenilagloaaaGreatDoorMzaf
import Derived.Test.YtpibenilagloaaaGreatDoorMzag
namespace Go.Proofs.YtpibenilagloaaaGreatDoor
open Go.RowKit
set_option linter.unusedVariables false
theorem own_ne {w : World} {B : Nat} {e1 e2 : TypeId} {s1 s2 n1 n2 : Nat} {v1 v2 : Value} {x1 x2 : List Value} (h1 : w.ownsRow B e1 s1 v1 n1 x1) (h2 : w.ownsRow B e2 s2 v2 n2 x2) (hne : e1 ≠ e2) {g : Nat} (hg : v1.ownBlock = some g) : v2.ownBlock ≠ some g := by
  intro hg2
  obtain ⟨g1, c1, u1, a1, _, a3, _⟩ := h1.2.resolve_left (by rintro ⟨h, _⟩; rw [h] at hg; cases hg)
  obtain ⟨g2, c2, u2, b1, _, b3, _⟩ := h2.2.resolve_left (by rintro ⟨h, _⟩; rw [h] at hg2; cases hg2)
  rw [a1] at hg; injection hg with hg
  rw [b1] at hg2; injection hg2 with hg2
  have q1 : g1 = g := hg
  have q2 : g2 = g := hg2
  rw [q1] at a3; rw [q2, a3] at b3
  injection b3 with b3; injection b3 with _ b4
  exact hne b4
theorem own_type {w : World} {B : Nat} {e t : TypeId} {s n g : Nat} {v : Value} {x : List Value} {cs : Array Value} {fr : Nat × Nat} (h : w.ownsRow B e s v n x) (hg : v.ownBlock = some g) (hh : w.heap[g]? = some (.cells cs t fr)) : t = e := by
  obtain ⟨g1, c1, u1, a1, _, a3, _⟩ := h.2.resolve_left (by rintro ⟨h, _⟩; rw [h] at hg; cases hg)
  rw [a1] at hg; injection hg with hg
  have q1 : g1 = g := hg
  rw [q1, hh] at a3
  injection a3 with a3; injection a3
def ColV (w : World) (B cb : Nat) (m : Int) (acc : List Sym) : Prop :=
  ∃ v, w.heap[cb]? = some (.cells #[.int .i64 m, v] 252 (0, 0)) ∧ w.ownsRow B 89 6 v acc.length (acc.flatMap syC) ∧ v.ownBlock ≠ some cb
theorem ColV.below {w w' : World} {B cb : Nat} {m : Int} {acc : List Sym} (h : ColV w B cb m acc) (hb : Below w.heap.size w w') : ColV w' B cb m acc := by
  obtain ⟨v, h1, h2, h3⟩ := h
  exact ⟨v, (hb.block cb (lt_of_heap h1)).trans h1, ownsRow_below h2 (fun g hg => hb.block g (h2.lt g hg).2), h3⟩
theorem ColV.push {w w2 : World} {B cb : Nat} {m : Int} {acc : List Sym} {v v' : Value} (h1 : w.heap[cb]? = some (.cells #[.int .i64 m, v] 252 (0, 0))) (h3 : v.ownBlock ≠ some cb) (y : Sym) (hg : w.grownBy w2 v.ownBlock)
    (ho : w2.ownsRow B 89 6 v' (acc.length + 1) (acc.flatMap syC ++ syC y)) (hat : v'.ownBlock = v.ownBlock ∨ ∃ g, v'.ownBlock = some g ∧ w.heap.size ≤ g) : ColV (w2.setCell ⟨cb, 1, none⟩ v') B cb m (acc ++ [y]) := by
  have hne : v'.ownBlock ≠ some cb := by
    rcases hat with e | ⟨g, e, hge⟩
    · rw [e]; exact h3
    · rw [e]; intro e2; injection e2 with e2; have := lt_of_heap h1; omega
  refine ⟨v', ?_, ?_, hne⟩
  · exact heap_set ((hg.block cb (lt_of_heap h1) (fun e => h3 e.symm)).trans h1) 1 v'
  · rw [List.length_append, List.flatMap_append]
    simp only [List.length_singleton, List.flatMap_cons, List.flatMap_nil, List.append_nil]
    exact ownsRow_below ho (fun g hg' => Below.heap_setCell _ _ _ _ (fun e => hne (by rw [hg', e])))
def VisOk (B cb : Nat) (m : Int) (n : Nat) : Prop := ∀ (x : Node), x.sz < n → okS x = true → ∀ (par : Int) (acc : List Sym) (w : World) (us : List Value), ColV w B cb m acc → B ≤ w.heap.size → NodeV w (fun b => b < B) x us → acc.length + x.sz ≤ 1000000 →
  Calls Tryz.prog 178 #[.pointer (some ⟨cb, 0, none⟩), .agg us.toArray, .int .i64 par, .bool false] w fun e w' => e = .returned (.tuple #[]) ∧ ColV w' B cb m (syN m x par acc) ∧ Below B w w'
theorem len_szs : ∀ l : List Node, l.length ≤ szs l
  | [] => by simp
  | y :: r => by
    have := len_szs r
    rw [szs, List.length_cons]
    have : 1 ≤ y.sz := by cases y; unfold Node.sz; omega
    omega
theorem szs_get (ch : List Node) (j : Nat) (hj : j < ch.length) : szs (ch.take j) + ch[j].sz ≤ szs ch := by
  have e := List.take_append_drop j ch
  rw [List.drop_eq_getElem_cons hj] at e
  have := congrArg szs e
  rw [szs_append, szs] at this
  omega
set_option maxRecDepth 100000 in
set_option maxHeartbeats 6400000 in
theorem visit_fn (B cb : Nat) (m : Int) (hB : B ≤ cb) (n : Nat) (ih : VisOk B cb m n) (x : Node) (hxn : x.sz < n + 1) (hok : okS x = true) (hkx : x.h.k = 3) (par : Int) (acc : List Sym) (w : World) (us : List Value) (hcol : ColV w B cb m acc) (hBw : B ≤ w.heap.size) (hus : NodeV w (fun b => b < B) x us) (hlen : acc.length + x.sz ≤ 1000000) :
    Calls Tryz.prog 178 #[.pointer (some ⟨cb, 0, none⟩), .agg us.toArray, .int .i64 par, .bool false] w fun e w' => e = .returned (.tuple #[]) ∧ ColV w' B cb m (syN m x par acc) ∧ Below B w w' := by
  obtain ⟨A, c, rfl, hk⟩ := hus.kids
  obtain ⟨hd, ch⟩ := x
  simp only [Node.h, Node.ch] at hk hkx ⊢
  obtain ⟨L, hL⟩ : ∃ L, ch.length = L := ⟨_, rfl⟩
  obtain ⟨hoc, hcase⟩ := okS_cases hd ch hok
  have hLz := len_szs ch
  unfold Node.sz at hxn hlen
  have HK := Lib.hid hk
  have HL := Lib.hid hL
  have HI := Lib.hid ih
  have HN := Lib.hid hxn
  have HOC := Lib.hid hoc
  have HLN := Lib.hid hlen
  have hLb : L ≤ 1000000 := by omega
  have HE := Lib.hid (show syN m (.mk hd ch) par acc = if hd.k = 3 then syNs m ch (acc.length : Int) (acc ++ [⟨2, m, hd.nm, par, hd.t, false⟩]) else syNs m ch par acc by rw [syN])
  rw [hL]
  obtain ⟨k, va, t, s, e, nm⟩ := hd
  simp only at HE hcase hkx
  have HSK := Lib.hid (fun (w' : World) => smk_none ⟨k, va, t, s, e, nm⟩ A L c false w')
  have HSF := Lib.hid (fun (w' : World) => smk_fn ⟨k, va, t, s, e, nm⟩ A L c false w')
  have HSS := Lib.hid (fun (w' : World) => smk_seg ⟨k, va, t, s, e, nm⟩ A L c false w')
  have HDS := Lib.hid (fun (w' : World) => dst_any ⟨k, va, t, s, e, nm⟩ A L c w')
  simp only [Hd.vals] at HSK HSF HSS HDS ⊢
  show Calls _ _ #[_, .agg #[.int .i64 k, .int .i64 va, .string t, .int .i64 s, .int .i64 e, .int .i64 nm, .slice A L c], _, _] _ _
  have HBs := Lib.hid hBw
  rcases hcase with ⟨h3, hnm, hva⟩ | h0
  case inr => rcases h0 with h | h <;> omega
  clear hkx
  subst h3 hva
  obtain ⟨W, hW⟩ : ∃ W, w.alloc (.cells #[.int .i64 3, .int .i64 0, .string t, .int .i64 s, .int .i64 e, .int .i64 nm, .slice A L c] 57) = W := ⟨_, rfl⟩
  have hbx : W.heap[w.heap.size]? = some (.cells #[.int .i64 3, .int .i64 0, .string t, .int .i64 s, .int .i64 e, .int .i64 nm, .slice A L c] 57 (0, 0)) := by rw [← hW]; exact heap_alloc_new w _
  have hbw : Below w.heap.size w W := by rw [← hW]; exact (Below.refl _ _).alloc (Nat.le_refl _) _
  have hcW := hcol.below hbw
  have hWs : w.heap.size < W.heap.size := lt_of_heap hbx
  have HE0 := Lib.hid (show syN m (.mk ⟨3, 0, t, s, e, nm⟩ ch) par acc = syNs m ch (acc.length : Int) (acc ++ [⟨2, m, nm, par, t, false⟩]) by rw [HE.out, if_pos rfl])
  have HF := Lib.hid (HSF.out W rfl (by simpa using hnm))
  have HD := Lib.hid (fun w' => HDS.out w' (by simp))
  have HCW := Lib.hid hcW
  have HBX := Lib.hid hbx
  have HBW := Lib.hid hbw
  have y0 := cell_of hbx 0 _ rfl
  have y1 := cell_of hbx 1 _ rfl
  have y2 := cell_of hbx 2 _ rfl
  have y3 := cell_of hbx 3 _ rfl
  have y4 := cell_of hbx 4 _ rfl
  have y5 := cell_of hbx 5 _ rfl
  have y6 := cell_of hbx 6 _ rfl
  clear hcol hk hL hxn ih hus hLz hoc hok hlen HE HSF HSK HSS HDS hcW hbx hbw hnm
  go_enter Tryz.func178, Tryz.ntmps178
  go_wp2_with fail
  refine HF.out.mono ?_
  rintro e1 w1 ⟨rfl, hb1⟩
  have hs1 := hb1.size
  obtain ⟨v, g1, g2, g3⟩ := HCW.out.below hb1
  have x1 : w1.heap[w.heap.size]? = some (.cells #[.int .i64 3, .int .i64 0, .string t, .int .i64 s, .int .i64 e, .int .i64 nm, .slice A L c] 57 (0, 0)) := (hb1.block _ hWs).trans HBX.out
  have k0 := cell_of g1 0 _ rfl
  have k1 := cell_of g1 1 _ rfl
  have b0 := cell_of x1 0 _ rfl
  have b1 := cell_of x1 1 _ rfl
  have b2 := cell_of x1 2 _ rfl
  have b3 := cell_of x1 3 _ rfl
  have b4 := cell_of x1 4 _ rfl
  have b5 := cell_of x1 5 _ rfl
  have b6 := cell_of x1 6 _ rfl
  have hcl := lt_of_heap g1
  have hxl := lt_of_heap x1
  have HB1 := Lib.hid ((HBW.out.mono hBw).trans (hb1.mono (Nat.le_trans hBw (Nat.le_of_lt hWs))))
  have hB1 : B ≤ w1.heap.size := Nat.le_trans hBw (Nat.le_of_lt hxl)
  have hkeep : ∀ w4 : World, Below w1.heap.size w1 w4 → w4.cell? ⟨cb, 0, none⟩ = some (.int .i64 m) ∧ w4.cell? ⟨cb, 1, none⟩ = some v ∧ w4.cell? ⟨w.heap.size, 0, none⟩ = some (.int .i64 3) ∧ w4.cell? ⟨w.heap.size, 1, none⟩ = some (.int .i64 0) ∧ w4.cell? ⟨w.heap.size, 2, none⟩ = some (.string t) ∧ w4.cell? ⟨w.heap.size, 3, none⟩ = some (.int .i64 s) ∧ w4.cell? ⟨w.heap.size, 4, none⟩ = some (.int .i64 e) ∧ w4.cell? ⟨w.heap.size, 5, none⟩ = some (.int .i64 nm) ∧ w4.cell? ⟨w.heap.size, 6, none⟩ = some (.slice A L c) := fun w4 hb =>
    ⟨(hb.cell (p := ⟨cb, 0, none⟩) hcl).trans k0, (hb.cell (p := ⟨cb, 1, none⟩) hcl).trans k1, (hb.cell (p := ⟨w.heap.size, 0, none⟩) hxl).trans b0, (hb.cell (p := ⟨w.heap.size, 1, none⟩) hxl).trans b1, (hb.cell (p := ⟨w.heap.size, 2, none⟩) hxl).trans b2, (hb.cell (p := ⟨w.heap.size, 3, none⟩) hxl).trans b3, (hb.cell (p := ⟨w.heap.size, 4, none⟩) hxl).trans b4, (hb.cell (p := ⟨w.heap.size, 5, none⟩) hxl).trans b5, (hb.cell (p := ⟨w.heap.size, 6, none⟩) hxl).trans b6⟩
  have hfin : ∀ w4 : World, Below w1.heap.size w1 w4 → ∀ (v3 : Value) (w3 : World), w3.ownsRow B 89 6 v3 (acc.length + 1) (acc.flatMap syC ++ syC ⟨2, m, nm, par, t, false⟩) → (w4.alloc (.cells #[.int .i64 2, .int .i64 m, .int .i64 nm, .int .i64 par, .string t, .bool false] 89)).grownBy w3 v.ownBlock → (v3.ownBlock = v.ownBlock ∨ ∃ g, v3.ownBlock = some g ∧ (w4.alloc (.cells #[.int .i64 2, .int .i64 m, .int .i64 nm, .int .i64 par, .string t, .bool false] 89)).heap.size ≤ g) →
      (w3.cell? ⟨cb, 0, none⟩ = some (.int .i64 m) ∧ w3.cell? ⟨cb, 1, none⟩ = some v ∧ w3.cell? ⟨w.heap.size, 0, none⟩ = some (.int .i64 3) ∧ w3.cell? ⟨w.heap.size, 1, none⟩ = some (.int .i64 0) ∧ w3.cell? ⟨w.heap.size, 2, none⟩ = some (.string t) ∧ w3.cell? ⟨w.heap.size, 3, none⟩ = some (.int .i64 s) ∧ w3.cell? ⟨w.heap.size, 4, none⟩ = some (.int .i64 e) ∧ w3.cell? ⟨w.heap.size, 5, none⟩ = some (.int .i64 nm) ∧ w3.cell? ⟨w.heap.size, 6, none⟩ = some (.slice A L c)) ∧ w3.frozen? ⟨cb, 1, none⟩ = false ∧ ColV (w3.setCell ⟨cb, 1, none⟩ v3) B cb m (acc ++ [⟨2, m, nm, par, t, false⟩]) ∧ Below B w (w3.setCell ⟨cb, 1, none⟩ v3) ∧ (w3.setCell ⟨cb, 1, none⟩ v3).heap[w.heap.size]? = some (.cells #[.int .i64 3, .int .i64 0, .string t, .int .i64 s, .int .i64 e, .int .i64 nm, .slice A L c] 57 (0, 0)) ∧ (w3.setCell ⟨cb, 1, none⟩ v3).cell? ⟨cb, 1, none⟩ = some v3 := by
    intro w4 hb4 v3 w3 ho hg hat
    have hb5 : Below w1.heap.size w1 (w4.alloc (.cells #[.int .i64 2, .int .i64 m, .int .i64 nm, .int .i64 par, .string t, .bool false] 89)) := hb4.alloc hb4.size _
    have e1 := (hb5.block cb hcl).trans g1
    have e2 : w3.heap[cb]? = _ := (hg.block cb (lt_of_heap e1) (fun e => g3 e.symm)).trans e1
    have e3 : w.heap.size ≠ cb := fun e' => by rw [e'] at x1; rw [g1] at x1; injection x1 with x1; injection x1 with x1 x2; cases x2
    have e4 := (hb5.block w.heap.size hxl).trans x1
    have e5 : v.ownBlock ≠ some w.heap.size := fun e' => absurd (own_type g2 e' x1) (by decide)
    have e6 : w3.heap[w.heap.size]? = _ := (hg.block _ (lt_of_heap e4) (fun e' => e5 e'.symm)).trans e4
    refine ⟨⟨cell_of e2 0 _ rfl, cell_of e2 1 _ rfl, cell_of e6 0 _ rfl, cell_of e6 1 _ rfl, cell_of e6 2 _ rfl, cell_of e6 3 _ rfl, cell_of e6 4 _ rfl, cell_of e6 5 _ rfl, cell_of e6 6 _ rfl⟩, Lib.frozen_of_heap e2 1, ColV.push e1 g3 _ hg ho hat, ?_, (Below.heap_setCell _ _ _ _ e3).trans e6, cell_of (heap_set e2 1 v3) 1 _ rfl⟩
    exact ((HB1.out.trans (hb5.mono hB1)).grown hg (Nat.le_trans hB1 hb5.size) (fun q hq => (g2.lt q hq).1)).setCell hB _
  have hown : ∀ w4 : World, Below w1.heap.size w1 w4 → (w4.alloc (.cells #[.int .i64 2, .int .i64 m, .int .i64 nm, .int .i64 par, .string t, .bool false] 89)).ownsRow B 89 6 v acc.length (acc.flatMap syC) := fun w4 hb4 =>
    ownsRow_below g2 (fun g hg => (hb4.alloc hb4.size _).block g (g2.lt g hg).2)
  have hlit : ∀ w4 : World, RowAt (w4.alloc (.cells #[.int .i64 2, .int .i64 m, .int .i64 nm, .int .i64 par, .string t, .bool false] 89)) (Lt (w4.alloc (.cells #[.int .i64 2, .int .i64 m, .int .i64 nm, .int .i64 par, .string t, .bool false] 89))) (some ⟨w4.heap.size, 0, none⟩) (syC ⟨2, m, nm, par, t, false⟩) := fun w4 _ =>
    ⟨_, 0, rfl, by simp [Lt], fun j u hu => by rw [Nat.zero_add, Lib.cell_of_heap (heap_alloc_new w4 _)]; simpa [syC] using hu⟩
  have HKP := Lib.hid hkeep
  have HFN := Lib.hid hfin
  have HOW := Lib.hid hown
  have HLI := Lib.hid hlit
  have hone : ∀ u ∈ syC ⟨2, m, nm, par, t, false⟩, u.oneCell' = true := by simp [syC, Value.oneCell']
  have HON := Lib.hid hone
  have hlb : acc.length + 1 ≤ 1000000 := by have := HLN.out; omega
  clear hkeep hfin hown hlit hone HF HCW g1 g2 x1 hb1 y0 y1 y2 y3 y4 y5 y6 hW
  go_wp2_with fail
  refine regionS (fun w' => w'.cell? ⟨cb, 0, none⟩ = some (.int .i64 m) ∧ w'.cell? ⟨cb, 1, none⟩ = some v ∧ w'.cell? ⟨w.heap.size, 0, none⟩ = some (.int .i64 3) ∧ w'.cell? ⟨w.heap.size, 1, none⟩ = some (.int .i64 0) ∧ w'.cell? ⟨w.heap.size, 2, none⟩ = some (.string t) ∧ w'.cell? ⟨w.heap.size, 3, none⟩ = some (.int .i64 s) ∧ w'.cell? ⟨w.heap.size, 4, none⟩ = some (.int .i64 e) ∧ w'.cell? ⟨w.heap.size, 5, none⟩ = some (.int .i64 nm) ∧ w'.cell? ⟨w.heap.size, 6, none⟩ = some (.slice A L c)) 19 (by kernel_rfl) (HKP.out _ ((Below.refl w1.heap.size w1).drew)) ?_
  intro hS
  refine takeS (i := 0) (v := ?v0) (at_zero) (by kernel_rfl) (by kernel_rfl) (by kernel_rfl) (by kernel_rfl) (fun _ _ _ h => h) (Or.inl ⟨by rfl, ?y0⟩) (by assumption) ?z0
  case y0 => intro wq hSw; (try dsimp only at hSw); go_simp; try with_reducible rfl
  try simp only [Act.put, List.setIfInBounds_toArray, List.set_cons_zero, List.set_cons_succ]
  refine takeS (i := 1) (v := ?v1) (at_succ (at_zero)) (by kernel_rfl) (by kernel_rfl) (by kernel_rfl) (by kernel_rfl) (fun _ _ _ h => h) (Or.inl ⟨by rfl, ?y1⟩) (by assumption) ?z1
  case y1 => intro wq hSw; (try dsimp only at hSw); go_simp; try with_reducible rfl
  try simp only [Act.put, List.setIfInBounds_toArray, List.set_cons_zero, List.set_cons_succ]
  refine takeS (i := 2) (v := ?v2) (at_succ (at_succ (at_zero))) (by kernel_rfl) (by kernel_rfl) (by kernel_rfl) (by kernel_rfl) (fun _ _ _ h => h) (Or.inl ⟨by rfl, ?y2⟩) (by assumption) ?z2
  case y2 => intro wq hSw; (try dsimp only at hSw); go_simp; try with_reducible rfl
  try simp only [Act.put, List.setIfInBounds_toArray, List.set_cons_zero, List.set_cons_succ]
  refine takeS (i := 3) (v := ?v3) (at_succ (at_succ (at_succ (at_zero)))) (by kernel_rfl) (by kernel_rfl) (by kernel_rfl) (by kernel_rfl) (fun _ _ _ h => h) (Or.inl ⟨by rfl, ?y3⟩) (by assumption) ?z3
  case y3 => intro wq hSw; (try dsimp only at hSw); go_simp; try with_reducible rfl
  try simp only [Act.put, List.setIfInBounds_toArray, List.set_cons_zero, List.set_cons_succ]
  refine takeS (i := 4) (v := ?v4) (at_succ (at_succ (at_succ (at_succ (at_zero))))) (by kernel_rfl) (by kernel_rfl) (by kernel_rfl) (by kernel_rfl) (fun _ _ _ h => h) (Or.inl ⟨by rfl, ?y4⟩) (by assumption) ?z4
  case y4 => intro wq hSw; (try dsimp only at hSw); go_simp; try with_reducible rfl
  try simp only [Act.put, List.setIfInBounds_toArray, List.set_cons_zero, List.set_cons_succ]
  refine takeS (i := 5) (v := ?v5) (at_succ (at_succ (at_succ (at_succ (at_succ (at_zero)))))) (by kernel_rfl) (by kernel_rfl) (by kernel_rfl) (by kernel_rfl) (fun _ _ _ h => h) (Or.inl ⟨by rfl, ?y5⟩) (by assumption) ?z5
  case y5 => intro wq hSw; (try dsimp only at hSw); go_simp; try with_reducible rfl
  try simp only [Act.put, List.setIfInBounds_toArray, List.set_cons_zero, List.set_cons_succ]
  refine takeS (i := 6) (v := ?v6) (at_succ (at_succ (at_succ (at_succ (at_succ (at_succ (at_zero))))))) (by kernel_rfl) (by kernel_rfl) (by kernel_rfl) (by kernel_rfl) (fun _ _ _ h => h) (Or.inl ⟨by rfl, ?y6⟩) (by assumption) ?z6
  case y6 => intro wq hSw; (try dsimp only at hSw); go_simp; try with_reducible rfl
  try simp only [Act.put, List.setIfInBounds_toArray, List.set_cons_zero, List.set_cons_succ]
  refine takeS (i := 7) (v := ?v7) (at_succ (at_succ (at_succ (at_succ (at_succ (at_succ (at_succ (at_zero)))))))) (by kernel_rfl) (by kernel_rfl) (by kernel_rfl) (by kernel_rfl) (fun _ _ _ h => h) (Or.inl ⟨by rfl, ?y7⟩) (by assumption) ?z7
  case y7 => intro wq hSw; (try dsimp only at hSw); go_simp; try with_reducible rfl
  try simp only [Act.put, List.setIfInBounds_toArray, List.set_cons_zero, List.set_cons_succ]
  refine takeS (i := 8) (v := ?v8) (at_succ (at_succ (at_succ (at_succ (at_succ (at_succ (at_succ (at_succ (at_zero))))))))) (by kernel_rfl) (by kernel_rfl) (by kernel_rfl) (by kernel_rfl) (fun _ _ _ h => h) (Or.inl ⟨by rfl, ?y8⟩) (by assumption) ?z8
  case y8 => intro wq hSw; (try dsimp only at hSw); go_simp; try with_reducible rfl
  try simp only [Act.put, List.setIfInBounds_toArray, List.set_cons_zero, List.set_cons_succ]
  refine takeS (i := 9) (v := ?v9) (at_succ (at_succ (at_succ (at_succ (at_succ (at_succ (at_succ (at_succ (at_succ (at_zero)))))))))) (by kernel_rfl) (by kernel_rfl) (by kernel_rfl) (by kernel_rfl) (fun _ _ _ h => h) (Or.inl ⟨by rfl, ?y9⟩) (by assumption) ?z9
  case y9 => intro wq hSw; (try dsimp only at hSw); go_simp; try with_reducible rfl
  try simp only [Act.put, List.setIfInBounds_toArray, List.set_cons_zero, List.set_cons_succ]
  refine takeS (i := 10) (v := ?v10) (at_succ (at_succ (at_succ (at_succ (at_succ (at_succ (at_succ (at_succ (at_succ (at_succ (at_zero))))))))))) (by kernel_rfl) (by kernel_rfl) (by kernel_rfl) (by kernel_rfl) (fun _ _ _ h => h) (Or.inl ⟨by rfl, ?y10⟩) (by assumption) ?z10
  case y10 => intro wq hSw; (try dsimp only at hSw); go_simp; try with_reducible rfl
  try simp only [Act.put, List.setIfInBounds_toArray, List.set_cons_zero, List.set_cons_succ]
  refine takeS (i := 12) (v := ?v12) (at_succ (at_succ (at_succ (at_succ (at_succ (at_succ (at_succ (at_succ (at_succ (at_succ (at_succ (at_succ (at_zero))))))))))))) (by kernel_rfl) (by kernel_rfl) (by kernel_rfl) (by kernel_rfl) (fun _ _ _ h => h) (Or.inl ⟨by rfl, ?y12⟩) (by assumption) ?z12
  case y12 => intro wq hSw; (try dsimp only at hSw); go_simp; try with_reducible rfl
  try simp only [Act.put, List.setIfInBounds_toArray, List.set_cons_zero, List.set_cons_succ]
  refine takeS (i := 13) (v := ?v13) (at_succ (at_succ (at_succ (at_succ (at_succ (at_succ (at_succ (at_succ (at_succ (at_succ (at_succ (at_succ (at_succ (at_zero)))))))))))))) (by kernel_rfl) (by kernel_rfl) (by kernel_rfl) (by kernel_rfl) (fun _ _ _ h => h) (Or.inl ⟨by rfl, ?y13⟩) (by assumption) ?z13
  case y13 => intro wq hSw; (try dsimp only at hSw); go_simp; try with_reducible rfl
  try simp only [Act.put, List.setIfInBounds_toArray, List.set_cons_zero, List.set_cons_succ]
  refine takeS (i := 14) (v := ?v14) (at_succ (at_succ (at_succ (at_succ (at_succ (at_succ (at_succ (at_succ (at_succ (at_succ (at_succ (at_succ (at_succ (at_succ (at_zero))))))))))))))) (by kernel_rfl) (by kernel_rfl) (by kernel_rfl) (by kernel_rfl) (fun _ _ _ h => h) (Or.inl ⟨by rfl, ?y14⟩) (by assumption) ?z14
  case y14 => intro wq hSw; (try dsimp only at hSw); go_simp; try with_reducible rfl
  try simp only [Act.put, List.setIfInBounds_toArray, List.set_cons_zero, List.set_cons_succ]
  refine takeS (i := 15) (v := ?v15) (at_succ (at_succ (at_succ (at_succ (at_succ (at_succ (at_succ (at_succ (at_succ (at_succ (at_succ (at_succ (at_succ (at_succ (at_succ (at_zero)))))))))))))))) (by kernel_rfl) (by kernel_rfl) (by kernel_rfl) (by kernel_rfl) (fun _ _ _ h => h) (Or.inl ⟨by rfl, ?y15⟩) (by assumption) ?z15
  case y15 => intro wq hSw; (try dsimp only at hSw); go_simp; try with_reducible rfl
  try simp only [Act.put, List.setIfInBounds_toArray, List.set_cons_zero, List.set_cons_succ]
  refine stepS (i := 11) (by kernel_rfl) (at_succ (at_succ (at_succ (at_succ (at_succ (at_succ (at_succ (at_succ (at_succ (at_succ (at_succ (at_zero)))))))))))) (fun K hK => ?_)
  go_simp
  refine (HD.out _).mono ?_
  rintro e4 w4 ⟨rfl, hb4⟩
  have hb4' : Hid (Below w1.heap.size w1 w4) := (((Below.refl w1.heap.size w1).drew).trans hb4)
  clear hb4 hS
  refine hK.out _ _ (HKP.out w4 hb4'.out) (fun hS => ?_)
  clear hK K
  try simp only [Act.put, List.setIfInBounds_toArray, List.set_cons_zero, List.set_cons_succ]
  refine takeS (i := 16) (v := ?v16) (at_succ (at_succ (at_succ (at_succ (at_succ (at_succ (at_succ (at_succ (at_succ (at_succ (at_succ (at_succ (at_succ (at_succ (at_succ (at_succ (at_zero))))))))))))))))) (by kernel_rfl) (by kernel_rfl) (by kernel_rfl) (by kernel_rfl) (fun _ _ _ h => h) (Or.inl ⟨by rfl, ?y16⟩) (by assumption) ?z16
  case y16 => intro wq hSw; (try dsimp only at hSw); go_simp; try with_reducible rfl
  try simp only [Act.put, List.setIfInBounds_toArray, List.set_cons_zero, List.set_cons_succ]
  refine stepS (i := 17) (by kernel_rfl) (at_succ (at_succ (at_succ (at_succ (at_succ (at_succ (at_succ (at_succ (at_succ (at_succ (at_succ (at_succ (at_succ (at_succ (at_succ (at_succ (at_succ (at_zero)))))))))))))))))) (fun K hK => ?_)
  go_simp
  clear hS
  refine hK.out _ _ (HKP.out _ (hb4'.out.alloc hb4'.out.size _)) (fun hS => ?_)
  clear hK K
  try simp only [Act.put, List.setIfInBounds_toArray, List.set_cons_zero, List.set_cons_succ]
  refine stepS (i := 18) (by kernel_rfl) (at_succ (at_succ (at_succ (at_succ (at_succ (at_succ (at_succ (at_succ (at_succ (at_succ (at_succ (at_succ (at_succ (at_succ (at_succ (at_succ (at_succ (at_succ (at_zero))))))))))))))))))) (fun K hK => ?_)
  refine step_append_src (by rfl) (.tmp 31) (.tmp 44) _ (by rfl) B 89 _ 6 56 Tryz.underlying82 info_sy (by rfl) (by decide) v acc.length (acc.flatMap syC) (by rfl) (HOW.out w4 hb4'.out) (Lt _) (some ⟨w4.heap.size, 0, none⟩) 1 1 (syC ⟨2, m, nm, par, t, false⟩) (by rfl) (HLI.out w4) rfl HON.out (by unfold maxLen; omega) (by omega) (by have := hb4'.out.size; simp; omega) ?_
  intro v3 w3 hown3 hg3 hat3
  have hf3 := Lib.hid (HFN.out w4 hb4'.out v3 w3 hown3 hg3 hat3)
  obtain ⟨Av, cv, rfl⟩ := own_slice hown3
  have hz3 := hf3.out.2.1
  clear hS hown3 hg3 hat3
  refine hK.out _ _ hf3.out.1 (fun hS => ?_)
  clear hK K
  try simp only [Act.put, List.setIfInBounds_toArray, List.set_cons_zero, List.set_cons_succ]
  refine tailZ (i := 19) (by kernel_rfl) (at_succ (at_succ (at_succ (at_succ (at_succ (at_succ (at_succ (at_succ (at_succ (at_succ (at_succ (at_succ (at_succ (at_succ (at_succ (at_succ (at_succ (at_succ (at_succ (at_zero)))))))))))))))))))) (by kernel_rfl) (fun K hK => ?_)
  go_simp
  refine hK.out _ _ ?_
  clear hK K
  try simp only [Act.put, List.setIfInBounds_toArray, List.set_cons_zero, List.set_cons_succ]
  refine tailZ (i := 20) (by kernel_rfl) (at_succ (at_succ (at_succ (at_succ (at_succ (at_succ (at_succ (at_succ (at_succ (at_succ (at_succ (at_succ (at_succ (at_succ (at_succ (at_succ (at_succ (at_succ (at_succ (at_succ (at_zero))))))))))))))))))))) (by kernel_rfl) (fun K hK => ?_)
  go_simp
  refine hK.out _ _ ?_
  clear hK K
  try simp only [Act.put, List.setIfInBounds_toArray, List.set_cons_zero, List.set_cons_succ]
  refine tailZ (i := 21) (by kernel_rfl) (at_succ (at_succ (at_succ (at_succ (at_succ (at_succ (at_succ (at_succ (at_succ (at_succ (at_succ (at_succ (at_succ (at_succ (at_succ (at_succ (at_succ (at_succ (at_succ (at_succ (at_succ (at_zero)))))))))))))))))))))) (by kernel_rfl) (fun K hK => ?_)
  go_simp
  refine hK.out _ _ ?_
  clear hK K
  try simp only [Act.put, List.setIfInBounds_toArray, List.set_cons_zero, List.set_cons_succ]
  refine doneS (by kernel_rfl) ?_ _
  have hf4 := hf3.out.2.2
  have hIS : ∀ w', Calls Tryz.prog 179 #[.int .i64 2] w' fun e w2 => e = .returned (.bool true) ∧ w2 = w' := fun w' => isc_any 2 w'
  have HIS := Lib.hid hIS
  clear hf3 hz3 hS hIS b0 b1 b2 b3 b4 b5 b6 k0 k1 HKP HFN HOW HLI HON hb4' hcl hxl hs1
  generalize w3.setCell ⟨cb, 1, none⟩ (.slice Av (acc.length + 1) cv) = W5 at *
  obtain ⟨q1, q2, q3, q4⟩ := hf4
  have b0 := cell_of q3 0 _ rfl
  have b6 := cell_of q3 6 _ rfl
  have hxl := lt_of_heap q3
  have hcl : cb < W5.heap.size := by obtain ⟨v9, e9, _⟩ := q1; exact lt_of_heap e9
  obtain ⟨acc1, hacc1⟩ : ∃ a, acc ++ [(⟨2, m, nm, par, t, false⟩ : Sym)] = a := ⟨_, rfl⟩
  obtain ⟨par1, hpar1⟩ : ∃ q : Int, (acc.length : Int) = q := ⟨_, rfl⟩
  have HLN1 : Hid (acc1.length + szs ch ≤ 1000000) := by have := HLN.out; show _ ≤ _; rw [← hacc1, List.length_append, List.length_singleton]; omega
  have HE1 := Lib.hid (show syN m (.mk ⟨3, 0, t, s, e, nm⟩ ch) par acc = syNs m ch par1 acc1 by rw [HE0.out, hpar1, hacc1])
  have HCL := Lib.hid (show ColV W5 B cb m acc1 by rw [← hacc1]; exact q1)
  have HBL := Lib.hid q2
  clear q1 q2 q3 hacc1 HE0
  go_wp2_with fail
  refine (HIS.out _).mono ?_
  rintro e9 w9 ⟨rfl, rfl⟩
  clear HIS
  go_wp2_with fail
  clear hpar1 b0 b6 q4 hcl hxl HD HB1 hB1 hlb
  have hq0 : syNs m (ch.take 0) par1 acc1 = acc1 := by rw [List.take_zero, syNs]
  go_loopw [75] (fun i wr => ∃ j : Nat, i = .int .i64 (j : Int) ∧ j ≤ L ∧ ColV wr B cb m (syNs m (ch.take j) par1 acc1) ∧ Below B w wr) (fun i _ => L - (intOf i).toNat)
  case atStart => exact ⟨0, rfl, Nat.zero_le _, by rw [hq0]; exact HCL.out, HBL.out⟩
  case round =>
    clear hq0
    obtain ⟨j, rfl, hj, hcj, hbj⟩ := hrel
    by_cases hlt : j < L
    · have hjI : (j : Int) < L := by omega
      have hjl : j < ch.length := by rw [HL.out]; exact hlt
      obtain ⟨tb, off, xs, rfl, htb, hx, hxc⟩ := HK.out.get j ch[j] (List.getElem?_eq_getElem hjl)
      have htk : syNs m (ch.take (j + 1)) par1 acc1 = syN m ch[j] par1 (syNs m (ch.take j) par1 acc1) := by
        rw [List.take_succ_eq_append_getElem hjl, syNs_append, syNs, syNs]
      have hsg := szs_get ch j hjl
      have hxo := okSs_get ch j ch[j] HOC.out (List.getElem?_eq_getElem hjl)
      have hln := syNs_len m (ch.take j) par1 acc1
      generalize ch[j] = x at *
      obtain ⟨A2, c2, rfl, _⟩ := NodeV.vals hx
      have hbs := hbj.size
      have hc : ∀ t u, (x.h.vals (.slice A2 x.ch.length c2))[t]? = some u → wr.cell? ⟨tb, off + j * 7 + t, none⟩ = some u := fun t u hu => (hbj.cell (p := ⟨tb, _, none⟩) htb).trans (hxc t u hu)
      have hbl : Below wr.heap.size wr (wr.alloc (.cells (x.h.vals (.slice A2 x.ch.length c2)).toArray 57)) := (Below.refl _ _).alloc (Nat.le_refl _) _
      have hBr : B ≤ wr.heap.size := Nat.le_trans HBs.out hbs
      have hbj2 := hbj.trans (hbl.mono hBr)
      have hcall := HI.out x (by have := HN.out; omega) hxo par1 _ _ _ (hcj.below hbl) (Nat.le_trans hBr hbl.size) (NodeV.keep (fun _ h => h) (fun b hb' => hbj2.block b hb') _ _ hx) (by have := HLN1.out; omega)
      obtain ⟨m2, hm2⟩ : ∃ m2, x.ch.length = m2 := ⟨_, rfl⟩
      obtain ⟨hd2, hhd2⟩ : ∃ hd2, x.h = hd2 := ⟨_, rfl⟩
      rw [hhd2, hm2] at hc hcall hbj2
      have d0 := hc 0 _ rfl
      have d1 := hc 1 _ rfl
      have d2 := hc 2 _ rfl
      have d3 := hc 3 _ rfl
      have d4 := hc 4 _ rfl
      have d5 := hc 5 _ rfl
      have d6 := hc 6 _ rfl
      rw [Nat.add_zero] at d0
      have htl : tb < wr.heap.size := Nat.lt_of_lt_of_le htb hBr
      simp only [Hd.vals] at hcall hbj2
      have HC := Lib.hid hcall
      have HBJ := Lib.hid hbj2
      have HTK := Lib.hid htk
      clear hc hx hxc hbl hm2 hhd2 htk hcall hbj2 hcj hbj hln hsg hxo
      go_wp2_with fail
      refine HC.out.mono ?_
      rintro e w3 ⟨rfl, hc3, hb3⟩
      have H3 := Lib.hid hc3
      have HB3 := Lib.hid (HBJ.out.trans hb3)
      clear hc3 hb3 HC
      go_wp2_with fail
      go_roundw
      case rel => exact ⟨j + 1, by go_num, by omega, by rw [HTK.out]; exact H3.out, HB3.out⟩
      case measure => simp [intOf]; omega
    · have hjI : ¬ (j : Int) < L := by omega
      have htk : ch.take j = ch := List.take_of_length_le (by rw [HL.out]; omega)
      rw [htk] at hcj
      have HCJ := Lib.hid hcj
      have HBJ := Lib.hid hbj
      clear hcj hbj htk
      go_wp2_with fail
      go_end0
      exact ⟨rfl, by rw [HE1.out]; exact HCJ.out, HBJ.out⟩

set_option maxRecDepth 100000 in
set_option maxHeartbeats 6400000 in
theorem visit_12 (B cb : Nat) (m : Int) (hB : B ≤ cb) (n : Nat) (ih : VisOk B cb m n) (x : Node) (hxn : x.sz < n + 1) (hok : okS x = true) (hkx : x.h.k = 12) (par : Int) (acc : List Sym) (w : World) (us : List Value) (hcol : ColV w B cb m acc) (hBw : B ≤ w.heap.size) (hus : NodeV w (fun b => b < B) x us) (hlen : acc.length + x.sz ≤ 1000000) :
    Calls Tryz.prog 178 #[.pointer (some ⟨cb, 0, none⟩), .agg us.toArray, .int .i64 par, .bool false] w fun e w' => e = .returned (.tuple #[]) ∧ ColV w' B cb m (syN m x par acc) ∧ Below B w w' := by
  obtain ⟨A, c, rfl, hk⟩ := hus.kids
  obtain ⟨hd, ch⟩ := x
  simp only [Node.h, Node.ch] at hk hkx ⊢
  obtain ⟨L, hL⟩ : ∃ L, ch.length = L := ⟨_, rfl⟩
  obtain ⟨hoc, hcase⟩ := okS_cases hd ch hok
  have hLz := len_szs ch
  unfold Node.sz at hxn hlen
  have HK := Lib.hid hk
  have HL := Lib.hid hL
  have HI := Lib.hid ih
  have HN := Lib.hid hxn
  have HOC := Lib.hid hoc
  have HLN := Lib.hid hlen
  have hLb : L ≤ 1000000 := by omega
  have HE := Lib.hid (show syN m (.mk hd ch) par acc = if hd.k = 3 then syNs m ch (acc.length : Int) (acc ++ [⟨2, m, hd.nm, par, hd.t, false⟩]) else syNs m ch par acc by rw [syN])
  rw [hL]
  obtain ⟨k, va, t, s, e, nm⟩ := hd
  simp only at HE hcase hkx
  have HSK := Lib.hid (fun (w' : World) => smk_none ⟨k, va, t, s, e, nm⟩ A L c false w')
  have HSF := Lib.hid (fun (w' : World) => smk_fn ⟨k, va, t, s, e, nm⟩ A L c false w')
  have HSS := Lib.hid (fun (w' : World) => smk_seg ⟨k, va, t, s, e, nm⟩ A L c false w')
  have HDS := Lib.hid (fun (w' : World) => dst_any ⟨k, va, t, s, e, nm⟩ A L c w')
  simp only [Hd.vals] at HSK HSF HSS HDS ⊢
  show Calls _ _ #[_, .agg #[.int .i64 k, .int .i64 va, .string t, .int .i64 s, .int .i64 e, .int .i64 nm, .slice A L c], _, _] _ _
  have HBs := Lib.hid hBw
  rcases hcase with ⟨h3, _⟩ | h0
  case inl => omega
  have HKX := Lib.hid hkx
  clear hkx
  have hk3 : ¬ k = 3 := by rcases h0 with h | h; (omega); exact h.1
  have hk9 : ¬ k = 9 := by rcases h0 with h | h; (omega); exact h.2.2.1
  have hk38 : ¬ k = 38 := by rcases h0 with h | h; (omega); exact h.2.2.2.1
  have HF := Lib.hid (fun W => show Calls Tryz.prog 231 #[.agg #[.int .i64 k, .int .i64 va, .string t, .int .i64 s, .int .i64 e, .int .i64 nm, .slice A L c], .bool false] W fun e w' => e = .returned (.int .i64 0) ∧ Below W.heap.size W w' from by
    rcases h0 with h | h
    · exact HSS.out W h.1 (by simp; omega)
    · exact HSK.out W (by simpa using h.2.1) (by simpa using h.2.2.2.2))
  obtain ⟨W, hW⟩ : ∃ W, w.alloc (.cells #[.int .i64 k, .int .i64 va, .string t, .int .i64 s, .int .i64 e, .int .i64 nm, .slice A L c] 57) = W := ⟨_, rfl⟩
  have hbx : W.heap[w.heap.size]? = some (.cells #[.int .i64 k, .int .i64 va, .string t, .int .i64 s, .int .i64 e, .int .i64 nm, .slice A L c] 57 (0, 0)) := by rw [← hW]; exact heap_alloc_new w _
  have hbw : Below w.heap.size w W := by rw [← hW]; exact (Below.refl _ _).alloc (Nat.le_refl _) _
  have hcW := hcol.below hbw
  have hWs : w.heap.size < W.heap.size := lt_of_heap hbx
  have HE1 := Lib.hid (show syN m (.mk ⟨k, va, t, s, e, nm⟩ ch) par acc = syNs m ch par acc by rw [HE.out, if_neg hk3])
  have HLN1 : Hid (acc.length + szs ch ≤ 1000000) := by have := HLN.out; show _ ≤ _; omega
  have HCW := Lib.hid hcW
  have HBX := Lib.hid hbx
  have HBW := Lib.hid hbw
  have y0 := cell_of hbx 0 _ rfl
  have y1 := cell_of hbx 1 _ rfl
  have y2 := cell_of hbx 2 _ rfl
  have y3 := cell_of hbx 3 _ rfl
  have y4 := cell_of hbx 4 _ rfl
  have y5 := cell_of hbx 5 _ rfl
  have y6 := cell_of hbx 6 _ rfl
  clear hcol hk hL hxn ih hus hLz hoc hok hlen HE HSF HSK HSS HDS hcW hbx hbw h0
  go_enter Tryz.func178, Tryz.ntmps178
  go_wp2_with fail
  refine (HF.out _).mono ?_
  rintro e1 w1 ⟨rfl, hb1⟩
  have x1 : w1.heap[w.heap.size]? = some (.cells #[.int .i64 k, .int .i64 va, .string t, .int .i64 s, .int .i64 e, .int .i64 nm, .slice A L c] 57 (0, 0)) := (hb1.block _ hWs).trans HBX.out
  have b0 := cell_of x1 0 _ rfl
  have b6 := cell_of x1 6 _ rfl
  have hxl := lt_of_heap x1
  have HBL := Lib.hid ((HBW.out.mono hBw).trans (hb1.mono (Nat.le_trans hBw (Nat.le_of_lt hWs))))
  have HCL := Lib.hid (HCW.out.below hb1)
  clear HF HCW HBX HBW hb1 x1 y0 y1 y2 y3 y4 y5 y6 hW hWs
  obtain ⟨acc1, hacc1⟩ : ∃ a, acc = a := ⟨_, rfl⟩
  obtain ⟨par1, hpar1⟩ : ∃ q : Int, par = q := ⟨_, rfl⟩
  subst hacc1 hpar1
  have h12 := HKX.out
  clear HKX
  subst h12
  go_wp2_with fail
  clear b0 b6 hxl hk3 hk9 hk38
  have hq0 : syNs m (ch.take 0) par acc = acc := by rw [List.take_zero, syNs]
  go_loopw [75] (fun i wr => ∃ j : Nat, i = .int .i64 (j : Int) ∧ j ≤ L ∧ ColV wr B cb m (syNs m (ch.take j) par acc) ∧ Below B w wr) (fun i _ => L - (intOf i).toNat)
  case atStart => exact ⟨0, rfl, Nat.zero_le _, by rw [hq0]; exact HCL.out, HBL.out⟩
  case round =>
    clear hq0
    obtain ⟨j, rfl, hj, hcj, hbj⟩ := hrel
    by_cases hlt : j < L
    · have hjI : (j : Int) < L := by omega
      have hjl : j < ch.length := by rw [HL.out]; exact hlt
      obtain ⟨tb, off, xs, rfl, htb, hx, hxc⟩ := HK.out.get j ch[j] (List.getElem?_eq_getElem hjl)
      have htk : syNs m (ch.take (j + 1)) par acc = syN m ch[j] par (syNs m (ch.take j) par acc) := by
        rw [List.take_succ_eq_append_getElem hjl, syNs_append, syNs, syNs]
      have hsg := szs_get ch j hjl
      have hxo := okSs_get ch j ch[j] HOC.out (List.getElem?_eq_getElem hjl)
      have hln := syNs_len m (ch.take j) par acc
      generalize ch[j] = x at *
      obtain ⟨A2, c2, rfl, _⟩ := NodeV.vals hx
      have hbs := hbj.size
      have hc : ∀ t u, (x.h.vals (.slice A2 x.ch.length c2))[t]? = some u → wr.cell? ⟨tb, off + j * 7 + t, none⟩ = some u := fun t u hu => (hbj.cell (p := ⟨tb, _, none⟩) htb).trans (hxc t u hu)
      have hbl : Below wr.heap.size wr (wr.alloc (.cells (x.h.vals (.slice A2 x.ch.length c2)).toArray 57)) := (Below.refl _ _).alloc (Nat.le_refl _) _
      have hBr : B ≤ wr.heap.size := Nat.le_trans HBs.out hbs
      have hbj2 := hbj.trans (hbl.mono hBr)
      have hcall := HI.out x (by have := HN.out; omega) hxo par _ _ _ (hcj.below hbl) (Nat.le_trans hBr hbl.size) (NodeV.keep (fun _ h => h) (fun b hb' => hbj2.block b hb') _ _ hx) (by have := HLN1.out; omega)
      obtain ⟨m2, hm2⟩ : ∃ m2, x.ch.length = m2 := ⟨_, rfl⟩
      obtain ⟨hd2, hhd2⟩ : ∃ hd2, x.h = hd2 := ⟨_, rfl⟩
      rw [hhd2, hm2] at hc hcall hbj2
      have d0 := hc 0 _ rfl
      have d1 := hc 1 _ rfl
      have d2 := hc 2 _ rfl
      have d3 := hc 3 _ rfl
      have d4 := hc 4 _ rfl
      have d5 := hc 5 _ rfl
      have d6 := hc 6 _ rfl
      rw [Nat.add_zero] at d0
      have htl : tb < wr.heap.size := Nat.lt_of_lt_of_le htb hBr
      simp only [Hd.vals] at hcall hbj2
      have HC := Lib.hid hcall
      have HBJ := Lib.hid hbj2
      have HTK := Lib.hid htk
      clear hc hx hxc hbl hm2 hhd2 htk hcall hbj2 hcj hbj hln hsg hxo
      go_wp2_with fail
      refine HC.out.mono ?_
      rintro e w3 ⟨rfl, hc3, hb3⟩
      have H3 := Lib.hid hc3
      have HB3 := Lib.hid (HBJ.out.trans hb3)
      clear hc3 hb3 HC
      go_wp2_with fail
      go_roundw
      case rel => exact ⟨j + 1, by go_num, by omega, by rw [HTK.out]; exact H3.out, HB3.out⟩
      case measure => simp [intOf]; omega
    · have hjI : ¬ (j : Int) < L := by omega
      have htk : ch.take j = ch := List.take_of_length_le (by rw [HL.out]; omega)
      rw [htk] at hcj
      have HCJ := Lib.hid hcj
      have HBJ := Lib.hid hbj
      clear hcj hbj htk
      go_wp2_with fail
      go_end0
      exact ⟨rfl, by rw [HE1.out]; exact HCJ.out, HBJ.out⟩
end Go.Proofs.YtpibenilagloaaaGreatDoor
