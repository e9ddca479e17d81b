import Derived.Test.YtpibenilagloaaaGreatDoorMzah
namespace Go.Proofs.YtpibenilagloaaaGreatDoor
open Go.RowKit
set_option linter.unusedVariables false
set_option maxRecDepth 100000 in
set_option maxHeartbeats 6400000 in
theorem visit_oth (B cb : Nat) (m : Int) (hB : B ≤ cb) (n : Nat) (ih : VisOk B cb m n) (x : Node) (hxn : x.sz < n + 1) (hok : okS x = true) (hkx : x.h.k ≠ 3 ∧ x.h.k ≠ 12) (par : Int) (acc : List Sym) (w : World) (us : List Value) (hcol : ColV w B cb m acc) (hBw : B ≤ w.heap.size) (hus : NodeV w (fun b => b < B) x us) (hlen : acc.length + x.sz ≤ 1000000) :
    Calls Tryz.prog 178 #[.pointer (some ⟨cb, 0, none⟩), .agg us.toArray, .int .i64 par, .bool false] w fun e w' => e = .returned (.tuple #[]) ∧ ColV w' B cb m (syN m x par acc) ∧ Below B w w' := by
  obtain ⟨A, c, rfl, hk⟩ := hus.kids
  obtain ⟨hd, ch⟩ := x
  simp only [Node.h, Node.ch] at hk hkx ⊢
  obtain ⟨L, hL⟩ : ∃ L, ch.length = L := ⟨_, rfl⟩
  obtain ⟨hoc, hcase⟩ := okS_cases hd ch hok
  have hLz := len_szs ch
  unfold Node.sz at hxn hlen
  have HK := Lib.hid hk
  have HL := Lib.hid hL
  have HI := Lib.hid ih
  have HN := Lib.hid hxn
  have HOC := Lib.hid hoc
  have HLN := Lib.hid hlen
  have hLb : L ≤ 1000000 := by omega
  have HE := Lib.hid (show syN m (.mk hd ch) par acc = if hd.k = 3 then syNs m ch (acc.length : Int) (acc ++ [⟨2, m, hd.nm, par, hd.t, false⟩]) else syNs m ch par acc by rw [syN])
  rw [hL]
  obtain ⟨k, va, t, s, e, nm⟩ := hd
  simp only at HE hcase hkx
  have HSK := Lib.hid (fun (w' : World) => smk_none ⟨k, va, t, s, e, nm⟩ A L c false w')
  have HSF := Lib.hid (fun (w' : World) => smk_fn ⟨k, va, t, s, e, nm⟩ A L c false w')
  have HSS := Lib.hid (fun (w' : World) => smk_seg ⟨k, va, t, s, e, nm⟩ A L c false w')
  have HDS := Lib.hid (fun (w' : World) => dst_any ⟨k, va, t, s, e, nm⟩ A L c w')
  simp only [Hd.vals] at HSK HSF HSS HDS ⊢
  show Calls _ _ #[_, .agg #[.int .i64 k, .int .i64 va, .string t, .int .i64 s, .int .i64 e, .int .i64 nm, .slice A L c], _, _] _ _
  have HBs := Lib.hid hBw
  obtain ⟨g3, h12⟩ := hkx
  rcases hcase with ⟨h3, _⟩ | h0
  case inl => exact absurd h3 g3
  have hk3 : ¬ k = 3 := by rcases h0 with h | h; (omega); exact h.1
  have hk9 : ¬ k = 9 := by rcases h0 with h | h; (omega); exact h.2.2.1
  have hk38 : ¬ k = 38 := by rcases h0 with h | h; (omega); exact h.2.2.2.1
  have kb9 : (k == 9) = false := by simpa using hk9
  have kb38 : (k == 38) = false := by simpa using hk38
  have kb12 : (k == 12) = false := by simpa using h12
  have HF := Lib.hid (fun W => show Calls Tryz.prog 231 #[.agg #[.int .i64 k, .int .i64 va, .string t, .int .i64 s, .int .i64 e, .int .i64 nm, .slice A L c], .bool false] W fun e w' => e = .returned (.int .i64 0) ∧ Below W.heap.size W w' from by
    rcases h0 with h | h
    · exact HSS.out W h.1 (by simp; omega)
    · exact HSK.out W (by simpa using h.2.1) (by simpa using h.2.2.2.2))
  obtain ⟨W, hW⟩ : ∃ W, w.alloc (.cells #[.int .i64 k, .int .i64 va, .string t, .int .i64 s, .int .i64 e, .int .i64 nm, .slice A L c] 57) = W := ⟨_, rfl⟩
  have hbx : W.heap[w.heap.size]? = some (.cells #[.int .i64 k, .int .i64 va, .string t, .int .i64 s, .int .i64 e, .int .i64 nm, .slice A L c] 57 (0, 0)) := by rw [← hW]; exact heap_alloc_new w _
  have hbw : Below w.heap.size w W := by rw [← hW]; exact (Below.refl _ _).alloc (Nat.le_refl _) _
  have hcW := hcol.below hbw
  have hWs : w.heap.size < W.heap.size := lt_of_heap hbx
  have HE1 := Lib.hid (show syN m (.mk ⟨k, va, t, s, e, nm⟩ ch) par acc = syNs m ch par acc by rw [HE.out, if_neg hk3])
  have HLN1 : Hid (acc.length + szs ch ≤ 1000000) := by have := HLN.out; show _ ≤ _; omega
  have HCW := Lib.hid hcW
  have HBX := Lib.hid hbx
  have HBW := Lib.hid hbw
  have y0 := cell_of hbx 0 _ rfl
  have y1 := cell_of hbx 1 _ rfl
  have y2 := cell_of hbx 2 _ rfl
  have y3 := cell_of hbx 3 _ rfl
  have y4 := cell_of hbx 4 _ rfl
  have y5 := cell_of hbx 5 _ rfl
  have y6 := cell_of hbx 6 _ rfl
  clear hcol hk hL hxn ih hus hLz hoc hok hlen HE HSF HSK HSS HDS hcW hbx hbw h0
  go_enter Tryz.func178, Tryz.ntmps178
  go_wp2_with fail
  refine (HF.out _).mono ?_
  rintro e1 w1 ⟨rfl, hb1⟩
  have x1 : w1.heap[w.heap.size]? = some (.cells #[.int .i64 k, .int .i64 va, .string t, .int .i64 s, .int .i64 e, .int .i64 nm, .slice A L c] 57 (0, 0)) := (hb1.block _ hWs).trans HBX.out
  have b0 := cell_of x1 0 _ rfl
  have b6 := cell_of x1 6 _ rfl
  have hxl := lt_of_heap x1
  have HBL := Lib.hid ((HBW.out.mono hBw).trans (hb1.mono (Nat.le_trans hBw (Nat.le_of_lt hWs))))
  have HCL := Lib.hid (HCW.out.below hb1)
  clear HF HCW HBX HBW hb1 x1 y0 y1 y2 y3 y4 y5 y6 hW hWs
  obtain ⟨acc1, hacc1⟩ : ∃ a, acc = a := ⟨_, rfl⟩
  obtain ⟨par1, hpar1⟩ : ∃ q : Int, par = q := ⟨_, rfl⟩
  subst hacc1 hpar1
  go_wp2_with fail
  clear b0 b6 hxl hk3 hk9 hk38 h12 kb9 kb38 kb12
  have hq0 : syNs m (ch.take 0) par acc = acc := by rw [List.take_zero, syNs]
  go_loopw [75] (fun i wr => ∃ j : Nat, i = .int .i64 (j : Int) ∧ j ≤ L ∧ ColV wr B cb m (syNs m (ch.take j) par acc) ∧ Below B w wr) (fun i _ => L - (intOf i).toNat)
  case atStart => exact ⟨0, rfl, Nat.zero_le _, by rw [hq0]; exact HCL.out, HBL.out⟩
  case round =>
    clear hq0
    obtain ⟨j, rfl, hj, hcj, hbj⟩ := hrel
    by_cases hlt : j < L
    · have hjI : (j : Int) < L := by omega
      have hjl : j < ch.length := by rw [HL.out]; exact hlt
      obtain ⟨tb, off, xs, rfl, htb, hx, hxc⟩ := HK.out.get j ch[j] (List.getElem?_eq_getElem hjl)
      have htk : syNs m (ch.take (j + 1)) par acc = syN m ch[j] par (syNs m (ch.take j) par acc) := by
        rw [List.take_succ_eq_append_getElem hjl, syNs_append, syNs, syNs]
      have hsg := szs_get ch j hjl
      have hxo := okSs_get ch j ch[j] HOC.out (List.getElem?_eq_getElem hjl)
      have hln := syNs_len m (ch.take j) par acc
      generalize ch[j] = x at *
      obtain ⟨A2, c2, rfl, _⟩ := NodeV.vals hx
      have hbs := hbj.size
      have hc : ∀ t u, (x.h.vals (.slice A2 x.ch.length c2))[t]? = some u → wr.cell? ⟨tb, off + j * 7 + t, none⟩ = some u := fun t u hu => (hbj.cell (p := ⟨tb, _, none⟩) htb).trans (hxc t u hu)
      have hbl : Below wr.heap.size wr (wr.alloc (.cells (x.h.vals (.slice A2 x.ch.length c2)).toArray 57)) := (Below.refl _ _).alloc (Nat.le_refl _) _
      have hBr : B ≤ wr.heap.size := Nat.le_trans HBs.out hbs
      have hbj2 := hbj.trans (hbl.mono hBr)
      have hcall := HI.out x (by have := HN.out; omega) hxo par _ _ _ (hcj.below hbl) (Nat.le_trans hBr hbl.size) (NodeV.keep (fun _ h => h) (fun b hb' => hbj2.block b hb') _ _ hx) (by have := HLN1.out; omega)
      obtain ⟨m2, hm2⟩ : ∃ m2, x.ch.length = m2 := ⟨_, rfl⟩
      obtain ⟨hd2, hhd2⟩ : ∃ hd2, x.h = hd2 := ⟨_, rfl⟩
      rw [hhd2, hm2] at hc hcall hbj2
      have d0 := hc 0 _ rfl
      have d1 := hc 1 _ rfl
      have d2 := hc 2 _ rfl
      have d3 := hc 3 _ rfl
      have d4 := hc 4 _ rfl
      have d5 := hc 5 _ rfl
      have d6 := hc 6 _ rfl
      rw [Nat.add_zero] at d0
      have htl : tb < wr.heap.size := Nat.lt_of_lt_of_le htb hBr
      simp only [Hd.vals] at hcall hbj2
      have HC := Lib.hid hcall
      have HBJ := Lib.hid hbj2
      have HTK := Lib.hid htk
      clear hc hx hxc hbl hm2 hhd2 htk hcall hbj2 hcj hbj hln hsg hxo
      go_wp2_with fail
      refine HC.out.mono ?_
      rintro e w3 ⟨rfl, hc3, hb3⟩
      have H3 := Lib.hid hc3
      have HB3 := Lib.hid (HBJ.out.trans hb3)
      clear hc3 hb3 HC
      go_wp2_with fail
      go_roundw
      case rel => exact ⟨j + 1, by go_num, by omega, by rw [HTK.out]; exact H3.out, HB3.out⟩
      case measure => simp [intOf]; omega
    · have hjI : ¬ (j : Int) < L := by omega
      have htk : ch.take j = ch := List.take_of_length_le (by rw [HL.out]; omega)
      rw [htk] at hcj
      have HCJ := Lib.hid hcj
      have HBJ := Lib.hid hbj
      clear hcj hbj htk
      go_wp2_with fail
      go_end0
      exact ⟨rfl, by rw [HE1.out]; exact HCJ.out, HBJ.out⟩
theorem visit_any (B cb : Nat) (m : Int) (hB : B ≤ cb) : ∀ n, VisOk B cb m n
  | 0 => fun x h => by omega
  | n + 1 => fun x hxn hok par acc w us hcol hBw hus hlen => by
    by_cases h3 : x.h.k = 3
    · exact visit_fn B cb m hB n (visit_any B cb m hB n) x hxn hok h3 par acc w us hcol hBw hus hlen
    · by_cases h12 : x.h.k = 12
      · exact visit_12 B cb m hB n (visit_any B cb m hB n) x hxn hok h12 par acc w us hcol hBw hus hlen
      · exact visit_oth B cb m hB n (visit_any B cb m hB n) x hxn hok ⟨h3, h12⟩ par acc w us hcol hBw hus hlen

theorem ColV.set0 {w : World} {B cb : Nat} {m m' : Int} {acc : List Sym} (h : ColV w B cb m acc) : ColV (w.setCell ⟨cb, 0, none⟩ (.int .i64 m')) B cb m' acc := by
  obtain ⟨v, h1, h2, h3⟩ := h
  exact ⟨v, heap_set h1 0 (.int .i64 m'), ownsRow_below h2 (fun g hg => Below.heap_setCell _ _ _ _ (fun e => h3 (by rw [hg, e]))), h3⟩
theorem col_push {w : World} {B cb : Nat} {m : Int} {acc : List Sym} (h : ColV w B cb m acc) (hB : B ≤ cb) (y : Sym) (k : Nat) (hk : acc.length = k) : ∃ v, (∀ w1 : World, Below w.heap.size w w1 → w1.cell? ⟨cb, 1, none⟩ = some v ∧ w1.cell? ⟨cb, 0, none⟩ = some (.int .i64 m) ∧ w1.ownsRow B 89 6 v k (acc.flatMap syC)) ∧
    ∀ w1 : World, Below w.heap.size w w1 → ∀ (v3 : Value) (w3 : World), w3.ownsRow B 89 6 v3 (k + 1) (acc.flatMap syC ++ syC y) → w1.grownBy w3 v.ownBlock → (v3.ownBlock = v.ownBlock ∨ ∃ g, v3.ownBlock = some g ∧ w1.heap.size ≤ g) →
      w3.cell? ⟨cb, 1, none⟩ = some v ∧ w3.frozen? ⟨cb, 1, none⟩ = false ∧ ColV (w3.setCell ⟨cb, 1, none⟩ v3) B cb m (acc ++ [y]) ∧ Below B w (w3.setCell ⟨cb, 1, none⟩ v3) ∧ w3.cell? ⟨cb, 0, none⟩ = some (.int .i64 m) ∧ Below B w w3 ∧
      (∀ (b : Nat) (cs : Array Value) (t : TypeId) (fr : Nat × Nat), w.heap[b]? = some (Obj.cells cs t fr) → t ≠ 89 → w3.heap[b]? = w.heap[b]?) ∧
      (∀ (b : Nat) (cs : Array Value) (t : TypeId) (fr : Nat × Nat), w.heap[b]? = some (Obj.cells cs t fr) → t ≠ 89 → b ≠ cb → (w3.setCell ⟨cb, 1, none⟩ v3).heap[b]? = w.heap[b]?) := by
  obtain ⟨v, h1, h2, h3⟩ := h
  have hR := lt_of_heap h1
  subst hk
  refine ⟨v, fun w1 hb => ?_, ?_⟩
  · have q1 := (hb.block cb hR).trans h1
    exact ⟨cell_of q1 1 _ rfl, cell_of q1 0 _ rfl, ownsRow_below h2 (fun g hg => hb.block g (h2.lt g hg).2)⟩
  · intro w1 hb v3 w3 ho hg hat
    have q1 := (hb.block cb hR).trans h1
    have q2 : w3.heap[cb]? = _ := (hg.block cb (lt_of_heap q1) (fun e => h3 e.symm)).trans q1
    have q3 := ownsRow_below h2 (fun g hg => hb.block g (h2.lt g hg).2)
    have hkeep : ∀ (b : Nat) (cs : Array Value) (t : TypeId) (fr : Nat × Nat), w.heap[b]? = some (Obj.cells cs t fr) → t ≠ 89 → w3.heap[b]? = w.heap[b]? := by
      intro b cs t fr e1 e2
      have e4 := (hb.block b (lt_of_heap e1)).trans e1
      exact (hg.block b (lt_of_heap e4) (fun e => e2 (own_type q3 e.symm e4))).trans (hb.block b (lt_of_heap e1))
    have hbel := (hb.mono (show B ≤ w.heap.size by omega)).grown hg (by have := hb.size; omega) (fun q hq => (h2.lt q hq).1)
    refine ⟨cell_of q2 1 _ rfl, Lib.frozen_of_heap q2 1, ColV.push q1 h3 _ hg ho hat, ?_, cell_of q2 0 _ rfl, hbel, hkeep, fun b cs t fr e1 e2 e3 => ?_⟩
    · exact hbel.setCell hB _
    · exact (Below.heap_setCell _ _ _ _ e3).trans (hkeep b cs t fr e1 e2)
def ListPost (x : Mdl) (t : Node) (w : World) (e : Ending) (w' : World) : Prop := ∃ A c, e = .returned (.slice A (symsN x t).length c) ∧ syD.At w' (Nw w w') A (symsN x t) ∧ (symsN x t).length ≤ c ∧ Below w.heap.size w w'
def nm4 : List Value := [.string nInt, .string nBool, .string nString, .string nSelf]
theorem builtins_at (j : Nat) (hj : j < 4) : ∃ nm, nm4[j]? = some (.string nm) ∧ builtinsL.take (j + 1) = builtinsL.take j ++ [⟨15, -1, -1, -1, nm, false⟩] := by
  match j, hj with
  | 0, _ => exact ⟨nInt, rfl, rfl⟩
  | 1, _ => exact ⟨nBool, rfl, rfl⟩
  | 2, _ => exact ⟨nString, rfl, rfl⟩
  | 3, _ => exact ⟨nSelf, rfl, rfl⟩
set_option maxRecDepth 100000 in
set_option maxHeartbeats 12800000 in
theorem list_one (x : Mdl) (t : Node) (mb mo mc tc : Nat) (TA : Option Addr) (w : World) (hmb : mb < w.heap.size) (hmc : ∀ i u, (mdC x)[i]? = some u → w.cell? ⟨mb, mo + i, none⟩ = some u) (ht : nodeD.At w (Lt w) TA [t]) (hok : okS t = true) (hsz : t.sz ≤ 900000) :
    Calls Tryz.prog 111 #[.slice (some ⟨mb, mo, none⟩) 1 mc, .slice TA 1 tc] w (ListPost x t w) := by
  obtain ⟨tb, off, us, rfl, htb, hv, hxc⟩ := ht.get 0 t rfl
  obtain ⟨A2, c2, rfl, _⟩ := NodeV.vals hv
  obtain ⟨n2, hn2⟩ : ∃ n2, t.ch.length = n2 := ⟨_, rfl⟩
  obtain ⟨hd, hhd⟩ : ∃ hd, t.h = hd := ⟨_, rfl⟩
  have HV := Lib.hid hv
  rw [hhd, hn2] at hxc HV
  simp only [Nat.zero_mul, Nat.add_zero] at hxc
  obtain ⟨k, va, tx, st, en, nm⟩ := hd
  have d0 := hxc 0 _ rfl
  have d1 := hxc 1 _ rfl
  have d2 := hxc 2 _ rfl
  have d3 := hxc 3 _ rfl
  have d4 := hxc 4 _ rfl
  have d5 := hxc 5 _ rfl
  have d6 := hxc 6 _ rfl
  rw [Nat.add_zero] at d0
  have m0 := hmc 0 _ rfl
  rw [Nat.add_zero] at m0
  have htl : tb < w.heap.size := htb
  obtain ⟨xn, hxn⟩ : ∃ xn, x.nm = xn := ⟨_, rfl⟩
  rw [hxn] at m0
  have HSY := Lib.hid (show symsN x t = syN 0 t 4 (builtinsL ++ [⟨1, 0, -1, -1, xn, true⟩]) by unfold symsN; rw [hxn])
  have HOK := Lib.hid hok
  have HSZ := Lib.hid hsz
  -- the collector and the names
  obtain ⟨W, hW⟩ : ∃ W, (w.alloc (.cells #[.int .i64 0, .slice none 0 0] 252)).alloc (.cells #[.string nInt, .string nBool, .string nString, .string nSelf] 9) = W := ⟨_, rfl⟩
  have hbW : Below w.heap.size w W := by rw [← hW]; exact ((Below.refl _ w).alloc (Nat.le_refl _) _).alloc (by simp) _
  have k1 : W.heap[w.heap.size]? = some (.cells #[.int .i64 0, .slice none 0 0] 252 (0, 0)) := by
    rw [← hW]; exact (heap_alloc_old _ _ (by simp)).trans (heap_alloc_new w _)
  have k2 : W.heap[w.heap.size + 1]? = some (.cells #[.string nInt, .string nBool, .string nString, .string nSelf] 9 (0, 0)) := by
    rw [← hW]
    have := heap_alloc_new (w.alloc (.cells #[.int .i64 0, .slice none 0 0] 252)) (.cells #[.string nInt, .string nBool, .string nString, .string nSelf] 9)
    rw [World.size_alloc] at this
    exact this
  have hcol : ColV W w.heap.size w.heap.size 0 (builtinsL.take 0) := ⟨.slice none 0 0, k1, World.ownsRow_nil _ _ _ _, by simp [Value.ownBlock]⟩
  have HW0 := Lib.hid (show ColV W w.heap.size w.heap.size 0 (builtinsL.take 0) ∧ W.heap[w.heap.size + 1]? = _ ∧ Below w.heap.size w W from ⟨hcol, k2, hbW⟩)
  clear hcol k1 k2 hbW hmc hxc hv ht htb hok hsz hxn hhd hn2
  unfold nInt nBool nString nSelf at hW
  go_enter Tryz.func111, Tryz.ntmps111
  go_wp2_with fail
  clear hW
  go_loopw [7, 14] (fun nmv i wr => ∃ j : Nat, i = .int .i64 (j : Int) ∧ j ≤ 4 ∧ ColV wr w.heap.size w.heap.size 0 (builtinsL.take j) ∧ wr.heap[w.heap.size + 1]? = some (.cells #[.string nInt, .string nBool, .string nString, .string nSelf] 9 (0, 0)) ∧ Below w.heap.size w wr) (fun _ i _ => 4 - (intOf i).toNat)
  case atStart => exact ⟨0, rfl, by omega, HW0.out.1, HW0.out.2.1, HW0.out.2.2⟩
  case round =>
    clear HW0
    obtain ⟨j, rfl, hj, hcol, hsb, hbr⟩ := hrel
    by_cases hlt : j < 4
    · have hjI : (j : Int) < 4 := by omega
      obtain ⟨nmj, hnm, htk⟩ := builtins_at j hlt
      have hsl : (builtinsL.take j).length = j := by rw [List.length_take, show builtinsL.length = 4 from rfl]; omega
      obtain ⟨v, hp1, hp2⟩ := col_push hcol (Nat.le_refl _) ⟨15, -1, -1, -1, nmj, false⟩ j hsl
      have hcb : w.heap.size < wr.heap.size := by obtain ⟨_, e, _⟩ := hcol; exact lt_of_heap e
      have hsbl := lt_of_heap hsb
      obtain ⟨q1, q0, qo⟩ := hp1 wr (Below.refl _ _)
      have qs : wr.cell? ⟨w.heap.size + 1, j, none⟩ = some (.string nmj) := by
        rw [Lib.cell_of_heap hsb]; simpa [nm4] using hnm
      have HP2 := Lib.hid (hp2 wr (Below.refl _ _))
      have HSB := Lib.hid hsb
      have HBR := Lib.hid hbr
      have HTK := Lib.hid htk
      have hbs := hbr.size
      clear hcol hsb hbr hp1 hp2 htk hnm hsl
      go_wp2_with (at_builtin; refine wpList_append_litH rfl (.tmp 22) (.tmp 25) _ rfl w.heap.size 89 _ 6 56 Tryz.underlying82 info_sy rfl (by decide) _ _ _ rfl qo 1 1 wr.heap.size rfl [.int .i64 15, .int .i64 (-1), .int .i64 (-1), .int .i64 (-1), .string nmj, .bool false] rfl rfl ?a1 ?a2 ?a3 hbs ?_)
      case a1 => simp [Value.oneCell']
      case a2 => simp only [maxLen]; omega
      case a3 => omega
      intro v2 w2 hown2 hg2 hat2
      obtain ⟨r1, r2, r3, r4, r5, _, r6, r7⟩ := HP2.out v2 w2 hown2 hg2 hat2
      obtain ⟨Av, cv, rfl⟩ := own_slice hown2
      have H1 := Lib.hid r3
      have H2 := Lib.hid (HBR.out.trans r4)
      have H3 := Lib.hid ((r7 _ _ _ _ HSB.out (by decide) (by omega)).trans HSB.out)
      clear r3 r4 r6 r7 hown2 hg2 hat2 HP2
      go_wp2_with fail
      go_roundw
      case rel => exact ⟨j + 1, by go_num, by omega, by rw [HTK.out]; exact H1.out, H3.out, H2.out⟩
      case measure => simp [intOf]; omega
    · have hjI : ¬ (j : Int) < 4 := by omega
      obtain rfl : j = 4 := by omega
      have hc4 : ColV wr w.heap.size w.heap.size 0 builtinsL := hcol
      have HC4 := Lib.hid hc4
      have HBR := Lib.hid hbr
      have hbs := hbr.size
      have hcb : w.heap.size < wr.heap.size := by obtain ⟨_, e, _⟩ := hcol; exact lt_of_heap e
      clear hcol hsb hc4 hbr
      go_wp2_with fail
      obtain ⟨wo, rfl⟩ : ∃ wo : World, wo = wr := ⟨_, rfl⟩
      go_loopw [32] (fun i wr => (i = .int .i64 0 ∧ wr = wo) ∨ (i = .int .i64 1 ∧ ColV wr w.heap.size w.heap.size 0 (symsN x t) ∧ Below w.heap.size w wr)) (fun i _ => 1 - (intOf i).toNat)
      case atStart => exact .inl ⟨rfl, rfl⟩
      case round =>
        rcases hrel with ⟨rfl, rfl⟩ | ⟨rfl, hfin, hbf⟩
        · obtain ⟨W2, hW2⟩ : ∃ W2, wr.alloc (.cells #[.int .i64 k, .int .i64 va, .string tx, .int .i64 st, .int .i64 en, .int .i64 nm, .slice A2 n2 c2] 57) = W2 := ⟨_, rfl⟩
          have hx2 : W2.heap[wr.heap.size]? = some (.cells #[.int .i64 k, .int .i64 va, .string tx, .int .i64 st, .int .i64 en, .int .i64 nm, .slice A2 n2 c2] 57 (0, 0)) := by rw [← hW2]; exact heap_alloc_new wr _
          have hb2 : Below wr.heap.size wr W2 := by rw [← hW2]; exact (Below.refl _ _).alloc (Nat.le_refl _) _
          obtain ⟨v2, g1, g2, g3⟩ := HC4.out.below hb2
          have hcl2 := lt_of_heap g1
          have z0 := cell_of g1 0 _ rfl
          have z1 := cell_of g1 1 _ rfl
          have fz0 := Lib.frozen_of_heap g1 0
          obtain ⟨W3, hW3⟩ : ∃ W3, W2.setCell ⟨w.heap.size, 0, none⟩ (.int .i64 0) = W3 := ⟨_, rfl⟩
          have hc3 : ColV W3 w.heap.size w.heap.size 0 builtinsL := by rw [← hW3]; exact (HC4.out.below hb2).set0
          have hx3 : W3.heap[wr.heap.size]? = some (.cells #[.int .i64 k, .int .i64 va, .string tx, .int .i64 st, .int .i64 en, .int .i64 nm, .slice A2 n2 c2] 57 (0, 0)) := by rw [← hW3]; exact (Below.heap_setCell _ _ _ _ (show wr.heap.size ≠ w.heap.size by omega)).trans hx2
          have hb3 : Below w.heap.size w W3 := by rw [← hW3]; exact (HBR.out.trans (hb2.mono hbs)).setCell (Nat.le_refl _) _
          have hl3 := lt_of_heap hx3
          have e0 := (HBR.out.cell (p := ⟨tb, _, none⟩) htl).trans d0
          have e1 := (HBR.out.cell (p := ⟨tb, _, none⟩) htl).trans d1
          have e2 := (HBR.out.cell (p := ⟨tb, _, none⟩) htl).trans d2
          have e3 := (HBR.out.cell (p := ⟨tb, _, none⟩) htl).trans d3
          have e4 := (HBR.out.cell (p := ⟨tb, _, none⟩) htl).trans d4
          have e5 := (HBR.out.cell (p := ⟨tb, _, none⟩) htl).trans d5
          have e6 := (HBR.out.cell (p := ⟨tb, _, none⟩) htl).trans d6
          have htr : tb < wr.heap.size := by omega
          have em := (hb3.cell (p := ⟨mb, _, none⟩) hmb).trans m0
          have hm3 : mb < W3.heap.size := Nat.lt_of_lt_of_le hmb hb3.size
          have HC3 := Lib.hid hc3
          have HX3 := Lib.hid hx3
          have HB3 := Lib.hid hb3
          have HNE : Hid (wr.heap.size ≠ w.heap.size) := by show _ ≠ _; omega
          clear hx2 hb2 g1 g2 g3 hc3 hx3 hb3
          go_wp2_with fail
          clear hW2 hW3 e0 e1 e2 e3 e4 e5 e6 z0 z1 fz0
          obtain ⟨v, hp1, hp2⟩ := col_push HC3.out (Nat.le_refl _) ⟨1, 0, -1, -1, xn, true⟩ 4 rfl
          have hkp : ∀ w' : World, Below W3.heap.size W3 w' → w'.cell? ⟨w.heap.size, 1, none⟩ = some v ∧ w'.cell? ⟨mb, mo, none⟩ = some (.string xn) := fun w' hb' => ⟨(hp1 w' hb').1, (hb'.cell (p := ⟨mb, _, none⟩) hm3).trans em⟩
          have HKP := Lib.hid hkp
          have HP1 := Lib.hid hp1
          have HP2 := Lib.hid hp2
          have hlit : ∀ u4 : World, RowAt (u4.alloc (.cells #[.int .i64 1, .int .i64 0, .int .i64 (-1), .int .i64 (-1), .string xn, .bool true] 89)) (Lt (u4.alloc (.cells #[.int .i64 1, .int .i64 0, .int .i64 (-1), .int .i64 (-1), .string xn, .bool true] 89))) (some ⟨u4.heap.size, 0, none⟩) (syC ⟨1, 0, -1, -1, xn, true⟩) := fun u4 _ =>
            ⟨_, 0, rfl, by simp [Lt], fun j u hu => by rw [Nat.zero_add, Lib.cell_of_heap (heap_alloc_new u4 _)]; simpa [syC] using hu⟩
          have HLI := Lib.hid hlit
          have HON : Hid (∀ u ∈ syC ⟨1, 0, -1, -1, xn, true⟩, u.oneCell' = true) := by intro u hu; simp [syC] at hu; rcases hu with rfl | rfl | rfl | rfl | rfl | rfl <;> rfl
          have HBD : Hid (Below W3.heap.size W3 W3.drew) := (Below.refl W3.heap.size W3).drew
          have HEM : Hid (∀ w5, Below w.heap.size W3 w5 → w5.cell? ⟨mb, mo, none⟩ = some (.string xn)) := fun w5 hb => (hb.cell (p := ⟨mb, _, none⟩) hmb).trans em
          clear hkp hp1 hp2 hlit em
          refine regionS (fun w' => w'.cell? ⟨w.heap.size, 1, none⟩ = some v ∧ w'.cell? ⟨mb, mo, none⟩ = some (.string xn)) 14 (by kernel_rfl) (HKP.out _ HBD.out) ?_
          intro hS
          refine takeS (i := 0) (v := ?v0) (at_zero) (by kernel_rfl) (by kernel_rfl) (by kernel_rfl) (by kernel_rfl) (fun _ _ _ h => h) (Or.inl ⟨by rfl, ?y0⟩) (by assumption) ?z0
          case y0 => intro wq hSw; (try dsimp only at hSw); go_simp; try with_reducible rfl
          try simp only [Act.put, List.setIfInBounds_toArray, List.set_cons_zero, List.set_cons_succ]
          refine takeS (i := 1) (v := ?v1) (at_succ (at_zero)) (by kernel_rfl) (by kernel_rfl) (by kernel_rfl) (by kernel_rfl) (fun _ _ _ h => h) (Or.inl ⟨by rfl, ?y1⟩) (by assumption) ?z1
          case y1 => intro wq hSw; (try dsimp only at hSw); go_simp; try with_reducible rfl
          try simp only [Act.put, List.setIfInBounds_toArray, List.set_cons_zero, List.set_cons_succ]
          refine takeS (i := 2) (v := ?v2) (at_succ (at_succ (at_zero))) (by kernel_rfl) (by kernel_rfl) (by kernel_rfl) (by kernel_rfl) (fun _ _ _ h => h) (Or.inl ⟨by rfl, ?y2⟩) (by assumption) ?z2
          case y2 => intro wq hSw; (try dsimp only at hSw); go_simp; try with_reducible rfl
          try simp only [Act.put, List.setIfInBounds_toArray, List.set_cons_zero, List.set_cons_succ]
          refine takeS (i := 3) (v := ?v3) (at_succ (at_succ (at_succ (at_zero)))) (by kernel_rfl) (by kernel_rfl) (by kernel_rfl) (by kernel_rfl) (fun _ _ _ h => h) (Or.inl ⟨by rfl, ?y3⟩) (by assumption) ?z3
          case y3 => intro wq hSw; (try dsimp only at hSw); go_simp; try with_reducible rfl
          try simp only [Act.put, List.setIfInBounds_toArray, List.set_cons_zero, List.set_cons_succ]
          refine takeS (i := 4) (v := ?v4) (at_succ (at_succ (at_succ (at_succ (at_zero))))) (by kernel_rfl) (by kernel_rfl) (by kernel_rfl) (by kernel_rfl) (fun _ _ _ h => h) (Or.inl ⟨by rfl, ?y4⟩) (by assumption) ?z4
          case y4 => intro wq hSw; (try dsimp only at hSw); go_simp; try with_reducible rfl
          try simp only [Act.put, List.setIfInBounds_toArray, List.set_cons_zero, List.set_cons_succ]
          refine takeS (i := 5) (v := ?v5) (at_succ (at_succ (at_succ (at_succ (at_succ (at_zero)))))) (by kernel_rfl) (by kernel_rfl) (by kernel_rfl) (by kernel_rfl) (fun _ _ _ h => h) (Or.inl ⟨by rfl, ?y5⟩) (by assumption) ?z5
          case y5 => intro wq hSw; (try dsimp only at hSw); go_simp; try with_reducible rfl
          try simp only [Act.put, List.setIfInBounds_toArray, List.set_cons_zero, List.set_cons_succ]
          refine takeS (i := 6) (v := ?v6) (at_succ (at_succ (at_succ (at_succ (at_succ (at_succ (at_zero))))))) (by kernel_rfl) (by kernel_rfl) (by kernel_rfl) (by kernel_rfl) (fun _ _ _ h => h) (Or.inl ⟨by rfl, ?y6⟩) (by assumption) ?z6
          case y6 => intro wq hSw; (try dsimp only at hSw); go_simp; try with_reducible rfl
          try simp only [Act.put, List.setIfInBounds_toArray, List.set_cons_zero, List.set_cons_succ]
          refine takeS (i := 7) (v := ?v7) (at_succ (at_succ (at_succ (at_succ (at_succ (at_succ (at_succ (at_zero)))))))) (by kernel_rfl) (by kernel_rfl) (by kernel_rfl) (by kernel_rfl) (fun _ _ _ h => h) (Or.inl ⟨by rfl, ?y7⟩) (by assumption) ?z7
          case y7 => intro wq hSw; (try dsimp only at hSw); go_simp; try with_reducible rfl
          try simp only [Act.put, List.setIfInBounds_toArray, List.set_cons_zero, List.set_cons_succ]
          refine takeS (i := 8) (v := ?v8) (at_succ (at_succ (at_succ (at_succ (at_succ (at_succ (at_succ (at_succ (at_zero))))))))) (by kernel_rfl) (by kernel_rfl) (by kernel_rfl) (by kernel_rfl) (fun _ _ _ h => h) (Or.inl ⟨by rfl, ?y8⟩) (by assumption) ?z8
          case y8 => intro wq hSw; (try dsimp only at hSw); go_simp; try with_reducible rfl
          try simp only [Act.put, List.setIfInBounds_toArray, List.set_cons_zero, List.set_cons_succ]
          refine takeS (i := 9) (v := ?v9) (at_succ (at_succ (at_succ (at_succ (at_succ (at_succ (at_succ (at_succ (at_succ (at_zero)))))))))) (by kernel_rfl) (by kernel_rfl) (by kernel_rfl) (by kernel_rfl) (fun _ _ _ h => h) (Or.inl ⟨by rfl, ?y9⟩) (by assumption) ?z9
          case y9 => intro wq hSw; (try dsimp only at hSw); go_simp; try with_reducible rfl
          try simp only [Act.put, List.setIfInBounds_toArray, List.set_cons_zero, List.set_cons_succ]
          refine takeS (i := 10) (v := ?v10) (at_succ (at_succ (at_succ (at_succ (at_succ (at_succ (at_succ (at_succ (at_succ (at_succ (at_zero))))))))))) (by kernel_rfl) (by kernel_rfl) (by kernel_rfl) (by kernel_rfl) (fun _ _ _ h => h) (Or.inl ⟨by rfl, ?y10⟩) (by assumption) ?z10
          case y10 => intro wq hSw; (try dsimp only at hSw); go_simp; try with_reducible rfl
          try simp only [Act.put, List.setIfInBounds_toArray, List.set_cons_zero, List.set_cons_succ]
          refine takeS (i := 11) (v := ?v11) (at_succ (at_succ (at_succ (at_succ (at_succ (at_succ (at_succ (at_succ (at_succ (at_succ (at_succ (at_zero)))))))))))) (by kernel_rfl) (by kernel_rfl) (by kernel_rfl) (by kernel_rfl) (fun _ _ _ h => h) (Or.inl ⟨by rfl, ?y11⟩) (by assumption) ?z11
          case y11 => intro wq hSw; (try dsimp only at hSw); go_simp; try with_reducible rfl
          try simp only [Act.put, List.setIfInBounds_toArray, List.set_cons_zero, List.set_cons_succ]
          refine stepS (i := 12) (by kernel_rfl) (at_succ (at_succ (at_succ (at_succ (at_succ (at_succ (at_succ (at_succ (at_succ (at_succ (at_succ (at_succ (at_zero))))))))))))) (fun K hK => ?_)
          go_simp
          clear hS
          refine hK.out _ _ (HKP.out _ (HBD.out.alloc (Nat.le_refl _) _)) (fun hS => ?_)
          clear hK K
          try simp only [Act.put, List.setIfInBounds_toArray, List.set_cons_zero, List.set_cons_succ]
          refine stepS (i := 13) (by kernel_rfl) (at_succ (at_succ (at_succ (at_succ (at_succ (at_succ (at_succ (at_succ (at_succ (at_succ (at_succ (at_succ (at_succ (at_zero)))))))))))))) (fun K hK => ?_)
          refine step_append_src (by rfl) (.tmp 45) (.tmp 53) _ (by rfl) w.heap.size 89 _ 6 56 Tryz.underlying82 info_sy (by rfl) (by decide) v 4 (builtinsL.flatMap syC) (by rfl) (HP1.out _ (HBD.out.alloc HBD.out.size _)).2.2 (Lt _) (some ⟨W3.heap.size, 0, none⟩) 1 1 (syC ⟨1, 0, -1, -1, xn, true⟩) (by rfl) (HLI.out W3.drew) rfl HON.out (by unfold maxLen; omega) (by omega) (by have := HBD.out.size; simp; omega) ?_
          intro v3 w5 hown3 hg3 hat3
          have hf3 := HP2.out _ (HBD.out.alloc HBD.out.size _) v3 w5 hown3 hg3 hat3
          obtain ⟨r1, r2, r3, r4, r5, rb, r6, r7⟩ := hf3
          have hs3 : w5.cell? ⟨w.heap.size, 1, none⟩ = some v ∧ w5.cell? ⟨mb, mo, none⟩ = some (.string xn) := ⟨r1, HEM.out w5 rb⟩
          obtain ⟨Av, cv, rfl⟩ := own_slice hown3
          have R3 := Lib.hid r3
          have R4 := Lib.hid r4
          have R7 := Lib.hid ((r7 _ _ _ _ HX3.out (by decide) HNE.out).trans HX3.out)
          clear hown3 hg3 hat3 hS r3 r4 r5 rb r6 r7
          refine hK.out _ _ hs3 (fun hS => ?_)
          clear hs3
          clear hK K
          try simp only [Act.put, List.setIfInBounds_toArray, List.set_cons_zero, List.set_cons_succ]
          refine tailZ (i := 14) (by kernel_rfl) (at_succ (at_succ (at_succ (at_succ (at_succ (at_succ (at_succ (at_succ (at_succ (at_succ (at_succ (at_succ (at_succ (at_succ (at_zero))))))))))))))) (by kernel_rfl) (fun K hK => ?_)
          go_simp
          refine hK.out _ _ ?_
          clear hK K
          try simp only [Act.put, List.setIfInBounds_toArray, List.set_cons_zero, List.set_cons_succ]
          refine tailZ (i := 15) (by kernel_rfl) (at_succ (at_succ (at_succ (at_succ (at_succ (at_succ (at_succ (at_succ (at_succ (at_succ (at_succ (at_succ (at_succ (at_succ (at_succ (at_zero)))))))))))))))) (by kernel_rfl) (fun K hK => ?_)
          go_simp
          refine hK.out _ _ ?_
          clear hK K
          try simp only [Act.put, List.setIfInBounds_toArray, List.set_cons_zero, List.set_cons_succ]
          refine tailZ (i := 16) (by kernel_rfl) (at_succ (at_succ (at_succ (at_succ (at_succ (at_succ (at_succ (at_succ (at_succ (at_succ (at_succ (at_succ (at_succ (at_succ (at_succ (at_succ (at_zero))))))))))))))))) (by kernel_rfl) (fun K hK => ?_)
          go_simp
          refine hK.out _ _ ?_
          clear hK K
          try simp only [Act.put, List.setIfInBounds_toArray, List.set_cons_zero, List.set_cons_succ]
          refine doneS (by kernel_rfl) ?_ _
          generalize w5.setCell ⟨w.heap.size, 1, none⟩ (.slice Av (4 + 1) cv) = W6 at *
          have hl6 := lt_of_heap R7.out
          obtain ⟨v6, g1, g2, g3⟩ := R3.out
          obtain ⟨A6, c6, rfl⟩ := own_slice g2
          have z1 : W6.cell? ⟨w.heap.size, 1, none⟩ = some (.slice A6 5 c6) := cell_of g1 1 _ rfl
          have hcl6 := lt_of_heap g1
          have b0 := cell_of R7.out 0 _ rfl
          have b1 := cell_of R7.out 1 _ rfl
          have b2 := cell_of R7.out 2 _ rfl
          have b3 := cell_of R7.out 3 _ rfl
          have b4 := cell_of R7.out 4 _ rfl
          have b5 := cell_of R7.out 5 _ rfl
          have b6 := cell_of R7.out 6 _ rfl
          have hB6 := HB3.out.trans R4.out
          have HVI := Lib.hid (fun w' (hb : Below W6.heap.size W6 w') => visit_any w.heap.size w.heap.size 0 (Nat.le_refl _) (t.sz + 1) t (by omega) HOK.out 4 (builtinsL ++ [⟨1, 0, -1, -1, xn, true⟩]) w' _ (R3.out.below hb) (Nat.le_trans hB6.size hb.size) (NodeV.keep (fun _ h => h) (fun b hb' => ((hB6.trans (hb.mono hB6.size)).block b hb')) _ _ HV.out) (by have := HSZ.out; show 5 + t.sz ≤ 1000000; omega))
          simp only [Hd.vals] at HVI
          have H6 := Lib.hid hB6
          clear g1 g2 g3 hB6 hS HP1 HP2 HKP HLI HEM
          go_wp2_with fail
          refine wp_region_still_tail 8 (by kernel_rfl) (by kernel_rfl) ?_
          simp only [List.take_succ_cons, List.take_zero, List.drop_succ_cons, List.drop_zero]
          repeat still_step
          refine wpStill_nil ?_
          go_wp2_with fail
          refine (HVI.out _ (Below.refl _ _).drew).mono ?_
          rintro e w7 ⟨rfl, hc7, hb7⟩
          have H7 := Lib.hid (show ColV w7 w.heap.size w.heap.size 0 (symsN x t) by rw [HSY.out]; exact hc7)
          have H8 := Lib.hid ((H6.out.trans ((Below.refl W6.heap.size W6).drew.mono H6.out.size)).trans hb7)
          clear hc7 hb7 HVI
          go_wp2_with fail
          go_roundw
          case rel => exact .inr ⟨by go_num, H7.out, H8.out⟩
          case measure => simp [intOf]
        · have H1 := Lib.hid hfin
          have H2 := Lib.hid hbf
          obtain ⟨v, g1, g2, g3⟩ := hfin
          obtain ⟨A, c, rfl⟩ := own_slice g2
          have z1 := cell_of g1 1 _ rfl
          have hcl := lt_of_heap g1
          have ho : syD.Own wr w.heap.size 89 (Nw w wr) (.slice A (symsN x t).length c) (symsN x t) ((symsN x t).flatMap syC) := ⟨g2, flatD_of _⟩
          obtain ⟨A5, c5, q1, q2, q4⟩ := ho.at (F' := Nw w wr) (fun _ h => h) (fun g hg => g2.lt g hg)
          injection q1 with q1 _ q3
          subst q1 q3
          have Q2 := Lib.hid q2
          have Q4 := Lib.hid q4
          obtain ⟨nn, hnn⟩ : ∃ nn, (symsN x t).length = nn := ⟨_, rfl⟩
          have HNN := Lib.hid hnn
          rw [hnn] at z1
          clear hbf g1 g2 g3 ho q2 q4 hnn
          go_wp2_with fail
          go_ret
          exact ⟨A, c, by rw [HNN.out]; rfl, Q2.out, Q4.out, H2.out⟩
end Go.Proofs.YtpibenilagloaaaGreatDoor
