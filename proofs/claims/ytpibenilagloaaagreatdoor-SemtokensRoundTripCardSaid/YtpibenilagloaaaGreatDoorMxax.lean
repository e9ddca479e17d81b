import Derived.Test.YtpibenilagloaaaGreatDoorMxaw
/-
  symbols: collector.visit, at a list of parameters.
-/
namespace Go.Proofs.YtpibenilagloaaaGreatDoor
open Go.RowKit
set_option linter.unusedVariables false

set_option maxRecDepth 100000 in
set_option maxHeartbeats 6400000 in
theorem visit_12 (B cb : Nat) (m : Int) (hB : B ≤ cb) (n : Nat) (ih : VisOk B cb m n) (x : Node) (hxn : x.sz < n + 1) (hok : okS x = true) (hkx : x.h.k = 12) (par : Int) (acc : List Sym) (w : World) (us : List Value) (hcol : ColV w B cb m acc) (hBw : B ≤ w.heap.size) (hus : NodeV w (fun b => b < B) x us) (hlen : acc.length + x.sz ≤ 1000000) :
    Calls Tryz.prog 178 #[.pointer (some ⟨cb, 0, none⟩), .agg us.toArray, .int .i64 par, .bool false] w fun e w' => e = .returned (.tuple #[]) ∧ ColV w' B cb m (syN m x par acc) ∧ Below B w w' := by
  obtain ⟨A, c, rfl, hk⟩ := hus.kids
  obtain ⟨hd, ch⟩ := x
  simp only [Node.h, Node.ch] at hk hkx ⊢
  obtain ⟨L, hL⟩ : ∃ L, ch.length = L := ⟨_, rfl⟩
  obtain ⟨hoc, hcase⟩ := okS_cases hd ch hok
  have hLz := len_szs ch
  unfold Node.sz at hxn hlen
  have HK := Lib.hid hk
  have HL := Lib.hid hL
  have HI := Lib.hid ih
  have HN := Lib.hid hxn
  have HOC := Lib.hid hoc
  have HLN := Lib.hid hlen
  have hLb : L ≤ 1000000 := by omega
  have HE := Lib.hid (show syN m (.mk hd ch) par acc = if hd.k = 3 then syNs m ch (acc.length : Int) (acc ++ [⟨2, m, hd.nm, par, hd.t, false⟩]) else syNs m ch par acc by rw [syN])
  rw [hL]
  obtain ⟨k, va, t, s, e, nm⟩ := hd
  simp only at HE hcase hkx
  have HSK := Lib.hid (fun (w' : World) => smk_none ⟨k, va, t, s, e, nm⟩ A L c false w')
  have HSF := Lib.hid (fun (w' : World) => smk_fn ⟨k, va, t, s, e, nm⟩ A L c false w')
  have HSS := Lib.hid (fun (w' : World) => smk_seg ⟨k, va, t, s, e, nm⟩ A L c false w')
  have HDS := Lib.hid (fun (w' : World) => dst_any ⟨k, va, t, s, e, nm⟩ A L c w')
  simp only [Hd.vals] at HSK HSF HSS HDS ⊢
  show Calls _ _ #[_, .agg #[.int .i64 k, .int .i64 va, .string t, .int .i64 s, .int .i64 e, .int .i64 nm, .slice A L c], _, _] _ _
  have HBs := Lib.hid hBw
  rcases hcase with ⟨h3, _⟩ | h0
  case inl => omega
  have HKX := Lib.hid hkx
  clear hkx
  have hk3 : ¬ k = 3 := by rcases h0 with h | h; (omega); exact h.1
  have hk9 : ¬ k = 9 := by rcases h0 with h | h; (omega); exact h.2.2.1
  have hk38 : ¬ k = 38 := by rcases h0 with h | h; (omega); exact h.2.2.2.1
  have HF := Lib.hid (fun W => show Calls Tryz.prog 231 #[.agg #[.int .i64 k, .int .i64 va, .string t, .int .i64 s, .int .i64 e, .int .i64 nm, .slice A L c], .bool false] W fun e w' => e = .returned (.int .i64 0) ∧ Below W.heap.size W w' from by
    rcases h0 with h | h
    · exact HSS.out W h.1 (by simp; omega)
    · exact HSK.out W (by simpa using h.2.1) (by simpa using h.2.2.2.2))
  obtain ⟨W, hW⟩ : ∃ W, w.alloc (.cells #[.int .i64 k, .int .i64 va, .string t, .int .i64 s, .int .i64 e, .int .i64 nm, .slice A L c] 57) = W := ⟨_, rfl⟩
  have hbx : W.heap[w.heap.size]? = some (.cells #[.int .i64 k, .int .i64 va, .string t, .int .i64 s, .int .i64 e, .int .i64 nm, .slice A L c] 57 (0, 0)) := by rw [← hW]; exact heap_alloc_new w _
  have hbw : Below w.heap.size w W := by rw [← hW]; exact (Below.refl _ _).alloc (Nat.le_refl _) _
  have hcW := hcol.below hbw
  have hWs : w.heap.size < W.heap.size := lt_of_heap hbx
  have HE1 := Lib.hid (show syN m (.mk ⟨k, va, t, s, e, nm⟩ ch) par acc = syNs m ch par acc by rw [HE.out, if_neg hk3])
  have HLN1 : Hid (acc.length + szs ch ≤ 1000000) := by have := HLN.out; show _ ≤ _; omega
  have HCW := Lib.hid hcW
  have HBX := Lib.hid hbx
  have HBW := Lib.hid hbw
  have y0 := cell_of hbx 0 _ rfl
  have y1 := cell_of hbx 1 _ rfl
  have y2 := cell_of hbx 2 _ rfl
  have y3 := cell_of hbx 3 _ rfl
  have y4 := cell_of hbx 4 _ rfl
  have y5 := cell_of hbx 5 _ rfl
  have y6 := cell_of hbx 6 _ rfl
  clear hcol hk hL hxn ih hus hLz hoc hok hlen HE HSF HSK HSS HDS hcW hbx hbw h0
  go_enter Tryz.func178, Tryz.ntmps178
  go_wp2_with fail
  refine (HF.out _).mono ?_
  rintro e1 w1 ⟨rfl, hb1⟩
  have x1 : w1.heap[w.heap.size]? = some (.cells #[.int .i64 k, .int .i64 va, .string t, .int .i64 s, .int .i64 e, .int .i64 nm, .slice A L c] 57 (0, 0)) := (hb1.block _ hWs).trans HBX.out
  have b0 := cell_of x1 0 _ rfl
  have b6 := cell_of x1 6 _ rfl
  have hxl := lt_of_heap x1
  have HBL := Lib.hid ((HBW.out.mono hBw).trans (hb1.mono (Nat.le_trans hBw (Nat.le_of_lt hWs))))
  have HCL := Lib.hid (HCW.out.below hb1)
  clear HF HCW HBX HBW hb1 x1 y0 y1 y2 y3 y4 y5 y6 hW hWs
  obtain ⟨acc1, hacc1⟩ : ∃ a, acc = a := ⟨_, rfl⟩
  obtain ⟨par1, hpar1⟩ : ∃ q : Int, par = q := ⟨_, rfl⟩
  subst hacc1 hpar1
  have h12 := HKX.out
  clear HKX
  subst h12
  go_wp2_with fail
  clear b0 b6 hxl hk3 hk9 hk38
  have hq0 : syNs m (ch.take 0) par acc = acc := by rw [List.take_zero, syNs]
  go_loopw [75] (fun i wr => ∃ j : Nat, i = .int .i64 (j : Int) ∧ j ≤ L ∧ ColV wr B cb m (syNs m (ch.take j) par acc) ∧ Below B w wr) (fun i _ => L - (intOf i).toNat)
  case atStart => exact ⟨0, rfl, Nat.zero_le _, by rw [hq0]; exact HCL.out, HBL.out⟩
  case round =>
    clear hq0
    obtain ⟨j, rfl, hj, hcj, hbj⟩ := hrel
    by_cases hlt : j < L
    · have hjI : (j : Int) < L := by omega
      have hjl : j < ch.length := by rw [HL.out]; exact hlt
      obtain ⟨tb, off, xs, rfl, htb, hx, hxc⟩ := HK.out.get j ch[j] (List.getElem?_eq_getElem hjl)
      have htk : syNs m (ch.take (j + 1)) par acc = syN m ch[j] par (syNs m (ch.take j) par acc) := by
        rw [List.take_succ_eq_append_getElem hjl, syNs_append, syNs, syNs]
      have hsg := szs_get ch j hjl
      have hxo := okSs_get ch j ch[j] HOC.out (List.getElem?_eq_getElem hjl)
      have hln := syNs_len m (ch.take j) par acc
      generalize ch[j] = x at *
      obtain ⟨A2, c2, rfl, _⟩ := NodeV.vals hx
      have hbs := hbj.size
      have hc : ∀ t u, (x.h.vals (.slice A2 x.ch.length c2))[t]? = some u → wr.cell? ⟨tb, off + j * 7 + t, none⟩ = some u := fun t u hu => (hbj.cell (p := ⟨tb, _, none⟩) htb).trans (hxc t u hu)
      have hbl : Below wr.heap.size wr (wr.alloc (.cells (x.h.vals (.slice A2 x.ch.length c2)).toArray 57)) := (Below.refl _ _).alloc (Nat.le_refl _) _
      have hBr : B ≤ wr.heap.size := Nat.le_trans HBs.out hbs
      have hbj2 := hbj.trans (hbl.mono hBr)
      have hcall := HI.out x (by have := HN.out; omega) hxo par _ _ _ (hcj.below hbl) (Nat.le_trans hBr hbl.size) (NodeV.keep (fun _ h => h) (fun b hb' => hbj2.block b hb') _ _ hx) (by have := HLN1.out; omega)
      obtain ⟨m2, hm2⟩ : ∃ m2, x.ch.length = m2 := ⟨_, rfl⟩
      obtain ⟨hd2, hhd2⟩ : ∃ hd2, x.h = hd2 := ⟨_, rfl⟩
      rw [hhd2, hm2] at hc hcall hbj2
      have d0 := hc 0 _ rfl
      have d1 := hc 1 _ rfl
      have d2 := hc 2 _ rfl
      have d3 := hc 3 _ rfl
      have d4 := hc 4 _ rfl
      have d5 := hc 5 _ rfl
      have d6 := hc 6 _ rfl
      rw [Nat.add_zero] at d0
      have htl : tb < wr.heap.size := Nat.lt_of_lt_of_le htb hBr
      simp only [Hd.vals] at hcall hbj2
      have HC := Lib.hid hcall
      have HBJ := Lib.hid hbj2
      have HTK := Lib.hid htk
      clear hc hx hxc hbl hm2 hhd2 htk hcall hbj2 hcj hbj hln hsg hxo
      go_wp2_with fail
      refine HC.out.mono ?_
      rintro e w3 ⟨rfl, hc3, hb3⟩
      have H3 := Lib.hid hc3
      have HB3 := Lib.hid (HBJ.out.trans hb3)
      clear hc3 hb3 HC
      go_wp2_with fail
      go_roundw
      case rel => exact ⟨j + 1, by go_num, by omega, by rw [HTK.out]; exact H3.out, HB3.out⟩
      case measure => simp [intOf]; omega
    · have hjI : ¬ (j : Int) < L := by omega
      have htk : ch.take j = ch := List.take_of_length_le (by rw [HL.out]; omega)
      rw [htk] at hcj
      have HCJ := Lib.hid hcj
      have HBJ := Lib.hid hbj
      clear hcj hbj htk
      go_wp2_with fail
      go_end0
      exact ⟨rfl, by rw [HE1.out]; exact HCJ.out, HBJ.out⟩
end Go.Proofs.YtpibenilagloaaaGreatDoor

/-
  symbols: collector.visit, elsewhere; at every tree of private functions.
-/
namespace Go.Proofs.YtpibenilagloaaaGreatDoor
open Go.RowKit
set_option linter.unusedVariables false

set_option maxRecDepth 100000 in
set_option maxHeartbeats 6400000 in
theorem visit_oth (B cb : Nat) (m : Int) (hB : B ≤ cb) (n : Nat) (ih : VisOk B cb m n) (x : Node) (hxn : x.sz < n + 1) (hok : okS x = true) (hkx : x.h.k ≠ 3 ∧ x.h.k ≠ 12) (par : Int) (acc : List Sym) (w : World) (us : List Value) (hcol : ColV w B cb m acc) (hBw : B ≤ w.heap.size) (hus : NodeV w (fun b => b < B) x us) (hlen : acc.length + x.sz ≤ 1000000) :
    Calls Tryz.prog 178 #[.pointer (some ⟨cb, 0, none⟩), .agg us.toArray, .int .i64 par, .bool false] w fun e w' => e = .returned (.tuple #[]) ∧ ColV w' B cb m (syN m x par acc) ∧ Below B w w' := by
  obtain ⟨A, c, rfl, hk⟩ := hus.kids
  obtain ⟨hd, ch⟩ := x
  simp only [Node.h, Node.ch] at hk hkx ⊢
  obtain ⟨L, hL⟩ : ∃ L, ch.length = L := ⟨_, rfl⟩
  obtain ⟨hoc, hcase⟩ := okS_cases hd ch hok
  have hLz := len_szs ch
  unfold Node.sz at hxn hlen
  have HK := Lib.hid hk
  have HL := Lib.hid hL
  have HI := Lib.hid ih
  have HN := Lib.hid hxn
  have HOC := Lib.hid hoc
  have HLN := Lib.hid hlen
  have hLb : L ≤ 1000000 := by omega
  have HE := Lib.hid (show syN m (.mk hd ch) par acc = if hd.k = 3 then syNs m ch (acc.length : Int) (acc ++ [⟨2, m, hd.nm, par, hd.t, false⟩]) else syNs m ch par acc by rw [syN])
  rw [hL]
  obtain ⟨k, va, t, s, e, nm⟩ := hd
  simp only at HE hcase hkx
  have HSK := Lib.hid (fun (w' : World) => smk_none ⟨k, va, t, s, e, nm⟩ A L c false w')
  have HSF := Lib.hid (fun (w' : World) => smk_fn ⟨k, va, t, s, e, nm⟩ A L c false w')
  have HSS := Lib.hid (fun (w' : World) => smk_seg ⟨k, va, t, s, e, nm⟩ A L c false w')
  have HDS := Lib.hid (fun (w' : World) => dst_any ⟨k, va, t, s, e, nm⟩ A L c w')
  simp only [Hd.vals] at HSK HSF HSS HDS ⊢
  show Calls _ _ #[_, .agg #[.int .i64 k, .int .i64 va, .string t, .int .i64 s, .int .i64 e, .int .i64 nm, .slice A L c], _, _] _ _
  have HBs := Lib.hid hBw
  obtain ⟨g3, h12⟩ := hkx
  rcases hcase with ⟨h3, _⟩ | h0
  case inl => exact absurd h3 g3
  have hk3 : ¬ k = 3 := by rcases h0 with h | h; (omega); exact h.1
  have hk9 : ¬ k = 9 := by rcases h0 with h | h; (omega); exact h.2.2.1
  have hk38 : ¬ k = 38 := by rcases h0 with h | h; (omega); exact h.2.2.2.1
  have kb9 : (k == 9) = false := by simpa using hk9
  have kb38 : (k == 38) = false := by simpa using hk38
  have kb12 : (k == 12) = false := by simpa using h12
  have HF := Lib.hid (fun W => show Calls Tryz.prog 231 #[.agg #[.int .i64 k, .int .i64 va, .string t, .int .i64 s, .int .i64 e, .int .i64 nm, .slice A L c], .bool false] W fun e w' => e = .returned (.int .i64 0) ∧ Below W.heap.size W w' from by
    rcases h0 with h | h
    · exact HSS.out W h.1 (by simp; omega)
    · exact HSK.out W (by simpa using h.2.1) (by simpa using h.2.2.2.2))
  obtain ⟨W, hW⟩ : ∃ W, w.alloc (.cells #[.int .i64 k, .int .i64 va, .string t, .int .i64 s, .int .i64 e, .int .i64 nm, .slice A L c] 57) = W := ⟨_, rfl⟩
  have hbx : W.heap[w.heap.size]? = some (.cells #[.int .i64 k, .int .i64 va, .string t, .int .i64 s, .int .i64 e, .int .i64 nm, .slice A L c] 57 (0, 0)) := by rw [← hW]; exact heap_alloc_new w _
  have hbw : Below w.heap.size w W := by rw [← hW]; exact (Below.refl _ _).alloc (Nat.le_refl _) _
  have hcW := hcol.below hbw
  have hWs : w.heap.size < W.heap.size := lt_of_heap hbx
  have HE1 := Lib.hid (show syN m (.mk ⟨k, va, t, s, e, nm⟩ ch) par acc = syNs m ch par acc by rw [HE.out, if_neg hk3])
  have HLN1 : Hid (acc.length + szs ch ≤ 1000000) := by have := HLN.out; show _ ≤ _; omega
  have HCW := Lib.hid hcW
  have HBX := Lib.hid hbx
  have HBW := Lib.hid hbw
  have y0 := cell_of hbx 0 _ rfl
  have y1 := cell_of hbx 1 _ rfl
  have y2 := cell_of hbx 2 _ rfl
  have y3 := cell_of hbx 3 _ rfl
  have y4 := cell_of hbx 4 _ rfl
  have y5 := cell_of hbx 5 _ rfl
  have y6 := cell_of hbx 6 _ rfl
  clear hcol hk hL hxn ih hus hLz hoc hok hlen HE HSF HSK HSS HDS hcW hbx hbw h0
  go_enter Tryz.func178, Tryz.ntmps178
  go_wp2_with fail
  refine (HF.out _).mono ?_
  rintro e1 w1 ⟨rfl, hb1⟩
  have x1 : w1.heap[w.heap.size]? = some (.cells #[.int .i64 k, .int .i64 va, .string t, .int .i64 s, .int .i64 e, .int .i64 nm, .slice A L c] 57 (0, 0)) := (hb1.block _ hWs).trans HBX.out
  have b0 := cell_of x1 0 _ rfl
  have b6 := cell_of x1 6 _ rfl
  have hxl := lt_of_heap x1
  have HBL := Lib.hid ((HBW.out.mono hBw).trans (hb1.mono (Nat.le_trans hBw (Nat.le_of_lt hWs))))
  have HCL := Lib.hid (HCW.out.below hb1)
  clear HF HCW HBX HBW hb1 x1 y0 y1 y2 y3 y4 y5 y6 hW hWs
  obtain ⟨acc1, hacc1⟩ : ∃ a, acc = a := ⟨_, rfl⟩
  obtain ⟨par1, hpar1⟩ : ∃ q : Int, par = q := ⟨_, rfl⟩
  subst hacc1 hpar1
  go_wp2_with fail
  clear b0 b6 hxl hk3 hk9 hk38 h12 kb9 kb38 kb12
  have hq0 : syNs m (ch.take 0) par acc = acc := by rw [List.take_zero, syNs]
  go_loopw [75] (fun i wr => ∃ j : Nat, i = .int .i64 (j : Int) ∧ j ≤ L ∧ ColV wr B cb m (syNs m (ch.take j) par acc) ∧ Below B w wr) (fun i _ => L - (intOf i).toNat)
  case atStart => exact ⟨0, rfl, Nat.zero_le _, by rw [hq0]; exact HCL.out, HBL.out⟩
  case round =>
    clear hq0
    obtain ⟨j, rfl, hj, hcj, hbj⟩ := hrel
    by_cases hlt : j < L
    · have hjI : (j : Int) < L := by omega
      have hjl : j < ch.length := by rw [HL.out]; exact hlt
      obtain ⟨tb, off, xs, rfl, htb, hx, hxc⟩ := HK.out.get j ch[j] (List.getElem?_eq_getElem hjl)
      have htk : syNs m (ch.take (j + 1)) par acc = syN m ch[j] par (syNs m (ch.take j) par acc) := by
        rw [List.take_succ_eq_append_getElem hjl, syNs_append, syNs, syNs]
      have hsg := szs_get ch j hjl
      have hxo := okSs_get ch j ch[j] HOC.out (List.getElem?_eq_getElem hjl)
      have hln := syNs_len m (ch.take j) par acc
      generalize ch[j] = x at *
      obtain ⟨A2, c2, rfl, _⟩ := NodeV.vals hx
      have hbs := hbj.size
      have hc : ∀ t u, (x.h.vals (.slice A2 x.ch.length c2))[t]? = some u → wr.cell? ⟨tb, off + j * 7 + t, none⟩ = some u := fun t u hu => (hbj.cell (p := ⟨tb, _, none⟩) htb).trans (hxc t u hu)
      have hbl : Below wr.heap.size wr (wr.alloc (.cells (x.h.vals (.slice A2 x.ch.length c2)).toArray 57)) := (Below.refl _ _).alloc (Nat.le_refl _) _
      have hBr : B ≤ wr.heap.size := Nat.le_trans HBs.out hbs
      have hbj2 := hbj.trans (hbl.mono hBr)
      have hcall := HI.out x (by have := HN.out; omega) hxo par _ _ _ (hcj.below hbl) (Nat.le_trans hBr hbl.size) (NodeV.keep (fun _ h => h) (fun b hb' => hbj2.block b hb') _ _ hx) (by have := HLN1.out; omega)
      obtain ⟨m2, hm2⟩ : ∃ m2, x.ch.length = m2 := ⟨_, rfl⟩
      obtain ⟨hd2, hhd2⟩ : ∃ hd2, x.h = hd2 := ⟨_, rfl⟩
      rw [hhd2, hm2] at hc hcall hbj2
      have d0 := hc 0 _ rfl
      have d1 := hc 1 _ rfl
      have d2 := hc 2 _ rfl
      have d3 := hc 3 _ rfl
      have d4 := hc 4 _ rfl
      have d5 := hc 5 _ rfl
      have d6 := hc 6 _ rfl
      rw [Nat.add_zero] at d0
      have htl : tb < wr.heap.size := Nat.lt_of_lt_of_le htb hBr
      simp only [Hd.vals] at hcall hbj2
      have HC := Lib.hid hcall
      have HBJ := Lib.hid hbj2
      have HTK := Lib.hid htk
      clear hc hx hxc hbl hm2 hhd2 htk hcall hbj2 hcj hbj hln hsg hxo
      go_wp2_with fail
      refine HC.out.mono ?_
      rintro e w3 ⟨rfl, hc3, hb3⟩
      have H3 := Lib.hid hc3
      have HB3 := Lib.hid (HBJ.out.trans hb3)
      clear hc3 hb3 HC
      go_wp2_with fail
      go_roundw
      case rel => exact ⟨j + 1, by go_num, by omega, by rw [HTK.out]; exact H3.out, HB3.out⟩
      case measure => simp [intOf]; omega
    · have hjI : ¬ (j : Int) < L := by omega
      have htk : ch.take j = ch := List.take_of_length_le (by rw [HL.out]; omega)
      rw [htk] at hcj
      have HCJ := Lib.hid hcj
      have HBJ := Lib.hid hbj
      clear hcj hbj htk
      go_wp2_with fail
      go_end0
      exact ⟨rfl, by rw [HE1.out]; exact HCJ.out, HBJ.out⟩
theorem visit_any (B cb : Nat) (m : Int) (hB : B ≤ cb) : ∀ n, VisOk B cb m n
  | 0 => fun x h => by omega
  | n + 1 => fun x hxn hok par acc w us hcol hBw hus hlen => by
    by_cases h3 : x.h.k = 3
    · exact visit_fn B cb m hB n (visit_any B cb m hB n) x hxn hok h3 par acc w us hcol hBw hus hlen
    · by_cases h12 : x.h.k = 12
      · exact visit_12 B cb m hB n (visit_any B cb m hB n) x hxn hok h12 par acc w us hcol hBw hus hlen
      · exact visit_oth B cb m hB n (visit_any B cb m hB n) x hxn hok ⟨h3, h12⟩ par acc w us hcol hBw hus hlen
end Go.Proofs.YtpibenilagloaaaGreatDoor
