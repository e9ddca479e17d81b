import Derived.Test.YtpibenilagloaaaGreatDoorMzba
import Derived.Deep.DeepMust
import Derived.Deep.RegionLaw
import Derived.Test.YtpibenilagloaaaGreatDoorMzat
namespace Go.Proofs.YtpibenilagloaaaGreatDoor
open Go.RowKit
set_option linter.unusedVariables false
def NdPost (M : MM) (w : World) (p : Nat) (src : ByteArray) (x : Tree) (b : BS) (e : Ending) (w' : World) : Prop :=
  ∃ us M', e = .returned (.agg us.toArray) ∧ NodeV w' (fun c => w.heap.size ≤ c ∧ c < w'.heap.size ∧ ¬ M' c) (nodeL src x b).1 us ∧ BAt w' p M' src (nodeL src x b).2 ∧ Step M w M' w'
def NodeOk (n : Nat) : Prop := ∀ (x : Tree), x.wt < n → ¬ 100 ≤ x.k → x.ok → ∀ (w : World) (p : Nat) (M : MM) (src : ByteArray) (b : BS), BAt w p M src b → 0 ≤ b.off → b.off + x.yl ≤ src.size → src.size ≤ 2000 → b.ds.length + x.wt ≤ 800000 →
  ∀ (v0 v1 v2 : Value) (Ft : Nat → Prop), TreeV w Ft x v0 v1 v2 → (∀ c, Ft c → c < w.heap.size ∧ ¬ M c) →
  Calls Tryz.prog 51 #[.pointer (some ⟨p, 0, none⟩), .agg #[v0, v1, v2]] w (NdPost M w p src x b)
structure NBd (src : ByteArray) (b : BS) (ch : List Tree) (j : Nat) (s : NS) (R : NS) : Prop where
  eq : kidsL src (ch.drop j) s = R
  off : s.b.off + yls (ch.drop j) = b.off + yls ch
  off0 : 0 ≤ s.b.off
  ds : s.b.ds.length + wts (ch.drop j) ≤ b.ds.length + wts ch
  len : s.ch.length ≤ j
theorem nin_start {w : World} {p : Nat} {M : MM} {src : ByteArray} {b : BS} (hB : BAt w p M src b) (k : Int) (t : ByteArray) (sl : Value) (W : World)
    (hW : ((w.alloc (.cells #[.int .i64 k, .string t, sl] 121)).alloc (.cells #[.int .i64 0, .int .i64 0, .string ⟨#[]⟩, .int .i64 0, .int .i64 0, .int .i64 0, .slice none 0 0] 57)).alloc (.cells #[.int .i64 k, .int .i64 0, .string ⟨#[]⟩, .int .i64 b.off, .int .i64 (-1), .int .i64 (-1), .slice none 0 0] 57) = W) :
    ∃ vb, NIn w p M src k t sl W ⟨newH k b.off, [], b⟩ vb (.slice none 0 0) [] := by
  obtain ⟨vb, hX⟩ := hB
  have hb : Below w.heap.size w W := by rw [← hW]; exact (((Below.refl _ _).alloc (Nat.le_refl _) _).alloc (by simp) _).alloc (by simp; omega) _
  have hx := hX.tight
  refine ⟨vb, ⟨(hb.block _ hx.lt).trans hx.blk, ownsRow_below hx.row fun g hg => hb.block g (hx.row.lt g hg).2, hx.mp, hx.mr, hx.gl.keep hb.size (fun b h => hb.block b (Nat.lt_of_lt_of_le h hx.gl.big)), hx.glM⟩, Step.loose hX ((Step.refl _ _).below hb), ?_, ?_, ?_, World.ownsRow_nil _ _ _ _, rfl, fun g hg => by simp [Value.ownBlock] at hg, fun g hg => .inl (hx.row.lt g hg).2, hx.lt⟩
  · rw [← hW, heap_alloc_lt _ _ (by simp; omega)]; exact heap_one w _ _
  · rw [← hW, heap_alloc_lt _ _ (by simp)]; exact heap_two w _ _
  · have := heap_alloc_new ((w.alloc (.cells #[.int .i64 k, .string t, sl] 121)).alloc (.cells #[.int .i64 0, .int .i64 0, .string ⟨#[]⟩, .int .i64 0, .int .i64 0, .int .i64 0, .slice none 0 0] 57)) (.cells #[.int .i64 k, .int .i64 0, .string ⟨#[]⟩, .int .i64 b.off, .int .i64 (-1), .int .i64 (-1), .slice none 0 0] 57)
    rw [hW] at this
    simp only [World.size_alloc] at this
    exact this
set_option maxRecDepth 100000 in
set_option maxHeartbeats 3200000 in
theorem node_step (n : Nat) (ih : NodeOk n) : NodeOk (n + 1) := by
  intro x hxn hxk hok w p M src b hB h0 h1 h2 h3 v0 v1 v2 Ft hT hFt
  obtain ⟨k, t, ch⟩ := x
  obtain ⟨rfl, rfl, A, c0, rfl, hch⟩ := id (show _ ∧ _ by unfold TreeV at hT; exact hT)
  unfold Tree.ok at hok
  have ok60 := hok.2.1
  have okc := hok.2.2
  clear hok
  rw [Tree.yl_node hxk] at h1
  unfold Tree.wt at h3 hxn
  have hk100 : ¬ 100 ≤ k := hxk
  obtain ⟨L, hL⟩ : ∃ L, ch.length = L := ⟨_, rfl⟩
  have HT := Lib.hid hch
  have HL := Lib.hid hL
  have HFt := Lib.hid hFt
  have HOK := Lib.hid okc
  have HO60 := Lib.hid ok60
  have HB := Lib.hid hB
  have HS := Lib.hid (nin_start hB k t (.slice A L c0))
  rw [hL]
  simp only [Tree.ch] at h1
  have H1 := Lib.hid h1
  have H2 := Lib.hid h2
  have H3 := Lib.hid h3
  have hLb : L ≤ 800000 := by have := len_le_wts ch; omega
  have HN := Lib.hid hxn
  have HI := Lib.hid ih
  clear hT hch hL hFt okc ok60 hB h1 h2 h3 hxn hxk hk100 ih
  obtain ⟨_, e1, hplt⟩ := HB.out.cells
  go_enter Tryz.func51, Tryz.ntmps51
  generalize hx : Tree.mk k t ch = x
  have HX := Lib.hid hx
  clear hx
  go_wp2_with fail
  generalize hW : ((w.alloc _).alloc _).alloc _ = W
  obtain ⟨vb, hN⟩ := HS.out W hW
  clear hW HS e1
  have hb0 : NBd src b ch 0 ⟨newH k b.off, [], b⟩ (kidsL src ch ⟨newH k b.off, [], b⟩) := ⟨rfl, rfl, h0, Nat.le_refl _, by simp⟩
  generalize hR : kidsL src ch ⟨newH k b.off, [], b⟩ = R at hb0
  have HR := Lib.hid hR
  clear hR
  go_loopw [21] (fun i wr => ∃ (j : Nat) (s : NS) (vb v : Value) (xs : List Value), i = .int .i64 (j : Int) ∧ j ≤ L ∧ Hid (NBd src b ch j s R) ∧ NIn w p M src k t (.slice A L c0) wr s vb v xs) (fun i _ => L - (intOf i).toNat)
  case atStart => exact ⟨0, _, _, _, _, rfl, Nat.zero_le _, hb0, hN⟩
  case round =>
    clear hN hb0
    obtain ⟨j, s, vb, v, xs, rfl, hj, hbd, hN⟩ := hrel
    by_cases hlt : j < L
    · have hjI : (j : Int) < L := by omega
      have hjl : j < ch.length := by rw [HL.out]; exact hlt
      obtain ⟨tb, rfl, htb, htr⟩ := HT.out.resolve_left (by intro e; rw [e] at hjl; simp at hjl)
      obtain ⟨w0, w1, w2, d0, d1, d2, hTx⟩ := TreesV.get ch tb 0 j ch[j] htr (List.getElem?_eq_getElem hjl)
      have hdrop := List.drop_eq_getElem_cons hjl
      have hokx : ch[j].ok := oks_mem HOK.out _ (List.getElem_mem hjl)
      have hbd2 := hbd.out
      obtain ⟨t1, t2, t3⟩ := hN.tight
      have hFr := HFt.out tb htb
      have hsame : ∀ c, Ft c → wr.heap[c]? = w.heap[c]? := fun c hc => hN.step.block c (HFt.out c hc).1 (HFt.out c hc).2
      have hce := fun i => World.cell?_of_block (w := w) (w' := wr) (a := ⟨tb, i, none⟩) (hsame tb htb)
      rw [Nat.zero_add, ← hce] at d0 d1 d2
      have hTx2 := TreeV.keep (fun _ h => h) hsame _ _ _ _ hTx
      have htblt : tb < wr.heap.size := Nat.lt_of_lt_of_le hFr.1 hN.step.size
      have hwsz := hN.step.size
      have hle2 := lt_of_heap hN.node
      have hFr2 : ∀ c, Ft c → c < wr.heap.size ∧ ¬ Tight p vb M.x c := fun c hc => ⟨Nat.lt_of_lt_of_le (HFt.out c hc).1 hwsz, fun e => (hN.step.own c e).elim (HFt.out c hc).2 (fun e => by have := (HFt.out c hc).1; omega)⟩
      obtain ⟨b1, b2, b3, b4, b5⟩ := hbd2
      rw [hdrop] at b1 b2 b4
      rw [yls] at b2
      rw [wts] at b4
      have hwts : ch[j].wt + wts (ch.drop (j + 1)) ≤ wts ch := by
        have e : wts ch = wts (ch.take j) + (ch[j].wt + wts (ch.drop (j + 1))) := by
          conv => lhs; rw [← List.take_append_drop j ch]
          rw [wts_append, hdrop, wts]
        omega
      clear hce hsame hdrop hTx htr htb hbd HT
      generalize ch[j] = x1 at *
      obtain ⟨xk, xt, xch⟩ := x1
      obtain ⟨rfl, rfl, A2, c2, rfl, _⟩ := id (show _ ∧ _ by unfold TreeV at hTx2; exact hTx2)
      obtain ⟨m2, hm2⟩ : ∃ m2, xch.length = m2 := ⟨_, rfl⟩
      rw [hm2] at d2 hTx2
      have HM2 := Lib.hid hm2
      have hbl : Below wr.heap.size wr (wr.alloc (.cells #[.int .i64 xk, .string xt, .slice A2 m2 c2] 121)) := (Below.refl _ _).alloc (Nat.le_refl _) _
      have hN1 := hN.below hbl
      have hgq : ng ≤ w.heap.size + 2 := by
        have := hN.bat.glM p (.inl rfl)
        have := hN.pw
        omega
      have H1 := H1.out
      have H2 := H2.out
      have H3 := H3.out
      have HB2 := Lib.hid hN1
      have hwtp := Tree.wt_pos (.mk xk xt xch)
      have hylw := yl_le_wt (.mk xk xt xch)
      simp only [Tree.t] at hwtp
      clear hm2
      by_cases hx : 100 ≤ xk
      · rw [kidsL_tok (show 100 ≤ (Tree.mk xk xt xch).k from hx)] at b1
        rw [Tree.yl_leaf (show 100 ≤ (Tree.mk xk xt xch).k from hx)] at b2 hylw
        simp only [Tree.k, Tree.t] at b1 b2 hylw
        have hnum : xk = 105 → Numeral xt := by unfold Tree.ok at hokx; exact hokx.1
        have hcall : Calls Tryz.prog 87 #[.pointer (some ⟨p, 0, none⟩), .pointer (some ⟨w.heap.size + 1 + 1, 0, none⟩), .agg #[.int .i64 xk, .string xt, .slice A2 m2 c2]] _ _ := token_any _ p (Tight p vb M.x) src s.b ⟨vb, hN1.bat⟩ (w.heap.size + 2) s.h v hN1.node (t2 2 (by omega)) hgq xk xt (.slice A2 m2 c2) (by omega) b3 (by omega) (by omega) hnum
        have HC := Lib.hid hcall
        have HB1 := Lib.hid b1
        clear hcall hnum hokx b1 hN hN1 hTx2 hFr2 t1 t2 t3
        go_wp2_with fail
        refine HC.out.mono ?_
        rintro e w1 ⟨rfl, n1, M1, w9, n2, n3, n4⟩
        obtain ⟨vb1, hN2, _⟩ := HB2.out.call n2 n3
        have hN3 := hN2.upd n4 n1
        have hbd3 : NBd src b ch (j + 1) ⟨tokH s.h xk xt s.b.off (s.b.off + xt.size), s.ch, tokB xk xt s.b⟩ R := ⟨HB1.out, by simp only; rw [tokB_off]; omega, by simp only; rw [tokB_off]; omega, by simp only; have := tokB_ds xk xt s.b; omega, by simp only; omega⟩
        have HBD := Lib.hid hbd3
        clear n1 n2 n3 n4 hN2 hbd3 HC HB1
        go_wp2_with fail
        go_roundw
        case rel => exact ⟨j + 1, _, _, _, _, by go_num, by omega, HBD, hN3⟩
        case measure => simp [intOf]; omega
      · have hwn : (Tree.mk xk xt xch).wt < n := by have := HN.out; omega
        have hyl2 : s.b.off + (Tree.mk xk xt xch).yl ≤ src.size := by omega
        have hTx3 := TreeV.keep (fun _ h => h) (fun c hc => hbl.block c (hFr2 c hc).1) _ _ _ _ hTx2
        have hFr3 : ∀ c, Ft c → c < (wr.alloc (.cells #[.int .i64 xk, .string xt, .slice A2 m2 c2] 121)).heap.size ∧ ¬ Tight p vb M.x c := fun c hc => ⟨Nat.lt_of_lt_of_le (hFr2 c hc).1 hbl.size, (hFr2 c hc).2⟩
        have HC := Lib.hid (HI.out (.mk xk xt xch) hwn hx hokx _ p (Tight p vb M.x) src s.b ⟨vb, hN1.bat⟩ b3 hyl2 H2 (by omega) _ _ _ Ft hTx3 hFr3)
        rw [kidsL_node (show ¬ 100 ≤ (Tree.mk xk xt xch).k from hx)] at b1
        have ho := nodeL_off src (.mk xk xt xch) s.b hx
        have hd0 := nodeL_ds src (.mk xk xt xch) s.b
        have hex := nodeL_ext src (.mk xk xt xch) s.b hx b3
        generalize hres : nodeL src (.mk xk xt xch) s.b = res at *
        unfold NdPost at HC
        rw [hres] at HC
        obtain ⟨y, b'⟩ := res
        simp only at b1 ho hd0 hex HC
        have HB1 := Lib.hid b1
        clear hres hokx b1 hN hN1 hTx2 hTx3 hFr2 hFr3 t1 t2 t3 hwn hyl2
        go_wp2_with fail
        refine HC.out.mono ?_
        rintro e w2 ⟨us, M2, rfl, n1, n2, n3⟩
        obtain ⟨vb1, hN2, hsub⟩ := HB2.out.call n2 n3
        obtain ⟨A3, c3, rfl, n1c⟩ := n1.vals
        have hN2v := Lib.hid (show NodeV w2 (NF w.heap.size vb1 v w2) y (y.h.vals (.slice A3 y.ch.length c3)) from NodeV.keep (fun c hc => ⟨by have := hc.1; simp at this; omega, hc.2.1, fun e => hc.2.2 (hsub c (.inr e)), fun e => by have := (HB2.out.row.lt c e).2; have := hc.1; omega⟩) (fun _ _ => rfl) _ _ n1)
        have HS2 := Lib.hid hN2
        obtain ⟨hd, hhd⟩ : ∃ hd, y.h = hd := ⟨_, rfl⟩
        obtain ⟨m3, hm3⟩ : ∃ m3, y.ch.length = m3 := ⟨_, rfl⟩
        simp only [Hd.vals] at hN2v ⊢
        rw [hhd, hm3] at hN2v ⊢
        rw [hhd] at hex HB1
        have HH := Lib.hid hhd
        clear n1 n2 n3 n1c hsub HC hN2 HB2 d0 d1 d2 hhd hm3 htblt
        go_wp2_with fail
        have hbl2 : Below w2.heap.size w2 (w2.alloc (.cells #[.int .i64 hd.k, .int .i64 hd.v, .string hd.t, .int .i64 hd.s, .int .i64 hd.e, .int .i64 hd.nm, .slice A3 m3 c3] 57)) := (Below.refl _ _).alloc (Nat.le_refl _) _
        have hN3 := HS2.out.below hbl2
        have hCz := heap_alloc_new w2 (.cells #[.int .i64 hd.k, .int .i64 hd.v, .string hd.t, .int .i64 hd.s, .int .i64 hd.e, .int .i64 hd.nm, .slice A3 m3 c3] 57)
        have hcall : Calls Tryz.prog 88 #[.pointer (some ⟨w.heap.size + 1 + 1, 0, none⟩), .int .i64 hd.s, .int .i64 hd.e] _ _ := extend_any _ (w.heap.size + 2) s.h v hN3.node hd.s hd.e
        refine hcall.mono ?_
        rintro e w3 ⟨rfl, n4, n5⟩
        have hN4 := hN3.upd n5 n4
        have hl2 : w.heap.size + 3 ≤ w2.heap.size := by have := lt_of_heap HS2.out.node; omega
        have hC3 : w3.heap[w2.heap.size]? = some (.cells #[.int .i64 hd.k, .int .i64 hd.v, .string hd.t, .int .i64 hd.s, .int .i64 hd.e, .int .i64 hd.nm, .slice A3 m3 c3] 57 (0, 0)) := (n5.block _ (by omega)).trans hCz
        have hV3 := NodeV.keep (w' := w3) (F' := NF w.heap.size vb1 v w3) (fun c hc => ⟨hc.1, by have := n5.size; rw [n5.size]; have := hc.2.1; simp; omega, hc.2.2⟩) (fun c hc => (n5.block c (by have := hc.1; omega)).trans (hbl2.block c hc.2.1)) _ _ hN2v.out
        have hvl := Lib.hid HS2.out.row.lt
        have HV3 := Lib.hid hV3
        have HN4 := Lib.hid hN4
        clear hcall hN3 n4 n5 hCz HS2 hbl2 hN2v hV3
        obtain ⟨g0, g1, g2, g3, g4, g5, g6, gf⟩ := hcells hN4.node
        have hrow := hN4.row
        obtain ⟨n, hn⟩ : ∃ n, s.ch.length = n := ⟨_, rfl⟩
        obtain ⟨Av, cv, rfl⟩ : ∃ Av cv, v = .slice Av n cv := by
          obtain ⟨Av, cv, e⟩ := own_slice hrow
          exact ⟨Av, cv, by rw [e, ← hn]⟩
        have hrow2 : w3.ownsRow (w.heap.size + 3) 57 7 (.slice Av n cv) n xs := by rw [← hn] at hrow ⊢; exact hrow
        have g6' : w3.cell? ⟨w.heap.size + 1 + 1, 6, none⟩ = some (.slice Av n cv) := g6
        have f6' : w3.frozen? ⟨w.heap.size + 1 + 1, 6, none⟩ = false := gf 6
        have hq3 : w.heap.size + 1 + 1 < w3.heap.size := lt_of_heap hN4.node
        have hC3lt := lt_of_heap hC3
        have hxl : xs.length = n * 7 := hrow2.1
        have hnI : (0 : Int) ≤ n := by omega
        have hnI2 : (n : Int) < ((n + 1 : Nat) : Int) := by omega
        have hnI3 : (n : Int) < (n : Int) + 1 := by omega
        have hb1 : n + 1 ≤ maxLen := by unfold maxLen; omega
        have hb2 : (n + 1) * 80 ≤ 140737488355328 := by omega
        obtain ⟨i0, hi0, hz0, hz1, hz2⟩ := info_parts info_node
        have hown0 := Lib.hid ((hrow2.alloc (.cells #[.int .i64 0, .int .i64 0, .string ⟨#[]⟩, .int .i64 0, .int .i64 0, .int .i64 0, .slice none 0 0] 57)).drew)
        have hin : ∀ u ∈ [Value.int .i64 0, .int .i64 0, .string ⟨#[]⟩, .int .i64 0, .int .i64 0, .int .i64 0, .slice none 0 0], u.oneCell' = true := by simp [Value.oneCell']
        have e0 := cell_of hC3 0 _ rfl
        have e1 := cell_of hC3 1 _ rfl
        have e2 := cell_of hC3 2 _ rfl
        have e3 := cell_of hC3 3 _ rfl
        have e4 := cell_of hC3 4 _ rfl
        have e5 := cell_of hC3 5 _ rfl
        have e6 := cell_of hC3 6 _ rfl
        have hgl3 := hrow2.lt
        have hK : ∀ (w4 : World) (gg cap' : Nat), ((w3.alloc (.cells #[.int .i64 0, .int .i64 0, .string ⟨#[]⟩, .int .i64 0, .int .i64 0, .int .i64 0, .slice none 0 0] 57)).drew).grownBy w4 (Value.slice Av n cv).ownBlock →
            w4.ownsRow (w.heap.size + 3) 57 7 (.slice (some ⟨gg, 0, none⟩) (n + 1) cap') (n + 1) (xs ++ [.int .i64 0, .int .i64 0, .string ⟨#[]⟩, .int .i64 0, .int .i64 0, .int .i64 0, .slice none 0 0]) → ((Value.slice Av n cv).ownBlock = some gg ∨ gg = w3.heap.size + 1) →
            (w4.cell? ⟨w.heap.size + 1 + 1, 6, none⟩ = some (.slice Av n cv) ∧ w4.frozen? ⟨w.heap.size + 1 + 1, 6, none⟩ = false ∧ w.heap.size + 1 + 1 < w4.heap.size) ∧
            (w4.cell? ⟨w2.heap.size, 0, none⟩ = some (.int .i64 hd.k) ∧ w4.cell? ⟨w2.heap.size, 1, none⟩ = some (.int .i64 hd.v) ∧ w4.cell? ⟨w2.heap.size, 2, none⟩ = some (.string hd.t) ∧ w4.cell? ⟨w2.heap.size, 3, none⟩ = some (.int .i64 hd.s) ∧ w4.cell? ⟨w2.heap.size, 4, none⟩ = some (.int .i64 hd.e) ∧ w4.cell? ⟨w2.heap.size, 5, none⟩ = some (.int .i64 hd.nm) ∧ w4.cell? ⟨w2.heap.size, 6, none⟩ = some (.slice A3 m3 c3)) ∧ (w4.cell? ⟨gg, n * 7, none⟩ = some (.int .i64 0) ∧ w4.cell? ⟨gg, n * 7 + 1, none⟩ = some (.int .i64 0) ∧ w4.cell? ⟨gg, n * 7 + 2, none⟩ = some (.string ⟨#[]⟩) ∧ w4.cell? ⟨gg, n * 7 + 3, none⟩ = some (.int .i64 0) ∧ w4.cell? ⟨gg, n * 7 + 4, none⟩ = some (.int .i64 0) ∧ w4.cell? ⟨gg, n * 7 + 5, none⟩ = some (.int .i64 0) ∧ w4.cell? ⟨gg, n * 7 + 6, none⟩ = some (.slice none 0 0)) ∧ (w4.frozen? ⟨gg, n * 7, none⟩ = false ∧ w4.frozen? ⟨gg, n * 7 + 1, none⟩ = false ∧ w4.frozen? ⟨gg, n * 7 + 2, none⟩ = false ∧ w4.frozen? ⟨gg, n * 7 + 3, none⟩ = false ∧ w4.frozen? ⟨gg, n * 7 + 4, none⟩ = false ∧ w4.frozen? ⟨gg, n * 7 + 5, none⟩ = false ∧ w4.frozen? ⟨gg, n * 7 + 6, none⟩ = false) ∧ gg ≠ w.heap.size + 1 + 1 ∧ gg < w4.heap.size := by
          intro w4 gg cap' hg ho hat
          have hsz : ((w3.alloc (.cells #[.int .i64 0, .int .i64 0, .string ⟨#[]⟩, .int .i64 0, .int .i64 0, .int .i64 0, .slice none 0 0] 57)).drew).heap.size = w3.heap.size + 1 := by simp
          have hB := hg.size
          rw [hsz] at hB
          have hg1 : w3.grownBy w4 (Value.slice Av n cv).ownBlock := World.grownBy.trans (World.grownBy.trans (World.grownBy_alloc w3 (.cells #[.int .i64 0, .int .i64 0, .string ⟨#[]⟩, .int .i64 0, .int .i64 0, .int .i64 0, .slice none 0 0] 57) _) (c := (w3.alloc (.cells #[.int .i64 0, .int .i64 0, .string ⟨#[]⟩, .int .i64 0, .int .i64 0, .int .i64 0, .slice none 0 0] 57)).drew) ⟨rfl, rfl, rfl, Nat.le_refl _, fun _ _ _ => rfl⟩) hg
          have hneq : some (w.heap.size + 1 + 1) ≠ (Value.slice Av n cv).ownBlock := fun e => by have := (hgl3 _ e.symm).1; omega
          have hneC : some w2.heap.size ≠ (Value.slice Av n cv).ownBlock := fun e => by
            have := (hvl.out _ e.symm).2
            omega
          have k1 := fun j => (hg1.cell_far ⟨w.heap.size + 1 + 1, j, none⟩ hq3 hneq)
          have k2 := fun j => (hg1.frozen_far ⟨w.heap.size + 1 + 1, j, none⟩ hq3 hneq)
          have k3 := fun j => (hg1.cell_far ⟨w2.heap.size, j, none⟩ hC3lt hneC)
          have k4 := fun j (hj : j < 7) => ho.cellAt (n * 7 + j) (by omega)
          have hgg := (ho.lt gg rfl).1
          refine ⟨⟨(k1 _).trans g6', (k2 _).trans f6', by omega⟩, ⟨(k3 _).trans e0, (k3 _).trans e1, (k3 _).trans e2, (k3 _).trans e3, (k3 _).trans e4, (k3 _).trans e5, (k3 _).trans e6⟩, ⟨?_, ?_, ?_, ?_, ?_, ?_, ?_⟩, ⟨ho.frozenAt _, ho.frozenAt _, ho.frozenAt _, ho.frozenAt _, ho.frozenAt _, ho.frozenAt _, ho.frozenAt _⟩, by omega, (ho.lt gg rfl).2⟩
          · have := k4 0 (by omega); rw [Nat.add_zero] at this; rw [this, List.getElem?_append_right (by omega)]; simp [hxl]
          · rw [k4 1 (by omega), List.getElem?_append_right (by omega), hxl, show n * 7 + 1 - n * 7 = 1 by omega]; rfl
          · rw [k4 2 (by omega), List.getElem?_append_right (by omega), hxl, show n * 7 + 2 - n * 7 = 2 by omega]; rfl
          · rw [k4 3 (by omega), List.getElem?_append_right (by omega), hxl, show n * 7 + 3 - n * 7 = 3 by omega]; rfl
          · rw [k4 4 (by omega), List.getElem?_append_right (by omega), hxl, show n * 7 + 4 - n * 7 = 4 by omega]; rfl
          · rw [k4 5 (by omega), List.getElem?_append_right (by omega), hxl, show n * 7 + 5 - n * 7 = 5 by omega]; rfl
          · rw [k4 6 (by omega), List.getElem?_append_right (by omega), hxl, show n * 7 + 6 - n * 7 = 6 by omega]; rfl
        have hfin : ∀ (w4 : World) (gg cap' : Nat), ((w3.alloc (.cells #[.int .i64 0, .int .i64 0, .string ⟨#[]⟩, .int .i64 0, .int .i64 0, .int .i64 0, .slice none 0 0] 57)).drew).grownBy w4 (Value.slice Av n cv).ownBlock →
            w4.ownsRow (w.heap.size + 3) 57 7 (.slice (some ⟨gg, 0, none⟩) (n + 1) cap') (n + 1) (xs ++ [.int .i64 0, .int .i64 0, .string ⟨#[]⟩, .int .i64 0, .int .i64 0, .int .i64 0, .slice none 0 0]) → ((Value.slice Av n cv).ownBlock = some gg ∨ gg = w3.heap.size + 1) →
            ∃ (v' : Value) (xs' : List Value), NIn w p M src k t (.slice (some ⟨tb, 0, none⟩) L c0) ((((((((w4.setCell ⟨gg, n * 7, none⟩ (.int .i64 hd.k)).setCell ⟨gg, n * 7 + 1, none⟩ (.int .i64 hd.v)).setCell ⟨gg, n * 7 + 2, none⟩ (.string hd.t)).setCell ⟨gg, n * 7 + 3, none⟩ (.int .i64 hd.s)).setCell ⟨gg, n * 7 + 4, none⟩ (.int .i64 hd.e)).setCell ⟨gg, n * 7 + 5, none⟩ (.int .i64 hd.nm)).setCell ⟨gg, n * 7 + 6, none⟩ (.slice A3 m3 c3)).setCell ⟨w.heap.size + 1 + 1, 6, none⟩ (.slice (some ⟨gg, 0, none⟩) (n + 1) cap')) ⟨extendH s.h hd.s hd.e, s.ch ++ [y], b'⟩ vb1 v' xs' := by
          intro w4 gg cap' hg ho hat
          have hg1 : w3.grownBy w4 (Value.slice Av n cv).ownBlock := World.grownBy.trans (World.grownBy.trans (World.grownBy_alloc w3 (.cells #[.int .i64 0, .int .i64 0, .string ⟨#[]⟩, .int .i64 0, .int .i64 0, .int .i64 0, .slice none 0 0] 57) _) (c := (w3.alloc (.cells #[.int .i64 0, .int .i64 0, .string ⟨#[]⟩, .int .i64 0, .int .i64 0, .int .i64 0, .slice none 0 0] 57)).drew) ⟨rfl, rfl, rfl, Nat.le_refl _, fun _ _ _ => rfl⟩) hg
          have hN5 := HN4.out.add HV3.out hn hg1 ho (hat.imp id (fun e => by omega)) rfl
          exact ⟨_, _, hN5⟩
        have HHK := Lib.hid hK
        have HF := Lib.hid hfin
        clear hK hfin hrow hrow2 hN4 g0 g1 g2 g3 g4 g5 g6 gf hgl3 hC3 hbl
        have HNN := Lib.hid hn
        clear hn
        go_wp2_with fail
        go_region_law
          ((refine step_append_lies _ (by rfl) (.tmp 40) (.tmp 43) _ (by rfl) (w.heap.size + 3) 57 i0 _ 7 80 Tryz.underlying55 hi0 hz0 hz1 hz2 rfl (by decide) (.slice Av n cv) n xs (by rfl) hown0.out
              ⟨w3.heap.size, 0, none⟩ 1 1 [.int .i64 0, .int .i64 0, .string ⟨#[]⟩, .int .i64 0, .int .i64 0, .int .i64 0, .slice none 0 0] (by rfl) (by rfl) (World.news_of_block (cs := #[_, _, _, _, _, _, _]) (t := 57) (fr := (0, 0)) (heap_alloc_new _ _)) hin (by decide) hb1 hb2 (by simp; omega) (w3.heap.size + 1) (by simp) ?_; intro gg cap' w4 hown1 hgrow hat hlt; obtain ⟨⟨k1, k2, k3⟩, ⟨k4, k5, k6, k7, k8, k9, k10⟩, ⟨l0, l1, l2, l3, l4, l5, l6⟩, ⟨m0, m1, m2, m3, m4, m5, m6⟩, k13, k14⟩ := HHK.out _ _ _ hgrow hown1 hat))
        all_goals
          obtain ⟨v', xs', hN6⟩ := HF.out w4 gg cap' hgrow hown1 hat
          have hbd3 : NBd src b ch (j + 1) ⟨extendH s.h hd.s hd.e, s.ch ++ [y], b'⟩ R := ⟨HB1.out, by simp only; rw [ho]; omega, by simp only; rw [ho]; omega, by simp only; omega, by simp only [List.length_append, List.length_singleton]; omega⟩
          have HBD := Lib.hid hbd3
          have HN6 := Lib.hid hN6
          clear hbd3 hN6
          first
            | rw [set_comm _ (a := ⟨w.heap.size + 1 + 1, 6, none⟩) (b := ⟨gg, n * 7, none⟩) (fun e => k13 e.symm), set_comm _ (a := ⟨w.heap.size + 1 + 1, 6, none⟩) (b := ⟨gg, n * 7 + 1, none⟩) (fun e => k13 e.symm), set_comm _ (a := ⟨w.heap.size + 1 + 1, 6, none⟩) (b := ⟨gg, n * 7 + 2, none⟩) (fun e => k13 e.symm), set_comm _ (a := ⟨w.heap.size + 1 + 1, 6, none⟩) (b := ⟨gg, n * 7 + 3, none⟩) (fun e => k13 e.symm), set_comm _ (a := ⟨w.heap.size + 1 + 1, 6, none⟩) (b := ⟨gg, n * 7 + 4, none⟩) (fun e => k13 e.symm), set_comm _ (a := ⟨w.heap.size + 1 + 1, 6, none⟩) (b := ⟨gg, n * 7 + 5, none⟩) (fun e => k13 e.symm), set_comm _ (a := ⟨w.heap.size + 1 + 1, 6, none⟩) (b := ⟨gg, n * 7 + 6, none⟩) (fun e => k13 e.symm)]
            | skip
          go_wp2_with fail
          go_roundw
          case rel => exact ⟨j + 1, _, _, _, _, by go_num, by omega, HBD, HN6.out⟩
          case measure => simp [intOf]; omega
    · have hjI : ¬ (j : Int) < L := by omega
      have hbd2 := hbd.out
      have hdrop : ch.drop j = [] := List.drop_eq_nil_of_le (by rw [HL.out]; omega)
      obtain ⟨b1, b2, b3, b4, b5⟩ := hbd2
      rw [hdrop] at b1 b2 b4
      have hs : s = R := by rw [← b1]; simp [kidsL]
      subst hs
      obtain ⟨m, hm⟩ : ∃ m, s.ch.length = m := ⟨_, rfl⟩
      obtain ⟨Av, cv, rfl⟩ : ∃ Av cv, v = .slice Av m cv := by
        obtain ⟨Av, cv, e⟩ := own_slice hN.row
        exact ⟨Av, cv, by rw [e, ← hm]⟩
      obtain ⟨g0, g1, g2, g3, g4, g5, g6, gf⟩ := hcells hN.node
      have g0' : wr.cell? ⟨w.heap.size + 1 + 1, 0, none⟩ = some (.int .i64 s.h.k) := g0
      have g1' : wr.cell? ⟨w.heap.size + 1 + 1, 1, none⟩ = some (.int .i64 s.h.v) := g1
      have g2' : wr.cell? ⟨w.heap.size + 1 + 1, 2, none⟩ = some (.string s.h.t) := g2
      have g3' : wr.cell? ⟨w.heap.size + 1 + 1, 3, none⟩ = some (.int .i64 s.h.s) := g3
      have g4' : wr.cell? ⟨w.heap.size + 1 + 1, 4, none⟩ = some (.int .i64 s.h.e) := g4
      have g5' : wr.cell? ⟨w.heap.size + 1 + 1, 5, none⟩ = some (.int .i64 s.h.nm) := g5
      have g6' : wr.cell? ⟨w.heap.size + 1 + 1, 6, none⟩ = some (.slice Av m cv) := g6
      have f4' : wr.frozen? ⟨w.heap.size + 1 + 1, 4, none⟩ = false := gf 4
      have hq3 : w.heap.size + 1 + 1 < wr.heap.size := lt_of_heap hN.node
      have hN2 : NIn w p M src k t (.slice A L c0) (wr.setCell ⟨w.heap.size + 1 + 1, 4, none⟩ (.int .i64 (max s.h.e s.h.s))) { s with h := maxH s.h } vb (.slice Av m cv) xs := hN.upd ((Upd.refl _ _).set 4 _) (heap_set hN.node 4 _)
      have hkk : s.h.k = k := by have := kidsL_k src ch ⟨newH k b.off, [], b⟩; rw [HR.out] at this; exact this
      have hext := kidsL_ext src ch ⟨newH k b.off, [], b⟩ b.off h0 (Int.le_refl _) (.inl ⟨show (-1 : Int) < 0 by decide, rfl⟩)
      rw [HR.out] at hext
      simp only at hext
      have hmx := maxH_ext hext h0 (by omega)
      have h1 := H1.out
      have h3 := H3.out
      have hfin := nfinish_any _ p (Tight p vb M.x) src s.b ⟨vb, hN2.bat⟩ (maxH s.h) s.ch Av cv (fun c => w.heap.size + 3 ≤ c ∧ c < (wr.setCell ⟨w.heap.size + 1 + 1, 4, none⟩ (.int .i64 (max s.h.e s.h.s))).heap.size ∧ vb.ownBlock ≠ some c)
        (by
          rcases hN2.row.2 with ⟨e, hz⟩ | ⟨g, cap, cur, e, hg, hh, _⟩
          · exact .inl (List.eq_nil_of_length_eq_zero hz)
          · right
            simp only at e
            injection e with e1 e2 e3
            subst e1
            refine ⟨g, 0, rfl, ⟨hg, lt_of_heap hh, fun e => hN2.apart g rfl e⟩, RowN.nodes g _ _ 0 (RowN.keep (fun c hc => ⟨hc.1, hc.2.1, hc.2.2.1⟩) (fun _ _ => rfl) _ _ hN2.rown) fun j u hu => ?_⟩
            have := hN2.row.cells (g := g) rfl j u hu
            rw [addr0] at this
            rw [Nat.zero_add]
            exact this)
        (fun g hg => ⟨hg.2.1, fun e => e.elim (fun e => by have := hN2.pw; have := hg.1; omega) hg.2.2⟩)
        (fun h60 => by
          have hk : k = 60 := hkk ▸ h60
          have := kidsL_ne src ch ⟨newH k b.off, [], b⟩ (HO60.out hk)
          rw [HR.out] at this
          exact this)
        (fun _ => ⟨by omega, hmx.2.1, by omega⟩) (by have := b4; rw [wts] at this; omega)
      rw [hm] at hfin
      have hfin2 : Calls Tryz.prog 89 #[.pointer (some ⟨p, 0, none⟩), .agg #[.int .i64 s.h.k, .int .i64 s.h.v, .string s.h.t, .int .i64 s.h.s, .int .i64 (max s.h.e s.h.s), .int .i64 s.h.nm, .slice Av m cv]] _ _ := hfin
      have HFIN := Lib.hid hfin2
      have HN2 := Lib.hid hN2
      clear g0 g1 g2 g3 g4 g5 g6 gf hN hbd hdrop b1 hN2 hfin hfin2 hext hmx hkk
      go_wp2_with fail
      refine HFIN.out.mono ?_
      rintro e w4 ⟨us, M4, rfl, q1, q2, q3⟩
      obtain ⟨A4, c4, rfl, q1c⟩ := q1.vals
      obtain ⟨y, hy⟩ : ∃ y, finN src (maxH s.h) s.ch = y := ⟨_, rfl⟩
      rw [hy] at q1
      simp only [hy, Hd.vals]
      obtain ⟨hd, hhd⟩ : ∃ hd, y.h = hd := ⟨_, rfl⟩
      obtain ⟨m4, hm4⟩ : ∃ m4, y.ch.length = m4 := ⟨_, rfl⟩
      obtain ⟨t1, t2, t3⟩ := HN2.out.tight
      have hRm : w4.heap[w.heap.size + 1]? = _ := (q3.block _ (lt_of_heap HN2.out.res) (t2 1 (by omega))).trans HN2.out.res
      have hM4 : ¬ M4 (w.heap.size + 1) := fun e => (q3.own _ e).elim (t2 1 (by omega)) (fun e => by have := lt_of_heap HN2.out.res; omega)
      have r0 := cell_of hRm 0 _ rfl
      have r1 := cell_of hRm 1 _ rfl
      have r2 := cell_of hRm 2 _ rfl
      have r3 := cell_of hRm 3 _ rfl
      have r4 := cell_of hRm 4 _ rfl
      have r5 := cell_of hRm 5 _ rfl
      have r6 := cell_of hRm 6 _ rfl
      have f0 := Lib.frozen_of_heap hRm 0
      have f1 := Lib.frozen_of_heap hRm 1
      have f2 := Lib.frozen_of_heap hRm 2
      have f3 := Lib.frozen_of_heap hRm 3
      have f4 := Lib.frozen_of_heap hRm 4
      have f5 := Lib.frozen_of_heap hRm 5
      have f6 := Lib.frozen_of_heap hRm 6
      have hR1 := lt_of_heap hRm
      have hng : ng ≤ w.heap.size + 1 := by
        have := HN2.out.bat.glM p (.inl rfl)
        have := HN2.out.pw
        omega
      have hsz4 : wr.heap.size ≤ w4.heap.size := by have := q3.size; simpa using this
      have hFn : ∀ (wf : World), Upd (w.heap.size + 1) w4 wf → NdPost M w p src (.mk k t ch) b (.returned (.agg #[.int .i64 y.h.k, .int .i64 y.h.v, .string y.h.t, .int .i64 y.h.s, .int .i64 y.h.e, .int .i64 y.h.nm, .slice A4 y.ch.length c4])) wf := by
        intro wf hu
        have e1 : nodeL src (.mk k t ch) b = (y, finB (maxH s.h) s.b) := by
          unfold nodeL
          simp only
          rw [HR.out, hy]
        unfold NdPost
        rw [e1]
        refine ⟨_, M4, rfl, ?_, q2.upd hu hM4 hng, (HN2.out.step.trans q3).upd hu (by omega)⟩
        refine NodeV.keep (fun c hc => ⟨by have := hc.1; omega, by rw [hu.size]; have := hc.2.1; have := q3.size; omega, fun e => ?_⟩) (fun c hc => hu.block c (by have := hc.1; omega)) _ _ q1
        rcases q3.own c e with e | e
        · exact e.elim (fun e => by have := HN2.out.pw; have := hc.1; omega) hc.2.2
        · have := hc.2.1; omega
      have HFn := Lib.hid hFn
      have HRm := Lib.hid hRm
      have HXX := HX.out
      rw [hhd, hm4]
      rw [hhd, hm4] at HFn
      have HD := Lib.hid hhd
      have HM4 := Lib.hid hm4
      clear q1 q2 q3 q1c hFn hRm hM4 hhd hm4 t1 t2 t3 hy HX
      subst HXX
      go_wp2_with fail
      generalize hWf : World.setCell _ ⟨w.heap.size + 1, 6, none⟩ _ = Wf
      obtain ⟨hz, hu⟩ := heap_set7p HRm.out _ _ _ _ _ _ _ Wf hWf
      clear hWf
      refine bodyPost_ret (results_cell_row (P := Tryz.prog) (ty := 57) rfl _ _ (w.heap.size + 1) 57 _ _ _ rfl hz Tryz.underlying57 rfl (by kernel_rfl)) rfl ?_
      exact HFn.out Wf hu
theorem bnode_any : ∀ n, NodeOk n
  | 0 => fun x h => by omega
  | n + 1 => node_step n (bnode_any n)

theorem strEnd_bd : ∀ (m : Nat) (l : List UInt8) (i n : Nat), l.length ≤ m → strEnd l i = some n → i < n ∧ n ≤ i + l.length
  | _, [], i, n, _, h => by simp [strEnd] at h
  | 0, c :: r, i, n, hm, h => by simp at hm
  | m + 1, c :: r, i, n, hm, h => by
    simp only [List.length_cons] at hm ⊢
    unfold strEnd at h
    split at h
    · cases h
    · split at h
      · injection h with h; omega
      · split at h
        · cases r with
          | nil => cases h
          | cons d r' =>
            simp only at h
            split at h
            · have := strEnd_bd m (d :: r') (i + 1) n (by omega) h
              omega
            · have := strEnd_bd m r' (i + 2) n (by simp only [List.length_cons] at hm; omega) h
              simp only [List.length_cons]; omega
        · have := strEnd_bd m r (i + 1) n (by omega) h
          omega
theorem scanL_pos (p : UInt8 → Bool) (c : UInt8) (r : List UInt8) (h : p c = true) : 1 ≤ scanL p (c :: r) := by
  unfold scanL
  rw [List.takeWhile_cons, if_pos h]
  simp
theorem firstL_bd : ∀ (l : List UInt8), l ≠ [] → 1 ≤ (firstL l).1 ∧ (firstL l).1 ≤ l.length
  | [], h => absurd rfl h
  | c :: r, _ => by
    rw [firstL_cons]
    have hle := fun p => scanL_le p (c :: r)
    have hlen : 1 ≤ (c :: r).length := by simp
    split
    · next h => exact ⟨scanL_pos _ _ _ h, hle _⟩
    · split
      · next h =>
        refine ⟨scanL_pos _ _ _ ?_, hle _⟩
        cases r with
        | nil => simp at h
        | cons d r' =>
          simp only [List.take_succ_cons, List.cons.injEq] at h
          rw [h.1]; decide
      · split
        · next h => exact ⟨scanL_pos _ _ _ (by unfold isWordB; rw [h]; rfl), hle _⟩
        · split
          · next h => exact ⟨scanL_pos _ _ _ h, hle _⟩
          · split
            · rw [strL_eq]
              cases hZ : strEnd (List.drop 1 (c :: r)) 1 with
              | some n =>
                have := strEnd_bd _ _ _ _ (Nat.le_refl _) hZ
                simp only [List.drop_succ_cons, List.drop_zero] at this
                show 1 ≤ n ∧ n ≤ _
                simp only [List.length_cons]; omega
              | none =>
                have := scanL_le notNlB r
                unfold scanL at this
                show 1 ≤ 1 + _ ∧ 1 + _ ≤ _
                simp only [List.drop_succ_cons, List.drop_zero, List.length_cons]; omega
            · split
              · next h => exact ⟨by decide, by have := h.1; show 2 ≤ _; omega⟩
              · split
                · exact ⟨Nat.le_refl _, hlen⟩
                · exact ⟨Nat.le_refl _, hlen⟩
theorem tokensG_eq : ∀ (m n : Nat) (l : List UInt8), l.length ≤ m → l.length ≤ n → tokensG m l = tokensG n l
  | 0, 0, l, _, _ => rfl
  | 0, n + 1, l, hm, _ => by
    have : l = [] := List.eq_nil_of_length_eq_zero (by omega)
    subst this; rfl
  | m + 1, 0, l, _, hn => by
    have : l = [] := List.eq_nil_of_length_eq_zero (by omega)
    subst this; rfl
  | m + 1, n + 1, l, hm, hn => by
    unfold tokensG
    split
    · rfl
    · next h =>
      have hb := firstL_bd l h
      have hd : (l.drop (firstL l).1).length = l.length - (firstL l).1 := List.length_drop
      rw [tokensG_eq m n (l.drop (firstL l).1) (by omega) (by omega)]
theorem tokensL_cons (l : List UInt8) (h : l ≠ []) : tokensL l = ⟨(firstL l).2, ofL (l.take (firstL l).1)⟩ :: tokensL (l.drop (firstL l).1) := by
  have hb := firstL_bd l h
  have hd : (l.drop (firstL l).1).length = l.length - (firstL l).1 := List.length_drop
  unfold tokensL
  obtain ⟨m, hm⟩ : ∃ m, l.length = m + 1 := ⟨l.length - 1, by omega⟩
  rw [hm]
  conv => lhs; unfold tokensG
  rw [if_neg h, tokensG_eq m _ _ (by omega) (Nat.le_refl _)]
def tokCells (l : List Tok) : List Value := l.flatMap fun x => [.int .i64 x.k, .string x.t]
theorem tokCells_snoc (l : List Tok) (x : Tok) : tokCells (l ++ [x]) = tokCells l ++ [.int .i64 x.k, .string x.t] := by simp [tokCells]
theorem tokCells_at (l : List Tok) (k : Nat) (x : Tok) (h : l[k]? = some x) : (tokCells l)[k * 2]? = some (.int .i64 x.k) ∧ (tokCells l)[k * 2 + 1]? = some (.string x.t) := by
  induction l generalizing k with
  | nil => simp at h
  | cons y ys ih =>
    cases k with
    | zero =>
      simp only [List.getElem?_cons_zero, Option.some.injEq] at h
      subst h
      exact ⟨rfl, rfl⟩
    | succ k =>
      simp only [List.getElem?_cons_succ] at h
      have := ih k h
      have e : tokCells (y :: ys) = [.int .i64 y.k, .string y.t] ++ tokCells ys := rfl
      rw [e, List.getElem?_append_right (by simp; omega), List.getElem?_append_right (by simp; omega)]
      simp only [List.length_cons, List.length_nil]
      rw [show (k + 1) * 2 - (0 + 1 + 1) = k * 2 by omega, show (k + 1) * 2 + 1 - (0 + 1 + 1) = k * 2 + 1 by omega]
      exact this
theorem toks_of_own {w : World} {B : Nat} {v : Value} {l : List Tok} (h : w.ownsRow B 142 2 v l.length (tokCells l)) : ∃ A c, v = .slice A l.length c ∧ ToksAt w (fun b => B ≤ b ∧ b < w.heap.size) A l := by
  rcases h.2 with ⟨rfl, h0⟩ | ⟨g, c, cur, rfl, hb, hh, _⟩
  · exact ⟨none, 0, by rw [h0], fun hp => by omega⟩
  · refine ⟨_, c, rfl, fun hp => ⟨g, rfl, ⟨hb, lt_of_heap hh⟩, fun k x hx => ?_⟩⟩
    have hk : k < l.length := (List.getElem?_eq_some_iff.1 hx).1
    obtain ⟨h1, h2⟩ := tokCells_at l k x hx
    exact ⟨(h.cellAt _ (by omega)).trans h1, (h.cellAt _ (by omega)).trans h2⟩
end Go.Proofs.YtpibenilagloaaaGreatDoor
