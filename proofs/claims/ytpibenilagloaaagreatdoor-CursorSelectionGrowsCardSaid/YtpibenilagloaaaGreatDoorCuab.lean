import Derived.Test.YtpibenilagloaaaGreatDoorCuaa
import Derived.Test.YtpibenilagloaaaGreatDoorMxag
import Derived.Test.YtpibenilagloaaaGreatDoorMxbe
import Derived.Test.YtpibenilagloaaaGreatDoorMxah
import Derived.Test.YtpibenilagloaaaGreatDoorShelf3
import Derived.Shelf.SlicesQ.IndexFunc
/-
  cursor.enclosing: the walk.
-/
namespace Go.Proofs.YtpibenilagloaaaGreatDoor
open Go.RowKit
set_option linter.unusedVariables false

mutual
theorem nodeL_sz (src : ByteArray) : ∀ (x : Tree) (b : BS), (nodeL src x b).1.sz ≤ x.wt
  | .mk k t ch, b => by
    unfold nodeL Tree.wt
    simp only
    have h := kidsL_sz src ch ⟨newH k b.off, [], b⟩
    simp only [szs, Nat.zero_add] at h
    generalize kidsL src ch ⟨newH k b.off, [], b⟩ = R at *
    have : (finN src (maxH R.h) R.ch).sz ≤ 1 + szs R.ch := by
      unfold finN
      split
      · cases hR : R.ch with
        | nil =>
          show (Node.mk _ (default : Node).ch).sz ≤ _
          unfold Node.sz
          show 1 + szs (Node.ch (.mk default [])) ≤ _
          simp [Node.ch, szs]
        | cons y r =>
          show (Node.mk _ y.ch).sz ≤ _
          rw [szs]
          cases y
          simp only [Node.ch, Node.sz]
          omega
      · split
        · simp [Node.sz, szs]
        · simp [Node.sz]
    omega
theorem kidsL_sz (src : ByteArray) : ∀ (l : List Tree) (s : NS), szs (kidsL src l s).ch ≤ szs s.ch + wts l
  | [], s => by simp [kidsL, wts]
  | x :: r, s => by
    by_cases h : 100 ≤ x.k
    · rw [kidsL_tok h, wts]
      have h1 := kidsL_sz src r ⟨tokH s.h x.k x.t s.b.off (s.b.off + x.t.size), s.ch, tokB x.k x.t s.b⟩
      simp only at h1
      omega
    · rw [kidsL_node h, wts]
      have h1 := kidsL_sz src r ⟨extendH s.h (nodeL src x s.b).1.h.s (nodeL src x s.b).1.h.e, s.ch ++ [(nodeL src x s.b).1], (nodeL src x s.b).2⟩
      have h2 := nodeL_sz src x s.b
      simp only [szs_append, szs] at h1
      omega
end
theorem astN_sz (src : ByteArray) (ch : List Tree) (h : wts ch ≤ 602000) : (astN src ch).sz ≤ 700000 := by
  have h1 := nodeL_sz src (.mk 1 .empty ch) ⟨0, []⟩
  have h2 : (Tree.mk 1 ByteArray.empty ch).wt ≤ 602001 := by unfold Tree.wt; show 0 + 1 + wts ch ≤ 602001; omega
  unfold astN astR
  generalize nodeL src (.mk 1 .empty ch) ⟨0, []⟩ = r at *
  obtain ⟨⟨hd, c⟩, b⟩ := r
  simp only [Node.sz, Node.ch] at h1 ⊢
  omega
def rg3D : Dat Rg3 := flatD Rg3.cells 3 (by decide) (fun _ => rfl) (fun x v hv => by simp [Rg3.cells] at hv; rcases hv with rfl | rfl | rfl <;> rfl)
theorem info_rg : (Tryz.prog.info? 28).map (fun i => (i.zero, i.size, i.bytes)) = some (some (.agg #[.int .i64 0, .int .i64 0, .int .i64 0]), 3, 24) := by kernel_rfl
theorem own_one (w : World) (base : Nat) (e : TypeId) (size : Nat) (cur : Array Value) (hb : base ≤ w.heap.size) (hs : cur.size = size) : (w.alloc (.cells cur e)).ownsRow base e size (.slice (some ⟨w.heap.size, 0, none⟩) 1 1) 1 cur.toList :=
  ⟨by simp [hs], .inr ⟨w.heap.size, 1, cur, rfl, hb, heap_alloc_new w _, Nat.le_refl _, by decide, by rw [hs, Nat.one_mul], by rw [Nat.one_mul]; exact List.take_of_length_le (by simp [hs])⟩⟩
mutual
def enclN (s e : Int) : Node → List Rg3
  | .mk h ch => if s < h.s ∨ h.e < e then [] else ⟨0, h.s, h.e⟩ :: enclNs s e ch
def enclNs (s e : Int) : List Node → List Rg3
  | [] => []
  | x :: r => enclN s e x ++ enclNs s e r
end
theorem enclNs_append (s e : Int) : ∀ (a b : List Node), enclNs s e (a ++ b) = enclNs s e a ++ enclNs s e b
  | [], b => by simp [enclNs]
  | x :: r, b => by rw [List.cons_append, enclNs, enclNs, enclNs_append s e r b, List.append_assoc]
mutual
theorem enclN_len (s e : Int) : ∀ x : Node, (enclN s e x).length ≤ x.sz
  | .mk h ch => by
    unfold enclN Node.sz
    have := enclNs_len s e ch
    split
    · simp
    · rw [List.length_cons]; omega
theorem enclNs_len (s e : Int) : ∀ l : List Node, (enclNs s e l).length ≤ szs l
  | [] => by simp [enclNs]
  | x :: r => by
    have h1 := enclN_len s e x
    have h2 := enclNs_len s e r
    rw [enclNs, szs, List.length_append]; omega
end
/-- what enclosing leaves -/
def EnPost (w : World) (xs : List Rg3) (r : Ending) (w' : World) : Prop :=
  ∃ A c, r = .returned (.slice A xs.length c) ∧ rg3D.At w' (New w w') A xs ∧ Below w.heap.size w w' ∧ ∃ vs, rg3D.Own w' (w.heap.size + 1) 28 (OF (w.heap.size + 1) (.slice A xs.length c) w') (.slice A xs.length c) xs vs
def EnOk (n : Nat) : Prop := ∀ (x : Node), x.sz < n → x.sz ≤ 800000 → ∀ (s e : Int) (w : World) (F : Nat → Prop) (us : List Value), NodeV w F x us → (∀ c, F c → c < w.heap.size) →
  Calls Tryz.prog 23 #[.agg us.toArray, .int .i64 s, .int .i64 e] w (EnPost w (enclN s e x))
set_option maxRecDepth 100000 in
set_option maxHeartbeats 3200000 in
theorem en_step (n : Nat) (ih : EnOk n) : EnOk (n + 1) := by
  intro x hxn hsz s e w F us hus hF
  obtain ⟨A, c, rfl, hk⟩ := hus.kids
  obtain ⟨hd, ch⟩ := x
  simp only [Node.h, Node.ch] at hk ⊢
  obtain ⟨L, hL⟩ : ∃ L, ch.length = L := ⟨_, rfl⟩
  have hLz : ch.length ≤ szs ch := by
    have : ∀ l : List Node, l.length ≤ szs l := by
      intro l
      induction l with
      | nil => simp
      | cons y r ih =>
        rw [szs, List.length_cons]
        have : 1 ≤ y.sz := by cases y; unfold Node.sz; omega
        omega
    exact this ch
  unfold Node.sz at hxn hsz
  have HK := Lib.hid hk
  have HL := Lib.hid hL
  have HF := Lib.hid hF
  have HI := Lib.hid ih
  have HN := Lib.hid hxn
  have hLb : L ≤ 800000 := by omega
  simp only [Hd.vals]
  rw [hL]
  show Calls _ _ #[.agg #[.int .i64 hd.k, .int .i64 hd.v, .string hd.t, .int .i64 hd.s, .int .i64 hd.e, .int .i64 hd.nm, .slice A L c], _, _] _ _
  have hbw : Below w.heap.size w (w.alloc (.cells #[.int .i64 hd.k, .int .i64 hd.v, .string hd.t, .int .i64 hd.s, .int .i64 hd.e, .int .i64 hd.nm, .slice A L c] 57)) := (Below.refl _ _).alloc (Nat.le_refl _) _
  have hbx := heap_alloc_new w (.cells #[.int .i64 hd.k, .int .i64 hd.v, .string hd.t, .int .i64 hd.s, .int .i64 hd.e, .int .i64 hd.nm, .slice A L c] 57)
  have hB1 : w.heap.size + 1 ≤ (w.alloc (.cells #[.int .i64 hd.k, .int .i64 hd.v, .string hd.t, .int .i64 hd.s, .int .i64 hd.e, .int .i64 hd.nm, .slice A L c] 57)).heap.size := by simp
  clear hk hL hF ih hxn hus hLz
  by_cases hc : s < hd.s ∨ hd.e < e
  · have HE := Lib.hid (show enclN s e (.mk hd ch) = [] by rw [enclN, if_pos hc])
    have HB := Lib.hid hbw
    rw [HE.out]
    generalize hW : w.alloc _ = W at *
    have d3 := cell_of hbx 3 _ rfl
    have d4 := cell_of hbx 4 _ rfl
    have hlW := lt_of_heap hbx
    clear hbx hbw hB1
    by_cases k1 : s < hd.s
    · have k2 : hd.s > s := k1
      clear hc
      go_enter Tryz.func23, Tryz.ntmps23
      go_wp2_with fail
      all_goals (try go_region)
      all_goals (try go_wp2_with fail)
      go_ret
      exact ⟨none, 0, rfl, Dat.At.nil, HB.out, [], Dat.Own.nil⟩
    · have k2 : hd.e < e := by omega
      clear hc
      go_enter Tryz.func23, Tryz.ntmps23
      go_wp2_with fail
      all_goals (try go_region)
      all_goals (try go_wp2_with fail)
      go_ret
      exact ⟨none, 0, rfl, Dat.At.nil, by first | exact HB.out | exact HB.out.drew, [], Dat.Own.nil⟩
  · obtain ⟨H, hH⟩ : ∃ H : List Rg3, [⟨0, hd.s, hd.e⟩] = H := ⟨_, rfl⟩
    have HE := Lib.hid (show enclN s e (.mk hd ch) = H ++ enclNs s e ch by rw [enclN, if_neg hc, ← hH]; rfl)
    have hhl : H.length = 1 := by rw [← hH]; rfl
    rw [HE.out]
    have k1 : ¬ s < hd.s := fun h => hc (.inl h)
    have k2 : ¬ hd.e < e := fun h => hc (.inr h)
    have HH := Lib.hid hH
    clear hc hH
    generalize hW : w.alloc _ = W at *
    go_enter Tryz.func23, Tryz.ntmps23
    have hlW := lt_of_heap hbx
    go_upto_region 1 with fail
    go_cut [19] (fun v19 wx => v19 = .bool false ∧ wx = W)
    case first =>
      have d3 := cell_of hbx 3 _ rfl
      have d4 := cell_of hbx 4 _ rfl
      go_wp2_with fail
      all_goals (try go_region)
      all_goals (try go_wp2_with fail)
      go_meet
      exact ⟨rfl, rfl⟩
    case rest =>
    obtain ⟨rfl, rfl⟩ := hcut
    go_upto_region 3 with fail
    go_cut [7] (fun s7 wx => ∃ vs, rg3D.Own wx (w.heap.size + 1) 28 (OF (w.heap.size + 1) s7 wx) s7 H vs ∧ Below w.heap.size w wx ∧ wx.heap[w.heap.size]? = some (.cells #[.int .i64 hd.k, .int .i64 hd.v, .string hd.t, .int .i64 hd.s, .int .i64 hd.e, .int .i64 hd.nm, .slice A L c] 57 (0, 0)))
    case first =>
      have d3 := cell_of hbx 3 _ rfl
      have d4 := cell_of hbx 4 _ rfl
      have hrw := own_one wc (w.heap.size + 1) 28 3 #[.int .i64 0, .int .i64 hd.s, .int .i64 hd.e] hB1 rfl
      have hrow : ∀ F', rg3D.Row (wc.alloc (.cells #[.int .i64 0, .int .i64 hd.s, .int .i64 hd.e] 28)) F' H [.int .i64 0, .int .i64 hd.s, .int .i64 hd.e] := fun F' => by rw [← HH.out]; exact Dat.Row.single (D := rg3D) (show _ = Rg3.cells ⟨0, hd.s, hd.e⟩ from rfl)
      have hbk := (hbw.alloc hbw.size (.cells #[.int .i64 0, .int .i64 hd.s, .int .i64 hd.e] 28))
      have hxk : (wc.alloc (.cells #[.int .i64 0, .int .i64 hd.s, .int .i64 hd.e] 28)).heap[w.heap.size]? = _ := (heap_alloc_old _ _ hlW).trans hbx
      have HRW := Lib.hid hrw
      have HRO := Lib.hid hrow
      have HBK := Lib.hid hbk
      have HXK := Lib.hid hxk
      clear hrw hrow hbk hxk
      go_wp2_with fail
      all_goals (try go_region)
      all_goals (try go_wp2_with fail)
      all_goals go_meet
      all_goals exact ⟨_, ⟨by rw [hhl]; first | exact HRW.out | exact HRW.out.drew, by first | exact HRO.out _ | exact (HRO.out (OF _ _ _)).keep (fun _ h => h) (fun _ _ => rfl) _ _⟩, by first | exact HBK.out | exact HBK.out.drew, by first | exact HXK.out | exact HXK.out⟩
    case rest =>
      clear hbw hbx hlW hB1
      obtain ⟨vs0, hq0, hbw, hbx⟩ := hcut
      have d6 := cell_of hbx 6 _ rfl
      go_wp2_with fail
      go_loopw [7, 29] (fun v i wr => ∃ (j : Nat) (vs : List Value), i = .int .i64 (j : Int) ∧ j ≤ L ∧ rg3D.Own wr (w.heap.size + 1) 28 (OF (w.heap.size + 1) v wr) v (H ++ enclNs s e (ch.take j)) vs ∧ Below w.heap.size w wr ∧ wr.heap[w.heap.size]? = some (.cells #[.int .i64 hd.k, .int .i64 hd.v, .string hd.t, .int .i64 hd.s, .int .i64 hd.e, .int .i64 hd.nm, .slice A L c] 57 (0, 0))) (fun _ i _ => L - (intOf i).toNat)
      case atStart => exact ⟨0, vs0, rfl, Nat.zero_le _, by simpa [enclNs] using hq0, hbw, hbx⟩
      case round =>
        clear hq0 hbw hbx d6
        obtain ⟨j, vs, rfl, hj, hown, hb, hbx⟩ := hrel
        by_cases hlt : j < L
        · have hjI : (j : Int) < L := by omega
          have hjl : j < ch.length := by rw [HL.out]; exact hlt
          obtain ⟨tb, off, xs, rfl, htb, hx, hxc⟩ := HK.out.get j ch[j] (List.getElem?_eq_getElem hjl)
          have htk : H ++ enclNs s e (ch.take (j + 1)) = (H ++ enclNs s e (ch.take j)) ++ enclN s e ch[j] := by
            rw [List.take_succ_eq_append_getElem hjl, enclNs_append]
            simp [enclNs]
          have hszx : ch[j].sz ≤ szs ch := by have := szs_get ch j hjl; omega
          have hlen : (H ++ enclNs s e (ch.take j)).length + (enclN s e ch[j]).length ≤ szs ch + 1 := by
            have h1 := szs_get ch j hjl
            have h2 := enclNs_len s e (ch.take j)
            have h3 := enclN_len s e ch[j]
            rw [List.length_append]
            omega
          generalize ch[j] = x at *
          obtain ⟨A2, c2, rfl, _⟩ := NodeV.vals hx
          have hbs := hb.size
          have hwb : ∀ b, F b → wr.heap[b]? = w.heap[b]? := fun b hb' => hb.block b (HF.out b hb')
          have hc : ∀ t u, (x.h.vals (.slice A2 x.ch.length c2))[t]? = some u → wr.cell? ⟨tb, off + j * 7 + t, none⟩ = some u := fun t u hu => (World.cell?_of_block (w := w) (w' := wr) (a := ⟨tb, _, none⟩) (hwb tb htb)).trans (hxc t u hu)
          obtain ⟨m2, hm2⟩ : ∃ m2, x.ch.length = m2 := ⟨_, rfl⟩
          obtain ⟨hd2, hhd2⟩ : ∃ hd2, x.h = hd2 := ⟨_, rfl⟩
          rw [hhd2, hm2] at hc
          have d0 := hc 0 _ rfl
          have d1 := hc 1 _ rfl
          have d2 := hc 2 _ rfl
          have d3 := hc 3 _ rfl
          have d4 := hc 4 _ rfl
          have d5 := hc 5 _ rfl
          have d6 := hc 6 _ rfl
          rw [Nat.add_zero] at d0
          have htl : tb < wr.heap.size := Nat.lt_of_lt_of_le (HF.out tb htb) hbs
          have hbl : Below wr.heap.size wr (wr.alloc (.cells #[.int .i64 hd2.k, .int .i64 hd2.v, .string hd2.t, .int .i64 hd2.s, .int .i64 hd2.e, .int .i64 hd2.nm, .slice A2 m2 c2] 57)) := (Below.refl _ _).alloc (Nat.le_refl _) _
          have hx1 : NodeV (wr.alloc (.cells #[.int .i64 hd2.k, .int .i64 hd2.v, .string hd2.t, .int .i64 hd2.s, .int .i64 hd2.e, .int .i64 hd2.nm, .slice A2 m2 c2] 57)) F x (x.h.vals (.slice A2 x.ch.length c2)) := NodeV.keep (fun _ h => h) (fun b hb' => (hbl.block b (Nat.lt_of_lt_of_le (HF.out b hb') hbs)).trans (hwb b hb')) _ _ hx
          have hcall := HI.out x (by have := HN.out; omega) (by have := HN.out; omega) s e _ F _ hx1 (fun b hb' => Nat.lt_of_lt_of_le (HF.out b hb') (Nat.le_trans hbs hbl.size))
          rw [hhd2, hm2] at hcall
          have hcall2 : Calls Tryz.prog 23 #[.agg #[.int .i64 hd2.k, .int .i64 hd2.v, .string hd2.t, .int .i64 hd2.s, .int .i64 hd2.e, .int .i64 hd2.nm, .slice A2 m2 c2], .int .i64 s, .int .i64 e] _ _ := hcall
          have HC := Lib.hid hcall2
          have HTK := Lib.hid htk
          have HBX := Lib.hid hbx
          have HOW := Lib.hid hown
          have HBB := Lib.hid hb
          have HBL := Lib.hid hbl
          clear hc hx hxc hx1 hcall hcall2 hbl hwb hm2 hhd2 htk hown hb hbx
          go_wp2_with fail
          refine HC.out.mono ?_
          rintro r w3 ⟨A3, c3, rfl, ⟨ws, hrow, hra⟩, hb3, _⟩
          have hs3 := hb3.size
          have hsz1 : (wr.alloc (.cells #[.int .i64 hd2.k, .int .i64 hd2.v, .string hd2.t, .int .i64 hd2.s, .int .i64 hd2.e, .int .i64 hd2.nm, .slice A2 m2 c2] 57)).heap.size = wr.heap.size + 1 := by simp
          have hb13 : Below wr.heap.size wr w3 := HBL.out.trans (hb3.mono (by omega))
          have hown3 := HOW.out.below hb13
          have hrow3 : rg3D.Row w3 (OF (w.heap.size + 1) u7 w3) (enclN s e x) ws := hrow.keep (fun c hc => ⟨by have := hc.1; have := lt_of_heap HBX.out; omega, hc.2, fun e => by have := (HOW.out.1.lt c e).2; have := hc.1; omega⟩) (fun _ _ => rfl)
          have hwl := hrow.length
          have hone := hrow.one
          generalize hm : (enclN s e x).length = m at *
          generalize hn0 : (H ++ enclNs s e (ch.take j)).length = n0 at *
          have ho1 := hown3.1
          rw [hn0] at ho1
          have HM := Lib.hid hm
          have HN0 := Lib.hid hn0
          have HO3 := Lib.hid hown3
          have HR3 := Lib.hid hrow3
          have hwl5 : ws.length = m * 3 := hwl
          have ho1' : w3.ownsRow (w.heap.size + 1) 28 3 u7 n0 vs := ho1
          have hbB : w.heap.size + 1 ≤ w3.heap.size := by have := lt_of_heap HBX.out; omega
          clear hm hn0 hown3 hrow3 hrow hwl ho1 HC d0 d1 d2 d3 d4 d5 d6
          go_wp2_with (at_builtin; refine wpList_append_src rfl (.tmp 33) (.tmp 37) _ rfl (w.heap.size + 1) 28 _ 3 24 Tryz.underlying23 info_rg rfl (by decide) _ _ _ rfl ho1' _ _ _ _ ws rfl hra hwl5 hone ?c2 ?c3 hbB ?_)
          case c2 => simp only [maxLen]; omega
          case c3 => omega
          intro v' w4 hown4 hg4 hat4
          have h9 : rg3D.Own w4 (w.heap.size + 1) 28 (OF (w.heap.size + 1) v' w4) v' (H ++ enclNs s e (ch.take (j + 1))) (vs ++ ws) := by
            rw [HTK.out]
            exact HO3.out.grow HR3.out hg4 (by rw [HM.out, HN0.out]; exact hown4) hat4
          have hb4 : Below w.heap.size w w4 := (HBB.out.trans (hb13.mono hbs)).grown hg4 (by omega) (fun k hk => by have := (HO3.out.1.lt k hk).1; omega)
          have hbx4 : w4.heap[w.heap.size]? = _ := (hg4.block _ (by omega) (fun e => by have := (HO3.out.1.lt _ e.symm).1; omega)).trans ((hb13.block _ (lt_of_heap HBX.out)).trans HBX.out)
          have H9 := Lib.hid h9
          have HB4 := Lib.hid hb4
          have HX4 := Lib.hid hbx4
          clear h9 hb4 hbx4 hown4 hg4 hat4
          go_wp2_with fail
          go_roundw
          case rel => exact ⟨j + 1, _, by go_num, by omega, H9.out, HB4.out, HX4.out⟩
          case measure => simp [intOf]; omega
        · have hjI : ¬ (j : Int) < L := by omega
          have htk : ch.take j = ch := List.take_of_length_le (by rw [HL.out]; omega)
          rw [htk] at hown
          obtain ⟨A3, c3, hv, hAt, _⟩ := hown.at (F' := New w wr) (fun c hc => ⟨by have := hc.1; omega, hc.2.1⟩) (fun c hc => by have := hown.1.lt c hc; exact ⟨by omega, this.2⟩)
          subst hv
          have HAt := Lib.hid hAt
          have HB := Lib.hid hb
          have HOW := Lib.hid hown
          obtain ⟨m, hm⟩ : ∃ m, (H ++ enclNs s e ch).length = m := ⟨_, rfl⟩
          rw [hm] at HOW ⊢
          have HM := Lib.hid hm
          clear hb hAt hown htk hm
          go_wp2_with fail
          go_ret
          exact ⟨A3, c3, by rw [HM.out]; rfl, HAt.out, HB.out, _, by rw [HM.out]; exact HOW.out⟩
theorem en_any : ∀ n, EnOk n
  | 0 => fun x h => by omega
  | n + 1 => en_step n (en_any n)
end Go.Proofs.YtpibenilagloaaaGreatDoor

/-
  slices.DeleteFunc at ranges, with ExpandSelection's predicate.
-/
namespace Go.Proofs.YtpibenilagloaaaGreatDoor
open Go.RowKit
set_option linter.unusedVariables false

/-- one block was rewritten, new blocks were made -/
structure UpG (q : Nat) (w w' : World) : Prop where
  os : w'.os = w.os
  tape : w'.tape = w.tape
  output : w'.output = w.output
  size : w.heap.size ≤ w'.heap.size
  block : ∀ b, b < w.heap.size → b ≠ q → w'.heap[b]? = w.heap[b]?
theorem UpG.refl (q : Nat) (w : World) : UpG q w w := ⟨rfl, rfl, rfl, Nat.le_refl _, fun _ _ _ => rfl⟩
theorem UpG.below {q : Nat} {w w1 w2 : World} (h : UpG q w w1) (hb : Below w1.heap.size w1 w2) : UpG q w w2 :=
  ⟨hb.os.trans h.os, hb.tape.trans h.tape, hb.output.trans h.output, Nat.le_trans h.size hb.size, fun b hl hq => (hb.block b (Nat.lt_of_lt_of_le hl h.size)).trans (h.block b hl hq)⟩
theorem UpG.set {q : Nat} {w w' : World} (h : UpG q w w') (i : Nat) (v : Value) : UpG q w (w'.setCell ⟨q, i, none⟩ v) :=
  ⟨h.os, h.tape, h.output, by simp only [World.size_setCell]; exact h.size, fun b hl hb => (Below.heap_setCell _ _ _ _ hb).trans (h.block b hl hb)⟩
theorem UpG.drew {q : Nat} {w w' : World} (h : UpG q w w') : UpG q w w'.drew := ⟨h.os, h.tape, h.output, h.size, h.block⟩
theorem UpG.setCells {g : Nat} {w : World} : ∀ (L : List Value) (o : Nat) {w1 : World}, UpG g w w1 → UpG g w (w1.setCells g o L)
  | [], o, w1, h => h
  | v :: r, o, w1, h => by
    unfold World.setCells
    exact UpG.setCells r (o + 1) (h.set o v)
theorem row_setCells {g n cap : Nat} {e : TypeId} {size : Nat} : ∀ (L : List Value) (o : Nat) {w : World} {xs : List Value}, w.ownsRow 0 e size (.slice (some ⟨g, 0, none⟩) n cap) n xs → ∃ ys, (w.setCells g o L).ownsRow 0 e size (.slice (some ⟨g, 0, none⟩) n cap) n ys ∧ ys.take o = xs.take o
  | [], o, w, xs, h => ⟨xs, h, rfl⟩
  | v :: r, o, w, xs, h => by
    unfold World.setCells
    obtain ⟨ys, h1, h2⟩ := row_setCells r (o + 1) (h.stored o v).1
    refine ⟨ys, h1, ?_⟩
    have := congrArg (List.take o) h2
    rw [List.take_take, List.take_take, Nat.min_eq_left (Nat.le_succ o), List.take_set_of_le (Nat.le_refl _)] at this
    exact this
theorem row_take {w : World} {g n cap : Nat} {e : TypeId} {size : Nat} {xs : List Value} (h : w.ownsRow 0 e size (.slice (some ⟨g, 0, none⟩) n cap) n xs) (m : Nat) (hm : m ≤ n) : w.ownsRow 0 e size (.slice (some ⟨g, 0, none⟩) m cap) m (xs.take (m * size)) := by
  have hl := h.1
  have hms : m * size ≤ n * size := Nat.mul_le_mul_right _ hm
  refine ⟨by rw [List.length_take, hl]; omega, .inr ?_⟩
  rcases h.2 with ⟨h', _⟩ | ⟨g', cap', cur, h', hb, hg, hnc, hcm, hcs, htake⟩
  · cases h'
  · injection h' with h1 _ h3
    injection h1 with h1
    injection h1 with h1
    subst h1 h3
    exact ⟨g, cap, cur, rfl, hb, hg, by omega, hcm, hcs, by rw [← htake, List.take_take, Nat.min_eq_left hms]⟩
/-- the round's invariant: j looked at, iv kept -/
structure Dl2 (w : World) (g cap n : Nat) (p : Rg3 → Bool) (ds : List Rg3) (wr : World) (j iv : Nat) (cur : List Rg3) : Prop where
  len : cur.length = n
  done : cur.take iv = (ds.take j).filter fun x => !p x
  rest : ∀ t, j ≤ t → cur[t]? = ds[t]?
  lt : iv < j
  row : wr.ownsRow 0 28 3 (.slice (some ⟨g, 0, none⟩) n cap) n (cur.flatMap Rg3.cells)
  upd : UpG g w wr
theorem take_filter {p : Rg3 → Bool} (ds : List Rg3) (j : Nat) (x : Rg3) (hx : ds[j]? = some x) : (ds.take (j + 1)).filter (fun x => !p x) = (ds.take j).filter (fun x => !p x) ++ (if p x then [] else [x]) := by
  obtain ⟨h1, rfl⟩ := List.getElem?_eq_some_iff.1 hx
  rw [List.take_succ_eq_append_getElem h1, List.filter_append]
  congr 1
  cases h : p ds[j] <;> simp [h]
theorem Dl2.ivl {w : World} {g cap n : Nat} {p : Rg3 → Bool} {ds : List Rg3} {wr : World} {j iv : Nat} {cur : List Rg3} (h : Dl2 w g cap n p ds wr j iv cur) (hj : j ≤ n) : iv = ((ds.take j).filter fun x => !p x).length := by
  have h1 := h.lt
  have := congrArg List.length h.done
  rw [List.length_take, h.len] at this
  omega
theorem Dl2.same {w : World} {g cap n : Nat} {p : Rg3 → Bool} {ds : List Rg3} {wr w2 : World} {j iv : Nat} {cur : List Rg3} (h : Dl2 w g cap n p ds wr j iv cur) (hb : Below wr.heap.size wr w2) (x : Rg3) (hx : ds[j]? = some x) (hp : p x = true) : Dl2 w g cap n p ds w2 (j + 1) iv cur :=
  ⟨h.len, by rw [take_filter ds j x hx, hp]; simpa using h.done, fun t ht => h.rest t (by omega), by have := h.lt; omega, ownsRow_below h.row fun b hb' => hb.block b (h.row.lt b hb').2, h.upd.below hb⟩
theorem Dl2.put {w : World} {g cap n : Nat} {p : Rg3 → Bool} {ds : List Rg3} {wr w2 : World} {j iv : Nat} {cur : List Rg3} (h : Dl2 w g cap n p ds wr j iv cur) (hb : Below wr.heap.size wr w2) (hj : j < n) (x : Rg3) (hx : ds[j]? = some x) (hp : p x = false) :
    Dl2 w g cap n p ds (((w2.setCell ⟨g, iv * 3, none⟩ (.int .i64 x.mod)).setCell ⟨g, iv * 3 + 1, none⟩ (.int .i64 x.s)).setCell ⟨g, iv * 3 + 2, none⟩ (.int .i64 x.e)) (j + 1) (iv + 1) (cur.set iv x) := by
  have hl := h.len
  have hlt := h.lt
  have hd := h.done
  have h0 : w2.ownsRow 0 28 3 (.slice (some ⟨g, 0, none⟩) n cap) n (cur.flatMap Rg3.cells) := ownsRow_below h.row fun b hb' => hb.block b (h.row.lt b hb').2
  obtain ⟨o1, _⟩ := h0.stored (iv * 3) (.int .i64 x.mod)
  obtain ⟨o2, _⟩ := o1.stored (iv * 3 + 1) (.int .i64 x.s)
  obtain ⟨o3, _⟩ := o2.stored (iv * 3 + 2) (.int .i64 x.e)
  rw [flat_set3r cur iv x (by omega)] at o3
  refine ⟨by rw [List.length_set]; exact hl, ?_, fun t ht => ?_, by omega, o3, (((h.upd.below hb).set _ _).set _ _).set _ _⟩
  · rw [take_filter ds j x hx, hp, ← hd, List.take_succ_eq_append_getElem (by rw [List.length_set]; omega), List.take_set_of_le (Nat.le_refl _), List.getElem_set_self]
    rfl
  · rw [List.getElem?_set_ne (by omega)]
    exact h.rest t (by omega)
theorem idxF_spec {α : Type} [Inhabited α] (eq : α → α → Bool) (x : α) : ∀ (l : List α) (i : Nat), (Lib.idxByFrom eq x l i = -1 ∧ ∀ j, j < l.length → eq x l[j]! = false) ∨ ∃ k, k < l.length ∧ Lib.idxByFrom eq x l i = ((i + k : Nat) : Int) ∧ eq x l[k]! = true ∧ ∀ j, j < k → eq x l[j]! = false
  | [], _ => .inl ⟨rfl, fun j hj => absurd hj (Nat.not_lt_zero _)⟩
  | y :: r, i => by
    cases h : eq x y with
    | true => exact .inr ⟨0, by simp, by simp [Lib.idxByFrom, h], by simpa using h, fun j hj => absurd hj (Nat.not_lt_zero _)⟩
    | false =>
      have hn : Lib.idxByFrom eq x (y :: r) i = Lib.idxByFrom eq x r (i + 1) := by simp [Lib.idxByFrom, h]
      rcases idxF_spec eq x r (i + 1) with ⟨e, ha⟩ | ⟨k, hk, e, ht, ha⟩
      · refine .inl ⟨hn.trans e, fun j hj => ?_⟩
        cases j with
        | zero => simpa using h
        | succ j => simpa using ha j (by simpa using hj)
      · refine .inr ⟨k + 1, by simpa using hk, ?_, by simpa using ht, fun j hj => ?_⟩
        · rw [hn, e]; congr 1; omega
        · cases j with
          | zero => simpa using h
          | succ j => simpa using ha j (by omega)
set_option maxRecDepth 100000 in
set_option maxHeartbeats 3200000 in
theorem deleteR_any (w : World) (g cap n : Nat) (ds : List Rg3) (hn : ds.length = n) (hb : n ≤ 1000000) (hrow : w.ownsRow 0 28 3 (.slice (some ⟨g, 0, none⟩) n cap) n (ds.flatMap Rg3.cells)) (s e : Int) (a b : Addr) (ha : w.cell? a = some (.int .i64 s)) (hbb : w.cell? b = some (.int .i64 e)) (hag : a.block ≠ g) (hbg : b.block ≠ g) :
    Calls Tryz.prog 22 #[.slice (some ⟨g, 0, none⟩) n cap, .func (.func 24) #[] #[.pointer (some a), .pointer (some b)]] w fun r w' =>
      r = .returned (.slice (some ⟨g, 0, none⟩) (ds.filter fun x => !isSel s e x).length cap) ∧ w'.ownsRow 0 28 3 (.slice (some ⟨g, 0, none⟩) (ds.filter fun x => !isSel s e x).length cap) (ds.filter fun x => !isSel s e x).length ((ds.filter fun x => !isSel s e x).flatMap Rg3.cells) ∧ UpG g w w' := by
  have hla := World.block_lt_of_cell? w a ha
  have hlb := World.block_lt_of_cell? w b hbb
  have hglt := (hrow.lt g rfl).2
  have hcap : n ≤ cap := by
    rcases hrow.2 with ⟨h, _⟩ | ⟨_, _, _, h, _, _, h3, _⟩
    · cases h
    · injection h with _ _ h; subst h; exact h3
  have eg : ∀ args w, (callFunc 24 args).run Tryz.prog w = .ok (.enter 24 args) w := enters_of Tryz.func24 (by kernel_rfl) rfl
  have hcon := AnyQ.slices_IndexFunc Tryz.idxRg 3 Tryz.isAgg28 Tryz.sizeOf28 Rg3.cells (fun _ => rfl) (isSel s e) 24 #[.pointer (some a), .pointer (some b)] eg g 0 n cap ds w
    (fun W x hbl => (delCu_any x s e a b W ((hbl.cell (p := a) hla).trans ha) ((hbl.cell (p := b) hlb).trans hbb) (Nat.lt_of_lt_of_le hla hbl.size) (Nat.lt_of_lt_of_le hlb hbl.size)).mono fun r W' ⟨h1, h2⟩ => ⟨h1, hbl.trans (h2.mono hbl.size)⟩) (by omega) (by omega) hglt (fun j hj i v hi => by
      have e : ds[j]? = some ds[j]! := by rw [List.getElem!_eq_getElem?_getD, List.getElem?_eq_getElem hj]; rfl
      have h3 : i < 3 := (List.getElem?_eq_some_iff.1 hi).1
      rw [Nat.zero_add, hrow.cellAt _ (by omega)]
      exact flat_at Rg3.cells_len ds j _ e i v hi)
  change Calls Tryz.prog 55 _ _ _ at hcon
  rw [List.take_of_length_le (by omega)] at hcon
  have hspec : (Lib.idxBy (fun _ y => isSel s e y) ds default = -1 ∧ ds.filter (fun x => !isSel s e x) = ds) ∨ ∃ k, k < n ∧ Lib.idxBy (fun _ y => isSel s e y) ds default = (k : Int) ∧ (ds.take (k + 1)).filter (fun x => !isSel s e x) = ds.take k := by
    have hfil : ∀ j, (∀ t, t < j → t < ds.length → isSel s e ds[t]! = false) → (ds.take j).filter (fun x => !isSel s e x) = ds.take j := fun j hj => by
      rw [List.filter_eq_self]
      intro x hx
      obtain ⟨t, ht, rfl⟩ := List.getElem_of_mem hx
      rw [List.length_take] at ht
      have := hj t (by omega) (by omega)
      rw [List.getElem_take]
      rw [List.getElem!_eq_getElem?_getD, List.getElem?_eq_getElem (by omega)] at this
      simpa using this
    rcases idxF_spec (fun _ y => isSel s e y) default ds 0 with ⟨h1, h2⟩ | ⟨k, hk, h1, h2, h3⟩
    · refine .inl ⟨h1, ?_⟩
      have := hfil ds.length (fun t _ ht => h2 t ht)
      rwa [List.take_length] at this
    · refine .inr ⟨k, by omega, by rw [Lib.idxBy, h1]; simp, ?_⟩
      have hx : ds[k]? = some ds[k]! := by rw [List.getElem!_eq_getElem?_getD, List.getElem?_eq_getElem hk]; rfl
      rw [take_filter ds k _ hx, h2, hfil k (fun t ht _ => h3 t ht)]
      simp
  have HC := Lib.hid hcon
  have HN := Lib.hid hn
  have HR := Lib.hid hrow
  generalize Lib.idxBy (fun _ (y : Rg3) => isSel s e y) ds default = r at *
  clear hcon hrow eg
  have HCA := Lib.hid ha
  have HCB := Lib.hid hbb
  rcases hspec with ⟨rfl, hf⟩ | ⟨k, hk, rfl, hf⟩
  · have HF := Lib.hid hf
    rw [hf, hn]
    clear hn hf ha hbb
    go_enter Tryz.func22, Tryz.ntmps22
    go_wp2_with fail
    refine HC.out.mono ?_
    rintro r w1 ⟨rfl, hb1⟩
    have HB := Lib.hid hb1
    clear hb1
    go_wp2_with fail
    go_ret
    exact ⟨rfl, ownsRow_below HR.out fun q hq => HB.out.block q (HR.out.lt q hq).2, (UpG.refl g w).below HB.out⟩
  · obtain ⟨R, hR⟩ : ∃ R, ds.filter (fun x => !isSel s e x) = R := ⟨_, rfl⟩
    have HRR := Lib.hid hR
    rw [hR]
    have HF := Lib.hid hf
    obtain ⟨m, hm⟩ : ∃ m, R.length = m := ⟨_, rfl⟩
    rw [hm]
    have HM := Lib.hid hm
    have hkI : ((k : Int) == -1) = false := by simp
    obtain ⟨k1, hk1⟩ : ∃ k1, k + 1 = k1 := ⟨_, rfl⟩
    rw [hk1] at HF
    have hkw : IntKind.i64.wrap ((k : Int) + 1) = (k1 : Int) := by rw [IntWalk.i64_in _ (by omega)]; omega
    clear hn hf ha hbb hR hm
    go_enter Tryz.func22, Tryz.ntmps22
    go_wp2_with fail
    refine HC.out.mono ?_
    rintro r w1 ⟨rfl, hb1⟩
    have HU1 := Lib.hid ((UpG.refl g w).below hb1)
    have HR1 := Lib.hid (show w1.ownsRow 0 28 3 (.slice (some ⟨g, 0, none⟩) n cap) n (ds.flatMap Rg3.cells) from ownsRow_below HR.out fun q hq => hb1.block q (HR.out.lt q hq).2)
    clear hb1
    go_wp2_with fail
    go_loopw [5, 6] (fun i5 i6 wr => ∃ (j iv : Nat) (cur : List Rg3), i5 = .int .i64 (iv : Int) ∧ i6 = .int .i64 (j : Int) ∧ j ≤ n ∧ Dl2 w g cap n (isSel s e) ds wr j iv cur) (fun _ i6 _ => n - (intOf i6).toNat)
    case atStart => exact ⟨k1, k, ds, rfl, rfl, by omega, ⟨HN.out, HF.out.symm, fun _ _ => rfl, by omega, HR1.out, HU1.out⟩⟩
    case round =>
      obtain ⟨j, iv, cur, rfl, rfl, hj, hC⟩ := hrel
      clear HC
      by_cases hlt : j < n
      · have hltI : (j : Int) < n := by omega
        have hjl : j < ds.length := by rw [HN.out]; exact hlt
        have hx := List.getElem?_eq_getElem hjl
        have hxr := (hC.rest j (Nat.le_refl _)).trans hx
        obtain ⟨c0, c1, c2⟩ := rg3_cells hC.row _ _ hxr
        have hgl := (hC.row.lt g rfl).2
        have hs := hC.upd.size
        obtain ⟨x, hxx⟩ : ∃ x, ds[j] = x := ⟨_, rfl⟩
        rw [hxx] at hx hxr c0 c1 c2
        obtain ⟨x0, x1, x2⟩ := x
        simp only at c0 c1 c2
        obtain ⟨W1, hW1⟩ : ∃ W1, wr.alloc (.cells #[.int .i64 x0, .int .i64 x1, .int .i64 x2] 28) = W1 := ⟨_, rfl⟩
        have hbW : Below wr.heap.size wr W1 := by rw [← hW1]; exact (Below.refl _ _).alloc (Nat.le_refl _) _
        have hvh : W1.heap[wr.heap.size]? = some (.cells #[.int .i64 x0, .int .i64 x1, .int .i64 x2] 28) := by rw [← hW1]; exact heap_alloc_new wr _
        have ca : wr.cell? a = some (.int .i64 s) := (World.cell?_of_block (w := w) (w' := wr) (a := a) (hC.upd.block _ hla hag)).trans HCA.out
        have cb : wr.cell? b = some (.int .i64 e) := (World.cell?_of_block (w := w) (w' := wr) (a := b) (hC.upd.block _ hlb hbg)).trans HCB.out
        have hcall := delCu_any ⟨x0, x1, x2⟩ s e a b W1 ((hbW.cell (p := a) (Nat.lt_of_lt_of_le hla hs)).trans ca) ((hbW.cell (p := b) (Nat.lt_of_lt_of_le hlb hs)).trans cb) (Nat.lt_of_lt_of_le hla (Nat.le_trans hs hbW.size)) (Nat.lt_of_lt_of_le hlb (Nat.le_trans hs hbW.size))
        have hcall2 : Calls Tryz.prog 24 #[.agg #[.int .i64 x0, .int .i64 x1, .int .i64 x2], .pointer (some a), .pointer (some b)] _ _ := hcall
        have v0 := cell_of hvh 0 _ rfl
        have v1 := cell_of hvh 1 _ rfl
        have v2 := cell_of hvh 2 _ rfl
        have vl := lt_of_heap hvh
        have HX := Lib.hid hx
        have HCC := Lib.hid hC
        have HBW := Lib.hid hbW
        have HVH := Lib.hid hvh
        clear hcall hx hxr hxx hC hbW hvh ca cb
        cases hp : isSel s e ⟨x0, x1, x2⟩ with
        | true =>
          rw [hp] at hcall2
          have HCL := Lib.hid hcall2
          have HP := Lib.hid hp
          clear hcall2 hp
          go_wp2_with fail
          refine HCL.out.mono ?_
          rintro r w2 ⟨rfl, hb2⟩
          have hD := HCC.out.same (HBW.out.trans (hb2.mono HBW.out.size)) _ HX.out HP.out
          clear hb2
          have HD := Lib.hid hD
          clear hD
          go_wp2_with fail
          go_roundw
          case rel => exact ⟨j + 1, iv, cur, rfl, by go_num, by omega, HD.out⟩
          case measure => simp [intOf]; omega
        | false =>
          rw [hp] at hcall2
          have HCL := Lib.hid hcall2
          have HP := Lib.hid hp
          clear hcall2 hp
          go_wp2_with fail
          refine HCL.out.mono ?_
          rintro r w2 ⟨rfl, hb2⟩
          have hbb2 := HBW.out.trans (hb2.mono HBW.out.size)
          have hD := HCC.out.put hbb2 hlt _ HX.out HP.out
          have hvh2 := (hb2.block _ vl).trans HVH.out
          have u0 := cell_of hvh2 0 _ rfl
          have u1 := cell_of hvh2 1 _ rfl
          have u2 := cell_of hvh2 2 _ rfl
          have ul := lt_of_heap hvh2
          have hrow2 : w2.ownsRow 0 28 3 (.slice (some ⟨g, 0, none⟩) n cap) n (cur.flatMap Rg3.cells) := ownsRow_below HCC.out.row fun q hq => hbb2.block q (HCC.out.row.lt q hq).2
          have hg2 := (hrow2.lt g rfl).2
          have hivl := HCC.out.lt
          have hivn : iv < n := by omega
          have hivI : (iv : Int) < n := by omega
          have hcl : iv < cur.length := by rw [HCC.out.len]; exact hivn
          obtain ⟨e0, e1, e2⟩ := rg3_cells hrow2 iv cur[iv] (List.getElem?_eq_getElem (show iv < cur.length by rw [HCC.out.len]; exact hivn))
          have hfz := hrow2.frozenAt
          have f0 := hfz (iv * 3)
          have f1 := hfz (iv * 3 + 1)
          have f2 := hfz (iv * 3 + 2)
          have HD := Lib.hid hD
          clear hfz hD hrow2 hvh2 hb2 hbb2
          go_wp2_with fail
          go_roundw
          case rel => exact ⟨j + 1, iv + 1, _, by go_num, by go_num, by omega, HD.out⟩
          case measure => simp [intOf]; omega
      · have hltI : ¬ (j : Int) < n := by omega
        obtain rfl : n = j := by omega
        have hivl := hC.lt
        have hivn := hC.ivl (Nat.le_refl _)
        have ht : ds.take n = ds := by rw [← HN.out, List.take_length]
        rw [ht, HRR.out, HM.out] at hivn
        have hgl := (hC.row.lt g rfl).2
        obtain ⟨L, hL⟩ := clear_rg3 wr g (iv * 3) (n - iv) (cap - iv) (fun t ht => by rw [hC.row.cellAt _ (by omega), List.getElem?_eq_getElem (by rw [hC.row.1]; omega)]; rfl) hC.row.frozenAt
        have hQ : (wr.setCells g (iv * 3) L).ownsRow 0 28 3 (.slice (some ⟨g, 0, none⟩) iv cap) iv (R.flatMap Rg3.cells) := by
          obtain ⟨ys, h1, h2⟩ := row_setCells L (iv * 3) hC.row
          have h3 := row_take h1 iv (by omega)
          have h4 : (cur.flatMap Rg3.cells).take (iv * 3) = (cur.take iv).flatMap Rg3.cells := by
            have e := congrArg (List.flatMap Rg3.cells) (List.take_append_drop iv cur)
            rw [List.flatMap_append] at e
            rw [← e, List.take_append_of_le_length (by rw [flat_length Rg3.cells_len, List.length_take, hC.len, Nat.min_eq_left (by omega)]; exact Nat.le_refl _), List.take_of_length_le (by rw [flat_length Rg3.cells_len, List.length_take, hC.len, Nat.min_eq_left (by omega)]; exact Nat.le_refl _)]
          have h5 := hC.done
          rw [ht, HRR.out] at h5
          rw [h2, h4, h5] at h3
          exact h3
        have HQ := Lib.hid hQ
        have HU := Lib.hid (UpG.setCells L (iv * 3) hC.upd)
        have hivI : (iv : Int) < n := by omega
        have hivc : (iv : Int) < cap := by omega
        have hivc2 : iv < cap := by omega
        have hcne : cap ≠ iv := by omega
        subst hivn
        clear hC hQ ht
        go_wp2_with fail
        go_ret
        exact ⟨rfl, HQ.out, HU.out⟩
end Go.Proofs.YtpibenilagloaaaGreatDoor
