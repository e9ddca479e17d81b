import Derived.Test.YtepadojclmjllaaGreatDoorMxan
import Derived.Test.YtepadojclmjllaaGreatDoorMxbn
/-
  outline.items: the walk.
-/
namespace Go.Proofs.YtepadojclmjllaaGreatDoor
open Go.RowKit
set_option linter.unusedVariables false

/-- what items leaves -/
def ItPost (w : World) (xs : List Item) (e : Ending) (w' : World) : Prop :=
  ∃ A c, e = .returned (.slice A xs.length c) ∧ itemD.At w' (New w w') A xs ∧ Below w.heap.size w w'
def ItemsOk (n : Nat) : Prop := ∀ (x : Node), x.sz < n → x.sz ≤ 800000 → ∀ (w : World) (F : Nat → Prop) (us : List Value), NodeV w F x us → (∀ c, F c → c < w.heap.size) →
  Calls Tryz.prog 12 #[.agg us.toArray] w (ItPost w (itemsL x))
set_option maxRecDepth 100000 in
set_option maxHeartbeats 3200000 in
theorem items_step (n : Nat) (ih : ItemsOk n) : ItemsOk (n + 1) := by
  intro x hxn hsz w F us hus hF
  obtain ⟨A, c, rfl, hk⟩ := hus.kids
  obtain ⟨hd, ch⟩ := x
  simp only [Node.h, Node.ch] at hk ⊢
  obtain ⟨L, hL⟩ : ∃ L, ch.length = L := ⟨_, rfl⟩
  have hLz : ch.length ≤ szs ch := by
    have : ∀ l : List Node, l.length ≤ szs l := by
      intro l
      induction l with
      | nil => simp
      | cons y r ih =>
        rw [szs, List.length_cons]
        have : 1 ≤ y.sz := by cases y; unfold Node.sz; omega
        omega
    exact this ch
  unfold Node.sz at hxn hsz
  have HK := Lib.hid hk
  have HL := Lib.hid hL
  have HF := Lib.hid hF
  have HI := Lib.hid ih
  have HN := Lib.hid hxn
  have hLb : L ≤ 800000 := by omega
  have HE := Lib.hid (show itemsL (.mk hd ch) = if symKind hd.k = 0 then itemsLs ch else [.mk (symKind hd.k) hd.s hd.e hd.t (itemsLs ch)] by rw [itemsL])
  simp only [Hd.vals]
  rw [hL]
  show Calls _ _ #[.agg #[.int .i64 hd.k, .int .i64 hd.v, .string hd.t, .int .i64 hd.s, .int .i64 hd.e, .int .i64 hd.nm, .slice A L c]] _ _
  have hbw : Below w.heap.size w (w.alloc (.cells #[.int .i64 hd.k, .int .i64 hd.v, .string hd.t, .int .i64 hd.s, .int .i64 hd.e, .int .i64 hd.nm, .slice A L c] 40)) := (Below.refl _ _).alloc (Nat.le_refl _) _
  have hbx := heap_alloc_new w (.cells #[.int .i64 hd.k, .int .i64 hd.v, .string hd.t, .int .i64 hd.s, .int .i64 hd.e, .int .i64 hd.nm, .slice A L c] 40)
  have hB1 : w.heap.size + 1 ≤ (w.alloc (.cells #[.int .i64 hd.k, .int .i64 hd.v, .string hd.t, .int .i64 hd.s, .int .i64 hd.e, .int .i64 hd.nm, .slice A L c] 40)).heap.size := by simp
  clear hk hL hF ih hxn hus hLz
  generalize hR : itemsL (.mk hd ch) = R at *
  go_enter Tryz.func12, Tryz.ntmps12
  go_wp2_with fail
  generalize hW : w.alloc _ = W at *
  have hq0 : itemD.Own W (w.heap.size + 1) 31 (OF (w.heap.size + 1) (.slice none 0 0) W) (.slice none 0 0) [] [] := Dat.Own.nil
  clear hW hR
  go_loopw [3, 10] (fun v i wr => ∃ (j : Nat) (vs : List Value), i = .int .i64 (j : Int) ∧ j ≤ L ∧ itemD.Own wr (w.heap.size + 1) 31 (OF (w.heap.size + 1) v wr) v (itemsLs (ch.take j)) vs ∧ Below w.heap.size w wr ∧ wr.heap[w.heap.size]? = some (.cells #[.int .i64 hd.k, .int .i64 hd.v, .string hd.t, .int .i64 hd.s, .int .i64 hd.e, .int .i64 hd.nm, .slice A L c] 40 (0, 0))) (fun _ i _ => L - (intOf i).toNat)
  case atStart => exact ⟨0, [], rfl, Nat.zero_le _, by simpa [itemsLs] using hq0, hbw, hbx⟩
  case round =>
    clear hq0 hbw hbx
    obtain ⟨j, vs, rfl, hj, hown, hb, hbx⟩ := hrel
    by_cases hlt : j < L
    · have hjI : (j : Int) < L := by omega
      have hjl : j < ch.length := by rw [HL.out]; exact hlt
      obtain ⟨tb, off, xs, rfl, htb, hx, hxc⟩ := HK.out.get j ch[j] (List.getElem?_eq_getElem hjl)
      have htk : itemsLs (ch.take (j + 1)) = itemsLs (ch.take j) ++ itemsL ch[j] := by
        rw [List.take_succ_eq_append_getElem hjl, itemsLs_append]
        simp [itemsLs]
      have hszx : ch[j].sz ≤ szs ch := by
        have e := List.take_append_drop j ch
        rw [List.drop_eq_getElem_cons hjl] at e
        have := congrArg szs e
        rw [szs_append, szs] at this
        omega
      have hlen : (itemsLs (ch.take j)).length + (itemsL ch[j]).length ≤ szs ch := by
        have h1 := itemsLs_len (ch.take (j + 1))
        rw [htk, List.length_append] at h1
        have e := congrArg szs (List.take_append_drop (j + 1) ch)
        rw [szs_append] at e
        omega
      generalize ch[j] = x at *
      obtain ⟨A2, c2, rfl, _⟩ := NodeV.vals hx
      have hbs := hb.size
      have hwb : ∀ b, F b → wr.heap[b]? = w.heap[b]? := fun b hb' => hb.block b (HF.out b hb')
      have hc : ∀ t u, (x.h.vals (.slice A2 x.ch.length c2))[t]? = some u → wr.cell? ⟨tb, off + j * 7 + t, none⟩ = some u := fun t u hu => (World.cell?_of_block (w := w) (w' := wr) (a := ⟨tb, _, none⟩) (hwb tb htb)).trans (hxc t u hu)
      obtain ⟨m2, hm2⟩ : ∃ m2, x.ch.length = m2 := ⟨_, rfl⟩
      obtain ⟨hd2, hhd2⟩ : ∃ hd2, x.h = hd2 := ⟨_, rfl⟩
      rw [hhd2, hm2] at hc
      have d0 := hc 0 _ rfl
      have d1 := hc 1 _ rfl
      have d2 := hc 2 _ rfl
      have d3 := hc 3 _ rfl
      have d4 := hc 4 _ rfl
      have d5 := hc 5 _ rfl
      have d6 := hc 6 _ rfl
      rw [Nat.add_zero] at d0
      have htl : tb < wr.heap.size := Nat.lt_of_lt_of_le (HF.out tb htb) hbs
      have hbl : Below wr.heap.size wr (wr.alloc (.cells #[.int .i64 hd2.k, .int .i64 hd2.v, .string hd2.t, .int .i64 hd2.s, .int .i64 hd2.e, .int .i64 hd2.nm, .slice A2 m2 c2] 40)) := (Below.refl _ _).alloc (Nat.le_refl _) _
      have hx1 : NodeV (wr.alloc (.cells #[.int .i64 hd2.k, .int .i64 hd2.v, .string hd2.t, .int .i64 hd2.s, .int .i64 hd2.e, .int .i64 hd2.nm, .slice A2 m2 c2] 40)) F x (x.h.vals (.slice A2 x.ch.length c2)) := NodeV.keep (fun _ h => h) (fun b hb' => (hbl.block b (Nat.lt_of_lt_of_le (HF.out b hb') hbs)).trans (hwb b hb')) _ _ hx
      have hcall := HI.out x (by have := HN.out; omega) (by have := HN.out; omega) _ F _ hx1 (fun b hb' => Nat.lt_of_lt_of_le (HF.out b hb') (Nat.le_trans hbs hbl.size))
      rw [hhd2, hm2] at hcall
      have hcall2 : Calls Tryz.prog 12 #[.agg #[.int .i64 hd2.k, .int .i64 hd2.v, .string hd2.t, .int .i64 hd2.s, .int .i64 hd2.e, .int .i64 hd2.nm, .slice A2 m2 c2]] _ _ := hcall
      have HC := Lib.hid hcall2
      have HTK := Lib.hid htk
      have HBX := Lib.hid hbx
      have HOW := Lib.hid hown
      have HBB := Lib.hid hb
      have HBL := Lib.hid hbl
      clear hc hx hxc hx1 hcall hcall2 hbl hwb hm2 hhd2 htk hown hb hbx
      go_wp2_with fail
      refine HC.out.mono ?_
      rintro e w3 ⟨A3, c3, rfl, ⟨ws, hrow, hra⟩, hb3⟩
      have hs3 := hb3.size
      have hsz1 : (wr.alloc (.cells #[.int .i64 hd2.k, .int .i64 hd2.v, .string hd2.t, .int .i64 hd2.s, .int .i64 hd2.e, .int .i64 hd2.nm, .slice A2 m2 c2] 40)).heap.size = wr.heap.size + 1 := by simp
      have hb13 : Below wr.heap.size wr w3 := HBL.out.trans (hb3.mono (by omega))
      have hown3 := HOW.out.below hb13
      have hrow3 : itemD.Row w3 (OF (w.heap.size + 1) u3 w3) (itemsL x) ws := hrow.keep (fun c hc => ⟨by have := hc.1; have := lt_of_heap HBX.out; omega, hc.2, fun e => by have := (HOW.out.1.lt c e).2; have := hc.1; omega⟩) (fun _ _ => rfl)
      have hwl := hrow.length
      have hone := hrow.one
      generalize hm : (itemsL x).length = m at *
      generalize hn0 : (itemsLs (ch.take j)).length = n0 at *
      have ho1 := hown3.1
      rw [hn0] at ho1
      have HM := Lib.hid hm
      have HN0 := Lib.hid hn0
      have HO3 := Lib.hid hown3
      have HR3 := Lib.hid hrow3
      have hwl5 : ws.length = m * 5 := hwl
      have ho1' : w3.ownsRow (w.heap.size + 1) 31 5 u3 n0 vs := ho1
      have hbB : w.heap.size + 1 ≤ w3.heap.size := by have := lt_of_heap HBX.out; omega
      clear hm hn0 hown3 hrow3 hrow hwl ho1 HC d0 d1 d2 d3 d4 d5 d6
      go_wp2_with (at_builtin; refine wpList_append_src rfl (.tmp 14) (.tmp 16) _ rfl (w.heap.size + 1) 31 _ 5 64 Tryz.underlying23 info_item rfl (by decide) _ _ _ rfl ho1' _ _ _ _ ws rfl hra hwl5 hone ?c2 ?c3 hbB ?_)
      case c2 => simp only [maxLen]; omega
      case c3 => omega
      intro v' w4 hown4 hg4 hat4
      have h9 : itemD.Own w4 (w.heap.size + 1) 31 (OF (w.heap.size + 1) v' w4) v' (itemsLs (ch.take (j + 1))) (vs ++ ws) := by
        rw [HTK.out]
        exact HO3.out.grow HR3.out hg4 (by rw [HM.out, HN0.out]; exact hown4) hat4
      have hb4 : Below w.heap.size w w4 := (HBB.out.trans (hb13.mono hbs)).grown hg4 (by omega) (fun k hk => by have := (HO3.out.1.lt k hk).1; omega)
      have hbx4 : w4.heap[w.heap.size]? = _ := (hg4.block _ (by omega) (fun e => by have := (HO3.out.1.lt _ e.symm).1; omega)).trans ((hb13.block _ (lt_of_heap HBX.out)).trans HBX.out)
      have H9 := Lib.hid h9
      have HB4 := Lib.hid hb4
      have HX4 := Lib.hid hbx4
      clear h9 hb4 hbx4 hown4 hg4 hat4
      go_wp2_with fail
      go_roundw
      case rel => exact ⟨j + 1, _, by go_num, by omega, H9.out, HB4.out, HX4.out⟩
      case measure => simp [intOf]; omega
    · have hjI : ¬ (j : Int) < L := by omega
      have htk : ch.take j = ch := List.take_of_length_le (by rw [HL.out]; omega)
      rw [htk] at hown
      have d0 := cell_of hbx 0 _ rfl
      have d2 := cell_of hbx 2 _ rfl
      have d3 := cell_of hbx 3 _ rfl
      have d4 := cell_of hbx 4 _ rfl
      have hbl := lt_of_heap hbx
      have HB := Lib.hid hb
      obtain ⟨A3, c3, hv, hAt, _⟩ := hown.at (F' := New w wr) (fun c hc => ⟨by have := hc.1; omega, hc.2.1⟩) (fun c hc => by have := hown.1.lt c hc; exact ⟨by omega, this.2⟩)
      subst hv
      have HAt := Lib.hid hAt
      have hkc := symbolKind_any hd.k wr
      by_cases hk0 : symKind hd.k = 0
      · have HE2 := HE.out
        rw [if_pos hk0] at HE2
        rw [hk0] at hkc
        have HE3 := Lib.hid HE2
        have HKC := Lib.hid hkc
        clear HE2 hkc hk0 hb hAt hown htk HE
        go_wp2_with fail
        refine HKC.out.mono ?_
        rintro e w5 ⟨rfl, rfl⟩
        go_wp2_with fail
        go_ret
        rw [HE3.out]
        exact ⟨A3, c3, rfl, HAt.out, HB.out⟩
      · have HE2 := HE.out
        rw [if_neg hk0] at HE2
        have HE3 := Lib.hid HE2
        obtain ⟨kk, hkk⟩ : ∃ kk, symKind hd.k = kk := ⟨_, rfl⟩
        rw [hkk] at hkc hk0 HE3
        have hk1 : (kk == 0) = false := by simpa using hk0
        have HKC := Lib.hid hkc
        obtain ⟨m, hm⟩ : ∃ m, (itemsLs ch).length = m := ⟨_, rfl⟩
        rw [hm]
        have HM := Lib.hid hm
        clear HE2 hkc hk0 hb hAt hown htk HE hkk hm
        go_wp2_with fail
        refine HKC.out.mono ?_
        rintro e w5 ⟨rfl, rfl⟩
        go_wp2_with fail
        go_ret
        rw [HE3.out]
        have hsz5 : w5.heap.size < (w5.alloc (.cells #[.int .i64 kk, .int .i64 hd.s, .int .i64 hd.e, .string hd.t, .slice A3 m c3] 31)).heap.size := by simp
        have hw5 := HB.out.size
        refine ⟨some ⟨w5.heap.size, 0, none⟩, 1, rfl, ⟨[.int .i64 kk, .int .i64 hd.s, .int .i64 hd.e, .string hd.t, .slice A3 m c3], Dat.Row.single ?_, fun _ => ⟨w5.heap.size, 0, rfl, ⟨hw5, hsz5⟩, fun t u hu => ?_⟩⟩, HB.out.alloc hw5 _⟩
        · have hv := fun k s e t => ItemV.of (k := k) (s := s) (e := e) (t := t) (c := c3) (HAt.out.keep (F' := New w (w5.alloc (.cells #[.int .i64 kk, .int .i64 hd.s, .int .i64 hd.e, .string hd.t, .slice A3 m c3] 31))) (fun c hc => ⟨hc.1, Nat.lt_trans hc.2 hsz5⟩) (fun c hc => heap_alloc_lt w5 (.cells #[.int .i64 kk, .int .i64 hd.s, .int .i64 hd.e, .string hd.t, .slice A3 m c3] 31) hc.2))
          rw [HM.out] at hv
          exact hv _ _ _ _
        · rw [Nat.zero_add, Lib.cell_of_heap (heap_alloc_new w5 _)]
          simpa using hu
theorem items_any : ∀ n, ItemsOk n
  | 0 => fun x h => by omega
  | n + 1 => items_step n (items_any n)
end Go.Proofs.YtepadojclmjllaaGreatDoor

/-
  outline.Symbols: the walk.
-/
namespace Go.Proofs.YtepadojclmjllaaGreatDoor
open Go.RowKit
set_option linter.unusedVariables false

mutual
theorem nodeL_sz (src : ByteArray) : ∀ (x : Tree) (b : BS), (nodeL src x b).1.sz ≤ x.wt
  | .mk k t ch, b => by
    unfold nodeL Tree.wt
    simp only
    have h := kidsL_sz src ch ⟨newH k b.off, [], b⟩
    simp only [szs, Nat.zero_add] at h
    generalize kidsL src ch ⟨newH k b.off, [], b⟩ = R at *
    have : (finN src (maxH R.h) R.ch).sz ≤ 1 + szs R.ch := by
      unfold finN
      split
      · cases hR : R.ch with
        | nil =>
          show (Node.mk _ (default : Node).ch).sz ≤ _
          unfold Node.sz
          show 1 + szs (Node.ch (.mk default [])) ≤ _
          simp [Node.ch, szs]
        | cons y r =>
          show (Node.mk _ y.ch).sz ≤ _
          rw [szs]
          cases y
          simp only [Node.ch, Node.sz]
          omega
      · split
        · simp [Node.sz, szs]
        · simp [Node.sz]
    omega
theorem kidsL_sz (src : ByteArray) : ∀ (l : List Tree) (s : NS), szs (kidsL src l s).ch ≤ szs s.ch + wts l
  | [], s => by simp [kidsL, wts]
  | x :: r, s => by
    by_cases h : 100 ≤ x.k
    · rw [kidsL_tok h, wts]
      have h1 := kidsL_sz src r ⟨tokH s.h x.k x.t s.b.off (s.b.off + x.t.size), s.ch, tokB x.k x.t s.b⟩
      simp only at h1
      omega
    · rw [kidsL_node h, wts]
      have h1 := kidsL_sz src r ⟨extendH s.h (nodeL src x s.b).1.h.s (nodeL src x s.b).1.h.e, s.ch ++ [(nodeL src x s.b).1], (nodeL src x s.b).2⟩
      have h2 := nodeL_sz src x s.b
      simp only [szs_append, szs] at h1
      omega
end
theorem astN_sz (src : ByteArray) (ch : List Tree) (h : wts ch ≤ 602000) : (astN src ch).sz ≤ 700000 := by
  have h1 := nodeL_sz src (.mk 1 .empty ch) ⟨0, []⟩
  have h2 : (Tree.mk 1 ByteArray.empty ch).wt ≤ 602001 := by unfold Tree.wt; show 0 + 1 + wts ch ≤ 602001; omega
  unfold astN astR
  generalize nodeL src (.mk 1 .empty ch) ⟨0, []⟩ = r at *
  obtain ⟨⟨hd, c⟩, b⟩ := r
  simp only [Node.sz, Node.ch] at h1 ⊢
  omega
/-- what Parse leaves of a source that is too large -/
def BigPost (w : World) (e : Ending) (w' : World) : Prop :=
  e = .returned (.tuple #[.agg #[.int .i64 0, .int .i64 0, .string ⟨#[]⟩, .int .i64 0, .int .i64 0, .int .i64 0, .slice none 0 0], .slice none 0 0, .int .i64 2]) ∧ Below w.heap.size w w'
set_option maxRecDepth 100000 in
set_option maxHeartbeats 1600000 in
theorem astParse_big (src : ByteArray) (w : World) (hs : 2000 < src.size) (hm : src.size ≤ maxLen) :
    Calls Tryz.prog 11 #[.string src] w (BigPost w) := by
  go_enter Tryz.func11, Tryz.ntmps11
  go_wp2_with fail
  generalize hW : w.alloc _ = W
  have hbw : Below w.heap.size w W := by rw [← hW]; exact (Below.refl _ _).alloc (Nat.le_refl _) _
  have hR : W.heap[w.heap.size]? = some (.cells #[.int .i64 0, .int .i64 0, .string ⟨#[]⟩, .int .i64 0, .int .i64 0, .int .i64 0, .slice none 0 0] 40 (0, 0)) := by rw [← hW]; exact heap_alloc_new w _
  clear hW
  refine (parse_big src W hs hm).mono ?_
  rintro e w1 ⟨rfl, hb1⟩
  have h1R := (hb1.block _ (lt_of_heap hR)).trans hR
  have HB := Lib.hid (show Below w.heap.size w w1 from hbw.trans (hb1.mono hbw.size))
  have r0 := cell_of h1R 0 _ rfl
  have r1 := cell_of h1R 1 _ rfl
  have r2 := cell_of h1R 2 _ rfl
  have r3 := cell_of h1R 3 _ rfl
  have r4 := cell_of h1R 4 _ rfl
  have r5 := cell_of h1R 5 _ rfl
  have r6 := cell_of h1R 6 _ rfl
  have f0 := Lib.frozen_of_heap h1R 0
  have f1 := Lib.frozen_of_heap h1R 1
  have f2 := Lib.frozen_of_heap h1R 2
  have f3 := Lib.frozen_of_heap h1R 3
  have f4 := Lib.frozen_of_heap h1R 4
  have f5 := Lib.frozen_of_heap h1R 5
  have f6 := Lib.frozen_of_heap h1R 6
  have hl := lt_of_heap h1R
  have HR := Lib.hid h1R
  clear hR hbw hb1 h1R
  go_wp2_with fail
  generalize hWf : World.setCell _ ⟨w.heap.size, 6, none⟩ _ = Wf
  obtain ⟨hz0, hu⟩ := heap_set7p HR.out _ _ _ _ _ _ _ Wf hWf
  clear hWf
  have hz := (heap_alloc_lt Wf (.cells #[.int .i64 0, .string ⟨#[]⟩, .slice none 0 0] 53) (lt_of_heap hz0)).trans hz0
  have h2 : Below w.heap.size w Wf := ⟨hu.os.trans HB.out.os, hu.tape.trans HB.out.tape, hu.output.trans HB.out.output, by rw [hu.size]; exact HB.out.size, fun b hb => (hu.block b (by omega)).trans (HB.out.block b hb)⟩
  refine bodyPost_ret (results_cell_slot2 (P := Tryz.prog) (ty := 40) rfl _ _ w.heap.size 40 _ _ _ _ _ rfl rfl rfl hz Tryz.underlying40 rfl (by kernel_rfl)) rfl ?_
  exact ⟨rfl, h2.alloc h2.size _⟩
def SymPost (w : World) (n : Node) (e : Ending) (w' : World) : Prop :=
  ∃ A c, e = .returned (.tuple #[.slice A (itemsL n).length c, .int .i64 0]) ∧ itemD.At w' (New w w') A (itemsL n) ∧ Below w.heap.size w w'
set_option maxRecDepth 100000 in
set_option maxHeartbeats 1600000 in
theorem symbols_any (src : ByteArray) (w : World) (hg : Gl w) (hs : src.size ≤ 2000) (n : Nat) (u : PS) (hu : run n fileC ⟨tokensL src.data.toList, [], false, 600000⟩ = some u) :
    Calls Tryz.prog 6 #[.string src] w (SymPost w (astN src u.ch)) := by
  have hsz : src.data.toList.length = src.size := Array.length_toList
  obtain ⟨_, _, hwt⟩ := parse_safe src.data.toList (by rw [hsz]; exact hs) n u hu
  have hnz := astN_sz src u.ch hwt
  have HP := Lib.hid (astParse_any src w hg hs n u hu)
  clear hu hg hsz
  generalize u.ch = ch at *
  go_enter Tryz.func6, Tryz.ntmps6
  go_wp2_with fail
  refine HP.out.mono ?_
  rintro e w1 ⟨us, A, c, rfl, hv, hf, hb1⟩
  generalize astN src ch = x at *
  have hbl : Below w1.heap.size w1 (w1.alloc (.cells us.toArray 40)) := (Below.refl _ _).alloc (Nat.le_refl _) _
  have hv2 := NodeV.keep (F' := New w w1) (fun _ h => h) (fun b hb => hbl.block b hb.2) _ _ hv
  have HC := Lib.hid (items_any (x.sz + 1) x (Nat.lt_succ_self _) (by omega) _ (New w w1) us hv2 (fun c hc => Nat.lt_of_lt_of_le hc.2 hbl.size))
  obtain ⟨A2, c2, rfl, _⟩ := hv.vals
  have HB1 := Lib.hid hb1
  have hs1 := hb1.size
  obtain ⟨hd, hhd⟩ : ∃ hd, x.h = hd := ⟨_, rfl⟩
  obtain ⟨m, hm⟩ : ∃ m, x.ch.length = m := ⟨_, rfl⟩
  simp only [Hd.vals] at HC ⊢
  rw [hhd, hm] at HC ⊢
  clear hv hf hbl hv2 hb1 hhd hm HP
  go_wp2_with fail
  refine HC.out.mono ?_
  rintro e w3 ⟨A3, c3, rfl, hat, hb3⟩
  have hs3 := hb3.size
  have HAT := Lib.hid (hat.keep (F' := New w w3) (fun c hc => ⟨by have := hc.1; simp at this; omega, hc.2⟩) (fun _ _ => rfl))
  have HB3 := Lib.hid ((HB1.out.alloc hs1 _).trans (hb3.mono (by simp; omega)))
  clear hat hb3 HC
  obtain ⟨k, hk⟩ : ∃ k, (itemsL x).length = k := ⟨_, rfl⟩
  have HK := Lib.hid hk
  rw [hk]
  clear hk
  go_wp2_with fail
  go_ret2
  exact ⟨A3, c3, by rw [HK.out]; rfl, HAT.out, HB3.out⟩
theorem symbols_big (src : ByteArray) (w : World) (hs : 2000 < src.size) (hm : src.size ≤ maxLen) :
    Calls Tryz.prog 6 #[.string src] w fun e w' => e = .returned (.tuple #[.slice none 0 0, .int .i64 2]) ∧ Below w.heap.size w w' := by
  have HP := Lib.hid (astParse_big src w hs hm)
  clear hs hm
  go_enter Tryz.func6, Tryz.ntmps6
  go_wp2_with fail
  refine HP.out.mono ?_
  rintro e w1 ⟨rfl, hb1⟩
  have HB := Lib.hid hb1
  have hz := hb1.size
  clear hb1
  go_wp2_with fail
  go_ret2
  exact ⟨rfl, HB.out.alloc hz _⟩
end Go.Proofs.YtepadojclmjllaaGreatDoor
