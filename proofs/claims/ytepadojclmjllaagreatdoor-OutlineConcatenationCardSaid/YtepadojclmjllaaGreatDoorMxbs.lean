import Derived.Test.YtepadojclmjllaaGreatDoorMxbr
/-
  outline.foldable: the walk.
-/
namespace Go.Proofs.YtepadojclmjllaaGreatDoor
open Go.RowKit
set_option linter.unusedVariables false

/-- data of k cells without anything behind them -/
def flatD {α : Type} (enc : α → List Value) (k : Nat) (hp : 0 < k) (hk : ∀ x, (enc x).length = k) (h1 : ∀ x, ∀ v ∈ enc x, v.oneCell' = true) : Dat α :=
  ⟨fun _ _ x vs => vs = enc x, k, hp, fun h => by rw [h]; exact hk _, fun _ _ h => h, fun h => by rw [h]; exact h1 _⟩
theorem flatD_row {α : Type} {enc : α → List Value} {k : Nat} {hp : 0 < k} {hk : ∀ x, (enc x).length = k} {h1 : ∀ x, ∀ v ∈ enc x, v.oneCell' = true} {w : World} {F : Nat → Prop} : ∀ (xs : List α) (vs : List Value), (flatD enc k hp hk h1).Row w F xs vs → vs = xs.flatMap enc
  | [], vs, h => h
  | x :: r, vs, h => by
    obtain ⟨us, ws, rfl, h1, h2⟩ := h
    have e : us = enc x := h1
    rw [e, flatD_row r ws h2]; simp
theorem flatD_of {α : Type} {enc : α → List Value} {k : Nat} {hp : 0 < k} {hk : ∀ x, (enc x).length = k} {h1 : ∀ x, ∀ v ∈ enc x, v.oneCell' = true} {w : World} {F : Nat → Prop} : ∀ (xs : List α), (flatD enc k hp hk h1).Row w F xs (xs.flatMap enc)
  | [] => rfl
  | x :: r => ⟨enc x, r.flatMap enc, by simp, rfl, flatD_of r⟩
/-- a range of a module: the places -/
def rgC (x : Int × Int) : List Value := [.int .i64 0, .int .i64 x.1, .int .i64 x.2]
def rgD : Dat (Int × Int) := flatD rgC 3 (by decide) (fun _ => rfl) (fun x v hv => by simp [rgC] at hv; rcases hv with rfl | rfl | rfl <;> rfl)
theorem info_rg : (Tryz.prog.info? 37).map (fun i => (i.zero, i.size, i.bytes)) = some (some (.agg #[.int .i64 0, .int .i64 0, .int .i64 0]), 3, 24) := by kernel_rfl
def foldK (k : Int) : Bool := decide (k = 21 ∨ k = 4 ∨ k = 5 ∨ k = 6 ∨ k = 7 ∨ k = 35)
def hasNl (t : ByteArray) : Bool := decide (0 ≤ Lib.indexByte t.data.toList 10)
mutual
def foldL (src : ByteArray) : Node → List (Int × Int)
  | .mk h ch => (if foldK h.k && hasNl (src.extract h.s.toNat h.e.toNat) then [(h.s, h.e)] else []) ++ foldLs src ch
def foldLs (src : ByteArray) : List Node → List (Int × Int)
  | [] => []
  | x :: r => foldL src x ++ foldLs src r
end
theorem foldLs_append (src : ByteArray) : ∀ (a b : List Node), foldLs src (a ++ b) = foldLs src a ++ foldLs src b
  | [], b => by simp [foldLs]
  | x :: r, b => by rw [List.cons_append, foldLs, foldLs, foldLs_append src r b, List.append_assoc]
mutual
theorem foldL_len (src : ByteArray) : ∀ (n : Node), (foldL src n).length ≤ n.sz
  | .mk h ch => by
    unfold foldL Node.sz
    have := foldLs_len src ch
    rw [List.length_append]
    split <;> simp <;> omega
theorem foldLs_len (src : ByteArray) : ∀ (l : List Node), (foldLs src l).length ≤ szs l
  | [] => by simp [foldLs, szs]
  | x :: r => by
    unfold foldLs szs
    have := foldL_len src x
    have := foldLs_len src r
    rw [List.length_append]; omega
end
theorem isFoldable_any (k : Int) (w : World) : Calls Tryz.prog 25 #[.int .i64 k] w fun e w' => e = .returned (.bool (foldK k)) ∧ w' = w := by
  by_cases h : k = 21 ∨ k = 4 ∨ k = 5 ∨ k = 6 ∨ k = 7 ∨ k = 35
  · rcases h with rfl | rfl | rfl | rfl | rfl | rfl
    all_goals
      go_enter Tryz.func25, Tryz.ntmps25
      go_wp2
      go_ret
      exact ⟨rfl, rfl⟩
  · have hs : foldK k = false := by unfold foldK; exact decide_eq_false h
    have b3 : (k == 21) = false := by simp; omega
    have b4 : (k == 4) = false := by simp; omega
    have b5 : (k == 5) = false := by simp; omega
    have b6 : (k == 6) = false := by simp; omega
    have b7 : (k == 7) = false := by simp; omega
    have b8 : (k == 35) = false := by simp; omega
    have HS := Lib.hid hs
    clear hs h
    go_enter Tryz.func25, Tryz.ntmps25
    go_wp2
    go_ret
    exact ⟨by rw [HS.out]; rfl, rfl⟩
/-- what foldable leaves -/
def FoPost (w : World) (xs : List (Int × Int)) (e : Ending) (w' : World) : Prop :=
  ∃ A c, e = .returned (.slice A xs.length c) ∧ rgD.At w' (New w w') A xs ∧ Below w.heap.size w w' ∧ ∃ vs, rgD.Own w' (w.heap.size + 1) 37 (OF (w.heap.size + 1) (.slice A xs.length c) w') (.slice A xs.length c) xs vs
def FoldOk (n : Nat) : Prop := ∀ (x : Node), x.sz < n → x.sz ≤ 800000 → ∀ (src : ByteArray) (lo hi : Int), nest lo hi x → 0 ≤ lo → hi ≤ src.size → src.size ≤ 2000 → ∀ (w : World) (F : Nat → Prop) (us : List Value), NodeV w F x us → (∀ c, F c → c < w.heap.size) →
  Calls Tryz.prog 13 #[.string src, .agg us.toArray] w (FoPost w (foldL src x))
theorem nests_mem : ∀ {l : List Node} {lo hi : Int} {x : Node}, nests lo hi l → x ∈ l → nest lo hi x
  | [], lo, hi, x, h, hx => by cases hx
  | y :: r, lo, hi, x, h, hx => by
    unfold nests at h
    rcases List.mem_cons.1 hx with rfl | hx
    · exact h.1
    · obtain ⟨a, b, c, d⟩ := h.1.le
      exact (nests_mem h.2 hx).mono (by omega) (Int.le_refl _)
set_option maxRecDepth 100000 in
set_option maxHeartbeats 3200000 in
theorem fold_step (n : Nat) (ih : FoldOk n) : FoldOk (n + 1) := by
  intro x hxn hsz src lo hi hnest hlo hhi hs w F us hus hF
  obtain ⟨A, c, rfl, hk⟩ := hus.kids
  obtain ⟨hd, ch⟩ := x
  simp only [Node.h, Node.ch] at hk ⊢
  obtain ⟨L, hL⟩ : ∃ L, ch.length = L := ⟨_, rfl⟩
  have hLz : ch.length ≤ szs ch := by
    have : ∀ l : List Node, l.length ≤ szs l := by
      intro l
      induction l with
      | nil => simp
      | cons y r ih =>
        rw [szs, List.length_cons]
        have : 1 ≤ y.sz := by cases y; unfold Node.sz; omega
        omega
    exact this ch
  unfold Node.sz at hxn hsz
  unfold nest at hnest
  obtain ⟨n1, n2, n3, n4⟩ := hnest
  have HK := Lib.hid hk
  have HL := Lib.hid hL
  have HF := Lib.hid hF
  have HI := Lib.hid ih
  have HN := Lib.hid hxn
  have HN4 := Lib.hid n4
  have hLb : L ≤ 800000 := by omega
  have HE := Lib.hid (show foldL src (.mk hd ch) = (if foldK hd.k && hasNl (src.extract hd.s.toNat hd.e.toNat) then [(hd.s, hd.e)] else []) ++ foldLs src ch by rw [foldL])
  have hhl : (if foldK hd.k && hasNl (src.extract hd.s.toNat hd.e.toNat) then [(hd.s, hd.e)] else []).length ≤ 1 := by split <;> simp
  simp only [Hd.vals]
  rw [hL]
  show Calls _ _ #[.string src, .agg #[.int .i64 hd.k, .int .i64 hd.v, .string hd.t, .int .i64 hd.s, .int .i64 hd.e, .int .i64 hd.nm, .slice A L c]] _ _
  have hbw : Below w.heap.size w (w.alloc (.cells #[.int .i64 hd.k, .int .i64 hd.v, .string hd.t, .int .i64 hd.s, .int .i64 hd.e, .int .i64 hd.nm, .slice A L c] 40)) := (Below.refl _ _).alloc (Nat.le_refl _) _
  have hbx := heap_alloc_new w (.cells #[.int .i64 hd.k, .int .i64 hd.v, .string hd.t, .int .i64 hd.s, .int .i64 hd.e, .int .i64 hd.nm, .slice A L c] 40)
  have hB1 : w.heap.size + 1 ≤ (w.alloc (.cells #[.int .i64 hd.k, .int .i64 hd.v, .string hd.t, .int .i64 hd.s, .int .i64 hd.e, .int .i64 hd.nm, .slice A L c] 40)).heap.size := by simp
  clear hk hL hF ih hxn hus hLz n4
  generalize hR : foldL src (.mk hd ch) = R at *
  generalize hH : (if foldK hd.k && hasNl (src.extract hd.s.toNat hd.e.toNat) then [(hd.s, hd.e)] else []) = H at *
  have HH := Lib.hid hH
  have hfold := isFoldable_any hd.k
  have hcon := fun W => Tryz.strings_Contains_one (src.extract hd.s.toNat hd.e.toNat) 10 W
  have HFO := Lib.hid hfold
  have HCO := Lib.hid hcon
  clear hR hH hfold hcon
  go_enter Tryz.func13, Tryz.ntmps13
  go_upto_region 2 with fail
  generalize hW : w.alloc _ = W at *
  have hq0 : rgD.Own W (w.heap.size + 1) 37 (OF (w.heap.size + 1) (.slice none 0 0) W) (.slice none 0 0) [] [] := Dat.Own.nil
  clear hW
  go_cut [19] (fun v19 wx => v19 = .bool (foldK hd.k && hasNl (src.extract hd.s.toNat hd.e.toNat)) ∧ wx = W)
  case first =>
    have d0 := cell_of hbx 0 _ rfl
    have d3 := cell_of hbx 3 _ rfl
    have d4 := cell_of hbx 4 _ rfl
    have HFO2 := HFO.out W
    have n5 : hd.e ≤ src.size := by omega
    have n6 : 0 ≤ hd.s := by omega
    generalize hn : hasNl (src.extract hd.s.toNat hd.e.toNat) = nl at *
    have HNL := Lib.hid hn
    by_cases hf : foldK hd.k = true
    · rw [hf] at HFO2
      have HFO3 := Lib.hid HFO2
      clear HFO2 hn
      go_wp2_with fail
      refine HFO3.out.mono ?_
      rintro e wx ⟨rfl, rfl⟩
      go_wp2_with fail
      refine (HCO.out _).mono ?_
      rintro e w2 ⟨rfl, rfl⟩
      go_wp2_with fail
      go_meet
      exact ⟨by rw [← HNL.out]; simp [hasNl, hf], rfl⟩
    · have hf' : foldK hd.k = false := by simpa using hf
      rw [hf'] at HFO2
      have HFO3 := Lib.hid HFO2
      clear HFO2 hn
      go_wp2_with fail
      refine HFO3.out.mono ?_
      rintro e wx ⟨rfl, rfl⟩
      go_wp2_with fail
      go_meet
      exact ⟨by rw [hf']; rfl, rfl⟩
  case rest =>
    obtain ⟨rfl, rfl⟩ := hcut
    go_upto_if 19 with fail
    go_cut [5] (fun s5 wx => ∃ vs, rgD.Own wx (w.heap.size + 1) 37 (OF (w.heap.size + 1) s5 wx) s5 H vs ∧ Below w.heap.size w wx ∧ wx.heap[w.heap.size]? = some (.cells #[.int .i64 hd.k, .int .i64 hd.v, .string hd.t, .int .i64 hd.s, .int .i64 hd.e, .int .i64 hd.nm, .slice A L c] 40 (0, 0)))
    case first =>
      have d3 := cell_of hbx 3 _ rfl
      have d4 := cell_of hbx 4 _ rfl
      by_cases hb : (foldK hd.k && hasNl (src.extract hd.s.toNat hd.e.toNat)) = true
      · have hH := HH.out
        rw [if_pos hb] at hH
        subst hH
        rw [hb]
        clear hb
        have ho1 : wc.ownsRow (w.heap.size + 1) 37 3 (.slice none 0 0) 0 [] := hq0.1
        have HQ0 := Lib.hid hq0
        clear hq0
        go_wp2_with (at_builtin; refine wpList_append_litH rfl (.tmp 20) (.tmp 26) _ rfl (w.heap.size + 1) 37 _ 3 24 Tryz.underlying33 info_rg rfl (by decide) _ _ _ rfl ho1 1 1 wc.heap.size (by simp) [.int .i64 0, .int .i64 hd.s, .int .i64 hd.e] rfl rfl ?c1 ?c2 ?c3 ?c4 ?_)
        case c1 => simp [Value.oneCell']
        case c2 => simp only [maxLen]; omega
        case c3 => omega
        case c4 => have := lt_of_heap hbx; simp; omega
        intro v2 w2 hown2 hg2 hat2
        go_wp2_with fail
        go_meet
        have h2 : rgD.Own w2 (w.heap.size + 1) 37 (OF (w.heap.size + 1) v2 w2) v2 ([] ++ [(hd.s, hd.e)]) ([] ++ rgC (hd.s, hd.e)) :=
          HQ0.out.grow (ys := [(hd.s, hd.e)]) (Dat.Row.single (D := rgD) (show _ = rgC (hd.s, hd.e) from rfl)) hg2 hown2 hat2
        exact ⟨_, h2, hbw.grown hg2 (by have := lt_of_heap hbx; omega) (fun q hq => by cases hq), (hg2.block _ (lt_of_heap hbx) (fun e => by cases e)).trans hbx⟩
      · have hH := HH.out
        rw [if_neg hb] at hH
        subst hH
        rw [show (foldK hd.k && hasNl (src.extract hd.s.toNat hd.e.toNat)) = false by simpa using hb]
        clear hb
        go_wp2_with fail
        go_meet
        exact ⟨[], hq0, hbw, hbx⟩
    case rest =>
      clear hq0 hbw hbx
      obtain ⟨vs0, hq0, hbw, hbx⟩ := hcut
      have d6 := cell_of hbx 6 _ rfl
      go_wp2_with fail
      go_loopw [5, 31] (fun v i wr => ∃ (j : Nat) (vs : List Value), i = .int .i64 (j : Int) ∧ j ≤ L ∧ rgD.Own wr (w.heap.size + 1) 37 (OF (w.heap.size + 1) v wr) v (H ++ foldLs src (ch.take j)) vs ∧ Below w.heap.size w wr ∧ wr.heap[w.heap.size]? = some (.cells #[.int .i64 hd.k, .int .i64 hd.v, .string hd.t, .int .i64 hd.s, .int .i64 hd.e, .int .i64 hd.nm, .slice A L c] 40 (0, 0))) (fun _ i _ => L - (intOf i).toNat)
      case atStart => exact ⟨0, vs0, rfl, Nat.zero_le _, by simpa [foldLs] using hq0, hbw, hbx⟩
      case round =>
        clear hq0 hbw hbx d6
        obtain ⟨j, vs, rfl, hj, hown, hb, hbx⟩ := hrel
        by_cases hlt : j < L
        · have hjI : (j : Int) < L := by omega
          have hjl : j < ch.length := by rw [HL.out]; exact hlt
          obtain ⟨tb, off, xs, rfl, htb, hx, hxc⟩ := HK.out.get j ch[j] (List.getElem?_eq_getElem hjl)
          have htk : H ++ foldLs src (ch.take (j + 1)) = (H ++ foldLs src (ch.take j)) ++ foldL src ch[j] := by
            rw [List.take_succ_eq_append_getElem hjl, foldLs_append]
            simp [foldLs]
          have hszx : ch[j].sz ≤ szs ch := by
            have e := List.take_append_drop j ch
            rw [List.drop_eq_getElem_cons hjl] at e
            have := congrArg szs e
            rw [szs_append, szs] at this
            omega
          have hlen : (H ++ foldLs src (ch.take j)).length + (foldL src ch[j]).length ≤ szs ch + 1 := by
            have h1 := foldLs_len src (ch.take (j + 1))
            have h2 : (H ++ foldLs src (ch.take (j + 1))).length = _ := congrArg List.length htk
            rw [List.length_append, List.length_append] at h2
            have e := congrArg szs (List.take_append_drop (j + 1) ch)
            rw [szs_append] at e
            omega
          have hnx : nest hd.s hd.e ch[j] := nests_mem HN4.out (List.getElem_mem hjl)
          generalize ch[j] = x at *
          obtain ⟨A2, c2, rfl, _⟩ := NodeV.vals hx
          have hbs := hb.size
          have hwb : ∀ b, F b → wr.heap[b]? = w.heap[b]? := fun b hb' => hb.block b (HF.out b hb')
          have hc : ∀ t u, (x.h.vals (.slice A2 x.ch.length c2))[t]? = some u → wr.cell? ⟨tb, off + j * 7 + t, none⟩ = some u := fun t u hu => (World.cell?_of_block (w := w) (w' := wr) (a := ⟨tb, _, none⟩) (hwb tb htb)).trans (hxc t u hu)
          obtain ⟨m2, hm2⟩ : ∃ m2, x.ch.length = m2 := ⟨_, rfl⟩
          obtain ⟨hd2, hhd2⟩ : ∃ hd2, x.h = hd2 := ⟨_, rfl⟩
          rw [hhd2, hm2] at hc
          have d0 := hc 0 _ rfl
          have d1 := hc 1 _ rfl
          have d2 := hc 2 _ rfl
          have d3 := hc 3 _ rfl
          have d4 := hc 4 _ rfl
          have d5 := hc 5 _ rfl
          have d6 := hc 6 _ rfl
          rw [Nat.add_zero] at d0
          have htl : tb < wr.heap.size := Nat.lt_of_lt_of_le (HF.out tb htb) hbs
          have hbl : Below wr.heap.size wr (wr.alloc (.cells #[.int .i64 hd2.k, .int .i64 hd2.v, .string hd2.t, .int .i64 hd2.s, .int .i64 hd2.e, .int .i64 hd2.nm, .slice A2 m2 c2] 40)) := (Below.refl _ _).alloc (Nat.le_refl _) _
          have hx1 : NodeV (wr.alloc (.cells #[.int .i64 hd2.k, .int .i64 hd2.v, .string hd2.t, .int .i64 hd2.s, .int .i64 hd2.e, .int .i64 hd2.nm, .slice A2 m2 c2] 40)) F x (x.h.vals (.slice A2 x.ch.length c2)) := NodeV.keep (fun _ h => h) (fun b hb' => (hbl.block b (Nat.lt_of_lt_of_le (HF.out b hb') hbs)).trans (hwb b hb')) _ _ hx
          have hcall := HI.out x (by have := HN.out; omega) (by have := HN.out; omega) src hd.s hd.e hnx (by omega) (by omega) hs _ F _ hx1 (fun b hb' => Nat.lt_of_lt_of_le (HF.out b hb') (Nat.le_trans hbs hbl.size))
          rw [hhd2, hm2] at hcall
          have hcall2 : Calls Tryz.prog 13 #[.string src, .agg #[.int .i64 hd2.k, .int .i64 hd2.v, .string hd2.t, .int .i64 hd2.s, .int .i64 hd2.e, .int .i64 hd2.nm, .slice A2 m2 c2]] _ _ := hcall
          have HC := Lib.hid hcall2
          have HTK := Lib.hid htk
          have HBX := Lib.hid hbx
          have HOW := Lib.hid hown
          have HBB := Lib.hid hb
          have HBL := Lib.hid hbl
          clear hc hx hxc hx1 hcall hcall2 hbl hwb hm2 hhd2 htk hown hb hbx hnx
          go_wp2_with fail
          refine HC.out.mono ?_
          rintro e w3 ⟨A3, c3, rfl, ⟨ws, hrow, hra⟩, hb3, _⟩
          have hs3 := hb3.size
          have hsz1 : (wr.alloc (.cells #[.int .i64 hd2.k, .int .i64 hd2.v, .string hd2.t, .int .i64 hd2.s, .int .i64 hd2.e, .int .i64 hd2.nm, .slice A2 m2 c2] 40)).heap.size = wr.heap.size + 1 := by simp
          have hb13 : Below wr.heap.size wr w3 := HBL.out.trans (hb3.mono (by omega))
          have hown3 := HOW.out.below hb13
          have hrow3 : rgD.Row w3 (OF (w.heap.size + 1) u5 w3) (foldL src x) ws := hrow.keep (fun c hc => ⟨by have := hc.1; have := lt_of_heap HBX.out; omega, hc.2, fun e => by have := (HOW.out.1.lt c e).2; have := hc.1; omega⟩) (fun _ _ => rfl)
          have hwl := hrow.length
          have hone := hrow.one
          generalize hm : (foldL src x).length = m at *
          generalize hn0 : (H ++ foldLs src (ch.take j)).length = n0 at *
          have ho1 := hown3.1
          rw [hn0] at ho1
          have HM := Lib.hid hm
          have HN0 := Lib.hid hn0
          have HO3 := Lib.hid hown3
          have HR3 := Lib.hid hrow3
          have hwl5 : ws.length = m * 3 := hwl
          have ho1' : w3.ownsRow (w.heap.size + 1) 37 3 u5 n0 vs := ho1
          have hbB : w.heap.size + 1 ≤ w3.heap.size := by have := lt_of_heap HBX.out; omega
          clear hm hn0 hown3 hrow3 hrow hwl ho1 HC d0 d1 d2 d3 d4 d5 d6
          go_wp2_with (at_builtin; refine wpList_append_src rfl (.tmp 35) (.tmp 38) _ rfl (w.heap.size + 1) 37 _ 3 24 Tryz.underlying33 info_rg rfl (by decide) _ _ _ rfl ho1' _ _ _ _ ws rfl hra hwl5 hone ?c2 ?c3 hbB ?_)
          case c2 => simp only [maxLen]; omega
          case c3 => omega
          intro v' w4 hown4 hg4 hat4
          have h9 : rgD.Own w4 (w.heap.size + 1) 37 (OF (w.heap.size + 1) v' w4) v' (H ++ foldLs src (ch.take (j + 1))) (vs ++ ws) := by
            rw [HTK.out]
            exact HO3.out.grow HR3.out hg4 (by rw [HM.out, HN0.out]; exact hown4) hat4
          have hb4 : Below w.heap.size w w4 := (HBB.out.trans (hb13.mono hbs)).grown hg4 (by omega) (fun k hk => by have := (HO3.out.1.lt k hk).1; omega)
          have hbx4 : w4.heap[w.heap.size]? = _ := (hg4.block _ (by omega) (fun e => by have := (HO3.out.1.lt _ e.symm).1; omega)).trans ((hb13.block _ (lt_of_heap HBX.out)).trans HBX.out)
          have H9 := Lib.hid h9
          have HB4 := Lib.hid hb4
          have HX4 := Lib.hid hbx4
          clear h9 hb4 hbx4 hown4 hg4 hat4
          go_wp2_with fail
          go_roundw
          case rel => exact ⟨j + 1, _, by go_num, by omega, H9.out, HB4.out, HX4.out⟩
          case measure => simp [intOf]; omega
        · have hjI : ¬ (j : Int) < L := by omega
          have htk : ch.take j = ch := List.take_of_length_le (by rw [HL.out]; omega)
          rw [htk] at hown
          obtain ⟨A3, c3, hv, hAt, _⟩ := hown.at (F' := New w wr) (fun c hc => ⟨by have := hc.1; omega, hc.2.1⟩) (fun c hc => by have := hown.1.lt c hc; exact ⟨by omega, this.2⟩)
          subst hv
          have HAt := Lib.hid hAt
          have HB := Lib.hid hb
          have HOW := Lib.hid hown
          obtain ⟨m, hm⟩ : ∃ m, (H ++ foldLs src ch).length = m := ⟨_, rfl⟩
          rw [hm] at HOW ⊢
          have HM := Lib.hid hm
          clear hb hAt hown htk hm
          go_wp2_with fail
          go_ret
          rw [HE.out]
          exact ⟨A3, c3, by rw [HM.out]; rfl, HAt.out, HB.out, _, by rw [HM.out]; exact HOW.out⟩
theorem fold_any : ∀ n, FoldOk n
  | 0 => fun x h => by omega
  | n + 1 => fold_step n (fold_any n)
end Go.Proofs.YtepadojclmjllaaGreatDoor
