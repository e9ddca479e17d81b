import Derived.Test.YtepadojclmjllaaGreatDoorMxbo
/-
  outline.Flatten: the walk.
-/
namespace Go.Proofs.YtepadojclmjllaaGreatDoor
open Go.RowKit
set_option linter.unusedVariables false

mutual
def flatI : Item → List Item
  | .mk k s e t ch => .mk k s e t [] :: flatL ch
def flatL : List Item → List Item
  | [] => []
  | x :: r => flatI x ++ flatL r
end
mutual
/-- the number of an item's items -/
def Item.sz : Item → Nat
  | .mk _ _ _ _ ch => 1 + iszs ch
def iszs : List Item → Nat
  | [] => 0
  | x :: r => x.sz + iszs r
end
theorem iszs_append : ∀ (a b : List Item), iszs (a ++ b) = iszs a + iszs b
  | [], b => by simp [iszs]
  | x :: r, b => by rw [List.cons_append, iszs, iszs, iszs_append r b]; omega
theorem flatL_append : ∀ (a b : List Item), flatL (a ++ b) = flatL a ++ flatL b
  | [], b => by simp [flatL]
  | x :: r, b => by rw [List.cons_append, flatL, flatL, flatL_append r b, List.append_assoc]
mutual
theorem flatI_len : ∀ (x : Item), (flatI x).length = x.sz
  | .mk k s e t ch => by unfold flatI Item.sz; rw [List.length_cons, flatL_len ch]; omega
theorem flatL_len : ∀ (l : List Item), (flatL l).length = iszs l
  | [] => by simp [flatL, iszs]
  | x :: r => by unfold flatL iszs; rw [List.length_append, flatI_len x, flatL_len r]
end
mutual
theorem itemsL_sz : ∀ (n : Node), iszs (itemsL n) ≤ n.sz
  | .mk h ch => by
    unfold itemsL Node.sz
    have := itemsLs_sz ch
    split
    · omega
    · simp only [iszs, Item.sz]; omega
theorem itemsLs_sz : ∀ (l : List Node), iszs (itemsLs l) ≤ szs l
  | [] => by simp [itemsLs, iszs]
  | x :: r => by
    unfold itemsLs szs
    have := itemsL_sz x
    have := itemsLs_sz r
    rw [iszs_append]; omega
end
theorem len_iszs : ∀ (l : List Item), l.length ≤ iszs l
  | [] => by simp
  | x :: r => by
    rw [iszs, List.length_cons]
    have := len_iszs r
    have : 1 ≤ x.sz := by cases x; unfold Item.sz; omega
    omega
theorem itemV_leaf (w : World) (F : Nat → Prop) (k s e : Int) (t : ByteArray) : itemD.V w F (.mk k s e t []) [.int .i64 k, .int .i64 s, .int .i64 e, .string t, .slice none 0 0] := by
  show ItemV w F _ _
  unfold ItemV
  exact ⟨none, 0, rfl, .inl rfl⟩
def FlatOk (n : Nat) : Prop := ∀ (xs : List Item), iszs xs < n → iszs xs ≤ 800000 → ∀ (w : World) (F : Nat → Prop) (A : Option Addr) (c : Nat), itemD.At w F A xs → (∀ c, F c → c < w.heap.size) →
  Calls Tryz.prog 9 #[.slice A xs.length c] w (ItPost w (flatL xs))
set_option maxRecDepth 100000 in
set_option maxHeartbeats 3200000 in
theorem flat_step (n : Nat) (ih : FlatOk n) : FlatOk (n + 1) := by
  intro xs hxn hsz w F A c hat hF
  obtain ⟨L, hL⟩ : ∃ L, xs.length = L := ⟨_, rfl⟩
  have hLz := len_iszs xs
  have HK := Lib.hid hat
  have HL := Lib.hid hL
  have HF := Lib.hid hF
  have HI := Lib.hid ih
  have HN := Lib.hid hxn
  have hLb : L ≤ 800000 := by omega
  rw [hL]
  clear hat hL hF ih hxn hLz
  go_enter Tryz.func9, Tryz.ntmps9
  go_wp2_with fail
  have hq0 : itemD.Own w w.heap.size 31 (OF w.heap.size (.slice none 0 0) w) (.slice none 0 0) [] [] := Dat.Own.nil
  go_loopw [3, 9] (fun v i wr => ∃ (j : Nat) (vs : List Value), i = .int .i64 (j : Int) ∧ j ≤ L ∧ itemD.Own wr w.heap.size 31 (OF w.heap.size v wr) v (flatL (xs.take j)) vs ∧ Below w.heap.size w wr) (fun _ i _ => L - (intOf i).toNat)
  case atStart => exact ⟨0, [], rfl, Nat.zero_le _, by simpa [flatL] using hq0, Below.refl _ _⟩
  case round =>
    clear hq0
    obtain ⟨j, vs, rfl, hj, hown, hb⟩ := hrel
    by_cases hlt : j < L
    · have hjI : (j : Int) < L := by omega
      have hjl : j < xs.length := by rw [HL.out]; exact hlt
      obtain ⟨tb, off, us, rfl, htb, hx, hxc⟩ := HK.out.get j xs[j] (List.getElem?_eq_getElem hjl)
      have htk : flatL (xs.take (j + 1)) = flatL (xs.take j) ++ flatI xs[j] := by
        rw [List.take_succ_eq_append_getElem hjl, flatL_append]
        simp [flatL]
      have hszx : iszs (xs.take j) + xs[j].sz ≤ iszs xs := by
        have e := List.take_append_drop j xs
        rw [List.drop_eq_getElem_cons hjl] at e
        have := congrArg iszs e
        rw [iszs_append, iszs] at this
        omega
      generalize xs[j] = x at *
      obtain ⟨A2, c2, rfl, hkids⟩ := ItemV.kids hx
      obtain ⟨k, s, e, t, ch⟩ := x
      simp only [Item.k, Item.s, Item.e, Item.t, Item.ch] at hx hxc hkids ⊢
      have hfx : flatI (.mk k s e t ch) = .mk k s e t [] :: flatL ch := by rw [flatI]
      rw [hfx] at htk
      simp only [Item.sz] at hszx
      have hbs := hb.size
      have hwb : ∀ b, F b → wr.heap[b]? = w.heap[b]? := fun b hb' => hb.block b (HF.out b hb')
      obtain ⟨m2, hm2⟩ : ∃ m2, ch.length = m2 := ⟨_, rfl⟩
      rw [hm2] at hxc hx
      have hc : ∀ i u, ([.int .i64 k, .int .i64 s, .int .i64 e, .string t, .slice A2 m2 c2] : List Value)[i]? = some u → wr.cell? ⟨tb, off + j * 5 + i, none⟩ = some u := fun i u hu => (World.cell?_of_block (w := w) (w' := wr) (a := ⟨tb, _, none⟩) (hwb tb htb)).trans (hxc i u hu)
      have d0 := hc 0 _ rfl
      have d1 := hc 1 _ rfl
      have d2 := hc 2 _ rfl
      have d3 := hc 3 _ rfl
      have d4 := hc 4 _ rfl
      rw [Nat.add_zero] at d0
      have htl : tb < wr.heap.size := Nat.lt_of_lt_of_le (HF.out tb htb) hbs
      have HKI := Lib.hid (hkids.keep (F' := F) (fun _ h => h) hwb)
      have HTK := Lib.hid htk
      have HOW := Lib.hid hown
      have HBB := Lib.hid hb
      have HM2 := Lib.hid hm2
      clear hc hx hxc hwb htk hown hb hkids hfx hm2
      have hbl : Below wr.heap.size wr (wr.alloc (.cells #[.int .i64 k, .int .i64 s, .int .i64 e, .string t, .slice none 0 0] 31)) := (Below.refl _ _).alloc (Nat.le_refl _) _
      have hown1 := HOW.out.below hbl
      have hfl := flatL_len (xs.take j)
      obtain ⟨n0, hn0⟩ : ∃ n0, (flatL (xs.take j)).length = n0 := ⟨_, rfl⟩
      have ho1 := hown1.1
      rw [hn0] at ho1
      have ho1' : (wr.alloc (.cells #[.int .i64 k, .int .i64 s, .int .i64 e, .string t, .slice none 0 0] 31)).ownsRow w.heap.size 31 5 u3 n0 vs := ho1
      have HO1 := Lib.hid hown1
      have HBL := Lib.hid hbl
      have HN0 := Lib.hid hn0
      have hn0b : n0 ≤ 800000 := by omega
      have hbB : w.heap.size ≤ (wr.alloc (.cells #[.int .i64 k, .int .i64 s, .int .i64 e, .string t, .slice none 0 0] 31)).heap.size := by simp; omega
      clear hn0 hown1 hbl ho1 hfl
      go_wp2_with (at_builtin; refine wpList_append_litH rfl (.tmp 16) (.tmp 18) _ rfl w.heap.size 31 _ 5 64 Tryz.underlying23 info_item rfl (by decide) _ _ _ rfl ho1' 1 1 (wr.heap.size + 1) (by simp) [.int .i64 k, .int .i64 s, .int .i64 e, .string t, .slice none 0 0] rfl rfl ?c1 ?c2 ?c3 hbB ?_)
      case c1 => simp [Value.oneCell']
      case c2 => simp only [maxLen]; omega
      case c3 => omega
      intro v2 w2 hown2 hg2 hat2
      have h2 : itemD.Own w2 w.heap.size 31 (OF w.heap.size v2 w2) v2 (flatL (xs.take j) ++ [.mk k s e t []]) (vs ++ [.int .i64 k, .int .i64 s, .int .i64 e, .string t, .slice none 0 0]) :=
        HO1.out.grow (ys := [.mk k s e t []]) (Dat.Row.single (D := itemD) (itemV_leaf _ _ _ _ _ _)) hg2 (by rw [HN0.out]; exact hown2) (hat2.imp_right fun ⟨g, h1, h2⟩ => ⟨g, h1, by simp; exact h2⟩)
      have hb2 : Below w.heap.size w w2 := (HBB.out.trans (HBL.out.mono hbs)).grown hg2 hbB (fun q hq => (HO1.out.1.lt q hq).1)
      have hwb2 : ∀ b, F b → w2.heap[b]? = wr.heap[b]? := fun b hb' => by rw [hb2.block b (HF.out b hb'), HBB.out.block b (HF.out b hb')]
      have hcall := HI.out ch (by have := HN.out; omega) (by omega) w2 F A2 c2 (HKI.out.keep (fun _ h => h) hwb2) (fun q hq => Nat.lt_of_lt_of_le (HF.out q hq) hb2.size)
      rw [HM2.out] at hcall
      have HC := Lib.hid hcall
      have H2 := Lib.hid h2
      have HB2 := Lib.hid hb2
      obtain ⟨Av, cv, rfl⟩ := own_slice hown2
      have hbs2 := hb2.size
      clear hcall h2 hb2 hwb2 hown2 hg2 hat2 d0 d1 d2 d3 d4
      go_wp2_with fail
      refine HC.out.mono ?_
      rintro e3 w3 ⟨A3, c3, rfl, ⟨ws, hrow, hra⟩, hb3⟩
      have hs3 := hb3.size
      have hown3 := H2.out.below hb3
      have hrow3 : itemD.Row w3 (OF w.heap.size (.slice Av (n0 + 1) cv) w3) (flatL ch) ws := hrow.keep (fun q hq => ⟨by have := hq.1; omega, hq.2, fun e => by have := (H2.out.1.lt q e).2; have := hq.1; omega⟩) (fun _ _ => rfl)
      have hwl := hrow.length
      have hone := hrow.one
      have hfl2 : (flatL ch).length ≤ 800000 := by rw [flatL_len]; omega
      generalize hm : (flatL ch).length = m at *
      have ho1 := hown3.1
      rw [List.length_append, HN0.out] at ho1
      have HM := Lib.hid hm
      have HO3 := Lib.hid hown3
      have HR3 := Lib.hid hrow3
      have hwl5 : ws.length = m * 5 := hwl
      have ho3' : w3.ownsRow w.heap.size 31 5 (.slice Av (n0 + 1) cv) (n0 + 1) (vs ++ [.int .i64 k, .int .i64 s, .int .i64 e, .string t, .slice none 0 0]) := ho1
      have hbB3 : w.heap.size ≤ w3.heap.size := by omega
      clear hm hown3 hrow3 hrow hwl ho1 HC ho1'
      go_wp2_with (at_builtin; refine wpList_append_src rfl (.tmp 19) (.tmp 21) _ rfl w.heap.size 31 _ 5 64 Tryz.underlying23 info_item rfl (by decide) _ _ _ rfl ho3' _ _ _ _ ws rfl hra hwl5 hone ?c4 ?c5 hbB3 ?_)
      case c4 => simp only [maxLen]; omega
      case c5 => omega
      intro v' w4 hown4 hg4 hat4
      have h9 : itemD.Own w4 w.heap.size 31 (OF w.heap.size v' w4) v' (flatL (xs.take (j + 1))) (vs ++ [.int .i64 k, .int .i64 s, .int .i64 e, .string t, .slice none 0 0] ++ ws) := by
        rw [HTK.out, show flatL (xs.take j) ++ Item.mk k s e t [] :: flatL ch = flatL (xs.take j) ++ [Item.mk k s e t []] ++ flatL ch by simp]
        exact HO3.out.grow HR3.out hg4 (by rw [List.length_append, HN0.out, HM.out]; simp only [List.length_singleton, List.append_assoc, List.cons_append, List.nil_append]; exact hown4) hat4
      have hb4 : Below w.heap.size w w4 := (HB2.out.trans (hb3.mono hbs2)).grown hg4 hbB3 (fun q hq => (HO3.out.1.lt q hq).1)
      have H9 := Lib.hid h9
      have HB4 := Lib.hid hb4
      clear h9 hb4 hown4 hg4 hat4
      go_wp2_with fail
      go_roundw
      case rel => exact ⟨j + 1, _, by go_num, by omega, H9.out, HB4.out⟩
      case measure => simp [intOf]; omega
    · have hjI : ¬ (j : Int) < L := by omega
      have htk : xs.take j = xs := List.take_of_length_le (by rw [HL.out]; omega)
      rw [htk] at hown
      have HB := Lib.hid hb
      obtain ⟨A3, c3, hv, hAt, _⟩ := hown.at (F' := New w wr) (fun c hc => ⟨hc.1, hc.2.1⟩) (fun c hc => hown.1.lt c hc)
      subst hv
      have HAt := Lib.hid hAt
      obtain ⟨m, hm⟩ : ∃ m, (flatL xs).length = m := ⟨_, rfl⟩
      have HM := Lib.hid hm
      rw [hm]
      clear hb hAt hown htk hm
      go_wp2_with fail
      go_ret
      exact ⟨A3, c3, by rw [HM.out]; rfl, HAt.out, HB.out⟩
theorem flat_any : ∀ n, FlatOk n
  | 0 => fun x h => by omega
  | n + 1 => flat_step n (flat_any n)
end Go.Proofs.YtepadojclmjllaaGreatDoor
