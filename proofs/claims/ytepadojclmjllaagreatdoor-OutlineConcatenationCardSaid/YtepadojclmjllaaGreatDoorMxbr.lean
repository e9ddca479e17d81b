import Derived.Test.YtepadojclmjllaaGreatDoorMxbq
/-
  properlyNested: the walk (where it holds).
-/
namespace Go.Proofs.YtepadojclmjllaaGreatDoor
open Go.RowKit
set_option linter.unusedVariables false

mutual
/-- how deep items lie in each other -/
def Item.ht : Item → Nat
  | .mk _ _ _ _ ch => 1 + hts ch
def hts : List Item → Nat
  | [] => 0
  | x :: r => max x.ht (hts r)
end
theorem hts_append : ∀ (a b : List Item), hts (a ++ b) = max (hts a) (hts b)
  | [], b => by simp [hts]
  | x :: r, b => by rw [List.cons_append, hts, hts, hts_append r b]; omega
theorem hts_mem : ∀ {l : List Item} {x : Item}, x ∈ l → x.ht ≤ hts l
  | [], x, h => by cases h
  | y :: r, x, h => by
    rw [hts]
    rcases List.mem_cons.1 h with rfl | h
    · omega
    · have := hts_mem h; omega
mutual
def Node.dp : Node → Nat
  | .mk h ch => (if symKind h.k = 0 then 0 else 1) + dpsN ch
def dpsN : List Node → Nat
  | [] => 0
  | x :: r => max x.dp (dpsN r)
end
theorem dpsN_append : ∀ (a b : List Node), dpsN (a ++ b) = max (dpsN a) (dpsN b)
  | [], b => by simp [dpsN]
  | x :: r, b => by rw [List.cons_append, dpsN, dpsN, dpsN_append r b]; omega
mutual
theorem items_ht : ∀ (x : Node), hts (itemsL x) ≤ x.dp
  | .mk h ch => by
    have hc := itemss_ht ch
    by_cases hk : symKind h.k = 0
    · rw [itemsL, if_pos hk, Node.dp, if_pos hk]; omega
    · rw [itemsL, if_neg hk, Node.dp, if_neg hk]
      simp only [hts, Item.ht]; omega
theorem itemss_ht : ∀ (l : List Node), hts (itemsLs l) ≤ dpsN l
  | [] => by simp [itemsLs, hts]
  | x :: r => by
    rw [itemsLs, hts_append, dpsN]
    have := items_ht x
    have := itemss_ht r
    omega
end
mutual
theorem nodeL_dp (src : ByteArray) : ∀ (x : Tree) (b : BS), x.ok → (nodeL src x b).1.dp ≤ x.dp
  | .mk k t ch, b, hok => by
    unfold nodeL Tree.dp
    simp only
    unfold Tree.ok at hok
    have h := kidsL_dp src ch ⟨newH k b.off, [], b⟩ hok.2.2
    have hk := kidsL_k src ch ⟨newH k b.off, [], b⟩
    have hne := fun e => kidsL_ne src ch ⟨newH k b.off, [], b⟩ (hok.2.1 e)
    simp only [dpsN, Nat.zero_max] at h
    have hk2 : (newH k b.off).k = k := rfl
    rw [hk2] at hk
    generalize kidsL src ch ⟨newH k b.off, [], b⟩ = R at *
    have hmk : (maxH R.h).k = k := hk
    unfold finN
    split
    · next h60 =>
      rw [hmk] at h60
      cases hR : R.ch with
      | nil => exact absurd hR (hne h60)
      | cons y r =>
        rw [hR, dpsN] at h
        show (Node.mk { y.h with s := (maxH R.h).s, e := (maxH R.h).e } y.ch).dp ≤ _
        cases y with | mk hd c =>
        have e1 : (Node.mk { (Node.mk hd c).h with s := (maxH R.h).s, e := (maxH R.h).e } (Node.mk hd c).ch).dp = (Node.mk hd c).dp := by rw [Node.dp, Node.dp]; rfl
        rw [e1]
        generalize (Node.mk hd c).dp = z at *
        omega
    · split
      · next h46 =>
        rw [Node.dp]
        have : symKind (46 : Int) = 0 := by decide
        simp [this, dpsN]
      · rw [Node.dp, hmk]; omega
theorem kidsL_dp (src : ByteArray) : ∀ (l : List Tree) (s : NS), oks l → dpsN (kidsL src l s).ch ≤ max (dpsN s.ch) (dps l)
  | [], s, _ => by simp [kidsL, dps]
  | x :: r, s, hok => by
    unfold oks at hok
    rw [dps]
    by_cases h : 100 ≤ x.k
    · rw [kidsL_tok h]
      have h1 := kidsL_dp src r ⟨tokH s.h x.k x.t s.b.off (s.b.off + x.t.size), s.ch, tokB x.k x.t s.b⟩ hok.2
      simp only at h1
      omega
    · rw [kidsL_node h]
      have h1 := kidsL_dp src r ⟨extendH s.h (nodeL src x s.b).1.h.s (nodeL src x s.b).1.h.e, s.ch ++ [(nodeL src x s.b).1], (nodeL src x s.b).2⟩ hok.2
      have h2 := nodeL_dp src x s.b hok.1
      simp only [dpsN_append, dpsN] at h1
      omega
end
/-- a file's items are at most two levels deep -/
theorem astN_ht (src : ByteArray) (ch : List Tree) (hok : (Tree.mk 1 .empty ch).ok) (h : dps ch ≤ 2) : hts (itemsL (astN src ch)) ≤ 2 := by
  have h1 := nodeL_dp src (.mk 1 .empty ch) ⟨0, []⟩ hok
  have h2 : (Tree.mk 1 ByteArray.empty ch).dp ≤ 2 := by
    rw [Tree.dp]
    have : symKind (1 : Int) = 0 := by decide
    rw [if_pos this]; omega
  have h3 := items_ht (astN src ch)
  have h4 : (astN src ch).dp = (nodeL src (.mk 1 .empty ch) ⟨0, []⟩).1.dp := by
    unfold astN astR
    generalize nodeL src (.mk 1 .empty ch) ⟨0, []⟩ = r
    obtain ⟨⟨hd, c⟩, b⟩ := r
    rfl
  omega
theorem parse_dp (l : List UInt8) (hl : l.length ≤ 2000) (n : Nat) (u : PS) (h : run n fileC ⟨tokensL l, [], false, 600000⟩ = some u) : dps u.ch ≤ 2 := by
  have := run_dp _ _ _ _ h (by decide) (fun x hx => (tokensG_num _ _ hl x hx).2.2)
  have e : dpC fileC ≤ 2 := by decide
  simp only [dps] at this
  omega
def PnOk (n : Nat) : Prop := ∀ (xs : List Item), iszs xs < n → iszs xs ≤ 800000 → ∀ (lo hi : Int) (d : Nat), inest lo hi xs → 0 ≤ lo → hi ≤ 1000000 → d + hts xs ≤ 41 → ∀ (w : World) (F : Nat → Prop) (A : Option Addr) (c : Nat), itemD.At w F A xs → (∀ c, F c → c < w.heap.size) →
  Calls Tryz.prog 7 #[.slice A xs.length c, .int .i64 lo, .int .i64 hi, .int .i64 (d : Int)] w fun e w' => e = .returned (.bool true) ∧ Below w.heap.size w w'
set_option maxRecDepth 100000 in
set_option maxHeartbeats 3200000 in
theorem pn_step (n : Nat) (ih : PnOk n) : PnOk (n + 1) := by
  intro xs hxn hsz lo hi d hnest hlo hhi hd w F A c hat hF
  obtain ⟨L, hL⟩ : ∃ L, xs.length = L := ⟨_, rfl⟩
  have hLz := len_iszs xs
  have HK := Lib.hid hat
  have HL := Lib.hid hL
  have HF := Lib.hid hF
  have HI := Lib.hid ih
  have HN := Lib.hid hxn
  have HD := Lib.hid hd
  have hLb : L ≤ 800000 := by omega
  rw [hL]
  have hdI : (d : Int) ≤ 41 := by omega
  clear hat hL hF ih hxn hLz hd
  go_enter Tryz.func7, Tryz.ntmps7
  go_wp2_with fail
  go_loopw [1, 9] (fun v i wr => ∃ (j : Nat) (st : Int), v = .int .i64 st ∧ i = .int .i64 (j : Int) ∧ j ≤ L ∧ lo ≤ st ∧ Hid (inest st hi (xs.drop j)) ∧ Below w.heap.size w wr) (fun _ i _ => L - (intOf i).toNat)
  case atStart => exact ⟨0, lo, rfl, rfl, Nat.zero_le _, Int.le_refl _, Lib.hid hnest, Below.refl _ _⟩
  case round =>
    clear hnest
    obtain ⟨j, st, rfl, rfl, hj, hst, hin, hb⟩ := hrel
    by_cases hlt : j < L
    · have hjI : (j : Int) < L := by omega
      have hjl : j < xs.length := by rw [HL.out]; exact hlt
      obtain ⟨tb, off, us, rfl, htb, hx, hxc⟩ := HK.out.get j xs[j] (List.getElem?_eq_getElem hjl)
      have hin2 := hin.out
      rw [List.drop_eq_getElem_cons hjl] at hin2
      unfold inest at hin2
      have hszx : xs[j].sz ≤ iszs xs := by
        have e := List.take_append_drop j xs
        rw [List.drop_eq_getElem_cons hjl] at e
        have := congrArg iszs e
        rw [iszs_append, iszs] at this
        omega
      have hhx := hts_mem (List.getElem_mem hjl)
      generalize xs[j] = x at *
      obtain ⟨q1, q2, q3, q4⟩ := hin2.1.le
      obtain ⟨A2, c2, rfl, hkids⟩ := ItemV.kids hx
      obtain ⟨k, s, e, t, ch⟩ := x
      simp only [Item.k, Item.s, Item.e, Item.t, Item.ch] at hx hxc hkids q1 q2 q3 q4 hin2 ⊢
      simp only [Item.sz] at hszx
      simp only [Item.ht] at hhx
      have hbs := hb.size
      have hwb : ∀ b, F b → wr.heap[b]? = w.heap[b]? := fun b hb' => hb.block b (HF.out b hb')
      obtain ⟨m2, hm2⟩ : ∃ m2, ch.length = m2 := ⟨_, rfl⟩
      rw [hm2] at hxc hx
      have hc : ∀ i u, ([.int .i64 k, .int .i64 s, .int .i64 e, .string t, .slice A2 m2 c2] : List Value)[i]? = some u → wr.cell? ⟨tb, off + j * 5 + i, none⟩ = some u := fun i u hu => (World.cell?_of_block (w := w) (w' := wr) (a := ⟨tb, _, none⟩) (hwb tb htb)).trans (hxc i u hu)
      have d0 := hc 0 _ rfl
      have d1 := hc 1 _ rfl
      have d2 := hc 2 _ rfl
      have d3 := hc 3 _ rfl
      have d4 := hc 4 _ rfl
      rw [Nat.add_zero] at d0
      have htl : tb < wr.heap.size := Nat.lt_of_lt_of_le (HF.out tb htb) hbs
      have hdd := HD.out
      have t1 : ¬ s < st := by omega
      have t2 : ¬ e < s := by omega
      have t3 : ¬ hi < e := by omega
      have t4 : ¬ (40 : Int) < (d : Int) := by omega
      have hbl : Below wr.heap.size wr (wr.alloc (.cells #[.int .i64 k, .int .i64 s, .int .i64 e, .string t, .slice A2 m2 c2] 31)) := (Below.refl _ _).alloc (Nat.le_refl _) _
      have hcall := HI.out ch (by have := HN.out; omega) (by omega) s e (d + 1) q4 (by omega) (by omega) (by omega) _ F A2 c2 ((hkids.keep (F' := F) (fun _ h => h) hwb).keep (F' := F) (fun _ h => h) (fun b hb' => hbl.block b (Nat.lt_of_lt_of_le (HF.out b hb') hbs))) (fun q hq => Nat.lt_of_lt_of_le (HF.out q hq) (Nat.le_trans hbs hbl.size))
      rw [hm2] at hcall
      have hcall2 : Calls Tryz.prog 7 #[.slice A2 m2 c2, .int .i64 s, .int .i64 e, .int .i64 ((d : Int) + 1)] _ _ := hcall
      have HC := Lib.hid hcall2
      have HBB := Lib.hid hb
      have HBL := Lib.hid hbl
      have HIN := Lib.hid hin2.2
      clear hc hx hxc hwb hb hkids hm2 hcall hcall2 hbl hin2 hin q4 hhx hdd
      go_wp2_with fail
      refine HC.out.mono ?_
      rintro e3 w3 ⟨rfl, hb3⟩
      have hz2 : (wr.alloc (.cells #[.int .i64 k, .int .i64 s, .int .i64 e, .string t, .slice A2 m2 c2] 31)).heap.size = wr.heap.size + 1 := by simp
      have h3c : w3.heap[wr.heap.size]? = some (.cells #[.int .i64 k, .int .i64 s, .int .i64 e, .string t, .slice A2 m2 c2] 31 (0, 0)) := (hb3.block _ (by omega)).trans (heap_alloc_new wr _)
      have f2 := cell_of h3c 2 _ rfl
      have hl3 := lt_of_heap h3c
      have HB4 := Lib.hid ((HBB.out.trans (HBL.out.mono hbs)).trans (hb3.mono (by omega)))
      clear hb3 h3c HC d0 d1 d2 d3 d4
      go_wp2_with fail
      go_roundw
      case rel => exact ⟨j + 1, e, rfl, by go_num, by omega, by omega, HIN, HB4.out⟩
      case measure => simp [intOf]; omega
    · have hjI : ¬ (j : Int) < L := by omega
      have HB := Lib.hid hb
      clear hb
      go_wp2_with fail
      go_ret
      exact ⟨rfl, HB.out⟩
theorem pn_any : ∀ n, PnOk n
  | 0 => fun x h => by omega
  | n + 1 => pn_step n (pn_any n)
end Go.Proofs.YtepadojclmjllaaGreatDoor
