/-
  What OutlineConcatenation leaves at any two sources: the walk.
-/
import Derived.Test.YtepadojclmjllaaGreatDoorMxbt
import Derived.Test.YtepadojclmjllaaGreatDoorCxa
import Derived.Deep.QuietTactic
import Derived.BigQuiet
/-
  OutlineConcatenation: the walk.
-/
namespace Go.Proofs.YtepadojclmjllaaGreatDoor
open Go.RowKit
set_option linter.unusedVariables false

/-- what Symbols leaves, at any source -/
def SymAny (s : ByteArray) (w : World) (e : Ending) (w' : World) : Prop :=
  ∃ A L c err, e = .returned (.tuple #[.slice A L c, .int .i64 err]) ∧ Below w.heap.size w w' ∧
    (err = 2 ∨ (err = 0 ∧ s.size ≤ 2000 ∧ ∃ n u, run n fileC ⟨tokensL s.data.toList, [], false, 600000⟩ = some u ∧ L = (itemsL (astN s u.ch)).length ∧ itemD.At w' (New w w') A (itemsL (astN s u.ch)) ∧ iszs (itemsL (astN s u.ch)) ≤ 700000 ∧ inest 0 s.size (itemsL (astN s u.ch))))
mutual
theorem flatI_bd : ∀ (x : Item) (lo hi : Int), inest1 lo hi x → ∀ y ∈ flatI x, lo ≤ y.s ∧ y.s ≤ y.e ∧ y.e ≤ hi
  | .mk k s e t ch, lo, hi, h, y, hy => by
    unfold inest1 at h
    unfold flatI at hy
    rcases List.mem_cons.1 hy with rfl | hy
    · exact ⟨h.1, h.2.1, h.2.2.1⟩
    · have := flatL_bd ch s e h.2.2.2 y hy
      omega
theorem flatL_bd : ∀ (l : List Item) (lo hi : Int), inest lo hi l → ∀ y ∈ flatL l, lo ≤ y.s ∧ y.s ≤ y.e ∧ y.e ≤ hi
  | [], lo, hi, h, y, hy => by unfold flatL at hy; cases hy
  | x :: r, lo, hi, h, y, hy => by
    unfold inest at h
    unfold flatL at hy
    obtain ⟨a, b, c, _⟩ := h.1.le
    rcases List.mem_append.1 hy with hy | hy
    · exact flatI_bd x lo hi h.1 y hy
    · have := flatL_bd r x.e hi h.2 y hy
      omega
end
theorem sym_gen (s : ByteArray) (hm : s.size ≤ maxLen) (w : World) (hg : Gl w) : Calls Tryz.prog 6 #[.string s] w (SymAny s w) := by
  by_cases hs : s.size ≤ 2000
  · have hsz : s.data.toList.length = s.size := Array.length_toList
    obtain ⟨n, u, hu⟩ := file_ends (tokensL s.data.toList) (Nat.le_trans (tokensL_length _) (by rw [hsz]; exact hs))
    obtain ⟨hok, hyl, hwt⟩ := parse_safe s.data.toList (by rw [hsz]; exact hs) n u hu
    have hnz := astN_sz s u.ch hwt
    have hiz := itemsL_sz (astN s u.ch)
    refine (symbols_any s w hg hs n u hu).mono ?_
    rintro e w' ⟨A, c, rfl, hat, hb⟩
    exact ⟨A, _, c, 0, rfl, hb, .inr ⟨rfl, hs, n, u, hu, rfl, hat, by omega, (items_nest _ _ _ (astN_nest s u.ch hok (by rw [← hsz]; exact hyl))).1⟩⟩
  · refine (symbols_big s w (by omega) hm).mono ?_
    rintro e w' ⟨rfl, hb⟩
    exact ⟨none, 0, 0, 2, rfl, hb, .inl rfl⟩
set_option maxRecDepth 100000 in
set_option maxHeartbeats 1600000 in
theorem clean_any (src : ByteArray) (w : World) (hg : Gl w) (hs : src.size ≤ 2000) (n : Nat) (u : PS) (hu : run n fileC ⟨tokensL src.data.toList, [], false, 600000⟩ = some u) :
    Calls Tryz.prog 8 #[.string src] w fun e w' => ∃ b, e = .returned (.bool b) ∧ (b = true → astD src u.ch = []) ∧ Below w.heap.size w w' := by
  have HP := Lib.hid (astParse_any src w hg hs n u hu)
  clear hu hg hs
  generalize u.ch = ch at *
  go_enter Tryz.func8, Tryz.ntmps8
  go_wp2_with fail
  refine HP.out.mono ?_
  rintro e w1 ⟨us, A, c, rfl, hv, hf, hb1⟩
  generalize astN src ch = x at *
  obtain ⟨A2, c2, rfl, _⟩ := hv.vals
  have HB1 := Lib.hid hb1
  have hs1 := hb1.size
  obtain ⟨hd, hhd⟩ : ∃ hd, x.h = hd := ⟨_, rfl⟩
  obtain ⟨m, hm⟩ : ∃ m, x.ch.length = m := ⟨_, rfl⟩
  obtain ⟨k, hk⟩ : ∃ k, (astD src ch).length = k := ⟨_, rfl⟩
  have HK := Lib.hid hk
  simp only [Hd.vals]
  rw [hhd, hm, hk]
  clear hv hf hb1 hhd hm hk HP
  by_cases h0 : k = 0
  · subst h0
    go_wp2_with fail
    go_ret
    exact ⟨_, rfl, fun _ => List.length_eq_zero_iff.1 HK.out, HB1.out.alloc hs1 _⟩
  · have hkI : decide ((k : Int) = 0) = false := by simp; exact h0
    go_wp2_with fail
    go_ret
    exact ⟨_, rfl, fun h => absurd h (by simp; exact h0), HB1.out.alloc hs1 _⟩
set_option maxRecDepth 100000 in
set_option maxHeartbeats 3200000 in
theorem ocn_any (f s : ByteArray) (hf : f.size ≤ maxLen) (hs : s.size ≤ maxLen) (hj : f.size + 1 + s.size ≤ maxLen) (w : World) (hg : Gl w) :
    Calls Tryz.prog 4 #[.string f, .string s] w fun e w' => e = .returned (.bool true) ∧ Below w.heap.size w w' := by
  have HX := Lib.hid (fun w' (hb : Below w.heap.size w w') => outlineEx_any w' (hg.below hb))
  have H1 := Lib.hid (fun w' (hb : Below w.heap.size w w') => sym_gen f hf w' (hg.below hb))
  have H2 := Lib.hid (fun w' (hb : Below w.heap.size w w') => sym_gen s hs w' (hg.below hb))
  have H3 := Lib.hid (fun w' (hb : Below w.heap.size w w') => sym_gen (f ++ ⟨#[10]⟩ ++ s) (by rw [ByteArray.size_append, ByteArray.size_append]; exact hj) w' (hg.below hb))
  have HG := Lib.hid hg
  unfold maxLen at hf hs hj
  clear hg
  go_enter Tryz.func4, Tryz.ntmps4
  go_wp2_with fail
  refine (HX.out w (Below.refl _ _)).mono ?_
  rintro e w1 ⟨rfl, hb1⟩
  have HB1 := Lib.hid hb1
  have K1 := Lib.hid (H1.out w1 hb1)
  clear hb1 H1
  go_wp2_with fail
  refine K1.out.mono ?_
  rintro e w2 ⟨A1, L1, c1, e1, rfl, hb2, h1⟩
  have hb2' := HB1.out.trans (hb2.mono HB1.out.size)
  have HB2 := Lib.hid hb2'
  have HBB2 := Lib.hid hb2
  have K2 := Lib.hid (H2.out w2 hb2')
  have D1 := Lib.hid h1
  clear hb2 hb2' H2 K1 h1
  go_wp2_with fail
  refine K2.out.mono ?_
  rintro e w3 ⟨A2, L2, c2, e2, rfl, hb3, h2⟩
  have hb3' := HB2.out.trans (hb3.mono HB2.out.size)
  have HB3 := Lib.hid hb3'
  have HBB3 := Lib.hid hb3
  have K3 := Lib.hid (H3.out w3 hb3')
  have D2 := Lib.hid h2
  clear hb3 hb3' H3 K2 h2
  go_wp2_with fail
  refine K3.out.mono ?_
  rintro e w4 ⟨A3, L3, c3, e3, rfl, hb4, h3⟩
  have HB4 := Lib.hid (HB3.out.trans (hb4.mono HB3.out.size))
  have HBB4 := Lib.hid hb4
  clear hb4 K3
  rcases D1.out with rfl | ⟨rfl, s1, n1, u1, r1, l1, at1, z1, _⟩
  · clear h3 D1 D2
    go_wp2_with fail
    refine (HX.out w4 HB4.out).mono ?_
    rintro e wf ⟨rfl, hbf⟩
    have HBF := Lib.hid (HB4.out.trans (hbf.mono HB4.out.size))
    clear hbf
    go_wp2_with fail
    go_ret
    exact ⟨rfl, HBF.out⟩
  rcases D2.out with rfl | ⟨rfl, s2, n2, u2, r2, l2, at2, z2, _⟩
  · clear h3 D1 D2 at1 r1 l1 z1 s1
    go_wp2_with fail
    refine (HX.out w4 HB4.out).mono ?_
    rintro e wf ⟨rfl, hbf⟩
    have HBF := Lib.hid (HB4.out.trans (hbf.mono HB4.out.size))
    clear hbf
    go_wp2_with fail
    go_ret
    exact ⟨rfl, HBF.out⟩
  rcases h3 with rfl | ⟨rfl, s3, n3, u3, r3, l3, at3, z3, i3⟩
  · clear D1 D2 at1 r1 l1 z1 s1 at2 r2 l2 z2 s2
    go_wp2_with fail
    refine (HX.out w4 HB4.out).mono ?_
    rintro e wf ⟨rfl, hbf⟩
    have HBF := Lib.hid (HB4.out.trans (hbf.mono HB4.out.size))
    clear hbf
    go_wp2_with fail
    go_ret
    exact ⟨rfl, HBF.out⟩
  have hi3 : ∀ y ∈ flatL (itemsL (astN (f ++ ⟨#[10]⟩ ++ s) u3.ch)), 0 ≤ y.s ∧ y.s ≤ 2000 ∧ 0 ≤ y.e ∧ y.e ≤ 2000 := fun y hy => by
    have := flatL_bd _ _ _ i3 y hy
    omega
  have HI := Lib.hid hi3
  have HL := Lib.hid (concat_law f s (f ++ ⟨#[10]⟩ ++ s) (by simp) s2 n1 n2 n3 u1 u2 u3 r1 r2 r3)
  have C1 := Lib.hid (clean_any f w4 (HG.out.below HB4.out) s1 n1 u1 r1)
  have C2 := Lib.hid (fun w' (hb : Below w.heap.size w w') => clean_any s w' (HG.out.below hb) s2 n2 u2 r2)
  have AT1 := Lib.hid at1
  have AT2 := Lib.hid at2
  have AT3 := Lib.hid at3
  have E1 := Lib.hid l1
  have E2 := Lib.hid l2
  have E3 := Lib.hid l3
  clear D1 D2 at1 at2 at3 r1 r2 r3 l1 l2 l3 s3 i3 hi3
  generalize u1.ch = g1 at *
  generalize u2.ch = g2 at *
  generalize u3.ch = g3 at *
  generalize itemsL (astN (f ++ ⟨#[10]⟩ ++ s) g3) = X3 at *
  generalize itemsL (astN f g1) = X1 at *
  generalize itemsL (astN s g2) = X2 at *
  go_wp2_with fail
  refine C1.out.mono ?_
  rintro e w5 ⟨b1, rfl, d1, hb5⟩
  have HB5 := Lib.hid (HB4.out.trans (hb5.mono HB4.out.size))
  have HBB5 := Lib.hid hb5
  clear hb5 C1
  cases b1 with
  | false =>
    clear d1
    go_wp2_with fail
    refine (HX.out w5 HB5.out).mono ?_
    rintro e wf ⟨rfl, hbf⟩
    have HBF := Lib.hid (HB5.out.trans (hbf.mono HB5.out.size))
    clear hbf
    go_wp2_with fail
    go_ret
    exact ⟨rfl, HBF.out⟩
  | true =>
  have DD1 := Lib.hid (d1 rfl)
  clear d1
  have K2 := Lib.hid (C2.out w5 HB5.out)
  clear C2
  go_wp2_with fail
  refine K2.out.mono ?_
  rintro e w6 ⟨b2, rfl, d2, hb6⟩
  have HB6 := Lib.hid (HB5.out.trans (hb6.mono HB5.out.size))
  have HBB6 := Lib.hid hb6
  clear hb6 K2
  cases b2 with
  | false =>
    clear d2
    go_wp2_with fail
    refine (HX.out w6 HB6.out).mono ?_
    rintro e wf ⟨rfl, hbf⟩
    have HBF := Lib.hid (HB6.out.trans (hbf.mono HB6.out.size))
    clear hbf
    go_wp2_with fail
    go_ret
    exact ⟨rfl, HBF.out⟩
  | true =>
  obtain ⟨X, Y, hz, hx, hy⟩ := HL.out DD1.out (d2 rfl)
  have HZ := Lib.hid hz
  have HXX := Lib.hid hx
  have HYY := Lib.hid hy
  clear hz hx hy HL DD1 d2
  have B24 := HBB3.out.trans (HBB4.out.mono HBB3.out.size)
  have B25 := B24.trans (HBB5.out.mono B24.size)
  have B26 := B25.trans (HBB6.out.mono B25.size)
  have B35 := HBB4.out.trans (HBB5.out.mono HBB4.out.size)
  have B36 := B35.trans (HBB6.out.mono B35.size)
  have B46 := HBB5.out.trans (HBB6.out.mono HBB5.out.size)
  have F1 := flat_any (iszs X1 + 1) X1 (Nat.lt_succ_self _) (by omega) w6 (New w1 w2) A1 c1 (AT1.out.keep (fun _ h => h) (fun b hb => B26.block b hb.2)) (fun q hq => Nat.lt_of_lt_of_le hq.2 B26.size)
  rw [← E1.out] at F1
  have F1 := Lib.hid F1
  have F2 := fun (w' : World) (hb : Below w6.heap.size w6 w') => flat_any (iszs X2 + 1) X2 (Nat.lt_succ_self _) (by omega) w' (New w2 w3) A2 c2 (AT2.out.keep (fun _ h => h) (fun b hb' => ((B36.trans (hb.mono B36.size)).block b hb'.2))) (fun q hq => Nat.lt_of_lt_of_le hq.2 (B36.trans (hb.mono B36.size)).size)
  rw [← E2.out] at F2
  have F2 := Lib.hid F2
  have F3 := fun (w' : World) (hb : Below w6.heap.size w6 w') => flat_any (iszs X3 + 1) X3 (Nat.lt_succ_self _) (by omega) w' (New w3 w4) A3 c3 (AT3.out.keep (fun _ h => h) (fun b hb' => ((B46.trans (hb.mono B46.size)).block b hb'.2))) (fun q hq => Nat.lt_of_lt_of_le hq.2 (B46.trans (hb.mono B46.size)).size)
  rw [← E3.out] at F3
  have F3 := Lib.hid F3
  have q1 := flatL_len X1
  have q2 := flatL_len X2
  have q3 := flatL_len X3
  generalize flatL X1 = XS at *
  generalize flatL X2 = YS at *
  generalize flatL X3 = ZS at *
  clear B24 B25 B26 B35 B36 B46 AT1 AT2 AT3 E1 E2 E3 HBB2 HBB3 HBB4 HBB5 HBB6
  go_wp2_with fail
  refine F1.out.mono ?_
  rintro e w7 ⟨A4, c4, rfl, at4, hb7⟩
  obtain ⟨lx, hlx⟩ : ∃ lx, XS.length = lx := ⟨_, rfl⟩
  have HB7 := Lib.hid hb7
  have AT4 := Lib.hid at4
  have K2 := Lib.hid (F2.out w7 hb7)
  have HLX := Lib.hid hlx
  rw [hlx]
  clear at4 hb7 F1 F2 hlx
  go_wp2_with fail
  refine K2.out.mono ?_
  rintro e w8 ⟨A5, c5, rfl, at5, hb8⟩
  obtain ⟨ly, hly⟩ : ∃ ly, YS.length = ly := ⟨_, rfl⟩
  have hb68 := HB7.out.trans (hb8.mono HB7.out.size)
  have HB8 := Lib.hid hb8
  have HB68 := Lib.hid hb68
  have AT5 := Lib.hid at5
  have K3 := Lib.hid (F3.out w8 hb68)
  have HLY := Lib.hid hly
  rw [hly]
  clear at5 hb8 hb68 K2 F3 hly
  go_wp2_with fail
  refine K3.out.mono ?_
  rintro e w9 ⟨A6, c6, rfl, at6, hb9⟩
  obtain ⟨e1, g1⟩ := shIs_get HXX.out
  obtain ⟨e2, g2⟩ := shIs_get HYY.out
  have hlz : ZS.length = lx + ly := by rw [HZ.out, List.length_append, ← e1, ← e2, HLX.out, HLY.out]
  have q4 : lx + ly ≤ 800000 := by rw [← hlz, q3]; omega
  have hb89 := HB8.out.trans (hb9.mono HB8.out.size)
  have h4 : itemD.At w9 (fun b => b < w9.heap.size) A4 XS := AT4.out.keep (fun b hb => Nat.lt_of_lt_of_le hb.2 hb89.size) (fun b hb => hb89.block b hb.2)
  have h5 : itemD.At w9 (fun b => b < w9.heap.size) A5 YS := AT5.out.keep (fun b hb => Nat.lt_of_lt_of_le hb.2 hb9.size) (fun b hb => hb9.block b hb.2)
  have h6 : itemD.At w9 (fun b => b < w9.heap.size) A6 ZS := at6.keep (fun b hb => hb.2) (fun b hb => rfl)
  have hgX : ∀ (i : Nat) (x : Item), XS[i]? = some x → ∃ y : Item, ZS[i]? = some y ∧ y.k = x.k ∧ y.t = x.t ∧ y.s = x.s + 0 ∧ y.e = x.e + 0 := by
    intro i x hx
    obtain ⟨y, y1, y2⟩ := g1 i x hx
    refine ⟨y, ?_, y2⟩
    rw [HZ.out, List.getElem?_append_left (List.getElem?_eq_some_iff.1 y1).1]; exact y1
  have hgY : ∀ (i : Nat) (x : Item), YS[i]? = some x → ∃ y : Item, ZS[lx + i]? = some y ∧ y.k = x.k ∧ y.t = x.t ∧ y.s = x.s + ((f.size : Int) + 1) ∧ y.e = x.e + ((f.size : Int) + 1) := by
    intro i x hx
    obtain ⟨y, y1, y2⟩ := g2 i x hx
    refine ⟨y, ?_, y2⟩
    rw [HZ.out, List.getElem?_append_right (by rw [← e1, HLX.out]; omega), ← e1, HLX.out, show lx + i - lx = i by omega]; exact y1
  have hb99 := HB6.out.trans ((HB68.out.trans (hb9.mono HB68.out.size)).mono HB6.out.size)
  have HB9 := Lib.hid hb99
  have H4 := Lib.hid h4
  have H5 := Lib.hid h5
  have H6 := Lib.hid h6
  have GX := Lib.hid hgX
  have GY := Lib.hid hgY
  clear hb99 h4 h5 h6 hgX hgY g1 g2 e1 e2 hb89 hb9 at6 K3 HB7 HB8 HB68 AT4 AT5 HXX HYY HZ
  rw [hlz]
  clear hlz q1 q2 q3 z1 z2 z3
  go_wp2_with fail
  go_loopw [14] (fun i wr => ∃ j : Nat, i = .int .i64 (j : Int) ∧ j ≤ lx + ly ∧ Below w9.heap.size w9 wr) (fun i _ => lx + ly - (intOf i).toNat)
  case atStart => exact ⟨0, rfl, Nat.zero_le _, Below.refl _ _⟩
  case round =>
    obtain ⟨j, rfl, hj, hb⟩ := hrel
    by_cases hlt : j < lx + ly
    · have hjI : (j : Int) < (lx : Int) + ly := by omega
      have hbs := hb.size
      by_cases hjx : j < lx
      · have hjxI : (j : Int) < lx := by omega
        have hjl : j < XS.length := by rw [HLX.out]; exact hjx
        obtain ⟨y, y1, y2, y3, y4, y5⟩ := GX.out j XS[j] (List.getElem?_eq_getElem hjl)
        obtain ⟨tb, off, us, rfl, htb, hx, hxc⟩ := H4.out.get j XS[j] (List.getElem?_eq_getElem hjl)
        obtain ⟨tz, offz, vs, rfl, htz, hzv, hzc⟩ := H6.out.get j y y1
        generalize XS[j] = x at *
        obtain ⟨A7, c7, rfl, _⟩ := ItemV.kids hx
        obtain ⟨A8, c8, rfl, _⟩ := ItemV.kids hzv
        obtain ⟨k, s1, e1, t1, ch⟩ := x
        obtain ⟨k', s', e', t', ch'⟩ := y
        simp only [Item.k, Item.s, Item.e, Item.t, Item.ch] at y2 y3 y4 y5 hxc hzc
        subst y2 y3 y4 y5
        rw [Int.add_zero, Int.add_zero] at hzc
        generalize ch.length = m7 at hxc
        generalize ch'.length = m8 at hzc
        have hc : ∀ i u, ([.int .i64 k', .int .i64 s1, .int .i64 e1, .string t', .slice A7 m7 c7] : List Value)[i]? = some u → wr.cell? ⟨tb, off + j * 5 + i, none⟩ = some u := fun i u hu => (World.cell?_of_block (w := w9) (w' := wr) (a := ⟨tb, _, none⟩) (hb.block tb htb)).trans (hxc i u hu)
        have hd : ∀ i u, ([.int .i64 k', .int .i64 s1, .int .i64 e1, .string t', .slice A8 m8 c8] : List Value)[i]? = some u → wr.cell? ⟨tz, offz + j * 5 + i, none⟩ = some u := fun i u hu => (World.cell?_of_block (w := w9) (w' := wr) (a := ⟨tz, _, none⟩) (hb.block tz htz)).trans (hzc i u hu)
        have f0 := hc 0 _ rfl
        have f1 := hc 1 _ rfl
        have f2 := hc 2 _ rfl
        have f3 := hc 3 _ rfl
        have f4 := hc 4 _ rfl
        rw [Nat.add_zero] at f0
        have d0 := hd 0 _ rfl
        have d1 := hd 1 _ rfl
        have d2 := hd 2 _ rfl
        have d3 := hd 3 _ rfl
        have d4 := hd 4 _ rfl
        rw [Nat.add_zero] at d0
        have hbd := HI.out _ (List.mem_of_getElem? y1)
        simp only [Item.s, Item.e] at hbd
        obtain ⟨v1, v2, v3, v4⟩ := hbd
        have htl : tb < wr.heap.size := Nat.lt_of_lt_of_le htb hbs
        have htz2 : tz < wr.heap.size := Nat.lt_of_lt_of_le htz hbs
        have HBB := Lib.hid hb
        clear hc hd hx hzv hxc hzc hb y1
        go_wp2_with fail
        go_quiet (fail)
        go_wp2_with fail
        go_roundw
        case rel => exact ⟨j + 1, by go_num, by omega, below_drewN (HBB.out.alloc hbs _) _⟩
        case measure => simp [intOf]; omega
      · have hjxI : ¬ (j : Int) < lx := by omega
        obtain ⟨i, hi⟩ : ∃ i, i = j - lx := ⟨_, rfl⟩
        have hij : (j : Int) - (lx : Int) = (i : Int) := by omega
        have hiI : (i : Int) < ly := by omega
        have hjl : i < YS.length := by rw [HLY.out]; omega
        obtain ⟨y, y1, y2, y3, y4, y5⟩ := GY.out i YS[i] (List.getElem?_eq_getElem hjl)
        rw [show lx + i = j by omega] at y1
        clear hi
        obtain ⟨tb, off, us, rfl, htb, hx, hxc⟩ := H5.out.get i YS[i] (List.getElem?_eq_getElem hjl)
        obtain ⟨tz, offz, vs, rfl, htz, hzv, hzc⟩ := H6.out.get j y y1
        generalize YS[i] = x at *
        obtain ⟨A7, c7, rfl, _⟩ := ItemV.kids hx
        obtain ⟨A8, c8, rfl, _⟩ := ItemV.kids hzv
        obtain ⟨k, s1, e1, t1, ch⟩ := x
        obtain ⟨k', s', e', t', ch'⟩ := y
        simp only [Item.k, Item.s, Item.e, Item.t, Item.ch] at y2 y3 y4 y5 hxc hzc
        subst y2 y3 y4 y5
        generalize ch.length = m7 at hxc
        generalize ch'.length = m8 at hzc
        have hc : ∀ q u, ([.int .i64 k', .int .i64 s1, .int .i64 e1, .string t', .slice A7 m7 c7] : List Value)[q]? = some u → wr.cell? ⟨tb, off + i * 5 + q, none⟩ = some u := fun q u hu => (World.cell?_of_block (w := w9) (w' := wr) (a := ⟨tb, _, none⟩) (hb.block tb htb)).trans (hxc q u hu)
        have hd : ∀ i u, ([.int .i64 k', .int .i64 (s1 + ((f.size : Int) + 1)), .int .i64 (e1 + ((f.size : Int) + 1)), .string t', .slice A8 m8 c8] : List Value)[i]? = some u → wr.cell? ⟨tz, offz + j * 5 + i, none⟩ = some u := fun i u hu => (World.cell?_of_block (w := w9) (w' := wr) (a := ⟨tz, _, none⟩) (hb.block tz htz)).trans (hzc i u hu)
        have f0 := hc 0 _ rfl
        have f1 := hc 1 _ rfl
        have f2 := hc 2 _ rfl
        have f3 := hc 3 _ rfl
        have f4 := hc 4 _ rfl
        rw [Nat.add_zero] at f0
        have d0 := hd 0 _ rfl
        have d1 := hd 1 _ rfl
        have d2 := hd 2 _ rfl
        have d3 := hd 3 _ rfl
        have d4 := hd 4 _ rfl
        rw [Nat.add_zero] at d0
        have hbd := HI.out _ (List.mem_of_getElem? y1)
        simp only [Item.s, Item.e] at hbd
        obtain ⟨v1, v2, v3, v4⟩ := hbd
        have htl : tb < wr.heap.size := Nat.lt_of_lt_of_le htb hbs
        have htz2 : tz < wr.heap.size := Nat.lt_of_lt_of_le htz hbs
        have HBB := Lib.hid hb
        clear hc hd hx hzv hxc hzc hb y1
        go_wp2_with fail
        go_region
        go_wp2_with fail
        go_quiet (fail)
        go_wp2_with fail
        go_roundw
        case rel => exact ⟨j + 1, by go_num, by omega, below_drewN (HBB.out.alloc hbs _) _⟩
        case measure => simp [intOf]; omega
    · have hjI : ¬ (j : Int) < (lx : Int) + ly := by omega
      have HBW := Lib.hid (HB9.out.trans (hb.mono HB9.out.size))
      clear hb
      go_wp2_with fail
      refine (HX.out wr HBW.out).mono ?_
      rintro e wf ⟨rfl, hbf⟩
      have HBF := Lib.hid (HBW.out.trans (hbf.mono HBW.out.size))
      clear hbf
      go_wp2_with fail
      go_ret
      exact ⟨rfl, HBF.out⟩
end Go.Proofs.YtepadojclmjllaaGreatDoor
