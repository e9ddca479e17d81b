import Derived.Test.YtpibenilagloaaaGreatDoorMxbs
import Derived.Test.YtpibenilagloaaaGreatDoorMxbt
import Derived.Test.YtpibenilagloaaaGreatDoorMxab
import Derived.Test.YtpibenilagloaaaGreatDoorMxbj
/-
  semtokens: lexicalKind, Classify at one module none of whose names is resolved.
-/
namespace Go.Proofs.YtpibenilagloaaaGreatDoor
open Go.RowKit Go.Maps
set_option linter.unusedVariables false

def lexK (k : Int) : Int := if k = 104 then 21 else if k = 105 then 22 else if k = 106 then 23 else if k = 102 then 24 else if k = 107 then 25 else 0
set_option maxHeartbeats 1600000 in
theorem lexk_any (k : Int) (w : World) :
    Calls Tryz.prog 61 #[.int .i64 k] w fun e w' => e = .returned (.int .i64 (lexK k)) ∧ w' = w := by
  have HL := Lib.hid (show lexK k = if k = 104 then 21 else if k = 105 then 22 else if k = 106 then 23 else if k = 102 then 24 else if k = 107 then 25 else 0 from rfl)
  generalize lexK k = q at *
  by_cases g1 : k = 104
  · obtain rfl : q = 21 := by rw [HL.out, if_pos g1]
    subst g1
    go_enter Tryz.func61, Tryz.ntmps61
    go_wp2_with fail
    go_ret
    exact ⟨rfl, rfl⟩
  · by_cases g2 : k = 105
    · obtain rfl : q = 22 := by rw [HL.out, if_neg g1, if_pos g2]
      subst g2
      go_enter Tryz.func61, Tryz.ntmps61
      go_wp2_with fail
      go_ret
      exact ⟨rfl, rfl⟩
    · by_cases g3 : k = 106
      · obtain rfl : q = 23 := by rw [HL.out, if_neg g1, if_neg g2, if_pos g3]
        subst g3
        go_enter Tryz.func61, Tryz.ntmps61
        go_wp2_with fail
        go_ret
        exact ⟨rfl, rfl⟩
      · by_cases g4 : k = 102
        · obtain rfl : q = 24 := by rw [HL.out, if_neg g1, if_neg g2, if_neg g3, if_pos g4]
          subst g4
          go_enter Tryz.func61, Tryz.ntmps61
          go_wp2_with fail
          go_ret
          exact ⟨rfl, rfl⟩
        · by_cases g5 : k = 107
          · obtain rfl : q = 25 := by rw [HL.out, if_neg g1, if_neg g2, if_neg g3, if_neg g4, if_pos g5]
            subst g5
            go_enter Tryz.func61, Tryz.ntmps61
            go_wp2_with fail
            go_ret
            exact ⟨rfl, rfl⟩
          · obtain rfl : q = 0 := by rw [HL.out, if_neg g1, if_neg g2, if_neg g3, if_neg g4, if_neg g5]
            have b1 : (k == 104) = false := by simpa using g1
            have b2 : (k == 105) = false := by simpa using g2
            have b3 : (k == 106) = false := by simpa using g3
            have b4 : (k == 102) = false := by simpa using g4
            have b5 : (k == 107) = false := by simpa using g5
            go_enter Tryz.func61, Tryz.ntmps61
            go_wp2_with fail
            go_ret
            exact ⟨rfl, rfl⟩
/-- what the map holds at an offset -/
def kdAt (D : DataW Unit) (o : Int) : Int := match D.atKey (.int .i64 o) (.lit (.int .i64 0)) with
  | .lit (.int _ c) => c
  | _ => 0
def kindOf (D : DataW Unit) (o : Int) (t : Tok) : Int := if t.k = 103 then kdAt D o else lexK t.k
def clsOne (D : DataW Unit) (o : Int) (t : Tok) : List TokS := if kindOf D o t ≠ 0 ∧ t.t ≠ .empty then [⟨o, t.t.size, kindOf D o t⟩] else []
/-- the semantic tokens of the tokens from offset o on -/
def clsL (D : DataW Unit) : Nat → List Tok → List TokS
  | _, [] => []
  | o, t :: r => clsOne D o t ++ clsL D (o + t.t.size) r
def lenT : List Tok → Nat
  | [] => 0
  | t :: r => t.t.size + lenT r
theorem lenT_append : ∀ (a b : List Tok), lenT (a ++ b) = lenT a + lenT b
  | [], b => by simp [lenT]
  | x :: r, b => by rw [List.cons_append, lenT, lenT, lenT_append r b]; omega
theorem clsL_append (D : DataW Unit) : ∀ (a b : List Tok) (o : Nat), clsL D o (a ++ b) = clsL D o a ++ clsL D (o + lenT a) b
  | [], b, o => by simp [clsL, lenT]
  | x :: r, b, o => by
    rw [List.cons_append, clsL, clsL, clsL_append D r b, lenT, List.append_assoc, Nat.add_assoc]
theorem clsL_len (D : DataW Unit) : ∀ (a : List Tok) (o : Nat), (clsL D o a).length ≤ a.length
  | [], o => by simp [clsL]
  | x :: r, o => by
    have := clsL_len D r (o + x.t.size)
    rw [clsL, List.length_append, List.length_cons]
    unfold clsOne
    split <;> simp <;> omega
/-- what Classify leaves -/
def ClsPost (x : Mdl) (D : DataW Unit) (w : World) (e : Ending) (w' : World) : Prop :=
  ∃ A c, e = .returned (.tuple #[.slice A (clsL D 0 (tokensL x.src.data.toList)).length c, .int .i64 0]) ∧ tkD.At w' (Lt w') A (clsL D 0 (tokensL x.src.data.toList)) ∧ Below w.heap.size w w'
theorem ownsMap_below {w w' : World} {P : Program} {k : TypeId} {R : Value → Option (DataW Unit × List MemPlace)} {b n : Nat} {D : DataW Unit} (h : w.ownsMap P k R b n D) (hb : Below w.heap.size w w') : w'.ownsMap P k R b n D := by
  have hl := h.lt
  obtain ⟨es, cl, h1, h2⟩ := h
  exact ⟨es, cl, (hb.block b hl).trans h1, h2⟩
set_option maxRecDepth 100000 in
set_option maxHeartbeats 12800000 in
theorem classify_one (x : Mdl) (u : PS) (t : Node) (M : ModOk x u t) (mb mo mc : Nat) (w : World) (hg : Gl w) (hb : mb < w.heap.size) (hc : ∀ i u, (mdC x)[i]? = some u → w.cell? ⟨mb, mo + i, none⟩ = some u)
    (hss : ∀ y ∈ symsN x t, y.st ≤ 1000000 ∧ 0 ≤ y.kind ∧ y.kind ≤ 1000) (hrf : ∀ r ∈ sortI cmpRf (resN x t).rf, r.mod = 0 ∧ r.sym < 0 ∧ 0 ≤ r.st ∧ r.st ≤ 1000000) (hln : lenT (tokensL x.src.data.toList) ≤ 2000) (htl : (tokensL x.src.data.toList).length ≤ 2000) (hne : ∀ y ∈ tokensL x.src.data.toList, y.t ≠ .empty) :
    Calls Tryz.prog 30 #[.slice (some ⟨mb, mo, none⟩) 1 mc, .int .i64 0] w (ClsPost x (idkD (sortI cmpRf (resN x t).rf) (symsN x t)) w) := by
  have HRS := Lib.hid (resolve_one x u t M mb mo mc w hg hb hc)
  have HTK := Lib.hid (fun w' (hb' : Below w.heap.size w w') => tokenize_any x.src w' (AscAt.below hg.1 hb') M.sz)
  have hrl : (sortI cmpRf (resN x t).rf).length ≤ 12 := by rw [sortI_len]; exact M.r2
  have hrn : (sortI cmpRf (resN x t).rf).length ≠ 0 := by rw [sortI_len]; intro h; exact M.r1 (List.eq_nil_of_length_eq_zero h)
  have hsl := M.sl
  have hsn : (symsN x t).length ≠ 0 := fun h => M.d1 (by rw [List.eq_nil_of_length_eq_zero h]; rfl)
  have c1 := hc 1 _ rfl
  unfold ResPost at HRS
  generalize sortI cmpRf (resN x t).rf = rf at *
  generalize symsN x t = ss at *
  obtain ⟨src, hsrc⟩ : ∃ s, x.src = s := ⟨_, rfl⟩
  rw [hsrc] at HTK hln htl hne
  have c1' : w.cell? ⟨mb, mo + 1, none⟩ = some (.string src) := by rw [← hsrc]; exact c1
  obtain ⟨ts, hts⟩ : ∃ ts, tokensL src.data.toList = ts := ⟨_, rfl⟩
  rw [hts] at HTK hln htl hne
  have HTS := Lib.hid (show tokensL x.src.data.toList = ts by rw [hsrc]; exact hts)
  clear hts
  have HSS := Lib.hid hss
  have HRF := Lib.hid hrf
  have HNE := Lib.hid hne
  have HLN := Lib.hid hln
  clear hg M hc hss hrf c1 hsrc hne hln
  go_enter Tryz.func30, Tryz.ntmps30
  go_wp2_with fail
  refine HRS.out.mono ?_
  rintro e w1 ⟨SA, sc, RA, rc, DA, dc, rfl, hsy, hrfat, hb1⟩
  obtain ⟨T, off, rfl, hTl, _⟩ := flat_get hsy 0 ss[0] (List.getElem?_eq_getElem (by omega))
  obtain ⟨RB, ro, rfl, hRl, _⟩ := flat_get hrfat 0 rf[0] (List.getElem?_eq_getElem (by omega))
  obtain ⟨nd, hnd⟩ : ∃ nd, (resN x t).ds.length = nd := ⟨_, rfl⟩
  rw [hnd]
  clear hnd
  obtain ⟨W2, hW2⟩ : ∃ W2, w1.alloc (.cells #[.slice (some ⟨T, off, none⟩) ss.length sc, .slice (some ⟨RB, ro, none⟩) rf.length rc, .slice DA nd dc] 85) = W2 := ⟨_, rfl⟩
  have hx2 : W2.heap[w1.heap.size]? = some (.cells #[.slice (some ⟨T, off, none⟩) ss.length sc, .slice (some ⟨RB, ro, none⟩) rf.length rc, .slice DA nd dc] 85 (0, 0)) := by rw [← hW2]; exact heap_alloc_new w1 _
  have hb2 : Below w1.heap.size w1 W2 := by rw [← hW2]; exact (Below.refl _ _).alloc (Nat.le_refl _) _
  have hbw2 := hb1.trans (hb2.mono hb1.size)
  have m1 := (hbw2.cell (p := ⟨mb, _, none⟩) hb).trans c1'
  have hmb2 : mb < W2.heap.size := Nat.lt_of_lt_of_le hb hbw2.size
  have HT2 := Lib.hid (HTK.out W2 hbw2)
  have HX2 := Lib.hid hx2
  have HBW2 := Lib.hid hbw2
  have hs2 : syD.At W2 (fun b => b < W2.heap.size) (some ⟨T, off, none⟩) ss := hsy.keep (fun b hb => Nat.lt_of_lt_of_le hb hb2.size) (fun b hb => hb2.block b hb)
  have hr2 : rfD.At W2 (fun b => b < W2.heap.size) (some ⟨RB, ro, none⟩) rf := hrfat.keep (fun b hb => Nat.lt_of_lt_of_le hb hb2.size) (fun b hb => hb2.block b hb)
  have hT2 : T < W2.heap.size := Nat.lt_of_lt_of_le hTl hb2.size
  have HS2 := Lib.hid hs2
  have HR2 := Lib.hid hr2
  have hl2 := lt_of_heap hx2
  unfold TokPost at HT2
  obtain ⟨n, hn⟩ : ∃ n, ts.length = n := ⟨_, rfl⟩
  rw [hn] at HT2 htl
  have HN := Lib.hid hn
  clear hs2 hr2 hsy hrfat hb1 hb2 hbw2 hx2 HTK HRS hn c1'
  go_wp2_with fail
  refine HT2.out.mono ?_
  rintro e w3 ⟨TA, tcc, rfl, htk, hb3⟩
  have hx3 := (hb3.block _ hl2).trans HX2.out
  have y0 := cell_of hx3 0 _ rfl
  have y1 := cell_of hx3 1 _ rfl
  have y2 := cell_of hx3 2 _ rfl
  have hl3 := lt_of_heap hx3
  have HID := Lib.hid (identKinds_any T off RB ro sc rc dc nd DA ss rf w3 (HS2.out.keep (fun b hb => Nat.lt_of_lt_of_le hb hb3.size) (fun b hb => hb3.block b hb)) (HR2.out.keep (fun b hb => Nat.lt_of_lt_of_le hb hb3.size) (fun b hb => hb3.block b hb)) (Nat.lt_of_lt_of_le hT2 hb3.size) hsl (by omega) HSS.out HRF.out)
  have HB3 := Lib.hid (HBW2.out.trans (hb3.mono HBW2.out.size))
  have HTA := Lib.hid htk
  clear hx3 htk hb3 hW2 m1 HT2
  go_wp2_with fail
  refine HID.out.mono ?_
  rintro e w4 ⟨rfl, hmap4, hb4⟩
  have HM4 := Lib.hid hmap4
  have hs34 := hb4.size
  have HB4 := Lib.hid (HB3.out.trans (hb4.mono HB3.out.size))
  have HT4 : Hid (ToksAt w4 (fun b => b < w3.heap.size) TA ts) := HTA.out.keep (fun b hb => hb.2) (fun b hb => hb4.block b hb.2)
  obtain ⟨D, hD⟩ : ∃ D, idkD rf ss = D := ⟨_, rfl⟩
  obtain ⟨mn, hmn⟩ : ∃ mn, rf.length + ss.length = mn := ⟨_, rfl⟩
  rw [hD, hmn] at HM4
  have HDD := Lib.hid hD
  clear hmap4 hb4 HID HTA hD hmn y0 y1 y2
  go_wp2_with fail
  have hq0 : tkD.Own w4 w4.heap.size 71 (OF w4.heap.size (.slice none 0 0) w4) (.slice none 0 0) [] [] := Dat.Own.nil
  go_loopw [10, 11, 50] (fun v o i wr => ∃ (j : Nat) (vs : List Value), i = .int .i64 (j : Int) ∧ j ≤ n ∧ o = .int .i64 (lenT (ts.take j) : Int) ∧ tkD.Own wr w4.heap.size 71 (OF w4.heap.size v wr) v (clsL D 0 (ts.take j)) vs ∧ Below w4.heap.size w4 wr) (fun _ _ i _ => n - (intOf i).toNat)
  case atStart => exact ⟨0, [], rfl, Nat.zero_le _, rfl, hq0, Below.refl _ _⟩
  case round =>
    clear hq0
    obtain ⟨j, vs, rfl, hj, rfl, hown, hb⟩ := hrel
    by_cases hlt : j < n
    · have hjI : (j : Int) < n := by omega
      have hjl : j < ts.length := by rw [HN.out]; exact hlt
      obtain ⟨tb, rfl, htb, hxc⟩ := HT4.out (by omega)
      obtain ⟨xk, xt⟩ := hxc j ts[j] (List.getElem?_eq_getElem hjl)
      have htake := List.take_succ_eq_append_getElem hjl
      have hln1 := HLN.out
      have hlo : lenT (ts.take j) + ts[j].t.size ≤ 2000 := by
        have e := List.take_append_drop (j + 1) ts
        have e2 := congrArg lenT e
        rw [lenT_append, htake, lenT_append] at e2
        simp only [lenT] at e2
        omega
      have hlt1 : lenT (ts.take (j + 1)) = lenT (ts.take j) + ts[j].t.size := by rw [htake, lenT_append]; simp [lenT]
      have htk1 : clsL D 0 (ts.take (j + 1)) = clsL D 0 (ts.take j) ++ clsOne D (lenT (ts.take j) : Nat) ts[j] := by
        rw [htake, clsL_append, Nat.zero_add]; simp [clsL]
      have hcl := clsL_len D (ts.take j) 0
      rw [List.length_take, Nat.min_eq_left (by omega)] at hcl
      have hnej := HNE.out ts[j] (List.getElem_mem hjl)
      generalize ts[j] = tt at *
      obtain ⟨tk, tx⟩ := tt
      simp only at xk xt hlo hlt1 hnej
      obtain ⟨lo, hlo2⟩ : ∃ lo, lenT (ts.take j) = lo := ⟨_, rfl⟩
      rw [hlo2] at hlo hlt1 htk1 ⊢
      obtain ⟨q, hq⟩ : ∃ q, kindOf D (lo : Nat) ⟨tk, tx⟩ = q := ⟨_, rfl⟩
      have hbs := hb.size
      have htb' : tb < w4.heap.size := Nat.lt_of_lt_of_le htb hs34
      have d0 := (hb.cell (p := ⟨tb, _, none⟩) htb').trans xk
      have d1 := (hb.cell (p := ⟨tb, _, none⟩) htb').trans xt
      have htr : tb < wr.heap.size := by omega
      have hbl : Below wr.heap.size wr (wr.alloc (.cells #[.int .i64 tk, .string tx] 142)) := (Below.refl _ _).alloc (Nat.le_refl _) _
      have hown1 := hown.below hbl
      obtain ⟨n0, hn0⟩ : ∃ n0, (clsL D 0 (ts.take j)).length = n0 := ⟨_, rfl⟩
      have ho1x := hown1.1
      rw [hn0] at ho1x
      have ho1 : (wr.alloc (.cells #[.int .i64 tk, .string tx] 142)).ownsRow w4.heap.size 71 3 u10 n0 vs := ho1x
      have hn0b : n0 ≤ j := by rw [← hn0]; exact hcl
      have hmap : (wr.alloc (.cells #[.int .i64 tk, .string tx] 142)).ownsMap Tryz.prog 3 (plainElem (H := Unit) Tryz.prog 3) (w3.heap.size + 1 + 1) mn D := (ownsMap_below HM4.out hb).alloc _
      have hkey : keyOf Tryz.prog 3 (.int .i64 (lo : Int)) = some (.int .i64 (lo : Int)) := keyOf_int_mk Tryz.underlying3 (WalkArith.wf_i64 (by omega))
      have hbB : w4.heap.size ≤ (wr.alloc (.cells #[.int .i64 tk, .string tx] 142)).heap.size := by simp; omega
      have gs : ¬ tx.toList = [] := fun e => hnej (by rw [ByteArray.toList_eq] at e; cases tx; simp at e; simp [e]; rfl)
      have gs2 : tx.toList.isEmpty = false := by simpa using gs
      have HOL := Lib.hid (fun g hg => (hown.1.lt g hg).2)
      have HO1 := Lib.hid hown1
      have HB := Lib.hid hb
      have HBL := Lib.hid hbl
      have HN0 := Lib.hid hn0
      have HLT := Lib.hid hlt1
      have hts : lo + tx.size ≤ 2000 := hlo
      have HLX := Lib.hid (lexk_any tk)
      by_cases g1 : tk = 103
      · have HAT : Hid (∀ c, D.atKey (.int .i64 (lo : Int)) (.lit (.int .i64 0)) = .lit (.int .i64 c) → c = q) := fun c hc => by
          rw [← hq]; unfold kindOf kdAt; rw [if_pos g1, hc]
        subst g1
        by_cases g2 : q = 0
        · have HTK1 := Lib.hid (show clsL D 0 (ts.take (j + 1)) = clsL D 0 (ts.take j) by rw [htk1]; unfold clsOne; rw [hq, if_neg (by simp [g2]), List.append_nil])
          have gb : (q == 0) = true := by simpa using g2
          have gb2 : (q != 0) = false := by simpa using g2
          clear htk1 htake hown hb hbl hown1 hn0 ho1x hq g2 hcl hlo2 hlt1 xk xt hlo hxc hln1
          go_wp2_with (first | (go_at_call 61; refine (HLX.out _).mono ?_; rintro e w9 ⟨rfl, rfl⟩) | (at_lookup; refine wpList_lookup_own_int _ rfl _ _ 139 rfl 3 3 .i64 lawI Tryz.underlying139 Tryz.underlying3 (zeroI _) (w3.heap.size + 1 + 1) mn _ rfl hmap _ _ rfl hkey ?_; intro c hat hwc; obtain rfl : q = c := (HAT.out c hat).symm))
          go_roundw
          case rel => exact ⟨j + 1, vs, by go_num, by omega, by rw [HLT.out]; go_num, by rw [HTK1.out]; exact HO1.out, HB.out.trans (HBL.out.mono hbs)⟩
          case measure => simp [intOf]; omega
        · have HTK1 := Lib.hid (show clsL D 0 (ts.take (j + 1)) = clsL D 0 (ts.take j) ++ [⟨lo, tx.size, q⟩] by rw [htk1]; unfold clsOne; rw [hq, if_pos ⟨g2, hnej⟩])
          have gb : (q == 0) = false := by simpa using g2
          have gb2 : (q != 0) = true := by simpa using g2
          clear htk1 htake hown hb hbl hown1 hn0 ho1x hq hcl hlo2 hlt1 xk xt hlo hxc hln1
          go_wp2_with (first | (go_at_call 61; refine (HLX.out _).mono ?_; rintro e w9 ⟨rfl, rfl⟩) | (at_lookup; refine wpList_lookup_own_int _ rfl _ _ 139 rfl 3 3 .i64 lawI Tryz.underlying139 Tryz.underlying3 (zeroI _) (w3.heap.size + 1 + 1) mn _ rfl hmap _ _ rfl hkey ?_; intro c hat hwc; obtain rfl : q = c := (HAT.out c hat).symm) | (at_builtin; refine wpList_append_litH rfl (.tmp 70) (.tmp 77) _ rfl w4.heap.size 71 _ 3 24 Tryz.underlying30 info_tk rfl (by decide) _ _ _ rfl ho1 1 1 (wr.heap.size + 1) (by simp) [.int .i64 (lo : Int), .int .i64 (tx.size : Int), .int .i64 q] rfl rfl (by simp [Value.oneCell']) (by unfold maxLen; omega) (by omega) hbB ?_; intro v2 w5 hown5 hg5 hat5; have hx5 := (hg5.block wr.heap.size (by simp) (fun e => by have := HOL.out _ e.symm; omega)).trans (heap_alloc_new wr _); have f1 := cell_of hx5 1 _ rfl; have fl5 := lt_of_heap hx5))
          have h2 : tkD.Own w5 w4.heap.size 71 (OF w4.heap.size v2 w5) v2 (clsL D 0 (ts.take (j + 1))) (vs ++ [.int .i64 (lo : Int), .int .i64 (tx.size : Int), .int .i64 q]) := by
            rw [HTK1.out]
            exact HO1.out.grow (ys := [⟨lo, tx.size, q⟩]) (Dat.Row.single (D := tkD) rfl) hg5 (by rw [HN0.out]; exact hown5) (hat5.imp_right fun ⟨g, h1, h2⟩ => ⟨g, h1, by simpa using h2⟩)
          have hb5 : Below w4.heap.size w4 w5 := (HB.out.trans (HBL.out.mono hbs)).grown hg5 hbB (fun q hq => (HO1.out.1.lt q hq).1)
          have H2 := Lib.hid h2
          have HB5 := Lib.hid hb5
          clear h2 hb5 hown5 hg5 hat5 hx5
          go_roundw
          case rel => exact ⟨j + 1, _, by go_num, by omega, by rw [HLT.out]; go_num, H2.out, HB5.out⟩
          case measure => simp [intOf]; omega
      · have gk : (tk == 103) = false := by simpa using g1
        have hq' : lexK tk = q := by rw [← hq]; unfold kindOf; rw [if_neg g1]
        rw [hq'] at HLX
        by_cases g2 : q = 0
        · have HTK1 := Lib.hid (show clsL D 0 (ts.take (j + 1)) = clsL D 0 (ts.take j) by rw [htk1]; unfold clsOne; rw [hq, if_neg (by simp [g2]), List.append_nil])
          have gb : (q == 0) = true := by simpa using g2
          have gb2 : (q != 0) = false := by simpa using g2
          clear htk1 htake hown hb hbl hown1 hn0 ho1x hq g2 hcl hlo2 hlt1 xk xt hlo hxc hln1 hq'
          go_wp2_with (go_at_call 61; refine (HLX.out _).mono ?_; rintro e w9 ⟨rfl, rfl⟩)
          go_roundw
          case rel => exact ⟨j + 1, vs, by go_num, by omega, by rw [HLT.out]; go_num, by rw [HTK1.out]; exact HO1.out, HB.out.trans (HBL.out.mono hbs)⟩
          case measure => simp [intOf]; omega
        · have HTK1 := Lib.hid (show clsL D 0 (ts.take (j + 1)) = clsL D 0 (ts.take j) ++ [⟨lo, tx.size, q⟩] by rw [htk1]; unfold clsOne; rw [hq, if_pos ⟨g2, hnej⟩])
          have gb : (q == 0) = false := by simpa using g2
          have gb2 : (q != 0) = true := by simpa using g2
          clear htk1 htake hown hb hbl hown1 hn0 ho1x hq hcl hlo2 hlt1 xk xt hlo hxc hln1 hq'
          go_wp2_with (first | (go_at_call 61; refine (HLX.out _).mono ?_; rintro e w9 ⟨rfl, rfl⟩) | (at_builtin; refine wpList_append_litH rfl (.tmp 70) (.tmp 77) _ rfl w4.heap.size 71 _ 3 24 Tryz.underlying30 info_tk rfl (by decide) _ _ _ rfl ho1 1 1 (wr.heap.size + 1) (by simp) [.int .i64 (lo : Int), .int .i64 (tx.size : Int), .int .i64 q] rfl rfl (by simp [Value.oneCell']) (by unfold maxLen; omega) (by omega) hbB ?_; intro v2 w5 hown5 hg5 hat5; have hx5 := (hg5.block wr.heap.size (by simp) (fun e => by have := HOL.out _ e.symm; omega)).trans (heap_alloc_new wr _); have f1 := cell_of hx5 1 _ rfl; have fl5 := lt_of_heap hx5))
          have h2 : tkD.Own w5 w4.heap.size 71 (OF w4.heap.size v2 w5) v2 (clsL D 0 (ts.take (j + 1))) (vs ++ [.int .i64 (lo : Int), .int .i64 (tx.size : Int), .int .i64 q]) := by
            rw [HTK1.out]
            exact HO1.out.grow (ys := [⟨lo, tx.size, q⟩]) (Dat.Row.single (D := tkD) rfl) hg5 (by rw [HN0.out]; exact hown5) (hat5.imp_right fun ⟨g, h1, h2⟩ => ⟨g, h1, by simpa using h2⟩)
          have hb5 : Below w4.heap.size w4 w5 := (HB.out.trans (HBL.out.mono hbs)).grown hg5 hbB (fun q hq => (HO1.out.1.lt q hq).1)
          have H2 := Lib.hid h2
          have HB5 := Lib.hid hb5
          clear h2 hb5 hown5 hg5 hat5 hx5
          go_roundw
          case rel => exact ⟨j + 1, _, by go_num, by omega, by rw [HLT.out]; go_num, H2.out, HB5.out⟩
          case measure => simp [intOf]; omega
    · have hjI : ¬ (j : Int) < n := by omega
      have htk : ts.take j = ts := List.take_of_length_le (by rw [HN.out]; omega)
      rw [htk] at hown
      obtain ⟨A3, c3, hv, hAt, _⟩ := hown.at (F' := Lt wr) (fun b hb' => hb'.2.1) (fun b hb' => (hown.1.lt b hb').2)
      subst hv
      have HAT := Lib.hid hAt
      have HB := Lib.hid (HB4.out.trans (hb.mono HB4.out.size))
      obtain ⟨nn, hnn⟩ : ∃ nn, (clsL D 0 ts).length = nn := ⟨_, rfl⟩
      have HNN := Lib.hid hnn
      rw [hnn]
      clear hAt hb hown htk hnn
      go_wp2_with fail
      go_ret2
      exact ⟨A3, c3, by rw [HTS.out, HDD.out, HNN.out]; rfl, by rw [HTS.out, HDD.out]; exact HAT.out, HB.out⟩
end Go.Proofs.YtpibenilagloaaaGreatDoor

/-
  What a module must be, checked by reckoning; the semantic tokens' example.
-/
namespace Go.Proofs.YtpibenilagloaaaGreatDoor
open Go.RowKit Go.Maps
set_option linter.unusedVariables false

def okYB (ss : List Sym) : Bool := ss.all (fun y => decide (y.par < 0) || (decide (y.kind = 2) && decide (y.par = 4))) && (match ss[4]? with | some z => decide (z.kind = 1) | none => false)
theorem okYB_ok {ss : List Sym} (h : okYB ss = true) : okY ss := by
  unfold okYB at h
  rw [Bool.and_eq_true, List.all_eq_true] at h
  obtain ⟨h1, h2⟩ := h
  refine ⟨fun y hy => ?_, ?_⟩
  · have := h1 y hy
    simp only [Bool.or_eq_true, Bool.and_eq_true, decide_eq_true_eq] at this
    exact this
  · split at h2
    · rename_i z hz
      exact ⟨z, hz, by simpa using h2⟩
    · cases h2
def ndB (ss : List Sym) : Bool := (List.range ss.length).all fun i => match ss[i]? with
  | some y => !namedB y || !((ss.take i).any (dupB y))
  | none => true
theorem ndB_ok {ss : List Sym} (h : ndB ss = true) : ∀ (i : Nat) y, ss[i]? = some y → namedB y = true → (ss.take i).any (dupB y) = false := by
  intro i y hy hn
  unfold ndB at h
  rw [List.all_eq_true] at h
  have := h i (List.mem_range.2 (List.getElem?_eq_some_iff.1 hy).1)
  rw [hy] at this
  simp only [hn, Bool.not_true, Bool.false_or, Bool.not_eq_true'] at this
  exact this
def modB (x : Mdl) (u : PS) : Bool :=
  isIdB x.nm && (decide (x.src.size ≤ 2000) && ((astD x.src u.ch).isEmpty && (okS (astN x.src u.ch) && (okRs x.nm (astN x.src u.ch).ch && (decide ((astN x.src u.ch).sz ≤ 800000) && ((astN x.src u.ch).ch.all (fun y => decide (y.h.k ≠ 2)) &&
    (okYB (symsN x (astN x.src u.ch)) && (!(declN 0 (symsN x (astN x.src u.ch))).isEmpty && (decide ((declN 0 (symsN x (astN x.src u.ch))).length ≤ 12) && (decide ((symsN x (astN x.src u.ch)).length ≤ 1000) && (ndB (symsN x (astN x.src u.ch)) &&
    (!(resN x (astN x.src u.ch)).rf.isEmpty && (decide ((resN x (astN x.src u.ch)).rf.length ≤ 12) && decide ((resN x (astN x.src u.ch)).ds.length < 2))))))))))))))
theorem modOk_of {x : Mdl} {u : PS} (hr : run 100 fileC ⟨tokensL x.src.data.toList, [], false, 600000⟩ = some u) (h : modB x u = true) : ModOk x u (astN x.src u.ch) := by
  unfold modB at h
  simp only [Bool.and_eq_true, decide_eq_true_eq, Bool.not_eq_true', List.isEmpty_iff, List.isEmpty_eq_false_iff] at h
  obtain ⟨h1, h2, h3, h4, h5, h6, h7, h8, h9, h10, h11, h12, h13, h14, h15⟩ := h
  exact ⟨h1, h2, hr, h3, rfl, h4, h5, h6, fun y hy => by have := List.all_eq_true.1 h7 y hy; simpa using this, okYB_ok h8, h9, h10, h11, ndB_ok h12, h13, h14, h15⟩
/-- fn f() { g } -/
def exM : Mdl := ⟨⟨#[109]⟩, ⟨#[102, 110, 32, 102, 40, 41, 32, 123, 32, 103, 32, 125]⟩⟩
def semB (x : Mdl) (u : PS) : Bool :=
  (symsN x (astN x.src u.ch)).all (fun y => decide (y.st ≤ 1000000) && (decide (0 ≤ y.kind) && decide (y.kind ≤ 1000))) && ((sortI cmpRf (resN x (astN x.src u.ch)).rf).all (fun r => decide (r.mod = 0) && (decide (r.sym < 0) && (decide (0 ≤ r.st) && decide (r.st ≤ 1000000)))) &&
    (decide (lenT (tokensL x.src.data.toList) ≤ 2000) && (decide ((tokensL x.src.data.toList).length ≤ 2000) && (tokensL x.src.data.toList).all (fun y => decide (y.t.size ≠ 0)))))
def exT : List TokS := [⟨0, 2, 21⟩, ⟨3, 1, 2⟩, ⟨4, 1, 25⟩, ⟨5, 1, 25⟩, ⟨7, 1, 25⟩, ⟨9, 1, 26⟩, ⟨11, 1, 25⟩]
theorem exM_run : (run 100 fileC ⟨tokensL exM.src.data.toList, [], false, 600000⟩).map (fun u => (modB exM u, semB exM u, clsL (idkD (sortI cmpRf (resN exM (astN exM.src u.ch)).rf) (symsN exM (astN exM.src u.ch))) 0 (tokensL exM.src.data.toList))) = some (true, true, exT) := by kernel_rfl
end Go.Proofs.YtpibenilagloaaaGreatDoor
