import Derived.Test.YtpibenilagloaaaGreatDoorMxas
import Derived.Test.YtpibenilagloaaaGreatDoorMxae
/-
  semtokens.Decode: the walk.
-/
namespace Go.Proofs.YtpibenilagloaaaGreatDoor
open Go.RowKit
set_option linter.unusedVariables false

def DecPost (n : Int) (R : Option (List TokS)) (w : World) (e : Ending) (w' : World) : Prop :=
  ((R.filter (valL n 0) = none ∧ e = .returned (.tuple #[.slice none 0 0, .int .i64 3])) ∨ ∃ ts A c, R.filter (valL n 0) = some ts ∧ e = .returned (.tuple #[.slice A ts.length c, .int .i64 0]) ∧ tkD.At w' (Nw w w') A ts) ∧ Below w.heap.size w w'
theorem decL_drop (st : List Nat) (n line start : Int) (ds : List TokD) (k : Nat) (d : TokD) (h : ds[k]? = some d) : decL st n line start (ds.drop k) = if d.dl < 0 ∨ (st.length : Int) - line ≤ d.dl ∨ d.ds < 0 ∨ n < d.ds then none
    else if line + d.dl + 1 < st.length ∧ ((st.getD (line + d.dl + 1).toNat 0 : Nat) : Int) ≤ ptL st line start d then none
      else (decL st n (line + d.dl) (ptL st line start d) (ds.drop (k + 1))).map (⟨ptL st line start d, d.l, d.k⟩ :: ·) := by
  obtain ⟨hk, rfl⟩ := List.getElem?_eq_some_iff.1 h
  rw [List.drop_eq_getElem_cons hk, decL]
theorem lsI_at (l : List UInt8) (i : Nat) (h : i < (lineStartsL l).length) : (lsI l)[i]? = some (((lineStartsL l).getD i 0 : Nat) : Int) := by
  unfold lsI
  rw [List.getElem?_map, List.getElem?_eq_getElem h, List.getD_eq_getElem?_getD, List.getElem?_eq_getElem h]
  rfl
theorem in_cells {w : World} {F : Nat → Prop} {A : Option Addr} {xs : List Int} (h : inD.At w F A xs) (h0 : 0 < xs.length) : ∃ b off, A = some ⟨b, off, none⟩ ∧ F b ∧ ∀ i x, xs[i]? = some x → w.cell? ⟨b, off + i, none⟩ = some (.int .i64 x) := by
  obtain ⟨b, off, rfl, hb, _⟩ := flat_get h 0 _ (List.getElem?_eq_getElem h0)
  refine ⟨b, off, rfl, hb, fun i x hi => ?_⟩
  obtain ⟨b2, off2, e, _, hc⟩ := flat_get h i x hi
  injection e with e
  injection e with e1 e2
  subst e1; subst e2
  have := hc 0 _ rfl
  rw [Nat.add_zero, Nat.mul_one] at this
  exact this
theorem starts_bound (l : List UInt8) (i : Nat) (h : i < (lineStartsL l).length) : (lineStartsL l).getD i 0 ≤ l.length := by
  have hp : ∀ x ∈ lineStartsL l, x ≤ l.length := by
    intro x hx
    unfold lineStartsL at hx
    rcases List.mem_cons.1 hx with rfl | hx
    · omega
    · have := (lsFrom_gt l 0 x hx).2; omega
  rw [List.getD_eq_getElem?_getD, List.getElem?_eq_getElem h]
  exact hp _ (List.getElem_mem h)
set_option maxRecDepth 100000 in
set_option maxHeartbeats 6400000 in
theorem dec_any (s : ByteArray) (ds : List TokD) (A : Option Addr) (c : Nat) (w : World) (F : Nat → Prop) (h : tdD.At w F A ds) (hF : ∀ b, F b → b < w.heap.size) (hm : ds.length * 32 ≤ 140737488355328) (hs : s.size ≤ 2000) :
    Calls Tryz.prog 11 #[.string s, .slice A ds.length c] w (DecPost s.size (decL (lineStartsL s.data.toList) s.size 0 0 ds) w) := by
  obtain ⟨n, hn⟩ : ∃ n, ds.length = n := ⟨_, rfl⟩
  obtain ⟨R, hR⟩ : ∃ R, decL (lineStartsL s.data.toList) s.size 0 0 ds = R := ⟨_, rfl⟩
  obtain ⟨L, hL⟩ : ∃ L, (lineStartsL s.data.toList).length = L := ⟨_, rfl⟩
  have hsl : s.data.toList.length = s.size := by simp
  have hL0 : 0 < L := by rw [← hL]; unfold lineStartsL; simp
  have hL1 : L ≤ 2001 := by
    have := lsI_len s.data.toList
    unfold lsI at this
    rw [List.length_map, hL, hsl] at this
    omega
  have HLN := Lib.hid (lines_any s w hs)
  have hLI : (lsI s.data.toList).length = L := by unfold lsI; rw [List.length_map, hL]
  rw [hLI] at HLN
  have HLI := Lib.hid hLI
  have HSA := Lib.hid (lsI_at s.data.toList)
  have HSB := Lib.hid (starts_bound s.data.toList)
  rw [hL] at HSA HSB
  rw [hsl] at HSB
  have HST := Lib.hid hL
  have HN := Lib.hid hn
  have HA := Lib.hid h
  have HF := Lib.hid hF
  have HR := Lib.hid hR
  have hI : ¬ (2000 : Int) < s.size := by omega
  rw [hn] at hm ⊢
  rw [hR]
  clear hn h hF hR hL hLI hsl
  go_enter Tryz.func11, Tryz.ntmps11
  go_wp2_with fail
  refine HLN.out.mono ?_
  rintro e w1 ⟨SA, sc, rfl, hsat, hb1⟩
  obtain ⟨sb, soff, rfl, hsb, hsc⟩ := in_cells hsat (by rw [HLI.out]; exact hL0)
  have HSC : Hid (∀ i, i < L → w1.cell? ⟨sb, soff + i, none⟩ = some (.int .i64 (((lineStartsL s.data.toList).getD i 0 : Nat) : Int))) := fun i hi => hsc i _ (HSA.out i hi)
  have HSN : Hid (w.heap.size ≤ sb ∧ sb < w1.heap.size) := hsb
  clear hsat hsc hsb HLN HSA
  have hq0 : tkD.Own w1 w1.heap.size 71 (OF w1.heap.size (.slice none 0 0) w1) (.slice none 0 0) [] [] := Dat.Own.nil
  have HB1 := Lib.hid hb1
  clear hb1
  have hR0 : Hid (R = (decL (lineStartsL s.data.toList) s.size ((0 : Nat) : Int) ((0 : Nat) : Int) (ds.drop 0)).map ([] ++ ·)) := by
    unfold Hid
    rw [List.drop_zero, ← HR.out]
    simp
  go_wp2_with fail
  go_loopw [7, 8, 9, 19] (fun v lv sv i wr => ∃ (k ln q : Nat) (out : List TokS) (vs : List Value), k ≤ n ∧ i = .int .i64 (k : Int) ∧ lv = .int .i64 (ln : Int) ∧ sv = .int .i64 (q : Int) ∧ ln < L ∧ q ≤ 2000 * (k + 1) ∧ Hid (out.length = k) ∧ Hid (R = (decL (lineStartsL s.data.toList) s.size ln q (ds.drop k)).map (out ++ ·)) ∧ tkD.Own wr w1.heap.size 71 (OF w1.heap.size v wr) v out vs ∧ Below w1.heap.size w1 wr) (fun _ _ _ i _ => n - (intOf i).toNat)
  case atStart => exact ⟨0, 0, 0, [], [], Nat.zero_le _, rfl, rfl, rfl, hL0, by omega, Lib.hid rfl, hR0, hq0, Below.refl _ _⟩
  case round =>
    clear hq0 hR0
    obtain ⟨k, ln, q, out, vs, hk, rfl, rfl, rfl, hln, hq, HL, HD, hown, hb⟩ := hrel
    by_cases hlt : k < n
    · have hkI : (k : Int) < n := by omega
      have hkl : k < ds.length := by rw [HN.out]; exact hlt
      obtain ⟨b, off, rfl, hbb, hc⟩ := flat_get HA.out k ds[k] (List.getElem?_eq_getElem hkl)
      have hd2 := decL_drop (lineStartsL s.data.toList) s.size ln q ds k _ (List.getElem?_eq_getElem hkl)
      rw [HST.out] at hd2
      generalize ds[k] = x at *
      obtain ⟨x0, x1, x2, x3⟩ := x
      simp only at hd2
      have hbl := HF.out b hbb
      have hbl1 := Nat.lt_of_lt_of_le hbl HB1.out.size
      have cc : ∀ j u, ([.int .i64 x0, .int .i64 x1, .int .i64 x2, .int .i64 x3] : List Value)[j]? = some u → wr.cell? ⟨b, off + k * 4 + j, none⟩ = some u := fun j u hu => (hb.cell (p := ⟨b, _, none⟩) hbl1).trans ((HB1.out.cell (p := ⟨b, _, none⟩) hbl).trans (hc j u hu))
      have c0 := cc 0 _ rfl
      have c1 := cc 1 _ rfl
      have c2 := cc 2 _ rfl
      have c3 := cc 3 _ rfl
      rw [Nat.add_zero] at c0
      have HB : Hid (Below w.heap.size w (wr.alloc (.cells #[.int .i64 x0, .int .i64 x1, .int .i64 x2, .int .i64 x3] 73))) := ((HB1.out.trans (hb.mono HB1.out.size))).alloc (Nat.le_trans HB1.out.size hb.size) _
      have hb2 := hb.size
      have HBW := Lib.hid hb
      have HO := Lib.hid hown
      have HD2 := Lib.hid (HD.out.trans (congrArg (fun z => z.map (out ++ ·)) hd2))
      clear cc hc hbb hd2 hb hown HD
      by_cases g0 : x0 < 0
      · skip
        have hRN : R = none := by rw [HD2.out, if_pos (Or.inl g0)]; rfl
        have HRN := Lib.hid hRN
        clear hRN HD2
        go_wp2_with fail
        go_ret2
        exact ⟨.inl ⟨by rw [HRN.out]; rfl, rfl⟩, HB.out⟩
      · by_cases g1 : (L : Int) - ln ≤ x0
        · skip
          have hRN : R = none := by rw [HD2.out, if_pos (Or.inr (Or.inl g1))]; rfl
          have HRN := Lib.hid hRN
          clear hRN HD2
          go_wp2_with fail
          go_ret2
          exact ⟨.inl ⟨by rw [HRN.out]; rfl, rfl⟩, HB.out⟩
        · by_cases g2 : x1 < 0
          · skip
            have hRN : R = none := by rw [HD2.out, if_pos (Or.inr (Or.inr (Or.inl g2)))]; rfl
            have HRN := Lib.hid hRN
            clear hRN HD2
            go_wp2_with fail
            go_ret2
            exact ⟨.inl ⟨by rw [HRN.out]; rfl, rfl⟩, HB.out⟩
          · by_cases g3 : (s.size : Int) < x1
            · skip
              have hRN : R = none := by rw [HD2.out, if_pos (Or.inr (Or.inr (Or.inr g3)))]; rfl
              have HRN := Lib.hid hRN
              clear hRN HD2
              go_wp2_with fail
              go_ret2
              exact ⟨.inl ⟨by rw [HRN.out]; rfl, rfl⟩, HB.out⟩
            · obtain ⟨d, rfl⟩ : ∃ d : Nat, x0 = (d : Int) := ⟨x0.toNat, by omega⟩
              obtain ⟨t, rfl⟩ : ∃ t : Nat, x1 = (t : Int) := ⟨x1.toNat, by omega⟩
              obtain ⟨m, hm1⟩ : ∃ m : Nat, ln + d = m := ⟨_, rfl⟩
              have hm2 : m < L := by omega
              have e1 : (ln : Int) + d = m := by omega
              have e3 : ((m : Int) + 1).toNat = m + 1 := by omega
              have HD3 := Lib.hid HD2.out
              rw [if_neg (by omega), e1, e3] at HD3
              clear HD2
              have HSM := Lib.hid (HSC.out)
              have sz1 := HSN.out.2
              have cS : ∀ i, i < L → wr.cell? ⟨sb, soff + i, none⟩ = some (.int .i64 (((lineStartsL s.data.toList).getD i 0 : Nat) : Int)) := fun i hi => (HBW.out.cell (p := ⟨sb, _, none⟩) sz1).trans (HSC.out i hi)
              have HCS := Lib.hid cS
              obtain ⟨z, hz⟩ : ∃ z, (lineStartsL s.data.toList).getD m 0 = z := ⟨_, rfl⟩
              have hzb := HSB.out m hm2
              have hcm := cS m hm2
              rw [hz] at hzb hcm
              have HZ := Lib.hid hz
              have sz2 : sb < wr.heap.size := Nat.lt_of_lt_of_le sz1 hb2
              clear cS hz HSM sz1
              by_cases g4 : 0 < d
              · have gd : (0 : Int) < d := by omega
                have hpt : ptL (lineStartsL s.data.toList) ln q ⟨d, t, x2, x3⟩ = ((z + t : Nat) : Int) := by
                  unfold ptL
                  simp only
                  rw [if_pos gd, e1, Int.toNat_natCast, HZ.out]
                  omega
                rw [hpt] at HD3
                obtain ⟨v, hv⟩ : ∃ v, z + t = v := ⟨_, rfl⟩
                have e4 : (z : Int) + t = v := by omega
                have hvb : v ≤ 2000 * (k + 2) := by omega
                rw [hv] at HD3
                clear hpt hv
                by_cases g5 : m + 1 < L
                · have g5I : (m : Int) + 1 < L := by omega
                  have hcn := HCS.out (m + 1) g5
                  obtain ⟨y, hy⟩ : ∃ y, (lineStartsL s.data.toList).getD (m + 1) 0 = y := ⟨_, rfl⟩
                  rw [hy] at HD3 hcn
                  clear hy
                  by_cases g6 : (y : Int) ≤ v
                  · have hRN : R = none := by rw [HD3.out, if_pos ⟨g5I, g6⟩]; rfl
                    have HRN := Lib.hid hRN
                    clear hRN HD3
                    go_wp2_with fail
                    go_ret2
                    exact ⟨.inl ⟨by rw [HRN.out]; rfl, rfl⟩, HB.out⟩
                  · have HR2 := Lib.hid HD3.out
                    rw [if_neg (fun h => g6 h.2)] at HR2
                    clear HD3
                    obtain ⟨A1, k1, rfl⟩ := own_slice HO.out.1
                    have ho1 := HO.out.1.alloc (.cells #[.int .i64 d, .int .i64 t, .int .i64 x2, .int .i64 x3] 73)
                    rw [HL.out] at ho1 HO
                    have hbs : w1.heap.size ≤ (wr.alloc (.cells #[.int .i64 d, .int .i64 t, .int .i64 x2, .int .i64 x3] 73)).heap.size := by simp; omega
                    have HO2 := Lib.hid (HO.out.below ((Below.refl _ _).alloc (Nat.le_refl _) (.cells #[.int .i64 d, .int .i64 t, .int .i64 x2, .int .i64 x3] 73)))
                    rw [HL.out]
                    clear HO
                    go_wp2_with (at_builtin; refine wpList_append_litH rfl (.tmp 76) (.tmp 83) _ rfl w1.heap.size 71 _ 3 24 Tryz.underlying30 info_tk rfl (by decide) _ _ _ rfl ho1 1 1 (wr.heap.size + 1) (by simp) [.int .i64 v, .int .i64 x2, .int .i64 x3] rfl rfl ?a1 ?a2 ?a3 hbs ?_)
                    case a1 => simp [Value.oneCell']
                    case a2 => simp only [maxLen]; omega
                    case a3 => omega
                    intro v2 w2 hown2 hg2 hat2
                    have h2 : tkD.Own w2 w1.heap.size 71 (OF w1.heap.size v2 w2) v2 (out ++ [⟨(v : Int), x2, x3⟩]) (vs ++ [.int .i64 v, .int .i64 x2, .int .i64 x3]) :=
                      HO2.out.grow (Dat.Row.single (D := tkD) rfl) hg2 (by rw [HL.out]; exact hown2) (hat2.imp_right fun ⟨g, h1, h2⟩ => ⟨g, h1, by simp; exact h2⟩)
                    have hb3 : Below w1.heap.size w1 w2 := (HBW.out.alloc hb2 _).grown hg2 hbs (fun q hq => (HO2.out.1.lt q hq).1)
                    have H2 := Lib.hid h2
                    have HB3 := Lib.hid hb3
                    clear h2 hb3 hown2 hg2 hat2 ho1
                    go_wp2_with fail
                    go_roundw
                    case rel => exact ⟨k + 1, m, v, _, _, by omega, by go_num, by go_num, rfl, hm2, by omega, Lib.hid (by rw [List.length_append, HL.out]; rfl), Lib.hid (by rw [HR2.out]; simp [Option.map_map, Function.comp_def]), H2.out, HB3.out⟩
                    case measure => simp [intOf]; omega
                · have g5I : ¬ (m : Int) + 1 < L := by omega
                  have HR2 := Lib.hid HD3.out
                  rw [if_neg (fun h => g5I h.1)] at HR2
                  clear HD3
                  obtain ⟨A1, k1, rfl⟩ := own_slice HO.out.1
                  have ho1 := HO.out.1.alloc (.cells #[.int .i64 d, .int .i64 t, .int .i64 x2, .int .i64 x3] 73)
                  rw [HL.out] at ho1 HO
                  have hbs : w1.heap.size ≤ (wr.alloc (.cells #[.int .i64 d, .int .i64 t, .int .i64 x2, .int .i64 x3] 73)).heap.size := by simp; omega
                  have HO2 := Lib.hid (HO.out.below ((Below.refl _ _).alloc (Nat.le_refl _) (.cells #[.int .i64 d, .int .i64 t, .int .i64 x2, .int .i64 x3] 73)))
                  rw [HL.out]
                  clear HO
                  go_wp2_with (at_builtin; refine wpList_append_litH rfl (.tmp 76) (.tmp 83) _ rfl w1.heap.size 71 _ 3 24 Tryz.underlying30 info_tk rfl (by decide) _ _ _ rfl ho1 1 1 (wr.heap.size + 1) (by simp) [.int .i64 v, .int .i64 x2, .int .i64 x3] rfl rfl ?a1 ?a2 ?a3 hbs ?_)
                  case a1 => simp [Value.oneCell']
                  case a2 => simp only [maxLen]; omega
                  case a3 => omega
                  intro v2 w2 hown2 hg2 hat2
                  have h2 : tkD.Own w2 w1.heap.size 71 (OF w1.heap.size v2 w2) v2 (out ++ [⟨(v : Int), x2, x3⟩]) (vs ++ [.int .i64 v, .int .i64 x2, .int .i64 x3]) :=
                    HO2.out.grow (Dat.Row.single (D := tkD) rfl) hg2 (by rw [HL.out]; exact hown2) (hat2.imp_right fun ⟨g, h1, h2⟩ => ⟨g, h1, by simp; exact h2⟩)
                  have hb3 : Below w1.heap.size w1 w2 := (HBW.out.alloc hb2 _).grown hg2 hbs (fun q hq => (HO2.out.1.lt q hq).1)
                  have H2 := Lib.hid h2
                  have HB3 := Lib.hid hb3
                  clear h2 hb3 hown2 hg2 hat2 ho1
                  go_wp2_with fail
                  go_roundw
                  case rel => exact ⟨k + 1, m, v, _, _, by omega, by go_num, by go_num, rfl, hm2, by omega, Lib.hid (by rw [List.length_append, HL.out]; rfl), Lib.hid (by rw [HR2.out]; simp [Option.map_map, Function.comp_def]), H2.out, HB3.out⟩
                  case measure => simp [intOf]; omega
              · obtain rfl : d = 0 := by omega
                obtain rfl : ln = m := by omega
                have gd : ¬ (0 : Int) < ((0 : Nat) : Int) := by omega
                have hpt : ptL (lineStartsL s.data.toList) ln q ⟨((0 : Nat) : Int), t, x2, x3⟩ = ((q + t : Nat) : Int) := by
                  unfold ptL
                  simp only
                  rw [if_neg gd]
                  omega
                rw [hpt] at HD3
                obtain ⟨v, hv⟩ : ∃ v, q + t = v := ⟨_, rfl⟩
                have e4 : (q : Int) + t = v := by omega
                have hvb : v ≤ 2000 * (k + 2) := by omega
                rw [hv] at HD3
                clear hpt hv
                by_cases g5 : ln + 1 < L
                · have g5I : (ln : Int) + 1 < L := by omega
                  have hcn := HCS.out (ln + 1) g5
                  obtain ⟨y, hy⟩ : ∃ y, (lineStartsL s.data.toList).getD (ln + 1) 0 = y := ⟨_, rfl⟩
                  rw [hy] at HD3 hcn
                  clear hy
                  by_cases g6 : (y : Int) ≤ v
                  · have hRN : R = none := by rw [HD3.out, if_pos ⟨g5I, g6⟩]; rfl
                    have HRN := Lib.hid hRN
                    clear hRN HD3
                    go_wp2_with fail
                    go_ret2
                    exact ⟨.inl ⟨by rw [HRN.out]; rfl, rfl⟩, HB.out⟩
                  · have HR2 := Lib.hid HD3.out
                    rw [if_neg (fun h => g6 h.2)] at HR2
                    clear HD3
                    obtain ⟨A1, k1, rfl⟩ := own_slice HO.out.1
                    have ho1 := HO.out.1.alloc (.cells #[.int .i64 ((0 : Nat) : Int), .int .i64 t, .int .i64 x2, .int .i64 x3] 73)
                    rw [HL.out] at ho1 HO
                    have hbs : w1.heap.size ≤ (wr.alloc (.cells #[.int .i64 ((0 : Nat) : Int), .int .i64 t, .int .i64 x2, .int .i64 x3] 73)).heap.size := by simp; omega
                    have HO2 := Lib.hid (HO.out.below ((Below.refl _ _).alloc (Nat.le_refl _) (.cells #[.int .i64 ((0 : Nat) : Int), .int .i64 t, .int .i64 x2, .int .i64 x3] 73)))
                    rw [HL.out]
                    clear HO
                    go_wp2_with (at_builtin; refine wpList_append_litH rfl (.tmp 76) (.tmp 83) _ rfl w1.heap.size 71 _ 3 24 Tryz.underlying30 info_tk rfl (by decide) _ _ _ rfl ho1 1 1 (wr.heap.size + 1) (by simp) [.int .i64 v, .int .i64 x2, .int .i64 x3] rfl rfl ?a1 ?a2 ?a3 hbs ?_)
                    case a1 => simp [Value.oneCell']
                    case a2 => simp only [maxLen]; omega
                    case a3 => omega
                    intro v2 w2 hown2 hg2 hat2
                    have h2 : tkD.Own w2 w1.heap.size 71 (OF w1.heap.size v2 w2) v2 (out ++ [⟨(v : Int), x2, x3⟩]) (vs ++ [.int .i64 v, .int .i64 x2, .int .i64 x3]) :=
                      HO2.out.grow (Dat.Row.single (D := tkD) rfl) hg2 (by rw [HL.out]; exact hown2) (hat2.imp_right fun ⟨g, h1, h2⟩ => ⟨g, h1, by simp; exact h2⟩)
                    have hb3 : Below w1.heap.size w1 w2 := (HBW.out.alloc hb2 _).grown hg2 hbs (fun q hq => (HO2.out.1.lt q hq).1)
                    have H2 := Lib.hid h2
                    have HB3 := Lib.hid hb3
                    clear h2 hb3 hown2 hg2 hat2 ho1
                    go_wp2_with fail
                    go_roundw
                    case rel => exact ⟨k + 1, ln, v, _, _, by omega, by go_num, by go_num, rfl, hm2, by omega, Lib.hid (by rw [List.length_append, HL.out]; rfl), Lib.hid (by rw [HR2.out]; simp [Option.map_map, Function.comp_def]), H2.out, HB3.out⟩
                    case measure => simp [intOf]; omega
                · have g5I : ¬ (ln : Int) + 1 < L := by omega
                  have HR2 := Lib.hid HD3.out
                  rw [if_neg (fun h => g5I h.1)] at HR2
                  clear HD3
                  obtain ⟨A1, k1, rfl⟩ := own_slice HO.out.1
                  have ho1 := HO.out.1.alloc (.cells #[.int .i64 ((0 : Nat) : Int), .int .i64 t, .int .i64 x2, .int .i64 x3] 73)
                  rw [HL.out] at ho1 HO
                  have hbs : w1.heap.size ≤ (wr.alloc (.cells #[.int .i64 ((0 : Nat) : Int), .int .i64 t, .int .i64 x2, .int .i64 x3] 73)).heap.size := by simp; omega
                  have HO2 := Lib.hid (HO.out.below ((Below.refl _ _).alloc (Nat.le_refl _) (.cells #[.int .i64 ((0 : Nat) : Int), .int .i64 t, .int .i64 x2, .int .i64 x3] 73)))
                  rw [HL.out]
                  clear HO
                  go_wp2_with (at_builtin; refine wpList_append_litH rfl (.tmp 76) (.tmp 83) _ rfl w1.heap.size 71 _ 3 24 Tryz.underlying30 info_tk rfl (by decide) _ _ _ rfl ho1 1 1 (wr.heap.size + 1) (by simp) [.int .i64 v, .int .i64 x2, .int .i64 x3] rfl rfl ?a1 ?a2 ?a3 hbs ?_)
                  case a1 => simp [Value.oneCell']
                  case a2 => simp only [maxLen]; omega
                  case a3 => omega
                  intro v2 w2 hown2 hg2 hat2
                  have h2 : tkD.Own w2 w1.heap.size 71 (OF w1.heap.size v2 w2) v2 (out ++ [⟨(v : Int), x2, x3⟩]) (vs ++ [.int .i64 v, .int .i64 x2, .int .i64 x3]) :=
                    HO2.out.grow (Dat.Row.single (D := tkD) rfl) hg2 (by rw [HL.out]; exact hown2) (hat2.imp_right fun ⟨g, h1, h2⟩ => ⟨g, h1, by simp; exact h2⟩)
                  have hb3 : Below w1.heap.size w1 w2 := (HBW.out.alloc hb2 _).grown hg2 hbs (fun q hq => (HO2.out.1.lt q hq).1)
                  have H2 := Lib.hid h2
                  have HB3 := Lib.hid hb3
                  clear h2 hb3 hown2 hg2 hat2 ho1
                  go_wp2_with fail
                  go_roundw
                  case rel => exact ⟨k + 1, ln, v, _, _, by omega, by go_num, by go_num, rfl, hm2, by omega, Lib.hid (by rw [List.length_append, HL.out]; rfl), Lib.hid (by rw [HR2.out]; simp [Option.map_map, Function.comp_def]), H2.out, HB3.out⟩
                  case measure => simp [intOf]; omega
    · have hkI : ¬ (k : Int) < n := by omega
      have hd : ds.drop k = [] := List.drop_of_length_le (by rw [HN.out]; omega)
      have hRS : R = some out := by rw [HD.out, hd, decL]; simp
      have HRS := Lib.hid hRS
      have HO := Lib.hid hown
      have HB : Hid (Below w.heap.size w wr) := HB1.out.trans (hb.mono HB1.out.size)
      obtain ⟨OA, oc, hov, hoat, _⟩ := hown.at (F' := Nw w wr) (fun b hb => ⟨Nat.le_trans HB1.out.size hb.1, hb.2.1⟩) (fun g hg => ⟨Nat.le_trans HB1.out.size (hown.1.lt g hg).1, (hown.1.lt g hg).2⟩)
      have HOA := Lib.hid hoat
      have HVA := Lib.hid (val_any s out OA oc wr (Nw w wr) hoat (fun b hb => hb.2) (by unfold maxLen; rw [HL.out]; omega) hs)
      clear hd hRS hown hb HD
      subst hov
      by_cases g : valL s.size 0 out = true
      · rw [g] at HVA
        have HG := Lib.hid g
        clear g hoat
        go_wp2_with fail
        refine HVA.out.mono ?_
        rintro e w2 ⟨rfl, hb2⟩
        go_wp2_with fail
        go_ret2
        refine ⟨.inr ⟨out, OA, oc, ?_, rfl, ?_⟩, HB.out.trans (hb2.mono HB.out.size)⟩
        · rw [HRS.out]; simp [Option.filter, HG.out]
        · exact HOA.out.keep (fun b hb => ⟨hb.1, Nat.lt_of_lt_of_le hb.2 hb2.size⟩) (fun b hb => hb2.block b hb.2)
      · rw [Bool.not_eq_true] at g
        rw [g] at HVA
        have HG := Lib.hid g
        clear g hoat
        go_wp2_with fail
        refine HVA.out.mono ?_
        rintro e w2 ⟨rfl, hb2⟩
        go_wp2_with fail
        go_ret2
        refine ⟨.inl ⟨?_, rfl⟩, HB.out.trans (hb2.mono HB.out.size)⟩
        rw [HRS.out]; simp [Option.filter, HG.out]
end Go.Proofs.YtpibenilagloaaaGreatDoor

/-
  SemtokensRoundTrip: the walk, the examples as a premise.
-/
namespace Go.Proofs.YtpibenilagloaaaGreatDoor
open Go.RowKit
set_option linter.unusedVariables false

/-- what the law needs of the examples -/
def SexOk (w : World) : Prop := ∀ w', Below w.heap.size w w' → Calls Tryz.prog 9 #[] w' fun e w2 => e = .returned (.bool true) ∧ Below w'.heap.size w' w2
theorem lineOf_zero (l : List UInt8) : lineOf l 0 = 0 := by simp [lineOf, nlC]
theorem dec_enc0 (s : ByteArray) (ts : List TokS) (h : valL s.size 0 ts = true) : (decL (lineStartsL s.data.toList) s.size 0 0 (encL s.data.toList 0 ts)).filter (valL s.size 0) = some ts := by
  have hsl : s.data.toList.length = s.size := by simp
  have := dec_enc s.data.toList ts 0 0 (by omega) (by omega) (by rw [hsl]; exact h)
  rw [lineOf_zero, hsl] at this
  have e : decL (lineStartsL s.data.toList) s.size 0 0 (encL s.data.toList 0 ts) = some ts := this
  rw [e]
  simp [Option.filter, h]
theorem enc_dec0 (s : ByteArray) (ds : List TokD) (ts : List TokS) (h : (decL (lineStartsL s.data.toList) s.size 0 0 ds).filter (valL s.size 0) = some ts) : valL s.size 0 ts = true ∧ encL s.data.toList 0 ts = ds := by
  have hsl : s.data.toList.length = s.size := by simp
  rw [Option.filter_eq_some_iff] at h
  refine ⟨h.2, ?_⟩
  have := enc_dec s.data.toList ds ts 0 0 (by omega) (by omega) (by rw [hsl]; exact h.2)
  rw [lineOf_zero, hsl] at this
  exact this h.1
theorem At.lt {α : Type} {D : Dat α} {w w' : World} {F : Nat → Prop} {A : Option Addr} {xs : List α} (h : D.At w F A xs) (hF : ∀ b, F b → b < w.heap.size) (hb : Below w.heap.size w w') : D.At w' (Lt w') A xs :=
  h.keep (fun b hb' => Nat.lt_of_lt_of_le (hF b hb') hb.size) (fun b hb' => hb.block b (hF b hb'))
set_option maxRecDepth 100000 in
set_option maxHeartbeats 6400000 in
theorem rtp_any (s : ByteArray) (ts : List TokS) (ds : List TokD) (A D : Option Addr) (c d : Nat) (w : World) (h : tkD.At w (Lt w) A ts) (h' : tdD.At w (Lt w) D ds) (hm : ts.length ≤ maxLen) (hm' : ds.length * 32 ≤ 140737488355328) (hx : SexOk w) :
    Calls Tryz.prog 4 #[.string s, .slice A ts.length c, .slice D ds.length d] w fun e w' => e = .returned (.bool true) ∧ Below w.heap.size w w' := by
  have HX := Lib.hid hx
  have HX0 := Lib.hid (hx w (Below.refl _ _))
  by_cases hs : s.size ≤ 2000
  · have HT := Lib.hid (fun w' (hb : Below w.heap.size w w') => At.lt h (fun b hb => hb) hb)
    have HDD := Lib.hid (fun w' (hb : Below w.heap.size w w') => At.lt h' (fun b hb => hb) hb)
    have HMD := Lib.hid hm'
    have HMT := Lib.hid hm
    have HDE := Lib.hid (fun w' (hb : Below w.heap.size w w') => dec_any s ds D d w' (Lt w') (HDD.out w' hb) (fun b hb => hb) hm' hs)
    obtain ⟨nt, hnt⟩ : ∃ nt, ts.length = nt := ⟨_, rfl⟩
    obtain ⟨nd, hnd⟩ : ∃ nd, ds.length = nd := ⟨_, rfl⟩
    have HNT := Lib.hid hnt
    have HND := Lib.hid hnd
    rw [hnd] at HDE
    rw [hnt, hnd]
    by_cases hv : valL s.size 0 ts = true
    · have hln := valL_len s.size ts 0 (by omega) (by omega) hv
      have HE := Lib.hid (fun w' (hb : Below w.heap.size w w') => enc_ok s ts A c w' (Lt w') (HT.out w' hb) (fun b hb => hb) hs hv)
      have HDN := Lib.hid (dec_enc0 s ts hv)
      have HEL := Lib.hid (encL_len s.data.toList ts 0)
      have HHS := Lib.hid hs
      have hel : (encL s.data.toList 0 ts).length * 32 ≤ 140737488355328 := by rw [HEL.out]; omega
      have HEB := Lib.hid hel
      rw [hnt] at HE HEL
      clear hnt hnd hln h h' hm hm' hx hv hel
      go_enter Tryz.func4, Tryz.ntmps4
      go_wp2_with fail
      refine HX0.out.mono ?_
      rintro e w1 ⟨rfl, hb1⟩
      have H1 := Lib.hid (HE.out w1 hb1)
      have HB1 := Lib.hid hb1
      clear hb1 HX0 HE
      go_wp2_with fail
      refine H1.out.mono ?_
      rintro e w2 ⟨EA, ec, rfl, heat, hb2⟩
      have HB2 := Lib.hid (HB1.out.trans (hb2.mono HB1.out.size))
      have hdc := dec_any s (encL s.data.toList 0 ts) EA ec w2 (Nw w1 w2) heat (fun b hb => hb.2) HEB.out HHS.out
      rw [HEL.out] at hdc
      have HDC := Lib.hid hdc
      clear hb2 heat H1 hdc
      go_wp2_with fail
      refine HDC.out.mono ?_
      rintro e w3 ⟨hp, hb3⟩
      have HB3 := Lib.hid (HB2.out.trans (hb3.mono HB2.out.size))
      rcases hp with ⟨hp1, _⟩ | ⟨ts2, TA, tc, hp1, rfl, htat⟩
      · rw [HDN.out] at hp1; cases hp1
      rw [HDN.out] at hp1
      injection hp1 with hp1
      subst hp1
      rw [HNT.out]
      have heq := eqTokens_any ts TA A tc c w3 (Lt w3) (htat.keep (fun b hb => hb.2) (fun _ _ => rfl)) (HT.out w3 HB3.out) (fun b hb => hb) HMT.out
      rw [HNT.out] at heq
      have HEQ := Lib.hid heq
      clear heq htat hb3 HDC
      go_wp2_with fail
      refine HEQ.out.mono ?_
      rintro e w4 ⟨rfl, hb4⟩
      have HB4 := Lib.hid (HB3.out.trans (hb4.mono HB3.out.size))
      clear hb4 HEQ
      have HD5 := Lib.hid (HDE.out w4 HB4.out)
      clear HDE
      go_wp2_with fail
      refine HD5.out.mono ?_
      rintro e w5 ⟨hp, hb5⟩
      have HB5 := Lib.hid (HB4.out.trans (hb5.mono HB4.out.size))
      have HB5' := Lib.hid hb5
      clear hb5 HD5
      rcases hp with ⟨hp1, rfl⟩ | ⟨ts2, TA, tc, hp1, rfl, htat⟩
      · have HX6 := Lib.hid (HX.out w5 HB5.out)
        clear hp1
        go_wp2_with fail
        refine HX6.out.mono ?_
        rintro e w6 ⟨rfl, hb6⟩
        have HB6 := Lib.hid (HB5.out.trans (hb6.mono HB5.out.size))
        clear hb6 HX6
        go_wp2_with fail
        go_ret
        exact ⟨rfl, HB6.out⟩
      · obtain ⟨hv2, he2⟩ := enc_dec0 s ds ts2 hp1
        have hen := enc_ok s ts2 TA tc w5 (Nw w4 w5) htat (fun b hb => hb.2) HHS.out hv2
        rw [he2] at hen
        have hl2 : ts2.length = nd := by rw [← HND.out, ← he2, encL_len]
        rw [hl2] at hen ⊢
        have HEN := Lib.hid hen
        clear hen hv2 he2 hp1 htat hl2
        go_wp2_with fail
        refine HEN.out.mono ?_
        rintro e w6 ⟨EA2, ec2, rfl, heat2, hb6⟩
        have HB6 := Lib.hid (HB5.out.trans (hb6.mono HB5.out.size))
        have HEA := Lib.hid heat2
        have HX7 := Lib.hid (HX.out w6 HB6.out)
        clear hb6 heat2 HEN
        go_wp2_with fail
        refine HX7.out.mono ?_
        rintro e w7 ⟨rfl, hb7⟩
        have HB7 := Lib.hid (HB6.out.trans (hb7.mono HB6.out.size))
        have heq2 := eqDeltas_any ds EA2 D ec2 d w7 (Lt w7) (HEA.out.keep (fun b hb => Nat.lt_of_lt_of_le hb.2 hb7.size) (fun b hb => hb7.block b hb.2)) (HDD.out w7 HB7.out) (fun b hb => hb) (by have := HMD.out; unfold maxLen; omega)
        rw [HND.out] at heq2
        have HEQ2 := Lib.hid heq2
        clear heq2 hb7 HX7
        go_wp2_with fail
        refine HEQ2.out.mono ?_
        rintro e w8 ⟨rfl, hb8⟩
        have HB8 := Lib.hid (HB7.out.trans (hb8.mono HB7.out.size))
        clear hb8 HEQ2
        go_wp2_with fail
        go_ret
        exact ⟨rfl, HB8.out⟩
    · rw [Bool.not_eq_true] at hv
      have HE := Lib.hid (fun w' (hb : Below w.heap.size w w') => enc_bad s ts A c w' (Lt w') (HT.out w' hb) (fun b hb => hb) hm hs hv)
      have HHS := Lib.hid hs
      rw [hnt] at HE
      clear hnt hnd h h' hm hm' hx hv
      go_enter Tryz.func4, Tryz.ntmps4
      go_wp2_with fail
      refine HX0.out.mono ?_
      rintro e w1 ⟨rfl, hb1⟩
      have H1 := Lib.hid (HE.out w1 hb1)
      have HB1 := Lib.hid hb1
      clear hb1 HX0 HE
      go_wp2_with fail
      refine H1.out.mono ?_
      rintro e w4 ⟨rfl, hb2⟩
      have HB4 := Lib.hid (HB1.out.trans (hb2.mono HB1.out.size))
      clear hb2 H1
      have HD5 := Lib.hid (HDE.out w4 HB4.out)
      clear HDE
      go_wp2_with fail
      refine HD5.out.mono ?_
      rintro e w5 ⟨hp, hb5⟩
      have HB5 := Lib.hid (HB4.out.trans (hb5.mono HB4.out.size))
      have HB5' := Lib.hid hb5
      clear hb5 HD5
      rcases hp with ⟨hp1, rfl⟩ | ⟨ts2, TA, tc, hp1, rfl, htat⟩
      · have HX6 := Lib.hid (HX.out w5 HB5.out)
        clear hp1
        go_wp2_with fail
        refine HX6.out.mono ?_
        rintro e w6 ⟨rfl, hb6⟩
        have HB6 := Lib.hid (HB5.out.trans (hb6.mono HB5.out.size))
        clear hb6 HX6
        go_wp2_with fail
        go_ret
        exact ⟨rfl, HB6.out⟩
      · obtain ⟨hv2, he2⟩ := enc_dec0 s ds ts2 hp1
        have hen := enc_ok s ts2 TA tc w5 (Nw w4 w5) htat (fun b hb => hb.2) HHS.out hv2
        rw [he2] at hen
        have hl2 : ts2.length = nd := by rw [← HND.out, ← he2, encL_len]
        rw [hl2] at hen ⊢
        have HEN := Lib.hid hen
        clear hen hv2 he2 hp1 htat hl2
        go_wp2_with fail
        refine HEN.out.mono ?_
        rintro e w6 ⟨EA2, ec2, rfl, heat2, hb6⟩
        have HB6 := Lib.hid (HB5.out.trans (hb6.mono HB5.out.size))
        have HEA := Lib.hid heat2
        have HX7 := Lib.hid (HX.out w6 HB6.out)
        clear hb6 heat2 HEN
        go_wp2_with fail
        refine HX7.out.mono ?_
        rintro e w7 ⟨rfl, hb7⟩
        have HB7 := Lib.hid (HB6.out.trans (hb7.mono HB6.out.size))
        have heq2 := eqDeltas_any ds EA2 D ec2 d w7 (Lt w7) (HEA.out.keep (fun b hb => Nat.lt_of_lt_of_le hb.2 hb7.size) (fun b hb => hb7.block b hb.2)) (HDD.out w7 HB7.out) (fun b hb => hb) (by have := HMD.out; unfold maxLen; omega)
        rw [HND.out] at heq2
        have HEQ2 := Lib.hid heq2
        clear heq2 hb7 HX7
        go_wp2_with fail
        refine HEQ2.out.mono ?_
        rintro e w8 ⟨rfl, hb8⟩
        have HB8 := Lib.hid (HB7.out.trans (hb8.mono HB7.out.size))
        clear hb8 HEQ2
        go_wp2_with fail
        go_ret
        exact ⟨rfl, HB8.out⟩
  · have hs2 : 2000 < s.size := by omega
    have HE := Lib.hid (fun w' => enc_big s (.slice A ts.length c) w' hs2)
    have HD := Lib.hid (fun w' => dec_big s (.slice D ds.length d) w' hs2)
    clear hs hs2 h h' hx
    generalize ts.length = nt at *
    generalize ds.length = nd at *
    go_enter Tryz.func4, Tryz.ntmps4
    go_wp2_with fail
    refine HX0.out.mono ?_
    rintro e w1 ⟨rfl, hb1⟩
    have HB1 := Lib.hid hb1
    clear hb1 HX0
    go_wp2_with fail
    refine (HE.out w1).mono ?_
    rintro e w2 ⟨rfl, hb2⟩
    have HB2 := Lib.hid (HB1.out.trans (hb2.mono HB1.out.size))
    clear hb2
    go_wp2_with fail
    refine (HD.out w2).mono ?_
    rintro e w3 ⟨rfl, hb3⟩
    have HB3 := Lib.hid (HB2.out.trans (hb3.mono HB2.out.size))
    have HX4 := Lib.hid (HX.out w3 HB3.out)
    clear hb3
    go_wp2_with fail
    refine HX4.out.mono ?_
    rintro e w4 ⟨rfl, hb4⟩
    have HB4 := Lib.hid (HB3.out.trans (hb4.mono HB3.out.size))
    clear hb4 HX4
    go_wp2_with fail
    go_ret
    exact ⟨rfl, HB4.out⟩
end Go.Proofs.YtpibenilagloaaaGreatDoor
