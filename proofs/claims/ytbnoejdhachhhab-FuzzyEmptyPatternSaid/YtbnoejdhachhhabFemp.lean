/-
  FuzzyEmptyPattern answers true at every input. No condition.
-/
import Derived.Test.YtbnoejdhachhhabLft
namespace Go.Proofs.Ytbnoejdhachhhab.femp
open Go.ChangeShapes Go.WideShapes Go.ChangeAt Go.RowKit
open Go.ChangeMaps (open_string shut_string)
set_option linter.unusedVariables false

theorem empty_score (s : ByteArray) : scoreL ⟨#[]⟩ s = if 30 < s.size then none else some (0, []) := by
  unfold scoreL
  have h1 : tab ⟨#[]⟩ s = [] := rfl
  rw [h1]
  by_cases h : 30 < s.size
  · rw [if_pos (.inr h), if_pos h]
  · rw [if_neg (fun q => q.elim (fun q => absurd q (by decide)) h), if_neg h]; rfl
def shortB (s : ByteArray) : Bool := decide (s.size ≤ 30)
theorem hit_short (names : List ByteArray) (i : Nat) (h : i < names.length) : hit ⟨#[]⟩ names i = shortB names[i] := by
  unfold hit shortB
  rw [List.getD_eq_getElem?_getD, List.getElem?_eq_getElem h, empty_score]
  simp only [Option.getD_some]
  by_cases h30 : 30 < names[i].size
  · rw [if_pos h30, decide_eq_false (by omega)]; rfl
  · rw [if_neg h30, decide_eq_true (by omega)]; rfl
theorem hits_count (names : List ByteArray) : ∀ k, k ≤ names.length → (hitsTo ⟨#[]⟩ names k).length = ((names.take k).filter shortB).length
  | 0, _ => rfl
  | k + 1, h => by
    have ih := hits_count names k (by omega)
    rw [take_snoc names k (by omega), List.filter_append, List.length_append, ← ih]
    have hh := hit_short names k (by omega)
    cases hs : shortB names[k]
    · rw [hitsTo_no _ _ _ (by rw [hh, hs])]; simp [hs]
    · rw [hitsTo_yes _ _ _ (by rw [hh, hs])]; simp [hs]
theorem score0 (s : ByteArray) : scoreOf ⟨#[]⟩ s = 0 := by
  unfold scoreOf
  rw [empty_score]
  by_cases h : 30 < s.size
  · rw [if_pos h]
  · rw [if_neg h]
theorem len_order (names : List ByteArray) (x y : Nat) (h : ¬ cmpN (scoresL ⟨#[]⟩ names) names y x < 0) : (names.getD x default).size ≤ (names.getD y default).size := by
  have h0 : ∀ i, (scoresL ⟨#[]⟩ names).getD i 0 = 0 := fun i => by
    unfold scoresL
    rw [List.getD_eq_getElem?_getD, List.getElem?_map]
    cases names[i]? with
    | none => rfl
    | some s => simp [score0]
  rcases Nat.lt_or_ge (names.getD y default).size (names.getD x default).size with hlt | hge
  · exfalso
    apply h
    unfold cmpN
    rw [orL3, h0, h0, if_pos (show cmpI 0 0 = 0 by decide)]
    have e : cmpI ((names.getD y default).size : Int) ((names.getD x default).size : Int) = -1 := by unfold cmpI; rw [if_pos (by omega)]
    rw [e, if_neg (by decide)]; decide
  · exact hge

set_option maxRecDepth 100000 in
set_option maxHeartbeats 1000000 in
theorem walk (A : Option Addr) (c : Nat) (names : List ByteArray) (w : World) (h : StrsAt w w.heap.size A names) (hm : names.length ≤ maxLen) (hz : ∀ x ∈ names, x.size ≤ maxLen) :
    Calls Try.prog 6 #[.slice A names.length c] w fun e w' => e = .returned (.bool true) ∧ Below w.heap.size w w' := by
  have HZ := Lib.hid hz
  have H := Lib.hid h
  clear h hz
  obtain ⟨n, hn⟩ : ∃ n, names.length = n := ⟨_, rfl⟩
  have HN := Lib.hid hn
  have HM := Lib.hid hm
  rw [hn] at hm ⊢
  clear hn
  go_enter Try.func6, Try.ntmps6
  go_wp2_with fail
  refine (fex_any _).mono ?_
  rintro e w1 ⟨rfl, b1⟩
  have B1 := Lib.hid b1
  have H1 := Lib.hid ((H.out.below b1).more b1.size)
  clear b1
  have hrank := Lib.hid (rank_any ⟨#[]⟩ names A c w1 (by decide) HZ.out HM.out H1.out)
  go_wp2_with fail
  rw [← HN.out]
  refine hrank.out.mono ?_
  rw [HN.out]
  rintro e w2 ⟨b2, h2⟩
  rw [HN.out] at h2
  have B2 := Lib.hid (B1.out.trans (b2.mono B1.out.size))
  have H2 := Lib.hid ((H1.out.below b2).more b2.size)
  clear b2 hrank B1 H1 H
  by_cases hbig : 200 < n
  · rw [if_pos hbig] at h2
    subst h2
    have hbigI : (200 : Int) < n := by omega
    go_wp2_with fail
    refine (fex_any _).mono ?_
    rintro e w3 ⟨rfl, b3⟩
    have B3 := Lib.hid (B2.out.trans (b3.mono B2.out.size))
    clear b3
    go_wp2_with fail
    go_ret
    exact ⟨by first | rfl | simp [hbig], B3.out⟩
  · rw [if_neg hbig] at h2
    obtain ⟨A2, c2, idx, rfl, i2, hperm, hsort⟩ := h2
    have I2 := Lib.hid i2
    have hn200 : n ≤ 200 := by omega
    have hcnt := hits_count names n (by have := HN.out; omega)
    have hil := hperm.length_eq
    rw [hcnt] at hil
    have HIL := Lib.hid hil
    have HP := Lib.hid hperm
    have HSR := Lib.hid hsort
    have hlen : idx.length ≤ 200 := by rw [hil]; exact Nat.le_trans (List.length_filter_le _ _) (by rw [List.length_take]; omega)
    clear hcnt hil hperm hsort i2 hbig
    go_wp2_with fail
    go_loopw [5, 6] (fun vs vi wr => ∃ k : Nat, k ≤ n ∧ vi = .int .i64 k ∧ vs = .int .i64 (((names.take k).filter shortB).length : Int) ∧ wr = w2) (fun _ vi _ => n - (intOf vi).toNat)
    case atStart => exact ⟨0, by omega, rfl, rfl, rfl⟩
    case round =>
      obtain ⟨k, hk, rfl, rfl, rfl⟩ := hrel
      have hle : ((names.take k).filter shortB).length ≤ k := Nat.le_trans (List.length_filter_le _ _) (by rw [List.length_take]; omega)
      by_cases hlt : k < n
      · have hkn : k < names.length := by have := HN.out; omega
        obtain ⟨bn, off, hA, hbn, hc⟩ := H2.out (by omega)
        have ck := hc k names[k] (List.getElem?_eq_getElem hkn)
        have hzk := HZ.out names[k] (List.getElem_mem hkn)
        have HT := Lib.hid (take_snoc names k hkn)
        subst hA
        clear hc
        unfold maxLen at hzk
        cases hs : shortB names[k]
        · have HK := Lib.hid (show ((names.take (k + 1)).filter shortB).length = ((names.take k).filter shortB).length by rw [HT.out, List.filter_append]; simp [hs])
          have hsz : (30 : Int) < names[k].size := by unfold shortB at hs; have := of_decide_eq_false hs; omega
          clear hs HT
          generalize names[k] = s at *
          generalize ((names.take k).filter shortB).length = m at *
          go_wp2_with fail
          go_roundw
          case rel => exact ⟨k + 1, by omega, by go_num, by rw [HK.out], by first | rfl | trivial⟩
          case measure => simp [intOf]; omega
        · have HK := Lib.hid (show ((names.take (k + 1)).filter shortB).length = ((names.take k).filter shortB).length + 1 by rw [HT.out, List.filter_append]; simp [hs])
          have hsz : (names[k].size : Int) ≤ 30 := by unfold shortB at hs; have := of_decide_eq_true hs; omega
          clear hs HT
          generalize names[k] = s at *
          generalize ((names.take k).filter shortB).length = m at *
          go_wp2_with fail
          go_roundw
          case rel => exact ⟨k + 1, by omega, by go_num, by rw [HK.out]; go_num, by first | rfl | trivial⟩
          case measure => simp [intOf]; omega
      · obtain rfl : k = n := by omega
        have HL : Hid (((names.take k).filter shortB).length = idx.length) := HIL.out.symm
        rw [HL.out]
        clear hle
        obtain ⟨L, hL⟩ : ∃ L, idx.length = L := ⟨_, rfl⟩
        have HLL := Lib.hid hL
        rw [hL] at hlen ⊢
        clear hL HL HIL
        go_wp2_with fail
        go_loopw [7] (fun vi w3 => ∃ j : Nat, 1 ≤ j ∧ j ≤ L + 1 ∧ vi = .int .i64 j ∧ Hid (Below w.heap.size w w3 ∧ IntsAt w3 w3.heap.size A2 (idx.map fun i : Nat => (i : Int)) ∧ StrsAt w3 w3.heap.size A names)) (fun vi _ => L + 1 - (intOf vi).toNat)
        case atStart => exact ⟨1, by omega, by omega, rfl, B2.out, I2.out, H2.out⟩
        case round =>
          obtain ⟨j, hj1, hj2, rfl, HY⟩ := hrel
          clear I2 H2 B2
          by_cases hjl : j < L
          · have hjlI : (j : Int) < L := by omega
            obtain ⟨m, hmj⟩ : ∃ m, m = j - 1 := ⟨_, rfl⟩
            have hli := HLL.out
            have hjx : j < idx.length := by omega
            have hmx : m < idx.length := by omega
            have hnk := HN.out
            have hy : idx[j] < k := hitsTo_lt _ _ _ _ (HP.out.mem_iff.1 (List.getElem_mem hjx))
            have hx : idx[m] < k := hitsTo_lt _ _ _ _ (HP.out.mem_iff.1 (List.getElem_mem hmx))
            have hord := (List.pairwise_iff_getElem.1 HSR.out) m j hmx hjx (by omega)
            have hlo := len_order names idx[m] idx[j] (by omega)
            obtain ⟨z1, z2, z3⟩ := HY.out
            obtain ⟨b2, o2, hA2, hb2, hc2⟩ := z2 (by rw [List.length_map]; omega)
            obtain ⟨bn, off, hA, hbn, hc⟩ := z3 (by omega)
            have k1 := hc2 j (idx[j] : Int) (by rw [List.getElem?_map, List.getElem?_eq_getElem hjx]; rfl)
            have k2 := hc2 m (idx[m] : Int) (by rw [List.getElem?_map, List.getElem?_eq_getElem hmx]; rfl)
            generalize idx[j] = y at *
            generalize idx[m] = x at *
            have k3 := hc y names[y] (List.getElem?_eq_getElem (by omega))
            have k4 := hc x names[x] (List.getElem?_eq_getElem (by omega))
            rw [List.getD_eq_getElem?_getD, List.getD_eq_getElem?_getD, List.getElem?_eq_getElem (show x < names.length by omega), List.getElem?_eq_getElem (show y < names.length by omega)] at hlo
            simp only [Option.getD_some] at hlo
            have zy := HZ.out names[y] (List.getElem_mem (by omega))
            have zx := HZ.out names[x] (List.getElem_mem (by omega))
            generalize names[y] = sy at *
            generalize names[x] = sx at *
            unfold maxLen at zy zx
            have hloI : (sx.size : Int) ≤ sy.size := by omega
            have i1 : (y : Int) < k := by omega
            have i2 : (x : Int) < k := by omega
            have i3 : (m : Int) < L := by omega
            have s1 : (j : Int) - 1 = (m : Int) := by omega
            have s2 : IntKind.i64.wrap ((j : Int) - 1) = (m : Int) := by rw [IntWalk.i64_in _ (by omega)]; exact s1
            have s3 : IntKind.i64.wrap (m : Int) = (m : Int) := by rw [IntWalk.i64_in _ (by omega)]
            subst hA2
            subst hA
            have HZ3 := Lib.hid (show Below w.heap.size w wr.drew ∧ IntsAt wr.drew wr.drew.heap.size (some ⟨b2, o2, none⟩) (idx.map fun i : Nat => (i : Int)) ∧ StrsAt wr.drew wr.drew.heap.size (some ⟨bn, off, none⟩) names from ⟨z1.drew, z2, z3⟩)
            clear hmj hli hjx hmx hnk hord z1 z2 z3 hc2 hc HY hlo
            go_wp2_with fail
            refine wp_region_still_lit (by kernel_rfl) (by kernel_rfl) ?_
            repeat still_step
            refine wpStill_nil ?_
            go_wp2_with fail
            go_roundw
            case rel => exact ⟨j + 1, by omega, by omega, by go_num, HZ3.out⟩
            case measure => simp [intOf]; omega
          · have hjlI : (L : Int) ≤ j := by omega
            go_wp2_with fail
            refine (fex_any _).mono ?_
            rintro e w4 ⟨rfl, b4⟩
            have B4 := Lib.hid (HY.out.1.trans (b4.mono HY.out.1.size))
            clear b4 HY
            go_wp2_with fail
            go_ret
            exact ⟨rfl, B4.out⟩

set_option maxRecDepth 100000 in
theorem lifted (os : Os) (started : os.Started) (H : Type) (enc : TypeId × Value → H) :
    ReturnsInHanded {} Try.checked os 6 .any (Rows.fuzzyEmptyPatternSpec.pre6 enc Try.prog Try.f6 Rows.fuzzyEmptyPatternRow.domain false) (Rows.fuzzyEmptyPatternSpec.post enc Try.prog Try.f6 false true false false) := by
  refine returnsInHanded_of_change_sized (C := Try.checked) own started (by kernel_rfl) Try.func6
    (ChangeSpec.witness6 (enc := enc) (C := Try.checked) false ⟨#[], #[.slice none 0 0], []⟩ 8 (by kernel_rfl) (by kernel_rfl) (by kernel_rfl) (by kernel_rfl)) ?_
  intro W base args ds gs before hval0 hW hcnd hsz0 _
  have hval : ∀ (j : Nat) t v, Try.f6.params[j]? = some t → args[j]? = some v → Value.okWide Try.prog W .any base t v := hval0
  have hW' := hW
  obtain ⟨p, q, hA0, hV, rfl, hfz, hnd⟩ := hW
  have hA : DataW.TrodAll enc Try.prog W 0 (fun _ => true) true Try.f6.params.toList args.toList ds p := hA0
  rw [Try.params6] at hA hval
  obtain ⟨v0, vs0, d0, ds0, p0, q0, hargs, rfl, rfl, h0, r0⟩ := trodAll_cons hA
  obtain ⟨rfl, rfl, rfl⟩ := trodAll_nil r0
  obtain rfl : args = #[v0] := by cases args; simp_all
  obtain ⟨rfl, rfl⟩ := trodVars_none hV
  have hsz : (DataW.weightsEach Try.prog [30] [d0]).all (fun x => decide (x ≤ reachBytes)) = true := hsz0
  simp only [DataW.weightsEach, List.all_append, Bool.and_eq_true] at hsz
  obtain ⟨A0, c0, es0, rfl, hE0, hm0, hF0⟩ := open_ss (hval 0 30 v0 rfl rfl) h0
  have lt0 : ∀ x ∈ p0, x.block < W.heap.size := by obtain ⟨m, hm⟩ := h0; exact DataW.trod_lt m _ _ _ hm
  clear hA0 hval0
  refine (walk A0 c0 es0 W hE0 hm0 hF0).mono fun e W' ⟨he, bel⟩ => ?_
  subst he
  exact ⟨_, rfl, _, _, _, [], _, [], hW', trodAll_mk1 (shut_bool Try.underlying4 _),
    (trodAll_cons_mk (Below.trod laidOut (by kernel_rfl) (of_decide_eq_true (by kernel_rfl)) h0 bel lt0) trodAll_mk0), rfl, bel.frame _, fun h => by cases h⟩

theorem over : Rows.fuzzyEmptyPatternRow.holds Try.pinned (OpenSpec.ofChange Rows.fuzzyEmptyPatternSpec) :=
  OpenClaim.holds_of_wide 6 Try.f6 rfl rfl rfl rfl rfl rfl rfl ⟨rfl, rfl, rfl, rfl, rfl⟩ rfl rfl rfl rfl rfl (by kernel_rfl) Try.func6 (by kernel_rfl)
    (of_decide_eq_true (by kernel_rfl)) (by unfold Func.isWrapper; first | (rw [if_pos (by decide +kernel)]; kernel_rfl) | (rw [if_neg (by decide +kernel)]; exact ⟨rfl, rfl⟩))
    (fun os started H enc _ => lifted os started H enc)

theorem proved : Rows.FuzzyEmptyPatternSaid := over
end Go.Proofs.Ytbnoejdhachhhab.femp
