/-
  FuzzySubstringMatches answers true at every input. No condition.
-/
import Derived.Test.YtbnoejdhachhhabLft
import Derived.Test.YtbnoejdhachhhabPfz
namespace Go.Proofs.Ytbnoejdhachhhab.fsub
open Go.ChangeShapes Go.WideShapes Go.ChangeAt Go.RowKit
open Go.ChangeMaps (open_string shut_string)
set_option linter.unusedVariables false

/-- the identity -/
def idI (m : Nat) (i : Nat) : List Int := (List.range (m - i)).map fun j => ((i + j : Nat) : Int)
theorem idI_cons (m i : Nat) (h : i < m) : idI m i = (i : Int) :: idI m (i + 1) := by
  unfold idI
  rw [show m - i = (m - (i + 1)) + 1 by omega, List.range_succ_eq_map, List.map_cons, List.map_map]
  congr 1
  apply List.map_congr_left
  intro j _
  simp only [Function.comp]
  omega
theorem idI_ok (s : ByteArray) : ∀ (m i : Nat) (prev : Int), s.size - i = m → i ≤ s.size → prev < i → okG s s i prev (idI s.size i)
  | 0, i, prev, h, hi, _ => by
    have : idI s.size i = [] := by unfold idI; rw [h]; rfl
    rw [this]; unfold okG; omega
  | m + 1, i, prev, h, hi, hp => by
    rw [idI_cons s.size i (by omega)]
    refine ⟨by omega, hp, by omega, by simp [foldB], idI_ok s m (i + 1) i (by omega) (by omega) (by omega)⟩
theorem ok_id (s : ByteArray) : ∀ (r : List Int) (i : Nat) (prev : Int), i ≤ s.size → (i : Int) ≤ prev + 1 → okG s s i prev r → r = idI s.size i
  | [], i, prev, hi, hp, h => by unfold okG at h; unfold idI; rw [h]; simp
  | k :: r, i, prev, hi, hp, ⟨h1, h2, h3, h4, h5⟩ => by
    have hr := ok_id s r (i + 1) k (by omega) (by omega) h5
    -- what follows leaves no room
    have hk : k ≤ i := by
      have hlen : ∀ (r : List Int) (i : Nat) (k : Int), okG s s i k r → (s.size : Int) - i ≤ s.size - 1 - k ∨ r = [] := fun r => by
        induction r with
        | nil => intro i k _; exact .inr rfl
        | cons x r ih =>
          intro i k ⟨a1, a2, a3, a4, a5⟩
          rcases ih (i + 1) x a5 with h | h
          · exact .inl (by omega)
          · subst h
            unfold okG at a5
            exact .inl (by omega)
      rcases hlen r (i + 1) k h5 with h | h
      · omega
      · subst h
        unfold okG at h5
        omega
    rw [idI_cons s.size i h1, hr]
    congr 1
    omega
/-- a part of the name, where it stands -/
theorem sub_ok (s : ByteArray) (a b : Nat) (hab : a ≤ b) (hb : b ≤ s.size) : ∀ (m i : Nat) (prev : Int), b - a - i = m → i ≤ b - a → prev < ((a + i : Nat) : Int) → okG (s.extract a b) s i prev ((List.range (b - a - i)).map fun j => ((a + i + j : Nat) : Int))
  | 0, i, prev, h, hi, _ => by
    rw [h]
    unfold okG
    simp [ByteArray.size_extract]
    omega
  | m + 1, i, prev, h, hi, hp => by
    have ih := sub_ok s a b hab hb m (i + 1) ((a + i : Nat) : Int) (by omega) (by omega) (by omega)
    rw [show b - a - i = (b - a - (i + 1)) + 1 by omega, List.range_succ_eq_map, List.map_cons, List.map_map]
    have hsz : (s.extract a b).size = b - a := by rw [ByteArray.size_extract]; omega
    refine ⟨by rw [hsz]; omega, by simpa using hp, by simp; omega, ?_, ?_⟩
    · have e : (s.extract a b).data.toList.getD i 0 = s.data.toList.getD (a + i) 0 := by
        rw [List.getD_eq_getElem?_getD, List.getD_eq_getElem?_getD]
        congr 1
        rw [ByteArray.data_extract, Array.toList_extract, List.extract_eq_take_drop, List.getElem?_take, List.getElem?_drop, if_pos (by omega)]
      have e2 : (((a + i + 0 : Nat) : Int)).toNat = a + i := by omega
      show foldB _ (s.data.toList.getD (((a + i + 0 : Nat) : Int)).toNat 0) = true
      rw [e, e2]
      simp [foldB]
    · refine Eq.mp ?_ ih
      congr 1
      apply List.map_congr_left
      intro j _
      simp only [Function.comp]
      omega

set_option maxRecDepth 100000 in
set_option maxHeartbeats 1000000 in
theorem walk (s : ByteArray) (a b : Int) (w : World) (hs : s.size ≤ maxLen) (ha : -9223372036854775808 ≤ a ∧ a ≤ 9223372036854775807) (hb : -9223372036854775808 ≤ b ∧ b ≤ 9223372036854775807) :
    Calls Try.prog 4 #[.string s, .int .i64 a, .int .i64 b] w fun e w' => e = .returned (.bool true) ∧ Below w.heap.size w w' := by
  have hsc := Lib.hid (fun u => score_any s s u hs hs)
  obtain ⟨ha1, ha2⟩ := ha
  obtain ⟨hb1, hb2⟩ := hb
  by_cases hbig : 30 < s.size
  · have hbI : (30 : Int) < s.size := by omega
    rw [show scoreL s s = none from if_pos (.inl hbig)] at hsc
    unfold maxLen at hs
    go_enter Try.func4, Try.ntmps4
    go_wp2_with fail
    refine (fex_any _).mono ?_
    rintro e w1 ⟨rfl, b1⟩
    have B1 := Lib.hid b1
    clear b1
    go_wp2_with fail
    refine (hsc.out _).mono ?_
    rintro e w2 ⟨b2, rfl⟩
    have B2 := Lib.hid (B1.out.trans (b2.mono B1.out.size))
    clear b2 B1
    go_wp2_with fail
    refine (fex_any _).mono ?_
    rintro e w3 ⟨rfl, b3⟩
    have B3 := Lib.hid (B2.out.trans (b3.mono B2.out.size))
    clear b3 B2
    go_wp2_with fail
    go_ret
    exact ⟨rfl, B3.out⟩
  · have hbI : (s.size : Int) ≤ 30 := by omega
    obtain ⟨t, offs, k1, k2⟩ := score_best (pat := s) (s := s) (by omega) (by omega) (idI_ok s s.size 0 (-1) (by omega) (by omega) (by omega))
    have hv := score_valid k1
    have hoffs := ok_id s offs 0 (-1) (by omega) (by omega) hv.1
    rw [k1] at hsc
    have hl : offs.length = s.size := by rw [hoffs]; simp [idI]
    have hat : ∀ j, j < s.size → offs[j]? = some (j : Int) := fun j hj => by rw [hoffs]; simp [idI, hj]
    have HL := Lib.hid hl
    have HAT := Lib.hid hat
    clear hl hat hoffs hv k1 k2
    have HSUB : Hid (¬ (a < 0 ∨ b < a ∨ (s.size : Int) < b) → ∃ t offs, scoreL (s.extract a.toNat b.toNat) s = some (t, offs)) := by
      intro h
      obtain ⟨t, offs, k1, _⟩ := score_best (pat := s.extract a.toNat b.toNat) (s := s) (by rw [ByteArray.size_extract]; omega) (by omega) (sub_ok s a.toNat b.toNat (by omega) (by omega) _ 0 (-1) rfl (by omega) (by omega))
      exact ⟨t, offs, k1⟩
    have HSZ := Lib.hid (show (s.extract a.toNat b.toNat).size ≤ maxLen by rw [ByteArray.size_extract]; unfold maxLen at hs ⊢; omega)
    have HS := Lib.hid hs
    unfold maxLen at hs
    go_enter Try.func4, Try.ntmps4
    go_wp2_with fail
    refine (fex_any _).mono ?_
    rintro e w1 ⟨rfl, b1⟩
    have B1 := Lib.hid b1
    clear b1
    go_wp2_with fail
    refine (hsc.out _).mono ?_
    rintro e w2 ⟨b2, A2, c2, rfl, i2⟩
    have I2 := Lib.hid i2
    have B2 := Lib.hid (B1.out.trans (b2.mono B1.out.size))
    rw [HL.out]
    clear b2 B1 i2
    go_wp2_with fail
    go_loopw [10] (fun vi wr => ∃ j : Nat, j ≤ s.size ∧ vi = .int .i64 j ∧ wr = w2) (fun vi _ => s.size - (intOf vi).toNat)
    case atStart => exact ⟨0, by omega, rfl, rfl⟩
    case round =>
      obtain ⟨j, hj, rfl, rfl⟩ := hrel
      by_cases hjl : j < s.size
      · obtain ⟨bb, off, hA, hbb, hc⟩ := I2.out (by rw [HL.out]; omega)
        have c1 := hc j (j : Int) (HAT.out j hjl)
        subst hA
        clear hc
        go_wp2_with fail
        go_roundw
        case rel => exact ⟨j + 1, by omega, by go_num, by first | rfl | trivial⟩
        case measure => simp [intOf]; omega
      · by_cases q1 : a < 0
        · go_wp2_with fail
          refine (fex_any _).mono ?_
          rintro e w4 ⟨rfl, b4⟩
          have B4 := Lib.hid (B2.out.trans (b4.mono B2.out.size))
          clear b4 B2
          go_wp2_with fail
          go_ret
          exact ⟨rfl, B4.out⟩
        · have d1 : decide (a < 0) = false := decide_eq_false q1
          have d1' : 0 ≤ a := by omega
          by_cases q2 : b < a
          · go_wp2_with fail
            refine (fex_any _).mono ?_
            rintro e w4 ⟨rfl, b4⟩
            have B4 := Lib.hid (B2.out.trans (b4.mono B2.out.size))
            clear b4 B2
            go_wp2_with fail
            go_ret
            exact ⟨rfl, B4.out⟩
          · have d2 : decide (b < a) = false := decide_eq_false q2
            have d2' : a ≤ b := by omega
            by_cases q3 : (s.size : Int) < b
            · go_wp2_with fail
              refine (fex_any _).mono ?_
              rintro e w4 ⟨rfl, b4⟩
              have B4 := Lib.hid (B2.out.trans (b4.mono B2.out.size))
              clear b4 B2
              go_wp2_with fail
              go_ret
              exact ⟨rfl, B4.out⟩
            · have d3 : decide ((s.size : Int) < b) = false := decide_eq_false q3
              have d3' : b ≤ s.size := by omega
              obtain ⟨t2, offs2, k1⟩ := HSUB.out (by omega)
              have hsc2 := Lib.hid (fun u => score_any (s.extract a.toNat b.toNat) s u HSZ.out HS.out)
              rw [k1] at hsc2
              clear k1 HSUB
              go_wp2_with fail
              refine (hsc2.out _).mono ?_
              rintro e w3 ⟨b3, A3, c3, rfl, _⟩
              have B3 := Lib.hid (B2.out.trans (b3.mono B2.out.size))
              clear b3 B2
              go_wp2_with fail
              refine (fex_any _).mono ?_
              rintro e w4 ⟨rfl, b4⟩
              have B4 := Lib.hid (B3.out.trans (b4.mono B3.out.size))
              clear b4 B3
              go_wp2_with fail
              go_ret
              exact ⟨rfl, B4.out⟩

set_option maxRecDepth 100000 in
theorem lifted (os : Os) (started : os.Started) (H : Type) (enc : TypeId × Value → H) :
    ReturnsInHanded {} Try.checked os 4 .any (Rows.fuzzySubstringMatchesSpec.pre6 enc Try.prog Try.f4 Rows.fuzzySubstringMatchesRow.domain false) (Rows.fuzzySubstringMatchesSpec.post enc Try.prog Try.f4 false true false false) := by
  refine returnsInHanded_of_change_sized (C := Try.checked) own started (by kernel_rfl) Try.func4
    (ChangeSpec.witness6 (enc := enc) (C := Try.checked) false ⟨#[], #[.string .empty, .int .i64 0, .int .i64 0], []⟩ 8 (by kernel_rfl) (by kernel_rfl) (by kernel_rfl) (by kernel_rfl)) ?_
  intro W base args ds gs before hval0 hW hcnd hsz0 _
  have hval : ∀ (j : Nat) t v, Try.f4.params[j]? = some t → args[j]? = some v → Value.okWide Try.prog W .any base t v := hval0
  have hW' := hW
  obtain ⟨p, q, hA0, hV, rfl, hfz, hnd⟩ := hW
  have hA : DataW.TrodAll enc Try.prog W 0 (fun _ => true) true Try.f4.params.toList args.toList ds p := hA0
  rw [Try.params4] at hA hval
  obtain ⟨v0, vs0, d0, ds0, p0, q0, hargs, rfl, rfl, h0, r0⟩ := trodAll_cons hA
  obtain ⟨v1, vs1, d1, ds1, p1, q1, rfl, rfl, rfl, h1, r1⟩ := trodAll_cons r0
  obtain ⟨v2, vs2, d2, ds2, p2, q2, rfl, rfl, rfl, h2, r2⟩ := trodAll_cons r1
  obtain ⟨rfl, rfl, rfl⟩ := trodAll_nil r2
  obtain rfl : args = #[v0, v1, v2] := by cases args; simp_all
  obtain ⟨rfl, rfl⟩ := trodVars_none hV
  have hsz : (DataW.weightsEach Try.prog [9, 3, 3] [d0, d1, d2]).all (fun x => decide (x ≤ reachBytes)) = true := hsz0
  simp only [DataW.weightsEach, List.all_append, Bool.and_eq_true] at hsz
  obtain ⟨a0, rfl, rfl, rfl, w0⟩ := open_string Try.underlying9 (hval 0 9 v0 rfl rfl) h0
  obtain ⟨a1, rfl, rfl, rfl, w1⟩ := open_int Try.underlying3 (hval 1 3 v1 rfl rfl) h1
  obtain ⟨a2, rfl, rfl, rfl, w2⟩ := open_int Try.underlying3 (hval 2 3 v2 rfl rfl) h2
  clear hA0 hval0
  refine (walk a0 a1 a2 W w0 (wf_i64 w1) (wf_i64 w2)).mono fun e W' ⟨he, bel⟩ => ?_
  subst he
  exact ⟨_, rfl, _, _, _, [], _, [], hW', trodAll_mk1 (shut_bool Try.underlying4 _),
    (trodAll_cons_mk (shut_string Try.underlying9 w0) (trodAll_cons_mk (shut_int Try.underlying3 w1) (trodAll_cons_mk (shut_int Try.underlying3 w2) trodAll_mk0))), rfl, bel.frame _, fun h => by cases h⟩

theorem over : Rows.fuzzySubstringMatchesRow.holds Try.pinned (OpenSpec.ofChange Rows.fuzzySubstringMatchesSpec) :=
  OpenClaim.holds_of_wide 4 Try.f4 rfl rfl rfl rfl rfl rfl rfl ⟨rfl, rfl, rfl, rfl, rfl⟩ rfl rfl rfl rfl rfl (by kernel_rfl) Try.func4 (by kernel_rfl)
    (of_decide_eq_true (by kernel_rfl)) (by unfold Func.isWrapper; first | (rw [if_pos (by decide +kernel)]; kernel_rfl) | (rw [if_neg (by decide +kernel)]; exact ⟨rfl, rfl⟩))
    (fun os started H enc _ => lifted os started H enc)

theorem proved : Rows.FuzzySubstringMatchesSaid := over
end Go.Proofs.Ytbnoejdhachhhab.fsub
