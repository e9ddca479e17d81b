/-
  FuzzyScoreOptimal answers true at every input. No condition.
-/
import Derived.Test.YtbnoejdhachhhabLft
import Derived.Test.YtbnoejdhachhhabAls
namespace Go.Proofs.Ytbnoejdhachhhab.fopt
open Go.ChangeShapes Go.WideShapes Go.ChangeAt Go.RowKit
open Go.ChangeMaps (open_string shut_string)
set_option linter.unusedVariables false

set_option maxRecDepth 100000 in
set_option maxHeartbeats 1000000 in
theorem walk (pat s : ByteArray) (A : Option Addr) (c : Nat) (other : List Int) (w : World) (hp : pat.size ≤ maxLen) (hs : s.size ≤ maxLen) (h : IntsAt w w.heap.size A other) (hm : other.length ≤ maxLen) (hb : ∀ x ∈ other, -9223372036854775808 ≤ x ∧ x ≤ 9223372036854775807) :
    Calls Try.prog 3 #[.string pat, .string s, .slice A other.length c] w fun e w' => e = .returned (.bool true) ∧ Below w.heap.size w w' := by
  have hsc := Lib.hid (fun u => score_any pat s u hp hs)
  have H := Lib.hid h
  have HB := Lib.hid hb
  have HM := Lib.hid hm
  have HP := Lib.hid hp
  have HS := Lib.hid hs
  obtain ⟨n, hn⟩ : ∃ n, other.length = n := ⟨_, rfl⟩
  have HN := Lib.hid hn
  rw [hn]
  clear h hb hm hp hs hn
  cases hsr : scoreL pat s with
  | none =>
    rw [hsr] at hsc
    clear hsr
    go_enter Try.func3, Try.ntmps3
    go_wp2_with fail
    refine (fex_any _).mono ?_
    rintro e w1 ⟨rfl, b1⟩
    have B1 := Lib.hid b1
    clear b1
    go_wp2_with fail
    refine (hsc.out _).mono ?_
    rintro e w2 ⟨b2, rfl⟩
    have B2 := Lib.hid (B1.out.trans (b2.mono B1.out.size))
    clear b2 B1
    go_wp2_with fail
    refine (fex_any _).mono ?_
    rintro e w3 ⟨rfl, b3⟩
    have B3 := Lib.hid (B2.out.trans (b3.mono B2.out.size))
    clear b3 B2
    go_wp2_with fail
    go_ret
    exact ⟨rfl, B3.out⟩
  | some ts =>
    obtain ⟨t, offs⟩ := ts
    obtain ⟨hv1, hv2⟩ := score_valid hsr
    have hsz : pat.size ≤ 30 ∧ s.size ≤ 30 := by
      unfold scoreL at hsr
      split at hsr
      · cases hsr
      · omega
    have hbest : Hid (∀ o, okG pat s 0 (-1) o → alG pat s 0 (-1) o ≤ t) := fun o ho => by
      obtain ⟨t2, o2, k1, k2⟩ := score_best hsz.1 hsz.2 ho
      rw [hsr] at k1
      injection k1 with k1
      injection k1 with k1 _
      rw [← k1] at k2
      exact k2
    rw [hsr] at hsc
    have HV := Lib.hid ((vB_iff pat s offs).2 hv1)
    have HOK := Lib.hid hv1
    have HAL := Lib.hid hv2
    have HL := Lib.hid (show offs.length ≤ maxLen by have := okG_len pat s offs 0 (-1) hv1; unfold maxLen; omega)
    have HOB : Hid (∀ x ∈ offs, -9223372036854775808 ≤ x ∧ x ≤ 9223372036854775807) := by
      have h1 := prev_ge pat s offs 0 (-1) (by omega) hv1
      have h2 : ∀ (r : List Int) (i : Nat) (prev : Int), okG pat s i prev r → ∀ x ∈ r, x < s.size := fun r => by
        induction r with
        | nil => intro i prev _ x hx; cases hx
        | cons k r ih =>
          intro i prev ⟨a1, a2, a3, a4, a5⟩ x hx
          rcases List.mem_cons.1 hx with rfl | hx
          · exact a3
          · exact ih (i + 1) k a5 x hx
      intro x hx
      have := h1 x hx
      have := h2 offs 0 (-1) hv1 x hx
      omega
    obtain ⟨hz1, hz2⟩ := hsz
    obtain ⟨L, hL⟩ : ∃ L, offs.length = L := ⟨_, rfl⟩
    have HLL := Lib.hid hL
    have ht : ((t : Int) != t) = false := by simp
    clear hsr hv1 hv2 hL
    go_enter Try.func3, Try.ntmps3
    go_wp2_with fail
    refine (fex_any _).mono ?_
    rintro e w1 ⟨rfl, b1⟩
    have B1 := Lib.hid b1
    have H1 := Lib.hid ((H.out.below b1).more b1.size)
    clear b1 H
    go_wp2_with fail
    refine (hsc.out _).mono ?_
    rintro e w2 ⟨b2, A2, c2, rfl, i2⟩
    have B2 := Lib.hid (B1.out.trans (b2.mono B1.out.size))
    have H2 := Lib.hid ((H1.out.below b2).more b2.size)
    have hval := Lib.hid (valid_any pat s A2 c2 offs w2 HP.out HS.out i2 HL.out HOB.out)
    have I2 := Lib.hid i2
    rw [HV.out] at hval
    clear b2 B1 H1 i2 hsc
    go_wp2_with fail
    refine hval.out.mono ?_
    rintro e w3 ⟨rfl, b3⟩
    have B3 := Lib.hid (B2.out.trans (b3.mono B2.out.size))
    have H3 := Lib.hid ((H2.out.below b3).more b3.size)
    have I3 := Lib.hid ((I2.out.below b3).more b3.size)
    have hals := Lib.hid (alscore_any pat s A2 c2 offs w3 hz1 HS.out I3.out HOK.out)
    rw [HAL.out] at hals
    clear b3 B2 H2 I2 hval
    go_wp2_with fail
    refine hals.out.mono ?_
    rintro e w4 ⟨rfl, b4⟩
    have B4 := Lib.hid (B3.out.trans (b4.mono B3.out.size))
    have H4 := Lib.hid ((H3.out.below b4).more b4.size)
    clear b4 B3 H3 I3 hals
    go_wp2_with fail
    refine (fex_any _).mono ?_
    rintro e w5 ⟨rfl, b5⟩
    have B5 := Lib.hid (B4.out.trans (b5.mono B4.out.size))
    have H5 := Lib.hid ((H4.out.below b5).more b5.size)
    have hval := Lib.hid (valid_any pat s A c other w5 HP.out HS.out H5.out HM.out HB.out)
    rw [HN.out] at hval
    clear b5 B4 H4
    go_wp2_with fail
    refine hval.out.mono ?_
    rintro e w6 ⟨rfl, b6⟩
    have B6 := Lib.hid (B5.out.trans (b6.mono B5.out.size))
    have H6 := Lib.hid ((H5.out.below b6).more b6.size)
    clear b6 B5 H5 hval
    cases hvo : vB pat s other
    · clear hvo
      go_wp2_with fail
      go_ret
      exact ⟨rfl, B6.out⟩
    · have hok := (vB_iff pat s other).1 hvo
      have hle := hbest.out other hok
      have hals := Lib.hid (alscore_any pat s A c other w6 hz1 HS.out H6.out hok)
      rw [HN.out] at hals
      generalize alG pat s 0 (-1) other = tt at *
      clear hvo hok
      go_wp2_with fail
      refine hals.out.mono ?_
      rintro e w7 ⟨rfl, b7⟩
      have B7 := Lib.hid (B6.out.trans (b7.mono B6.out.size))
      clear b7 B6 hals
      go_wp2_with fail
      go_ret
      exact ⟨by first | rfl | simp [hle], B7.out⟩

set_option maxRecDepth 100000 in
theorem lifted (os : Os) (started : os.Started) (H : Type) (enc : TypeId × Value → H) :
    ReturnsInHanded {} Try.checked os 3 .any (Rows.fuzzyScoreOptimalSpec.pre6 enc Try.prog Try.f3 Rows.fuzzyScoreOptimalRow.domain false) (Rows.fuzzyScoreOptimalSpec.post enc Try.prog Try.f3 false true false false) := by
  refine returnsInHanded_of_change_sized (C := Try.checked) own started (by kernel_rfl) Try.func3
    (ChangeSpec.witness6 (enc := enc) (C := Try.checked) false ⟨#[], #[.string .empty, .string .empty, .slice none 0 0], []⟩ 8 (by kernel_rfl) (by kernel_rfl) (by kernel_rfl) (by kernel_rfl)) ?_
  intro W base args ds gs before hval0 hW hcnd hsz0 _
  have hval : ∀ (j : Nat) t v, Try.f3.params[j]? = some t → args[j]? = some v → Value.okWide Try.prog W .any base t v := hval0
  have hW' := hW
  obtain ⟨p, q, hA0, hV, rfl, hfz, hnd⟩ := hW
  have hA : DataW.TrodAll enc Try.prog W 0 (fun _ => true) true Try.f3.params.toList args.toList ds p := hA0
  rw [Try.params3] at hA hval
  obtain ⟨v0, vs0, d0, ds0, p0, q0, hargs, rfl, rfl, h0, r0⟩ := trodAll_cons hA
  obtain ⟨v1, vs1, d1, ds1, p1, q1, rfl, rfl, rfl, h1, r1⟩ := trodAll_cons r0
  obtain ⟨v2, vs2, d2, ds2, p2, q2, rfl, rfl, rfl, h2, r2⟩ := trodAll_cons r1
  obtain ⟨rfl, rfl, rfl⟩ := trodAll_nil r2
  obtain rfl : args = #[v0, v1, v2] := by cases args; simp_all
  obtain ⟨rfl, rfl⟩ := trodVars_none hV
  have hsz : (DataW.weightsEach Try.prog [9, 9, 22] [d0, d1, d2]).all (fun x => decide (x ≤ reachBytes)) = true := hsz0
  simp only [DataW.weightsEach, List.all_append, Bool.and_eq_true] at hsz
  obtain ⟨a0, rfl, rfl, rfl, w0⟩ := open_string Try.underlying9 (hval 0 9 v0 rfl rfl) h0
  obtain ⟨a1, rfl, rfl, rfl, w1⟩ := open_string Try.underlying9 (hval 1 9 v1 rfl rfl) h1
  obtain ⟨A2, c2, es2, rfl, hE2, hm2, hF2⟩ := open_is (hval 2 22 v2 rfl rfl) h2
  have lt2 : ∀ x ∈ p2, x.block < W.heap.size := by obtain ⟨m, hm⟩ := h2; exact DataW.trod_lt m _ _ _ hm
  clear hA0 hval0
  refine (walk a0 a1 A2 c2 es2 W w0 w1 hE2 hm2 hF2).mono fun e W' ⟨he, bel⟩ => ?_
  subst he
  exact ⟨_, rfl, _, _, _, [], _, [], hW', trodAll_mk1 (shut_bool Try.underlying4 _),
    (trodAll_cons_mk (shut_string Try.underlying9 w0) (trodAll_cons_mk (shut_string Try.underlying9 w1) (trodAll_cons_mk (Below.trod laidOut (by kernel_rfl) (of_decide_eq_true (by kernel_rfl)) h2 bel lt2) trodAll_mk0))), rfl, bel.frame _, fun h => by cases h⟩

theorem over : Rows.fuzzyScoreOptimalRow.holds Try.pinned (OpenSpec.ofChange Rows.fuzzyScoreOptimalSpec) :=
  OpenClaim.holds_of_wide 3 Try.f3 rfl rfl rfl rfl rfl rfl rfl ⟨rfl, rfl, rfl, rfl, rfl⟩ rfl rfl rfl rfl rfl (by kernel_rfl) Try.func3 (by kernel_rfl)
    (of_decide_eq_true (by kernel_rfl)) (by unfold Func.isWrapper; first | (rw [if_pos (by decide +kernel)]; kernel_rfl) | (rw [if_neg (by decide +kernel)]; exact ⟨rfl, rfl⟩))
    (fun os started H enc _ => lifted os started H enc)

theorem proved : Rows.FuzzyScoreOptimalSaid := over
end Go.Proofs.Ytbnoejdhachhhab.fopt
