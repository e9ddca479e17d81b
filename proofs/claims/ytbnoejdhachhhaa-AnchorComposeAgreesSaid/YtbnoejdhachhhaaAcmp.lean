/-
  AnchorComposeAgrees answers true at every input. No condition.
-/
import Derived.Test.YtbnoejdhachhhaaLaws
import Derived.Test.YtbnoejdhachhhaaPAnc
import Derived.Test.YtbnoejdhachhhaaAnEx
namespace Go.Proofs.Ytbnoejdhachhhaa.acmp
open Go.ChangeShapes Go.WideShapes Go.ChangeAt Go.RowKit
open Go.ChangeMaps (open_string shut_string)
set_option linter.unusedVariables false

set_option maxHeartbeats 2000000 in
theorem walk (src : ByteArray) (A : Option Addr) (ca : Nat) (a : List Ed) (B : Option Addr) (cb : Nat) (b : List Ed) (off : Int) (w : World) (hsrc : src.size ≤ maxLen)
    (ha : EdsAt w w.heap.size A a) (hm : a.length ≤ maxLen) (hs : Short a) (hc : a.length ≤ ca) (hb : EdsAt w w.heap.size B b) (hm' : b.length ≤ maxLen) (hs' : Short b) (hd : b.length ≤ cb) (_hoff : -9223372036854775808 ≤ off ∧ off ≤ 9223372036854775807) :
    Calls Try.prog 6 #[.string src, .slice A a.length ca, .slice B b.length cb, .int .i64 off] w fun e w' => e = .returned (.bool true) ∧ Below w.heap.size w w' := by
  go_enter Try.func6, Try.ntmps6
  go_wp2_with fail
  refine (anEx _).mono ?_
  rintro e w1 ⟨rfl, b1⟩
  have a1 := (ha.below b1).more b1.size
  have e1 := (hb.below b1).more b1.size
  go_wp2_with fail
  refine (comp_any _ _ _ _ _ _ _ _ a1 e1 hm hm' hs hs' hsrc).mono ?_
  rintro e w2 ⟨A2, c2, rfl, i2, hb2⟩
  have a2 := (a1.below hb2).more hb2.size
  have e2 := (e1.below hb2).more hb2.size
  have b2 := b1.trans (hb2.mono b1.size)
  clear ha hb a1 e1 b1 hb2
  go_wp2_with fail
  refine (map_any _ _ _ _ _ _ a2 hm).mono ?_
  rintro e w3 ⟨rfl, hb3⟩
  have a3 := (a2.below hb3).more hb3.size
  have e3 := (e2.below hb3).more hb3.size
  have i3 := (i2.below hb3).more hb3.size
  have b3 := b2.trans (hb3.mono b2.size)
  clear a2 e2 i2 b2 hb3
  obtain ⟨m1, n1⟩ := compL_fits src a b
  have HL := Lib.hid (fun p q r s t => anchor_comp_law (src := src) (a := a) (b := b) (off := off) p hs hs' n1 q r s t)
  have fin : ∀ u : World, Below w.heap.size w u → Calls Try.prog 13 #[] u fun e w' => e = .returned (.bool true) ∧ Below w.heap.size w w' := fun u hu => (anEx u).mono fun e w' ⟨he, hw⟩ => ⟨he, hu.trans (hw.mono hu.size)⟩
  by_cases g1 : compC src a b = 0
  · have k1 : (compC src a b != 0) = false := by simp [g1]
    by_cases g2 : mapE a off = 0
    · have k2 : (mapE a off != 0) = false := by simp [g2]
      by_cases g3 : off < src.size
      · have k3 : ((src.size : Int) ≤ off) = False := by simp; omega
        go_wp2_with fail
        refine (delB_any _ _ _ _ _ a3 hm).mono ?_
        rintro e w4 ⟨rfl, hb4⟩
        have e4 := (e3.below hb4).more hb4.size
        have i4 := (i3.below hb4).more hb4.size
        have b4 := b3.trans (hb4.mono b3.size)
        clear a3 e3 i3 b3 hb4
        cases hd1 : delB a off
        · go_wp2_with fail
          refine (delB_any _ _ _ _ _ e4 hm').mono ?_
          rintro e w5 ⟨rfl, hb5⟩
          have e5 := (e4.below hb5).more hb5.size
          have i5 := (i4.below hb5).more hb5.size
          have b5 := b4.trans (hb5.mono b4.size)
          clear e4 i4 b4 hb5
          cases hd2 : delB b (mapP a off true)
          · obtain ⟨q1, q2, q3⟩ := HL.out g1 g2 g3 hd1 hd2
            have Q1 := Lib.hid q1
            have Q2 := Lib.hid q2
            have Q3 := Lib.hid q3
            clear HL q1 q2 q3 g1 g2
            go_wp2_with fail
            refine (map_any _ _ _ _ _ _ e5 hm').mono ?_
            rintro e w6 ⟨rfl, hb6⟩
            have i6 := (i5.below hb6).more hb6.size
            have b6 := b5.trans (hb6.mono b5.size)
            rw [Q1.out, Q3.out]
            go_wp2_with fail
            refine (map_any _ _ _ _ _ _ i6 m1).mono ?_
            rintro e w7 ⟨rfl, hb7⟩
            have b7 := b6.trans (hb7.mono b6.size)
            rw [Q2.out]
            go_wp2_with fail
            refine (fin _ b7).mono ?_
            rintro e w8 ⟨rfl, b8⟩
            go_wp2_with fail
            go_ret
            exact ⟨rfl, b8⟩
          · clear HL g1 g2
            go_wp2_with fail
            refine (fin _ b5).mono ?_
            rintro e w8 ⟨rfl, b8⟩
            go_wp2_with fail
            go_ret
            exact ⟨rfl, b8⟩
        · clear HL g1 g2
          go_wp2_with fail
          refine (fin _ b4).mono ?_
          rintro e w8 ⟨rfl, b8⟩
          go_wp2_with fail
          go_ret
          exact ⟨rfl, b8⟩
      · clear HL g1 g2
        go_wp2_with fail
        refine (fin _ b3).mono ?_
        rintro e w8 ⟨rfl, b8⟩
        go_wp2_with fail
        go_ret
        exact ⟨rfl, b8⟩
    · have k2 : (mapE a off != 0) = true := by simp [g2]
      clear HL g1 g2
      go_wp2_with fail
      refine (fin _ b3).mono ?_
      rintro e w8 ⟨rfl, b8⟩
      go_wp2_with fail
      go_ret
      exact ⟨rfl, b8⟩
  · have k1 : (compC src a b != 0) = true := by simp [g1]
    clear HL g1
    go_wp2_with fail
    refine (fin _ b3).mono ?_
    rintro e w8 ⟨rfl, b8⟩
    go_wp2_with fail
    go_ret
    exact ⟨rfl, b8⟩


set_option maxRecDepth 100000 in
theorem lifted (os : Os) (started : os.Started) (H : Type) (enc : TypeId × Value → H) :
    ReturnsInHanded {} Try.checked os 6 .any (Rows.anchorComposeAgreesSpec.pre6 enc Try.prog Try.f6 Rows.anchorComposeAgreesRow.domain false) (Rows.anchorComposeAgreesSpec.post enc Try.prog Try.f6 false true false false) := by
  refine returnsInHanded_of_change_sized (C := Try.checked) own started (by kernel_rfl) Try.func6
    (ChangeSpec.witness6 (enc := enc) (C := Try.checked) false ⟨#[], #[.string .empty, .slice none 0 0, .slice none 0 0, .int .i64 0], []⟩ 8 (by kernel_rfl) (by kernel_rfl) (by kernel_rfl) (by kernel_rfl)) ?_
  intro W base args ds gs before hval0 hW hcnd hsz0 _
  have hval : ∀ (j : Nat) t v, Try.f6.params[j]? = some t → args[j]? = some v → Value.okWide Try.prog W .any base t v := hval0
  have hW' := hW
  obtain ⟨p, q, hA0, hV, rfl, hfz, hnd⟩ := hW
  have hA : DataW.TrodAll enc Try.prog W 0 (fun _ => true) true Try.f6.params.toList args.toList ds p := hA0
  rw [Try.params6] at hA hval
  obtain ⟨v0, vs0, d0, ds0, p0, q0, hargs, rfl, rfl, h0, r0⟩ := trodAll_cons hA
  obtain ⟨v1, vs1, d1, ds1, p1, q1, rfl, rfl, rfl, h1, r1⟩ := trodAll_cons r0
  obtain ⟨v2, vs2, d2, ds2, p2, q2, rfl, rfl, rfl, h2, r2⟩ := trodAll_cons r1
  obtain ⟨v3, vs3, d3, ds3, p3, q3, rfl, rfl, rfl, h3, r3⟩ := trodAll_cons r2
  obtain ⟨rfl, rfl, rfl⟩ := trodAll_nil r3
  obtain rfl : args = #[v0, v1, v2, v3] := by cases args; simp_all
  obtain ⟨rfl, rfl⟩ := trodVars_none hV
  have hsz : (DataW.weightsEach Try.prog [9, 22, 22, 3] [d0, d1, d2, d3]).all (fun x => decide (x ≤ reachBytes)) = true := hsz0
  simp only [DataW.weightsEach, List.all_append, Bool.and_eq_true] at hsz
  obtain ⟨a0, rfl, rfl, rfl, w0⟩ := open_string Try.underlying9 (hval 0 9 v0 rfl rfl) h0
  obtain ⟨A1, c1, es1, rfl, hE1, hm1, hF1, hc1⟩ := open_eds (hval 1 22 v1 rfl rfl) h1 hsz.2.1
  have lt1 : ∀ x ∈ p1, x.block < W.heap.size := by obtain ⟨m, hm⟩ := h1; exact DataW.trod_lt m _ _ _ hm
  obtain ⟨A2, c2, es2, rfl, hE2, hm2, hF2, hc2⟩ := open_eds (hval 2 22 v2 rfl rfl) h2 hsz.2.2.1
  have lt2 : ∀ x ∈ p2, x.block < W.heap.size := by obtain ⟨m, hm⟩ := h2; exact DataW.trod_lt m _ _ _ hm
  obtain ⟨a3, rfl, rfl, rfl, w3⟩ := open_int Try.underlying3 (hval 3 3 v3 rfl rfl) h3
  clear hA0 hval0
  refine (walk a0 A1 c1 es1 A2 c2 es2 a3 W w0 hE1 hm1 (fun x hx => (hF1 x hx).2.2) hc1 hE2 hm2 (fun x hx => (hF2 x hx).2.2) hc2 (wf_i64 w3)).mono fun e W' ⟨he, bel⟩ => ?_
  subst he
  exact ⟨_, rfl, _, _, _, [], _, [], hW', trodAll_mk1 (shut_bool Try.underlying4 _),
    (trodAll_cons_mk (shut_string Try.underlying9 w0) (trodAll_cons_mk (Below.trod laidOut (by kernel_rfl) (of_decide_eq_true (by kernel_rfl)) h1 bel lt1) (trodAll_cons_mk (Below.trod laidOut (by kernel_rfl) (of_decide_eq_true (by kernel_rfl)) h2 bel lt2) (trodAll_cons_mk (shut_int Try.underlying3 w3) trodAll_mk0)))), rfl, bel.frame _, fun h => by cases h⟩

theorem over : Rows.anchorComposeAgreesRow.holds Try.pinned (OpenSpec.ofChange Rows.anchorComposeAgreesSpec) :=
  OpenClaim.holds_of_wide 6 Try.f6 rfl rfl rfl rfl rfl rfl rfl ⟨rfl, rfl, rfl, rfl, rfl⟩ rfl rfl rfl rfl rfl (by kernel_rfl) Try.func6 (by kernel_rfl)
    (of_decide_eq_true (by kernel_rfl)) (by unfold Func.isWrapper; first | (rw [if_pos (by decide +kernel)]; kernel_rfl) | (rw [if_neg (by decide +kernel)]; exact ⟨rfl, rfl⟩))
    (fun os started H enc _ => lifted os started H enc)

theorem proved : Rows.AnchorComposeAgreesSaid := over
end Go.Proofs.Ytbnoejdhachhhaa.acmp
