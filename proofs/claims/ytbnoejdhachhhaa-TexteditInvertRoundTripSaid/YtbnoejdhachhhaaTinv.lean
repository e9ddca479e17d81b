/-
  TexteditInvertRoundTrip answers true at every input. No condition.
-/
import Derived.Test.YtbnoejdhachhhaaLift
import Derived.Test.YtbnoejdhachhhaaTxEx
import Derived.Test.YtbnoejdhachhhaaPInv
namespace Go.Proofs.Ytbnoejdhachhhaa.tinv
open Go.ChangeShapes Go.WideShapes Go.ChangeAt Go.RowKit
open Go.ChangeMaps (open_string shut_string)
set_option linter.unusedVariables false

set_option maxHeartbeats 1000000 in
theorem walk (src : ByteArray) (A : Option Addr) (c : Nat) (es : List Ed) (w : World) (hsrc : src.size ≤ maxLen) (h : EdsAt w w.heap.size A es) (hm : es.length ≤ maxLen) (hs : Short es) (hc : es.length ≤ c) :
    Calls Try.prog 7 #[.string src, .slice A es.length c] w fun e w' => e = .returned (.bool true) ∧ Below w.heap.size w w' := by
  go_enter Try.func7, Try.ntmps7
  go_wp2_with fail
  refine (txEx _).mono ?_
  rintro e w1 ⟨rfl, b1⟩
  have h1 := (h.below b1).more b1.size
  go_wp2_with fail
  refine (apply_any _ _ _ _ _ h1 hm hs hsrc).mono ?_
  rintro e w2 ⟨rfl, hb2⟩
  have h2 := (h1.below hb2).more hb2.size
  have b2 := b1.trans (hb2.mono b1.size)
  go_wp2_with fail
  refine (inv_any _ _ _ _ _ h2 hm hs hsrc).mono ?_
  rintro e w3 ⟨A3, c3, rfl, i3, hb3⟩
  have h3 := (h2.below hb3).more hb3.size
  have b3 := b2.trans (hb3.mono b2.size)
  clear h h1 h2 hb2 hb3 b1 b2
  by_cases hv : valT src.size es = 0
  · obtain ⟨q1, q2, q3⟩ := inv_law hv
    have hv' : (valT src.size es != 0) = false := by simp [hv]
    have HV := Lib.hid hv
    have hI : (invE src es).length ≤ maxLen := by rw [invE, if_pos hv, invL_length]; exact hm
    have hS := invE_short' src es
    have hR : (applyB src es).size ≤ maxLen := by have := applyB_le src es; simp only [maxLen]; omega
    clear hv
    have HV2 := Lib.hid q1
    have HA := Lib.hid q2
    have HI := Lib.hid q3
    clear q1 q2 q3
    go_wp2_with fail
    refine (apply_any _ _ _ _ _ i3 hI hS hR).mono ?_
    rintro e w4 ⟨rfl, hb4⟩
    have h4 := (h3.below hb4).more hb4.size
    have i4 := (i3.below hb4).more hb4.size
    have b4 := b3.trans (hb4.mono b3.size)
    rw [HA.out, HV2.out]
    go_wp2_with fail
    refine (inv_any _ _ _ _ _ i4 hI hS hR).mono ?_
    rintro e w5 ⟨A5, c5, rfl, i5, hb5⟩
    have h5 := (h4.below hb5).more hb5.size
    have b5 := b4.trans (hb5.mono b4.size)
    rw [HI.out] at i5
    rw [HI.out, HV2.out]
    clear h3 i3 b3 hb4 h4 i4 b4 hb5
    go_wp2_with fail
    refine (txEx _).mono ?_
    rintro e w6 ⟨rfl, hb6⟩
    have h6 := (h5.below hb6).more hb6.size
    have i6 := (i5.below hb6).more hb6.size
    have b6 := b5.trans (hb6.mono b5.size)
    have hvz : (valT src.size es == 0) = true := by rw [HV.out]; rfl
    go_wp2_with fail
    refine (eqEds_any _ _ _ _ es es _ i6 h6 hm rfl).mono ?_
    rintro e w7 ⟨rfl, hb7⟩
    go_wp2_with fail
    go_ret
    exact ⟨rfl, b6.trans (hb7.mono b6.size)⟩
  · have hv' : (valT src.size es != 0) = true := by simp [hv]
    have q1 : invE src es = [] := by rw [invE, if_neg hv]
    have q2 : applyB src es = ⟨#[]⟩ := by rw [applyB, if_neg hv]
    rw [q1] at i3
    rw [q1, q2]
    clear hv
    go_wp2_with fail
    refine (txEx _).mono ?_
    rintro e w6 ⟨rfl, hb6⟩
    go_wp2_with fail
    go_ret
    exact ⟨rfl, b3.trans (hb6.mono b3.size)⟩


set_option maxRecDepth 100000 in
theorem lifted (os : Os) (started : os.Started) (H : Type) (enc : TypeId × Value → H) :
    ReturnsInHanded {} Try.checked os 7 .any (Rows.texteditInvertRoundTripSpec.pre6 enc Try.prog Try.f7 Rows.texteditInvertRoundTripRow.domain false) (Rows.texteditInvertRoundTripSpec.post enc Try.prog Try.f7 false true false false) := by
  refine returnsInHanded_of_change_sized (C := Try.checked) own started (by kernel_rfl) Try.func7
    (ChangeSpec.witness6 (enc := enc) (C := Try.checked) false ⟨#[], #[.string .empty, .slice none 0 0], []⟩ 8 (by kernel_rfl) (by kernel_rfl) (by kernel_rfl) (by kernel_rfl)) ?_
  intro W base args ds gs before hval0 hW hcnd hsz0 _
  have hval : ∀ (j : Nat) t v, Try.f7.params[j]? = some t → args[j]? = some v → Value.okWide Try.prog W .any base t v := hval0
  have hW' := hW
  obtain ⟨p, q, hA0, hV, rfl, hfz, hnd⟩ := hW
  have hA : DataW.TrodAll enc Try.prog W 0 (fun _ => true) true Try.f7.params.toList args.toList ds p := hA0
  rw [Try.params7] at hA hval
  obtain ⟨v0, vs0, d0, ds0, p0, q0, hargs, rfl, rfl, h0, r0⟩ := trodAll_cons hA
  obtain ⟨v1, vs1, d1, ds1, p1, q1, rfl, rfl, rfl, h1, r1⟩ := trodAll_cons r0
  obtain ⟨rfl, rfl, rfl⟩ := trodAll_nil r1
  obtain rfl : args = #[v0, v1] := by cases args; simp_all
  obtain ⟨rfl, rfl⟩ := trodVars_none hV
  have hsz : (DataW.weightsEach Try.prog [9, 22] [d0, d1]).all (fun x => decide (x ≤ reachBytes)) = true := hsz0
  simp only [DataW.weightsEach, List.all_append, Bool.and_eq_true] at hsz
  obtain ⟨a0, rfl, rfl, rfl, w0⟩ := open_string Try.underlying9 (hval 0 9 v0 rfl rfl) h0
  obtain ⟨A1, c1, es1, rfl, hE1, hm1, hF1, hc1⟩ := open_eds (hval 1 22 v1 rfl rfl) h1 hsz.2.1
  have lt1 : ∀ x ∈ p1, x.block < W.heap.size := by obtain ⟨m, hm⟩ := h1; exact DataW.trod_lt m _ _ _ hm
  clear hA0 hval0
  refine (walk a0 A1 c1 es1 W w0 hE1 hm1 (fun x hx => (hF1 x hx).2.2) hc1).mono fun e W' ⟨he, bel⟩ => ?_
  subst he
  exact ⟨_, rfl, _, _, _, [], _, [], hW', trodAll_mk1 (shut_bool Try.underlying4 _),
    (trodAll_cons_mk (shut_string Try.underlying9 w0) (trodAll_cons_mk (Below.trod laidOut (by kernel_rfl) (of_decide_eq_true (by kernel_rfl)) h1 bel lt1) trodAll_mk0)), rfl, bel.frame _, fun h => by cases h⟩

theorem over : Rows.texteditInvertRoundTripRow.holds Try.pinned (OpenSpec.ofChange Rows.texteditInvertRoundTripSpec) :=
  OpenClaim.holds_of_wide 7 Try.f7 rfl rfl rfl rfl rfl rfl rfl ⟨rfl, rfl, rfl, rfl, rfl⟩ rfl rfl rfl rfl rfl (by kernel_rfl) Try.func7 (by kernel_rfl)
    (of_decide_eq_true (by kernel_rfl)) (by unfold Func.isWrapper; first | (rw [if_pos (by decide +kernel)]; kernel_rfl) | (rw [if_neg (by decide +kernel)]; exact ⟨rfl, rfl⟩))
    (fun os started H enc _ => lifted os started H enc)

theorem proved : Rows.TexteditInvertRoundTripSaid := over
end Go.Proofs.Ytbnoejdhachhhaa.tinv
