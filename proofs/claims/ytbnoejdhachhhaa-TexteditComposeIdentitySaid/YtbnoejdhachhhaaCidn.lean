/-
  TexteditComposeIdentity answers true at every input. No condition.
-/
import Derived.Test.YtbnoejdhachhhaaLaws
import Derived.Test.YtbnoejdhachhhaaPIdn
namespace Go.Proofs.Ytbnoejdhachhhaa.cidn
open Go.ChangeShapes Go.WideShapes Go.ChangeAt Go.RowKit
open Go.ChangeMaps (open_string shut_string)
set_option linter.unusedVariables false

set_option maxHeartbeats 1000000 in
theorem walk (src : ByteArray) (A : Option Addr) (c : Nat) (es : List Ed) (w : World) (hsrc : src.size ≤ maxLen) (h : EdsAt w w.heap.size A es) (hm : es.length ≤ maxLen) (hs : Short es) (hc : es.length ≤ c) :
    Calls Try.prog 12 #[.string src, .slice A es.length c] w fun e w' => e = .returned (.bool true) ∧ Below w.heap.size w w' := by
  have n0 : ∀ u : World, EdsAt u u.heap.size none [] := fun u h => by simp at h
  have s0 : Short [] := fun x hx => by cases hx
  go_enter Try.func12, Try.ntmps12
  go_wp2_with fail
  refine (txEx _).mono ?_
  rintro e w1 ⟨rfl, b1⟩
  have h1 := (h.below b1).more b1.size
  go_wp2_with fail
  refine (comp_any src none A 0 c [] es _ (n0 _) h1 (by simp) hm s0 hs hsrc).mono ?_
  rintro e w2 ⟨A2, c2, rfl, i2, hb2⟩
  have h2 := (h1.below hb2).more hb2.size
  have b2 := b1.trans (hb2.mono b1.size)
  clear h h1 b1 hb2
  go_wp2_with fail
  refine (comp_any src A none c 0 es [] _ h2 (n0 _) hm (by simp) hs s0 hsrc).mono ?_
  rintro e w3 ⟨A3, c3, rfl, j3, hb3⟩
  have h3 := (h2.below hb3).more hb3.size
  have i3 := (i2.below hb3).more hb3.size
  have b3 := b2.trans (hb3.mono b2.size)
  clear h2 i2 b2 hb3
  go_wp2_with fail
  refine (apply_any _ _ _ _ _ h3 hm hs hsrc).mono ?_
  rintro e w4 ⟨rfl, hb4⟩
  have i4 := (i3.below hb4).more hb4.size
  have j4 := (j3.below hb4).more hb4.size
  have b4 := b3.trans (hb4.mono b3.size)
  clear h3 i3 j3 b3 hb4
  obtain ⟨m1, k1⟩ := compL_fits src [] es
  obtain ⟨m2, k2⟩ := compL_fits src es []
  by_cases hv : valT src.size es = 0
  · have hv' : (valT src.size es != 0) = false := by simp [hv]
    obtain ⟨q1, q2, q3, q4, q5⟩ := idn_ok hv
    rw [q3] at j4
    rw [q1, q2, q3]
    have Q4 := Lib.hid q4
    have Q5 := Lib.hid q5
    clear q1 q2 q3 q4 q5 hv
    go_wp2_with fail
    refine (apply_any _ _ _ _ _ i4 m1 k1 hsrc).mono ?_
    rintro e w5 ⟨rfl, hb5⟩
    have i5 := (i4.below hb5).more hb5.size
    have j5 := (j4.below hb5).more hb5.size
    have b5 := b4.trans (hb5.mono b4.size)
    rw [Q4.out, Q5.out]
    clear i4 j4 b4 hb5
    go_wp2_with fail
    refine (txEx _).mono ?_
    rintro e w6 ⟨rfl, hb6⟩
    have i6 := (i5.below hb6).more hb6.size
    have j6 := (j5.below hb6).more hb6.size
    have b6 := b5.trans (hb6.mono b5.size)
    go_wp2_with fail
    refine (eqEds_any _ _ _ _ _ _ _ i6 j6 m1 rfl).mono ?_
    rintro e w7 ⟨rfl, hb7⟩
    go_wp2_with fail
    go_ret
    exact ⟨rfl, b6.trans (hb7.mono b6.size)⟩
  · have hv' : (valT src.size es != 0) = true := by simp [hv]
    obtain ⟨q1, q2⟩ := idn_err hv
    rw [q2]
    have q3 : (compC src [] es != 0) = true := by simp [q1]
    clear hv q1 q2
    go_wp2_with fail
    refine (txEx _).mono ?_
    rintro e w6 ⟨rfl, hb6⟩
    go_wp2_with fail
    go_ret
    exact ⟨rfl, b4.trans (hb6.mono b4.size)⟩


set_option maxRecDepth 100000 in
theorem lifted (os : Os) (started : os.Started) (H : Type) (enc : TypeId × Value → H) :
    ReturnsInHanded {} Try.checked os 12 .any (Rows.texteditComposeIdentitySpec.pre6 enc Try.prog Try.f12 Rows.texteditComposeIdentityRow.domain false) (Rows.texteditComposeIdentitySpec.post enc Try.prog Try.f12 false true false false) := by
  refine returnsInHanded_of_change_sized (C := Try.checked) own started (by kernel_rfl) Try.func12
    (ChangeSpec.witness6 (enc := enc) (C := Try.checked) false ⟨#[], #[.string .empty, .slice none 0 0], []⟩ 8 (by kernel_rfl) (by kernel_rfl) (by kernel_rfl) (by kernel_rfl)) ?_
  intro W base args ds gs before hval0 hW hcnd hsz0 _
  have hval : ∀ (j : Nat) t v, Try.f12.params[j]? = some t → args[j]? = some v → Value.okWide Try.prog W .any base t v := hval0
  have hW' := hW
  obtain ⟨p, q, hA0, hV, rfl, hfz, hnd⟩ := hW
  have hA : DataW.TrodAll enc Try.prog W 0 (fun _ => true) true Try.f12.params.toList args.toList ds p := hA0
  rw [Try.params12] at hA hval
  obtain ⟨v0, vs0, d0, ds0, p0, q0, hargs, rfl, rfl, h0, r0⟩ := trodAll_cons hA
  obtain ⟨v1, vs1, d1, ds1, p1, q1, rfl, rfl, rfl, h1, r1⟩ := trodAll_cons r0
  obtain ⟨rfl, rfl, rfl⟩ := trodAll_nil r1
  obtain rfl : args = #[v0, v1] := by cases args; simp_all
  obtain ⟨rfl, rfl⟩ := trodVars_none hV
  have hsz : (DataW.weightsEach Try.prog [9, 22] [d0, d1]).all (fun x => decide (x ≤ reachBytes)) = true := hsz0
  simp only [DataW.weightsEach, List.all_append, Bool.and_eq_true] at hsz
  obtain ⟨a0, rfl, rfl, rfl, w0⟩ := open_string Try.underlying9 (hval 0 9 v0 rfl rfl) h0
  obtain ⟨A1, c1, es1, rfl, hE1, hm1, hF1, hc1⟩ := open_eds (hval 1 22 v1 rfl rfl) h1 hsz.2.1
  have lt1 : ∀ x ∈ p1, x.block < W.heap.size := by obtain ⟨m, hm⟩ := h1; exact DataW.trod_lt m _ _ _ hm
  clear hA0 hval0
  refine (walk a0 A1 c1 es1 W w0 hE1 hm1 (fun x hx => (hF1 x hx).2.2) hc1).mono fun e W' ⟨he, bel⟩ => ?_
  subst he
  exact ⟨_, rfl, _, _, _, [], _, [], hW', trodAll_mk1 (shut_bool Try.underlying4 _),
    (trodAll_cons_mk (shut_string Try.underlying9 w0) (trodAll_cons_mk (Below.trod laidOut (by kernel_rfl) (of_decide_eq_true (by kernel_rfl)) h1 bel lt1) trodAll_mk0)), rfl, bel.frame _, fun h => by cases h⟩

theorem over : Rows.texteditComposeIdentityRow.holds Try.pinned (OpenSpec.ofChange Rows.texteditComposeIdentitySpec) :=
  OpenClaim.holds_of_wide 12 Try.f12 rfl rfl rfl rfl rfl rfl rfl ⟨rfl, rfl, rfl, rfl, rfl⟩ rfl rfl rfl rfl rfl (by kernel_rfl) Try.func12 (by kernel_rfl)
    (of_decide_eq_true (by kernel_rfl)) (by unfold Func.isWrapper; first | (rw [if_pos (by decide +kernel)]; kernel_rfl) | (rw [if_neg (by decide +kernel)]; exact ⟨rfl, rfl⟩))
    (fun os started H enc _ => lifted os started H enc)

theorem proved : Rows.TexteditComposeIdentitySaid := over
end Go.Proofs.Ytbnoejdhachhhaa.cidn
