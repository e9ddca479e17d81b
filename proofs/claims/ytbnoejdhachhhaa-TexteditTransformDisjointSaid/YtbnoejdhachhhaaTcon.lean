/-
  TexteditTransformConverges answers true at every input. No condition.
-/
import Derived.Test.YtbnoejdhachhhaaPTrg
namespace Go.Proofs.Ytbnoejdhachhhaa.tcon
open Go.ChangeShapes Go.WideShapes Go.ChangeAt Go.RowKit
open Go.ChangeMaps (open_string shut_string)
set_option linter.unusedVariables false

theorem trf_fits (src : ByteArray) (a b : List Ed) : ((trfL src a b).length ≤ maxLen ∧ Short (trfL src a b)) ∧ ((trfR src a b).length ≤ maxLen ∧ Short (trfR src a b)) := by
  by_cases h : trfC src a b = 0
  · obtain ⟨_, _, h3, h4, _⟩ := trf_law h
    exact ⟨⟨len_of_val h4, short_of_val h4⟩, ⟨len_of_val h3, short_of_val h3⟩⟩
  · rw [trfL, if_neg h, trfR, if_neg h]; exact ⟨⟨by simp, fun x hx => by cases hx⟩, ⟨by simp, fun x hx => by cases hx⟩⟩

set_option maxHeartbeats 1000000 in
theorem walk (src : ByteArray) (A : Option Addr) (c : Nat) (a : List Ed) (D : Option Addr) (d : Nat) (b : List Ed) (w : World) (hsrc : src.size ≤ maxLen)
    (ha : EdsAt w w.heap.size A a) (hm : a.length ≤ maxLen) (hs : Short a) (hc : a.length ≤ c) (hb : EdsAt w w.heap.size D b) (hm' : b.length ≤ maxLen) (hs' : Short b) (hd : b.length ≤ d) :
    Calls Try.prog 10 #[.string src, .slice A a.length c, .slice D b.length d] w fun e w' => e = .returned (.bool true) ∧ Below w.heap.size w w' := by
  go_enter Try.func10, Try.ntmps10
  go_wp2_with fail
  refine (txEx _).mono ?_
  rintro e w1 ⟨rfl, b1⟩
  have a1 := (ha.below b1).more b1.size
  have d1 := (hb.below b1).more b1.size
  go_wp2_with fail
  refine (trf_any _ _ _ _ _ _ _ _ a1 d1 hc hd hm hm' hs hs' hsrc).mono ?_
  rintro e w2 ⟨A2, c2, D2, d2', rfl, i2, j2, hb2⟩
  have a2 := (a1.below hb2).more hb2.size
  have d2 := (d1.below hb2).more hb2.size
  have b2 := b1.trans (hb2.mono b1.size)
  clear ha hb a1 d1 b1 hb2
  by_cases hv : trfC src a b = 0
  · have hv' : (trfC src a b != 0) = false := by simp [hv]
    obtain ⟨q1, q2, q3, q4, _, q5⟩ := trf_law hv
    have Q1 := Lib.hid q1
    have Q2 := Lib.hid q2
    have Q3 := Lib.hid q3
    have Q4 := Lib.hid q4
    have Q5 := Lib.hid q5
    obtain ⟨⟨m1, n1⟩, ⟨m2, n2⟩⟩ := trf_fits src a b
    have hR := applyB_max src a
    have hR' := applyB_max src b
    clear hv q1 q2 q3 q4 q5
    go_wp2_with fail
    refine (apply_any _ _ _ _ _ a2 hm hs hsrc).mono ?_
    rintro e w3 ⟨rfl, hb3⟩
    have d3 := (d2.below hb3).more hb3.size
    have i3 := (i2.below hb3).more hb3.size
    have j3 := (j2.below hb3).more hb3.size
    have b3 := b2.trans (hb3.mono b2.size)
    rw [Q1.out]
    clear a2 d2 i2 j2 b2 hb3
    go_wp2_with fail
    refine (apply_any _ _ _ _ _ d3 hm' hs' hsrc).mono ?_
    rintro e w4 ⟨rfl, hb4⟩
    have i4 := (i3.below hb4).more hb4.size
    have j4 := (j3.below hb4).more hb4.size
    have b4 := b3.trans (hb4.mono b3.size)
    rw [Q2.out]
    clear d3 i3 j3 b3 hb4
    go_wp2_with fail
    refine (apply_any _ _ _ _ _ j4 m2 n2 hR).mono ?_
    rintro e w5 ⟨rfl, hb5⟩
    have i5 := (i4.below hb5).more hb5.size
    have b5 := b4.trans (hb5.mono b4.size)
    rw [Q3.out]
    clear i4 j4 b4 hb5
    go_wp2_with fail
    refine (apply_any _ _ _ _ _ i5 m1 n1 hR').mono ?_
    rintro e w6 ⟨rfl, hb6⟩
    have b6 := b5.trans (hb6.mono b5.size)
    rw [Q4.out, Q5.out]
    go_wp2_with fail
    refine (txEx _).mono ?_
    rintro e w7 ⟨rfl, hb7⟩
    go_wp2_with fail
    go_ret
    exact ⟨rfl, b6.trans (hb7.mono b6.size)⟩
  · have hv' : (trfC src a b != 0) = true := by simp [hv]
    have q1 : trfL src a b = [] := by rw [trfL, if_neg hv]
    have q2 : trfR src a b = [] := by rw [trfR, if_neg hv]
    rw [q1] at i2
    rw [q2] at j2
    rw [q1, q2]
    clear hv
    go_wp2_with fail
    refine (txEx _).mono ?_
    rintro e w6 ⟨rfl, hb6⟩
    go_wp2_with fail
    go_ret
    exact ⟨rfl, b2.trans (hb6.mono b2.size)⟩


set_option maxRecDepth 100000 in
theorem lifted (os : Os) (started : os.Started) (H : Type) (enc : TypeId × Value → H) :
    ReturnsInHanded {} Try.checked os 10 .any (Rows.texteditTransformConvergesSpec.pre6 enc Try.prog Try.f10 Rows.texteditTransformConvergesRow.domain false) (Rows.texteditTransformConvergesSpec.post enc Try.prog Try.f10 false true false false) := by
  refine returnsInHanded_of_change_sized (C := Try.checked) own started (by kernel_rfl) Try.func10
    (ChangeSpec.witness6 (enc := enc) (C := Try.checked) false ⟨#[], #[.string .empty, .slice none 0 0, .slice none 0 0], []⟩ 8 (by kernel_rfl) (by kernel_rfl) (by kernel_rfl) (by kernel_rfl)) ?_
  intro W base args ds gs before hval0 hW hcnd hsz0 _
  have hval : ∀ (j : Nat) t v, Try.f10.params[j]? = some t → args[j]? = some v → Value.okWide Try.prog W .any base t v := hval0
  have hW' := hW
  obtain ⟨p, q, hA0, hV, rfl, hfz, hnd⟩ := hW
  have hA : DataW.TrodAll enc Try.prog W 0 (fun _ => true) true Try.f10.params.toList args.toList ds p := hA0
  rw [Try.params10] at hA hval
  obtain ⟨v0, vs0, d0, ds0, p0, q0, hargs, rfl, rfl, h0, r0⟩ := trodAll_cons hA
  obtain ⟨v1, vs1, d1, ds1, p1, q1, rfl, rfl, rfl, h1, r1⟩ := trodAll_cons r0
  obtain ⟨v2, vs2, d2, ds2, p2, q2, rfl, rfl, rfl, h2, r2⟩ := trodAll_cons r1
  obtain ⟨rfl, rfl, rfl⟩ := trodAll_nil r2
  obtain rfl : args = #[v0, v1, v2] := by cases args; simp_all
  obtain ⟨rfl, rfl⟩ := trodVars_none hV
  have hsz : (DataW.weightsEach Try.prog [9, 22, 22] [d0, d1, d2]).all (fun x => decide (x ≤ reachBytes)) = true := hsz0
  simp only [DataW.weightsEach, List.all_append, Bool.and_eq_true] at hsz
  obtain ⟨a0, rfl, rfl, rfl, w0⟩ := open_string Try.underlying9 (hval 0 9 v0 rfl rfl) h0
  obtain ⟨A1, c1, es1, rfl, hE1, hm1, hF1, hc1⟩ := open_eds (hval 1 22 v1 rfl rfl) h1 hsz.2.1
  have lt1 : ∀ x ∈ p1, x.block < W.heap.size := by obtain ⟨m, hm⟩ := h1; exact DataW.trod_lt m _ _ _ hm
  obtain ⟨A2, c2, es2, rfl, hE2, hm2, hF2, hc2⟩ := open_eds (hval 2 22 v2 rfl rfl) h2 hsz.2.2.1
  have lt2 : ∀ x ∈ p2, x.block < W.heap.size := by obtain ⟨m, hm⟩ := h2; exact DataW.trod_lt m _ _ _ hm
  clear hA0 hval0
  refine (walk a0 A1 c1 es1 A2 c2 es2 W w0 hE1 hm1 (fun x hx => (hF1 x hx).2.2) hc1 hE2 hm2 (fun x hx => (hF2 x hx).2.2) hc2).mono fun e W' ⟨he, bel⟩ => ?_
  subst he
  exact ⟨_, rfl, _, _, _, [], _, [], hW', trodAll_mk1 (shut_bool Try.underlying4 _),
    (trodAll_cons_mk (shut_string Try.underlying9 w0) (trodAll_cons_mk (Below.trod laidOut (by kernel_rfl) (of_decide_eq_true (by kernel_rfl)) h1 bel lt1) (trodAll_cons_mk (Below.trod laidOut (by kernel_rfl) (of_decide_eq_true (by kernel_rfl)) h2 bel lt2) trodAll_mk0))), rfl, bel.frame _, fun h => by cases h⟩

theorem over : Rows.texteditTransformConvergesRow.holds Try.pinned (OpenSpec.ofChange Rows.texteditTransformConvergesSpec) :=
  OpenClaim.holds_of_wide 10 Try.f10 rfl rfl rfl rfl rfl rfl rfl ⟨rfl, rfl, rfl, rfl, rfl⟩ rfl rfl rfl rfl rfl (by kernel_rfl) Try.func10 (by kernel_rfl)
    (of_decide_eq_true (by kernel_rfl)) (by unfold Func.isWrapper; first | (rw [if_pos (by decide +kernel)]; kernel_rfl) | (rw [if_neg (by decide +kernel)]; exact ⟨rfl, rfl⟩))
    (fun os started H enc _ => lifted os started H enc)

theorem proved : Rows.TexteditTransformConvergesSaid := over
end Go.Proofs.Ytbnoejdhachhhaa.tcon
