/-
  TexteditComposeAssociative answers true at every input. No condition.
-/
import Derived.Test.YtbnoejdhachhhaaLaws
namespace Go.Proofs.Ytbnoejdhachhhaa.casc
open Go.ChangeShapes Go.WideShapes Go.ChangeAt Go.RowKit
open Go.ChangeMaps (open_string shut_string)
set_option linter.unusedVariables false

set_option maxHeartbeats 2000000 in
theorem walk (src : ByteArray) (A : Option Addr) (ca : Nat) (a : List Ed) (B : Option Addr) (cb : Nat) (b : List Ed) (D : Option Addr) (cd : Nat) (c : List Ed) (w : World) (hsrc : src.size ≤ maxLen)
    (ha : EdsAt w w.heap.size A a) (hm : a.length ≤ maxLen) (hs : Short a) (hc : a.length ≤ ca) (hb : EdsAt w w.heap.size B b) (hm' : b.length ≤ maxLen) (hs' : Short b) (hd : b.length ≤ cb)
    (hd0 : EdsAt w w.heap.size D c) (hm'' : c.length ≤ maxLen) (hs'' : Short c) (hd' : c.length ≤ cd) :
    Calls Try.prog 9 #[.string src, .slice A a.length ca, .slice B b.length cb, .slice D c.length cd] w fun e w' => e = .returned (.bool true) ∧ Below w.heap.size w w' := by
  go_enter Try.func9, Try.ntmps9
  go_wp2_with fail
  refine (txEx _).mono ?_
  rintro e w1 ⟨rfl, b1⟩
  have a1 := (ha.below b1).more b1.size
  have e1 := (hb.below b1).more b1.size
  have d1 := (hd0.below b1).more b1.size
  clear ha hb hd0
  go_wp2_with fail
  refine (comp_any _ _ _ _ _ _ _ _ a1 e1 hm hm' hs hs' hsrc).mono ?_
  rintro e w2 ⟨A2, c2, rfl, i2, hb2⟩
  have a2 := (a1.below hb2).more hb2.size
  have e2 := (e1.below hb2).more hb2.size
  have d2 := (d1.below hb2).more hb2.size
  have b2 := b1.trans (hb2.mono b1.size)
  clear a1 e1 d1 b1 hb2
  go_wp2_with fail
  refine (apply_any _ _ _ _ _ a2 hm hs hsrc).mono ?_
  rintro e w3 ⟨rfl, hb3⟩
  have a3 := (a2.below hb3).more hb3.size
  have e3 := (e2.below hb3).more hb3.size
  have d3 := (d2.below hb3).more hb3.size
  have i3 := (i2.below hb3).more hb3.size
  have b3 := b2.trans (hb3.mono b2.size)
  clear a2 e2 d2 i2 b2 hb3
  go_wp2_with fail
  refine (comp_any _ _ _ _ _ _ _ _ e3 d3 hm' hm'' hs' hs'' (applyB_max src a)).mono ?_
  rintro e w4 ⟨A4, c4, rfl, j4, hb4⟩
  have a4 := (a3.below hb4).more hb4.size
  have d4 := (d3.below hb4).more hb4.size
  have i4 := (i3.below hb4).more hb4.size
  have b4 := b3.trans (hb4.mono b3.size)
  clear a3 e3 d3 i3 b3 hb4
  have fin : ∀ u : World, Calls Try.prog 19 #[] u fun e w' => e = .returned (.bool true) ∧ Below u.heap.size u w' := fun u => txEx u
  by_cases g1 : compC src a b = 0
  · have k1 : (compC src a b != 0) = false := by simp [g1]
    have G1 := Lib.hid g1
    have k2 : (valT src.size a != 0) = false := by simp [(comp_law g1).1]
    clear g1
    by_cases g2 : compC (applyB src a) b c = 0
    · have k3 : (compC (applyB src a) b c != 0) = false := by simp [g2]
      have G2 := Lib.hid g2
      clear g2
      obtain ⟨m1, n1⟩ := compL_fits src a b
      obtain ⟨m2, n2⟩ := compL_fits (applyB src a) b c
      go_wp2_with fail
      refine (comp_any _ _ _ _ _ _ _ _ i4 d4 m1 hm'' n1 hs'' hsrc).mono ?_
      rintro e w5 ⟨A5, c5, rfl, x5, hb5⟩
      have a5 := (a4.below hb5).more hb5.size
      have j5 := (j4.below hb5).more hb5.size
      have b5 := b4.trans (hb5.mono b4.size)
      clear a4 d4 i4 j4 b4 hb5
      go_wp2_with fail
      refine (comp_any _ _ _ _ _ _ _ _ a5 j5 hm m2 hs n2 hsrc).mono ?_
      rintro e w6 ⟨A6, c6, rfl, y6, hb6⟩
      have x6 := (x5.below hb6).more hb6.size
      have b6 := b5.trans (hb6.mono b5.size)
      clear a5 j5 x5 b5 hb6
      go_wp2_with fail
      refine (txEx _).mono ?_
      rintro e w7 ⟨rfl, hb7⟩
      have x7 := (x6.below hb7).more hb7.size
      have y7 := (y6.below hb7).more hb7.size
      have b7 := b6.trans (hb7.mono b6.size)
      clear x6 y6 b6 hb7
      have HA := Lib.hid (fun p q => assoc_law G1.out G2.out p q)
      obtain ⟨m3, n3⟩ := compL_fits src (compL src a b) c
      generalize hL : compL src (compL src a b) c = X at *
      generalize hR : compL src a (compL (applyB src a) b c) = Y at *
      clear hL hR
      generalize compC src (compL src a b) c = cx at *
      generalize compC src a (compL (applyB src a) b c) = cy at *
      by_cases g3 : cx = 0
      · by_cases g4 : cy = 0
        · have hXY := HA.out g3 g4
          subst g3 g4
          subst hXY
          clear HA
          go_wp2_with fail
          refine (eqEds_any _ _ _ _ X X _ x7 y7 m3 rfl).mono ?_
          rintro e w8 ⟨rfl, hb8⟩
          go_wp2_with fail
          go_ret
          exact ⟨rfl, b7.trans (hb8.mono b7.size)⟩
        · have k4 : (cy != 0) = true := by simp [g4]
          subst g3
          clear HA g4
          go_wp2_with fail
          go_ret
          exact ⟨rfl, b7⟩
      · have k4 : (cx != 0) = true := by simp [g3]
        clear HA g3
        go_wp2_with fail
        go_ret
        exact ⟨rfl, b7⟩
    · have k3 : (compC (applyB src a) b c != 0) = true := by simp [g2]
      clear g2
      go_wp2_with fail
      refine (fin _).mono ?_
      rintro e w7 ⟨rfl, hb7⟩
      go_wp2_with fail
      go_ret
      exact ⟨rfl, b4.trans (hb7.mono b4.size)⟩
  · have k1 : (compC src a b != 0) = true := by simp [g1]
    clear g1
    go_wp2_with fail
    refine (fin _).mono ?_
    rintro e w7 ⟨rfl, hb7⟩
    go_wp2_with fail
    go_ret
    exact ⟨rfl, b4.trans (hb7.mono b4.size)⟩


set_option maxRecDepth 100000 in
theorem lifted (os : Os) (started : os.Started) (H : Type) (enc : TypeId × Value → H) :
    ReturnsInHanded {} Try.checked os 9 .any (Rows.texteditComposeAssociativeSpec.pre6 enc Try.prog Try.f9 Rows.texteditComposeAssociativeRow.domain false) (Rows.texteditComposeAssociativeSpec.post enc Try.prog Try.f9 false true false false) := by
  refine returnsInHanded_of_change_sized (C := Try.checked) own started (by kernel_rfl) Try.func9
    (ChangeSpec.witness6 (enc := enc) (C := Try.checked) false ⟨#[], #[.string .empty, .slice none 0 0, .slice none 0 0, .slice none 0 0], []⟩ 8 (by kernel_rfl) (by kernel_rfl) (by kernel_rfl) (by kernel_rfl)) ?_
  intro W base args ds gs before hval0 hW hcnd hsz0 _
  have hval : ∀ (j : Nat) t v, Try.f9.params[j]? = some t → args[j]? = some v → Value.okWide Try.prog W .any base t v := hval0
  have hW' := hW
  obtain ⟨p, q, hA0, hV, rfl, hfz, hnd⟩ := hW
  have hA : DataW.TrodAll enc Try.prog W 0 (fun _ => true) true Try.f9.params.toList args.toList ds p := hA0
  rw [Try.params9] at hA hval
  obtain ⟨v0, vs0, d0, ds0, p0, q0, hargs, rfl, rfl, h0, r0⟩ := trodAll_cons hA
  obtain ⟨v1, vs1, d1, ds1, p1, q1, rfl, rfl, rfl, h1, r1⟩ := trodAll_cons r0
  obtain ⟨v2, vs2, d2, ds2, p2, q2, rfl, rfl, rfl, h2, r2⟩ := trodAll_cons r1
  obtain ⟨v3, vs3, d3, ds3, p3, q3, rfl, rfl, rfl, h3, r3⟩ := trodAll_cons r2
  obtain ⟨rfl, rfl, rfl⟩ := trodAll_nil r3
  obtain rfl : args = #[v0, v1, v2, v3] := by cases args; simp_all
  obtain ⟨rfl, rfl⟩ := trodVars_none hV
  have hsz : (DataW.weightsEach Try.prog [9, 22, 22, 22] [d0, d1, d2, d3]).all (fun x => decide (x ≤ reachBytes)) = true := hsz0
  simp only [DataW.weightsEach, List.all_append, Bool.and_eq_true] at hsz
  obtain ⟨a0, rfl, rfl, rfl, w0⟩ := open_string Try.underlying9 (hval 0 9 v0 rfl rfl) h0
  obtain ⟨A1, c1, es1, rfl, hE1, hm1, hF1, hc1⟩ := open_eds (hval 1 22 v1 rfl rfl) h1 hsz.2.1
  have lt1 : ∀ x ∈ p1, x.block < W.heap.size := by obtain ⟨m, hm⟩ := h1; exact DataW.trod_lt m _ _ _ hm
  obtain ⟨A2, c2, es2, rfl, hE2, hm2, hF2, hc2⟩ := open_eds (hval 2 22 v2 rfl rfl) h2 hsz.2.2.1
  have lt2 : ∀ x ∈ p2, x.block < W.heap.size := by obtain ⟨m, hm⟩ := h2; exact DataW.trod_lt m _ _ _ hm
  obtain ⟨A3, c3, es3, rfl, hE3, hm3, hF3, hc3⟩ := open_eds (hval 3 22 v3 rfl rfl) h3 hsz.2.2.2.1
  have lt3 : ∀ x ∈ p3, x.block < W.heap.size := by obtain ⟨m, hm⟩ := h3; exact DataW.trod_lt m _ _ _ hm
  clear hA0 hval0
  refine (walk a0 A1 c1 es1 A2 c2 es2 A3 c3 es3 W w0 hE1 hm1 (fun x hx => (hF1 x hx).2.2) hc1 hE2 hm2 (fun x hx => (hF2 x hx).2.2) hc2 hE3 hm3 (fun x hx => (hF3 x hx).2.2) hc3).mono fun e W' ⟨he, bel⟩ => ?_
  subst he
  exact ⟨_, rfl, _, _, _, [], _, [], hW', trodAll_mk1 (shut_bool Try.underlying4 _),
    (trodAll_cons_mk (shut_string Try.underlying9 w0) (trodAll_cons_mk (Below.trod laidOut (by kernel_rfl) (of_decide_eq_true (by kernel_rfl)) h1 bel lt1) (trodAll_cons_mk (Below.trod laidOut (by kernel_rfl) (of_decide_eq_true (by kernel_rfl)) h2 bel lt2) (trodAll_cons_mk (Below.trod laidOut (by kernel_rfl) (of_decide_eq_true (by kernel_rfl)) h3 bel lt3) trodAll_mk0)))), rfl, bel.frame _, fun h => by cases h⟩

theorem over : Rows.texteditComposeAssociativeRow.holds Try.pinned (OpenSpec.ofChange Rows.texteditComposeAssociativeSpec) :=
  OpenClaim.holds_of_wide 9 Try.f9 rfl rfl rfl rfl rfl rfl rfl ⟨rfl, rfl, rfl, rfl, rfl⟩ rfl rfl rfl rfl rfl (by kernel_rfl) Try.func9 (by kernel_rfl)
    (of_decide_eq_true (by kernel_rfl)) (by unfold Func.isWrapper; first | (rw [if_pos (by decide +kernel)]; kernel_rfl) | (rw [if_neg (by decide +kernel)]; exact ⟨rfl, rfl⟩))
    (fun os started H enc _ => lifted os started H enc)

theorem proved : Rows.TexteditComposeAssociativeSaid := over
end Go.Proofs.Ytbnoejdhachhhaa.casc
