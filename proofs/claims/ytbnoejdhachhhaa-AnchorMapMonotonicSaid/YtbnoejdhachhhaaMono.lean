/-
  Map preserves the order of offsets, and right gravity never yields a smaller position than left gravity: AnchorMapMonotonic answers true at every input. No condition.
-/
import Derived.Test.YtbnoejdhachhhaaLift
import Derived.Test.YtbnoejdhachhhaaAnEx
import Derived.Test.YtbnoejdhachhhaaAnLaw
namespace Go.Proofs.Ytbnoejdhachhhaa.mono
open Go.ChangeShapes Go.WideShapes Go.ChangeAt Go.RowKit
set_option linter.unusedVariables false

set_option maxHeartbeats 1000000 in
theorem walk (A : Option Addr) (c : Nat) (es : List Ed) (a b : Int) (r : Bool) (w : World) (h : EdsAt w w.heap.size A es) (hm : es.length ≤ maxLen) (hs : Short es) :
    Calls Try.prog 3 #[.slice A es.length c, .int .i64 a, .int .i64 b, .bool r] w fun e w' => e = .returned (.bool true) ∧ Below w.heap.size w w' := by
  go_enter Try.func3, Try.ntmps3
  go_wp2_with fail
  refine (anEx _).mono ?_
  rintro e w1 ⟨rfl, b1⟩
  go_wp2_with fail
  have h1 := (h.below b1).more b1.size
  refine (map_any _ _ _ _ _ _ h1 hm).mono ?_
  rintro e w2 ⟨rfl, hb2⟩
  have h2 := (h1.below hb2).more hb2.size
  have b2 := b1.trans (hb2.mono b1.size)
  go_wp2_with fail
  refine (map_any _ _ _ _ _ _ h2 hm).mono ?_
  rintro e w3 ⟨rfl, hb3⟩
  have h3 := (h2.below hb3).more hb3.size
  have b3 := b2.trans (hb3.mono b2.size)
  go_wp2_with fail
  refine (map_any _ _ _ _ _ _ h3 hm).mono ?_
  rintro e w4 ⟨rfl, hb4⟩
  have h4 := (h3.below hb4).more hb4.size
  have b4 := b3.trans (hb4.mono b3.size)
  go_wp2_with fail
  refine (map_any _ _ _ _ _ _ h4 hm).mono ?_
  rintro e w5 ⟨rfl, hb5⟩
  have b5 := b4.trans (hb5.mono b4.size)
  have HM := Lib.hid (fun p q s => map_monotonic (a := a) (b := b) r hs p q s)
  clear h h1 h2 h3 h4 hb2 hb3 hb4 hb5 b1 b2 b3 b4
  generalize mapP es a true = pr at *
  generalize mapP es a false = pl at *
  generalize mapP es a r = pa at *
  generalize mapP es b r = pb at *
  generalize mapE es a = ea at *
  generalize mapE es b = eb at *
  by_cases g1 : ea = 0
  · by_cases g2 : eb = 0
    · by_cases g3 : a ≤ b
      · by_cases g4 : b ≤ 1099511627776
        · obtain ⟨f1, f2⟩ := HM.out g1 g3 g4
          subst g1 g2
          go_wp2_with fail
          refine (anEx _).mono ?_
          rintro e w6 ⟨rfl, hb6⟩
          go_wp2_with fail
          go_ret
          exact ⟨rfl, b5.trans (hb6.mono b5.size)⟩
        · subst g1 g2
          clear HM
          go_wp2_with fail
          refine (anEx _).mono ?_
          rintro e w6 ⟨rfl, hb6⟩
          go_wp2_with fail
          go_ret
          exact ⟨rfl, b5.trans (hb6.mono b5.size)⟩
      · subst g1 g2
        clear HM
        go_wp2_with fail
        refine (anEx _).mono ?_
        rintro e w6 ⟨rfl, hb6⟩
        go_wp2_with fail
        go_ret
        exact ⟨rfl, b5.trans (hb6.mono b5.size)⟩
    · subst g1
      have q : (eb != 0) = true := by simp [g2]
      clear HM g2
      go_wp2_with fail
      refine (anEx _).mono ?_
      rintro e w6 ⟨rfl, hb6⟩
      go_wp2_with fail
      go_ret
      exact ⟨rfl, b5.trans (hb6.mono b5.size)⟩
  · have q : (ea != 0) = true := by simp [g1]
    clear HM g1
    go_wp2_with fail
    refine (anEx _).mono ?_
    rintro e w6 ⟨rfl, hb6⟩
    go_wp2_with fail
    go_ret
    exact ⟨rfl, b5.trans (hb6.mono b5.size)⟩

set_option maxRecDepth 100000 in
theorem lifted (os : Os) (started : os.Started) (H : Type) (enc : TypeId × Value → H) :
    ReturnsInHanded {} Try.checked os 3 .any (Rows.anchorMapMonotonicSpec.pre6 enc Try.prog Try.f3 Rows.anchorMapMonotonicRow.domain false) (Rows.anchorMapMonotonicSpec.post enc Try.prog Try.f3 false true false false) := by
  refine returnsInHanded_of_change_sized (C := Try.checked) own started (by kernel_rfl) Try.func3
    (ChangeSpec.witness6 (enc := enc) (C := Try.checked) false ⟨#[], #[.slice none 0 0, .int .i64 0, .int .i64 0, .bool false], []⟩ 8 (by kernel_rfl) (by kernel_rfl) (by kernel_rfl) (by kernel_rfl)) ?_
  intro W base args ds gs before hval0 hW hcnd hsz0 _
  have hval : ∀ (j : Nat) t v, Try.f3.params[j]? = some t → args[j]? = some v → Value.okWide Try.prog W .any base t v := hval0
  have hW' := hW
  obtain ⟨p, q, hA0, hV, rfl, hfz, hnd⟩ := hW
  have hA : DataW.TrodAll enc Try.prog W 0 (fun _ => true) true Try.f3.params.toList args.toList ds p := hA0
  rw [Try.params3] at hA hval
  obtain ⟨v0, vs0, d0, ds0, p0, q0, hargs, rfl, rfl, h0, r0⟩ := trodAll_cons hA
  obtain ⟨v1, vs1, d1, ds1, p1, q1, rfl, rfl, rfl, h1, r1⟩ := trodAll_cons r0
  obtain ⟨v2, vs2, d2, ds2, p2, q2, rfl, rfl, rfl, h2, r2⟩ := trodAll_cons r1
  obtain ⟨v3, vs3, d3, ds3, p3, q3, rfl, rfl, rfl, h3, r3⟩ := trodAll_cons r2
  obtain ⟨rfl, rfl, rfl⟩ := trodAll_nil r3
  obtain rfl : args = #[v0, v1, v2, v3] := by cases args; simp_all
  obtain ⟨rfl, rfl⟩ := trodVars_none hV
  have hsz : (DataW.weightsEach Try.prog [22, 3, 3, 4] [d0, d1, d2, d3]).all (fun x => decide (x ≤ reachBytes)) = true := hsz0
  simp only [DataW.weightsEach, List.all_append, Bool.and_eq_true] at hsz
  obtain ⟨A, c, es, rfl, hE, hm, hF⟩ := open_eds (hval 0 22 v0 rfl rfl) h0 hsz.1
  have lt0 : ∀ x ∈ p0, x.block < W.heap.size := by obtain ⟨m, hm⟩ := h0; exact DataW.trod_lt m _ _ _ hm
  obtain ⟨a1, rfl, rfl, rfl, w1⟩ := open_int Try.underlying3 (hval 1 3 v1 rfl rfl) h1
  obtain ⟨a2, rfl, rfl, rfl, w2⟩ := open_int Try.underlying3 (hval 2 3 v2 rfl rfl) h2
  obtain ⟨a3, rfl, rfl, rfl⟩ := open_bool Try.underlying4 (hval 3 4 v3 rfl rfl) h3
  clear hA0 hval0
  refine (walk A c es a1 a2 a3 W hE hm (fun x hx => (hF x hx).2.2)).mono fun e W' ⟨he, bel⟩ => ?_
  subst he
  exact ⟨_, rfl, _, _, _, [], _, [], hW', trodAll_mk1 (shut_bool Try.underlying4 _),
    (trodAll_cons_mk (Below.trod laidOut (by kernel_rfl) (of_decide_eq_true (by kernel_rfl)) h0 bel lt0) (trodAll_cons_mk (shut_int Try.underlying3 w1) (trodAll_cons_mk (shut_int Try.underlying3 w2) (trodAll_cons_mk (shut_bool Try.underlying4 _) trodAll_mk0)))), rfl, bel.frame _, fun h => by cases h⟩

theorem over : Rows.anchorMapMonotonicRow.holds Try.pinned (OpenSpec.ofChange Rows.anchorMapMonotonicSpec) :=
  OpenClaim.holds_of_wide 3 Try.f3 rfl rfl rfl rfl rfl rfl rfl ⟨rfl, rfl, rfl, rfl, rfl⟩ rfl rfl rfl rfl rfl (by kernel_rfl) Try.func3 (by kernel_rfl)
    (of_decide_eq_true (by kernel_rfl)) (by unfold Func.isWrapper; first | (rw [if_pos (by decide +kernel)]; kernel_rfl) | (rw [if_neg (by decide +kernel)]; exact ⟨rfl, rfl⟩))
    (fun os started H enc _ => lifted os started H enc)

theorem proved : Rows.AnchorMapMonotonicSaid := over
end Go.Proofs.Ytbnoejdhachhhaa.mono
