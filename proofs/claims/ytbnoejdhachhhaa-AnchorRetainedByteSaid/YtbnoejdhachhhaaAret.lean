/-
  AnchorRetainedByte answers true at every input. No condition.
-/
import Derived.Test.YtbnoejdhachhhaaLaws
import Derived.Test.YtbnoejdhachhhaaPAnc
import Derived.Test.YtbnoejdhachhhaaAnEx
namespace Go.Proofs.Ytbnoejdhachhhaa.aret
open Go.ChangeShapes Go.WideShapes Go.ChangeAt Go.RowKit
open Go.ChangeMaps (open_string shut_string)
set_option linter.unusedVariables false

set_option maxHeartbeats 2000000 in
theorem walk (src : ByteArray) (A : Option Addr) (c : Nat) (es : List Ed) (off : Int) (w : World) (hsrc : src.size ≤ maxLen) (h : EdsAt w w.heap.size A es) (hm : es.length ≤ maxLen) (hs : Short es) (hc : es.length ≤ c) (_hoff : -9223372036854775808 ≤ off ∧ off ≤ 9223372036854775807) :
    Calls Try.prog 5 #[.string src, .slice A es.length c, .int .i64 off] w fun e w' => e = .returned (.bool true) ∧ Below w.heap.size w w' := by
  go_enter Try.func5, Try.ntmps5
  go_wp2_with fail
  refine (anEx _).mono ?_
  rintro e w1 ⟨rfl, b1⟩
  have h1 := (h.below b1).more b1.size
  go_wp2_with fail
  refine (apply_any _ _ _ _ _ h1 hm hs hsrc).mono ?_
  rintro e w2 ⟨rfl, hb2⟩
  have h2 := (h1.below hb2).more hb2.size
  have b2 := b1.trans (hb2.mono b1.size)
  clear h h1 b1 hb2
  by_cases g1 : valT src.size es = 0
  · have k1 : (valT src.size es != 0) = false := by simp [g1]
    by_cases g2 : off < 0
    · clear g1
      go_wp2_with fail
      refine (anEx _).mono ?_
      rintro e w4 ⟨rfl, hb4⟩
      go_wp2_with fail
      go_ret
      exact ⟨rfl, b2.trans (hb4.mono b2.size)⟩
    · by_cases g3 : (src.size : Int) ≤ off
      · clear g1
        go_wp2_with fail
        refine (anEx _).mono ?_
        rintro e w4 ⟨rfl, hb4⟩
        go_wp2_with fail
        go_ret
        exact ⟨rfl, b2.trans (hb4.mono b2.size)⟩
      · obtain ⟨k, rfl⟩ : ∃ k : Nat, off = k := ⟨off.toNat, by omega⟩
        have hk : k < src.size := by omega
        have hn := (valT_ok4 g1).1
        have HL := Lib.hid (fun hd => anchor_ret_law (k := k) g1 hs hk hd)
        clear g1
        go_wp2_with fail
        refine (delB_any _ _ _ _ _ h2 hm).mono ?_
        rintro e w3 ⟨rfl, hb3⟩
        have h3 := (h2.below hb3).more hb3.size
        have b3 := b2.trans (hb3.mono b2.size)
        cases hd : delB es k
        · obtain ⟨m, ⟨q1, q2⟩, q3, q4, q5, q6⟩ := HL.out hd
          have Q1 := Lib.hid q1
          have Q2 := Lib.hid q2
          have Q3 := Lib.hid q3
          have Q4 := Lib.hid q4
          have q7 := applyB_le src es
          have hm3 : m < (applyB src es).data.size := q5
          have hk3 : k < src.data.size := hk
          have q8 : ((applyB src es).data[m].toNat : Int) = (src.data[k].toNat : Int) := by
            rw [List.getElem?_eq_getElem (by rw [Array.length_toList]; exact hm3), List.getElem?_eq_getElem (by rw [Array.length_toList]; exact hk3)] at q6
            injection q6 with q6
            simp only [Array.getElem_toList] at q6
            rw [q6]
          have q9 : (((applyB src es).data[m].toNat : Int) == (src.data[k].toNat : Int)) = true := by rw [q8]; simp
          clear q1 q2 q3 q4 q6 HL
          go_wp2_with fail
          refine (map_any _ _ _ _ _ _ h3 hm).mono ?_
          rintro e w4 ⟨rfl, hb4⟩
          have h4 := (h3.below hb4).more hb4.size
          have b4 := b3.trans (hb4.mono b3.size)
          rw [Q1.out, Q3.out]
          go_wp2_with fail
          refine (map_any _ _ _ _ _ _ h4 hm).mono ?_
          rintro e w5 ⟨rfl, hb5⟩
          have b5 := b4.trans (hb5.mono b4.size)
          rw [Q2.out, Q4.out]
          go_wp2_with fail
          have hw : IntKind.i64.wrap ((m : Int) + 1) = (m : Int) + 1 := IntWalk.i64_in _ (by omega)
          have hw2 : (((m : Int) + 1) == ((m : Int) + 1)) = true := by simp
          have hw3 : ((m : Int) < ((applyB src es).size : Int)) = True := by simp; omega
          go_region_held3 (fun _ => True) (first | go_keep | trivial) ((go_at_call 13; refine (anEx _).mono ?_; rintro e w6 ⟨rfl, hb6⟩))
          all_goals
            go_wp2_with fail
            go_ret
            refine ⟨?_, by first | exact b5.drew.trans (hb6.mono b5.size) | exact b5.trans (hb6.mono b5.size)⟩
            show Ending.returned (Value.bool (((applyB src es).data[m].toNat : Int) == (src.data[k].toNat : Int))) = _
            rw [q9]
        · go_wp2_with fail
          refine (anEx _).mono ?_
          rintro e w4 ⟨rfl, hb4⟩
          go_wp2_with fail
          go_ret
          exact ⟨rfl, b3.trans (hb4.mono b3.size)⟩
  · have k1 : (valT src.size es != 0) = true := by simp [g1]
    clear g1
    go_wp2_with fail
    refine (anEx _).mono ?_
    rintro e w4 ⟨rfl, hb4⟩
    go_wp2_with fail
    go_ret
    exact ⟨rfl, b2.trans (hb4.mono b2.size)⟩


set_option maxRecDepth 100000 in
theorem lifted (os : Os) (started : os.Started) (H : Type) (enc : TypeId × Value → H) :
    ReturnsInHanded {} Try.checked os 5 .any (Rows.anchorRetainedByteSpec.pre6 enc Try.prog Try.f5 Rows.anchorRetainedByteRow.domain false) (Rows.anchorRetainedByteSpec.post enc Try.prog Try.f5 false true false false) := by
  refine returnsInHanded_of_change_sized (C := Try.checked) own started (by kernel_rfl) Try.func5
    (ChangeSpec.witness6 (enc := enc) (C := Try.checked) false ⟨#[], #[.string .empty, .slice none 0 0, .int .i64 0], []⟩ 8 (by kernel_rfl) (by kernel_rfl) (by kernel_rfl) (by kernel_rfl)) ?_
  intro W base args ds gs before hval0 hW hcnd hsz0 _
  have hval : ∀ (j : Nat) t v, Try.f5.params[j]? = some t → args[j]? = some v → Value.okWide Try.prog W .any base t v := hval0
  have hW' := hW
  obtain ⟨p, q, hA0, hV, rfl, hfz, hnd⟩ := hW
  have hA : DataW.TrodAll enc Try.prog W 0 (fun _ => true) true Try.f5.params.toList args.toList ds p := hA0
  rw [Try.params5] at hA hval
  obtain ⟨v0, vs0, d0, ds0, p0, q0, hargs, rfl, rfl, h0, r0⟩ := trodAll_cons hA
  obtain ⟨v1, vs1, d1, ds1, p1, q1, rfl, rfl, rfl, h1, r1⟩ := trodAll_cons r0
  obtain ⟨v2, vs2, d2, ds2, p2, q2, rfl, rfl, rfl, h2, r2⟩ := trodAll_cons r1
  obtain ⟨rfl, rfl, rfl⟩ := trodAll_nil r2
  obtain rfl : args = #[v0, v1, v2] := by cases args; simp_all
  obtain ⟨rfl, rfl⟩ := trodVars_none hV
  have hsz : (DataW.weightsEach Try.prog [9, 22, 3] [d0, d1, d2]).all (fun x => decide (x ≤ reachBytes)) = true := hsz0
  simp only [DataW.weightsEach, List.all_append, Bool.and_eq_true] at hsz
  obtain ⟨a0, rfl, rfl, rfl, w0⟩ := open_string Try.underlying9 (hval 0 9 v0 rfl rfl) h0
  obtain ⟨A1, c1, es1, rfl, hE1, hm1, hF1, hc1⟩ := open_eds (hval 1 22 v1 rfl rfl) h1 hsz.2.1
  have lt1 : ∀ x ∈ p1, x.block < W.heap.size := by obtain ⟨m, hm⟩ := h1; exact DataW.trod_lt m _ _ _ hm
  obtain ⟨a2, rfl, rfl, rfl, w2⟩ := open_int Try.underlying3 (hval 2 3 v2 rfl rfl) h2
  clear hA0 hval0
  refine (walk a0 A1 c1 es1 a2 W w0 hE1 hm1 (fun x hx => (hF1 x hx).2.2) hc1 (wf_i64 w2)).mono fun e W' ⟨he, bel⟩ => ?_
  subst he
  exact ⟨_, rfl, _, _, _, [], _, [], hW', trodAll_mk1 (shut_bool Try.underlying4 _),
    (trodAll_cons_mk (shut_string Try.underlying9 w0) (trodAll_cons_mk (Below.trod laidOut (by kernel_rfl) (of_decide_eq_true (by kernel_rfl)) h1 bel lt1) (trodAll_cons_mk (shut_int Try.underlying3 w2) trodAll_mk0))), rfl, bel.frame _, fun h => by cases h⟩

theorem over : Rows.anchorRetainedByteRow.holds Try.pinned (OpenSpec.ofChange Rows.anchorRetainedByteSpec) :=
  OpenClaim.holds_of_wide 5 Try.f5 rfl rfl rfl rfl rfl rfl rfl ⟨rfl, rfl, rfl, rfl, rfl⟩ rfl rfl rfl rfl rfl (by kernel_rfl) Try.func5 (by kernel_rfl)
    (of_decide_eq_true (by kernel_rfl)) (by unfold Func.isWrapper; first | (rw [if_pos (by decide +kernel)]; kernel_rfl) | (rw [if_neg (by decide +kernel)]; exact ⟨rfl, rfl⟩))
    (fun os started H enc _ => lifted os started H enc)

theorem proved : Rows.AnchorRetainedByteSaid := over
end Go.Proofs.Ytbnoejdhachhhaa.aret
