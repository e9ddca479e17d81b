/-
  AnchorInvertRoundTrip answers true at every input. No condition.
-/
import Derived.Test.YtbnoejdhachhhaaLaws
import Derived.Test.YtbnoejdhachhhaaPIdn
import Derived.Test.YtbnoejdhachhhaaAnEx
namespace Go.Proofs.Ytbnoejdhachhhaa.ainv
open Go.ChangeShapes Go.WideShapes Go.ChangeAt Go.RowKit
open Go.ChangeMaps (open_string shut_string)
set_option linter.unusedVariables false

set_option maxHeartbeats 1000000 in
theorem walk (src : ByteArray) (A : Option Addr) (c : Nat) (es : List Ed) (off : Int) (r : Bool) (w : World) (hsrc : src.size ≤ maxLen) (h : EdsAt w w.heap.size A es) (hm : es.length ≤ maxLen) (hs : Short es) (hc : es.length ≤ c) (_hoff : -9223372036854775808 ≤ off ∧ off ≤ 9223372036854775807) :
    Calls Try.prog 4 #[.string src, .slice A es.length c, .int .i64 off, .bool r] w fun e w' => e = .returned (.bool true) ∧ Below w.heap.size w w' := by
  go_enter Try.func4, Try.ntmps4
  go_wp2_with fail
  refine (anEx _).mono ?_
  rintro e w1 ⟨rfl, b1⟩
  have h1 := (h.below b1).more b1.size
  go_wp2_with fail
  refine (inv_any _ _ _ _ _ h1 hm hs hsrc).mono ?_
  rintro e w2 ⟨A2, c2, rfl, i2, hb2⟩
  have h2 := (h1.below hb2).more hb2.size
  have b2 := b1.trans (hb2.mono b1.size)
  clear h h1 b1 hb2
  go_wp2_with fail
  refine (map_any _ _ _ _ _ _ h2 hm).mono ?_
  rintro e w3 ⟨rfl, hb3⟩
  have h3 := (h2.below hb3).more hb3.size
  have i3 := (i2.below hb3).more hb3.size
  have b3 := b2.trans (hb3.mono b2.size)
  clear h2 i2 b2 hb3
  by_cases g1 : valT src.size es = 0
  · have k1 : (valT src.size es != 0) = false := by simp [g1]
    by_cases g2 : mapE es off = 0
    · have k2 : (mapE es off != 0) = false := by simp [g2]
      by_cases g3 : off ≤ src.size
      · have hl : (invE src es).length ≤ maxLen := len_of_val (inv_law g1).1
        have hs' := invE_short' src es
        have HL := Lib.hid (fun hu => anchor_inv_law (off := off) r g1 hs (mapE_zero g2).2 g3 hu hs')
        have hl50 := (valT_ok g1).2.1
        clear g1 g2
        go_wp2_with fail
        go_loopw [13] (fun i wr => ∃ k : Nat, k ≤ es.length ∧ i = .int .i64 k ∧ Hid (Untouched (es.take k) off) ∧ Below w3.heap.size w3 wr) (fun i _ => es.length - (intOf i).toNat)
        case atStart => exact ⟨0, Nat.zero_le _, rfl, fun x hx => by simp at hx, Below.refl _ _⟩
        case round =>
          obtain ⟨k, hk, rfl, HU, hb⟩ := hrel
          have hbw := b3.trans (hb.mono b3.size)
          by_cases hlt : k < es.length
          · obtain ⟨bb, off', rfl, hbb, hcl⟩ := (h3.below hb) (by omega)
            obtain ⟨c1, c2', c3'⟩ := hcl k es[k] (List.getElem?_eq_getElem hlt)
            have HT := Lib.hid (take_snoc es k hlt)
            clear hcl c3' h3 i3 HL
            generalize es[k] = x at *
            by_cases t1 : x.s ≤ off
            · by_cases t2 : off ≤ x.e
              · go_wp2_with fail
                refine (anEx _).mono ?_
                rintro e w4 ⟨rfl, hb4⟩
                go_wp2_with fail
                go_ret
                exact ⟨rfl, hbw.trans (hb4.mono hbw.size)⟩
              · have HU2 : Hid (Untouched (es.take (k + 1)) off) := by
                  unfold Hid; rw [HT.out]; intro y hy; rcases List.mem_append.1 hy with hy | hy; exact HU.out y hy; simp at hy; subst hy; exact fun q => t2 q.2
                go_wp2_with fail
                go_roundw
                case rel => exact ⟨k + 1, by omega, by go_num, HU2, hb⟩
                case measure => simp [intOf]; omega
            · have HU2 : Hid (Untouched (es.take (k + 1)) off) := by
                unfold Hid; rw [HT.out]; intro y hy; rcases List.mem_append.1 hy with hy | hy; exact HU.out y hy; simp at hy; subst hy; exact fun q => t1 q.1
              go_wp2_with fail
              go_roundw
              case rel => exact ⟨k + 1, by omega, by go_num, HU2, hb⟩
              case measure => simp [intOf]; omega
          · have hu := HU.out
            rw [List.take_of_length_le (by omega)] at hu
            obtain ⟨q1, q2⟩ := HL.out hu
            have i4 := (i3.below hb).more hb.size
            have Q1 := Lib.hid q1
            have Q2 := Lib.hid q2
            clear q1 q2 hu HL HU h3 i3
            go_wp2_with fail
            refine (map_any _ _ _ _ _ _ i4 hl).mono ?_
            rintro e w4 ⟨rfl, hb4⟩
            rw [Q1.out, Q2.out]
            have b4 := hbw.trans (hb4.mono hbw.size)
            go_wp2_with fail
            refine (anEx _).mono ?_
            rintro e w5 ⟨rfl, hb5⟩
            go_wp2_with fail
            go_ret
            exact ⟨rfl, b4.trans (hb5.mono b4.size)⟩
      · clear g1 g2
        go_wp2_with fail
        refine (anEx _).mono ?_
        rintro e w4 ⟨rfl, hb4⟩
        go_wp2_with fail
        go_ret
        exact ⟨rfl, b3.trans (hb4.mono b3.size)⟩
    · have k2 : (mapE es off != 0) = true := by simp [g2]
      clear g1 g2
      go_wp2_with fail
      refine (anEx _).mono ?_
      rintro e w4 ⟨rfl, hb4⟩
      go_wp2_with fail
      go_ret
      exact ⟨rfl, b3.trans (hb4.mono b3.size)⟩
  · have k1 : (valT src.size es != 0) = true := by simp [g1]
    clear g1
    go_wp2_with fail
    refine (anEx _).mono ?_
    rintro e w4 ⟨rfl, hb4⟩
    go_wp2_with fail
    go_ret
    exact ⟨rfl, b3.trans (hb4.mono b3.size)⟩


set_option maxRecDepth 100000 in
theorem lifted (os : Os) (started : os.Started) (H : Type) (enc : TypeId × Value → H) :
    ReturnsInHanded {} Try.checked os 4 .any (Rows.anchorInvertRoundTripSpec.pre6 enc Try.prog Try.f4 Rows.anchorInvertRoundTripRow.domain false) (Rows.anchorInvertRoundTripSpec.post enc Try.prog Try.f4 false true false false) := by
  refine returnsInHanded_of_change_sized (C := Try.checked) own started (by kernel_rfl) Try.func4
    (ChangeSpec.witness6 (enc := enc) (C := Try.checked) false ⟨#[], #[.string .empty, .slice none 0 0, .int .i64 0, .bool false], []⟩ 8 (by kernel_rfl) (by kernel_rfl) (by kernel_rfl) (by kernel_rfl)) ?_
  intro W base args ds gs before hval0 hW hcnd hsz0 _
  have hval : ∀ (j : Nat) t v, Try.f4.params[j]? = some t → args[j]? = some v → Value.okWide Try.prog W .any base t v := hval0
  have hW' := hW
  obtain ⟨p, q, hA0, hV, rfl, hfz, hnd⟩ := hW
  have hA : DataW.TrodAll enc Try.prog W 0 (fun _ => true) true Try.f4.params.toList args.toList ds p := hA0
  rw [Try.params4] at hA hval
  obtain ⟨v0, vs0, d0, ds0, p0, q0, hargs, rfl, rfl, h0, r0⟩ := trodAll_cons hA
  obtain ⟨v1, vs1, d1, ds1, p1, q1, rfl, rfl, rfl, h1, r1⟩ := trodAll_cons r0
  obtain ⟨v2, vs2, d2, ds2, p2, q2, rfl, rfl, rfl, h2, r2⟩ := trodAll_cons r1
  obtain ⟨v3, vs3, d3, ds3, p3, q3, rfl, rfl, rfl, h3, r3⟩ := trodAll_cons r2
  obtain ⟨rfl, rfl, rfl⟩ := trodAll_nil r3
  obtain rfl : args = #[v0, v1, v2, v3] := by cases args; simp_all
  obtain ⟨rfl, rfl⟩ := trodVars_none hV
  have hsz : (DataW.weightsEach Try.prog [9, 22, 3, 4] [d0, d1, d2, d3]).all (fun x => decide (x ≤ reachBytes)) = true := hsz0
  simp only [DataW.weightsEach, List.all_append, Bool.and_eq_true] at hsz
  obtain ⟨a0, rfl, rfl, rfl, w0⟩ := open_string Try.underlying9 (hval 0 9 v0 rfl rfl) h0
  obtain ⟨A1, c1, es1, rfl, hE1, hm1, hF1, hc1⟩ := open_eds (hval 1 22 v1 rfl rfl) h1 hsz.2.1
  have lt1 : ∀ x ∈ p1, x.block < W.heap.size := by obtain ⟨m, hm⟩ := h1; exact DataW.trod_lt m _ _ _ hm
  obtain ⟨a2, rfl, rfl, rfl, w2⟩ := open_int Try.underlying3 (hval 2 3 v2 rfl rfl) h2
  obtain ⟨a3, rfl, rfl, rfl⟩ := open_bool Try.underlying4 (hval 3 4 v3 rfl rfl) h3
  clear hA0 hval0
  refine (walk a0 A1 c1 es1 a2 a3 W w0 hE1 hm1 (fun x hx => (hF1 x hx).2.2) hc1 (wf_i64 w2)).mono fun e W' ⟨he, bel⟩ => ?_
  subst he
  exact ⟨_, rfl, _, _, _, [], _, [], hW', trodAll_mk1 (shut_bool Try.underlying4 _),
    (trodAll_cons_mk (shut_string Try.underlying9 w0) (trodAll_cons_mk (Below.trod laidOut (by kernel_rfl) (of_decide_eq_true (by kernel_rfl)) h1 bel lt1) (trodAll_cons_mk (shut_int Try.underlying3 w2) (trodAll_cons_mk (shut_bool Try.underlying4 _) trodAll_mk0)))), rfl, bel.frame _, fun h => by cases h⟩

theorem over : Rows.anchorInvertRoundTripRow.holds Try.pinned (OpenSpec.ofChange Rows.anchorInvertRoundTripSpec) :=
  OpenClaim.holds_of_wide 4 Try.f4 rfl rfl rfl rfl rfl rfl rfl ⟨rfl, rfl, rfl, rfl, rfl⟩ rfl rfl rfl rfl rfl (by kernel_rfl) Try.func4 (by kernel_rfl)
    (of_decide_eq_true (by kernel_rfl)) (by unfold Func.isWrapper; first | (rw [if_pos (by decide +kernel)]; kernel_rfl) | (rw [if_neg (by decide +kernel)]; exact ⟨rfl, rfl⟩))
    (fun os started H enc _ => lifted os started H enc)

theorem proved : Rows.AnchorInvertRoundTripSaid := over
end Go.Proofs.Ytbnoejdhachhhaa.ainv
