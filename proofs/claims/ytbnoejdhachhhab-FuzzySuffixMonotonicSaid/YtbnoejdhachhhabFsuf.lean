/-
  FuzzySuffixMonotonic answers true at every input. No condition.
-/
import Derived.Test.YtbnoejdhachhhabLft
import Derived.Test.YtbnoejdhachhhabPfz
namespace Go.Proofs.Ytbnoejdhachhhab.fsuf
open Go.ChangeShapes Go.WideShapes Go.ChangeAt Go.RowKit
open Go.ChangeMaps (open_string shut_string)
set_option linter.unusedVariables false

theorem byte_app (s t : ByteArray) (k : Nat) (h : k < s.size) : (s ++ t).data.toList.getD k 0 = s.data.toList.getD k 0 := by
  have h' : k < s.data.toList.length := by simpa using h
  rw [ByteArray.data_append, Array.toList_append, List.getD_eq_getElem?_getD, List.getD_eq_getElem?_getD, List.getElem?_append_left h']
theorem pts_app (b : UInt8) (s t : ByteArray) (k : Nat) (h : k < s.size) : ptsN b (s ++ t) k = ptsN b s k := by
  unfold ptsN starts
  rw [byte_app s t k h]
  by_cases h0 : k = 0
  · subst h0; simp
  · rw [byte_app s t (k - 1) (by omega)]
theorem ok_app (pat s t : ByteArray) : ∀ (r : List Int) (i : Nat) (prev : Int), -1 ≤ prev → okG pat s i prev r → okG pat (s ++ t) i prev r ∧ alG pat (s ++ t) i prev r = alG pat s i prev r
  | [], i, prev, _, h => ⟨h, rfl⟩
  | k :: r, i, prev, hp, ⟨h1, h2, h3, h4, h5⟩ => by
    obtain ⟨u1, u2⟩ := ok_app pat s t r (i + 1) k (by omega) h5
    have hk : k.toNat < s.size := by omega
    refine ⟨⟨h1, h2, by rw [ByteArray.size_append]; omega, by rw [byte_app s t _ hk]; exact h4, u1⟩, ?_⟩
    unfold alG
    rw [u2, pts_app _ s t _ hk]

set_option maxRecDepth 100000 in
set_option maxHeartbeats 1000000 in
theorem walk (pat s suf : ByteArray) (w : World) (hp : pat.size ≤ maxLen) (hs : s.size ≤ maxLen) (hf : suf.size ≤ maxLen) (hr : suf.size ≤ 140737488351232) :
    Calls Try.prog 5 #[.string pat, .string s, .string suf] w fun e w' => e = .returned (.bool true) ∧ Below w.heap.size w w' := by
  have hsc := Lib.hid (fun u => score_any pat s u hp hs)
  unfold maxLen at hs hf
  cases hsr : scoreL pat s with
  | none =>
    rw [hsr] at hsc
    clear hsr
    go_enter Try.func5, Try.ntmps5
    go_wp2_with fail
    refine (fex_any _).mono ?_
    rintro e w1 ⟨rfl, b1⟩
    have B1 := Lib.hid b1
    clear b1
    go_wp2_with fail
    refine (hsc.out _).mono ?_
    rintro e w2 ⟨b2, rfl⟩
    have B2 := Lib.hid (B1.out.trans (b2.mono B1.out.size))
    clear b2 B1
    go_wp2_with fail
    refine (fex_any _).mono ?_
    rintro e w3 ⟨rfl, b3⟩
    have B3 := Lib.hid (B2.out.trans (b3.mono B2.out.size))
    clear b3 B2
    go_wp2_with fail
    go_ret
    exact ⟨rfl, B3.out⟩
  | some ts =>
    obtain ⟨t, offs⟩ := ts
    have hv := score_valid hsr
    have hsz : pat.size ≤ 30 ∧ s.size ≤ 30 := by
      unfold scoreL at hsr
      split at hsr
      · cases hsr
      · omega
    rw [hsr] at hsc
    clear hsr
    by_cases hbig : 30 < s.size + suf.size
    · have hbI : (30 : Int) < (s.size : Int) + suf.size := by omega
      obtain ⟨hz1, hz2⟩ := hsz
      clear hv
      go_enter Try.func5, Try.ntmps5
      go_wp2_with fail
      refine (fex_any _).mono ?_
      rintro e w1 ⟨rfl, b1⟩
      have B1 := Lib.hid b1
      clear b1
      go_wp2_with fail
      refine (hsc.out _).mono ?_
      rintro e w2 ⟨b2, A2, c2, rfl, _⟩
      have B2 := Lib.hid (B1.out.trans (b2.mono B1.out.size))
      clear b2 B1
      go_wp2_with fail
      refine (fex_any _).mono ?_
      rintro e w3 ⟨rfl, b3⟩
      have B3 := Lib.hid (B2.out.trans (b3.mono B2.out.size))
      clear b3 B2
      go_wp2_with fail
      go_ret
      exact ⟨rfl, B3.out⟩
    · have hbI : (s.size : Int) + suf.size ≤ 30 := by omega
      obtain ⟨hz1, hz2⟩ := hsz
      obtain ⟨u1, u2⟩ := ok_app pat s suf offs 0 (-1) (by omega) hv.1
      obtain ⟨t2, offs2, k1, k2⟩ := score_best (s := s ++ suf) hz1 (by rw [ByteArray.size_append]; omega) u1
      rw [u2, hv.2] at k2
      have hsc2 := Lib.hid (fun u => score_any pat (s ++ suf) u hp (by rw [ByteArray.size_append]; unfold maxLen; omega))
      rw [k1] at hsc2
      clear hv u1 u2 k1
      go_enter Try.func5, Try.ntmps5
      go_wp2_with fail
      refine (fex_any _).mono ?_
      rintro e w1 ⟨rfl, b1⟩
      have B1 := Lib.hid b1
      clear b1
      go_wp2_with fail
      refine (hsc.out _).mono ?_
      rintro e w2 ⟨b2, A2, c2, rfl, _⟩
      have B2 := Lib.hid (B1.out.trans (b2.mono B1.out.size))
      clear b2 B1
      go_wp2_with fail
      refine (hsc2.out _).mono ?_
      rintro e w3 ⟨b3, A3, c3, rfl, _⟩
      have B3 := Lib.hid (B2.out.trans (b3.mono B2.out.size))
      clear b3 B2
      go_wp2_with fail
      refine (fex_any _).mono ?_
      rintro e w4 ⟨rfl, b4⟩
      have B4 := Lib.hid (B3.out.trans (b4.mono B3.out.size))
      clear b4 B3
      go_wp2_with fail
      go_ret
      exact ⟨by first | rfl | simp [k2], B4.out⟩

set_option maxRecDepth 100000 in
theorem lifted (os : Os) (started : os.Started) (H : Type) (enc : TypeId × Value → H) :
    ReturnsInHanded {} Try.checked os 5 .any (Rows.fuzzySuffixMonotonicSpec.pre6 enc Try.prog Try.f5 Rows.fuzzySuffixMonotonicRow.domain false) (Rows.fuzzySuffixMonotonicSpec.post enc Try.prog Try.f5 false true false false) := by
  refine returnsInHanded_of_change_sized (C := Try.checked) own started (by kernel_rfl) Try.func5
    (ChangeSpec.witness6 (enc := enc) (C := Try.checked) false ⟨#[], #[.string .empty, .string .empty, .string .empty], []⟩ 8 (by kernel_rfl) (by kernel_rfl) (by kernel_rfl) (by kernel_rfl)) ?_
  intro W base args ds gs before hval0 hW hcnd hsz0 _
  have hval : ∀ (j : Nat) t v, Try.f5.params[j]? = some t → args[j]? = some v → Value.okWide Try.prog W .any base t v := hval0
  have hW' := hW
  obtain ⟨p, q, hA0, hV, rfl, hfz, hnd⟩ := hW
  have hA : DataW.TrodAll enc Try.prog W 0 (fun _ => true) true Try.f5.params.toList args.toList ds p := hA0
  rw [Try.params5] at hA hval
  obtain ⟨v0, vs0, d0, ds0, p0, q0, hargs, rfl, rfl, h0, r0⟩ := trodAll_cons hA
  obtain ⟨v1, vs1, d1, ds1, p1, q1, rfl, rfl, rfl, h1, r1⟩ := trodAll_cons r0
  obtain ⟨v2, vs2, d2, ds2, p2, q2, rfl, rfl, rfl, h2, r2⟩ := trodAll_cons r1
  obtain ⟨rfl, rfl, rfl⟩ := trodAll_nil r2
  obtain rfl : args = #[v0, v1, v2] := by cases args; simp_all
  obtain ⟨rfl, rfl⟩ := trodVars_none hV
  have hsz : (DataW.weightsEach Try.prog [9, 9, 9] [d0, d1, d2]).all (fun x => decide (x ≤ reachBytes)) = true := hsz0
  simp only [DataW.weightsEach, List.all_append, Bool.and_eq_true] at hsz
  obtain ⟨a0, rfl, rfl, rfl, w0⟩ := open_string Try.underlying9 (hval 0 9 v0 rfl rfl) h0
  obtain ⟨a1, rfl, rfl, rfl, w1⟩ := open_string Try.underlying9 (hval 1 9 v1 rfl rfl) h1
  obtain ⟨a2, rfl, rfl, rfl, w2⟩ := open_string Try.underlying9 (hval 2 9 v2 rfl rfl) h2
  have rr2 : a2.size ≤ 140737488351232 := by have := List.all_eq_true.1 hsz.2.2.1 a2.data.toList.length (by simp [DataW.weights]); simpa [reachBytes] using of_decide_eq_true this
  clear hA0 hval0
  refine (walk a0 a1 a2 W w0 w1 w2 rr2).mono fun e W' ⟨he, bel⟩ => ?_
  subst he
  exact ⟨_, rfl, _, _, _, [], _, [], hW', trodAll_mk1 (shut_bool Try.underlying4 _),
    (trodAll_cons_mk (shut_string Try.underlying9 w0) (trodAll_cons_mk (shut_string Try.underlying9 w1) (trodAll_cons_mk (shut_string Try.underlying9 w2) trodAll_mk0))), rfl, bel.frame _, fun h => by cases h⟩

theorem over : Rows.fuzzySuffixMonotonicRow.holds Try.pinned (OpenSpec.ofChange Rows.fuzzySuffixMonotonicSpec) :=
  OpenClaim.holds_of_wide 5 Try.f5 rfl rfl rfl rfl rfl rfl rfl ⟨rfl, rfl, rfl, rfl, rfl⟩ rfl rfl rfl rfl rfl (by kernel_rfl) Try.func5 (by kernel_rfl)
    (of_decide_eq_true (by kernel_rfl)) (by unfold Func.isWrapper; first | (rw [if_pos (by decide +kernel)]; kernel_rfl) | (rw [if_neg (by decide +kernel)]; exact ⟨rfl, rfl⟩))
    (fun os started H enc _ => lifted os started H enc)

theorem proved : Rows.FuzzySuffixMonotonicSaid := over
end Go.Proofs.Ytbnoejdhachhhab.fsuf
