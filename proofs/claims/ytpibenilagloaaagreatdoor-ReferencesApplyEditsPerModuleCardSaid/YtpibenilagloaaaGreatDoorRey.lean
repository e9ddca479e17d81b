/-
  ReferencesApplyEditsPerModule answers true at every input: the row, and the tied card. No condition.
-/
import Derived.Test.YtpibenilagloaaaGreatDoorFra
import Derived.Test.YtpibenilagloaaaGreatDoorRzah
import Derived.Test.YtpibenilagloaaaGreatDoorRzak
import Derived.Test.YtpibenilagloaaaGreatDoorCards
import Derived.Test.YtpibenilagloaaaGreatDoorTie
namespace Go.Proofs.YtpibenilagloaaaGreatDoor.ral
open Go.ChangeShapes Go.WideShapes Go.ChangeAt Go.RowKit
open Go.ChangeMaps (open_string shut_string)
set_option linter.unusedVariables false

set_option maxRecDepth 100000 in
theorem lifted (os : Os) (started : os.Started) (H : Type) (enc : TypeId × Value → H) :
    ReturnsInHanded {} Tryz.checked os 6 .any (fun w args => (Rows.referencesApplyEditsPerModuleSpec.pre enc Tryz.prog Tryz.f6 [] false w args ∧ laidMetH Tryz.prog Rows.referencesApplyEditsPerModuleRow.laid w) ∧ sizedMet enc Tryz.prog Tryz.f6 (OpenSpec.ofChange Rows.referencesApplyEditsPerModuleSpec) false w args)
      (Rows.referencesApplyEditsPerModuleSpec.post enc Tryz.prog Tryz.f6 false true false false) := by
  refine returnsInHanded_of_change_and (C := Tryz.checked) (X := fun w _ => laidMetH Tryz.prog Rows.referencesApplyEditsPerModuleRow.laid w) (fun _ _ _ hh h => h.of_heap hh) own started (by kernel_rfl) Tryz.func6
    (ChangeSpec.witness_shaped (enc := enc) (C := Tryz.checked) (os := os) (X := fun w _ => laidMetH Tryz.prog Rows.referencesApplyEditsPerModuleRow.laid w) false (World.laidAll Tryz.prog os Rows.referencesApplyEditsPerModuleRow.laid) #[.slice none 0 0, .slice none 0 0] 8 (World.laidAll_os _ _ _)
      (World.shaped_of_ZipB (by kernel_rfl) (by kernel_rfl)) (by kernel_rfl) (by kernel_rfl) (by kernel_rfl)
      (by rw [MakeChecks.laidMetH_plain _ _ _ (by kernel_rfl)]; exact laidMet_laidAll _ (by kernel_rfl) (by kernel_rfl))) ?_
  intro W base args ds gs before hval0 hW _ hsz0 hL _
  have hval : ∀ (j : Nat) t v, Tryz.f6.params[j]? = some t → args[j]? = some v → Value.okWide Tryz.prog W .any base t v := hval0
  have hW' := hW
  obtain ⟨p, q, hA0, hV, rfl, hfz, hnd⟩ := hW
  have hA : DataW.TrodAll enc Tryz.prog W 0 (fun _ => true) true Tryz.f6.params.toList args.toList ds p := hA0
  rw [Tryz.params6] at hA hval
  obtain ⟨v0, vs0, d0, ds0, p0, q0, hargs, rfl, rfl, h0, r0⟩ := trodAll_cons hA
  obtain ⟨v1, vs1, d1, ds1, p1, q1, rfl, rfl, rfl, h1, r1⟩ := trodAll_cons r0
  obtain ⟨rfl, rfl, rfl⟩ := trodAll_nil r1
  obtain rfl : args = #[v0, v1] := by cases args; simp_all
  obtain ⟨rfl, rfl⟩ := trodVars_none hV
  have hsz : (DataW.weightsEach Tryz.prog [41, 42] [d0, d1]).all (fun x => decide (x ≤ reachBytes)) = true := hsz0
  simp only [DataW.weightsEach, List.all_append, Bool.and_eq_true] at hsz
  obtain ⟨A0, c0, es0, rfl, hE0, hm0, hb0, hc0⟩ := open_md (hval 0 41 v0 rfl rfl) h0 hsz.1
  have lt0 : ∀ x ∈ p0, x.block < W.heap.size := by obtain ⟨m, hm⟩ := h0; exact DataW.trod_lt m _ _ _ hm
  obtain ⟨A1, c1, es1, rfl, hE1, hm1, hb1, hc1⟩ := open_fe (hval 1 42 v1 rfl rfl) h1 hsz.2.1
  have lt1 : ∀ x ∈ p1, x.block < W.heap.size := by obtain ⟨m, hm⟩ := h1; exact DataW.trod_lt m _ _ _ hm
  clear hA0 hval0
  rw [MakeChecks.laidMetH_plain _ _ _ (by kernel_rfl)] at hL
  have hg := gl_of_laid hL (by simp [Rows.referencesApplyEditsPerModuleRow]) (by simp [Rows.referencesApplyEditsPerModuleRow])
  refine (ral_any es1 es0 A0 A1 c0 c1 W hg.1 hE0 hc0 hb0 hE1 hm1 hb1 (fun w2 hb => refEx_any w2 (gl_below hg hb))).mono fun e W' ⟨he, bel⟩ => ?_
  subst he
  exact ⟨_, rfl, _, _, _, [], _, [], hW', trodAll_mk1 (shut_bool Tryz.underlying4 _),
    (trodAll_cons_mk (Below.trod laidOut (by kernel_rfl) (of_decide_eq_true (by kernel_rfl)) h0 bel lt0) (trodAll_cons_mk (Below.trod laidOut (by kernel_rfl) (of_decide_eq_true (by kernel_rfl)) h1 bel lt1) trodAll_mk0)), rfl, bel.frame _, fun h => by cases h⟩

theorem and_t {a b : Bool} (h1 : a = true) (h2 : b = true) : (a && b) = true := by rw [h1, h2]; rfl
set_option maxRecDepth 100000 in
set_option maxHeartbeats 40000000 in
theorem closed : joinedFacts Tryz.prog 6 Tryz.f6 Rows.referencesApplyEditsPerModuleSpec Rows.referencesApplyEditsPerModuleRow = true := by
  unfold joinedFacts
  refine and_t (and_t (and_t (and_t (and_t (and_t (and_t (and_t (and_t (and_t (and_t (and_t (and_t (and_t (and_t (and_t (and_t (and_t (and_t (and_t (and_t (and_t (and_t (and_t (and_t (and_t (and_t (and_t (and_t (and_t (and_t ?_ ?_) ?_) ?_) ?_) ?_) ?_) ?_) ?_) fct_in) fct_un) fct_rc) fct_nm) ?_) ?_) ?_) ?_) ?_) ?_) ?_) ?_) ?_) ?_) ?_) ?_) ?_) ?_) ?_) ?_) ?_) ?_) ?_
  all_goals (as_aux_lemma => kernel_rfl)
theorem over : Rows.referencesApplyEditsPerModuleRow.holds Tryz.pinned (OpenSpec.ofChange Rows.referencesApplyEditsPerModuleSpec) :=
  OpenClaim.holds_of_wide 6 Tryz.f6 rfl rfl rfl rfl rfl rfl rfl ⟨rfl, rfl, rfl, rfl, rfl⟩ rfl rfl rfl rfl rfl (by as_aux_lemma => kernel_rfl) Tryz.func6 closed
    (of_decide_eq_true (by kernel_rfl)) (by unfold Func.isWrapper; first | (rw [if_pos (by decide +kernel)]; kernel_rfl) | (rw [if_neg (by decide +kernel)]; exact ⟨rfl, rfl⟩))
    (fun os started H enc _ => lifted os started H enc)

set_option maxRecDepth 100000 in
theorem fct_w : Rows.referencesApplyEditsPerModuleRow.wfByText (OpenSpec.ofChange Rows.referencesApplyEditsPerModuleSpec) = true := by kernel_rfl
set_option maxRecDepth 100000 in
theorem fct_m : Tryz.pinned.checked.prog.mainIs = some (true, "b98ef5ccb5fb38fc2b57550c637b72a9e11446e212d5a157ca462320148b879f".toList) := by kernel_rfl
theorem proved : Rows.ReferencesApplyEditsPerModuleCardSaid :=
  Claim7.holds_tied_plain_at .later [] [.data, .data, .data, .sentinel, .sentinel, .listed, .data] true (true, "b98ef5ccb5fb38fc2b57550c637b72a9e11446e212d5a157ca462320148b879f") true
    over (fun _ h => by cases h) fct_w (fun _ h => by cases h) referencesApplyEditsPerModule_row_tie rfl ⟨rfl, rfl⟩ fct_m rfl
    (fun f fn hf hfn => by
      obtain rfl : f = 6 := (Option.some.inj ((show Tryz.prog.funcNamed "glossator/glossatorkeep4.ReferencesApplyEditsPerModule" = some 6 by kernel_rfl).symm.trans hf)).symm
      obtain rfl : fn = Tryz.f6 := (Option.some.inj (Tryz.func6.symm.trans hfn)).symm
      exact ⟨fct_l, fun j t ht => by
        rw [Tryz.params6] at ht
        have h3 : t = 41 ∨ t = 42 := by
          match j, ht with
          | 0, ht => simp at ht; subst ht; simp
          | 1, ht => simp at ht; subst ht; simp
          | j + 2, ht => simp at ht
        rcases h3 with rfl | rfl
        · exact (show Tryz.prog.wantsStandIn 41 = false by kernel_rfl)
        · exact (show Tryz.prog.wantsStandIn 42 = false by kernel_rfl)⟩)
    fct_g
#print axioms proved
end Go.Proofs.YtpibenilagloaaaGreatDoor.ral
