import Derived.Test.YtepadojclmjllaaGreatDoorMxaf
import Derived.Test.YtepadojclmjllaaGreatDoorMxae
/-
  The parser ends: the static check is sound.
-/
namespace Go.Proofs.YtepadojclmjllaaGreatDoor
set_option linter.unusedVariables false

/-- the runs of a loop -/
theorem loop_ends {t : Test} {c : Cmd} {nz : Bool} {a : Int} (ha : a ≤ 0) : ∀ (L : Nat) (s : PS), s.rest.length ≤ L → (nz = true → s.ch ≠ []) →
    (∀ s' : PS, s'.rest.length ≤ s.rest.length → s'.rest <:+ s.rest → t.eval s'.flag s'.rest = true → (nz = true → s'.ch ≠ []) → ∃ u k, Runs c s' u k ∧ u.rest <:+ s'.rest ∧ (nz = true → u.ch ≠ []) ∧
      ((u.rest = s'.rest ∧ k = 0 ∧ t.eval u.flag u.rest = false) ∨ (u.rest.length < s'.rest.length ∧ (k : Int) + cA * u.rest.length ≤ a + cA * s'.rest.length))) →
    Sp (.loop t c) (some 0) (some a) nz false s := by
  intro L
  induction L with
  | zero =>
    intro s hL hn hB
    cases ht : t.eval s.flag s.rest with
    | false => exact ⟨s, 0, Runs.no ht, List.suffix_refl _, hn, .inl ⟨rfl, ⟨0, rfl, Int.le_refl _⟩, fun h => by cases h⟩⟩
    | true =>
      obtain ⟨u, k, hr, hs, hz, h⟩ := hB s (Nat.le_refl _) (List.suffix_refl _) ht hn
      rcases h with ⟨e, rfl, hf⟩ | ⟨e, hk⟩
      · exact ⟨u, 0, Runs.yes ht hr (Runs.no hf), hs, hz, .inl ⟨e, ⟨0, rfl, Int.le_refl _⟩, fun h => by cases h⟩⟩
      · omega
  | succ L ih =>
    intro s hL hn hB
    cases ht : t.eval s.flag s.rest with
    | false => exact ⟨s, 0, Runs.no ht, List.suffix_refl _, hn, .inl ⟨rfl, ⟨0, rfl, Int.le_refl _⟩, fun h => by cases h⟩⟩
    | true =>
      obtain ⟨u, k, hr, hs, hz, h⟩ := hB s (Nat.le_refl _) (List.suffix_refl _) ht hn
      rcases h with ⟨e, rfl, hf⟩ | ⟨e, hk⟩
      · exact ⟨u, 0, Runs.yes ht hr (Runs.no hf), hs, hz, .inl ⟨e, ⟨0, rfl, Int.le_refl _⟩, fun h => by cases h⟩⟩
      · obtain ⟨v, l, hr2, hs2, hz2, h2⟩ := ih u (by omega) hz fun s' hl hsf => hB s' (by omega) (hsf.trans hs)
        refine ⟨v, k + l, Runs.yes ht hr hr2, hs2.trans hs, hz2, .inr ⟨Nat.lt_of_le_of_lt hs2.length_le e, a, rfl, ?_⟩⟩
        rcases h2 with ⟨e2, ⟨b, hb, hl⟩, _⟩ | ⟨e2, b, hb, hl⟩
        · injection hb with hb
          rw [e2]; push_cast; omega
        · injection hb with hb
          push_cast; omega
theorem chk_sound (T : Fn → Fact → Option TEnt) (L r : Nat)
    (H1 : ∀ f φ e (s : PS), T f φ = some e → s.rest.length < L → φ.Holds s.rest → (e.needs = true → s.ch ≠ []) → ∀ nz : Bool, (nz = true → s.ch ≠ []) → Sp (.call f) e.k0 e.k1 (nz || e.gives) false s)
    (H2 : ∀ f φ e (s : PS), T f φ = some e → e.rank < r → s.rest.length ≤ L → φ.Holds s.rest → (e.needs = true → s.ch ≠ []) → ∀ nz : Bool, (nz = true → s.ch ≠ []) → Sp (.call f) e.k0 e.k1 (nz || e.gives) false s) :
    ∀ (c : Cmd) (φ : Fact) (fresh nz : Bool) (x : Res) (s : PS), chk T r φ fresh nz c = some x → s.rest.length ≤ L → (fresh = false → s.rest.length < L) → φ.Holds s.rest → (nz = true → s.ch ≠ []) → Sp c x.k0 x.k1 x.nz x.f0 s
  | .skip, φ, fresh, nz, x, s, h, hL, hf, hφ, hn => by
    simp only [chk, Option.some.injEq] at h
    subst h
    exact ⟨s, 0, ⟨1, fun g => by rw [run_step]; rfl⟩, List.suffix_refl _, hn, .inl ⟨rfl, ⟨0, rfl, Int.le_refl _⟩, fun h => by cases h⟩⟩
  | .setFlag b, φ, fresh, nz, x, s, h, hL, hf, hφ, hn => by
    simp only [chk, Option.some.injEq] at h
    subst h
    exact ⟨{ s with flag := b }, 0, ⟨1, fun g => by rw [run_step]; rfl⟩, List.suffix_refl _, hn, .inl ⟨rfl, ⟨0, rfl, Int.le_refl _⟩, fun h => h⟩⟩
  | .bump, φ, fresh, nz, x, s, h, hL, hf, hφ, hn => by
    simp only [chk, Option.some.injEq] at h
    subst h
    exact Sp.bump hφ hn
  | .trivia, φ, fresh, nz, x, s, h, hL, hf, hφ, hn => by
    simp only [chk, Option.some.injEq] at h
    subst h
    exact Sp.trivia hn
  | .leaf i, φ, fresh, nz, x, s, h, hL, hf, hφ, hn => by
    simp only [chk, Option.some.injEq] at h
    subst h
    exact ⟨{ s with ch := s.ch ++ [.mk i .empty []] }, 1, ⟨1, fun g => by rw [run_step]; exact add_runs s [.mk i .empty []] g⟩, List.suffix_refl _, fun _ => by simp, .inl ⟨rfl, ⟨1, rfl, Int.le_refl _⟩, fun h => by cases h⟩⟩
  | .dropLast, φ, fresh, nz, x, s, h, hL, hf, hφ, hn => by
    simp only [chk] at h
    split at h
    · next e =>
      injection h with h
      subst h
      refine ⟨{ s with ch := s.ch.dropLast }, 0, ⟨1, fun g => ?_⟩, List.suffix_refl _, (fun h => by cases h), .inl ⟨rfl, ⟨0, rfl, Int.le_refl _⟩, fun h => by cases h⟩⟩
      rw [run_step]
      have := hn e
      simp only [stepR]
      split
      · next h2 => exact absurd h2 this
      · rfl
    · cases h
  | .insNone, φ, fresh, nz, x, s, h, hL, hf, hφ, hn => by
    simp only [chk] at h
    split at h
    · next e =>
      injection h with h
      subst h
      obtain ⟨y, hy⟩ : ∃ y, s.ch.getLast? = some y := ⟨_, List.getLast?_eq_some_getLast (hn e)⟩
      refine ⟨{ s with ch := s.ch.dropLast ++ [.mk 0 .empty [], y] }, 1, ⟨1, fun g => ?_⟩, List.suffix_refl _, fun _ => by simp, .inl ⟨rfl, ⟨1, rfl, Int.le_refl _⟩, fun h => by cases h⟩⟩
      rw [run_step]
      simp only [stepR, hy]
      rw [if_pos (by omega)]
      rfl
    · cases h
  | .node i c, φ, fresh, nz, x, s, h, hL, hf, hφ, hn => by
    simp only [chk] at h
    obtain ⟨y, hy, rfl⟩ := Option.map_eq_some_iff.1 h
    obtain ⟨u, k, hr, hs, hz, h⟩ := chk_sound T L r H1 H2 c φ fresh false y { s with ch := [] } hy hL hf hφ (fun h => by cases h)
    refine ⟨_, k + 1, hr.node, hs, fun _ => by simp, ?_⟩
    rcases h with ⟨e, ⟨a, ha, hk⟩, _⟩ | ⟨e, a, ha, hk⟩
    · exact .inl ⟨e, ⟨1 + a, by rw [ha]; rfl, by push_cast; omega⟩, fun h => by cases h⟩
    · refine .inr ⟨e, 1 + a, by rw [ha]; rfl, ?_⟩
      simp only at hk ⊢
      push_cast; omega
  | .wrap i c, φ, fresh, nz, x, s, h, hL, hf, hφ, hn => by
    simp only [chk] at h
    split at h
    · next e =>
      obtain ⟨y, hy, rfl⟩ := Option.map_eq_some_iff.1 h
      obtain ⟨z, hz⟩ : ∃ y, s.ch.getLast? = some y := ⟨_, List.getLast?_eq_some_getLast (hn e)⟩
      obtain ⟨u, k, hr, hs, hz2, h⟩ := chk_sound T L r H1 H2 c φ fresh true y { s with ch := [z] } hy hL hf hφ (fun h => by simp)
      refine ⟨_, k + 1, hr.wrap hz, hs, fun _ => by simp, ?_⟩
      rcases h with ⟨e, ⟨a, ha, hk⟩, _⟩ | ⟨e, a, ha, hk⟩
      · exact .inl ⟨e, ⟨1 + a, by rw [ha]; rfl, by push_cast; omega⟩, fun h => by cases h⟩
      · refine .inr ⟨e, 1 + a, by rw [ha]; rfl, ?_⟩
        simp only at hk ⊢
        push_cast; omega
    · cases h
  | .seq c d, φ, fresh, nz, x, s, h, hL, hf, hφ, hn => by
    simp only [chk] at h
    obtain ⟨y, hy, h⟩ := Option.bind_eq_some_iff.1 h
    obtain ⟨z, hz, h⟩ := Option.bind_eq_some_iff.1 h
    obtain ⟨v, hv, rfl⟩ := Option.map_eq_some_iff.1 h
    refine Sp.then (chk_sound T L r H1 H2 c φ fresh nz y s hy hL hf hφ hn) (fun _ _ _ => d) (fun u v k l h1 h2 => h1.seq h2) (fun u e ha hn2 => ?_) (fun u e hs ha hn2 => ?_)
    · obtain ⟨a, ha⟩ := ha
      rw [if_neg (by rw [ha]; simp)] at hz
      exact (chk_sound T L r H1 H2 d φ fresh y.nz z u hz (by rw [e]; exact hL) (by rw [e]; exact hf) (by rw [e]; exact hφ) hn2).weak (fun a h => ⟨a, h, Int.le_refl _⟩) (fun a h => ⟨a, h, Int.le_refl _⟩) (fun h => h) (fun _ h => by cases h)
    · obtain ⟨a, ha⟩ := ha
      rw [if_neg (by rw [ha]; simp)] at hv
      exact (chk_sound T L r H1 H2 d .any false y.nz v u hv (by omega) (fun _ => by omega) True.intro hn2).weak (fun a h => ⟨a, h, Int.le_refl _⟩) (fun a h => ⟨a, h, Int.le_refl _⟩) (fun h => h) (fun _ h => by cases h)
  | .moved c d m, φ, fresh, nz, x, s, h, hL, hf, hφ, hn => by
    simp only [chk] at h
    obtain ⟨y, hy, h⟩ := Option.bind_eq_some_iff.1 h
    obtain ⟨z, hz, h⟩ := Option.bind_eq_some_iff.1 h
    obtain ⟨v, hv, rfl⟩ := Option.map_eq_some_iff.1 h
    refine Sp.then (chk_sound T L r H1 H2 c φ fresh nz y s hy hL hf hφ hn) (fun _ _ u => if u.rest.length = s.rest.length then d else m) (fun u v k l h1 h2 => h1.moved h2) (fun u e ha hn2 => ?_) (fun u e hs ha hn2 => ?_)
    · obtain ⟨a, ha⟩ := ha
      rw [if_neg (by rw [ha]; simp)] at hz
      rw [if_pos (by rw [e])]
      exact (chk_sound T L r H1 H2 d φ fresh y.nz z u hz (by rw [e]; exact hL) (by rw [e]; exact hf) (by rw [e]; exact hφ) hn2).weak (fun a h => ⟨a, h, Int.le_refl _⟩) (fun a h => ⟨a, h, Int.le_refl _⟩) (fun h => h) (fun _ h => by cases h)
    · obtain ⟨a, ha⟩ := ha
      rw [if_neg (by rw [ha]; simp)] at hv
      rw [if_neg (by omega)]
      exact (chk_sound T L r H1 H2 m .any false y.nz v u hv (by omega) (fun _ => by omega) True.intro hn2).weak (fun a h => ⟨a, h, Int.le_refl _⟩) (fun a h => ⟨a, h, Int.le_refl _⟩) (fun h => h) (fun _ h => by cases h)
  | .ite t c d, φ, fresh, nz, x, s, h, hL, hf, hφ, hn => by
    simp only [chk] at h
    split at h
    · next e =>
      obtain ⟨e1, rfl⟩ := e
      have ht : t.eval s.flag s.rest = true := (isLb_sound e1 _ _).trans hφ
      obtain ⟨u, k, hr, h⟩ := chk_sound T L r H1 H2 c .lb fresh nz x s h hL hf hφ hn
      exact ⟨u, k, Runs.ite (by rw [if_pos ht]; exact hr), h⟩
    · obtain ⟨y, hy, h⟩ := Option.bind_eq_some_iff.1 h
      obtain ⟨z, hz, rfl⟩ := Option.map_eq_some_iff.1 h
      cases ht : t.eval s.flag s.rest with
      | true =>
        obtain ⟨u, k, hr, h⟩ := (chk_sound T L r H1 H2 c _ fresh nz y s hy hL hf (Fact.holds_sup hφ (factOf_sound t _ _ ht)) hn).weak (k0' := omax y.k0 z.k0) (k1' := omax y.k1 z.k1) (nz' := y.nz && z.nz) (f0' := (y.k0.isNone || y.f0) && (z.k0.isNone || z.f0)) (fun a => omax_l) (fun a => omax_l) (fun e => (Bool.and_eq_true _ _ ▸ e).1) (fun e1 e2 => by
          have := (Bool.and_eq_true _ _ ▸ e2).1
          simp only [Bool.or_eq_true] at this
          rcases this with h | h
          · rw [Option.isNone_iff_eq_none] at h; rw [h] at e1; cases e1
          · exact h)
        exact ⟨u, k, Runs.ite (by rw [if_pos ht]; exact hr), h⟩
      | false =>
        obtain ⟨u, k, hr, h⟩ := (chk_sound T L r H1 H2 d _ fresh nz z s hz hL hf hφ hn).weak (k0' := omax y.k0 z.k0) (k1' := omax y.k1 z.k1) (nz' := y.nz && z.nz) (f0' := (y.k0.isNone || y.f0) && (z.k0.isNone || z.f0)) (fun a => omax_r) (fun a => omax_r) (fun e => (Bool.and_eq_true _ _ ▸ e).2) (fun e1 e2 => by
          have := (Bool.and_eq_true _ _ ▸ e2).2
          simp only [Bool.or_eq_true] at this
          rcases this with h | h
          · rw [Option.isNone_iff_eq_none] at h; rw [h] at e1; cases e1
          · exact h)
        exact ⟨u, k, Runs.ite (by rw [if_neg (by rw [ht]; decide)]; exact hr), h⟩
  | .loop t c, φ, fresh, nz, x, s, h, hL, hf, hφ, hn => by
    simp only [chk] at h
    obtain ⟨y, hy, h⟩ := Option.bind_eq_some_iff.1 h
    split at h
    · next e =>
      injection h with h
      subst h
      obtain ⟨e0, e1, e2⟩ := e
      refine loop_ends e2 s.rest.length s (Nat.le_refl _) hn fun s' hl hsf ht hn' => ?_
      obtain ⟨u, k, hr, hs, hz, h⟩ := chk_sound T L r H1 H2 c _ fresh nz y s' hy (by omega) (fun e => by have := hf e; omega) (factOf_sound t _ _ ht) hn'
      refine ⟨u, k, hr, hs, fun e => hz (e1 e), ?_⟩
      rcases h with ⟨e3, ⟨a, ha, hk⟩, hfl⟩ | ⟨e3, a, ha, hk⟩
      · rcases e0 with e0 | ⟨e0, e4, e5⟩
        · rw [e0] at ha; cases ha
        · rw [e0] at ha
          injection ha with ha
          exact .inl ⟨e3, by omega, by rw [hfl e4]; exact stops_sound t _ e5⟩
      · rw [ha]
        exact .inr ⟨e3, hk⟩
    · cases h
  | .call f, φ, fresh, nz, x, s, h, hL, hf, hφ, hn => by
    simp only [chk] at h
    obtain ⟨e, he, h⟩ := Option.bind_eq_some_iff.1 h
    split at h
    · next e1 =>
      injection h with h
      subst h
      cases fresh with
      | true => exact H2 f φ e s he (e1.1 rfl) hL hφ (fun h => hn (e1.2 h)) nz hn
      | false => exact H1 f φ e s he (hf rfl) hφ (fun h => hn (e1.2 h)) nz hn
    · cases h
end Go.Proofs.YtepadojclmjllaaGreatDoor

/-
  The parser ends.
-/
namespace Go.Proofs.YtepadojclmjllaaGreatDoor
set_option linter.unusedVariables false

theorem fnChk_none {f : Fn} {φ : Fact} (h : tab f φ = none) : fnChk f φ = true := by unfold fnChk; rw [h]
theorem fnChk_all (f : Fn) (φ : Fact) : fnChk f φ = true := by
  cases f with
  | path b => cases b <;> cases φ <;> decide +kernel
  | function b => cases b <;> cases φ <;> decide +kernel
  | params c =>
    by_cases h : c = pRp
    · subst h; cases φ <;> decide +kernel
    · by_cases h2 : c = pBar
      · subst h2; cases φ <;> decide +kernel
      · exact fnChk_none (by simp [tab, h, h2])
  | binary l =>
    by_cases h : l ≤ 5
    · obtain rfl | rfl | rfl | rfl | rfl | rfl : l = 0 ∨ l = 1 ∨ l = 2 ∨ l = 3 ∨ l = 4 ∨ l = 5 := by omega
      all_goals cases φ <;> decide +kernel
    · exact fnChk_none (by simp only [tab]; rw [if_neg h])
  | itemBody k =>
    by_cases h : 2 ≤ k ∧ k ≤ 9
    · obtain rfl | rfl | rfl | rfl | rfl | rfl | rfl | rfl : k = 2 ∨ k = 3 ∨ k = 4 ∨ k = 5 ∨ k = 6 ∨ k = 7 ∨ k = 8 ∨ k = 9 := by omega
      all_goals cases φ <;> decide +kernel
    · exact fnChk_none (by simp only [tab]; rw [if_neg h])
  | dataType k =>
    by_cases h : k = 4 ∨ k = 5
    · obtain rfl | rfl := h
      all_goals cases φ <;> decide +kernel
    · exact fnChk_none (by simp only [tab]; rw [if_neg h])
  | _ => cases φ <;> decide +kernel
theorem ole_sound {a b : Option Int} (h : ole a b = true) : ∀ x, a = some x → ∃ y, b = some y ∧ x ≤ y := by
  intro x hx
  subst hx
  cases b with
  | none => cases h
  | some y => exact ⟨y, rfl, by simpa [ole] using h⟩
theorem fn_ends : ∀ (L r : Nat) (f : Fn) (φ : Fact) (e : TEnt) (s : PS), tab f φ = some e → e.rank < r → s.rest.length ≤ L → φ.Holds s.rest → (e.needs = true → s.ch ≠ []) → ∀ nz : Bool, (nz = true → s.ch ≠ []) → Sp (.call f) e.k0 e.k1 (nz || e.gives) false s := by
  intro L
  induction L using Nat.strongRecOn with
  | ind L ihL =>
    intro r
    induction r with
    | zero => intro f φ e s _ h; omega
    | succ r ihr =>
      intro f φ e s he hr hL hφ hn nz hz
      have hc := fnChk_all f φ
      unfold fnChk at hc
      rw [he] at hc
      simp only [Bool.and_eq_true] at hc
      have hS : ∀ (b : Bool) (x : Res), chk tab e.rank φ true b (body f) = some x → (b = true → s.ch ≠ []) → resOk e b x = true → (nz = true → b = true) → Sp (.call f) e.k0 e.k1 (nz || e.gives) false s := by
        intro b x hx hb ho hnb
        have h := chk_sound tab L e.rank (fun f φ e s h1 h2 h3 h4 => ihL s.rest.length h2 (e.rank + 1) f φ e s h1 (Nat.lt_succ_self _) (Nat.le_refl _) h3 h4) (fun f φ e' s h1 h2 h3 h4 h5 => ihr f φ e' s h1 (by omega) h3 h4 h5) (body f) φ true b x s hx hL (fun h => by cases h) hφ hb
        unfold resOk at ho
        simp only [Bool.and_eq_true, Bool.or_eq_true, Bool.not_eq_true'] at ho
        obtain ⟨⟨o1, o2⟩, o3⟩ := ho
        obtain ⟨u, k, h1, h2⟩ := h.weak (ole_sound o1) (ole_sound o2) (nz' := nz || e.gives) (f0' := false) (fun h => by
          rcases o3 with o3 | o3
          · rw [Bool.or_eq_false_iff] at o3
            rw [Bool.or_eq_true] at h
            rcases h with h | h
            · rw [hnb h] at o3; cases o3.2
            · rw [h] at o3; cases o3.1
          · exact o3) (fun _ h => by cases h)
        exact ⟨u, k, h1.call, h2⟩
      cases nz with
      | true =>
        have h2 := hc.2
        split at h2
        · cases h2
        · next x hx => exact hS true x hx hz h2 (fun _ => rfl)
      | false =>
        have h1 := hc.1
        split at h1
        · cases h1
        · next x hx => exact hS e.needs x hx hn h1 (fun h => by cases h)
theorem file_ends (ts : List Tok) (h : ts.length ≤ 2000) : ∃ n u, run n fileC ⟨ts, [], false, 600000⟩ = some u := by
  obtain ⟨x, hx, hk0, hk1⟩ : ∃ x, chk tab 200 .any true false fileC = some x ∧ ole x.k0 (some 0) = true ∧ ole x.k1 (some 0) = true := by
    have : (match chk tab 200 .any true false fileC with | none => false | some x => ole x.k0 (some 0) && ole x.k1 (some 0)) = true := by decide +kernel
    split at this
    · cases this
    · next x hx => exact ⟨x, hx, by simpa using this⟩
  obtain ⟨u, k, ⟨n, hr⟩, hs, _, h2⟩ := chk_sound tab ts.length 200 (fun f φ e s h1 h2 h3 h4 => fn_ends s.rest.length (e.rank + 1) f φ e s h1 (Nat.lt_succ_self _) (Nat.le_refl _) h3 h4) (fun f φ e s h1 h2 h3 h4 h5 => fn_ends ts.length 200 f φ e s h1 h2 h3 h4 h5) fileC .any true false x ⟨ts, [], false, 600000⟩ hx (Nat.le_refl _) (fun h => by cases h) True.intro (fun h => by cases h)
  have hk : (k : Int) ≤ 400000 := by
    rcases h2 with ⟨_, ⟨a, ha, hk⟩, _⟩ | ⟨_, a, ha, hk⟩
    · obtain ⟨b, hb, hab⟩ := ole_sound hk0 a ha
      injection hb with hb; omega
    · obtain ⟨b, hb, hab⟩ := ole_sound hk1 a ha
      injection hb with hb
      simp only [cA] at hk; omega
  have e := hr (599999 - k)
  rw [show 599999 - k + k + 1 = 600000 by omega] at e
  exact ⟨n, _, e⟩
end Go.Proofs.YtepadojclmjllaaGreatDoor

/-
  (*parser).bump, accept, the placeholders: the walk.
-/
namespace Go.Proofs.YtepadojclmjllaaGreatDoor
open Go.RowKit
set_option linter.unusedVariables false

theorem add_append {s s' : PS} {a b : List Tree} (h : s.add (a ++ b) = some s') : ∃ u, s.add a = some u ∧ u.add b = some s' ∧ u.rest = s.rest := by
  unfold PS.add at h
  split at h
  · next hg =>
    rw [List.length_append] at hg h
    injection h with h
    refine ⟨{ s with ch := s.ch ++ a, gas := s.gas - a.length }, ?_, ?_, rfl⟩
    · unfold PS.add; rw [if_pos (by omega)]
    · unfold PS.add; rw [if_pos (by show b.length < s.gas - a.length; omega), ← h]
      simp only [List.append_assoc]
      congr 2
      omega
  · cases h
theorem trivs_sig (r : List Tok) : r = trivs r ++ sig r := by
  induction r with
  | nil => rfl
  | cons x r ih =>
    cases h : isTriv x
    · rw [trivs_not h, sig_cons_not h]; rfl
    · rw [trivs_triv h, sig_cons_triv h, List.cons_append, ← ih]
theorem taken_eq (r : List Tok) : taken r = trivs r ++ (sig r).take 1 := by
  have h := trivs_sig r
  unfold taken after
  generalize trivs r = T at *
  generalize sig r = S at *
  subst h
  cases S with
  | nil => simp
  | cons x t =>
    simp only [List.length_append, List.length_cons, List.drop_succ_cons, List.drop_zero, List.take_succ_cons, List.take_zero]
    rw [List.take_append, show T.length + (t.length + 1) - t.length - T.length = 1 by omega, List.take_of_length_le (by omega)]
    rfl
theorem bump_split {s s' : PS} (h : s.bump = some s') : ∃ u, s.triv = some u ∧ ((u.rest = [] ∧ s' = u) ∨ ∃ x r, u.rest = x :: r ∧ u.tok x r = some s') := by
  unfold PS.bump at h
  rw [taken_eq, List.map_append] at h
  obtain ⟨v, hv, rfl⟩ := Option.map_eq_some_iff.1 h
  obtain ⟨u, h1, h2, h3⟩ := add_append hv
  refine ⟨{ u with rest := sig s.rest }, by unfold PS.triv; rw [h1]; rfl, ?_⟩
  cases hs : sig s.rest with
  | nil =>
    rw [hs] at h2
    simp only [List.take_nil, List.map_nil] at h2
    have := add_nil h2
    subst this
    exact .inl ⟨rfl, by unfold after; rw [hs]; rfl⟩
  | cons x r =>
    right
    refine ⟨x, r, rfl, ?_⟩
    rw [hs] at h2
    simp only [List.take_succ_cons, List.take_zero, List.map_cons, List.map_nil] at h2
    unfold PS.tok PS.add at *
    split at h2
    · next hg =>
      injection h2 with h2
      simp only
      rw [if_pos hg, ← h2]
      unfold after
      rw [hs]
      rfl
    · cases h2

set_option maxRecDepth 100000 in
set_option maxHeartbeats 1600000 in
theorem bump_any (w : World) (p : Nat) (M : MM) (toks : List Tok) (low : List LowF) (kind : Int) (s s' : PS) (h : PAt w p M toks low kind s) (hs : s.bump = some s') :
    Calls Tryz.prog 59 #[.pointer (some ⟨p, 0, none⟩)] w (Post M w p toks low kind s' (.tuple #[])) := by
  obtain ⟨u, h1, h2⟩ := bump_split hs
  have hcall := Lib.hid (skipTrivia_any w p M toks low kind s u h h1)
  have H2 := Lib.hid h2
  clear h hs h1 h2
  go_enter Tryz.func59, Tryz.ntmps59
  go_wp2_with fail
  refine hcall.out.mono ?_
  rintro e w1 ⟨rfl, M1, hp1, hst1⟩
  have HP := Lib.hid hp1
  have HST := Lib.hid hst1
  clear hp1 hst1 hcall
  obtain ⟨g, cap, v, At, ct, hX⟩ := HP.out
  obtain ⟨c0, c1, c2⟩ := hX.cells
  have hle := hX.rest.length_le
  have hbt := hX.btok
  have hplt := lt_of_heap hX.blk
  rcases H2.out with ⟨hr, rfl⟩ | ⟨x, r, hr, ht⟩
  · rw [hr] at c1
    simp only [List.length_nil, Nat.sub_zero] at c1
    clear hX hr hle H2
    generalize toks.length = L at *
    go_wp2_with fail
    go_region
    have HB := Lib.hid (show Below w1.heap.size w1 w1.drew from (Below.refl _ _).drew)
    have HP2 := Lib.hid (HP.out.below HB.out)
    clear c0 c1 c2
    try generalize w1.drew = w2 at *
    go_wp2_with fail
    go_end0
    exact ⟨rfl, M1, HP2.out, HST.out.trans (Step.of_below HB.out)⟩
  · rw [hr] at c1 hle
    simp only [List.length_cons] at c1 hle
    have hmlt : toks.length - (r.length + 1) < toks.length := by omega
    generalize toks.length - (r.length + 1) = m at *
    have hmI : (m : Int) < toks.length := by omega
    have HB := Lib.hid (show Below w1.heap.size w1 w1.drew from (Below.refl _ _).drew)
    have HP2 := Lib.hid (HP.out.below HB.out)
    have hcall := Lib.hid (addToken_any _ p M1 toks low kind u s' x r hr HP2.out ht)
    clear hX hr H2 ht HP
    go_wp2_with fail
    go_region
    clear c0 c1 c2
    generalize w1.drew = w2 at *
    go_wp2_with fail
    refine hcall.out.mono ?_
    rintro e w3 ⟨rfl, M3, hp3, hst3⟩
    have HP3 := Lib.hid hp3
    have HST3 := Lib.hid ((HST.out.trans (Step.of_below HB.out)).trans hst3)
    clear hp3 hst3 hcall HP2
    go_wp2_with fail
    go_end0
    exact ⟨rfl, M3, HP3.out, HST3.out⟩
end Go.Proofs.YtepadojclmjllaaGreatDoor
