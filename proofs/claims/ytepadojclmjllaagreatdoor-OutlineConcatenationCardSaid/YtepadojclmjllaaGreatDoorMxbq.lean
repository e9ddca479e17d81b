import Derived.Test.YtepadojclmjllaaGreatDoorMxai
import Derived.Test.YtepadojclmjllaaGreatDoorMxbp
/-
  The syntax tree's nodes nest; items are few levels deep.
-/
namespace Go.Proofs.YtepadojclmjllaaGreatDoor
set_option linter.unusedVariables false

mutual
/-- a node lies between lo and hi, its children in it, one behind the other -/
def nest : Int → Int → Node → Prop
  | lo, hi, .mk h ch => lo ≤ h.s ∧ h.s ≤ h.e ∧ h.e ≤ hi ∧ nests h.s h.e ch
def nests : Int → Int → List Node → Prop
  | lo, hi, [] => lo ≤ hi
  | lo, hi, x :: r => nest lo hi x ∧ nests x.h.e hi r
end
theorem nest.le {lo hi : Int} {x : Node} (h : nest lo hi x) : lo ≤ x.h.s ∧ x.h.s ≤ x.h.e ∧ x.h.e ≤ hi ∧ nests x.h.s x.h.e x.ch := by
  cases x; unfold nest at h; exact h
theorem nest.of {lo hi : Int} {x : Node} (h1 : lo ≤ x.h.s) (h2 : x.h.s ≤ x.h.e) (h3 : x.h.e ≤ hi) (h4 : nests x.h.s x.h.e x.ch) : nest lo hi x := by
  cases x; unfold nest; exact ⟨h1, h2, h3, h4⟩
theorem nest.mono {lo hi lo' hi' : Int} {x : Node} (h : nest lo hi x) (h1 : lo' ≤ lo) (h2 : hi ≤ hi') : nest lo' hi' x := by
  obtain ⟨a, b, c, d⟩ := h.le
  exact nest.of (by omega) b (by omega) d
theorem nests.mono : ∀ {l : List Node} {lo hi lo' hi' : Int}, nests lo hi l → lo' ≤ lo → hi ≤ hi' → nests lo' hi' l
  | [], lo, hi, lo', hi', h, h1, h2 => by unfold nests at *; omega
  | x :: r, lo, hi, lo', hi', h, h1, h2 => by
    unfold nests at *
    exact ⟨h.1.mono h1 h2, nests.mono h.2 (Int.le_refl _) h2⟩
theorem nests.snoc : ∀ {l : List Node} {lo hi hi' : Int} {x : Node}, nests lo hi l → nest hi hi' x → nests lo hi' (l ++ [x])
  | [], lo, hi, hi', x, h, hx => by
    unfold nests at h
    obtain ⟨a, b, c, d⟩ := hx.le
    show nests lo hi' [x]
    unfold nests nests
    exact ⟨hx.mono h (Int.le_refl _), c⟩
  | y :: r, lo, hi, hi', x, h, hx => by
    unfold nests at h
    obtain ⟨a, b, c, d⟩ := hx.le
    show nests lo hi' (y :: (r ++ [x]))
    unfold nests
    exact ⟨h.1.mono (Int.le_refl _) (by omega), nests.snoc h.2 hx⟩
theorem nests.lohi : ∀ {l : List Node} {lo hi : Int}, nests lo hi l → lo ≤ hi
  | [], lo, hi, h => by unfold nests at h; exact h
  | x :: r, lo, hi, h => by
    unfold nests at h
    obtain ⟨a, b, c, d⟩ := h.1.le
    omega
/-- the state of a node under construction -/
def KInv (s : NS) (s0 : Int) : Prop := Ext s.h s0 s.b.off ∧ ((s.h.e < 0 ∧ s.ch = []) ∨ (0 ≤ s.h.e ∧ nests s.h.s s.h.e s.ch))
theorem extendH_cases (h : Hd) (s e : Int) : (extendH h s e).e = e ∧ (extendH h s e).s = if h.e < 0 then s else h.s := ⟨rfl, rfl⟩
theorem tokH_cases (h : Hd) (k : Int) (t : ByteArray) (s e : Int) : ((tokH h k t s e).s = h.s ∧ (tokH h k t s e).e = h.e) ∨ ((tokH h k t s e).e = e ∧ (tokH h k t s e).s = if h.e < 0 then s else h.s) := by
  unfold tokH
  split
  · exact .inl ⟨rfl, rfl⟩
  · split
    · split
      · exact .inl ⟨rfl, rfl⟩
      · exact .inr ⟨rfl, rfl⟩
    · split
      · right; refine ⟨rfl, ?_⟩; show (if (identH h t s).e < 0 then s else (identH h t s).s) = _; rw [(identH_ext h t s).1, (identH_ext h t s).2.1]
      · split
        · exact .inr ⟨rfl, rfl⟩
        · split
          · exact .inr ⟨rfl, rfl⟩
          · right; refine ⟨rfl, ?_⟩; show (if (setFlagH h t).e < 0 then s else (setFlagH h t).s) = _; rw [(setFlagH_ext h t).1, (setFlagH_ext h t).2.1]
theorem finN_nest (src : ByteArray) (h : Hd) (ch : List Node) (lo hi : Int) (h1 : lo ≤ h.s) (h2 : h.s ≤ h.e) (h3 : h.e ≤ hi) (h4 : nests h.s h.e ch) (h5 : h.k = 60 → ch ≠ []) : nest lo hi (finN src h ch) := by
  unfold finN
  split
  · next hk =>
    cases ch with
    | nil => exact absurd rfl (h5 hk)
    | cons y r =>
      unfold nests at h4
      obtain ⟨a, b, c, d⟩ := h4.1.le
      unfold nest
      exact ⟨h1, h2, h3, d.mono a c⟩
  · split
    · unfold nest nests; exact ⟨h1, h2, h3, h2⟩
    · unfold nest; exact ⟨h1, h2, h3, h4⟩
mutual
theorem nodeL_nest (src : ByteArray) : ∀ (x : Tree) (b : BS), ¬ 100 ≤ x.k → x.ok → 0 ≤ b.off → nest b.off (b.off + x.yl) (nodeL src x b).1
  | .mk k t ch, b, h, hok, h0 => by
    unfold nodeL
    simp only
    unfold Tree.ok at hok
    have hi := kidsL_nest src ch ⟨newH k b.off, [], b⟩ b.off h0 (Int.le_refl _) hok.2.2 ⟨.inl ⟨show (-1 : Int) < 0 by decide, rfl⟩, .inl ⟨show (-1 : Int) < 0 by decide, rfl⟩⟩
    have ho := kidsL_off src ch ⟨newH k b.off, [], b⟩
    have hk := kidsL_k src ch ⟨newH k b.off, [], b⟩
    have hne := fun e => kidsL_ne src ch ⟨newH k b.off, [], b⟩ (hok.2.1 e)
    simp only at ho
    generalize kidsL src ch ⟨newH k b.off, [], b⟩ = R at *
    obtain ⟨he, hn⟩ := hi
    rw [ho] at he
    have m := maxH_ext he h0 (by omega)
    rw [Tree.yl_node h]
    refine finN_nest src _ _ _ _ m.1 m.2.1 m.2.2 ?_ (fun e => hne (by have e : R.h.k = 60 := e; rw [hk] at e; exact e))
    unfold maxH
    simp only
    rcases hn with ⟨a, c⟩ | ⟨a, c⟩
    · rw [c]; unfold nests; omega
    · exact c.mono (Int.le_refl _) (by omega)
theorem kidsL_nest (src : ByteArray) : ∀ (l : List Tree) (s : NS) (s0 : Int), 0 ≤ s0 → s0 ≤ s.b.off → oks l → KInv s s0 → KInv (kidsL src l s) s0
  | [], s, s0, h0, h1, hl, H => by simpa [kidsL] using H
  | x :: r, s, s0, h0, h1, hl, H => by
    unfold oks at hl
    by_cases h : 100 ≤ x.k
    · rw [kidsL_tok h]
      refine kidsL_nest src r _ s0 h0 (by simp only; rw [tokB_off]; omega) hl.2 ⟨by simp only; rw [tokB_off]; exact H.1.tok h0 h1 x.k x.t, ?_⟩
      simp only
      have hE := H.1
      unfold Ext at hE
      rcases tokH_cases s.h x.k x.t s.b.off (s.b.off + x.t.size) with ⟨a, c⟩ | ⟨a, c⟩
      · rw [a, c]; exact H.2
      · rw [a, c]
        right
        refine ⟨by omega, ?_⟩
        rcases H.2 with ⟨p, q⟩ | ⟨p, q⟩
        · rw [q]; unfold nests; rw [if_pos p]; omega
        · rw [if_neg (by omega)]; exact q.mono (Int.le_refl _) (by omega)
    · rw [kidsL_node h]
      have e := nodeL_nest src x s.b h hl.1 (by omega)
      have o := nodeL_off src x s.b h
      obtain ⟨a, b, c, d⟩ := e.le
      refine kidsL_nest src r _ s0 h0 (by simp only; rw [o]; omega) hl.2 ⟨by simp only; rw [o]; exact H.1.extend rfl rfl h0 h1 a b c, ?_⟩
      simp only
      right
      have hE := H.1
      unfold Ext at hE
      rw [(extendH_cases _ _ _).1, (extendH_cases _ _ _).2]
      refine ⟨by omega, ?_⟩
      rcases H.2 with ⟨p, q⟩ | ⟨p, q⟩
      · rw [q, if_pos p]
        show nests _ _ [(nodeL src x s.b).1]
        unfold nests nests
        exact ⟨nest.of (Int.le_refl _) b (Int.le_refl _) d, Int.le_refl _⟩
      · rw [if_neg (by omega)]
        exact q.snoc (nest.of (by omega) b (Int.le_refl _) d)
end
/-- the file's tree nests -/
theorem astN_nest (src : ByteArray) (ch : List Tree) (hok : (Tree.mk 1 .empty ch).ok) (hyl : yls ch ≤ src.size) : nest 0 src.size (astN src ch) := by
  have hx : ¬ 100 ≤ (Tree.mk 1 ByteArray.empty ch).k := fun h : (100 : Int) ≤ 1 => absurd h (by decide)
  have h := nodeL_nest src (.mk 1 .empty ch) ⟨0, []⟩ hx hok (Int.le_refl _)
  rw [Tree.yl_node hx] at h
  obtain ⟨a, b, c, d⟩ := h.le
  unfold astN astR
  unfold nest
  simp only at a c ⊢
  have hy : yls (Tree.mk 1 ByteArray.empty ch).ch = yls ch := rfl
  rw [hy] at c
  exact ⟨Int.le_refl _, by omega, Int.le_refl _, d.mono (by omega) (by omega)⟩

/- ITEMS -/
mutual
/-- sibling items do not overlap; each lies in its parent -/
def inest : Int → Int → List Item → Prop
  | lo, hi, [] => lo ≤ hi
  | lo, hi, x :: r => inest1 lo hi x ∧ inest x.e hi r
def inest1 : Int → Int → Item → Prop
  | lo, hi, .mk k s e t ch => lo ≤ s ∧ s ≤ e ∧ e ≤ hi ∧ inest s e ch
end
theorem inest1.le {lo hi : Int} {x : Item} (h : inest1 lo hi x) : lo ≤ x.s ∧ x.s ≤ x.e ∧ x.e ≤ hi ∧ inest x.s x.e x.ch := by
  cases x; unfold inest1 at h; exact h
theorem inest1.mono {lo hi lo' hi' : Int} {x : Item} (h : inest1 lo hi x) (h1 : lo' ≤ lo) (h2 : hi ≤ hi') : inest1 lo' hi' x := by
  cases x; unfold inest1 at *; exact ⟨by omega, h.2.1, by omega, h.2.2.2⟩
theorem inest.mono : ∀ {l : List Item} {lo hi lo' hi' : Int}, inest lo hi l → lo' ≤ lo → hi ≤ hi' → inest lo' hi' l
  | [], lo, hi, lo', hi', h, h1, h2 => by unfold inest at *; omega
  | x :: r, lo, hi, lo', hi', h, h1, h2 => by
    unfold inest at *
    exact ⟨h.1.mono h1 h2, inest.mono h.2 (Int.le_refl _) h2⟩
theorem inest.append : ∀ {l m : List Item} {lo mid hi : Int}, inest lo mid l → inest mid hi m → mid ≤ hi → inest lo hi (l ++ m)
  | [], m, lo, mid, hi, h, hm, h3 => by unfold inest at h; exact hm.mono h (Int.le_refl _)
  | x :: r, m, lo, mid, hi, h, hm, h3 => by
    unfold inest at h
    rw [List.cons_append]
    unfold inest
    exact ⟨h.1.mono (Int.le_refl _) h3, inest.append h.2 hm h3⟩
mutual
theorem items_nest : ∀ (x : Node) (lo hi : Int), nest lo hi x → inest lo hi (itemsL x) ∧ inest lo x.h.e (itemsL x)
  | .mk h ch, lo, hi, H => by
    unfold nest at H
    obtain ⟨a, b, c, d⟩ := H
    have hc := itemss_nest ch _ _ d
    by_cases hk : symKind h.k = 0
    · have e : itemsL (.mk h ch) = itemsLs ch := by rw [itemsL, if_pos hk]
      rw [e]
      exact ⟨hc.mono a c, hc.mono a (Int.le_refl _)⟩
    · have e : itemsL (.mk h ch) = [.mk (symKind h.k) h.s h.e h.t (itemsLs ch)] := by rw [itemsL, if_neg hk]
      rw [e]
      refine ⟨?_, ?_⟩
      · unfold inest
        refine ⟨?_, ?_⟩
        · unfold inest1; exact ⟨a, b, c, hc⟩
        · unfold inest; exact c
      · unfold inest
        refine ⟨?_, ?_⟩
        · unfold inest1; exact ⟨a, b, Int.le_refl _, hc⟩
        · unfold inest; exact Int.le_refl _
theorem itemss_nest : ∀ (l : List Node) (lo hi : Int), nests lo hi l → inest lo hi (itemsLs l)
  | [], lo, hi, H => by unfold nests at H; unfold itemsLs inest; exact H
  | x :: r, lo, hi, H => by
    unfold nests at H
    unfold itemsLs
    obtain ⟨a, b, c, d⟩ := H.1.le
    exact (items_nest x lo hi H.1).2.append (itemss_nest r _ _ H.2) c
end
/- DEPTH -/
mutual
/-- how deep a tree's declarations lie in each other -/
def Tree.dp : Tree → Nat
  | .mk k _ ch => (if symKind k = 0 then 0 else 1) + dps ch
def dps : List Tree → Nat
  | [] => 0
  | x :: r => max x.dp (dps r)
end
theorem dps_append : ∀ (a b : List Tree), dps (a ++ b) = max (dps a) (dps b)
  | [], b => by simp [dps]
  | x :: r, b => by rw [List.cons_append, dps, dps, dps_append r b]; omega
def dpF : Fn → Nat
  | .item => 2
  | .itemBody _ => 1
  | .dataType _ => 1
  | .members => 1
  | .implS => 1
  | _ => 0
/-- no command makes deeper trees than this -/
def dpC : Cmd → Nat
  | .leaf k => if symKind k = 0 then 0 else 1
  | .node k c => (if symKind k = 0 then 0 else 1) + dpC c
  | .wrap _ c => dpC c
  | .seq c d => max (dpC c) (dpC d)
  | .ite _ c d => max (dpC c) (dpC d)
  | .loop _ c => dpC c
  | .moved c d e => max (dpC c) (max (dpC d) (dpC e))
  | .call f => dpF f
  | _ => 0
theorem dpC_body (f : Fn) : dpC (body f) ≤ dpF f := by
  cases f with
  | path x => cases x <;> decide
  | params x => exact Nat.le_refl _
  | binary l =>
    simp only [body]
    split
    · exact Nat.le_refl _
    · simp only [dpC]
      split <;> exact Nat.le_refl _
  | itemBody k =>
    simp only [body]
    split
    · first | exact Nat.le_refl _ | exact Nat.zero_le _ | (show _ ≤ 1; decide)
    · split
      · first | exact Nat.le_refl _ | exact Nat.zero_le _ | (show _ ≤ 1; decide)
      · split
        · first | exact Nat.le_refl _ | exact Nat.zero_le _ | (show _ ≤ 1; decide)
        · split
          · first | exact Nat.le_refl _ | exact Nat.zero_le _ | (show _ ≤ 1; decide)
          · split
            · first | exact Nat.le_refl _ | exact Nat.zero_le _ | (show _ ≤ 1; decide)
            · split <;> first | exact Nat.le_refl _ | exact Nat.zero_le _ | (show _ ≤ 1; decide)
  | function x => cases x <;> decide
  | dataType k =>
    simp only [body]
    by_cases h : k = 4
    · simp only [h]; decide
    · simp only [if_neg h]; show _ ≤ 1; decide
  | _ => decide
/-- what is wrapped is no declaration -/
def wkC : Cmd → Bool
  | .node _ c => wkC c
  | .wrap k c => decide (symKind k = 0) && wkC c
  | .seq c d => wkC c && wkC d
  | .ite _ c d => wkC c && wkC d
  | .loop _ c => wkC c
  | .moved c d e => wkC c && wkC d && wkC e
  | _ => true
theorem wkC_body (f : Fn) : wkC (body f) = true := by
  cases f with
  | path x => cases x <;> decide
  | params x => rfl
  | binary l =>
    simp only [body]
    split
    · rfl
    · simp only [wkC]
      split <;> rfl
  | itemBody k =>
    simp only [body]
    split
    · rfl
    · split
      · rfl
      · split
        · rfl
        · split
          · rfl
          · split
            · rfl
            · split <;> rfl
  | function x => cases x <;> decide
  | dataType k =>
    simp only [body]
    by_cases h : k = 4
    · simp only [h]; decide
    · simp only [if_neg h]; decide
  | _ => decide
theorem dps_leafs : ∀ (l : List Tok), (∀ x ∈ l, 100 ≤ x.k) → dps (l.map Tok.leaf) = 0
  | [], _ => by simp [dps]
  | x :: r, h => by
    rw [List.map_cons, dps, dps_leafs r (fun y hy => h y (by simp [hy]))]
    have hx := h x (by simp)
    unfold Tok.leaf Tree.dp
    have : symKind x.k = 0 := by unfold symKind; repeat (rw [if_neg (by omega)])
    rw [if_pos this]
    simp [dps]
theorem dps_last {l : List Tree} {x : Tree} (hx : l.getLast? = some x) : dps l.dropLast ≤ dps l ∧ dps [x] ≤ dps l := by
  obtain ⟨ys, e⟩ := List.getLast?_eq_some_iff.1 hx
  subst e
  rw [dps_append]
  simp only [List.dropLast_concat]
  omega
theorem run_dp : ∀ (n : Nat) (c : Cmd) (s u : PS), run n c s = some u → wkC c = true → (∀ x ∈ s.rest, 100 ≤ x.k) → dps u.ch ≤ max (dps s.ch) (dpC c)
  | 0, c, s, u, h, _, _ => by simp [run] at h
  | n + 1, c, s, u, h, hw, hr => by
    have ih := run_dp n
    cases c with
    | skip => simp [run] at h; subst h; omega
    | bump =>
      simp only [run] at h
      obtain ⟨v, hv, rfl⟩ := Option.map_eq_some_iff.1 h
      simp only
      rw [(add_gas hv).2.2.2.1, dps_append, dps_leafs (taken s.rest) (fun x hx => hr x (List.mem_of_mem_take hx))]
      omega
    | trivia =>
      simp only [run] at h
      obtain ⟨v, hv, rfl⟩ := Option.map_eq_some_iff.1 h
      simp only
      rw [(add_gas hv).2.2.2.1, dps_append, dps_leafs (trivs s.rest) (fun x hx => hr x (List.mem_of_mem_take hx))]
      omega
    | leaf k =>
      simp only [run] at h
      rw [(add_gas h).2.2.2.1, dps_append]
      simp only [dps, Tree.dp, dpC]
      omega
    | node k c =>
      simp only [run] at h
      split at h
      · obtain ⟨v, hv, e⟩ := Option.map_eq_some_iff.1 h
        have := ih _ _ _ hv hw hr
        rw [← e]
        simp only [dps] at this
        simp only [dps_append, dps, Tree.dp, dpC]
        omega
      · cases h
    | wrap k c =>
      simp only [run] at h
      split at h
      · cases h
      · next x hx =>
        split at h
        · obtain ⟨v, hv, e⟩ := Option.map_eq_some_iff.1 h
          simp only [wkC, Bool.and_eq_true, decide_eq_true_eq] at hw
          have := ih _ _ _ hv hw.2 hr
          obtain ⟨h1, h2⟩ := dps_last hx
          rw [← e]
          simp only at this
          simp only [dps_append, dps, Tree.dp, dpC, if_pos hw.1] at this h2 ⊢
          omega
        · cases h
    | seq c d =>
      simp only [run] at h
      obtain ⟨v, h1, h2⟩ := Option.bind_eq_some_iff.1 h
      have hsf := run_rest _ _ _ _ h1
      simp only [wkC, Bool.and_eq_true] at hw
      have a := ih _ _ _ h1 hw.1 hr
      have b := ih _ _ _ h2 hw.2 (fun x hx => hr x (hsf.subset hx))
      simp only [dpC]
      omega
    | ite t c d =>
      simp only [run] at h
      simp only [dpC]
      simp only [wkC, Bool.and_eq_true] at hw
      split at h
      · have := ih _ _ _ h hw.1 hr; omega
      · have := ih _ _ _ h hw.2 hr; omega
    | loop t c =>
      simp only [run] at h
      split at h
      · obtain ⟨v, h1, h2⟩ := Option.bind_eq_some_iff.1 h
        have hsf := run_rest _ _ _ _ h1
        have hw' := hw
        simp only [wkC] at hw
        have a := ih _ _ _ h1 hw hr
        have b := ih _ _ _ h2 hw' (fun x hx => hr x (hsf.subset hx))
        simp only [dpC] at *
        omega
      · injection h with h; subst h; omega
    | moved c d e =>
      simp only [run] at h
      obtain ⟨v, h1, h2⟩ := Option.bind_eq_some_iff.1 h
      have hsf := run_rest _ _ _ _ h1
      simp only [wkC, Bool.and_eq_true] at hw
      have a := ih _ _ _ h1 hw.1.1 hr
      simp only [dpC]
      split at h2
      · have b := ih _ _ _ h2 hw.1.2 (fun x hx => hr x (hsf.subset hx)); omega
      · have b := ih _ _ _ h2 hw.2 (fun x hx => hr x (hsf.subset hx)); omega
    | dropLast =>
      simp only [run] at h
      split at h
      · cases h
      · next x r hx =>
        injection h with h; subst h
        have y1 := congrArg dps (List.dropLast_concat_getLast (l := s.ch) (by rw [hx]; simp)).symm
        rw [dps_append] at y1
        simp only
        omega
    | insNone =>
      simp only [run] at h
      split at h
      · cases h
      · next x hx =>
        split at h
        · injection h with h; subst h
          obtain ⟨h1, h2⟩ := dps_last hx
          simp only
          rw [dps_append]
          have : dps [Tree.mk 0 .empty [], x] = dps [x] := by simp [dps, Tree.dp, symKind]
          rw [this]
          omega
        · cases h
    | setFlag b => simp [run] at h; subst h; exact Nat.le_max_left _ _
    | call f =>
      simp only [run] at h
      have h1 := ih _ _ _ h (wkC_body f) hr
      have h2 := dpC_body f
      simp only [dpC]
      omega
end Go.Proofs.YtepadojclmjllaaGreatDoor
