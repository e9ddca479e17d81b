/-
  TexteditTransformDisjoint: the walk, case by case.
-/
import Derived.Test.YtbnoejdhachhhaaTcon
namespace Go.Proofs.Ytbnoejdhachhhaa.tdis
open Go.RowKit
set_option linter.unusedVariables false

/-- a region that draws, walked once, in a class of worlds -/
theorem region_class {P : Program} {id : Nat} {Q : Exit → Act → World → Prop} {a : Act} {w : World} {l : List Oper} (C : World → Prop) (hm : P.follows .mixedOrders = true) (hB : Region.lexB .any l.toArray = true) (hC : C { w with drawn := w.drawn + 1 })
    (h : wpQuiet P l.toArray C (fun a' => ∀ w', C w' → Q .normal a' w') l a) : (Code.region id l.toArray true).wp P Q a w := wp_region_quiet hm hB hC (by simpa using h)
theorem quiet_value {P : Program} {o : Oper} {a : Act} {C : World → Prop} {K : Act → Prop} (v : Value) (hv : ∀ w, C w → (execOp a.eval o).run P w = .ok (.value v) w) (hk : K (a.put o.dst v)) : o.quiet P a C K :=
  ⟨v, fun w hw => by unfold Oper.quietAt; rw [hv w hw]; exact ⟨rfl, rfl⟩, hk⟩
theorem quiet_enter {P : Program} {o : Oper} {a : Act} {C : World → Prop} {K : Act → Prop} (v : Value) (f : FuncId) (args : Array Value) (hv : ∀ w, C w → (execOp a.eval o).run P w = .ok (.enter f args) w) (hc : ∀ w, C w → Calls P f args w fun e w'' => e = .returned v ∧ C w'') (hk : K (a.put o.dst v)) : o.quiet P a C K :=
  ⟨v, fun w hw => by unfold Oper.quietAt; rw [hv w hw]; exact ⟨rfl, hc w hw⟩, hk⟩

theorem eds_row {w : World} {B : Nat} {A : Option Addr} {es : List Ed} (h : EdsAt w B A es) : RowAt w B A (edCells' es) := by
  intro hn
  rw [edCells_length] at hn
  obtain ⟨b, off, rfl, hb, hc⟩ := h (by omega)
  refine ⟨b, off, rfl, hb, fun j u hu => ?_⟩
  have hj : j < (edCells' es).length := (List.getElem?_eq_some_iff.1 hu).1
  rw [edCells_length] at hj
  have hk : j / 3 < es.length := by omega
  have hx := List.getElem?_eq_getElem hk
  obtain ⟨h1, h2, h3⟩ := edCells_at es (j / 3) _ hx
  obtain ⟨c1, c2, c3⟩ := hc (j / 3) _ hx
  rcases (show j = j / 3 * 3 ∨ j = j / 3 * 3 + 1 ∨ j = j / 3 * 3 + 2 by omega) with e | e | e
  · rw [e] at hu ⊢; rw [h1] at hu; injection hu with hu; rw [← hu]; exact c1
  · rw [e] at hu ⊢; rw [h2] at hu; injection hu with hu; rw [← hu]; exact c2
  · rw [e] at hu ⊢; rw [h3] at hu; injection hu with hu; rw [← hu]; exact c3
theorem edCells_one (es : List Ed) : ∀ u ∈ edCells' es, u.oneCell' = true := by
  intro u hu
  simp only [edCells', List.mem_flatMap] at hu
  obtain ⟨x, _, hx⟩ := hu
  simp only [Ed.cells, List.mem_cons, List.not_mem_nil, or_false] at hx
  rcases hx with rfl | rfl | rfl <;> rfl

/-- the region's worlds -/
def Cls (w : World) (A D : Option Addr) (a b : List Ed) (cs : List (Addr × Value)) (w' : World) : Prop := EdsAt w' w'.heap.size A a ∧ EdsAt w' w'.heap.size D b ∧ Below w.heap.size w w' ∧ ∀ x ∈ cs, x.1.block < w.heap.size ∧ w'.cell? x.1 = some x.2
theorem Cls.step {w u u' : World} {A D : Option Addr} {a b : List Ed} {cs : List (Addr × Value)} (h : Cls w A D a b cs u) (hb : Below u.heap.size u u') : Cls w A D a b cs u' := by
  obtain ⟨h1, h2, h3, h4⟩ := h
  exact ⟨(h1.below hb).more hb.size, (h2.below hb).more hb.size, h3.trans (hb.mono h3.size), fun x hx => ⟨(h4 x hx).1, (hb.cell (Nat.lt_of_lt_of_le (h4 x hx).1 h3.size)).trans (h4 x hx).2⟩⟩
theorem Cls.c1 {w u : World} {A D : Option Addr} {a b : List Ed} {p q : Addr} {v z : Value} (h : Cls w A D a b [(p, v), (q, z)] u) : u.cell? p = some v := (h.2.2.2 (p, v) (by simp)).2
theorem Cls.c2 {w u : World} {A D : Option Addr} {a b : List Ed} {p q : Addr} {v z : Value} (h : Cls w A D a b [(p, v), (q, z)] u) : u.cell? q = some z := (h.2.2.2 (q, z) (by simp)).2

set_option maxHeartbeats 2000000 in
theorem td1 (src : ByteArray) (A : Option Addr) (c : Nat) (a : List Ed) (D : Option Addr) (d : Nat) (b : List Ed) (w : World) (na nb : Nat) (v1 : Int) (ea : a.length = na) (eb : b.length = nb) (hsrc : src.size ≤ maxLen)
    (ha : EdsAt w w.heap.size A a) (hm : a.length ≤ maxLen) (hs : Short a) (hc : a.length ≤ c) (hb : EdsAt w w.heap.size D b) (hm' : b.length ≤ maxLen) (hs' : Short b) (hd : b.length ≤ d) (k1 : valT src.size a = v1) (k2 : valT src.size b = valT src.size b) (q1 : (v1 != 0) = true) :
    Calls Try.prog 11 #[.string src, .slice A na c, .slice D nb d] w fun e w' => e = .returned (.bool true) ∧ Below w.heap.size w w' := by
  have VA : ∀ u, Cls w A D a b [] u → Calls Try.prog 22 #[.string src, .slice A na c] u fun e w' => e = .returned (.int .i64 v1) ∧ Cls w A D a b [] w' := fun u hu => by
    rw [← ea, ← k1]; exact (valT_any src A c a u hu.1 hm hs hsrc).mono fun e w' ⟨he, hb⟩ => ⟨he, hu.step hb⟩
  have VB : ∀ u, Cls w A D a b [] u → Calls Try.prog 22 #[.string src, .slice D nb d] u fun e w' => e = .returned (.int .i64 (valT src.size b)) ∧ Cls w A D a b [] w' := fun u hu => by
    rw [← eb]; exact (valT_any src D d b u hu.2.1 hm' hs' hsrc).mono fun e w' ⟨he, hb⟩ => ⟨he, hu.step hb⟩
  have K1 := Lib.hid k1
  have K2 := Lib.hid k2
  clear k1 k2
  go_enter Try.func11, Try.ntmps11
  go_wp2_with fail
  refine (txEx _).mono ?_
  rintro e w1 ⟨rfl, b1⟩
  have a1 := (ha.below b1).more b1.size
  have d1 := (hb.below b1).more b1.size
  go_wp2_with fail
  refine region_class (Cls w A D a b []) (by kernel_rfl) (by kernel_rfl) ⟨a1, d1, b1.drew, fun x hx => by cases hx⟩ ?_
  clear ha hb a1 d1
  repeat (first
    | go_big_quiet_skip
    | (go_big_quiet_want; go_big_quiet_op; go_big_quiet_on)
    | (go_big_quiet_want; refine' quiet_value _ (fun u hu => _) _; rotate_left; (focus ((try have q1 := Cls.c1 hu); (try have q2 := Cls.c2 hu); clear hu; go_simp; try with_reducible rfl)); (simp only [Act.put, List.setIfInBounds_toArray, List.set_cons_zero, List.set_cons_succ]); go_big_quiet_on))
  go_big_quiet_want
  refine quiet_enter (.int .i64 v1) 22 #[.string src, .slice A na c] (fun u _ => by first | rfl | (go_simp; done)) VA ?_
  simp only [Act.put, List.setIfInBounds_toArray, List.set_cons_zero, List.set_cons_succ]
  go_big_quiet_on
  repeat (first
    | go_big_quiet_skip
    | (go_big_quiet_want; go_big_quiet_op; go_big_quiet_on)
    | (go_big_quiet_want; refine' quiet_value _ (fun u hu => _) _; rotate_left; (focus ((try have q1 := Cls.c1 hu); (try have q2 := Cls.c2 hu); clear hu; go_simp; try with_reducible rfl)); (simp only [Act.put, List.setIfInBounds_toArray, List.set_cons_zero, List.set_cons_succ]); go_big_quiet_on))
  refine wpQuiet_nil ?_
  intro wq hq
  obtain ⟨aq, dq, bq, _⟩ := hq
  go_wp2_with fail
  refine (txEx _).mono ?_
  rintro e w8 ⟨rfl, hb8⟩
  go_wp2_with fail
  go_ret
  exact ⟨rfl, bq.trans (hb8.mono bq.size)⟩

set_option maxHeartbeats 2000000 in
theorem td2 (src : ByteArray) (A : Option Addr) (c : Nat) (a : List Ed) (D : Option Addr) (d : Nat) (b : List Ed) (w : World) (na nb : Nat) (v2 : Int) (ea : a.length = na) (eb : b.length = nb) (hsrc : src.size ≤ maxLen)
    (ha : EdsAt w w.heap.size A a) (hm : a.length ≤ maxLen) (hs : Short a) (hc : a.length ≤ c) (hb : EdsAt w w.heap.size D b) (hm' : b.length ≤ maxLen) (hs' : Short b) (hd : b.length ≤ d) (k1 : valT src.size a = 0) (k2 : valT src.size b = v2) (q2 : (v2 != 0) = true) :
    Calls Try.prog 11 #[.string src, .slice A na c, .slice D nb d] w fun e w' => e = .returned (.bool true) ∧ Below w.heap.size w w' := by
  have VA : ∀ u, Cls w A D a b [] u → Calls Try.prog 22 #[.string src, .slice A na c] u fun e w' => e = .returned (.int .i64 0) ∧ Cls w A D a b [] w' := fun u hu => by
    rw [← ea, ← k1]; exact (valT_any src A c a u hu.1 hm hs hsrc).mono fun e w' ⟨he, hb⟩ => ⟨he, hu.step hb⟩
  have VB : ∀ u, Cls w A D a b [] u → Calls Try.prog 22 #[.string src, .slice D nb d] u fun e w' => e = .returned (.int .i64 v2) ∧ Cls w A D a b [] w' := fun u hu => by
    rw [← eb, ← k2]; exact (valT_any src D d b u hu.2.1 hm' hs' hsrc).mono fun e w' ⟨he, hb⟩ => ⟨he, hu.step hb⟩
  have K1 := Lib.hid k1
  have K2 := Lib.hid k2
  clear k1 k2
  go_enter Try.func11, Try.ntmps11
  go_wp2_with fail
  refine (txEx _).mono ?_
  rintro e w1 ⟨rfl, b1⟩
  have a1 := (ha.below b1).more b1.size
  have d1 := (hb.below b1).more b1.size
  go_wp2_with fail
  refine region_class (Cls w A D a b []) (by kernel_rfl) (by kernel_rfl) ⟨a1, d1, b1.drew, fun x hx => by cases hx⟩ ?_
  clear ha hb a1 d1
  repeat (first
    | go_big_quiet_skip
    | (go_big_quiet_want; go_big_quiet_op; go_big_quiet_on)
    | (go_big_quiet_want; refine' quiet_value _ (fun u hu => _) _; rotate_left; (focus ((try have q1 := Cls.c1 hu); (try have q2 := Cls.c2 hu); clear hu; go_simp; try with_reducible rfl)); (simp only [Act.put, List.setIfInBounds_toArray, List.set_cons_zero, List.set_cons_succ]); go_big_quiet_on))
  go_big_quiet_want
  refine quiet_enter (.int .i64 0) 22 #[.string src, .slice A na c] (fun u _ => by first | rfl | (go_simp; done)) VA ?_
  simp only [Act.put, List.setIfInBounds_toArray, List.set_cons_zero, List.set_cons_succ]
  go_big_quiet_on
  repeat (first
    | go_big_quiet_skip
    | (go_big_quiet_want; go_big_quiet_op; go_big_quiet_on)
    | (go_big_quiet_want; refine' quiet_value _ (fun u hu => _) _; rotate_left; (focus ((try have q1 := Cls.c1 hu); (try have q2 := Cls.c2 hu); clear hu; go_simp; try with_reducible rfl)); (simp only [Act.put, List.setIfInBounds_toArray, List.set_cons_zero, List.set_cons_succ]); go_big_quiet_on))
  go_big_quiet_want
  refine quiet_enter (.int .i64 v2) 22 #[.string src, .slice D nb d] (fun u _ => by first | rfl | (go_simp; done)) VB ?_
  simp only [Act.put, List.setIfInBounds_toArray, List.set_cons_zero, List.set_cons_succ]
  go_big_quiet_on
  repeat (first
    | go_big_quiet_skip
    | (go_big_quiet_want; go_big_quiet_op; go_big_quiet_on)
    | (go_big_quiet_want; refine' quiet_value _ (fun u hu => _) _; rotate_left; (focus ((try have q1 := Cls.c1 hu); (try have q2 := Cls.c2 hu); clear hu; go_simp; try with_reducible rfl)); (simp only [Act.put, List.setIfInBounds_toArray, List.set_cons_zero, List.set_cons_succ]); go_big_quiet_on))
  refine wpQuiet_nil ?_
  intro wq hq
  obtain ⟨aq, dq, bq, _⟩ := hq
  go_wp2_with fail
  refine (txEx _).mono ?_
  rintro e w8 ⟨rfl, hb8⟩
  go_wp2_with fail
  go_ret
  exact ⟨rfl, bq.trans (hb8.mono bq.size)⟩

set_option maxHeartbeats 2000000 in
theorem td3 (src : ByteArray) (A : Option Addr) (c : Nat) (a : List Ed) (D : Option Addr) (d : Nat) (b : List Ed) (w : World) (nb : Nat) (ea : a.length = 0) (eb : b.length = nb) (hsrc : src.size ≤ maxLen)
    (ha : EdsAt w w.heap.size A a) (hm : a.length ≤ maxLen) (hs : Short a) (hc : a.length ≤ c) (hb : EdsAt w w.heap.size D b) (hm' : b.length ≤ maxLen) (hs' : Short b) (hd : b.length ≤ d) (k1 : valT src.size a = 0) (k2 : valT src.size b = 0)  :
    Calls Try.prog 11 #[.string src, .slice A 0 c, .slice D nb d] w fun e w' => e = .returned (.bool true) ∧ Below w.heap.size w w' := by
  have VA : ∀ u, Cls w A D a b [] u → Calls Try.prog 22 #[.string src, .slice A 0 c] u fun e w' => e = .returned (.int .i64 0) ∧ Cls w A D a b [] w' := fun u hu => by
    rw [← ea, ← k1]; exact (valT_any src A c a u hu.1 hm hs hsrc).mono fun e w' ⟨he, hb⟩ => ⟨he, hu.step hb⟩
  have VB : ∀ u, Cls w A D a b [] u → Calls Try.prog 22 #[.string src, .slice D nb d] u fun e w' => e = .returned (.int .i64 0) ∧ Cls w A D a b [] w' := fun u hu => by
    rw [← eb, ← k2]; exact (valT_any src D d b u hu.2.1 hm' hs' hsrc).mono fun e w' ⟨he, hb⟩ => ⟨he, hu.step hb⟩
  have K1 := Lib.hid k1
  have K2 := Lib.hid k2
  clear k1 k2
  go_enter Try.func11, Try.ntmps11
  go_wp2_with fail
  refine (txEx _).mono ?_
  rintro e w1 ⟨rfl, b1⟩
  have a1 := (ha.below b1).more b1.size
  have d1 := (hb.below b1).more b1.size
  go_wp2_with fail
  refine region_class (Cls w A D a b []) (by kernel_rfl) (by kernel_rfl) ⟨a1, d1, b1.drew, fun x hx => by cases hx⟩ ?_
  clear ha hb a1 d1
  repeat (first
    | go_big_quiet_skip
    | (go_big_quiet_want; go_big_quiet_op; go_big_quiet_on)
    | (go_big_quiet_want; refine' quiet_value _ (fun u hu => _) _; rotate_left; (focus ((try have q1 := Cls.c1 hu); (try have q2 := Cls.c2 hu); clear hu; go_simp; try with_reducible rfl)); (simp only [Act.put, List.setIfInBounds_toArray, List.set_cons_zero, List.set_cons_succ]); go_big_quiet_on))
  go_big_quiet_want
  refine quiet_enter (.int .i64 0) 22 #[.string src, .slice A 0 c] (fun u _ => by first | rfl | (go_simp; done)) VA ?_
  simp only [Act.put, List.setIfInBounds_toArray, List.set_cons_zero, List.set_cons_succ]
  go_big_quiet_on
  repeat (first
    | go_big_quiet_skip
    | (go_big_quiet_want; go_big_quiet_op; go_big_quiet_on)
    | (go_big_quiet_want; refine' quiet_value _ (fun u hu => _) _; rotate_left; (focus ((try have q1 := Cls.c1 hu); (try have q2 := Cls.c2 hu); clear hu; go_simp; try with_reducible rfl)); (simp only [Act.put, List.setIfInBounds_toArray, List.set_cons_zero, List.set_cons_succ]); go_big_quiet_on))
  go_big_quiet_want
  refine quiet_enter (.int .i64 0) 22 #[.string src, .slice D nb d] (fun u _ => by first | rfl | (go_simp; done)) VB ?_
  simp only [Act.put, List.setIfInBounds_toArray, List.set_cons_zero, List.set_cons_succ]
  go_big_quiet_on
  repeat (first
    | go_big_quiet_skip
    | (go_big_quiet_want; go_big_quiet_op; go_big_quiet_on)
    | (go_big_quiet_want; refine' quiet_value _ (fun u hu => _) _; rotate_left; (focus ((try have q1 := Cls.c1 hu); (try have q2 := Cls.c2 hu); clear hu; go_simp; try with_reducible rfl)); (simp only [Act.put, List.setIfInBounds_toArray, List.set_cons_zero, List.set_cons_succ]); go_big_quiet_on))
  refine wpQuiet_nil ?_
  intro wq hq
  obtain ⟨aq, dq, bq, _⟩ := hq
  go_wp2_with fail
  refine (txEx _).mono ?_
  rintro e w8 ⟨rfl, hb8⟩
  go_wp2_with fail
  go_ret
  exact ⟨rfl, bq.trans (hb8.mono bq.size)⟩

set_option maxHeartbeats 2000000 in
theorem td4 (src : ByteArray) (A : Option Addr) (c : Nat) (a : List Ed) (D : Option Addr) (d : Nat) (b : List Ed) (w : World) (na : Nat) (ea : a.length = na) (eb : b.length = 0) (hsrc : src.size ≤ maxLen)
    (ha : EdsAt w w.heap.size A a) (hm : a.length ≤ maxLen) (hs : Short a) (hc : a.length ≤ c) (hb : EdsAt w w.heap.size D b) (hm' : b.length ≤ maxLen) (hs' : Short b) (hd : b.length ≤ d) (k1 : valT src.size a = 0) (k2 : valT src.size b = 0) (k3 : ((na : Int) == 0) = false) :
    Calls Try.prog 11 #[.string src, .slice A na c, .slice D 0 d] w fun e w' => e = .returned (.bool true) ∧ Below w.heap.size w w' := by
  have VA : ∀ u, Cls w A D a b [] u → Calls Try.prog 22 #[.string src, .slice A na c] u fun e w' => e = .returned (.int .i64 0) ∧ Cls w A D a b [] w' := fun u hu => by
    rw [← ea, ← k1]; exact (valT_any src A c a u hu.1 hm hs hsrc).mono fun e w' ⟨he, hb⟩ => ⟨he, hu.step hb⟩
  have VB : ∀ u, Cls w A D a b [] u → Calls Try.prog 22 #[.string src, .slice D 0 d] u fun e w' => e = .returned (.int .i64 0) ∧ Cls w A D a b [] w' := fun u hu => by
    rw [← eb, ← k2]; exact (valT_any src D d b u hu.2.1 hm' hs' hsrc).mono fun e w' ⟨he, hb⟩ => ⟨he, hu.step hb⟩
  have K1 := Lib.hid k1
  have K2 := Lib.hid k2
  clear k1 k2
  go_enter Try.func11, Try.ntmps11
  go_wp2_with fail
  refine (txEx _).mono ?_
  rintro e w1 ⟨rfl, b1⟩
  have a1 := (ha.below b1).more b1.size
  have d1 := (hb.below b1).more b1.size
  go_wp2_with fail
  refine region_class (Cls w A D a b []) (by kernel_rfl) (by kernel_rfl) ⟨a1, d1, b1.drew, fun x hx => by cases hx⟩ ?_
  clear ha hb a1 d1
  repeat (first
    | go_big_quiet_skip
    | (go_big_quiet_want; go_big_quiet_op; go_big_quiet_on)
    | (go_big_quiet_want; refine' quiet_value _ (fun u hu => _) _; rotate_left; (focus ((try have q1 := Cls.c1 hu); (try have q2 := Cls.c2 hu); clear hu; go_simp; try with_reducible rfl)); (simp only [Act.put, List.setIfInBounds_toArray, List.set_cons_zero, List.set_cons_succ]); go_big_quiet_on))
  go_big_quiet_want
  refine quiet_enter (.int .i64 0) 22 #[.string src, .slice A na c] (fun u _ => by first | rfl | (go_simp; done)) VA ?_
  simp only [Act.put, List.setIfInBounds_toArray, List.set_cons_zero, List.set_cons_succ]
  go_big_quiet_on
  repeat (first
    | go_big_quiet_skip
    | (go_big_quiet_want; go_big_quiet_op; go_big_quiet_on)
    | (go_big_quiet_want; refine' quiet_value _ (fun u hu => _) _; rotate_left; (focus ((try have q1 := Cls.c1 hu); (try have q2 := Cls.c2 hu); clear hu; go_simp; try with_reducible rfl)); (simp only [Act.put, List.setIfInBounds_toArray, List.set_cons_zero, List.set_cons_succ]); go_big_quiet_on))
  go_big_quiet_want
  refine quiet_enter (.int .i64 0) 22 #[.string src, .slice D 0 d] (fun u _ => by first | rfl | (go_simp; done)) VB ?_
  simp only [Act.put, List.setIfInBounds_toArray, List.set_cons_zero, List.set_cons_succ]
  go_big_quiet_on
  repeat (first
    | go_big_quiet_skip
    | (go_big_quiet_want; go_big_quiet_op; go_big_quiet_on)
    | (go_big_quiet_want; refine' quiet_value _ (fun u hu => _) _; rotate_left; (focus ((try have q1 := Cls.c1 hu); (try have q2 := Cls.c2 hu); clear hu; go_simp; try with_reducible rfl)); (simp only [Act.put, List.setIfInBounds_toArray, List.set_cons_zero, List.set_cons_succ]); go_big_quiet_on))
  refine wpQuiet_nil ?_
  intro wq hq
  obtain ⟨aq, dq, bq, _⟩ := hq
  go_wp2_with fail
  refine (txEx _).mono ?_
  rintro e w8 ⟨rfl, hb8⟩
  go_wp2_with fail
  go_ret
  exact ⟨rfl, bq.trans (hb8.mono bq.size)⟩

set_option maxHeartbeats 2000000 in
theorem td5 (src : ByteArray) (p1 o1 : Nat) (c : Nat) (a : List Ed) (p2 o2 : Nat) (d : Nat) (b : List Ed) (w : World) (na nb : Nat) (ea : a.length = na) (eb : b.length = nb) (hsrc : src.size ≤ maxLen)
    (ha : EdsAt w w.heap.size (some ⟨p1, o1, none⟩) a) (hm : a.length ≤ maxLen) (hs : Short a) (hc : a.length ≤ c) (hb : EdsAt w w.heap.size (some ⟨p2, o2, none⟩) b) (hm' : b.length ≤ maxLen) (hs' : Short b) (hd : b.length ≤ d) (k1 : valT src.size a = 0) (k2 : valT src.size b = 0) (k3 : ((na : Int) == 0) = false) (k4 : ((nb : Int) == 0) = false) (l50 : na ≤ 50) (l50' : nb ≤ 50) (m : Nat) (hml : na = m + 1) (hnb : 0 < nb) (x y : Ed) (s2 : w.cell? ⟨p1, o1 + m * 3 + 1, none⟩ = some (.int .i64 x.e)) (t1 : w.cell? ⟨p2, o2, none⟩ = some (.int .i64 y.s)) (hp1 : p1 < w.heap.size) (hp2 : p2 < w.heap.size) (g5 : y.s ≤ x.e) :
    Calls Try.prog 11 #[.string src, .slice (some ⟨p1, o1, none⟩) na c, .slice (some ⟨p2, o2, none⟩) nb d] w fun e w' => e = .returned (.bool true) ∧ Below w.heap.size w w' := by
  have VA : ∀ u, Cls w (some ⟨p1, o1, none⟩) (some ⟨p2, o2, none⟩) a b [(⟨p1, o1 + m * 3 + 1, none⟩, .int .i64 x.e), (⟨p2, o2, none⟩, .int .i64 y.s)] u → Calls Try.prog 22 #[.string src, .slice (some ⟨p1, o1, none⟩) na c] u fun e w' => e = .returned (.int .i64 0) ∧ Cls w (some ⟨p1, o1, none⟩) (some ⟨p2, o2, none⟩) a b [(⟨p1, o1 + m * 3 + 1, none⟩, .int .i64 x.e), (⟨p2, o2, none⟩, .int .i64 y.s)] w' := fun u hu => by
    rw [← ea, ← k1]; exact (valT_any src (some ⟨p1, o1, none⟩) c a u hu.1 hm hs hsrc).mono fun e w' ⟨he, hb⟩ => ⟨he, hu.step hb⟩
  have VB : ∀ u, Cls w (some ⟨p1, o1, none⟩) (some ⟨p2, o2, none⟩) a b [(⟨p1, o1 + m * 3 + 1, none⟩, .int .i64 x.e), (⟨p2, o2, none⟩, .int .i64 y.s)] u → Calls Try.prog 22 #[.string src, .slice (some ⟨p2, o2, none⟩) nb d] u fun e w' => e = .returned (.int .i64 0) ∧ Cls w (some ⟨p1, o1, none⟩) (some ⟨p2, o2, none⟩) a b [(⟨p1, o1 + m * 3 + 1, none⟩, .int .i64 x.e), (⟨p2, o2, none⟩, .int .i64 y.s)] w' := fun u hu => by
    rw [← eb, ← k2]; exact (valT_any src (some ⟨p2, o2, none⟩) d b u hu.2.1 hm' hs' hsrc).mono fun e w' ⟨he, hb⟩ => ⟨he, hu.step hb⟩
  have K1 := Lib.hid k1
  have K2 := Lib.hid k2
  clear k1 k2
  have hw : IntKind.i64.wrap ((na : Int) - 1) = (m : Int) := by rw [IntWalk.i64_in _ (by omega)]; omega
  have hml1 : (m : Int) < (na : Int) := by omega
  have hnb1 : (0 : Int) < (nb : Int) := by omega
  have HML := Lib.hid hml
  clear hml
  go_enter Try.func11, Try.ntmps11
  go_wp2_with fail
  refine (txEx _).mono ?_
  rintro e w1 ⟨rfl, b1⟩
  have a1 := (ha.below b1).more b1.size
  have d1 := (hb.below b1).more b1.size
  go_wp2_with fail
  refine region_class (Cls w (some ⟨p1, o1, none⟩) (some ⟨p2, o2, none⟩) a b [(⟨p1, o1 + m * 3 + 1, none⟩, .int .i64 x.e), (⟨p2, o2, none⟩, .int .i64 y.s)]) (by kernel_rfl) (by kernel_rfl) ⟨a1, d1, b1.drew, by intro z hz; simp only [List.mem_cons, List.not_mem_nil, or_false] at hz; rcases hz with rfl | rfl; exact ⟨hp1, (b1.cell (p := ⟨p1, o1 + m * 3 + 1, none⟩) hp1).trans s2⟩; exact ⟨hp2, (b1.cell (p := ⟨p2, o2, none⟩) hp2).trans t1⟩⟩ ?_
  clear ha hb a1 d1
  repeat (first
    | go_big_quiet_skip
    | (go_big_quiet_want; go_big_quiet_op; go_big_quiet_on)
    | (go_big_quiet_want; refine' quiet_value _ (fun u hu => _) _; rotate_left; (focus ((try have q1 := Cls.c1 hu); (try have q2 := Cls.c2 hu); clear hu; go_simp; try with_reducible rfl)); (simp only [Act.put, List.setIfInBounds_toArray, List.set_cons_zero, List.set_cons_succ]); go_big_quiet_on))
  go_big_quiet_want
  refine quiet_enter (.int .i64 0) 22 #[.string src, .slice (some ⟨p1, o1, none⟩) na c] (fun u _ => by first | rfl | (go_simp; done)) VA ?_
  simp only [Act.put, List.setIfInBounds_toArray, List.set_cons_zero, List.set_cons_succ]
  go_big_quiet_on
  repeat (first
    | go_big_quiet_skip
    | (go_big_quiet_want; go_big_quiet_op; go_big_quiet_on)
    | (go_big_quiet_want; refine' quiet_value _ (fun u hu => _) _; rotate_left; (focus ((try have q1 := Cls.c1 hu); (try have q2 := Cls.c2 hu); clear hu; go_simp; try with_reducible rfl)); (simp only [Act.put, List.setIfInBounds_toArray, List.set_cons_zero, List.set_cons_succ]); go_big_quiet_on))
  go_big_quiet_want
  refine quiet_enter (.int .i64 0) 22 #[.string src, .slice (some ⟨p2, o2, none⟩) nb d] (fun u _ => by first | rfl | (go_simp; done)) VB ?_
  simp only [Act.put, List.setIfInBounds_toArray, List.set_cons_zero, List.set_cons_succ]
  go_big_quiet_on
  repeat (first
    | go_big_quiet_skip
    | (go_big_quiet_want; go_big_quiet_op; go_big_quiet_on)
    | (go_big_quiet_want; refine' quiet_value _ (fun u hu => _) _; rotate_left; (focus ((try have q1 := Cls.c1 hu); (try have q2 := Cls.c2 hu); clear hu; go_simp; try with_reducible rfl)); (simp only [Act.put, List.setIfInBounds_toArray, List.set_cons_zero, List.set_cons_succ]); go_big_quiet_on))
  refine wpQuiet_nil ?_
  intro wq hq
  obtain ⟨aq, dq, bq, _⟩ := hq
  go_wp2_with fail
  refine (txEx _).mono ?_
  rintro e w8 ⟨rfl, hb8⟩
  go_wp2_with fail
  go_ret
  exact ⟨rfl, bq.trans (hb8.mono bq.size)⟩

end Go.Proofs.Ytbnoejdhachhhaa.tdis
