/-
  TexteditTransformDisjoint answers true at every input. No condition.
-/
import Derived.Test.YtbnoejdhachhhaaTdt
namespace Go.Proofs.Ytbnoejdhachhhaa.tdis
open Go.ChangeShapes Go.WideShapes Go.ChangeAt Go.RowKit
open Go.ChangeMaps (open_string shut_string)
set_option linter.unusedVariables false

theorem walk (src : ByteArray) (A : Option Addr) (c : Nat) (a : List Ed) (D : Option Addr) (d : Nat) (b : List Ed) (w : World) (hsrc : src.size ≤ maxLen)
    (ha : EdsAt w w.heap.size A a) (hm : a.length ≤ maxLen) (hs : Short a) (hc : a.length ≤ c) (hb : EdsAt w w.heap.size D b) (hm' : b.length ≤ maxLen) (hs' : Short b) (hd : b.length ≤ d) :
    Calls Try.prog 11 #[.string src, .slice A a.length c, .slice D b.length d] w fun e w' => e = .returned (.bool true) ∧ Below w.heap.size w w' := by
  by_cases g1 : valT src.size a = 0
  · by_cases g2 : valT src.size b = 0
    · by_cases g3 : a.length = 0
      · rw [g3]; exact td3 src A c a D d b w b.length g3 rfl hsrc ha hm hs hc hb hm' hs' hd g1 g2
      · have k3 : ((a.length : Int) == 0) = false := beq_eq_false_iff_ne.2 (by omega)
        by_cases g4 : b.length = 0
        · rw [g4]; exact td4 src A c a D d b w a.length rfl g4 hsrc ha hm hs hc hb hm' hs' hd g1 g2 k3
        · have k4 : ((b.length : Int) == 0) = false := beq_eq_false_iff_ne.2 (by omega)
          obtain ⟨p1, o1, rfl, hp1, hc1⟩ := id ha (by omega)
          obtain ⟨p2, o2, rfl, hp2, hc2⟩ := id hb (by omega)
          obtain ⟨m, hml⟩ : ∃ m, a.length = m + 1 := ⟨a.length - 1, by omega⟩
          obtain ⟨_, s2, _⟩ := hc1 m a[m] (List.getElem?_eq_getElem (by omega))
          obtain ⟨t1, _, _⟩ := hc2 0 b[0] (List.getElem?_eq_getElem (by omega))
          rw [Nat.zero_mul, Nat.add_zero] at t1
          have l50 := (valT_ok g1).2.1
          have l50' := (valT_ok g2).2.1
          by_cases g5 : b[0].s ≤ a[m].e
          · exact td5 src p1 o1 c a p2 o2 d b w a.length b.length rfl rfl hsrc ha hm hs hc hb hm' hs' hd g1 g2 k3 k4 l50 l50' m hml (by omega) a[m] b[0] s2 t1 hp1 hp2 g5
          · exact td6 src p1 o1 c a p2 o2 d b w a.length b.length rfl rfl hsrc ha hm hs hc hb hm' hs' hd g1 g2 k3 k4 l50 l50' m hml (by omega) a[m] b[0] s2 t1 hp1 hp2 g5
    · exact td2 src A c a D d b w a.length b.length (valT src.size b) rfl rfl hsrc ha hm hs hc hb hm' hs' hd g1 rfl (by simp [g2])
  · exact td1 src A c a D d b w a.length b.length (valT src.size a) rfl rfl hsrc ha hm hs hc hb hm' hs' hd rfl rfl (by simp [g1])


set_option maxRecDepth 100000 in
theorem lifted (os : Os) (started : os.Started) (H : Type) (enc : TypeId × Value → H) :
    ReturnsInHanded {} Try.checked os 11 .any (Rows.texteditTransformDisjointSpec.pre6 enc Try.prog Try.f11 Rows.texteditTransformDisjointRow.domain false) (Rows.texteditTransformDisjointSpec.post enc Try.prog Try.f11 false true false false) := by
  refine returnsInHanded_of_change_sized (C := Try.checked) own started (by kernel_rfl) Try.func11
    (ChangeSpec.witness6 (enc := enc) (C := Try.checked) false ⟨#[], #[.string .empty, .slice none 0 0, .slice none 0 0], []⟩ 8 (by kernel_rfl) (by kernel_rfl) (by kernel_rfl) (by kernel_rfl)) ?_
  intro W base args ds gs before hval0 hW hcnd hsz0 _
  have hval : ∀ (j : Nat) t v, Try.f11.params[j]? = some t → args[j]? = some v → Value.okWide Try.prog W .any base t v := hval0
  have hW' := hW
  obtain ⟨p, q, hA0, hV, rfl, hfz, hnd⟩ := hW
  have hA : DataW.TrodAll enc Try.prog W 0 (fun _ => true) true Try.f11.params.toList args.toList ds p := hA0
  rw [Try.params11] at hA hval
  obtain ⟨v0, vs0, d0, ds0, p0, q0, hargs, rfl, rfl, h0, r0⟩ := trodAll_cons hA
  obtain ⟨v1, vs1, d1, ds1, p1, q1, rfl, rfl, rfl, h1, r1⟩ := trodAll_cons r0
  obtain ⟨v2, vs2, d2, ds2, p2, q2, rfl, rfl, rfl, h2, r2⟩ := trodAll_cons r1
  obtain ⟨rfl, rfl, rfl⟩ := trodAll_nil r2
  obtain rfl : args = #[v0, v1, v2] := by cases args; simp_all
  obtain ⟨rfl, rfl⟩ := trodVars_none hV
  have hsz : (DataW.weightsEach Try.prog [9, 22, 22] [d0, d1, d2]).all (fun x => decide (x ≤ reachBytes)) = true := hsz0
  simp only [DataW.weightsEach, List.all_append, Bool.and_eq_true] at hsz
  obtain ⟨a0, rfl, rfl, rfl, w0⟩ := open_string Try.underlying9 (hval 0 9 v0 rfl rfl) h0
  obtain ⟨A1, c1, es1, rfl, hE1, hm1, hF1, hc1⟩ := open_eds (hval 1 22 v1 rfl rfl) h1 hsz.2.1
  have lt1 : ∀ x ∈ p1, x.block < W.heap.size := by obtain ⟨m, hm⟩ := h1; exact DataW.trod_lt m _ _ _ hm
  obtain ⟨A2, c2, es2, rfl, hE2, hm2, hF2, hc2⟩ := open_eds (hval 2 22 v2 rfl rfl) h2 hsz.2.2.1
  have lt2 : ∀ x ∈ p2, x.block < W.heap.size := by obtain ⟨m, hm⟩ := h2; exact DataW.trod_lt m _ _ _ hm
  clear hA0 hval0
  refine (walk a0 A1 c1 es1 A2 c2 es2 W w0 hE1 hm1 (fun x hx => (hF1 x hx).2.2) hc1 hE2 hm2 (fun x hx => (hF2 x hx).2.2) hc2).mono fun e W' ⟨he, bel⟩ => ?_
  subst he
  exact ⟨_, rfl, _, _, _, [], _, [], hW', trodAll_mk1 (shut_bool Try.underlying4 _),
    (trodAll_cons_mk (shut_string Try.underlying9 w0) (trodAll_cons_mk (Below.trod laidOut (by kernel_rfl) (of_decide_eq_true (by kernel_rfl)) h1 bel lt1) (trodAll_cons_mk (Below.trod laidOut (by kernel_rfl) (of_decide_eq_true (by kernel_rfl)) h2 bel lt2) trodAll_mk0))), rfl, bel.frame _, fun h => by cases h⟩

theorem over : Rows.texteditTransformDisjointRow.holds Try.pinned (OpenSpec.ofChange Rows.texteditTransformDisjointSpec) :=
  OpenClaim.holds_of_wide 11 Try.f11 rfl rfl rfl rfl rfl rfl rfl ⟨rfl, rfl, rfl, rfl, rfl⟩ rfl rfl rfl rfl rfl (by kernel_rfl) Try.func11 (by kernel_rfl)
    (of_decide_eq_true (by kernel_rfl)) (by unfold Func.isWrapper; first | (rw [if_pos (by decide +kernel)]; kernel_rfl) | (rw [if_neg (by decide +kernel)]; exact ⟨rfl, rfl⟩))
    (fun os started H enc _ => lifted os started H enc)

theorem proved : Rows.TexteditTransformDisjointSaid := over
end Go.Proofs.Ytbnoejdhachhhaa.tdis
