/-
  A region that draws its order, in a round of a range over a function (wide fence): by the laws of a region outside any round.
-/
import Derived.Test.YtbnoejdhachhhabTab
import Derived.Sort.CutIn
import Derived.Deep.DrawnRows
namespace Go.Proofs.Ytbnoejdhachhhab
open Go.RowKit Go.Shelf
set_option linter.unusedVariables false

section
variable {P : Program} {ops : Array Oper} {l n : Nat}

theorem oper_round {o : Oper} {a : Act} {w : World} {K : Act → World → Prop} {Q : Exit → Act → World → Prop} (hd : ∀ c, o.op ≠ .defer c) (h : o.wp P a w K Q) : o.wpIn (Fence.wide.inRound l) n P a w K Q := by
  refine ⟨fun _ _ => trivial, ?_⟩
  rw [show (Fence.wide.inRound l).round = some l from rfl, Oper.semAt_some l a.eval o hd]
  unfold Oper.wp at h
  generalize (execOp a.eval o).run P w = r at *
  cases r with
  | ok x w' =>
    cases x <;> simp only [Oper.upon] at h <;> simp only [Oper.uponIn]
    case value => exact h
    case skip => exact h
    case defer => exact h
    case enter f args => exact ⟨fun q => (by cases q), CallsIn.inRound l (callsIn_wide.2 (h.mono fun e w'' he => by cases e <;> exact he))⟩
    case row row args => exact ⟨fun q => (by cases q), fun c cs _ => let ⟨v, w', r, s⟩ := h c cs; ⟨v, w', r, stepsIn_wide.2 s⟩⟩
  | halt x w' => cases x <;> simp only [Oper.upon] at h <;> simp only [Oper.uponIn] <;> exact h

theorem op_round {i : Nat} {a : Act} {w : World} {K : Act → World → Prop} {Q : Exit → Act → World → Prop} (hd : ∀ o ∈ ops.toList, ∀ c, o.op ≠ .defer c) (hQ : ¬ LetsOut Q) (h : wpOp P ops Q i K a w) : wpOpIn (Fence.wide.inRound l) n P ops Q i K a w := by
  unfold wpOp at h
  unfold wpOpIn
  cases ho : ops[i]? with
  | none => simp only [ho] at h; exact h
  | some o =>
    simp only [ho] at h ⊢
    have hm : o ∈ ops.toList := by
      obtain ⟨hi, rfl⟩ := Array.getElem?_eq_some_iff.1 ho
      simp
    split
    · rename_i hw
      simp only [hw, if_true] at h
      exact h.elim (oper_round (hd o hm)) (fun q => absurd q.2 hQ)
    · rename_i hw
      simp only [hw] at h
      exact ⟨fun _ _ => trivial, h⟩

theorem any_round {md : Region.Mode} {Q : Exit → Act → World → Prop} (hd : ∀ o ∈ ops.toList, ∀ c, o.op ≠ .defer c) (hQ : ¬ LetsOut Q) : ∀ (fuel : Nat) (listed : Array Bool) (a : Act) (w : World), wpAny P md ops Q fuel listed a w → wpAnyIn (Fence.wide.inRound l) n P md ops Q fuel listed a w
  | 0, _, _, _, h => h
  | fuel + 1, _, _, _, h => ⟨h.1, fun i hi => wpOpIn_mono (fun a' w' h' => any_round hd hQ fuel _ a' w' h') (op_round hd hQ (h.2 i hi))⟩

/-- no operation is a defer -/
def noDefer (ops : Array Oper) : Bool := ops.toList.all fun o => match o.op with | .defer _ => false | _ => true
theorem noDefer_spec (h : noDefer ops = true) : ∀ o ∈ ops.toList, ∀ c, o.op ≠ .defer c := by
  intro o ho c hc
  have := (List.all_eq_true.1 h) o ho
  rw [hc] at this
  cases this

/-- THE LAW: loads first (S), then what is left. -/
theorem round_held {id : Nat} {a : Act} {w : World} {Q : Exit → Act → World → Prop} (S : World → Prop) (hm : P.follows .mixedOrders = true) (hd : noDefer ops = true) (hQ : ¬ LetsOut Q) (hS : S w.drew)
    (h : S w.drew → wpAnyH P .any ops Q S ops.size (Array.replicate ops.size false) a w.drew) : (Code.region id ops true).wpIn (Fence.wide.inRound l) n P Q a w :=
  wpIn_region_any hm (any_round (noDefer_spec hd) hQ _ _ _ _ (wpAny_of_held _ _ _ _ (h hS)))
end
/-- operation number i, as it stands -/
theorem at_zero {x : Oper} {l : List Oper} : (x :: l).toArray[0]? = some x := rfl
theorem at_succ {x y : Oper} {l : List Oper} {n : Nat} (h : l.toArray[n]? = some x) : (y :: l).toArray[n + 1]? = some x := by simpa using h
theorem lets_then {K : Act → World → Prop} {Q : Exit → Act → World → Prop} (h : ¬ LetsOut Q) : ¬ LetsOut (Exit.then K Q) := fun ⟨a, w, q⟩ => h ⟨a, w, q⟩
theorem lets_block {id : Nat} {Q : Exit → Act → World → Prop} (h : ¬ LetsOut Q) : ¬ LetsOut (Exit.inBlock id Q) := fun ⟨a, w, q⟩ => h ⟨a, w, q⟩
theorem lets_post {α : Type} {B : Nat} {Kp : World → World → Prop} {I : List α → World → Prop} {Ix : Code → List α → World → Prop} {xs : List α} {W : World} : ¬ LetsOut (ownPostG B Kp I Ix xs W) := fun ⟨a, w, q⟩ => q
end Go.Proofs.Ytbnoejdhachhhab
