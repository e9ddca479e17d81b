/-
  THE ROW's STEP, ONCE: an argument that is a slice of edits, opened; the frames of the statements of this seat.
-/
import Derived.Test.YtbnoejdhachhhaaRows
import Derived.Test.YtbnoejdhachhhaaBase
import Derived.ProofKit
import Derived.OpenShut
import Derived.ShutString
import Derived.ChangeOld
import Derived.SizedLaws
import Derived.Deep.Slices
import Derived.Deep.Fields
import Derived.ChangeSame
namespace Go.Proofs.Ytbnoejdhachhhaa
open Go.ChangeShapes Go.WideShapes Go.ChangeAt Go.RowKit Go.Deep
open Go.ChangeMaps (open_string shut_string)

theorem own : ownKnob Try.prog.godebug = none := by kernel_rfl
theorem laidOut : laidOutB Try.prog = true := by kernel_rfl
theorem edCells : Try.prog.cellsOf 31 = 3 := by kernel_rfl

/-- what is known of the edits that came in -/
def Fits (es : List Ed) : Prop := ∀ x ∈ es, (-9223372036854775808 ≤ x.s ∧ x.s ≤ 9223372036854775807) ∧ (-9223372036854775808 ≤ x.e ∧ x.e ≤ 9223372036854775807) ∧ x.t.size ≤ 140737488351232

section
variable {H : Type} {enc : TypeId × Value → H}
theorem weights_mem_all {P : Program} {e : TypeId} {d : DataW H} {n : Nat} : ∀ {l : List (DataW H)}, d ∈ l → n ∈ d.weights P e → n ∈ DataW.weightsAll P e l
  | x :: r, hd, hn => by
    simp only [DataW.weightsAll, List.mem_append]
    rcases List.mem_cons.1 hd with rfl | hd
    · exact .inl hn
    · exact .inr (weights_mem_all hd hn)
theorem wf_i64 {n : Int} (h : (Lit.int .i64 n).wf = true) : -9223372036854775808 ≤ n ∧ n ≤ 9223372036854775807 := by
  simpa [Lit.wf, IntKind.min, IntKind.max, IntKind.signed, IntKind.bits] using h

theorem open_eds {W : World} {base : Nat} {v : Value} {d : DataW H} {p : List MemPlace} (hv : Value.okWide Try.prog W .any base 22 v)
    (hj : DataW.Trod enc Try.prog W 0 (fun _ => true) true 22 v d p) (hsz : (d.weights Try.prog 22).all (fun x => decide (x ≤ reachBytes)) = true) :
    ∃ A c es, v = .slice A es.length c ∧ EdsAt W W.heap.size A es ∧ es.length ≤ maxLen ∧ Fits es ∧ es.length ≤ c := by
  obtain ⟨a0, len, cap, rfl⟩ := okWide_slice Try.underlying22 hv
  obtain ⟨fuel, hf⟩ := hj
  rcases open_slice Try.underlying22 hf with ⟨hcs, _⟩ | ⟨a, l, c, m, n, D, Pl, hcs, _, hl, hm, hmm, hx, hi⟩
  · simp [Value.cells] at hcs
    obtain ⟨rfl, rfl, rfl⟩ := hcs
    exact ⟨none, 0, [], rfl, fun h => by simp at h, by simp, fun x hx => by simp at hx, by simp⟩
  · simp [Value.cells] at hcs
    obtain ⟨rfl, rfl, rfl⟩ := hcs
    simp only [Prod.mk.injEq] at hx
    obtain ⟨rfl, _⟩ := hx
    have each : ∀ i, i < len → ∃ x : Ed, (W.cell? (a.add (i * 3)) = some (.int .i64 x.s) ∧ W.cell? (a.add (i * 3 + 1)) = some (.int .i64 x.e) ∧ W.cell? (a.add (i * 3 + 2)) = some (.string x.t)) ∧
        (Lit.int .i64 x.s).wf = true ∧ (Lit.int .i64 x.e).wf = true ∧ D i = .agg [.lit (.int .i64 x.s), .lit (.int .i64 x.e), .lit (.string x.t.data.toList)] := by
      intro i hil
      obtain ⟨cs', hc, ht⟩ := hi i (by simp only [if_true] at hmm; omega)
      rw [edCells] at hc
      obtain ⟨xs, k, _, hxy, _, hxl, hfd⟩ := DataW.trod_struct Try.underlying31 ht
      obtain ⟨_, hcl, hat⟩ := World.cells?_some hc
      match xs, hxl, cs', hcl with
      | [y0, y1, y2], _, [v0, v1, v2], _ =>
        have g0 := hfd 0 _ rfl
        have g1 := hfd 1 _ rfl
        have g2 := hfd 2 _ rfl
        have i0 : Try.prog.cellsOf 3 = 1 := by kernel_rfl
        have i1 : Try.prog.cellsOf 9 = 1 := by kernel_rfl
        simp [i0, i1] at g0 g1 g2
        obtain ⟨s, e0, rfl, w0⟩ := DataW.trod_int Try.underlying3 g0
        obtain ⟨e, e1, rfl, w1⟩ := DataW.trod_int Try.underlying3 g1
        obtain ⟨t, e2, rfl, w2⟩ := DataW.trod_string Try.underlying9 g2
        simp at e0 e1 e2
        subst e0 e1 e2
        have a0 := hat 0 (by omega)
        have a1 := hat 1 (by omega)
        have a2 := hat 2 (by omega)
        rw [Go.Deep.add_add] at a0 a1 a2
        simp only [Prod.mk.injEq] at hxy
        exact ⟨⟨s, e, t⟩, ⟨by simpa using a0, by simpa using a1, by simpa using a2⟩, w0, w1, by simpa using hxy.1⟩
    obtain ⟨X, hX⟩ := choose_lt each
    have hlen : ((List.range len).map X).length = len := by simp
    refine ⟨some a, cap, (List.range len).map X, by rw [hlen], fun hp => ?_, by rw [hlen]; omega, fun x hx => ?_, by rw [hlen]; omega⟩
    · rw [hlen] at hp
      have h0 := (hX 0 hp).1.1
      obtain ⟨b, off, spot⟩ := a
      have hspot : spot = none := by simpa [Addr.add] using World.cell?_spot h0
      subst hspot
      have hb : b < W.heap.size := by simpa [Addr.add] using World.block_lt_of_cell? W _ h0
      refine ⟨b, off, rfl, hb, fun k x hk => ?_⟩
      simp only [List.getElem?_map, Option.map_eq_some_iff] at hk
      obtain ⟨i, hi', rfl⟩ := hk
      obtain ⟨hil, hi'⟩ := List.getElem?_eq_some_iff.1 hi'
      simp at hil hi'
      subst hi'
      obtain ⟨c0, c1, c2⟩ := (hX k hil).1
      rw [add_plain] at c0 c1 c2
      exact ⟨c0, by rw [Nat.add_assoc]; exact c1, by rw [Nat.add_assoc]; exact c2⟩
    · obtain ⟨i, hi', rfl⟩ := List.mem_map.1 hx
      have hil := List.mem_range.1 hi'
      obtain ⟨_, w0, w1, hD⟩ := hX i hil
      refine ⟨wf_i64 w0, wf_i64 w1, ?_⟩
      have hw : (X i).t.data.toList.length ∈ DataW.weights Try.prog 22 (.slice ((List.range len).map D) ((List.range (m - len)).map fun j => D (len + j))) := by
        simp only [DataW.weights, Try.underlying22, List.mem_cons, List.mem_append]
        refine .inr (.inl (weights_mem_all (d := D i) (List.mem_map.2 ⟨i, hi', rfl⟩) ?_))
        rw [hD]
        simp [DataW.weights, Try.underlying31, DataW.weightsEach]
      have := List.all_eq_true.1 hsz _ hw
      simpa [reachBytes] using of_decide_eq_true this
end
end Go.Proofs.Ytbnoejdhachhhaa
