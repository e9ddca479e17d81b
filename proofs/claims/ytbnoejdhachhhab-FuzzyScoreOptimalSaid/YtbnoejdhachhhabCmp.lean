/-
  fuzzy.Rank's comparison: the walk.
-/
import Derived.Test.YtbnoejdhachhhabSco
import Derived.StillTailTactics
namespace Go.Proofs.Ytbnoejdhachhhab
open Go.RowKit Go.Shelf
set_option linter.unusedVariables false

/-- a slice of strings reads so -/
def StrsAt (w : World) (B : Nat) (A : Option Addr) (ss : List ByteArray) : Prop :=
  0 < ss.length → ∃ b off, A = some ⟨b, off, none⟩ ∧ b < B ∧ ∀ k x, ss[k]? = some x → w.cell? ⟨b, off + k, none⟩ = some (.string x)
theorem StrsAt.keep {w w' : World} {B : Nat} {A : Option Addr} {es : List ByteArray} (h : StrsAt w B A es) (hk : ∀ p : Addr, p.block < B → w'.cell? p = w.cell? p) : StrsAt w' B A es := by
  intro hn
  obtain ⟨b, off, rfl, hb, hc⟩ := h hn
  exact ⟨b, off, rfl, hb, fun k x hx => (hk _ hb).trans (hc k x hx)⟩
theorem StrsAt.below {w w' : World} {B : Nat} {A : Option Addr} {es : List ByteArray} (h : StrsAt w B A es) (hb : Below B w w') : StrsAt w' B A es := h.keep fun _ hp => hb.cell hp
theorem StrsAt.more {w : World} {B B' : Nat} {A : Option Addr} {es : List ByteArray} (h : StrsAt w B A es) (hB : B ≤ B') : StrsAt w B' A es := by
  intro hn
  obtain ⟨b, off, rfl, hb, hc⟩ := h hn
  exact ⟨b, off, rfl, by omega, hc⟩

/-- the comparison of two indices -/
def cmpN (scores : List Int) (names : List ByteArray) (a b : Nat) : Int :=
  orL [cmpI (scores.getD b 0) (scores.getD a 0), cmpI ((names.getD a default).size : Int) ((names.getD b default).size : Int), Lib.compareBytes (names.getD a default).data.toList (names.getD b default).data.toList]

set_option maxRecDepth 100000 in
set_option maxHeartbeats 1000000 in
theorem rcmp_any (Bs Bn gs cs : Nat) (An : Option Addr) (cn : Nat) (scores : List Int) (names : List ByteArray) (a b : Nat) (w : World) (ha : a < names.length) (hb : b < names.length) (hl : scores.length = names.length) (hm : names.length ≤ 1000) (hsz : ∀ x ∈ names, x.size ≤ maxLen)
    (h1 : w.cell? ⟨Bs, 0, none⟩ = some (.slice (some ⟨gs, 0, none⟩) scores.length cs)) (h2 : w.cell? ⟨Bn, 0, none⟩ = some (.slice An names.length cn))
    (h3 : ∀ k x, scores[k]? = some x → w.cell? ⟨gs, k, none⟩ = some (.int .i64 x)) (h4 : StrsAt w w.heap.size An names) :
    Calls Try.prog 17 #[.int .i64 a, .int .i64 b, .pointer (some ⟨Bs, 0, none⟩), .pointer (some ⟨Bn, 0, none⟩)] w fun e w' => e = .returned (.int .i64 (cmpN scores names a b)) ∧ Below w.heap.size w w' := by
  obtain ⟨bn, off, rfl, hbn, hc⟩ := h4 (by omega)
  have s1 := h3 a scores[a] (List.getElem?_eq_getElem (by omega))
  have s2 := h3 b scores[b] (List.getElem?_eq_getElem (by omega))
  have n1 := hc a names[a] (List.getElem?_eq_getElem ha)
  have n2 := hc b names[b] (List.getElem?_eq_getElem hb)
  have z1 := hsz names[a] (List.getElem_mem ha)
  have z2 := hsz names[b] (List.getElem_mem hb)
  have HC := Lib.hid (show cmpN scores names a b = orL [cmpI scores[b] scores[a], cmpI (names[a].size : Int) (names[b].size : Int), Lib.compareBytes names[a].data.toList names[b].data.toList] by
    unfold cmpN
    simp only [List.getD_eq_getElem?_getD, List.getElem?_eq_getElem (show a < scores.length by omega), List.getElem?_eq_getElem (show b < scores.length by omega), List.getElem?_eq_getElem ha, List.getElem?_eq_getElem hb, Option.getD_some])
  generalize scores[a] = x at *
  generalize scores[b] = y at *
  generalize names[a] = p at *
  generalize names[b] = q at *
  unfold maxLen at z1 z2
  have i1 : (a : Int) < scores.length := by omega
  have i2 : (b : Int) < scores.length := by omega
  have i3 : (a : Int) < names.length := by omega
  have i4 : (b : Int) < names.length := by omega
  clear h3 hc hsz
  go_enter Try.func17, Try.ntmps17
  go_wp2_with fail
  refine wp_region_still_tail 29 (by kernel_rfl) (by kernel_rfl) ?_
  simp only [List.take_succ_cons, List.take_zero, List.drop_succ_cons, List.drop_zero]
  repeat still_step
  still_call (cmp_any _ _ _)
  repeat still_step
  still_call (cmp_any _ _ _)
  repeat still_step
  still_call (scmp_any _ _ _)
  repeat still_step
  refine wpStill_nil ?_
  generalize cmpI y x = c1 at *
  generalize cmpI (p.size : Int) (q.size : Int) = c2 at *
  generalize Lib.compareBytes p.data.toList q.data.toList = c3 at *
  go_wp2_with fail
  refine (or_any (some ⟨w.heap.size, 0, none⟩) 3 [c1, c2, c3] _ (fun _ => ⟨w.heap.size, 0, rfl, by simp, fun k z hz => ?_⟩) (by unfold maxLen; simp)).mono ?_
  · rw [cell_drew_own, Nat.zero_add, Lib.cell_of_heap (World.alloc_heap_new w _)]
    match k, hz with
    | 0, hz => cases hz; rfl
    | 1, hz => cases hz; rfl
    | 2, hz => cases hz; rfl
    | k + 3, hz => simp at hz
  · rintro e w1 ⟨rfl, rfl⟩
    go_wp2_with fail
    go_ret
    exact ⟨by rw [HC.out]; first | rfl | (simp; done), ((Below.refl _ _).alloc (Nat.le_refl _) _).drew⟩
end Go.Proofs.Ytbnoejdhachhhab
