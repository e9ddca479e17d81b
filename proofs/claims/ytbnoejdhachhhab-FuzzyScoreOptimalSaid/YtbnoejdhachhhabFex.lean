/-
  glossatorkeep4.fuzzyExamples: the walk.
-/
import Derived.Test.YtbnoejdhachhhabRnk
namespace Go.Proofs.Ytbnoejdhachhhab
open Go.RowKit Go.Shelf
set_option linter.unusedVariables false

def exNames : List ByteArray := [⟨#[98, 97]⟩, ⟨#[97]⟩, ⟨#[98, 65]⟩, ⟨#[65]⟩, ⟨#[120]⟩]
theorem ex_score1 : scoreL ⟨#[103, 98]⟩ ⟨#[103, 101, 116, 66, 105, 103]⟩ = some (11, [0, 3]) := by kernel_rfl
theorem ex_score2 : scoreL ⟨#[98, 97]⟩ ⟨#[97, 98]⟩ = none := by kernel_rfl
theorem ex_hits : hitsTo ⟨#[97]⟩ exNames 5 = [0, 1, 2, 3] := by kernel_rfl
def rk : Nat → Nat
  | 0 => 3
  | 1 => 0
  | 2 => 2
  | _ => 1
theorem ex_tbl : ∀ x y : Fin 4, decide (cmpN (scoresL ⟨#[97]⟩ exNames) exNames x.1 y.1 < 0) = decide (rk x.1 < rk y.1) := by decide +kernel
theorem ex_brute : ∀ a b c d : Fin 4, a ≠ b → a ≠ c → a ≠ d → b ≠ c → b ≠ d → c ≠ d → ¬ rk b.1 < rk a.1 → ¬ rk c.1 < rk b.1 → ¬ rk d.1 < rk c.1 → (a.1, b.1, c.1, d.1) = (1, 3, 2, 0) := by decide +kernel
theorem ex_idx (idx : List Nat) (hp : idx.Perm [0, 1, 2, 3]) (hs : idx.Pairwise (fun x y => ¬ cmpN (scoresL ⟨#[97]⟩ exNames) exNames y x < 0)) : idx = [1, 3, 2, 0] := by
  have hl := hp.length_eq
  have hn : idx.Nodup := hp.nodup_iff.2 (by decide)
  have hm : ∀ i ∈ idx, i < 4 := fun i hi => by
    have := hp.mem_iff.1 hi
    simp only [List.mem_cons, List.not_mem_nil, or_false] at this
    omega
  match idx, hl with
  | [a, b, c, d], _ =>
    have ha := hm a (by simp)
    have hb := hm b (by simp)
    have hc := hm c (by simp)
    have hd := hm d (by simp)
    have tb : ∀ x y : Nat, x < 4 → y < 4 → ¬ cmpN (scoresL ⟨#[97]⟩ exNames) exNames x y < 0 → ¬ rk x < rk y := fun x y hx hy h q => by
      have := ex_tbl ⟨x, hx⟩ ⟨y, hy⟩
      rw [decide_eq_true q, decide_eq_false h] at this
      cases this
    simp only [List.nodup_cons, List.mem_cons, List.not_mem_nil, or_false, not_or] at hn
    simp only [List.pairwise_cons, List.mem_cons, List.not_mem_nil, or_false] at hs
    have k := ex_brute ⟨a, ha⟩ ⟨b, hb⟩ ⟨c, hc⟩ ⟨d, hd⟩ (fun e => hn.1.1 (congrArg Fin.val e)) (fun e => hn.1.2.1 (congrArg Fin.val e)) (fun e => hn.1.2.2 (congrArg Fin.val e)) (fun e => hn.2.1.1 (congrArg Fin.val e)) (fun e => hn.2.1.2 (congrArg Fin.val e)) (fun e => hn.2.2.1 (congrArg Fin.val e))
      (tb b a hb ha (hs.1 b (.inl rfl))) (tb c b hc hb (hs.2.1 c (.inl rfl))) (tb d c hd hc (hs.2.2.1 d rfl))
    simp only [Prod.mk.injEq] at k
    obtain ⟨k1, k2, k3, k4⟩ := k
    rw [k1, k2, k3, k4]

theorem lit_ints (w : World) (xs : List Int) : IntsAt (w.alloc (.cells (xs.map (Value.int .i64)).toArray 3)) (w.alloc (.cells (xs.map (Value.int .i64)).toArray 3)).heap.size (some ⟨w.heap.size, 0, none⟩) xs := fun _ =>
  ⟨_, 0, rfl, by simp, fun k x hx => by rw [Nat.zero_add, Lib.cell_of_heap (World.alloc_heap_new w _)]; simp [hx]⟩

set_option maxHeartbeats 1000000 in
theorem fex_any (w : World) : Calls Try.prog 7 #[] w fun e w' => e = .returned (.bool true) ∧ Below w.heap.size w w' := by
  have hs1 := Lib.hid (fun u => score_any ⟨#[103, 98]⟩ ⟨#[103, 101, 116, 66, 105, 103]⟩ u (by decide) (by decide))
  have hs2 := Lib.hid (fun u => score_any ⟨#[98, 97]⟩ ⟨#[97, 98]⟩ u (by decide) (by decide))
  rw [ex_score1] at hs1
  rw [ex_score2] at hs2
  go_enter Try.func7, Try.ntmps7
  go_wp2_with fail
  refine (hs1.out _).mono ?_
  rintro e w1 ⟨b1, A1, c1, rfl, i1⟩
  have B1 := Lib.hid b1
  have I1 := Lib.hid i1
  clear b1 i1 hs1
  go_wp2_with fail
  refine (hs2.out _).mono ?_
  rintro e w2 ⟨b2, rfl⟩
  have B2 := Lib.hid b2
  clear b2 hs2
  go_wp2_with fail
  have hA : StrsAt (w2.alloc (.cells (exNames.map Value.string).toArray 9)) (w2.alloc (.cells (exNames.map Value.string).toArray 9)).heap.size (some ⟨w2.heap.size, 0, none⟩) exNames := fun _ =>
    ⟨_, 0, rfl, by simp, fun k x hx => by rw [Nat.zero_add, Lib.cell_of_heap (World.alloc_heap_new w2 _)]; simp [hx]⟩
  have hrank := Lib.hid (rank_any ⟨#[97]⟩ exNames (some ⟨w2.heap.size, 0, none⟩) 5 _ (by decide) (by decide) (by decide) hA)
  clear hA
  refine hrank.out.mono ?_
  rintro e w3 ⟨b3, h3⟩
  rw [if_neg (by decide)] at h3
  obtain ⟨A3, c3, idx, rfl, i3, hperm, hsort⟩ := h3
  obtain rfl := ex_idx idx (by rw [← ex_hits]; exact hperm) hsort
  have B3 := Lib.hid (((Below.refl _ w2).alloc (Nat.le_refl _) _).trans (b3.mono (by simp)))
  have I3 : Hid (IntsAt w3 w3.heap.size A3 [1, 3, 2, 0]) := i3
  have I13 := Lib.hid ((((I1.out.below B2.out).more B2.out.size).below B3.out).more B3.out.size)
  have BB3 := Lib.hid (B1.out.trans ((B2.out.trans (B3.out.mono B2.out.size)).mono B1.out.size))
  have hl1 := lit_ints w3 [0, 3]
  have heq1 := Lib.hid (eqInts_any A1 (some ⟨w3.heap.size, 0, none⟩) c1 2 [0, 3] [0, 3] _ ((I13.out.below ((Below.refl _ w3).alloc (Nat.le_refl _) _)).more (by simp)) hl1 (by decide) rfl)
  clear b3 i3 hperm hsort hrank hl1 I1 B1 B2 B3
  go_wp2_with fail
  refine heq1.out.mono ?_
  rintro e w4 ⟨rfl, b4⟩
  have B4 := Lib.hid (((Below.refl _ w3).alloc (Nat.le_refl _) _).trans (b4.mono (by simp)))
  have I34 := Lib.hid ((I3.out.below B4.out).more B4.out.size)
  have BB4 := Lib.hid (BB3.out.trans (B4.out.mono BB3.out.size))
  have hl2 := lit_ints w4 [1, 3, 2, 0]
  have heq2 := Lib.hid (eqInts_any A3 (some ⟨w4.heap.size, 0, none⟩) c3 4 [1, 3, 2, 0] [1, 3, 2, 0] _ ((I34.out.below ((Below.refl _ w4).alloc (Nat.le_refl _) _)).more (by simp)) hl2 (by decide) rfl)
  clear b4 heq1 hl2 I3 I13 BB3 B4
  go_wp2_with fail
  refine heq2.out.mono ?_
  rintro e w5 ⟨rfl, b5⟩
  have BB5 := Lib.hid (BB4.out.trans ((((Below.refl _ w4).alloc (Nat.le_refl _) _).trans (b5.mono (by simp))).mono BB4.out.size))
  clear b5 heq2 I34 BB4
  go_wp2_with fail
  refine (fold_any 97 65 _).mono ?_
  rintro e w6 ⟨rfl, rfl⟩
  rw [show foldB 97 65 = true by decide]
  go_wp2_with fail
  refine (fold_any 91 123 _).mono ?_
  rintro e w7 ⟨rfl, rfl⟩
  rw [show foldB 91 123 = false by decide]
  go_wp2_with fail
  go_ret
  exact ⟨rfl, BB5.out⟩
end Go.Proofs.Ytbnoejdhachhhab
