/-
  slices.swapRangeCmpFunc, slices.rotateCmpFunc: plain laws, the walks.
-/
import Derived.Test.YtbnoejdhachhhabIns
namespace Go.Proofs.Ytbnoejdhachhhab
open Go.RowKit Go.Shelf
set_option linter.unusedVariables false

/-- swapRange's loop, k rounds -/
def swpR (d : Array Nat) (a b : Nat) : Nat → Array Nat
  | 0 => d
  | k + 1 => Sort.swp (swpR d a b k) (a + k) (b + k)
theorem swpR_size (d : Array Nat) (a b k : Nat) : (swpR d a b k).size = d.size := by
  induction k with
  | zero => rfl
  | succ k ih => rw [swpR, Sort.size_swp, ih]
theorem swpR_allLt (d : Array Nat) (a b N : Nat) (h : AllLt d N) : ∀ k, a + k ≤ d.size → b + k ≤ d.size → AllLt (swpR d a b k) N
  | 0, _, _ => h
  | k + 1, h1, h2 => (swpR_allLt d a b N h k (by omega) (by omega)).swp _ _ (by rw [swpR_size]; omega) (by rw [swpR_size]; omega)
theorem swpR_perm (d : Array Nat) (a b lo hi : Nat) (h1 : lo ≤ a) (h2 : lo ≤ b) (hs : hi ≤ d.size) : ∀ k, a + k ≤ hi → b + k ≤ hi → Sort.PermIn lo hi d (swpR d a b k)
  | 0, _, _ => Sort.permIn_refl _ _ _
  | k + 1, h3, h4 => Sort.permIn_trans _ _ _ _ _ (swpR_perm d a b lo hi h1 h2 hs k (by omega) (by omega)) (Sort.swp_permIn _ _ _ _ _ (by omega) (by omega) (by omega) (by omega) (by rw [swpR_size]; exact hs))
theorem swpR_at (d : Array Nat) (a b : Nat) : ∀ (k : Nat), a + k ≤ b → b + k ≤ d.size → ∀ p, (swpR d a b k)[p]! = if a ≤ p ∧ p < a + k then d[p - a + b]! else if b ≤ p ∧ p < b + k then d[p - b + a]! else d[p]!
  | 0, _, _, p => by rw [if_neg (by omega), if_neg (by omega)]; rfl
  | k + 1, h1, h2, p => by
    have ih := swpR_at d a b k (by omega) (by omega)
    rw [swpR]
    by_cases e1 : p = b + k
    · subst e1
      rw [Sort.swp_right _ _ _ (by rw [swpR_size]; omega), ih, if_neg (by omega), if_neg (by omega), if_neg (by omega), if_pos (by omega)]
      congr 1; omega
    · by_cases e2 : p = a + k
      · subst e2
        rw [Sort.swp_left _ _ _ (by rw [swpR_size]; omega) (by omega), ih, if_neg (by omega), if_neg (by omega), if_pos (by omega)]
        congr 1; omega
      · rw [Sort.swp_other _ _ _ _ e2 e1, ih]
        by_cases c1 : a ≤ p ∧ p < a + k
        · have t1 : a ≤ p ∧ p < a + (k + 1) := by omega
          rw [if_pos c1, if_pos t1]
        · have t1 : ¬ (a ≤ p ∧ p < a + (k + 1)) := by omega
          rw [if_neg c1, if_neg t1]
          by_cases c2 : b ≤ p ∧ p < b + k
          · have t2 : b ≤ p ∧ p < b + (k + 1) := by omega
            rw [if_pos c2, if_pos t2]
          · have t2 : ¬ (b ≤ p ∧ p < b + (k + 1)) := by omega
            rw [if_neg c2, if_neg t2]

set_option maxRecDepth 100000 in
set_option maxHeartbeats 1000000 in
theorem swr_any (W0 : World) (g : Nat) (fv : Value) (N : Nat) (d : Array Nat) (extra : List Value) (a b k cap : Nat) (w : World)
    (hW : W0.grownBy w (some g)) (hR : RowG w g d extra) (hm : d.size ≤ 1000) (ha : a + k ≤ d.size) (hb : b + k ≤ d.size) (hab : a < b) (hcap : d.size ≤ cap) :
    Calls Try.prog 38 #[.slice (some ⟨g, 0, none⟩) d.size cap, .int .i64 a, .int .i64 b, .int .i64 k, fv] w fun e w' => e = .returned (.tuple #[]) ∧ W0.grownBy w' (some g) ∧ RowG w' g (swpR d a b k) extra := by
  obtain ⟨n, hn⟩ : ∃ n, d.size = n := ⟨_, rfl⟩
  have HR := Lib.hid hR
  have HW := Lib.hid hW
  have HD := Lib.hid hn
  rw [hn] at hm hb ha hcap ⊢
  clear hR hn hW
  go_enter Try.func38, Try.ntmps38
  go_wp2_with fail
  go_loopw [10] (fun vi wr => ∃ i : Nat, i ≤ k ∧ vi = .int .i64 i ∧ Hid (W0.grownBy wr (some g) ∧ RowG wr g (swpR d a b i) extra)) (fun vi _ => k - (intOf vi).toNat)
  case atStart => exact ⟨0, by omega, rfl, HW.out, HR.out⟩
  case round =>
    obtain ⟨i, hi, rfl, HX⟩ := hrel
    clear HR HW
    by_cases hlt : i < k
    · have hltI : (i : Int) < k := by omega
      obtain ⟨x1, x2⟩ := HX.out
      obtain ⟨p, hp⟩ : ∃ p, p = a + i := ⟨_, rfl⟩
      obtain ⟨q, hq⟩ : ∃ q, q = b + i := ⟨_, rfl⟩
      have hsz := HD.out
      have hps : p < (swpR d a b i).size := by rw [swpR_size]; omega
      have hqs : q < (swpR d a b i).size := by rw [swpR_size]; omega
      have hpn : (p : Int) < n := by omega
      have hqn : (q : Int) < n := by omega
      have hpq : p ≠ q := by omega
      have s1 : (a : Int) + (i : Int) = (p : Int) := by omega
      have s2 : (b : Int) + (i : Int) = (q : Int) := by omega
      have w1 : IntKind.i64.wrap ((a : Int) + (i : Int)) = (p : Int) := by rw [IntWalk.i64_in _ (by omega)]; omega
      have w2 : IntKind.i64.wrap ((b : Int) + (i : Int)) = (q : Int) := by rw [IntWalk.i64_in _ (by omega)]; omega
      have w3 : IntKind.i64.wrap (p : Int) = (p : Int) := by rw [IntWalk.i64_in _ (by omega)]
      have w4 : IntKind.i64.wrap (q : Int) = (q : Int) := by rw [IntWalk.i64_in _ (by omega)]
      have c1 := x2.cell p hps
      have c2 := x2.cell q hqs
      have f1 := x2.free p
      have f2 := x2.free q
      have e1 := x2.swap p q hps hqs
      generalize (swpR d a b i)[p]! = x at *
      generalize (swpR d a b i)[q]! = y at *
      have HN : Hid (W0.grownBy ((wr.setCell ⟨g, p, none⟩ (.int .i64 (y : Int))).setCell ⟨g, q, none⟩ (.int .i64 (x : Int))) (some g) ∧ RowG ((wr.setCell ⟨g, p, none⟩ (.int .i64 (y : Int))).setCell ⟨g, q, none⟩ (.int .i64 (x : Int))) g (swpR d a b (i + 1)) extra) := by
        refine ⟨grown_set (grown_set x1 _ _) _ _, ?_⟩
        rw [swpR, ← hp, ← hq]
        exact e1
      clear x1 x2 e1 HX hp hq hsz hps hqs
      go_wp2_with fail
      go_region
      all_goals go_wp2_with fail
      all_goals go_roundw
      case rel => exact ⟨i + 1, by omega, by go_num, by first | exact ⟨grown_drewOf HN.out.1, HN.out.2⟩ | exact HN.out⟩
      case measure => simp [intOf]; omega
    · obtain rfl : i = k := by omega
      go_wp2_with fail
      go_end0
      exact ⟨rfl, HX.out⟩
end Go.Proofs.Ytbnoejdhachhhab
