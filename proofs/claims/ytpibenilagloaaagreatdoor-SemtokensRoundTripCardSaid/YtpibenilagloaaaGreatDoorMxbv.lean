import Derived.Test.YtpibenilagloaaaGreatDoorMxab
/-
  semtokens.commonPrefix, Diff: the walks.
-/
namespace Go.Proofs.YtpibenilagloaaaGreatDoor
open Go.RowKit
set_option linter.unusedVariables false

set_option maxRecDepth 100000 in
set_option maxHeartbeats 1600000 in
theorem cp_any (xs ys : List TokD) (A D : Option Addr) (c d : Nat) (w : World) (F : Nat → Prop) (h : tdD.At w F A xs) (h' : tdD.At w F D ys) (hF : ∀ b, F b → b < w.heap.size) (hm : xs.length ≤ maxLen) (hm' : ys.length ≤ maxLen) :
    Calls Tryz.prog 35 #[.slice A xs.length c, .slice D ys.length d] w fun e w' => e = .returned (.int .i64 (cpL xs ys : Nat)) ∧ Below w.heap.size w w' := by
  unfold maxLen at hm hm'
  obtain ⟨n, hn⟩ : ∃ n, xs.length = n := ⟨_, rfl⟩
  obtain ⟨m, hn'⟩ : ∃ m, ys.length = m := ⟨_, rfl⟩
  have HN := Lib.hid hn
  have HM := Lib.hid hn'
  have HA := Lib.hid h
  have HD := Lib.hid h'
  have HF := Lib.hid hF
  have HC := Lib.hid (cpL_of xs ys)
  rw [hn] at hm ⊢
  rw [hn'] at hm' ⊢
  clear hn hn' h h' hF
  go_enter Tryz.func35, Tryz.ntmps35
  go_wp2_with fail
  go_loopw [5] (fun i wr => ∃ k : Nat, k ≤ n ∧ k ≤ m ∧ i = .int .i64 k ∧ Hid (∀ j x y, j < k → xs[j]? = some x → ys[j]? = some y → x = y) ∧ Below w.heap.size w wr) (fun i _ => n - (intOf i).toNat)
  case atStart => exact ⟨0, Nat.zero_le _, Nat.zero_le _, rfl, Lib.hid (fun j x y h => absurd h (Nat.not_lt_zero _)), Below.refl _ _⟩
  case round =>
    obtain ⟨k, hk, hkm, rfl, hall, hb⟩ := hrel
    have hord : Hid (m < n ∨ ¬ m < n) := Lib.hid (Nat.lt_or_ge m n |>.imp_right Nat.not_lt.2)
    by_cases hlt : k < n ∧ k < m
    · have hk1 : k < xs.length := by rw [HN.out]; exact hlt.1
      have hk2 : k < ys.length := by rw [HM.out]; exact hlt.2
      have hmin : decide ((k : Int) < (if m < n then (m : Int) else (n : Int))) = true := by split <;> simp <;> omega
      have hkn : (k : Int) < n := by omega
      have hkm' : (k : Int) < m := by omega
      obtain ⟨b, off, rfl, hbb, hc⟩ := flat_get HA.out k xs[k] (List.getElem?_eq_getElem hk1)
      obtain ⟨b', off', rfl, hbb', hc'⟩ := flat_get HD.out k ys[k] (List.getElem?_eq_getElem hk2)
      have HX := Lib.hid (List.getElem?_eq_getElem hk1)
      have HY := Lib.hid (List.getElem?_eq_getElem hk2)
      generalize xs[k] = x at *
      generalize ys[k] = y at *
      obtain ⟨x0, x1, x2, x3⟩ := x
      obtain ⟨y0, y1, y2, y3⟩ := y
      have hbl := HF.out b hbb
      have hbl' := HF.out b' hbb'
      have cc : ∀ j u, ([.int .i64 x0, .int .i64 x1, .int .i64 x2, .int .i64 x3] : List Value)[j]? = some u → wr.cell? ⟨b, off + k * 4 + j, none⟩ = some u := fun j u hu => (hb.cell (p := ⟨b, _, none⟩) hbl).trans (hc j u hu)
      have dd : ∀ j u, ([.int .i64 y0, .int .i64 y1, .int .i64 y2, .int .i64 y3] : List Value)[j]? = some u → wr.cell? ⟨b', off' + k * 4 + j, none⟩ = some u := fun j u hu => (hb.cell (p := ⟨b', _, none⟩) hbl').trans (hc' j u hu)
      have c0 := cc 0 _ rfl
      have c1 := cc 1 _ rfl
      have c2 := cc 2 _ rfl
      have c3 := cc 3 _ rfl
      have d0 := dd 0 _ rfl
      have d1 := dd 1 _ rfl
      have d2 := dd 2 _ rfl
      have d3 := dd 3 _ rfl
      rw [Nat.add_zero] at c0 d0
      have heq := fun w => td_eq x0 x1 x2 x3 y0 y1 y2 y3 w
      clear cc dd hc hc' hbb hbb' hlt hk1 hk2
      by_cases hxy : (⟨x0, x1, x2, x3⟩ : TokD) = ⟨y0, y1, y2, y3⟩
      · rw [decide_eq_true hxy] at heq
        have HXY := Lib.hid hxy
        clear hxy
        rcases hord.out with hmn | hmn
        all_goals
          go_wp2_with fail
          go_quiet (fail)
          go_wp2_with fail
        all_goals go_roundw
        all_goals first | (simp [intOf]; omega; done) | skip
        all_goals
          refine ⟨k + 1, by omega, by omega, by go_num, Lib.hid fun j x y hj hx hy => ?_, below_drewN hb _⟩
          by_cases hjk : j = k
          · subst hjk
            rw [HX.out] at hx
            rw [HY.out] at hy
            injection hx with hx
            injection hy with hy
            rw [← hx, ← hy]; exact HXY.out
          · exact hall.out j x y (by omega) hx hy
      · rw [decide_eq_false hxy] at heq
        have HXY := Lib.hid hxy
        have HE := Lib.hid (HC.out k (by rw [HN.out]; omega) (by rw [HM.out]; omega) hall.out (fun x y hx hy => by
          rw [HX.out] at hx
          rw [HY.out] at hy
          injection hx with hx
          injection hy with hy
          rw [← hx, ← hy]; exact hxy))
        clear hxy
        rcases hord.out with hmn | hmn
        all_goals
          go_wp2_with fail
          go_quiet (fail)
          go_wp2_with fail
          go_ret
          exact ⟨by rw [HE.out]; rfl, below_drewN hb _⟩
    · have hmin : decide ((k : Int) < (if m < n then (m : Int) else (n : Int))) = false := by split <;> simp <;> omega
      have HE := Lib.hid (HC.out k (by rw [HN.out]; omega) (by rw [HM.out]; omega) hall.out (fun x y hx hy => by
        have h1 := (List.getElem?_eq_some_iff.1 hx).1
        have h2 := (List.getElem?_eq_some_iff.1 hy).1
        rw [HN.out] at h1
        rw [HM.out] at h2
        omega))
      clear hmin
      rcases hord.out with hmn | hmn
      · have hq : decide (k < m) = false := by simp; omega
        clear hlt
        go_wp2_with fail
        go_quiet (fail)
        go_wp2_with fail
        go_ret
        exact ⟨by rw [HE.out]; rfl, below_drewN hb _⟩
      · have hq : decide (k < n) = false := by simp; omega
        clear hlt
        go_wp2_with fail
        go_quiet (fail)
        go_wp2_with fail
        go_ret
        exact ⟨by rw [HE.out]; rfl, below_drewN hb _⟩
end Go.Proofs.YtpibenilagloaaaGreatDoor
