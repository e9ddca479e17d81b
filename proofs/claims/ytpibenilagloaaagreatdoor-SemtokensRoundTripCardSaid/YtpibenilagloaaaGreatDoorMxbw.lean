import Derived.Test.YtpibenilagloaaaGreatDoorMxbv
import Derived.Test.YtpibenilagloaaaGreatDoorShelf2
import Derived.Deep.DeepCutAuto
import Derived.Deep.DeepMust
import Derived.Deep.RegionLaw
import Derived.Test.YtpibenilagloaaaGreatDoorMxat
import Derived.BigRegion
import Derived.Deep.RegionHeld3
import Derived.Test.YtpibenilagloaaaGreatDoorMxav
/-
  semtokens.Diff: the walk.
-/
namespace Go.Proofs.YtpibenilagloaaaGreatDoor
open Go.RowKit
set_option linter.unusedVariables false

set_option maxRecDepth 100000 in
set_option maxHeartbeats 1600000 in
theorem clone_td (xs : List TokD) (A : Option Addr) (c : Nat) (w : World) (F : Nat → Prop) (h : tdD.At w F A xs) (hF : ∀ b, F b → b < w.heap.size) (hm : xs.length * 32 ≤ 140737488355328) :
    Calls Tryz.prog 36 #[.slice A xs.length c] w fun e w' => ∃ A' c', e = .returned (.slice A' xs.length c') ∧ tdD.At w' (fun b => w.heap.size ≤ b ∧ b < w'.heap.size) A' xs ∧ Below w.heap.size w w' := by
  rcases A with _ | ad
  · have hx : xs = [] := by
      cases xs with
      | nil => rfl
      | cons x r => obtain ⟨b, off, h, _⟩ := flat_get h 0 x rfl; cases h
    subst hx
    have hc := AnyE.slices_Clone_nil Tryz.cloneTd ([] : List TokD).length c w
    change Calls Tryz.prog 36 _ _ _ at hc
    refine hc.mono ?_
    rintro e w' ⟨rfl, rfl⟩
    exact ⟨none, 0, rfl, Dat.At.nil, Below.refl _ _⟩
  · have hr := flat_row h
    have hl : (xs.flatMap tdC).length = xs.length * 4 := flat_len (enc := tdC) (k := 4) (fun _ => rfl) xs
    have h1 : ∀ u ∈ xs.flatMap tdC, u.oneCell' = true := fun u hu => by
      obtain ⟨x, _, hx⟩ := List.mem_flatMap.1 hu
      simp [tdC] at hx; rcases hx with rfl | rfl | rfl | rfl <;> rfl
    have hfr := flatD_of (enc := tdC) (hp := (by decide : 0 < 4)) (hk := fun _ => rfl) (h1 := fun x v hv => by simp [tdC] at hv; rcases hv with rfl | rfl | rfl | rfl <;> rfl) (w := w) (F := F) xs
    have HFR := Lib.hid (fun (w' : World) (F' : Nat → Prop) => (flatD_of (enc := tdC) (hp := (by decide : 0 < 4)) (hk := fun _ => rfl) (h1 := fun x v hv => by simp [tdC] at hv; rcases hv with rfl | rfl | rfl | rfl <;> rfl) (w := w') (F := F') xs))
    have hal : RowAt (w.alloc (.cells #[] 73)) F (some ad) (xs.flatMap tdC) := hr.keep (fun _ h => h) (fun b hb => Below.heap_alloc w _ b (hF b hb))
    obtain ⟨n, hn⟩ : ∃ n, xs.length = n := ⟨_, rfl⟩
    have HN := Lib.hid hn
    rw [hn] at hl hm ⊢
    generalize xs.flatMap tdC = news at *
    have he : ∀ w : World, (binOp .eql 31 (.slice (some ad) n c) (.slice none 0 0)).run Tryz.prog w = .ok (.bool false) w := fun _ => rfl
    clear hn h hr hfr
    go_enter Tryz.func36, Tryz.ntmps36
    go_wp2_with (at_builtin; refine wpList_append_src rfl (.tmp 5) (.tmp 6) _ rfl w.heap.size 73 _ 4 32 Tryz.underlying31 info_td rfl (by decide) _ _ _ rfl (World.ownsRow_made w #[] 0 (Nat.le_refl _) (Nat.zero_le _) (by simp)) F (some ad) n c news rfl hal hl h1 ?c4 ?c5 ?c6 ?_)
    case c4 => simp only [maxLen]; omega
    case c5 => omega
    case c6 => simp
    intro v' w1 hown hgrow hat
    have hown2 : w1.ownsRow w.heap.size 73 4 v' n news := by simpa using hown
    have hb : Below w.heap.size w w1 := ((Below.refl _ w).alloc (Nat.le_refl _) _).grown hgrow (by simp) (by intro k hk; simp [Value.ownBlock] at hk; omega)
    have HO : Hid (tdD.Own w1 w.heap.size 73 (fun b => w.heap.size ≤ b ∧ b < w1.heap.size) v' xs news) := ⟨by rw [HN.out]; exact hown2, HFR.out _ _⟩
    have HB := Lib.hid hb
    clear hown hgrow hat hown2 hb
    obtain ⟨A', c', hv, hat2, _⟩ := HO.out.at (F' := fun b => w.heap.size ≤ b ∧ b < w1.heap.size) (fun _ h => h) (fun g hg => HO.out.1.lt g hg)
    rw [HN.out] at hv
    subst hv
    have HT := Lib.hid hat2
    clear hat2
    go_wp2_with fail
    go_ret
    exact ⟨A', c', rfl, HT.out, HB.out⟩
set_option maxRecDepth 100000 in
set_option maxHeartbeats 1600000 in
theorem diff_any (xs ys : List TokD) (A D : Option Addr) (c d : Nat) (w : World) (F : Nat → Prop) (h : tdD.At w F A xs) (h' : tdD.At w F D ys) (hF : ∀ b, F b → b < w.heap.size) (hm : xs.length ≤ maxLen) (hm' : ys.length * 32 ≤ 140737488355328) (hc : xs.length ≤ c) (hd : ys.length ≤ d) :
    Calls Tryz.prog 14 #[.slice A xs.length c, .slice D ys.length d] w fun e w' => ∃ A' c', e = .returned (.tuple #[.int .i64 (dStart xs ys : Nat), .int .i64 ((xs.length - dStart xs ys - dSuf xs ys : Nat) : Int), .slice A' (ys.length - dStart xs ys - dSuf xs ys) c']) ∧ tdD.At w' (fun b => w.heap.size ≤ b ∧ b < w'.heap.size) A' ((ys.drop (dStart xs ys)).take (ys.length - dStart xs ys - dSuf xs ys)) ∧ Below w.heap.size w w' := by
  unfold maxLen at hm
  have HC := Lib.hid (cp_any xs ys A D c d w F h h' hF (by unfold maxLen; omega) (by unfold maxLen; omega))
  obtain ⟨n, hn⟩ : ∃ n, xs.length = n := ⟨_, rfl⟩
  obtain ⟨m, hn'⟩ : ∃ m, ys.length = m := ⟨_, rfl⟩
  have hle := cpL_le xs ys
  have HX := Lib.hid (h.drop (cpL xs ys))
  have HY := Lib.hid (h'.drop (cpL xs ys))
  have hsuf : dSuf xs ys = cpL (xs.drop (cpL xs ys)).reverse (ys.drop (cpL xs ys)).reverse := rfl
  rw [hsuf, show dStart xs ys = cpL xs ys from rfl]
  have hlx : (xs.drop (cpL xs ys)).length = n - cpL xs ys := by rw [List.length_drop, hn]
  have hly : (ys.drop (cpL xs ys)).length = m - cpL xs ys := by rw [List.length_drop, hn']
  generalize cpL xs ys = s at *
  generalize xs.drop s = X at *
  generalize ys.drop s = Y at *
  have HF := Lib.hid hF
  rw [hn, hn'] at hle
  rw [hn] at hm hc ⊢ HC
  rw [hn'] at hm' hd ⊢ HC
  clear hn hn' h h' hF hsuf
  obtain ⟨hle1, hle2⟩ := hle
  obtain ⟨n1, hn1⟩ : ∃ n1, n - s = n1 := ⟨_, rfl⟩
  obtain ⟨m1, hm1⟩ : ∃ m1, m - s = m1 := ⟨_, rfl⟩
  rw [hn1] at hlx ⊢
  rw [hm1] at hly ⊢
  have HN := Lib.hid hlx
  have HM := Lib.hid hly
  have HN1 := Lib.hid hn1
  have HM1 := Lib.hid hm1
  have hb1' : n1 ≤ n := by omega
  have hb2' : m1 ≤ m := by omega
  clear hlx hly hn1 hm1
  go_enter Tryz.func14, Tryz.ntmps14
  go_wp2_with fail
  refine HC.out.mono ?_
  rintro e w1 ⟨rfl, hb1⟩
  have HB1 := Lib.hid hb1
  clear hb1 HC
  go_wp2_with fail
  go_cut [0, 1, 9, 10, 12, 15] (fun v0 v1 _ _ _ _ wx => ∃ A' c' D' d', v0 = .slice A' n1 c' ∧ v1 = .slice D' m1 d' ∧ m1 ≤ d' ∧ Hid (tdD.At w F A' X) ∧ Hid (tdD.At w F D' Y) ∧ Below w.heap.size w wx)
  case first =>
    go_quiet (fail)
    go_wp2_with fail
    · go_meet
      case rel =>
        have hnil : ∀ (Z : List TokD) (B : Option Addr), Z.length = 0 → tdD.At w F B Z := fun Z B h0 => by
          rw [List.length_eq_zero_iff.1 h0]; exact Dat.At.nil
        refine ⟨_, _, _, _, by rw [HN1.out], by rw [HM1.out], (by have := HM1.out; omega), ?_, ?_, below_drewN HB1.out _⟩
        · first
            | exact HX
            | exact hnil _ _ (by rw [HN.out, ← HN1.out]; omega)
        · first
            | exact HY
            | exact hnil _ _ (by rw [HM.out, ← HM1.out]; omega)
    · go_meet
      case rel =>
        have hnil : ∀ (Z : List TokD) (B : Option Addr), Z.length = 0 → tdD.At w F B Z := fun Z B h0 => by
          rw [List.length_eq_zero_iff.1 h0]; exact Dat.At.nil
        refine ⟨_, _, _, _, by rw [HN1.out], by rw [HM1.out], (by have := HM1.out; omega), ?_, ?_, below_drewN HB1.out _⟩
        · first
            | exact HX
            | exact hnil _ _ (by rw [HN.out, ← HN1.out]; omega)
        · first
            | exact HY
            | exact hnil _ _ (by rw [HM.out, ← HM1.out]; omega)
    · go_meet
      case rel =>
        have hnil : ∀ (Z : List TokD) (B : Option Addr), Z.length = 0 → tdD.At w F B Z := fun Z B h0 => by
          rw [List.length_eq_zero_iff.1 h0]; exact Dat.At.nil
        refine ⟨_, _, _, _, by rw [HN1.out], by rw [HM1.out], (by have := HM1.out; omega), ?_, ?_, below_drewN HB1.out _⟩
        · first
            | exact HX
            | exact hnil _ _ (by rw [HN.out, ← HN1.out]; omega)
        · first
            | exact HY
            | exact hnil _ _ (by rw [HM.out, ← HM1.out]; omega)
    · go_meet
      case rel =>
        have hnil : ∀ (Z : List TokD) (B : Option Addr), Z.length = 0 → tdD.At w F B Z := fun Z B h0 => by
          rw [List.length_eq_zero_iff.1 h0]; exact Dat.At.nil
        refine ⟨_, _, _, _, by rw [HN1.out], by rw [HM1.out], (by have := HM1.out; omega), ?_, ?_, below_drewN HB1.out _⟩
        · first
            | exact HX
            | exact hnil _ _ (by rw [HN.out, ← HN1.out]; omega)
        · first
            | exact HY
            | exact hnil _ _ (by rw [HM.out, ← HM1.out]; omega)
  case rest =>
    obtain ⟨A', c', D', d', rfl, rfl, hmd, HA, HD, hb⟩ := hcut
    have HB := Lib.hid hb
    have HC := Lib.hid (cpL_of X.reverse Y.reverse)
    have HW := Lib.hid (fun (w' : World) (k : Nat) (hb : Below w.heap.size w w') => clone_td (Y.take k) D' d' w' F ((HD.out.take k).keep (fun _ h => h) (fun b hb' => hb.block b (HF.out b hb'))) (fun b hb' => Nat.lt_of_lt_of_le (HF.out b hb') hb.size) (by rw [List.length_take, HM.out]; omega))
    clear hb HX HY
    go_wp2_with fail
    go_loopw [8] (fun i wr => ∃ k : Nat, k ≤ n1 ∧ k ≤ m1 ∧ i = .int .i64 k ∧ Hid (∀ j x y, j < k → X.reverse[j]? = some x → Y.reverse[j]? = some y → x = y) ∧ Below w.heap.size w wr) (fun i _ => n1 - (intOf i).toNat)
    case atStart => exact ⟨0, Nat.zero_le _, Nat.zero_le _, rfl, Lib.hid (fun j x y h => absurd h (Nat.not_lt_zero _)), HB.out⟩
    case round =>
      obtain ⟨k, hk, hkm, rfl, hall, hb⟩ := hrel
      by_cases hlt : k < n1 ∧ k < m1
      · have hk1 : n1 - 1 - k < X.length := by rw [HN.out]; omega
        have hk2 : m1 - 1 - k < Y.length := by rw [HM.out]; omega
        have hmin : decide ((k : Int) < min (n1 : Int) (m1 : Int)) = true := by simp; omega
        obtain ⟨i1, hi1⟩ : ∃ i1, i1 = n1 - 1 - k := ⟨_, rfl⟩
        obtain ⟨i2, hi2⟩ : ∃ i2, i2 = m1 - 1 - k := ⟨_, rfl⟩
        have e1 : (n1 : Int) - 1 - (k : Int) = (i1 : Int) := by omega
        have e2 : (m1 : Int) - 1 - (k : Int) = (i2 : Int) := by omega
        have q1 : (i1 : Int) < n1 := by omega
        have q2 : (i2 : Int) < m1 := by omega
        rw [← hi1] at hk1
        rw [← hi2] at hk2
        obtain ⟨b, off, rfl, hbb, hc⟩ := flat_get HA.out i1 X[i1] (List.getElem?_eq_getElem hk1)
        obtain ⟨b', off', rfl, hbb', hc'⟩ := flat_get HD.out i2 Y[i2] (List.getElem?_eq_getElem hk2)
        have HX : Hid (X.reverse[k]? = some X[i1]) := by
          unfold Hid; rw [List.getElem?_reverse (by rw [HN.out]; omega), HN.out, ← hi1, List.getElem?_eq_getElem hk1]
        have HY : Hid (Y.reverse[k]? = some Y[i2]) := by
          unfold Hid; rw [List.getElem?_reverse (by rw [HM.out]; omega), HM.out, ← hi2, List.getElem?_eq_getElem hk2]
        generalize X[i1] = x at *
        generalize Y[i2] = y at *
        obtain ⟨x0, x1, x2, x3⟩ := x
        obtain ⟨y0, y1, y2, y3⟩ := y
        have hbl := HF.out b hbb
        have hbl' := HF.out b' hbb'
        have cc : ∀ j u, ([.int .i64 x0, .int .i64 x1, .int .i64 x2, .int .i64 x3] : List Value)[j]? = some u → wr.cell? ⟨b, off + i1 * 4 + j, none⟩ = some u := fun j u hu => (hb.cell (p := ⟨b, _, none⟩) hbl).trans (hc j u hu)
        have dd : ∀ j u, ([.int .i64 y0, .int .i64 y1, .int .i64 y2, .int .i64 y3] : List Value)[j]? = some u → wr.cell? ⟨b', off' + i2 * 4 + j, none⟩ = some u := fun j u hu => (hb.cell (p := ⟨b', _, none⟩) hbl').trans (hc' j u hu)
        have c0 := cc 0 _ rfl
        have c1 := cc 1 _ rfl
        have c2 := cc 2 _ rfl
        have c3 := cc 3 _ rfl
        have d0 := dd 0 _ rfl
        have d1 := dd 1 _ rfl
        have d2 := dd 2 _ rfl
        have d3 := dd 3 _ rfl
        rw [Nat.add_zero] at c0 d0
        have heq := fun w => td_eq x0 x1 x2 x3 y0 y1 y2 y3 w
        obtain ⟨hlt1, hlt2⟩ := hlt
        clear cc dd hc hc' hbb hbb' hk1 hk2 hi1 hi2
        by_cases hxy : (⟨x0, x1, x2, x3⟩ : TokD) = ⟨y0, y1, y2, y3⟩
        · rw [decide_eq_true hxy] at heq
          have HXY := Lib.hid hxy
          clear hxy
          go_wp2_with fail
          go_quiet (fail)
          go_wp2_with fail
          go_roundw
          case rel =>
            refine ⟨k + 1, by omega, by omega, by go_num, Lib.hid fun j x y hj hx hy => ?_, below_drewN hb _⟩
            by_cases hjk : j = k
            · subst hjk
              rw [HX.out] at hx
              rw [HY.out] at hy
              injection hx with hx
              injection hy with hy
              rw [← hx, ← hy]; exact HXY.out
            · exact hall.out j x y (by omega) hx hy
          case measure => simp [intOf]; omega
        · rw [decide_eq_false hxy] at heq
          have HE := Lib.hid (HC.out k (by rw [List.length_reverse, HN.out]; omega) (by rw [List.length_reverse, HM.out]; omega) hall.out (fun x y hx hy => by
            rw [HX.out] at hx
            rw [HY.out] at hy
            injection hx with hx
            injection hy with hy
            rw [← hx, ← hy]; exact hxy))
          clear hxy
          have hbd := Lib.hid hb
          go_wp2_with fail
          go_quiet (fail)
          have hkd : m1 - k ≤ d' := by omega
          have hCL := HW.out (wr.drewN nq) (m1 - k) (below_drewN hbd.out _)
          have hcl : (Y.take (m1 - k)).length = m1 - k := by rw [List.length_take, HM.out]; omega
          rw [hcl] at hCL
          have HCL := Lib.hid hCL
          have hkn : (n1 : Int) - (k : Int) = ((n1 - k : Nat) : Int) := by omega
          clear hCL hcl
          go_wp2_with fail
          refine HCL.out.mono ?_
          rintro e w3 ⟨A3, c3, rfl, hat3, hb3⟩
          have HT := Lib.hid hat3
          have HB3 := Lib.hid ((below_drewN hbd.out nq).trans (hb3.mono (by have := hbd.out.size; simpa using this)))
          have hsz := hbd.out.size
          clear hat3 hb3 HCL
          go_wp2_with fail
          go_ret3
          rw [HE.out]
          exact ⟨A3, c3, rfl, HT.out.keep (fun b hb => ⟨Nat.le_trans (by simpa using hsz) hb.1, hb.2⟩) (fun _ _ => rfl), HB3.out⟩
      · have hmin : decide ((k : Int) < min (n1 : Int) (m1 : Int)) = false := by simp; omega
        have HE := Lib.hid (HC.out k (by rw [List.length_reverse, HN.out]; omega) (by rw [List.length_reverse, HM.out]; omega) hall.out (fun x y hx hy => by
          have h1 := (List.getElem?_eq_some_iff.1 hx).1
          have h2 := (List.getElem?_eq_some_iff.1 hy).1
          rw [List.length_reverse, HN.out] at h1
          rw [List.length_reverse, HM.out] at h2
          omega))
        have hbd := Lib.hid hb
        clear hlt
        go_wp2_with fail
        go_quiet (fail)
        go_wp2_with fail
        have hkd : m1 - k ≤ d' := by omega
        have hCL := HW.out (wr.drewN nq) (m1 - k) (below_drewN hbd.out _)
        have hcl : (Y.take (m1 - k)).length = m1 - k := by rw [List.length_take, HM.out]; omega
        rw [hcl] at hCL
        have HCL := Lib.hid hCL
        have hkn : (n1 : Int) - (k : Int) = ((n1 - k : Nat) : Int) := by omega
        clear hCL hcl
        go_wp2_with fail
        refine HCL.out.mono ?_
        rintro e w3 ⟨A3, c3, rfl, hat3, hb3⟩
        have HT := Lib.hid hat3
        have HB3 := Lib.hid ((below_drewN hbd.out nq).trans (hb3.mono (by have := hbd.out.size; simpa using this)))
        have hsz := hbd.out.size
        clear hat3 hb3 HCL
        go_wp2_with fail
        go_ret3
        rw [HE.out]
        exact ⟨A3, c3, rfl, HT.out.keep (fun b hb => ⟨Nat.le_trans (by simpa using hsz) hb.1, hb.2⟩) (fun _ _ => rfl), HB3.out⟩
end Go.Proofs.YtpibenilagloaaaGreatDoor

/-
  SemtokensDiffApplies: the walk, the examples as a premise.
-/
namespace Go.Proofs.YtpibenilagloaaaGreatDoor
open Go.RowKit
set_option linter.unusedVariables false

set_option maxRecDepth 100000 in
set_option maxHeartbeats 6400000 in
theorem dap_any (xs ys : List TokD) (A D : Option Addr) (c d : Nat) (w : World) (h : tdD.At w (Lt w) A xs) (h' : tdD.At w (Lt w) D ys) (hm : xs.length * 32 ≤ 140737488355328) (hm2 : ys.length * 32 ≤ 140737488355328) (hc : xs.length ≤ c) (hd : ys.length ≤ d) (hx : SexOk w) :
    Calls Tryz.prog 5 #[.slice A xs.length c, .slice D ys.length d] w fun e w' => e = .returned (.bool true) ∧ Below w.heap.size w w' := by
  have HX := Lib.hid hx
  have HX0 := Lib.hid (hx w (Below.refl _ _))
  have HDF := Lib.hid (fun w' (hb : Below w.heap.size w w') => diff_any xs ys A D c d w' (Lt w') (At.lt h (fun b hb => hb) hb) (At.lt h' (fun b hb => hb) hb) (fun b hb => hb) (by unfold maxLen; omega) (by omega) hc hd)
  have HA := Lib.hid h
  have HD := Lib.hid h'
  have HL := Lib.hid (diff_law xs ys)
  have hs1 := cpL_le xs ys
  have hs2 := cpL_le (xs.drop (dStart xs ys)).reverse (ys.drop (dStart xs ys)).reverse
  rw [List.length_reverse, List.length_reverse, List.length_drop, List.length_drop] at hs2
  have e1 : cpL xs ys = dStart xs ys := rfl
  have e2 : cpL (xs.drop (dStart xs ys)).reverse (ys.drop (dStart xs ys)).reverse = dSuf xs ys := rfl
  rw [e2] at hs2
  rw [e1] at hs1
  obtain ⟨n, hn⟩ : ∃ n, xs.length = n := ⟨_, rfl⟩
  obtain ⟨m, hn'⟩ : ∃ m, ys.length = m := ⟨_, rfl⟩
  have HN := Lib.hid hn
  have HM := Lib.hid hn'
  rw [List.length_drop, List.length_drop] at HL
  rw [hn, hn'] at hs1 hs2 HDF
  rw [hn] at hm
  rw [hn'] at hm2
  rw [hn] at hc HL
  rw [hn'] at hd HL
  rw [hn, hn']
  generalize dStart xs ys = p at *
  generalize dSuf xs ys = q at *
  obtain ⟨t, ht⟩ : ∃ t, n - p - q = t := ⟨_, rfl⟩
  obtain ⟨r, hr⟩ : ∃ r, m - p - q = r := ⟨_, rfl⟩
  rw [ht, hr] at HDF
  rw [ht, hr] at HL
  obtain ⟨I, hI⟩ : ∃ I, (ys.drop p).take r = I := ⟨_, rfl⟩
  have hil : I.length = r := by rw [← hI, List.length_take, List.length_drop, HM.out]; omega
  have HIL := Lib.hid hil
  rw [hI] at HDF
  rw [hI] at HL
  have hpt : p + t + q = n := by omega
  have hpr : p + r + q = m := by omega
  clear hn hn' h h' hx e1 e2 hs1 hs2 ht hr hI hil
  go_enter Tryz.func5, Tryz.ntmps5
  go_wp2_with fail
  refine HX0.out.mono ?_
  rintro e w1 ⟨rfl, hb1⟩
  have H1 := Lib.hid (HDF.out w1 hb1)
  have HB1 := Lib.hid hb1
  clear hb1 HX0 HDF
  go_wp2_with fail
  refine H1.out.mono ?_
  rintro e w2 ⟨IA, ic, rfl, hiat, hb2⟩
  have HB2 := Lib.hid (HB1.out.trans (hb2.mono HB1.out.size))
  have HI := Lib.hid hiat
  clear hb2 hiat H1
  have i1 : ¬ (p : Int) < 0 := by omega
  have i2 : ¬ (t : Int) < 0 := by omega
  obtain ⟨pt, hpt2⟩ : ∃ pt, p + t = pt := ⟨_, rfl⟩
  have i3 : (p : Int) + t = (pt : Int) := by omega
  have i4 : ¬ (n : Int) < (pt : Int) := by omega
  have i5 : p ≤ c := by omega
  have i6 : pt ≤ n := by omega
  have HI2 := HI
  have HLP := Lib.hid HL.out
  rw [hpt2] at HLP
  have hown0 : ((w2.alloc (.cells #[] 73)).drew).ownsRow w2.heap.size 73 4 (.slice (some ⟨w2.heap.size, 0, none⟩) 0 0) 0 [] := (World.ownsRow_made w2 #[] 0 (Nat.le_refl _) (Nat.zero_le _) (by simp)).drew
  have HO0 := Lib.hid hown0
  have fw : ∀ l : List TokD, (l.flatMap tdC).length = l.length * 4 := fun l => flat_len (enc := tdC) (k := 4) (fun _ => rfl) l
  have f1 : ∀ (l : List TokD), ∀ u ∈ l.flatMap tdC, u.oneCell' = true := fun l u hu => by
    obtain ⟨x, _, hx⟩ := List.mem_flatMap.1 hu
    simp [tdC] at hx; rcases hx with rfl | rfl | rfl | rfl <;> rfl
  have HFW := Lib.hid fw
  have HF1 := Lib.hid f1
  have hbw0 : Below w2.heap.size w2 ((w2.alloc (.cells #[] 73)).drew) := ((Below.refl _ _).alloc (Nat.le_refl _) _).drew
  have HBW0 := Lib.hid hbw0
  have HS1 : ∀ w' : World, Below w2.heap.size w2 w' → Hid (RowAt w' (Lt w') A ((xs.take p).flatMap tdC)) := fun w' hb => flat_row (At.lt (HA.out.take p) (fun b hb => hb) (HB2.out.trans (hb.mono HB2.out.size)))
  have HS2 : ∀ w' : World, Below w2.heap.size w2 w' → Hid (RowAt w' (Lt w') IA (I.flatMap tdC)) := fun w' hb => flat_row (At.lt HI.out (fun b hb => hb.2) hb)
  have HS3 : ∀ w' : World, Below w2.heap.size w2 w' → Hid (RowAt w' (Lt w') (A.map fun x => x.add (pt * 4)) ((xs.drop pt).flatMap tdC)) := fun w' hb => flat_row (At.lt (HA.out.drop pt) (fun b hb => hb) (HB2.out.trans (hb.mono HB2.out.size)))
  clear hown0 fw f1 hbw0
  by_cases hcp : c = pt
  · obtain rfl : n = pt := by omega
    subst hcp
    have g1 : (c : Int) ≤ c := by omega
    have g0 : (0 : Int) ≤ c := by omega
    have gw1 : IntKind.i64.wrap ((p : Int) + t) = (c : Int) := by rw [i3]; exact IntWalk.i64_in _ (by omega)
    have gw2 : IntKind.i64.wrap (c : Int) = (c : Int) := IntWalk.i64_in _ (by omega)
    have gw3 : (c : Int).toNat = c := Int.toNat_natCast c
    have hdn : xs.drop c = [] := List.drop_of_length_le (by rw [HN.out]; omega)
    have HDN := Lib.hid hdn
    have HS4 : ∀ w' : World, Hid (RowAt w' (Lt w') A ([] : List Value)) := fun w' h => absurd h (by simp)
    clear hdn
    go_wp2_with fail
    go_region_held3 (fun _ => True) (first | go_keep | trivial) ((first
      | (refine step_append_src (by rfl) (.tmp 32) (.tmp 35) _ (by rfl) w2.heap.size 73 _ 4 32 Tryz.underlying31 info_td (by rfl) (by decide) (.slice (some ⟨w2.heap.size, 0, none⟩) 0 0) 0 [] (by rfl) HO0.out (Lt _) A p c ((xs.take p).flatMap tdC) (by rfl) (HS1 _ HBW0.out).out (by rw [HFW.out, List.length_take, HN.out, Nat.min_eq_left (by omega)]) (HF1.out _) (by unfold maxLen; omega) (by omega) (by simp) ?_; intro v3 w3 hown3 hgrow3 hat3; have b3 := Lib.hid (HBW0.out.grown hgrow3 (by simp) (fun q hq => (HO0.out.lt q hq).1)); have o3 := Lib.hid hown3; clear hown3 hgrow3 hat3)
      | (refine step_append_src (by rfl) (.tmp 36) (.tmp 37) _ (by rfl) w2.heap.size 73 _ 4 32 Tryz.underlying31 info_td (by rfl) (by decide) v3 (0 + p) ([] ++ (xs.take p).flatMap tdC) (by rfl) o3.out (Lt _) IA r ic (I.flatMap tdC) (by rfl) (HS2 _ b3.out).out (by rw [HFW.out, HIL.out]) (HF1.out _) (by unfold maxLen; omega) (by omega) b3.out.size ?_; intro v4 w4 hown4 hgrow4 hat4; have b4 := Lib.hid (b3.out.grown hgrow4 b3.out.size (fun q hq => (o3.out.lt q hq).1)); have o4 := Lib.hid hown4; clear hown4 hgrow4 hat4)
      | (refine step_append_src (by rfl) (.tmp 38) (.tmp 43) _ (by rfl) w2.heap.size 73 _ 4 32 Tryz.underlying31 info_td (by rfl) (by decide) v4 (0 + p + r) ([] ++ (xs.take p).flatMap tdC ++ I.flatMap tdC) (by rfl) o4.out (Lt _) A 0 0 ([] : List Value) (by rfl) (HS4 _).out rfl (fun u hu => by cases hu) (by unfold maxLen; omega) (by omega) b4.out.size ?_; intro v5 w5 hown5 hgrow5 hat5; have b5 := Lib.hid (b4.out.grown hgrow5 b4.out.size (fun q hq => (o4.out.lt q hq).1)); have o5 := Lib.hid hown5; clear hown5 hgrow5 hat5)))
    have o6 : Hid (w5.ownsRow w2.heap.size 73 4 v5 m (ys.flatMap tdC)) := by
      have := o5.out
      have e := HLP.out
      rw [HDN.out, List.append_nil] at e
      rw [show 0 + p + r + 0 = m by omega, List.nil_append, List.append_nil, ← List.flatMap_append, e] at this
      exact this
    have HAT : Hid (∃ A5 c5, v5 = .slice A5 m c5 ∧ tdD.At w5 (Lt w5) A5 ys) := by
      have ho : tdD.Own w5 w2.heap.size 73 (Lt w5) v5 ys (ys.flatMap tdC) := ⟨by rw [HM.out]; exact o6.out, flatD_of ys⟩
      obtain ⟨A5, c5, h1, h2, _⟩ := ho.at (F' := Lt w5) (fun _ h => h) (fun g hg => (o6.out.lt g hg).2)
      rw [HM.out] at h1
      exact ⟨A5, c5, h1, h2⟩
    have HB5 := Lib.hid (HB2.out.trans (b5.out.mono HB2.out.size))
    have HX5 := Lib.hid (HX.out w5 HB5.out)
    clear o5 o6 b3 b4 b5 o3 o4 HS1 HS2 HS3 HO0 HI HI2 HBW0
    obtain ⟨A5, c5, rfl, hat5⟩ := HAT.out
    have HA5 := Lib.hid hat5
    clear hat5 HAT
    go_wp2_with fail
    refine HX5.out.mono ?_
    rintro e w6 ⟨rfl, hb6⟩
    have HB6 := Lib.hid (HB5.out.trans (hb6.mono HB5.out.size))
    have heq := eqDeltas_any ys A5 D c5 d w6 (Lt w6) (At.lt HA5.out (fun b hb => hb) hb6) (At.lt HD.out (fun b hb => hb) HB6.out) (fun b hb => hb) (by rw [HM.out]; unfold maxLen; omega)
    rw [HM.out] at heq
    have HEQ := Lib.hid heq
    clear heq hb6 HX5
    go_wp2_with fail
    refine HEQ.out.mono ?_
    rintro e w7 ⟨rfl, hb7⟩
    have HB7 := Lib.hid (HB6.out.trans (hb7.mono HB6.out.size))
    clear hb7 HEQ
    go_wp2_with fail
    go_ret
    exact ⟨rfl, HB7.out⟩
  · have hcp' : ¬ pt = c := fun e => hcp e.symm
    have g1 : (pt : Int) ≤ n := by omega
    have g2 : (n : Int) ≤ c := by omega
    have g0 : (0 : Int) ≤ pt := by omega
    have gw1 : IntKind.i64.wrap ((p : Int) + t) = (pt : Int) := by rw [i3]; exact IntWalk.i64_in _ (by omega)
    have gw2 : IntKind.i64.wrap (pt : Int) = (pt : Int) := IntWalk.i64_in _ (by omega)
    have gw3 : (pt : Int).toNat = pt := Int.toNat_natCast pt
    go_wp2_with fail
    go_region_held3 (fun _ => True) (first | go_keep | trivial) ((first
      | (refine step_append_src (by rfl) (.tmp 32) (.tmp 35) _ (by rfl) w2.heap.size 73 _ 4 32 Tryz.underlying31 info_td (by rfl) (by decide) (.slice (some ⟨w2.heap.size, 0, none⟩) 0 0) 0 [] (by rfl) HO0.out (Lt _) A p c ((xs.take p).flatMap tdC) (by rfl) (HS1 _ HBW0.out).out (by rw [HFW.out, List.length_take, HN.out, Nat.min_eq_left (by omega)]) (HF1.out _) (by unfold maxLen; omega) (by omega) (by simp) ?_; intro v3 w3 hown3 hgrow3 hat3; have b3 := Lib.hid (HBW0.out.grown hgrow3 (by simp) (fun q hq => (HO0.out.lt q hq).1)); have o3 := Lib.hid hown3; clear hown3 hgrow3 hat3)
      | (refine step_append_src (by rfl) (.tmp 36) (.tmp 37) _ (by rfl) w2.heap.size 73 _ 4 32 Tryz.underlying31 info_td (by rfl) (by decide) v3 (0 + p) ([] ++ (xs.take p).flatMap tdC) (by rfl) o3.out (Lt _) IA r ic (I.flatMap tdC) (by rfl) (HS2 _ b3.out).out (by rw [HFW.out, HIL.out]) (HF1.out _) (by unfold maxLen; omega) (by omega) b3.out.size ?_; intro v4 w4 hown4 hgrow4 hat4; have b4 := Lib.hid (b3.out.grown hgrow4 b3.out.size (fun q hq => (o3.out.lt q hq).1)); have o4 := Lib.hid hown4; clear hown4 hgrow4 hat4)
      | (refine step_append_src (by rfl) (.tmp 38) (.tmp 43) _ (by rfl) w2.heap.size 73 _ 4 32 Tryz.underlying31 info_td (by rfl) (by decide) v4 (0 + p + r) ([] ++ (xs.take p).flatMap tdC ++ I.flatMap tdC) (by rfl) o4.out (Lt _) (A.map fun x => x.add (pt * 4)) (n - pt) (c - pt) ((xs.drop pt).flatMap tdC) (by rfl) (HS3 _ b4.out).out (by rw [HFW.out, List.length_drop, HN.out]) (HF1.out _) (by unfold maxLen; omega) (by omega) b4.out.size ?_; intro v5 w5 hown5 hgrow5 hat5; have b5 := Lib.hid (b4.out.grown hgrow5 b4.out.size (fun q hq => (o4.out.lt q hq).1)); have o5 := Lib.hid hown5; clear hown5 hgrow5 hat5)))
    have o6 : Hid (w5.ownsRow w2.heap.size 73 4 v5 m (ys.flatMap tdC)) := by
      have := o5.out
      rw [show 0 + p + r + (n - pt) = m by omega, List.nil_append, ← List.flatMap_append, ← List.flatMap_append, HLP.out] at this
      exact this
    have HAT : Hid (∃ A5 c5, v5 = .slice A5 m c5 ∧ tdD.At w5 (Lt w5) A5 ys) := by
      have ho : tdD.Own w5 w2.heap.size 73 (Lt w5) v5 ys (ys.flatMap tdC) := ⟨by rw [HM.out]; exact o6.out, flatD_of ys⟩
      obtain ⟨A5, c5, h1, h2, _⟩ := ho.at (F' := Lt w5) (fun _ h => h) (fun g hg => (o6.out.lt g hg).2)
      rw [HM.out] at h1
      exact ⟨A5, c5, h1, h2⟩
    have HB5 := Lib.hid (HB2.out.trans (b5.out.mono HB2.out.size))
    have HX5 := Lib.hid (HX.out w5 HB5.out)
    clear o5 o6 b3 b4 b5 o3 o4 HS1 HS2 HS3 HO0 HI HI2 HBW0
    obtain ⟨A5, c5, rfl, hat5⟩ := HAT.out
    have HA5 := Lib.hid hat5
    clear hat5 HAT
    go_wp2_with fail
    refine HX5.out.mono ?_
    rintro e w6 ⟨rfl, hb6⟩
    have HB6 := Lib.hid (HB5.out.trans (hb6.mono HB5.out.size))
    have heq := eqDeltas_any ys A5 D c5 d w6 (Lt w6) (At.lt HA5.out (fun b hb => hb) hb6) (At.lt HD.out (fun b hb => hb) HB6.out) (fun b hb => hb) (by rw [HM.out]; unfold maxLen; omega)
    rw [HM.out] at heq
    have HEQ := Lib.hid heq
    clear heq hb6 HX5
    go_wp2_with fail
    refine HEQ.out.mono ?_
    rintro e w7 ⟨rfl, hb7⟩
    have HB7 := Lib.hid (HB6.out.trans (hb7.mono HB6.out.size))
    clear hb7 HEQ
    go_wp2_with fail
    go_ret
    exact ⟨rfl, HB7.out⟩
end Go.Proofs.YtpibenilagloaaaGreatDoor
