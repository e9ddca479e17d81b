/-
  glossatorref4.FuzzyAlignmentScore: the walk.
-/
import Derived.Test.YtbnoejdhachhhabVal
import Derived.Deep.DeepCutAuto
namespace Go.Proofs.Ytbnoejdhachhhab
open Go.RowKit Go.Shelf
set_option linter.unusedVariables false

theorem okG_step (pat s : ByteArray) (offs : List Int) (i : Nat) (h : i < offs.length) (hk : okG pat s i (prevOf offs i) (offs.drop i)) :
    prevOf offs i < offs[i] ∧ offs[i] < s.size ∧ okG pat s (i + 1) (prevOf offs (i + 1)) (offs.drop (i + 1)) ∧
      alG pat s i (prevOf offs i) (offs.drop i) = ptsN (pat.data.toList.getD i 0) s offs[i].toNat + (if 0 ≤ prevOf offs i ∧ offs[i] = prevOf offs i + 1 then 3 else 0) + alG pat s (i + 1) (prevOf offs (i + 1)) (offs.drop (i + 1)) := by
  have e : prevOf offs (i + 1) = offs[i] := by unfold prevOf; rw [if_neg (by omega), Nat.add_sub_cancel, List.getD_eq_getElem?_getD, List.getElem?_eq_getElem h]; rfl
  rw [drop_cons offs i h] at hk ⊢
  obtain ⟨h1, h2, h3, h4, h5⟩ := hk
  rw [e]
  exact ⟨h2, h3, h5, rfl⟩
theorem prev_ge (pat s : ByteArray) : ∀ (offs : List Int) (i : Nat) (prev : Int), -1 ≤ prev → okG pat s i prev offs → ∀ x ∈ offs, 0 ≤ x
  | [], _, _, _, _ => by simp
  | k :: r, i, prev, hp, ⟨h1, h2, h3, h4, h5⟩ => by
    intro x hx
    rcases List.mem_cons.1 hx with rfl | hx
    · omega
    · exact prev_ge pat s r (i + 1) k (by omega) h5 x hx

set_option maxRecDepth 100000 in
set_option maxHeartbeats 4000000 in
theorem alscore_any (pat s : ByteArray) (A : Option Addr) (c : Nat) (offs : List Int) (w : World) (hp : pat.size ≤ 30) (hs : s.size ≤ maxLen) (h : IntsAt w w.heap.size A offs) (hok : okG pat s 0 (-1) offs) :
    Calls Try.prog 10 #[.string pat, .string s, .slice A offs.length c] w fun e w' => e = .returned (.int .i64 (alG pat s 0 (-1) offs)) ∧ Below w.heap.size w w' := by
  have HI := Lib.hid h
  have HG := Lib.hid (prev_ge pat s offs 0 (-1) (by omega) hok)
  unfold maxLen at hs
  have hn : offs.length = pat.size := by have := okG_len pat s offs 0 (-1) hok; omega
  have HN := Lib.hid hn
  have HO : Hid (okG pat s 0 (prevOf offs 0) (offs.drop 0) ∧ alG pat s 0 (prevOf offs 0) (offs.drop 0) = alG pat s 0 (-1) offs) := ⟨hok, rfl⟩
  rw [hn]
  obtain ⟨tot, htot⟩ : ∃ tot, alG pat s 0 (-1) offs = tot := ⟨_, rfl⟩
  rw [htot] at HO ⊢
  clear h hn hok htot
  go_enter Try.func10, Try.ntmps10
  go_wp2_with fail
  go_loopw [7, 8] (fun vs vi wr => ∃ (i : Nat) (acc : Int), i ≤ pat.size ∧ vi = .int .i64 i ∧ vs = .int .i64 acc ∧ 0 ≤ acc ∧ acc ≤ 9 * (i : Int) ∧ Hid (Below w.heap.size w wr ∧ okG pat s i (prevOf offs i) (offs.drop i) ∧ acc + alG pat s i (prevOf offs i) (offs.drop i) = tot)) (fun _ vi _ => pat.size - (intOf vi).toNat)
  case atStart => exact ⟨0, 0, by omega, rfl, rfl, by omega, by omega, Below.refl _ _, HO.out.1, by have := HO.out.2; omega⟩
  case round =>
    obtain ⟨i, acc, hi, rfl, rfl, ha1, ha2, HX⟩ := hrel
    clear HO
    by_cases hlt : i < pat.size
    · have hiI : (i : Int) < pat.size := by omega
      have hin : i < offs.length := by have := HN.out; omega
      obtain ⟨x1, x2, x3⟩ := HX.out
      obtain ⟨o1, o2, o3, o4⟩ := okG_step pat s offs i hin x2
      obtain ⟨bb, off, hA, hbb, hc⟩ := (HI.out.below x1) (by omega)
      have c1 := hc i offs[i] (List.getElem?_eq_getElem hin)
      have hk0 := HG.out offs[i] (List.getElem_mem hin)
      obtain ⟨k, hk⟩ : ∃ k, offs[i] = k := ⟨_, rfl⟩
      rw [hk] at c1 hk0 o1 o2 o4
      obtain ⟨kn, rfl⟩ := Int.eq_ofNat_of_zero_le hk0
      have hkn : kn < s.size := by omega
      have hknI : (kn : Int) < s.size := by omega
      have hpi : pat.data.toList.getD i 0 = pat[i] := getD_at pat i hlt
      have hsk : s.data.toList.getD kn 0 = s[kn] := getD_at s kn hkn
      rw [Int.toNat_natCast, hpi] at o4
      have HPT := Lib.hid (show ptsN pat[i] s kn = 1 + (if pat[i] = s[kn] then 1 else 0) + (if starts s kn then 4 else 0) by unfold ptsN; rw [hsk])
      have HO4 := Lib.hid o4
      have HO3 := Lib.hid o3
      have HX2 := Lib.hid (And.intro x1 x3)
      have HP := Lib.hid (show (i = 0 → prevOf offs i = -1) ∧ (0 < i → ∃ m, m = i - 1 ∧ ∃ hm : m < offs.length, prevOf offs i = offs[m]) from
        ⟨fun h => by unfold prevOf; rw [if_pos h], fun h => ⟨i - 1, rfl, by omega, by unfold prevOf; rw [if_neg (by omega), List.getD_eq_getElem?_getD, List.getElem?_eq_getElem (by omega)]; rfl⟩⟩)
      have HC := Lib.hid hc
      have HUP := Lib.hid (show upB s[kn] = (decide (65 ≤ (s[kn].toNat : Int)) && decide ((s[kn].toNat : Int) ≤ 90)) by unfold upB; congr 1 <;> (rw [decide_eq_decide]; omega))
      subst hA
      clear hc o3 o4 x1 x2 x3 hpi hsk hk HX hk0
      by_cases heq : pat[i] = s[kn]
      · have e1 : ((pat[i].toNat : Int) == (s[kn].toNat : Int)) = true := by rw [heq]; simp
        have e2 : (pat[i].toNat == s[kn].toNat) = true := by rw [heq]; simp
        have HE := Lib.hid (show ptsN pat[i] s kn = 2 + (if starts s kn then 4 else 0) by rw [HPT.out, if_pos heq]; rfl)
        clear HPT heq
        go_wp2_with fail
        go_quiet (fail)
        go_upto_region 9 with fail
        go_cut [10] (fun v10 wx => v10 = .bool (upB s[kn]) ∧ wx = wr.drewN nq)
        case first =>
          go_wp2_with fail
          all_goals
            go_meet
            refine ⟨?_, rfl⟩
            rw [HUP.out]
            first | (rw [decide_eq_true (show (65 : Int) ≤ s[kn].toNat by assumption)]; rfl) | (rw [decide_eq_false (show ¬ (65 : Int) ≤ s[kn].toNat by omega)]; rfl)
        case rest =>
          obtain ⟨rfl, rfl⟩ := hcut
          clear HUP
          go_upto_region 10 with fail
          go_cut [10, 68] (fun v10 v68 wx => v68 = .bool (starts s kn) ∧ wx = wr.drewN nq)
          case first =>
            by_cases h0 : kn = 0
            · have HS := Lib.hid (show starts s kn = true by subst h0; simp [starts])
              have z1 : ((kn : Int) == 0) = true := by simp [h0]
              have z2 : (kn == 0) = true := by simp [h0]
              clear h0
              go_wp2_with fail
              go_meet
              exact ⟨by rw [HS.out], rfl⟩
            · have z1 : ((kn : Int) == 0) = false := beq_eq_false_iff_ne.2 (by omega)
              have z2 : (kn == 0) = false := beq_eq_false_iff_ne.2 h0
              obtain ⟨j, hj⟩ : ∃ j, j = kn - 1 := ⟨_, rfl⟩
              have hjs : j < s.size := by omega
              have hjI : (j : Int) < s.size := by omega
              have HS := Lib.hid (show starts s kn = ((s[j].toNat == 95) || (upB s[kn] && !upB s[j])) by unfold starts; rw [← hj, getD_at s kn hkn, getD_at s j hjs, z2]; rfl)
              have HUJ := Lib.hid (show upB s[j] = (decide (65 ≤ (s[j].toNat : Int)) && decide ((s[j].toNat : Int) ≤ 90)) by unfold upB; congr 1 <;> (rw [decide_eq_decide]; omega))
              have t1 : (kn : Int) - 1 = (j : Int) := by omega
              have hkn1 : 1 ≤ (kn : Int) := by omega
              clear h0 hj
              by_cases hund : s[j].toNat = 95
              · have y1 : ((s[j].toNat : Int) == 95) = true := by simp; omega
                have HF := Lib.hid (show starts s kn = true by rw [HS.out, beq_iff_eq.2 hund]; rfl)
                clear hund HS HUJ
                go_wp2_with fail
                go_meet
                exact ⟨by rw [HF.out], rfl⟩
              · have y1 : ((s[j].toNat : Int) == 95) = false := beq_eq_false_iff_ne.2 (by omega)
                have HF := Lib.hid (show starts s kn = (upB s[kn] && !upB s[j]) by rw [HS.out, beq_eq_false_iff_ne.2 hund]; rfl)
                clear hund HS
                cases hu : upB s[kn]
                · rw [hu] at HF
                  go_wp2_with fail
                  go_meet
                  exact ⟨by rw [HF.out]; rfl, rfl⟩
                · rw [hu] at HF
                  go_wp2_with fail
                  all_goals
                    go_meet
                    refine ⟨?_, rfl⟩
                    rw [HF.out, HUJ.out]
                    first | (rw [decide_eq_true (show (65 : Int) ≤ s[j].toNat by assumption)]; first | rfl | (simp; done)) | (rw [decide_eq_false (show ¬ (65 : Int) ≤ s[j].toNat by omega)]; rfl)
          case rest =>
            obtain ⟨rfl, rfl⟩ := hcut
            cases hst : starts s kn
            · rw [hst] at HE
              have HE0 : Hid (ptsN pat[i] s kn = 2) := by have := HE.out; unfold Hid; rw [this]; rfl
              clear HE
              by_cases h0 : i = 0
              · have HR := Lib.hid (show acc + 2 + alG pat s (i + 1) (prevOf offs (i + 1)) (offs.drop (i + 1)) = tot by
                  have h1 := HX2.out.2; rw [HO4.out, HE0.out, HP.out.1 h0, if_neg (by omega)] at h1; omega)
                have y1 : decide ((0 : Int) < (i : Int)) = false := by simp; omega
                have y2 : decide (0 < i) = false := by simp; omega
                have HB2 := Lib.hid (below_drewN HX2.out.1 nq)
                clear h0 HX2 HO4 HE0
                go_wp2_with fail
                go_roundw
                case rel => exact ⟨i + 1, acc + 2, by omega, by go_num, by go_num, by omega, by omega, HB2.out, HO3.out, HR.out⟩
                case measure => simp [intOf]; omega
              · obtain ⟨m, hm1, hm2, hm3⟩ := HP.out.2 (by omega)
                have c2 := HC.out m offs[m] (List.getElem?_eq_getElem hm2)
                have hp0 := HG.out offs[m] (List.getElem_mem hm2)
                obtain ⟨p, hpe⟩ : ∃ p, offs[m] = p := ⟨_, rfl⟩
                rw [hpe] at c2 hp0 hm3
                have y1 : (0 : Int) < i := by omega
                have y2 : 0 < i := by omega
                have t1 : (i : Int) - 1 = (m : Int) := by omega
                have t2 : (m : Int) < pat.size := by omega
                have t3 : p + 1 ≤ 9223372036854775807 := by omega
                by_cases had : (kn : Int) = p + 1
                · have HR := Lib.hid (show acc + 5 + alG pat s (i + 1) (prevOf offs (i + 1)) (offs.drop (i + 1)) = tot by
                    have h1 := HX2.out.2; rw [HO4.out, HE0.out, hm3, if_pos ⟨hp0, had⟩] at h1; omega)
                  have y3 : ((kn : Int) == p + 1) = true := by simp [had]
                  have HB2 := Lib.hid (below_drewN HX2.out.1 nq)
                  clear h0 HX2 HO4 HE0 had hm1 hm2 hm3 hpe
                  clear o1
                  go_wp2_with fail
                  go_roundw
                  case rel => exact ⟨i + 1, acc + 5, by omega, by go_num, by go_num, by omega, by omega, HB2.out, HO3.out, HR.out⟩
                  case measure => simp [intOf]; omega
                · have HR := Lib.hid (show acc + 2 + alG pat s (i + 1) (prevOf offs (i + 1)) (offs.drop (i + 1)) = tot by
                    have h1 := HX2.out.2; rw [HO4.out, HE0.out, hm3, if_neg (fun q => had q.2)] at h1; omega)
                  have y3 : ((kn : Int) == p + 1) = false := by simp [had]
                  have HB2 := Lib.hid (below_drewN HX2.out.1 nq)
                  clear h0 HX2 HO4 HE0 had hm1 hm2 hm3 hpe
                  clear o1
                  go_wp2_with fail
                  go_roundw
                  case rel => exact ⟨i + 1, acc + 2, by omega, by go_num, by go_num, by omega, by omega, HB2.out, HO3.out, HR.out⟩
                  case measure => simp [intOf]; omega
            · rw [hst] at HE
              have HE0 : Hid (ptsN pat[i] s kn = 6) := by have := HE.out; unfold Hid; rw [this]; rfl
              clear HE
              by_cases h0 : i = 0
              · have HR := Lib.hid (show acc + 6 + alG pat s (i + 1) (prevOf offs (i + 1)) (offs.drop (i + 1)) = tot by
                  have h1 := HX2.out.2; rw [HO4.out, HE0.out, HP.out.1 h0, if_neg (by omega)] at h1; omega)
                have y1 : decide ((0 : Int) < (i : Int)) = false := by simp; omega
                have y2 : decide (0 < i) = false := by simp; omega
                have HB2 := Lib.hid (below_drewN HX2.out.1 nq)
                clear h0 HX2 HO4 HE0
                go_wp2_with fail
                go_roundw
                case rel => exact ⟨i + 1, acc + 6, by omega, by go_num, by go_num, by omega, by omega, HB2.out, HO3.out, HR.out⟩
                case measure => simp [intOf]; omega
              · obtain ⟨m, hm1, hm2, hm3⟩ := HP.out.2 (by omega)
                have c2 := HC.out m offs[m] (List.getElem?_eq_getElem hm2)
                have hp0 := HG.out offs[m] (List.getElem_mem hm2)
                obtain ⟨p, hpe⟩ : ∃ p, offs[m] = p := ⟨_, rfl⟩
                rw [hpe] at c2 hp0 hm3
                have y1 : (0 : Int) < i := by omega
                have y2 : 0 < i := by omega
                have t1 : (i : Int) - 1 = (m : Int) := by omega
                have t2 : (m : Int) < pat.size := by omega
                have t3 : p + 1 ≤ 9223372036854775807 := by omega
                by_cases had : (kn : Int) = p + 1
                · have HR := Lib.hid (show acc + 9 + alG pat s (i + 1) (prevOf offs (i + 1)) (offs.drop (i + 1)) = tot by
                    have h1 := HX2.out.2; rw [HO4.out, HE0.out, hm3, if_pos ⟨hp0, had⟩] at h1; omega)
                  have y3 : ((kn : Int) == p + 1) = true := by simp [had]
                  have HB2 := Lib.hid (below_drewN HX2.out.1 nq)
                  clear h0 HX2 HO4 HE0 had hm1 hm2 hm3 hpe
                  clear o1
                  go_wp2_with fail
                  go_roundw
                  case rel => exact ⟨i + 1, acc + 9, by omega, by go_num, by go_num, by omega, by omega, HB2.out, HO3.out, HR.out⟩
                  case measure => simp [intOf]; omega
                · have HR := Lib.hid (show acc + 6 + alG pat s (i + 1) (prevOf offs (i + 1)) (offs.drop (i + 1)) = tot by
                    have h1 := HX2.out.2; rw [HO4.out, HE0.out, hm3, if_neg (fun q => had q.2)] at h1; omega)
                  have y3 : ((kn : Int) == p + 1) = false := by simp [had]
                  have HB2 := Lib.hid (below_drewN HX2.out.1 nq)
                  clear h0 HX2 HO4 HE0 had hm1 hm2 hm3 hpe
                  clear o1
                  go_wp2_with fail
                  go_roundw
                  case rel => exact ⟨i + 1, acc + 6, by omega, by go_num, by go_num, by omega, by omega, HB2.out, HO3.out, HR.out⟩
                  case measure => simp [intOf]; omega
      · have e1 : ((pat[i].toNat : Int) == (s[kn].toNat : Int)) = false := beq_eq_false_iff_ne.2 (fun q => heq (UInt8.toNat_inj.1 (by omega)))
        have e2 : (pat[i].toNat == s[kn].toNat) = false := beq_eq_false_iff_ne.2 (fun q => heq (UInt8.toNat_inj.1 q))
        have HE := Lib.hid (show ptsN pat[i] s kn = 1 + (if starts s kn then 4 else 0) by rw [HPT.out, if_neg heq]; rfl)
        clear HPT heq
        go_wp2_with fail
        go_quiet (fail)
        go_upto_region 9 with fail
        go_cut [10] (fun v10 wx => v10 = .bool (upB s[kn]) ∧ wx = wr.drewN nq)
        case first =>
          go_wp2_with fail
          all_goals
            go_meet
            refine ⟨?_, rfl⟩
            rw [HUP.out]
            first | (rw [decide_eq_true (show (65 : Int) ≤ s[kn].toNat by assumption)]; rfl) | (rw [decide_eq_false (show ¬ (65 : Int) ≤ s[kn].toNat by omega)]; rfl)
        case rest =>
          obtain ⟨rfl, rfl⟩ := hcut
          clear HUP
          go_upto_region 10 with fail
          go_cut [10, 68] (fun v10 v68 wx => v68 = .bool (starts s kn) ∧ wx = wr.drewN nq)
          case first =>
            by_cases h0 : kn = 0
            · have HS := Lib.hid (show starts s kn = true by subst h0; simp [starts])
              have z1 : ((kn : Int) == 0) = true := by simp [h0]
              have z2 : (kn == 0) = true := by simp [h0]
              clear h0
              go_wp2_with fail
              go_meet
              exact ⟨by rw [HS.out], rfl⟩
            · have z1 : ((kn : Int) == 0) = false := beq_eq_false_iff_ne.2 (by omega)
              have z2 : (kn == 0) = false := beq_eq_false_iff_ne.2 h0
              obtain ⟨j, hj⟩ : ∃ j, j = kn - 1 := ⟨_, rfl⟩
              have hjs : j < s.size := by omega
              have hjI : (j : Int) < s.size := by omega
              have HS := Lib.hid (show starts s kn = ((s[j].toNat == 95) || (upB s[kn] && !upB s[j])) by unfold starts; rw [← hj, getD_at s kn hkn, getD_at s j hjs, z2]; rfl)
              have HUJ := Lib.hid (show upB s[j] = (decide (65 ≤ (s[j].toNat : Int)) && decide ((s[j].toNat : Int) ≤ 90)) by unfold upB; congr 1 <;> (rw [decide_eq_decide]; omega))
              have t1 : (kn : Int) - 1 = (j : Int) := by omega
              have hkn1 : 1 ≤ (kn : Int) := by omega
              clear h0 hj
              by_cases hund : s[j].toNat = 95
              · have y1 : ((s[j].toNat : Int) == 95) = true := by simp; omega
                have HF := Lib.hid (show starts s kn = true by rw [HS.out, beq_iff_eq.2 hund]; rfl)
                clear hund HS HUJ
                go_wp2_with fail
                go_meet
                exact ⟨by rw [HF.out], rfl⟩
              · have y1 : ((s[j].toNat : Int) == 95) = false := beq_eq_false_iff_ne.2 (by omega)
                have HF := Lib.hid (show starts s kn = (upB s[kn] && !upB s[j]) by rw [HS.out, beq_eq_false_iff_ne.2 hund]; rfl)
                clear hund HS
                cases hu : upB s[kn]
                · rw [hu] at HF
                  go_wp2_with fail
                  go_meet
                  exact ⟨by rw [HF.out]; rfl, rfl⟩
                · rw [hu] at HF
                  go_wp2_with fail
                  all_goals
                    go_meet
                    refine ⟨?_, rfl⟩
                    rw [HF.out, HUJ.out]
                    first | (rw [decide_eq_true (show (65 : Int) ≤ s[j].toNat by assumption)]; first | rfl | (simp; done)) | (rw [decide_eq_false (show ¬ (65 : Int) ≤ s[j].toNat by omega)]; rfl)
          case rest =>
            obtain ⟨rfl, rfl⟩ := hcut
            cases hst : starts s kn
            · rw [hst] at HE
              have HE0 : Hid (ptsN pat[i] s kn = 1) := by have := HE.out; unfold Hid; rw [this]; rfl
              clear HE
              by_cases h0 : i = 0
              · have HR := Lib.hid (show acc + 1 + alG pat s (i + 1) (prevOf offs (i + 1)) (offs.drop (i + 1)) = tot by
                  have h1 := HX2.out.2; rw [HO4.out, HE0.out, HP.out.1 h0, if_neg (by omega)] at h1; omega)
                have y1 : decide ((0 : Int) < (i : Int)) = false := by simp; omega
                have y2 : decide (0 < i) = false := by simp; omega
                have HB2 := Lib.hid (below_drewN HX2.out.1 nq)
                clear h0 HX2 HO4 HE0
                go_wp2_with fail
                go_roundw
                case rel => exact ⟨i + 1, acc + 1, by omega, by go_num, by go_num, by omega, by omega, HB2.out, HO3.out, HR.out⟩
                case measure => simp [intOf]; omega
              · obtain ⟨m, hm1, hm2, hm3⟩ := HP.out.2 (by omega)
                have c2 := HC.out m offs[m] (List.getElem?_eq_getElem hm2)
                have hp0 := HG.out offs[m] (List.getElem_mem hm2)
                obtain ⟨p, hpe⟩ : ∃ p, offs[m] = p := ⟨_, rfl⟩
                rw [hpe] at c2 hp0 hm3
                have y1 : (0 : Int) < i := by omega
                have y2 : 0 < i := by omega
                have t1 : (i : Int) - 1 = (m : Int) := by omega
                have t2 : (m : Int) < pat.size := by omega
                have t3 : p + 1 ≤ 9223372036854775807 := by omega
                by_cases had : (kn : Int) = p + 1
                · have HR := Lib.hid (show acc + 4 + alG pat s (i + 1) (prevOf offs (i + 1)) (offs.drop (i + 1)) = tot by
                    have h1 := HX2.out.2; rw [HO4.out, HE0.out, hm3, if_pos ⟨hp0, had⟩] at h1; omega)
                  have y3 : ((kn : Int) == p + 1) = true := by simp [had]
                  have HB2 := Lib.hid (below_drewN HX2.out.1 nq)
                  clear h0 HX2 HO4 HE0 had hm1 hm2 hm3 hpe
                  clear o1
                  go_wp2_with fail
                  go_roundw
                  case rel => exact ⟨i + 1, acc + 4, by omega, by go_num, by go_num, by omega, by omega, HB2.out, HO3.out, HR.out⟩
                  case measure => simp [intOf]; omega
                · have HR := Lib.hid (show acc + 1 + alG pat s (i + 1) (prevOf offs (i + 1)) (offs.drop (i + 1)) = tot by
                    have h1 := HX2.out.2; rw [HO4.out, HE0.out, hm3, if_neg (fun q => had q.2)] at h1; omega)
                  have y3 : ((kn : Int) == p + 1) = false := by simp [had]
                  have HB2 := Lib.hid (below_drewN HX2.out.1 nq)
                  clear h0 HX2 HO4 HE0 had hm1 hm2 hm3 hpe
                  clear o1
                  go_wp2_with fail
                  go_roundw
                  case rel => exact ⟨i + 1, acc + 1, by omega, by go_num, by go_num, by omega, by omega, HB2.out, HO3.out, HR.out⟩
                  case measure => simp [intOf]; omega
            · rw [hst] at HE
              have HE0 : Hid (ptsN pat[i] s kn = 5) := by have := HE.out; unfold Hid; rw [this]; rfl
              clear HE
              by_cases h0 : i = 0
              · have HR := Lib.hid (show acc + 5 + alG pat s (i + 1) (prevOf offs (i + 1)) (offs.drop (i + 1)) = tot by
                  have h1 := HX2.out.2; rw [HO4.out, HE0.out, HP.out.1 h0, if_neg (by omega)] at h1; omega)
                have y1 : decide ((0 : Int) < (i : Int)) = false := by simp; omega
                have y2 : decide (0 < i) = false := by simp; omega
                have HB2 := Lib.hid (below_drewN HX2.out.1 nq)
                clear h0 HX2 HO4 HE0
                go_wp2_with fail
                go_roundw
                case rel => exact ⟨i + 1, acc + 5, by omega, by go_num, by go_num, by omega, by omega, HB2.out, HO3.out, HR.out⟩
                case measure => simp [intOf]; omega
              · obtain ⟨m, hm1, hm2, hm3⟩ := HP.out.2 (by omega)
                have c2 := HC.out m offs[m] (List.getElem?_eq_getElem hm2)
                have hp0 := HG.out offs[m] (List.getElem_mem hm2)
                obtain ⟨p, hpe⟩ : ∃ p, offs[m] = p := ⟨_, rfl⟩
                rw [hpe] at c2 hp0 hm3
                have y1 : (0 : Int) < i := by omega
                have y2 : 0 < i := by omega
                have t1 : (i : Int) - 1 = (m : Int) := by omega
                have t2 : (m : Int) < pat.size := by omega
                have t3 : p + 1 ≤ 9223372036854775807 := by omega
                by_cases had : (kn : Int) = p + 1
                · have HR := Lib.hid (show acc + 8 + alG pat s (i + 1) (prevOf offs (i + 1)) (offs.drop (i + 1)) = tot by
                    have h1 := HX2.out.2; rw [HO4.out, HE0.out, hm3, if_pos ⟨hp0, had⟩] at h1; omega)
                  have y3 : ((kn : Int) == p + 1) = true := by simp [had]
                  have HB2 := Lib.hid (below_drewN HX2.out.1 nq)
                  clear h0 HX2 HO4 HE0 had hm1 hm2 hm3 hpe
                  clear o1
                  go_wp2_with fail
                  go_roundw
                  case rel => exact ⟨i + 1, acc + 8, by omega, by go_num, by go_num, by omega, by omega, HB2.out, HO3.out, HR.out⟩
                  case measure => simp [intOf]; omega
                · have HR := Lib.hid (show acc + 5 + alG pat s (i + 1) (prevOf offs (i + 1)) (offs.drop (i + 1)) = tot by
                    have h1 := HX2.out.2; rw [HO4.out, HE0.out, hm3, if_neg (fun q => had q.2)] at h1; omega)
                  have y3 : ((kn : Int) == p + 1) = false := by simp [had]
                  have HB2 := Lib.hid (below_drewN HX2.out.1 nq)
                  clear h0 HX2 HO4 HE0 had hm1 hm2 hm3 hpe
                  clear o1
                  go_wp2_with fail
                  go_roundw
                  case rel => exact ⟨i + 1, acc + 5, by omega, by go_num, by go_num, by omega, by omega, HB2.out, HO3.out, HR.out⟩
                  case measure => simp [intOf]; omega
    · have HF := Lib.hid (show acc = tot by
        have h := HX.out.2.2
        rw [List.drop_of_length_le (by have := HN.out; omega)] at h
        unfold alG at h; omega)
      go_wp2_with fail
      go_ret
      exact ⟨by rw [HF.out]; rfl, HX.out.1⟩
end Go.Proofs.Ytbnoejdhachhhab
