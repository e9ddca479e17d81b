/-
  glossatorkeep4.validAlignment: the walk.
-/
import Derived.Test.YtbnoejdhachhhabPfz
namespace Go.Proofs.Ytbnoejdhachhhab
open Go.RowKit Go.Shelf
set_option linter.unusedVariables false

def okB (pat s : ByteArray) : Nat → Int → List Int → Bool
  | _, _, [] => true
  | i, prev, k :: r => decide (0 ≤ k ∧ k < s.size ∧ prev < k) && foldB (pat.data.toList.getD i 0) (s.data.toList.getD k.toNat 0) && okB pat s (i + 1) k r
def vB (pat s : ByteArray) (offs : List Int) : Bool := decide (offs.length = pat.size) && okB pat s 0 (-1) offs
theorem okB_iff (pat s : ByteArray) : ∀ (r : List Int) (i : Nat) (prev : Int), -1 ≤ prev → i + r.length = pat.size → (okB pat s i prev r = true ↔ okG pat s i prev r)
  | [], i, prev, _, h => by simp [okB, okG] at h ⊢; omega
  | k :: r, i, prev, hp, h => by
    simp only [List.length_cons] at h
    unfold okB okG
    simp only [Bool.and_eq_true, decide_eq_true_eq]
    constructor
    · rintro ⟨⟨⟨h1, h2, h3⟩, h4⟩, h5⟩
      exact ⟨by omega, h3, h2, h4, (okB_iff pat s r (i + 1) k (by omega) (by omega)).1 h5⟩
    · rintro ⟨h1, h2, h3, h4, h5⟩
      exact ⟨⟨⟨by omega, h3, h2⟩, h4⟩, (okB_iff pat s r (i + 1) k (by omega) (by omega)).2 h5⟩
theorem okG_len (pat s : ByteArray) : ∀ (r : List Int) (i : Nat) (prev : Int), okG pat s i prev r → i + r.length = pat.size
  | [], i, prev, h => by simpa [okG] using h
  | k :: r, i, prev, h => by have := okG_len pat s r (i + 1) k h.2.2.2.2; simp only [List.length_cons]; omega
theorem vB_iff (pat s : ByteArray) (offs : List Int) : vB pat s offs = true ↔ okG pat s 0 (-1) offs := by
  unfold vB
  simp only [Bool.and_eq_true, decide_eq_true_eq]
  constructor
  · rintro ⟨h1, h2⟩; exact (okB_iff pat s offs 0 (-1) (by omega) (by omega)).1 h2
  · intro h
    have := okG_len pat s offs 0 (-1) h
    exact ⟨by omega, (okB_iff pat s offs 0 (-1) (by omega) this).2 h⟩
/-- the offset before -/
def prevOf (offs : List Int) (i : Nat) : Int := if i = 0 then -1 else offs.getD (i - 1) 0
theorem okB_step (pat s : ByteArray) (offs : List Int) (i : Nat) (h : i < offs.length) : okB pat s i (prevOf offs i) (offs.drop i) =
    (decide (0 ≤ offs[i] ∧ offs[i] < s.size ∧ prevOf offs i < offs[i]) && foldB (pat.data.toList.getD i 0) (s.data.toList.getD offs[i].toNat 0) && okB pat s (i + 1) (prevOf offs (i + 1)) (offs.drop (i + 1))) := by
  rw [drop_cons offs i h]
  conv => lhs; unfold okB
  have e : prevOf offs (i + 1) = offs[i] := by unfold prevOf; rw [if_neg (by omega), Nat.add_sub_cancel, List.getD_eq_getElem?_getD, List.getElem?_eq_getElem h]; rfl
  rw [e]

set_option maxRecDepth 100000 in
set_option maxHeartbeats 2000000 in
theorem valid_any (pat s : ByteArray) (A : Option Addr) (c : Nat) (offs : List Int) (w : World) (hp : pat.size ≤ maxLen) (hs : s.size ≤ maxLen) (h : IntsAt w w.heap.size A offs) (hm : offs.length ≤ maxLen) (hb : ∀ x ∈ offs, -9223372036854775808 ≤ x ∧ x ≤ 9223372036854775807) :
    Calls Try.prog 9 #[.string pat, .string s, .slice A offs.length c] w fun e w' => e = .returned (.bool (vB pat s offs)) ∧ Below w.heap.size w w' := by
  have HI := Lib.hid h
  have HB := Lib.hid hb
  unfold maxLen at hp hs hm
  clear h hb
  obtain ⟨n, hn⟩ : ∃ n, offs.length = n := ⟨_, rfl⟩
  by_cases hl : n = pat.size
  · have HV := Lib.hid (show vB pat s offs = okB pat s 0 (prevOf offs 0) (offs.drop 0) by unfold vB; rw [decide_eq_true (by omega)]; rfl)
    have HN := Lib.hid hn
    rw [hn] at hm ⊢
    subst hl
    clear hn
    go_enter Try.func9, Try.ntmps9
    go_wp2_with fail
    go_loopw [7] (fun vi wr => ∃ i : Nat, i ≤ pat.size ∧ vi = .int .i64 i ∧ Hid (Below w.heap.size w wr ∧ okB pat s i (prevOf offs i) (offs.drop i) = vB pat s offs)) (fun vi _ => pat.size - (intOf vi).toNat)
    case atStart => exact ⟨0, by omega, rfl, Below.refl _ _, HV.out.symm⟩
    case round =>
      obtain ⟨i, hi, rfl, HX⟩ := hrel
      clear HV
      by_cases hlt : i < pat.size
      · have hiI : (i : Int) < pat.size := by omega
        have hin : i < offs.length := by have := HN.out; omega
        obtain ⟨x1, x2⟩ := HX.out
        have HST := Lib.hid (okB_step pat s offs i hin)
        obtain ⟨bb, off, hA, hbb, hc⟩ := (HI.out.below x1) (by omega)
        have c1 := hc i offs[i] (List.getElem?_eq_getElem hin)
        obtain ⟨k1, k2⟩ := HB.out offs[i] (List.getElem_mem hin)
        obtain ⟨k, hk⟩ : ∃ k, offs[i] = k := ⟨_, rfl⟩
        rw [hk] at c1 k1 k2
        have HK := Lib.hid hk
        subst hA
        by_cases q1 : k < 0
        · have HF := Lib.hid (show vB pat s offs = false by rw [← x2, HST.out, hk, decide_eq_false (by omega)]; rfl)
          have d1 : decide (k < 0) = true := decide_eq_true q1
          clear x1 x2 hc hk HST
          go_wp2_with fail
          go_quiet (fail)
          go_wp2_with fail
          go_ret
          exact ⟨by rw [HF.out]; rfl, below_drewN HX.out.1 _⟩
        · have d1 : decide (k < 0) = false := decide_eq_false q1
          have d1' : 0 ≤ k := by omega
          by_cases q2 : (s.size : Int) ≤ k
          · have HF := Lib.hid (show vB pat s offs = false by rw [← x2, HST.out, hk, decide_eq_false (by omega)]; rfl)
            have d2 : decide ((s.size : Int) ≤ k) = true := decide_eq_true q2
            clear x1 x2 hc hk HST
            go_wp2_with fail
            go_quiet (fail)
            go_wp2_with fail
            go_ret
            exact ⟨by rw [HF.out]; rfl, below_drewN HX.out.1 _⟩
          · have d2 : decide ((s.size : Int) ≤ k) = false := decide_eq_false q2
            have d2' : k < s.size := by omega
            obtain ⟨kn, rfl⟩ := Int.eq_ofNat_of_zero_le d1'
            have hkn : kn < s.size := by omega
            have hpi : pat.data.toList.getD i 0 = pat[i] := getD_at pat i hlt
            have hsk : s.data.toList.getD kn 0 = s[kn] := getD_at s kn hkn
            have e2 : decide (s.size ≤ kn) = false := decide_eq_false (by omega)
            by_cases h0 : i = 0
            · have hp0 : prevOf offs i = -1 := by unfold prevOf; rw [if_pos h0]
              have d3 : decide ((0 : Int) < (i : Int)) = false := by simp; omega
              have d4 : decide (0 < i) = false := by simp; omega
              have HP0 := Lib.hid hp0
              clear h0 hp0
              cases hfo : foldB pat[i] s[kn]
              · have HF := Lib.hid (show vB pat s offs = false by rw [← x2, HST.out, hk, Int.toNat_natCast, hpi, hsk, hfo]; simp)
                have HFD := Lib.hid (fun u => (by have := fold_any pat[i] s[kn] u; rwa [hfo] at this : Calls Try.prog 13 #[.int .u8 pat[i].toNat, .int .u8 s[kn].toNat] u fun e w' => e = .returned (.bool false) ∧ w' = u))
                clear x1 x2 hc hk HST hpi hsk hfo
                go_wp2_with fail
                go_quiet ((go_at_call 13; exact Calls.quiet_of_same (HFD.out _)))
                go_wp2_with fail
                go_ret
                exact ⟨by rw [HF.out]; rfl, below_drewN HX.out.1 _⟩
              · have HF := Lib.hid (show okB pat s (i + 1) (prevOf offs (i + 1)) (offs.drop (i + 1)) = vB pat s offs by rw [← x2, HST.out, hk, Int.toNat_natCast, hpi, hsk, hfo, decide_eq_true (by have := HP0.out; omega)]; rfl)
                have HFD := Lib.hid (fun u => (by have := fold_any pat[i] s[kn] u; rwa [hfo] at this : Calls Try.prog 13 #[.int .u8 pat[i].toNat, .int .u8 s[kn].toNat] u fun e w' => e = .returned (.bool true) ∧ w' = u))
                clear x1 x2 hc hk HST hpi hsk hfo
                go_wp2_with fail
                go_quiet ((go_at_call 13; exact Calls.quiet_of_same (HFD.out _)))
                go_wp2_with fail
                go_roundw
                case rel => exact ⟨i + 1, by omega, by go_num, below_drewN HX.out.1 _, HF.out⟩
                case measure => simp [intOf]; omega
            · have hi0 : 0 < i := by omega
              have hi0I : (0 : Int) < i := by omega
              obtain ⟨m, hmi⟩ : ∃ m, m = i - 1 := ⟨_, rfl⟩
              have hmn : m < offs.length := by omega
              have c2 := hc m offs[m] (List.getElem?_eq_getElem hmn)
              have hp0 : prevOf offs i = offs[m] := by unfold prevOf; rw [if_neg h0, ← hmi, List.getD_eq_getElem?_getD, List.getElem?_eq_getElem hmn]; rfl
              have hpb := HB.out offs[m] (List.getElem_mem hmn)
              obtain ⟨p, hpe⟩ : ∃ p, offs[m] = p := ⟨_, rfl⟩
              rw [hpe] at c2 hp0 hpb
              have t1 : (i : Int) - 1 = (m : Int) := by omega
              have t2 : IntKind.i64.wrap ((i : Int) - 1) = (m : Int) := by rw [IntWalk.i64_in _ (by omega)]; exact t1
              have t3 : IntKind.i64.wrap (m : Int) = (m : Int) := by rw [IntWalk.i64_in _ (by omega)]
              have t4 : (m : Int) < pat.size := by omega
              clear hmn hmi hpe
              have HP0 := Lib.hid hp0
              by_cases q3 : (kn : Int) ≤ p
              · have HF := Lib.hid (show vB pat s offs = false by rw [← x2, HST.out, hk, decide_eq_false (by omega)]; rfl)
                have d5 : decide ((kn : Int) ≤ p) = true := decide_eq_true q3
                clear x1 x2 hc hk HST hpi hsk hp0
                go_wp2_with fail
                go_quiet (fail)
                go_wp2_with fail
                go_ret
                exact ⟨by rw [HF.out]; rfl, below_drewN HX.out.1 _⟩
              · have d5 : decide ((kn : Int) ≤ p) = false := decide_eq_false q3
                have d5' : p < (kn : Int) := by omega
                clear hp0
                cases hfo : foldB pat[i] s[kn]
                · have HF := Lib.hid (show vB pat s offs = false by rw [← x2, HST.out, hk, Int.toNat_natCast, hpi, hsk, hfo]; simp)
                  have HFD := Lib.hid (fun u => (by have := fold_any pat[i] s[kn] u; rwa [hfo] at this : Calls Try.prog 13 #[.int .u8 pat[i].toNat, .int .u8 s[kn].toNat] u fun e w' => e = .returned (.bool false) ∧ w' = u))
                  clear x1 x2 hc hk HST hpi hsk hfo
                  go_wp2_with fail
                  go_quiet ((go_at_call 13; exact Calls.quiet_of_same (HFD.out _)))
                  go_wp2_with fail
                  go_ret
                  exact ⟨by rw [HF.out]; rfl, below_drewN HX.out.1 _⟩
                · have HF := Lib.hid (show okB pat s (i + 1) (prevOf offs (i + 1)) (offs.drop (i + 1)) = vB pat s offs by rw [← x2, HST.out, hk, Int.toNat_natCast, hpi, hsk, hfo, decide_eq_true (by have := HP0.out; omega)]; rfl)
                  have HFD := Lib.hid (fun u => (by have := fold_any pat[i] s[kn] u; rwa [hfo] at this : Calls Try.prog 13 #[.int .u8 pat[i].toNat, .int .u8 s[kn].toNat] u fun e w' => e = .returned (.bool true) ∧ w' = u))
                  clear x1 x2 hc hk HST hpi hsk hfo
                  go_wp2_with fail
                  go_quiet ((go_at_call 13; exact Calls.quiet_of_same (HFD.out _)))
                  go_wp2_with fail
                  go_roundw
                  case rel => exact ⟨i + 1, by omega, by go_num, below_drewN HX.out.1 _, HF.out⟩
                  case measure => simp [intOf]; omega
      · have HF := Lib.hid (show vB pat s offs = true by rw [← HX.out.2, List.drop_of_length_le (by have := HN.out; omega)]; rfl)
        go_wp2_with fail
        go_ret
        exact ⟨by rw [HF.out]; rfl, HX.out.1⟩
  · have HV := Lib.hid (show vB pat s offs = false by unfold vB; rw [decide_eq_false (by omega)]; rfl)
    have h1 : ((n : Int) != pat.size) = true := by simp; omega
    have h2 : ¬ n = pat.size := hl
    rw [hn] at hm ⊢
    clear hn hl
    go_enter Try.func9, Try.ntmps9
    go_wp2_with fail
    go_ret
    exact ⟨by rw [HV.out]; rfl, Below.refl _ _⟩
end Go.Proofs.Ytbnoejdhachhhab
