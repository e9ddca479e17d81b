import Derived.Test.YtpibenilagloaaaGreatDoorMxab
import Derived.Lib.LastIndexByte
import Derived.Test.YtpibenilagloaaaGreatDoorMxad
import Derived.Test.YtpibenilagloaaaGreatDoorShelf
import Derived.BigRegion
import Derived.Deep.DeepCutAuto
import Derived.Deep.DeepMust
import Derived.Deep.RegionLaw
import Derived.Deep.RegionHeld3
import Derived.Test.YtpibenilagloaaaGreatDoorMxac
import Derived.Test.YtpibenilagloaaaGreatDoorMxaa
/-
  semtokens.Encode: the plain part.
-/
namespace Go.Proofs.YtpibenilagloaaaGreatDoor
set_option linter.unusedVariables false

theorem trail_at (a b : List UInt8) (h : nlC b = 0) : trail (a ++ 10 :: b) = b.length := by
  rw [trail_append _ _ (by rw [nlC_cons]; simp), trail, if_pos h, if_pos rfl]
theorem nlC_zero {l : List UInt8} (h : ∀ j (hj : j < l.length), l[j] ≠ 10) : nlC l = 0 := by
  unfold nlC
  refine List.count_eq_zero.2 (fun hm => ?_)
  obtain ⟨j, hj, e⟩ := List.getElem_of_mem hm
  exact h j hj e
theorem last_trail (g : ByteArray) (h : 0 < nlC g.data.toList) : ∃ i : Nat, Lib.lastIndexByte g 10 = i ∧ i < g.size ∧ g.size - 1 - i = trail g.data.toList := by
  have hl : g.data.toList.length = g.size := by simp
  have hg : ∀ j (hj : j < g.data.toList.length), ((g.data[j]!).toNat : Int) ≠ 10 → g.data.toList[j] ≠ 10 := by
    intro j hj h1 h2
    have hj2 : j < g.data.size := by simpa using hj
    rw [getElem!_pos g.data j hj2] at h1
    rw [Array.getElem_toList] at h2
    rw [h2] at h1
    exact h1 rfl
  rcases Lib.lastIdx_spec g 10 g.size with ⟨_, h2⟩ | ⟨i, h1, h2, h3, h4⟩
  · have := nlC_zero (l := g.data.toList) (fun j hj => hg j hj (h2 j (by omega)))
    omega
  · refine ⟨i, h2, h1, ?_⟩
    have hi : i < g.data.toList.length := by omega
    have hi2 : i < g.data.size := by simpa using hi
    have e : g.data.toList[i] = 10 := by
      rw [getElem!_pos g.data i hi2] at h3
      rw [Array.getElem_toList]
      exact UInt8.toNat_inj.1 (by simpa using (by omega : (g.data[i]).toNat = 10))
    have hs : g.data.toList = g.data.toList.take i ++ 10 :: g.data.toList.drop (i + 1) := by
      conv => lhs; rw [← List.take_append_drop i g.data.toList, List.drop_eq_getElem_cons hi, e]
    have h0 : nlC (g.data.toList.drop (i + 1)) = 0 := nlC_zero (fun j hj => by
      rw [List.length_drop] at hj
      rw [List.getElem_drop]
      exact hg _ (by omega) (h4 _ (by omega) (by omega)))
    rw [hs, trail_at _ _ h0, List.length_drop]
    omega
theorem extract_list (s : ByteArray) (a b : Nat) : (s.extract a b).data.toList = gapL s.data.toList a b := by
  unfold gapL
  rw [ByteArray.data_extract, Array.toList_extract, List.extract_eq_take_drop, List.drop_take]
theorem valL_len (n : Int) : ∀ (ts : List TokS) (e : Int), 0 ≤ e → e ≤ n → valL n e ts = true → (ts.length : Int) ≤ n - e
  | [], e, h0, h1, h => by simp; omega
  | t :: r, e, h0, h1, h => by
    unfold valL at h
    split at h
    · cases h
    · have := valL_len n r (t.s + t.l) (by omega) (by omega) h
      rw [List.length_cons]
      omega
end Go.Proofs.YtpibenilagloaaaGreatDoor

/-
  semtokens.Encode: the walk.
-/
namespace Go.Proofs.YtpibenilagloaaaGreatDoor
open Go.RowKit
set_option linter.unusedVariables false

theorem encL_drop (l : List UInt8) (q : Nat) (ts : List TokS) (k : Nat) (x : TokS) (h : ts[k]? = some x) : encL l q (ts.drop k) = deltaL (gapL l q x.s.toNat) x :: encL l x.s.toNat (ts.drop (k + 1)) := by
  obtain ⟨hk, rfl⟩ := List.getElem?_eq_some_iff.1 h
  rw [List.drop_eq_getElem_cons hk, encL]
theorem encL_len (l : List UInt8) : ∀ (ts : List TokS) (q : Nat), (encL l q ts).length = ts.length
  | [], q => rfl
  | t :: r, q => by rw [encL, List.length_cons, List.length_cons, encL_len l r]
set_option maxRecDepth 100000 in
set_option maxHeartbeats 3200000 in
theorem enc_okc (s : ByteArray) (ts : List TokS) (A : Option Addr) (c : Nat) (w : World) (F : Nat → Prop) (h : tkD.At w F A ts) (hF : ∀ b, F b → b < w.heap.size) (hs : s.size ≤ 2000) (hv : valL s.size 0 ts = true) :
    Calls Tryz.prog 10 #[.string s, .slice A ts.length c] w fun e w' => ∃ A' c', e = .returned (.tuple #[.slice A' ts.length c', .int .i64 0]) ∧ tdD.At w' (Nw w w') A' (encL s.data.toList 0 ts) ∧ ts.length ≤ c' ∧ Below w.heap.size w w' := by
  have hln := valL_len s.size ts 0 (by omega) (by omega) hv
  have HVA := Lib.hid (val_any s ts A c w F h hF (by unfold maxLen; omega) hs)
  rw [hv] at HVA
  obtain ⟨n, hn⟩ : ∃ n, ts.length = n := ⟨_, rfl⟩
  have HN := Lib.hid hn
  have HA := Lib.hid h
  have HF := Lib.hid hF
  have HV0 := Lib.hid hv
  have hsz : ¬ 2000 < s.size := by omega
  rw [hn] at hln HVA ⊢
  clear hn h hF hv
  go_enter Tryz.func10, Tryz.ntmps10
  go_wp2_with fail
  refine HVA.out.mono ?_
  rintro e w1 ⟨rfl, hb1⟩
  have hq0 : tdD.Own w1 w.heap.size 73 (OF w.heap.size (.slice none 0 0) w1) (.slice none 0 0) [] [] := Dat.Own.nil
  go_wp2_with fail
  go_loopw [6, 7, 23] (fun v p i wr => ∃ (k q : Nat) (ev : Int) (out : List TokD) (vs : List Value), k ≤ n ∧ i = .int .i64 (k : Int) ∧ p = .int .i64 (q : Int) ∧ q ≤ s.size ∧ (q : Int) ≤ ev ∧ ev ≤ s.size ∧ Hid (out.length = k) ∧ Hid (valL s.size ev (ts.drop k) = true) ∧ Hid (out ++ encL s.data.toList q (ts.drop k) = encL s.data.toList 0 ts) ∧ tdD.Own wr w.heap.size 73 (OF w.heap.size v wr) v out vs ∧ Below w.heap.size w wr) (fun _ _ i _ => n - (intOf i).toNat)
  case atStart => exact ⟨0, 0, 0, [], [], Nat.zero_le _, rfl, rfl, Nat.zero_le _, by omega, by omega, Lib.hid rfl, HV0, Lib.hid rfl, hq0, hb1⟩
  case round =>
    clear hq0 hb1 HVA
    obtain ⟨k, q, ev, out, vs, hk, rfl, rfl, hq, hqe, hev, HL, HV, HE, hown, hb⟩ := hrel
    by_cases hlt : k < n
    · have hkI : (k : Int) < n := by omega
      have hkl : k < ts.length := by rw [HN.out]; exact hlt
      obtain ⟨b, off, rfl, hbb, hc⟩ := flat_get HA.out k ts[k] (List.getElem?_eq_getElem hkl)
      have hv2 := HV.out.symm.trans (valL_drop _ _ ts k _ (List.getElem?_eq_getElem hkl))
      have he2 := encL_drop s.data.toList q ts k _ (List.getElem?_eq_getElem hkl)
      generalize ts[k] = x at *
      obtain ⟨x0, x1, x2⟩ := x
      split at hv2
      · cases hv2
      rename_i hcond
      simp only at hcond he2 hv2
      obtain ⟨p, rfl⟩ : ∃ p : Nat, x0 = (p : Int) := ⟨x0.toNat, by omega⟩
      rw [Int.toNat_natCast] at he2
      have hqp : q ≤ p := by omega
      have hps : p ≤ s.size := by omega
      have hbl := HF.out b hbb
      have cc : ∀ j u, ([.int .i64 (p : Int), .int .i64 x1, .int .i64 x2] : List Value)[j]? = some u → wr.cell? ⟨b, off + k * 3 + j, none⟩ = some u := fun j u hu => (hb.cell (p := ⟨b, _, none⟩) hbl).trans (hc j u hu)
      have c0 := cc 0 _ rfl
      have c1 := cc 1 _ rfl
      have c2 := cc 2 _ rfl
      rw [Nat.add_zero] at c0
      have hx1 : ((p : Int)) + x1 ≤ s.size := by omega
      have hx2 : (q : Int) ≤ p + x1 := by omega
      have hqx : (p : Int) ≤ p + x1 := by omega
      have HB := Lib.hid hb
      have hb2 := hb.size
      have HV2 := Lib.hid hv2.symm
      have HE2 := Lib.hid (HE.out.symm.trans (congrArg (out ++ ·) he2))
      have HO := Lib.hid hown
      have HG := Lib.hid (extract_list s q p)
      have hgz : (s.extract q p).size = p - q := by rw [ByteArray.size_extract, Nat.min_eq_left hps]
      have HCT : Hid (∀ w, Calls Tryz.prog 32 #[.string (s.extract q p), .string ⟨#[10]⟩] w fun e w' => e = .returned (.int .i64 (nlC (s.extract q p).data.toList : Nat)) ∧ w' = w) := fun w => Tryz.strings_Count_one (s.extract q p) 10 w
      have HLI : Hid (∀ w, Calls Tryz.prog 33 #[.string (s.extract q p), .string ⟨#[10]⟩] w fun e w' => e = .returned (.int .i64 (Lib.lastIndexByte (s.extract q p) 10)) ∧ w' = w) := fun w => Tryz.strings_LastIndex_one (s.extract q p) ⟨#[10]⟩ rfl (by omega) w
      have HLT := Lib.hid (last_trail (s.extract q p))
      clear cc hc hbb hv2 he2 hb hcond hown HV HE
      have hM : q + (p - q) = p := by omega
      go_wp2_with fail
      generalize s.extract q p = G at *
      generalize p - q = M at *
      obtain ⟨N, hNN⟩ : ∃ N, nlC G.data.toList = N := ⟨_, rfl⟩
      have HNN := Lib.hid hNN
      rw [hNN] at HCT HLT
      clear hNN
      go_region_held3 (fun w' => w'.cell? ⟨wr.heap.size, 0, none⟩ = some (.int .i64 (p : Int)) ∧ w'.cell? ⟨wr.heap.size, 1, none⟩ = some (.int .i64 x1) ∧ w'.cell? ⟨wr.heap.size, 2, none⟩ = some (.int .i64 x2)) (first | go_keep | trivial) ((go_at_call 32; refine (HCT.out _).mono ?_; rintro e w2 ⟨rfl, rfl⟩))
      all_goals
        by_cases g : 0 < N
        · obtain ⟨i, hi1, hi2, hi3⟩ := HLT.out g
          rw [hi1] at HLI
          have gI : (0 : Int) < N := by omega
          rw [hgz] at hi2 hi3
          have hw1 : IntKind.i64.wrap ((M : Int) - 1) = (M : Int) - 1 := IntWalk.i64_in _ (by omega)
          have hw2 : IntKind.i64.wrap ((M : Int) - 1 - i) = ((trail G.data.toList : Nat) : Int) := by rw [IntWalk.i64_in _ (by omega)]; omega
          have hD : deltaL (gapL s.data.toList q p) (⟨(p : Int), x1, x2⟩ : TokS) = ⟨(N : Int), ((trail G.data.toList : Nat) : Int), x1, x2⟩ := by
            rw [← HG.out]
            unfold deltaL dsL
            rw [HNN.out, if_pos g]
          have HD := Lib.hid hD
          clear hi1 hD
          go_wp2_with fail
          refine (HLI.out _).mono ?_
          rintro e w2 ⟨rfl, rfl⟩
          clear HLI HLT HCT HG hi2 hi3 hw1
          go_wp2_with fail
          clear hw2
          obtain ⟨i0, hi, hz0, hz1, hz2⟩ := info_parts info_td
          have hown3 : (((wr.alloc (.cells #[.int .i64 (p : Int), .int .i64 x1, .int .i64 x2] 71)).alloc (.cells (tdC ⟨N, ((trail G.data.toList : Nat) : Int), x1, x2⟩).toArray 73)).drew.alloc (.cells (tdC ⟨N, ((trail G.data.toList : Nat) : Int), x1, x2⟩).toArray 73)).drew.ownsRow w.heap.size 73 4 u6 k vs := by
            have := HO.out.1
            rw [HL.out] at this
            exact (((this.alloc _).alloc _).drew.alloc _).drew
          have hnew : (((wr.alloc (.cells #[.int .i64 (p : Int), .int .i64 x1, .int .i64 x2] 71)).alloc (.cells (tdC ⟨N, ((trail G.data.toList : Nat) : Int), x1, x2⟩).toArray 73)).drew.alloc (.cells (tdC ⟨N, ((trail G.data.toList : Nat) : Int), x1, x2⟩).toArray 73)).drew.heap[wr.heap.size + 2]? = some (.cells #[.int .i64 N, .int .i64 ((trail G.data.toList : Nat) : Int), .int .i64 x1, .int .i64 x2] 73 (0, 0)) := by
            have := heap_alloc_new ((wr.alloc (.cells #[.int .i64 (p : Int), .int .i64 x1, .int .i64 x2] 71)).alloc (.cells (tdC ⟨N, ((trail G.data.toList : Nat) : Int), x1, x2⟩).toArray 73)).drew (.cells (tdC ⟨N, ((trail G.data.toList : Nat) : Int), x1, x2⟩).toArray 73)
            rw [show ((wr.alloc (.cells #[.int .i64 (p : Int), .int .i64 x1, .int .i64 x2] 71)).alloc (.cells (tdC ⟨N, ((trail G.data.toList : Nat) : Int), x1, x2⟩).toArray 73)).drew.heap.size = wr.heap.size + 2 by simp] at this
            exact this
          have hBW : Below wr.heap.size wr (((wr.alloc (.cells #[.int .i64 (p : Int), .int .i64 x1, .int .i64 x2] 71)).alloc (.cells (tdC ⟨N, ((trail G.data.toList : Nat) : Int), x1, x2⟩).toArray 73)).drew.alloc (.cells (tdC ⟨N, ((trail G.data.toList : Nat) : Int), x1, x2⟩).toArray 73)).drew :=
            ((((Below.refl _ _).alloc (Nat.le_refl _) _).alloc (by simp) _).drew.alloc (by simp; omega) _).drew
          have hSZ : (((wr.alloc (.cells #[.int .i64 (p : Int), .int .i64 x1, .int .i64 x2] 71)).alloc (.cells (tdC ⟨N, ((trail G.data.toList : Nat) : Int), x1, x2⟩).toArray 73)).drew.alloc (.cells (tdC ⟨N, ((trail G.data.toList : Nat) : Int), x1, x2⟩).toArray 73)).drew.heap.size = wr.heap.size + 3 := by simp
          have hK : ∀ (g cap : Nat) (w2 : World), w2.ownsRow w.heap.size 73 4 (.slice (some ⟨g, 0, none⟩) (k + 1) cap) (k + 1) (vs ++ tdC ⟨N, ((trail G.data.toList : Nat) : Int), x1, x2⟩) → (((wr.alloc (.cells #[.int .i64 (p : Int), .int .i64 x1, .int .i64 x2] 71)).alloc (.cells (tdC ⟨N, ((trail G.data.toList : Nat) : Int), x1, x2⟩).toArray 73)).drew.alloc (.cells (tdC ⟨N, ((trail G.data.toList : Nat) : Int), x1, x2⟩).toArray 73)).drew.grownBy w2 u6.ownBlock → (u6.ownBlock = some g ∨ g = wr.heap.size + 3) →
              Hid ((w2.cell? ⟨wr.heap.size, 0, none⟩ = some (.int .i64 (p : Int)) ∧ w2.cell? ⟨wr.heap.size + 1, 0, none⟩ = some (.int .i64 N) ∧ w2.cell? ⟨wr.heap.size + 1, 1, none⟩ = some (.int .i64 ((trail G.data.toList : Nat) : Int)) ∧ w2.cell? ⟨wr.heap.size + 1, 2, none⟩ = some (.int .i64 x1) ∧ w2.cell? ⟨wr.heap.size + 1, 3, none⟩ = some (.int .i64 x2)) ∧ tdD.Own w2 w.heap.size 73 (OF w.heap.size (.slice (some ⟨g, 0, none⟩) (k + 1) cap) w2) (.slice (some ⟨g, 0, none⟩) (k + 1) cap) (out ++ [⟨N, ((trail G.data.toList : Nat) : Int), x1, x2⟩]) (vs ++ tdC ⟨N, ((trail G.data.toList : Nat) : Int), x1, x2⟩) ∧ Below w.heap.size w w2) := by
            intro g cap w2 h1 h2 h3
            have hb3 := HB.out.trans (hBW.mono hb2)
            refine ⟨?_, (HO.out.below hBW).grow (Dat.Row.single (D := tdD) rfl) h2 (by rw [HL.out]; exact h1) (h3.elim (fun e => .inl e.symm) (fun e => .inr ⟨g, rfl, by rw [hSZ, e]; exact Nat.le_refl _⟩)), hb3.grown h2 (by rw [hSZ]; omega) (fun b hb => (hown3.lt b hb).1)⟩
            have hne : ∀ b, wr.heap.size ≤ b → some b ≠ u6.ownBlock := fun b hb e => by have := (HO.out.1.lt _ e.symm).2; omega
            have hc1 : ∀ j u, (tdC ⟨N, ((trail G.data.toList : Nat) : Int), x1, x2⟩)[j]? = some u → w2.cell? ⟨wr.heap.size + 1, j, none⟩ = some u := fun j u hu => by
              rw [h2.cell_far _ (by rw [hSZ]; simp) (hne _ (by simp))]
              refine (World.cell?_alloc_lt _ _ _ (by simp)).trans ?_
              exact (World.cell?_alloc_at _ _ _ _ (by simp)).trans (by simpa using hu)
            refine ⟨?_, hc1 0 _ rfl, hc1 1 _ rfl, hc1 2 _ rfl, hc1 3 _ rfl⟩
            rw [h2.cell_far _ (by rw [hSZ]; simp) (hne _ (by simp))]
            exact (World.cell?_alloc_lt _ _ _ (by simp; omega)).trans ((World.cell?_alloc_lt _ _ _ (by simp)).trans (by simp))
          have HK := Lib.hid hK
          have HO3 := Lib.hid hown3
          have HNW := Lib.hid hnew
          have HSZ := Lib.hid hSZ
          have hin : ∀ u ∈ tdC ⟨N, ((trail G.data.toList : Nat) : Int), x1, x2⟩, u.oneCell' = true := by simp [tdC, Value.oneCell']
          have HIN := Lib.hid hin
          have hkl2 : k + 1 ≤ maxLen := by simp only [maxLen]; omega
          have hkb : (k + 1) * 32 ≤ 140737488355328 := by omega
          have HKL := Lib.hid hkl2
          have hBS := Lib.hid (show w.heap.size ≤ (((wr.alloc (.cells #[.int .i64 (p : Int), .int .i64 x1, .int .i64 x2] 71)).alloc (.cells (tdC ⟨N, ((trail G.data.toList : Nat) : Int), x1, x2⟩).toArray 73)).drew.alloc (.cells (tdC ⟨N, ((trail G.data.toList : Nat) : Int), x1, x2⟩).toArray 73)).drew.heap.size by simp; omega)
          clear hK hown3 hnew hSZ hBW hin hkl2
          go_region_held3 (fun w' => w'.cell? ⟨wr.heap.size, 0, none⟩ = some (.int .i64 (p : Int)) ∧ w'.cell? ⟨wr.heap.size + 1, 0, none⟩ = some (.int .i64 N) ∧ w'.cell? ⟨wr.heap.size + 1, 1, none⟩ = some (.int .i64 ((trail G.data.toList : Nat) : Int)) ∧ w'.cell? ⟨wr.heap.size + 1, 2, none⟩ = some (.int .i64 x1) ∧ w'.cell? ⟨wr.heap.size + 1, 3, none⟩ = some (.int .i64 x2)) (first | go_keep | assumption)
            ((refine step_append_lies _ (by rfl) _ _ _ (by rfl) w.heap.size 73 i0 _ 4 32 Tryz.underlying31 hi hz0 hz1 hz2 rfl (by decide) u6 k vs (by rfl) HO3.out ⟨wr.heap.size + 2, 0, none⟩ 1 1 (tdC ⟨N, ((trail G.data.toList : Nat) : Int), x1, x2⟩) (by rfl) (by rfl) (World.news_of_block (cs := #[_, _, _, _]) (t := 73) (fr := (0, 0)) HNW.out) HIN.out (by decide) HKL.out hkb hBS.out _ HSZ.out ?_; intro gg cap w2 hown1 hgrow hat hlt; have hk2 := HK.out gg cap w2 hown1 hgrow hat; have hk3 := hk2.out.1; clear hown1 hgrow hat hlt))
          all_goals
            go_wp2_with fail
            go_roundw
            case rel => exact ⟨k + 1, p, (p : Int) + x1, _, _, by omega, by go_num, rfl, hps, hqx, hx1, Lib.hid (by rw [List.length_append, HL.out]; rfl), HV2, Lib.hid (by rw [List.append_assoc]; rw [HD.out] at HE2; exact HE2.out.symm), hk2.out.2.1, hk2.out.2.2⟩
            case measure => simp [intOf]; omega
        · have gI : ¬ (0 : Int) < N := by omega
          have hD : deltaL (gapL s.data.toList q p) (⟨(p : Int), x1, x2⟩ : TokS) = ⟨(N : Int), (M : Int), x1, x2⟩ := by
            rw [← HG.out]
            unfold deltaL dsL
            rw [HNN.out, if_neg g, show G.data.toList.length = M by rw [← hgz]; simp]
          have HD := Lib.hid hD
          clear hD HLI HLT HCT HG
          go_wp2_with fail
          obtain ⟨i0, hi, hz0, hz1, hz2⟩ := info_parts info_td
          have hown3 : (((wr.alloc (.cells #[.int .i64 (p : Int), .int .i64 x1, .int .i64 x2] 71)).alloc (.cells (tdC ⟨N, (M : Int), x1, x2⟩).toArray 73)).drew.alloc (.cells (tdC ⟨N, (M : Int), x1, x2⟩).toArray 73)).drew.ownsRow w.heap.size 73 4 u6 k vs := by
            have := HO.out.1
            rw [HL.out] at this
            exact (((this.alloc _).alloc _).drew.alloc _).drew
          have hnew : (((wr.alloc (.cells #[.int .i64 (p : Int), .int .i64 x1, .int .i64 x2] 71)).alloc (.cells (tdC ⟨N, (M : Int), x1, x2⟩).toArray 73)).drew.alloc (.cells (tdC ⟨N, (M : Int), x1, x2⟩).toArray 73)).drew.heap[wr.heap.size + 2]? = some (.cells #[.int .i64 N, .int .i64 (M : Int), .int .i64 x1, .int .i64 x2] 73 (0, 0)) := by
            have := heap_alloc_new ((wr.alloc (.cells #[.int .i64 (p : Int), .int .i64 x1, .int .i64 x2] 71)).alloc (.cells (tdC ⟨N, (M : Int), x1, x2⟩).toArray 73)).drew (.cells (tdC ⟨N, (M : Int), x1, x2⟩).toArray 73)
            rw [show ((wr.alloc (.cells #[.int .i64 (p : Int), .int .i64 x1, .int .i64 x2] 71)).alloc (.cells (tdC ⟨N, (M : Int), x1, x2⟩).toArray 73)).drew.heap.size = wr.heap.size + 2 by simp] at this
            exact this
          have hBW : Below wr.heap.size wr (((wr.alloc (.cells #[.int .i64 (p : Int), .int .i64 x1, .int .i64 x2] 71)).alloc (.cells (tdC ⟨N, (M : Int), x1, x2⟩).toArray 73)).drew.alloc (.cells (tdC ⟨N, (M : Int), x1, x2⟩).toArray 73)).drew :=
            ((((Below.refl _ _).alloc (Nat.le_refl _) _).alloc (by simp) _).drew.alloc (by simp; omega) _).drew
          have hSZ : (((wr.alloc (.cells #[.int .i64 (p : Int), .int .i64 x1, .int .i64 x2] 71)).alloc (.cells (tdC ⟨N, (M : Int), x1, x2⟩).toArray 73)).drew.alloc (.cells (tdC ⟨N, (M : Int), x1, x2⟩).toArray 73)).drew.heap.size = wr.heap.size + 3 := by simp
          have hK : ∀ (g cap : Nat) (w2 : World), w2.ownsRow w.heap.size 73 4 (.slice (some ⟨g, 0, none⟩) (k + 1) cap) (k + 1) (vs ++ tdC ⟨N, (M : Int), x1, x2⟩) → (((wr.alloc (.cells #[.int .i64 (p : Int), .int .i64 x1, .int .i64 x2] 71)).alloc (.cells (tdC ⟨N, (M : Int), x1, x2⟩).toArray 73)).drew.alloc (.cells (tdC ⟨N, (M : Int), x1, x2⟩).toArray 73)).drew.grownBy w2 u6.ownBlock → (u6.ownBlock = some g ∨ g = wr.heap.size + 3) →
              Hid ((w2.cell? ⟨wr.heap.size, 0, none⟩ = some (.int .i64 (p : Int)) ∧ w2.cell? ⟨wr.heap.size + 1, 0, none⟩ = some (.int .i64 N) ∧ w2.cell? ⟨wr.heap.size + 1, 1, none⟩ = some (.int .i64 (M : Int)) ∧ w2.cell? ⟨wr.heap.size + 1, 2, none⟩ = some (.int .i64 x1) ∧ w2.cell? ⟨wr.heap.size + 1, 3, none⟩ = some (.int .i64 x2)) ∧ tdD.Own w2 w.heap.size 73 (OF w.heap.size (.slice (some ⟨g, 0, none⟩) (k + 1) cap) w2) (.slice (some ⟨g, 0, none⟩) (k + 1) cap) (out ++ [⟨N, (M : Int), x1, x2⟩]) (vs ++ tdC ⟨N, (M : Int), x1, x2⟩) ∧ Below w.heap.size w w2) := by
            intro g cap w2 h1 h2 h3
            have hb3 := HB.out.trans (hBW.mono hb2)
            refine ⟨?_, (HO.out.below hBW).grow (Dat.Row.single (D := tdD) rfl) h2 (by rw [HL.out]; exact h1) (h3.elim (fun e => .inl e.symm) (fun e => .inr ⟨g, rfl, by rw [hSZ, e]; exact Nat.le_refl _⟩)), hb3.grown h2 (by rw [hSZ]; omega) (fun b hb => (hown3.lt b hb).1)⟩
            have hne : ∀ b, wr.heap.size ≤ b → some b ≠ u6.ownBlock := fun b hb e => by have := (HO.out.1.lt _ e.symm).2; omega
            have hc1 : ∀ j u, (tdC ⟨N, (M : Int), x1, x2⟩)[j]? = some u → w2.cell? ⟨wr.heap.size + 1, j, none⟩ = some u := fun j u hu => by
              rw [h2.cell_far _ (by rw [hSZ]; simp) (hne _ (by simp))]
              refine (World.cell?_alloc_lt _ _ _ (by simp)).trans ?_
              exact (World.cell?_alloc_at _ _ _ _ (by simp)).trans (by simpa using hu)
            refine ⟨?_, hc1 0 _ rfl, hc1 1 _ rfl, hc1 2 _ rfl, hc1 3 _ rfl⟩
            rw [h2.cell_far _ (by rw [hSZ]; simp) (hne _ (by simp))]
            exact (World.cell?_alloc_lt _ _ _ (by simp; omega)).trans ((World.cell?_alloc_lt _ _ _ (by simp)).trans (by simp))
          have HK := Lib.hid hK
          have HO3 := Lib.hid hown3
          have HNW := Lib.hid hnew
          have HSZ := Lib.hid hSZ
          have hin : ∀ u ∈ tdC ⟨N, (M : Int), x1, x2⟩, u.oneCell' = true := by simp [tdC, Value.oneCell']
          have HIN := Lib.hid hin
          have hkl2 : k + 1 ≤ maxLen := by simp only [maxLen]; omega
          have hkb : (k + 1) * 32 ≤ 140737488355328 := by omega
          have HKL := Lib.hid hkl2
          have hBS := Lib.hid (show w.heap.size ≤ (((wr.alloc (.cells #[.int .i64 (p : Int), .int .i64 x1, .int .i64 x2] 71)).alloc (.cells (tdC ⟨N, (M : Int), x1, x2⟩).toArray 73)).drew.alloc (.cells (tdC ⟨N, (M : Int), x1, x2⟩).toArray 73)).drew.heap.size by simp; omega)
          clear hK hown3 hnew hSZ hBW hin hkl2
          go_region_held3 (fun w' => w'.cell? ⟨wr.heap.size, 0, none⟩ = some (.int .i64 (p : Int)) ∧ w'.cell? ⟨wr.heap.size + 1, 0, none⟩ = some (.int .i64 N) ∧ w'.cell? ⟨wr.heap.size + 1, 1, none⟩ = some (.int .i64 (M : Int)) ∧ w'.cell? ⟨wr.heap.size + 1, 2, none⟩ = some (.int .i64 x1) ∧ w'.cell? ⟨wr.heap.size + 1, 3, none⟩ = some (.int .i64 x2)) (first | go_keep | assumption)
            ((refine step_append_lies _ (by rfl) _ _ _ (by rfl) w.heap.size 73 i0 _ 4 32 Tryz.underlying31 hi hz0 hz1 hz2 rfl (by decide) u6 k vs (by rfl) HO3.out ⟨wr.heap.size + 2, 0, none⟩ 1 1 (tdC ⟨N, (M : Int), x1, x2⟩) (by rfl) (by rfl) (World.news_of_block (cs := #[_, _, _, _]) (t := 73) (fr := (0, 0)) HNW.out) HIN.out (by decide) HKL.out hkb hBS.out _ HSZ.out ?_; intro gg cap w2 hown1 hgrow hat hlt; have hk2 := HK.out gg cap w2 hown1 hgrow hat; have hk3 := hk2.out.1; clear hown1 hgrow hat hlt))
          all_goals
            go_wp2_with fail
            go_roundw
            case rel => exact ⟨k + 1, p, (p : Int) + x1, _, _, by omega, by go_num, rfl, hps, hqx, hx1, Lib.hid (by rw [List.length_append, HL.out]; rfl), HV2, Lib.hid (by rw [List.append_assoc]; rw [HD.out] at HE2; exact HE2.out.symm), hk2.out.2.1, hk2.out.2.2⟩
            case measure => simp [intOf]; omega
    · have hkI : ¬ (k : Int) < n := by omega
      have hd : ts.drop k = [] := List.drop_of_length_le (by rw [HN.out]; omega)
      have HE2 := Lib.hid HE.out
      rw [hd, encL, List.append_nil] at HE2
      have HO := Lib.hid hown
      have HB := Lib.hid hb
      obtain rfl : k = n := by omega
      clear hown hb hd HE
      go_wp2_with fail
      go_ret2
      obtain ⟨A, c', hv, hat, hcap⟩ := HO.out.at (F' := Nw w wr) (fun b hb => ⟨hb.1, hb.2.1⟩) (fun g hg => HO.out.1.lt g hg)
      rw [HL.out] at hv hcap
      subst hv
      exact ⟨A, c', rfl, by rw [← HE2.out]; exact hat, hcap, HB.out⟩
theorem enc_ok (s : ByteArray) (ts : List TokS) (A : Option Addr) (c : Nat) (w : World) (F : Nat → Prop) (h : tkD.At w F A ts) (hF : ∀ b, F b → b < w.heap.size) (hs : s.size ≤ 2000) (hv : valL s.size 0 ts = true) :
    Calls Tryz.prog 10 #[.string s, .slice A ts.length c] w fun e w' => ∃ A' c', e = .returned (.tuple #[.slice A' ts.length c', .int .i64 0]) ∧ tdD.At w' (Nw w w') A' (encL s.data.toList 0 ts) ∧ Below w.heap.size w w' :=
  (enc_okc s ts A c w F h hF hs hv).mono fun e w' ⟨A', c', h1, h2, _, h4⟩ => ⟨A', c', h1, h2, h4⟩
end Go.Proofs.YtpibenilagloaaaGreatDoor

/-
  semtokens.Encode where it refuses; Decode at a text that is too large.
-/
namespace Go.Proofs.YtpibenilagloaaaGreatDoor
open Go.RowKit
set_option linter.unusedVariables false

set_option maxHeartbeats 1600000 in
theorem enc_big (s : ByteArray) (v : Value) (w : World) (hs : 2000 < s.size) :
    Calls Tryz.prog 10 #[.string s, v] w fun e w' => e = .returned (.tuple #[.slice none 0 0, .int .i64 2]) ∧ Below w.heap.size w w' := by
  have hI : (2000 : Int) < s.size := by omega
  go_enter Tryz.func10, Tryz.ntmps10
  go_wp2_with fail
  go_ret2
  exact ⟨rfl, Below.refl _ _⟩
set_option maxHeartbeats 1600000 in
theorem enc_bad (s : ByteArray) (ts : List TokS) (A : Option Addr) (c : Nat) (w : World) (F : Nat → Prop) (h : tkD.At w F A ts) (hF : ∀ b, F b → b < w.heap.size) (hm : ts.length ≤ maxLen) (hs : s.size ≤ 2000) (hv : valL s.size 0 ts = false) :
    Calls Tryz.prog 10 #[.string s, .slice A ts.length c] w fun e w' => e = .returned (.tuple #[.slice none 0 0, .int .i64 3]) ∧ Below w.heap.size w w' := by
  have HVA := Lib.hid (val_any s ts A c w F h hF hm hs)
  rw [hv] at HVA
  have hI : ¬ (2000 : Int) < s.size := by omega
  clear h hF hv
  go_enter Tryz.func10, Tryz.ntmps10
  go_wp2_with fail
  refine HVA.out.mono ?_
  rintro e w1 ⟨rfl, hb1⟩
  go_wp2_with fail
  go_ret2
  exact ⟨rfl, hb1⟩
set_option maxHeartbeats 1600000 in
theorem dec_big (s : ByteArray) (v : Value) (w : World) (hs : 2000 < s.size) :
    Calls Tryz.prog 11 #[.string s, v] w fun e w' => e = .returned (.tuple #[.slice none 0 0, .int .i64 2]) ∧ Below w.heap.size w w' := by
  have hI : (2000 : Int) < s.size := by omega
  go_enter Tryz.func11, Tryz.ntmps11
  go_wp2_with fail
  go_ret2
  exact ⟨rfl, Below.refl _ _⟩
end Go.Proofs.YtpibenilagloaaaGreatDoor

/-
  The parser's memory: trees in memory, the parser's block, what a step may write.
-/
namespace Go.Proofs.YtpibenilagloaaaGreatDoor
open Go.RowKit
set_option linter.unusedVariables false

/- TREES IN MEMORY -/
mutual
/-- three values stand for a tree, in blocks of F -/
def TreeV (w : World) (F : Nat → Prop) : Tree → Value → Value → Value → Prop
  | .mk k t ch, v0, v1, v2 => v0 = .int .i64 k ∧ v1 = .string t ∧ ∃ A c, v2 = .slice A ch.length c ∧ (ch = [] ∨ ∃ b, A = some ⟨b, 0, none⟩ ∧ F b ∧ TreesV w F ch b 0)
/-- the cells of block b from i on stand for the trees -/
def TreesV (w : World) (F : Nat → Prop) : List Tree → Nat → Nat → Prop
  | [], _, _ => True
  | x :: r, b, i => (∃ v0 v1 v2, w.cell? ⟨b, i, none⟩ = some v0 ∧ w.cell? ⟨b, i + 1, none⟩ = some v1 ∧ w.cell? ⟨b, i + 2, none⟩ = some v2 ∧ TreeV w F x v0 v1 v2) ∧ TreesV w F r b (i + 3)
end
mutual
theorem TreeV.keep {w w' : World} {F F' : Nat → Prop} (hF : ∀ b, F b → F' b) (hw : ∀ b, F b → w'.heap[b]? = w.heap[b]?) : ∀ (x : Tree) (v0 v1 v2 : Value), TreeV w F x v0 v1 v2 → TreeV w' F' x v0 v1 v2
  | .mk k t ch, v0, v1, v2, h => by
    unfold TreeV at h ⊢
    obtain ⟨h0, h1, A, c, h2, h3⟩ := h
    refine ⟨h0, h1, A, c, h2, ?_⟩
    rcases h3 with h3 | ⟨b, hA, hb, h3⟩
    · exact .inl h3
    · exact .inr ⟨b, hA, hF _ hb, TreesV.keep hF hw ch b 0 hb h3⟩
theorem TreesV.keep {w w' : World} {F F' : Nat → Prop} (hF : ∀ b, F b → F' b) (hw : ∀ b, F b → w'.heap[b]? = w.heap[b]?) : ∀ (xs : List Tree) (b i : Nat), F b → TreesV w F xs b i → TreesV w' F' xs b i
  | [], _, _, _, _ => by unfold TreesV; trivial
  | x :: r, b, i, hb, h => by
    unfold TreesV at h ⊢
    obtain ⟨⟨v0, v1, v2, h0, h1, h2, h3⟩, h4⟩ := h
    have e := fun j => World.cell?_of_block (w := w) (w' := w') (a := ⟨b, j, none⟩) (hw b hb)
    exact ⟨⟨v0, v1, v2, (e _).trans h0, (e _).trans h1, (e _).trans h2, TreeV.keep hF hw x v0 v1 v2 h3⟩, TreesV.keep hF hw r b (i + 3) hb h4⟩
end
/-- a row's cells stand for the trees -/
def RowV (w : World) (F : Nat → Prop) : List Value → List Tree → Prop
  | v0 :: v1 :: v2 :: r, x :: xs => TreeV w F x v0 v1 v2 ∧ RowV w F r xs
  | [], [] => True
  | _, _ => False
theorem RowV.keep {w w' : World} {F F' : Nat → Prop} (hF : ∀ b, F b → F' b) (hw : ∀ b, F b → w'.heap[b]? = w.heap[b]?) : ∀ (vs : List Value) (xs : List Tree), RowV w F vs xs → RowV w' F' vs xs
  | v0 :: v1 :: v2 :: r, x :: xs, h => by
    unfold RowV at h ⊢
    exact ⟨TreeV.keep hF hw x v0 v1 v2 h.1, RowV.keep hF hw r xs h.2⟩
  | [], [], _ => by unfold RowV; trivial
  | [], _ :: _, h => by simp [RowV] at h
  | [_], _, h => by simp [RowV] at h
  | [_, _], _, h => by simp [RowV] at h
  | _ :: _ :: _ :: _, [], h => by simp [RowV] at h
theorem RowV.length {w : World} {F : Nat → Prop} : ∀ (vs : List Value) (xs : List Tree), RowV w F vs xs → vs.length = xs.length * 3
  | v0 :: v1 :: v2 :: r, x :: xs, h => by
    unfold RowV at h
    have := RowV.length r xs h.2
    simp only [List.length_cons]; omega
  | [], [], _ => rfl
  | [], _ :: _, h => by simp [RowV] at h
  | [_], _, h => by simp [RowV] at h
  | [_, _], _, h => by simp [RowV] at h
  | _ :: _ :: _ :: _, [], h => by simp [RowV] at h
theorem RowV.append {w : World} {F : Nat → Prop} : ∀ (vs : List Value) (xs : List Tree), RowV w F vs xs → ∀ us ys, RowV w F us ys → RowV w F (vs ++ us) (xs ++ ys)
  | v0 :: v1 :: v2 :: r, x :: xs, h, us, ys, k => by
    unfold RowV at h
    simp only [List.cons_append]
    unfold RowV
    exact ⟨h.1, RowV.append r xs h.2 us ys k⟩
  | [], [], _, us, ys, k => k
  | [], _ :: _, h, _, _, _ => by simp [RowV] at h
  | [_], _, h, _, _, _ => by simp [RowV] at h
  | [_, _], _, h, _, _, _ => by simp [RowV] at h
  | _ :: _ :: _ :: _, [], h, _, _, _ => by simp [RowV] at h
/-- the last tree of a row -/
theorem RowV.last {w : World} {F : Nat → Prop} : ∀ (vs : List Value) (xs : List Tree) (x : Tree), RowV w F vs (xs ++ [x]) → ∃ us v0 v1 v2, vs = us ++ [v0, v1, v2] ∧ RowV w F us xs ∧ TreeV w F x v0 v1 v2
  | v0 :: v1 :: v2 :: r, [], x, h => by
    simp only [List.nil_append] at h
    unfold RowV at h
    have := RowV.length _ _ h.2
    have : r = [] := List.eq_nil_of_length_eq_zero (by simpa using this)
    subst this
    exact ⟨[], v0, v1, v2, rfl, by unfold RowV; trivial, h.1⟩
  | v0 :: v1 :: v2 :: r, y :: xs, x, h => by
    simp only [List.cons_append] at h
    unfold RowV at h
    obtain ⟨us, u0, u1, u2, e, k1, k2⟩ := RowV.last r xs x h.2
    exact ⟨v0 :: v1 :: v2 :: us, u0, u1, u2, by rw [e]; rfl, by unfold RowV; exact ⟨h.1, k1⟩, k2⟩
  | [], [], _, h => by simp [RowV] at h
  | [], _ :: _, _, h => by simp [RowV] at h
  | [_], [], _, h => by simp [RowV] at h
  | [_], _ :: _, _, h => by simp [RowV] at h
  | [_, _], [], _, h => by simp [RowV] at h
  | [_, _], _ :: _, _, h => by simp [RowV] at h
/-- a row in a block is a list of trees -/
theorem RowV.trees {w : World} {F : Nat → Prop} (b : Nat) : ∀ (vs : List Value) (xs : List Tree) (i : Nat), RowV w F vs xs → (∀ j u, vs[j]? = some u → w.cell? ⟨b, i + j, none⟩ = some u) → TreesV w F xs b i
  | v0 :: v1 :: v2 :: r, x :: xs, i, h, hc => by
    unfold RowV at h
    unfold TreesV
    refine ⟨⟨v0, v1, v2, hc 0 v0 rfl, hc 1 v1 rfl, hc 2 v2 rfl, h.1⟩, RowV.trees b r xs (i + 3) h.2 fun j u hu => ?_⟩
    have := hc (j + 3) u (by simpa using hu)
    rw [show i + 3 + j = i + (j + 3) by omega]
    exact this
  | [], [], _, _, _ => by unfold TreesV; trivial
  | [], _ :: _, _, h, _ => by simp [RowV] at h
  | [_], _, _, h, _ => by simp [RowV] at h
  | [_, _], _, _, h, _ => by simp [RowV] at h
  | _ :: _ :: _ :: _, [], _, h, _ => by simp [RowV] at h

/- THE TOKENS IN MEMORY -/
def ToksAt (w : World) (F : Nat → Prop) (A : Option Addr) (ts : List Tok) : Prop :=
  0 < ts.length → ∃ b, A = some ⟨b, 0, none⟩ ∧ F b ∧ ∀ k x, ts[k]? = some x → w.cell? ⟨b, k * 2, none⟩ = some (.int .i64 x.k) ∧ w.cell? ⟨b, k * 2 + 1, none⟩ = some (.string x.t)
theorem ToksAt.keep {w w' : World} {F F' : Nat → Prop} {A : Option Addr} {ts : List Tok} (h : ToksAt w F A ts) (hF : ∀ b, F b → F' b) (hw : ∀ b, F b → w'.heap[b]? = w.heap[b]?) : ToksAt w' F' A ts := by
  intro hp
  obtain ⟨b, rfl, hb, hc⟩ := h hp
  have e := fun j => World.cell?_of_block (w := w) (w' := w') (a := ⟨b, j, none⟩) (hw b hb)
  exact ⟨b, rfl, hF _ hb, fun k x hx => ⟨(e _).trans (hc k x hx).1, (e _).trans (hc k x hx).2⟩⟩

/- WHAT A STEP MAY WRITE -/
/-- the blocks that may be written, and a hole: a block that no data reaches and no step writes -/
structure MM where
  m : Nat → Prop
  x : Nat
instance : CoeFun MM (fun _ => Nat → Prop) := ⟨MM.m⟩
/-- blocks of M may be written; what stays writable was so, or is new -/
structure Step (M : MM) (w : World) (M' : MM) (w' : World) : Prop where
  os : w'.os = w.os
  tape : w'.tape = w.tape
  output : w'.output = w.output
  size : w.heap.size ≤ w'.heap.size
  block : ∀ b, b < w.heap.size → ¬ M b → w'.heap[b]? = w.heap[b]?
  own : ∀ b, M' b → M b ∨ w.heap.size ≤ b
  hx : M'.x = M.x
theorem Step.refl (M : MM) (w : World) : Step M w M w := ⟨rfl, rfl, rfl, Nat.le_refl _, fun _ _ _ => rfl, fun _ h => .inl h, rfl⟩
theorem Step.trans {M M1 M2 : MM} {w w1 w2 : World} (h : Step M w M1 w1) (k : Step M1 w1 M2 w2) : Step M w M2 w2 := by
  refine ⟨k.os.trans h.os, k.tape.trans h.tape, k.output.trans h.output, Nat.le_trans h.size k.size, fun b hb hM => ?_, fun b hb => ?_, k.hx.trans h.hx⟩
  · refine (k.block b (Nat.lt_of_lt_of_le hb h.size) fun h1 => ?_).trans (h.block b hb hM)
    rcases h.own b h1 with h2 | h2
    · exact hM h2
    · omega
  · rcases k.own b hb with h1 | h1
    · exact h.own b h1
    · exact .inr (Nat.le_trans h.size h1)
theorem Step.of_below {M : MM} {w w' : World} (h : Below w.heap.size w w') : Step M w M w' := ⟨h.os, h.tape, h.output, h.size, fun b hb _ => h.block b hb, fun _ h => .inl h, rfl⟩
/-- the blocks that stay -/
structure Fix (w : World) (M : MM) (b : Nat) : Prop where
  lt : b < w.heap.size
  nm : ¬ M b
  nx : b ≠ M.x
theorem Step.fix {M M' : MM} {w w' : World} (h : Step M w M' w') (b : Nat) (hb : Fix w M b) : Fix w' M' b :=
  ⟨Nat.lt_of_lt_of_le hb.1 h.size, fun h1 => (h.own b h1).elim hb.2 (fun h2 => by have := hb.1; omega), by rw [h.hx]; exact hb.3⟩
theorem Step.same {M M' : MM} {w w' : World} (h : Step M w M' w') (b : Nat) (hb : Fix w M b) : w'.heap[b]? = w.heap[b]? := h.block b hb.1 hb.2

/- THE PARSER'S BLOCK -/
/-- an unfinished node below the innermost one -/
structure LowF where
  kind : Int
  v : Value
  ch : List Tree
def LowF.cells (f : LowF) : List Value := [.int .i64 f.kind, .string .empty, f.v]
/-- a node's children, in a row of its own -/
def KidsAt (w : World) (F : Nat → Prop) (v : Value) (ch : List Tree) : Prop := ∃ xs, w.ownsRow 0 121 3 v ch.length xs ∧ RowV w F xs ch
/-- the blocks that the parser writes are told apart -/
def Apart (p g : Nat) (v : Value) (low : List LowF) : Prop :=
  p ≠ g ∧ v.ownBlock ≠ some p ∧ v.ownBlock ≠ some g ∧ (∀ f ∈ low, f.v.ownBlock ≠ some p ∧ f.v.ownBlock ≠ some g ∧ (f.v.ownBlock = none ∨ f.v.ownBlock ≠ v.ownBlock)) ∧ low.Pairwise (fun a b => a.v.ownBlock = none ∨ a.v.ownBlock ≠ b.v.ownBlock)
def Mine (M : MM) (p g : Nat) (v : Value) (low : List LowF) : Prop :=
  M p ∧ M g ∧ (∀ b, v.ownBlock = some b → M b) ∧ ∀ f ∈ low, ∀ b, f.v.ownBlock = some b → M b
/-- the table of white space of the library stands in its block -/
def asc : Array Value := ((List.range 256).map fun i => Value.int .u8 (if i = 9 ∨ i = 10 ∨ i = 11 ∨ i = 12 ∨ i = 13 ∨ i = 32 then 1 else 0)).toArray
end Go.Proofs.YtpibenilagloaaaGreatDoor
