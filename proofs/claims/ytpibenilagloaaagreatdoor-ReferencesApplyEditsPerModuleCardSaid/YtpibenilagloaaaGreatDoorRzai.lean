import Derived.Test.YtpibenilagloaaaGreatDoorRzad
import Derived.Test.YtpibenilagloaaaGreatDoorRzaf
import Derived.Test.YtpibenilagloaaaGreatDoorRzag
import Derived.Test.YtpibenilagloaaaGreatDoorMzbk
import Derived.Maps.OwnOps
import Derived.Maps.OwnSet
import Derived.Deep.RegionHeld3
import Derived.Deep.DeepCutAuto
import Derived.Test.YtpibenilagloaaaGreatDoorMzaz
namespace Go.Proofs.YtpibenilagloaaaGreatDoor
open Go.RowKit Go.Maps
set_option linter.unusedVariables false
theorem lawLoc : Keyed Tryz.prog 163 := Keyed.of_law (deep_law_laid laidOut (m := 2) (by omega) (of_decide_eq_true (by kernel_rfl)) (by kernel_rfl) (by rw [Tryz.underlying163]))
theorem zeroLoc (w : World) : (zeroValue 3).run Tryz.prog w = .ok (.int .i64 0) w := by kernel_rfl
theorem keyLoc : ∃ l, keyOf Tryz.prog 163 (.agg #[.int .i64 0, .int .i64 20]) = some l := Option.isSome_iff_exists.1 (by kernel_rfl)
theorem ownsMap_below5 {w w' : World} {P : Program} {k : TypeId} {R : Value → Option (DataW Unit × List MemPlace)} {b n : Nat} {D : DataW Unit} (h : w.ownsMap P k R b n D) (hb : Below w.heap.size w w') : w'.ownsMap P k R b n D :=
  h.kept (row := none) ⟨hb.os, hb.tape, hb.output, hb.size, fun i hi _ => hb.block i hi⟩ (by simp)
theorem ins0 (A : Option Addr) (c : Nat) (f : Value) (w : World) : Calls Tryz.prog 146 #[.slice A 0 c, .int .i64 0, .int .i64 0, f] w fun e w' => e = .returned (.tuple #[]) ∧ w' = w := by
  go_enter Tryz.func146, Tryz.ntmps146
  go_wp2_with fail
  go_loopw [8] (fun i wr => i = .int .i64 1 ∧ wr = w) (fun _ _ => 0)
  case atStart => exact ⟨rfl, rfl⟩
  case round =>
    obtain ⟨rfl, rfl⟩ := hrel
    go_wp2_with fail
    go_end0
    exact ⟨rfl, rfl⟩
theorem stab0 (A : Option Addr) (c : Nat) (f : Value) (w : World) : Calls Tryz.prog 125 #[.slice A 0 c, .int .i64 0, f] w fun e w' => e = .returned (.tuple #[]) ∧ w' = w := by
  go_enter Tryz.func125, Tryz.ntmps125
  go_wp2_with fail
  go_loopw [7, 8] (fun a b wr => a = .int .i64 0 ∧ b = .int .i64 20 ∧ wr = w) (fun _ _ _ => 0)
  case atStart => exact ⟨rfl, rfl, rfl⟩
  case round =>
    obtain ⟨rfl, rfl, rfl⟩ := hrel
    obtain ⟨wo, rfl⟩ : ∃ wo : World, wo = wr := ⟨_, rfl⟩
    go_wp2_with fail
    refine (ins0 A c f _).mono ?_
    rintro e w1 ⟨rfl, rfl⟩
    go_wp2_with fail
    go_loopw [6] (fun a wr => a = .int .i64 20 ∧ wr = w1) (fun _ _ => 0)
    case atStart => exact ⟨rfl, rfl⟩
    case round =>
      obtain ⟨rfl, rfl⟩ := hrel
      go_wp2_with fail
      go_end0
      exact ⟨rfl, rfl⟩
theorem sort0 (A : Option Addr) (c : Nat) (f : Value) (w : World) : Calls Tryz.prog 76 #[.slice A 0 c, f] w fun e w' => e = .returned (.tuple #[]) ∧ w' = w := by
  go_enter Tryz.func76, Tryz.ntmps76
  go_wp2_with fail
  refine (stab0 A c f w).mono ?_
  rintro e w1 ⟨rfl, rfl⟩
  go_wp2_with fail
  go_end0
  exact ⟨rfl, rfl⟩

structure ChkOk (x : Mdl) (es : List FEd) (ss ss2 : List Sym) : Prop where
  ok : okM es [x] = true
  ls : ss.length ≤ 1000
  l2 : ss2.length ≤ 1000
  y5 : ∃ y, ss[5]? = some y ∧ y.kind = 2 ∧ y.mod = 0 ∧ y.st = 3
  p2 : 0 < ss2.length
  n20 : newPosL es 0 20 = (0, 20, true)
  n3 : newPosL es 0 3 = (0, 3, true)
  co : corrL ss2 0 3 = 5
set_option maxRecDepth 100000 in
set_option maxHeartbeats 4000000 in
theorem chb0 (x : Mdl) (es : List FEd) (ss ss2 : List Sym) (K : ChkOk x es ss ss2) (mb mo mc c m3 : Nat) (A : Option Addr) (w : World) (hA : AscAt w) (hb : mb < w.heap.size) (hc : ∀ i v, (mdC x)[i]? = some v → w.cell? ⟨mb, mo + i, none⟩ = some v) (hmc : 1 ≤ mc)
    (he : feD.At w (Lt w) A es) (hl : es.length ≤ 1000) (hsh : FShort es)
    (hr1 : ∀ w', Below w.heap.size w w' → Calls Tryz.prog 38 #[.slice (some ⟨mb, mo, none⟩) 1 mc] w' (ResQ ss [⟨0, 20, 5⟩] 0 w'))
    (hr2 : ∀ w' b o c', Below w.heap.size w w' → b < w'.heap.size → (∀ i v, (mdC (newM es 0 x))[i]? = some v → w'.cell? ⟨b, o + i, none⟩ = some v) → Calls Tryz.prog 38 #[.slice (some ⟨b, o, none⟩) 1 c'] w' (ResQ ss2 [⟨0, 20, 5⟩] 0 w')) :
    Calls Tryz.prog 39 #[.slice (some ⟨mb, mo, none⟩) 1 mc, .slice A es.length c, .slice none 0 m3] w fun e w' => e = .returned (.tuple #[.slice none 0 0, .int .i64 0]) ∧ Below w.heap.size w w' := by
  obtain ⟨kl, hkl⟩ := keyLoc
  have hklw := lawLoc.key hkl
  have hmd : mdD.At w (Lt w) (some ⟨mb, mo, none⟩) [x] := flat_at5 [x] mb mo hb fun i y hi j u hu => by
    match i, hi with
    | 0, hi => simp at hi; subst hi; rw [Nat.zero_mul, Nat.add_zero]; exact hc j u hu
    | i + 1, hi => simp at hi
  have HAE := Lib.hid (applyEdits_any es [x] (some ⟨mb, mo, none⟩) A mc c w hA hmd hmc (by show 1 * 32 ≤ _; omega) he (by omega) hsh)
  have HPO := Lib.hid (show ∀ e w', AeePost es [x] w e w' → (∃ ob oo cO, e = .returned (.tuple #[.slice (some ⟨ob, oo, none⟩) 1 cO, .int .i64 0]) ∧ ob < w'.heap.size ∧ (∀ i v, (mdC (newM es 0 x))[i]? = some v → w'.cell? ⟨ob, oo + i, none⟩ = some v)) ∧ Below w.heap.size w w' from fun e w' h => by
    obtain ⟨h1, h2⟩ := h
    refine ⟨?_, h2⟩
    rcases h1 with ⟨h1, _⟩ | ⟨_, AO, cO, rfl, hat, _⟩
    · rw [K.ok] at h1; cases h1
    · obtain ⟨ob, oo, rfl, hob, hoc⟩ := flat_get hat 0 (newM es 0 x) rfl
      exact ⟨ob, oo, cO, rfl, hob.2, fun i v hi => by have := hoc i v hi; rwa [Nat.zero_mul, Nat.add_zero] at this⟩)
  have HR1 := Lib.hid hr1
  have HR2 := Lib.hid hr2
  have HNP := Lib.hid (fun w' (hb : Below w.heap.size w w') => newPos_any es A c m3 0 20 w' (he.keep (F' := Lt w') (fun b hb' => Nat.lt_of_lt_of_le hb' hb.size) (fun b hb' => hb.block b hb')) (by omega))
  have HN2 := Lib.hid (show ∀ w1 e w', NpoPost es 0 20 w1 e w' → e = .returned (.tuple #[.int .i64 0, .int .i64 20, .bool true]) ∧ Below w1.heap.size w1 w' from fun w1 e w' h => by unfold NpoPost at h; rw [K.n20] at h; exact h)
  obtain ⟨y, hy, hy1, hy2, hy3⟩ := K.y5
  have HCO := Lib.hid (fun w' SA SB RA RB DA DB sc sc2 rc dc rc2 dc2 (hb : Below w.heap.size w w') (h1 : syD.At w' (Lt w') SA ss) (h2 : syD.At w' (Lt w') SB ss2) => corr_any ss ss2 es 5 y 0 3 SA SB RA RB DA DB A sc sc2 1 rc 0 dc 1 rc2 0 dc2 c m3 w' h1 h2 K.p2 (by have := K.l2; omega) (he.keep (F' := Lt w') (fun b hb' => Nat.lt_of_lt_of_le hb' hb.size) (fun b hb' => hb.block b hb')) (by omega) hy (by rw [hy1]; decide) (by rw [hy1]; decide) (by rw [hy2, hy3]; exact K.n3))
  rw [K.co] at HCO
  have HVI := Lib.hid (fun w' => viol_any true 5 5 5 w')
  have ev : violL true 5 5 5 = 0 := by rfl
  rw [ev] at HVI
  have HKL := Lib.hid hkl
  have HKW := Lib.hid hklw
  obtain ⟨ne, hne⟩ : ∃ ne, es.length = ne := ⟨_, rfl⟩
  obtain ⟨ns, hns⟩ : ∃ ns, ss.length = ns := ⟨_, rfl⟩
  obtain ⟨n2, hn2⟩ : ∃ n2, ss2.length = n2 := ⟨_, rfl⟩
  have HNS := Lib.hid hns
  have HNS2 := Lib.hid hn2
  rw [hne] at HAE HNP HCO
  rw [hns, hn2] at HCO
  rw [hne]
  clear K hA hc hmc he hl hsh hr1 hr2 hmd hy hy1 hy2 hy3 hkl hklw ev hne hns hn2
  go_enter Tryz.func39, Tryz.ntmps39
  go_wp2_with fail
  refine HAE.out.mono ?_
  intro e w1 hpo
  obtain ⟨⟨ob, oo, cO, rfl, hob, hoc⟩, hb1⟩ := HPO.out _ _ hpo
  have HB1 := Lib.hid hb1
  have H1 := Lib.hid (HR1.out w1 hb1)
  have HOC := Lib.hid hoc
  clear hpo hb1 hoc HAE
  go_wp2_with fail
  refine H1.out.mono ?_
  rintro e w2 ⟨SA, sc, RA, rc, DA, dc, rfl, hsy, hrf, hb2⟩
  rw [HNS.out]
  simp only [List.length_cons, List.length_nil, Nat.zero_add]
  have h12 := hb2.size
  obtain ⟨W3, hW3⟩ : ∃ W3, w2.alloc (.cells #[.slice SA ns sc, .slice RA 1 rc, .slice DA 0 dc] 85) = W3 := ⟨_, rfl⟩
  have hb3 : Below w2.heap.size w2 W3 := by rw [← hW3]; exact (Below.refl _ _).alloc (Nat.le_refl _) _
  have hx3 : W3.heap[w2.heap.size]? = some (.cells #[.slice SA ns sc, .slice RA 1 rc, .slice DA 0 dc] 85 (0, 0)) := by rw [← hW3]; exact heap_alloc_new w2 _
  have hb13 := hb2.trans (hb3.mono h12)
  have hbw3 := HB1.out.trans (hb13.mono HB1.out.size)
  have H2 := Lib.hid (HR2.out W3 ob oo cO hbw3 (Nat.lt_of_lt_of_le hob hb13.size) (fun i v hi => (hb13.cell (p := ⟨ob, _, none⟩) hob).trans (HOC.out i v hi)))
  have HBW3 := Lib.hid hbw3
  have HS3 := Lib.hid (hsy.keep (F' := Lt W3) (fun b hb => Nat.lt_of_lt_of_le hb hb3.size) (fun b hb => hb3.block b hb))
  have HR3 := Lib.hid (hrf.keep (F' := Lt W3) (fun b hb => Nat.lt_of_lt_of_le hb hb3.size) (fun b hb => hb3.block b hb))
  have HX3 := Lib.hid hx3
  have l3 := lt_of_heap hx3
  clear hsy hrf hb2 hb3 hx3 hb13 hbw3 H1 hob
  go_wp2_with fail
  clear hW3
  refine H2.out.mono ?_
  rintro e w4 ⟨SB, sc2, RB, rc2, DB, dc2, rfl, hsy2, hrf2, hb4⟩
  rw [HNS2.out]
  simp only [List.length_cons, List.length_nil, Nat.zero_add]
  have h34 := hb4.size
  obtain ⟨W5, hW5⟩ : ∃ W5, w4.alloc (.cells #[.slice SB n2 sc2, .slice RB 1 rc2, .slice DB 0 dc2] 85) = W5 := ⟨_, rfl⟩
  have hb5 : Below w4.heap.size w4 W5 := by rw [← hW5]; exact (Below.refl _ _).alloc (Nat.le_refl _) _
  have hx5 : W5.heap[w4.heap.size]? = some (.cells #[.slice SB n2 sc2, .slice RB 1 rc2, .slice DB 0 dc2] 85 (0, 0)) := by rw [← hW5]; exact heap_alloc_new w4 _
  obtain ⟨W6, hW6⟩ : ∃ W6, W5.alloc (.map #[] 0) = W6 := ⟨_, rfl⟩
  have hb6 : Below W5.heap.size W5 W6 := by rw [← hW6]; exact (Below.refl _ _).alloc (Nat.le_refl _) _
  have ho6 : W6.ownsMap Tryz.prog 163 (plainElem (H := Unit) Tryz.prog 3) W5.heap.size 0 (.map []) := by rw [← hW6]; exact World.ownsMap_made (H := Unit) W5 Tryz.prog 163 (plainElem Tryz.prog 3)
  have hb46 := hb5.trans (hb6.mono hb5.size)
  have hb36 := hb4.trans (hb46.mono h34)
  have hx6 := (hb6.block _ (lt_of_heap hx5)).trans hx5
  have hx36 := (hb36.block _ l3).trans HX3.out
  obtain ⟨ub, uo, rfl, hub, huc⟩ := flat_get hrf2 0 _ rfl
  obtain ⟨rb, ro, rfl, hrb, hrc⟩ := flat_get HR3.out 0 _ rfl
  have HOM := Lib.hid ho6
  have HB6 := Lib.hid (HBW3.out.trans (hb36.mono HBW3.out.size))
  have HX6 := Lib.hid hx6
  have HX36 := Lib.hid hx36
  have s45 : w4.heap.size < W5.heap.size := lt_of_heap hx5
  have HS6 := Lib.hid (HS3.out.keep (w' := W6) (F' := fun b => b < W5.heap.size) (fun b hb => by have h : b < W3.heap.size := hb; omega) (fun b hb => hb36.block b hb))
  have HT6 := Lib.hid (hsy2.keep (w' := W6) (F' := fun b => b < W5.heap.size) (fun b hb => by have h : b < w4.heap.size := hb; omega) (fun b hb => hb46.block b hb))
  have u0 := (hb46.cell (p := ⟨ub, _, none⟩) hub).trans (huc 0 _ rfl)
  have u1 := (hb46.cell (p := ⟨ub, _, none⟩) hub).trans (huc 1 _ rfl)
  have u2 := (hb46.cell (p := ⟨ub, _, none⟩) hub).trans (huc 2 _ rfl)
  have q0 := (hb36.cell (p := ⟨rb, _, none⟩) hrb).trans (hrc 0 _ rfl)
  have q1 := (hb36.cell (p := ⟨rb, _, none⟩) hrb).trans (hrc 1 _ rfl)
  have q2 := (hb36.cell (p := ⟨rb, _, none⟩) hrb).trans (hrc 2 _ rfl)
  simp only [Nat.zero_mul, Nat.add_zero] at u0 u1 u2 q0 q1 q2
  have c61 := cell_of hx6 1 _ rfl
  have c62 := cell_of hx6 2 _ rfl
  have c31 := cell_of hx36 1 _ rfl
  have c32 := cell_of hx36 2 _ rfl
  have lub : ub < W6.heap.size := Nat.lt_of_lt_of_le hub hb46.size
  have lrb : rb < W6.heap.size := Nat.lt_of_lt_of_le hrb hb36.size
  have l6 := lt_of_heap hx6
  have l36 := lt_of_heap hx36
  have s56 : W5.heap.size < W6.heap.size := ho6.lt
  have hub5 : ub < W5.heap.size := by have h : ub < w4.heap.size := hub; omega
  have hrb5 : rb < W5.heap.size := by have h : rb < W3.heap.size := hrb; omega
  have l35 : w2.heap.size < W5.heap.size := by omega
  have hmm := @run_makeMap Tryz.prog
  clear hsy2 hrf2 hb4 hb5 hb6 hx5 hb46 hb36 hx6 hx36 H2 huc hrc hub hrb
  go_wp2_with fail
  clear hW5 hW6 hmm
  have hkey := HKL.out
  have hw5 : (Lit.int .i64 5).wf = true := by decide
  have HAT := Lib.hid (show ∀ z, (DataW.put (H := Unit) (.map []) kl (.lit (.int .i64 5))).atKey kl z = .lit (.int .i64 5) from fun z => atKey_put_same isMap_empty HKW.out _ z)
  have HHAS := Lib.hid (show Maps.has (DataW.put (H := Unit) (.map []) kl (.lit (.int .i64 5))) kl = true from has_put_same isMap_empty HKW.out _)
  obtain ⟨D1, hD1⟩ : ∃ D1, DataW.put (H := Unit) (.map []) kl (.lit (.int .i64 5)) = D1 := ⟨_, rfl⟩
  rw [hD1] at HAT HHAS
  have HD1 := Lib.hid hD1
  clear hD1
  go_loopw [51] (fun i wr => (i = .int .i64 0 ∧ wr = W6) ∨ (i = .int .i64 1 ∧ wr.ownsMap Tryz.prog 163 (plainElem (H := Unit) Tryz.prog 3) W5.heap.size 1 D1 ∧ Below W5.heap.size W6 wr)) (fun i _ => 1 - (intOf i).toNat)
  case atStart => exact .inl ⟨rfl, rfl⟩
  case round =>
    rcases hrel with ⟨rfl, rfl⟩ | ⟨rfl, hom, hbm⟩
    · obtain ⟨W7, hW7⟩ : ∃ W7, wr.alloc (.cells #[.int .i64 0, .int .i64 20, .int .i64 5] 117) = W7 := ⟨_, rfl⟩
      have hx7 : W7.heap[wr.heap.size]? = some (.cells #[.int .i64 0, .int .i64 20, .int .i64 5] 117 (0, 0)) := by rw [← hW7]; exact heap_alloc_new wr _
      have hb7 : Below W5.heap.size wr W7 := by rw [← hW7]; exact (Below.refl _ _).alloc (by omega) _
      have hown7 : W7.ownsMap Tryz.prog 163 (plainElem (H := Unit) Tryz.prog 3) W5.heap.size 0 (.map []) := by rw [← hW7]; exact HOM.out.alloc _
      have e0 := cell_of hx7 0 _ rfl
      have e1 := cell_of hx7 1 _ rfl
      have e2 := cell_of hx7 2 _ rfl
      have l7 := lt_of_heap hx7
      have HB7 := Lib.hid hb7
      clear hx7 hb7
      go_wp2_with (at_mapUpdate; refine wpList_mapUpdate_own _ rfl _ _ _ 161 rfl 163 3 lawLoc Tryz.underlying161 _ W5.heap.size 0 _ rfl hown7 (by unfold maxLen; omega) _ _ _ rfl rfl hkey _ [] (plainElem_int Tryz.underlying3 hw5) ?_; intro w8 hown8 hgrow8)
      have hown8' : w8.ownsMap Tryz.prog 163 (plainElem (H := Unit) Tryz.prog 3) W5.heap.size 1 D1 := by rw [← HD1.out]; exact hown8
      have H8 := Lib.hid hown8'
      have HB8 := Lib.hid (HB7.out.grown hgrow8 (by have := HB7.out.size; omega) (fun q hq => by injection hq with hq; omega))
      clear hown7 hown8 hown8' hgrow8 hW7 e0 e1 e2
      go_wp2_with fail
      go_roundw
      case rel => exact .inr ⟨rfl, H8.out, HB8.out⟩
      case measure => simp [intOf]
    · have HOM1 := Lib.hid hom
      have HBM := Lib.hid hbm
      obtain ⟨wo, hwo⟩ : ∃ wo : World, wo = wr := ⟨_, rfl⟩
      subst hwo
      have y10 := (hbm.block _ l35).trans HX36.out
      have y12 := (hbm.block _ s45).trans HX6.out
      have p0 := (hbm.cell (p := ⟨rb, ro, none⟩) hrb5).trans q0
      have p1 := (hbm.cell (p := ⟨rb, ro + 1, none⟩) hrb5).trans q1
      have p2 := (hbm.cell (p := ⟨rb, ro + 2, none⟩) hrb5).trans q2
      have k1 := cell_of y10 1 _ rfl
      have k2 := cell_of y10 2 _ rfl
      have k3 := cell_of y12 2 _ rfl
      have hso := hbm.size
      have ly10 := lt_of_heap y10
      have ly12 := lt_of_heap y12
      have lrbo : rb < wo.heap.size := by omega
      have HY10 := Lib.hid y10
      have HY12 := Lib.hid y12
      have HSo := Lib.hid (HS6.out.keep (F' := Lt wo) (fun b (hb : b < W5.heap.size) => (show b < wo.heap.size by omega)) (fun b hb => hbm.block b hb))
      have HTo := Lib.hid (HT6.out.keep (F' := Lt wo) (fun b (hb : b < W5.heap.size) => (show b < wo.heap.size by omega)) (fun b hb => hbm.block b hb))
      have hw5 : w.heap.size ≤ W5.heap.size := by have := HBW3.out.size; omega
      have HBO := Lib.hid (HB6.out.trans (hbm.mono hw5))
      clear hom hbm y10 y12 q0 q1 q2 u0 u1 u2 c61 c62 c31 c32 HOM HB6 HX6 HX36 HS6 HT6
      go_wp2_with fail
      go_loopw [17, 78] (fun v i wr => v = .slice none 0 0 ∧ ((i = .int .i64 0 ∧ wr = wo) ∨ (i = .int .i64 1 ∧ Below wo.heap.size wo wr))) (fun _ i _ => 1 - (intOf i).toNat)
      case atStart => exact ⟨rfl, .inl ⟨rfl, rfl⟩⟩
      case round =>
        obtain ⟨rfl, hrel⟩ := hrel
        rcases hrel with ⟨rfl, rfl⟩ | ⟨rfl, hb9⟩
        · obtain ⟨W9, hW9⟩ : ∃ W9, wr.alloc (.cells #[.int .i64 0, .int .i64 20, .int .i64 5] 117) = W9 := ⟨_, rfl⟩
          have hx9 : W9.heap[wr.heap.size]? = some (.cells #[.int .i64 0, .int .i64 20, .int .i64 5] 117 (0, 0)) := by rw [← hW9]; exact heap_alloc_new wr _
          have hb9 : Below wr.heap.size wr W9 := by rw [← hW9]; exact (Below.refl _ _).alloc (Nat.le_refl _) _
          have e0 := cell_of hx9 0 _ rfl
          have e1 := cell_of hx9 1 _ rfl
          have e2 := cell_of hx9 2 _ rfl
          have l9 := lt_of_heap hx9
          have HB9 := Lib.hid hb9
          have HX9 := Lib.hid hx9
          have HN9 := Lib.hid (HNP.out W9 (HBO.out.trans (hb9.mono HBO.out.size)))
          clear hx9 hb9
          go_wp2_with fail
          refine HN9.out.mono ?_
          intro e w10 hnp
          obtain ⟨rfl, hb10⟩ := HN2.out _ _ _ hnp
          have hb90 := HB9.out.trans (hb10.mono HB9.out.size)
          have hmap := ownsMap_below5 HOM1.out hb90
          have x10 := (hb10.block _ l9).trans HX9.out
          have y10 := (hb90.block _ (lt_of_heap HY10.out)).trans HY10.out
          have y12 := (hb90.block _ (lt_of_heap HY12.out)).trans HY12.out
          have s2 := cell_of x10 2 _ rfl
          have t0 := cell_of y10 0 _ rfl
          have t1 := cell_of y10 1 _ rfl
          have t2 := cell_of y10 2 _ rfl
          have v0 := cell_of y12 0 _ rfl
          have v1 := cell_of y12 1 _ rfl
          have v2 := cell_of y12 2 _ rfl
          have m1 := lt_of_heap x10
          have m2 := lt_of_heap y10
          have m3' := lt_of_heap y12
          have HB90 := Lib.hid hb90
          have HX10 := Lib.hid x10
          have HZ10 := Lib.hid y10
          have HZ12 := Lib.hid y12
          have HC10 := Lib.hid (fun W RA RB DA DB sc sc2 rc dc rc2 dc2 (hb : Below w10.heap.size w10 W) => HCO.out W SA SB RA RB DA DB sc sc2 rc dc rc2 dc2 (HBO.out.trans ((hb90.trans (hb.mono hb90.size)).mono HBO.out.size)) (HSo.out.keep (F' := Lt W) (fun b (hb' : b < wr.heap.size) => (show b < W.heap.size from Nat.lt_of_lt_of_le (Nat.lt_of_lt_of_le hb' hb90.size) hb.size)) (fun b hb' => (hb.block b (Nat.lt_of_lt_of_le hb' hb90.size)).trans (hb90.block b hb'))) (HTo.out.keep (F' := Lt W) (fun b (hb' : b < wr.heap.size) => (show b < W.heap.size from Nat.lt_of_lt_of_le (Nat.lt_of_lt_of_le hb' hb90.size) hb.size)) (fun b hb' => (hb.block b (Nat.lt_of_lt_of_le hb' hb90.size)).trans (hb90.block b hb'))))
          clear hb10 hb90 x10 y10 y12 hnp HN9 hW9 e0 e1 e2 p0 p1 p2 k1 k2 k3
          go_wp2_with (at_lookup; refine wpList_lookup_own_ok_int _ rfl _ _ 161 rfl 163 3 .i64 lawLoc Tryz.underlying161 Tryz.underlying3 (zeroLoc _) W5.heap.size 1 _ rfl hmap _ _ rfl hkey ?_; intro cq hat hwc; have hcq : (5 : Int) = cq := (by rw [HAT.out] at hat; injection hat with hat; injection hat); subst hcq; rw [HHAS.out])
          have HSW := Lib.hid (show ∀ u, Below w10.heap.size w10 u → (fun u : World => u.cell? ⟨wr.heap.size, 2, none⟩ = some (.int .i64 5) ∧ u.cell? ⟨w2.heap.size, 0, none⟩ = some (.slice SA ns sc) ∧ u.cell? ⟨w2.heap.size, 1, none⟩ = some (.slice (some ⟨rb, ro, none⟩) 1 rc) ∧ u.cell? ⟨w2.heap.size, 2, none⟩ = some (.slice DA 0 dc) ∧ u.cell? ⟨w4.heap.size, 0, none⟩ = some (.slice SB n2 sc2) ∧ u.cell? ⟨w4.heap.size, 1, none⟩ = some (.slice (some ⟨ub, uo, none⟩) 1 rc2) ∧ u.cell? ⟨w4.heap.size, 2, none⟩ = some (.slice DB 0 dc2)) u from fun u hu => ⟨cell_of ((hu.block _ m1).trans HX10.out) 2 _ rfl, cell_of ((hu.block _ m2).trans HZ10.out) 0 _ rfl, cell_of ((hu.block _ m2).trans HZ10.out) 1 _ rfl, cell_of ((hu.block _ m2).trans HZ10.out) 2 _ rfl, cell_of ((hu.block _ m3').trans HZ12.out) 0 _ rfl, cell_of ((hu.block _ m3').trans HZ12.out) 1 _ rfl, cell_of ((hu.block _ m3').trans HZ12.out) 2 _ rfl⟩)
          go_region_held3 (fun u : World => u.cell? ⟨wr.heap.size, 2, none⟩ = some (.int .i64 5) ∧ u.cell? ⟨w2.heap.size, 0, none⟩ = some (.slice SA ns sc) ∧ u.cell? ⟨w2.heap.size, 1, none⟩ = some (.slice (some ⟨rb, ro, none⟩) 1 rc) ∧ u.cell? ⟨w2.heap.size, 2, none⟩ = some (.slice DA 0 dc) ∧ u.cell? ⟨w4.heap.size, 0, none⟩ = some (.slice SB n2 sc2) ∧ u.cell? ⟨w4.heap.size, 1, none⟩ = some (.slice (some ⟨ub, uo, none⟩) 1 rc2) ∧ u.cell? ⟨w4.heap.size, 2, none⟩ = some (.slice DB 0 dc2)) (first | go_keep | trivial | (exact HSW.out _ B11.out)) ((first
            | (go_at_call 75; refine (HC10.out _ _ _ _ _ _ _ _ _ _ _ (below_drewN (Below.refl _ _) _)).mono ?_; rintro e w11 ⟨rfl, hb11⟩; have B11 : Hid (Below w10.heap.size w10 w11) := Lib.hid ((below_drewN (Below.refl _ _) _).trans hb11))
            | (go_at_call 74; refine (HVI.out _).mono ?_; rintro e w12 ⟨rfl, rfl⟩)))
          all_goals
            have HB11 := Lib.hid (HB90.out.trans (B11.out.mono HB90.out.size))
            clear hb11
            go_wp2_with fail
            go_roundw
            case rel => exact ⟨rfl, .inr ⟨rfl, HB11.out⟩⟩
            case measure => simp [intOf]
        · have HBE := Lib.hid (HBO.out.trans (hb9.mono HBO.out.size))
          clear hb9
          go_wp2_with fail
          refine (sort0 _ _ _ _).mono ?_
          rintro e w11 ⟨rfl, rfl⟩
          go_wp2_with fail
          go_ret2
          exact ⟨rfl, HBE.out⟩
end Go.Proofs.YtpibenilagloaaaGreatDoor

namespace Go.Proofs.YtpibenilagloaaaGreatDoor
open Go.RowKit
open Go.Sort (grow grow_grow alloc_eq_grow)
set_option linter.unusedVariables false
def cmpRd (a b : Dg) : Int := orL [cmpI a.mod b.mod, cmpI a.s b.s, cmpI a.e b.e, cmpI a.code b.code]
set_option maxRecDepth 100000 in
set_option maxHeartbeats 600000 in
theorem cmpRd_any (x y : Dg) (w : World) :
    Calls Tryz.prog 77 #[.agg x.cells.toArray, .agg y.cells.toArray] w fun e w' => e = .returned (.int .i64 (cmpRd x y)) ∧ ∃ q os', w' = grow (w.drewN q) os' := by
  obtain ⟨x0, x1, x2, x3, x4⟩ := x
  obtain ⟨y0, y1, y2, y3, y4⟩ := y
  have HC := Lib.hid (show cmpRd ⟨x0, x1, x2, x3, x4⟩ ⟨y0, y1, y2, y3, y4⟩ = orL [cmpI x1 y1, cmpI x2 y2, cmpI x3 y3, cmpI x0 y0] from rfl)
  show Calls _ _ #[.agg #[.int .i64 x0, .int .i64 x1, .int .i64 x2, .int .i64 x3, .string x4], .agg #[.int .i64 y0, .int .i64 y1, .int .i64 y2, .int .i64 y3, .string y4]] _ _
  go_enter Tryz.func77, Tryz.ntmps77
  go_wp2_with fail
  have hx := heap_one w (.cells #[.int .i64 x0, .int .i64 x1, .int .i64 x2, .int .i64 x3, .string x4] 99) (.cells #[.int .i64 y0, .int .i64 y1, .int .i64 y2, .int .i64 y3, .string y4] 99)
  have hy := heap_two w (.cells #[.int .i64 x0, .int .i64 x1, .int .i64 x2, .int .i64 x3, .string x4] 99) (.cells #[.int .i64 y0, .int .i64 y1, .int .i64 y2, .int .i64 y3, .string y4] 99)
  generalize hW : (w.alloc (.cells #[.int .i64 x0, .int .i64 x1, .int .i64 x2, .int .i64 x3, .string x4] 99)).alloc (.cells #[.int .i64 y0, .int .i64 y1, .int .i64 y2, .int .i64 y3, .string y4] 99) = W at *
  have HW := Lib.hid hW
  have xc0 := cell_of hx 0 _ rfl
  have xc1 := cell_of hx 1 _ rfl
  have xc2 := cell_of hx 2 _ rfl
  have xc3 := cell_of hx 3 _ rfl
  have yc0 := cell_of hy 0 _ rfl
  have yc1 := cell_of hy 1 _ rfl
  have yc2 := cell_of hy 2 _ rfl
  have yc3 := cell_of hy 3 _ rfl
  have hl1 := lt_of_heap hx
  have hl2 := lt_of_heap hy
  clear hx hy hW
  refine wp_region_still_tail 20 (by kernel_rfl) (by kernel_rfl) ?_
  simp only [List.take_succ_cons, List.take_zero, List.drop_succ_cons, List.drop_zero]
  repeat still_step
  still_call (cmp_any _ _ _)
  repeat still_step
  still_call (cmp_any _ _ _)
  repeat still_step
  still_call (cmp_any _ _ _)
  repeat still_step
  still_call (cmp_any _ _ _)
  repeat still_step
  refine wpStill_nil ?_
  generalize cmpI x1 y1 = c1 at *
  generalize cmpI x2 y2 = c2 at *
  generalize cmpI x3 y3 = c3 at *
  generalize cmpI x0 y0 = c4 at *
  go_wp2_with fail
  refine (or_any (some ⟨W.heap.size, 0, none⟩) 4 [c1, c2, c3, c4] _ (fun _ => ⟨W.heap.size, 0, rfl, by simp, fun k z hz => ?_⟩) (by unfold maxLen; simp)).mono ?_
  · rw [show ∀ (X : World) (a : Addr), X.drew.cell? a = X.cell? a from fun _ _ => rfl, Nat.zero_add, Lib.cell_of_heap (heap_alloc_new W _)]
    match k, hz with
    | 0, hz => cases hz; rfl
    | 1, hz => cases hz; rfl
    | 2, hz => cases hz; rfl
    | 3, hz => cases hz; rfl
    | k + 4, hz => simp at hz
  · rintro e w1 ⟨rfl, rfl⟩
    go_wp2_with fail
    go_ret
    refine ⟨by rw [HC.out]; rfl, 1, #[.cells #[.int .i64 x0, .int .i64 x1, .int .i64 x2, .int .i64 x3, .string x4] 99] ++ #[.cells #[.int .i64 y0, .int .i64 y1, .int .i64 y2, .int .i64 y3, .string y4] 99] ++ #[.cells #[.int .i64 c1, .int .i64 c2, .int .i64 c3, .int .i64 c4] 3], ?_⟩
    rw [← HW.out, alloc_eq_grow, alloc_eq_grow, alloc_eq_grow, grow_grow, grow_grow]
    rfl
def StbPost (w : World) (g cap n : Nat) (ds : List Dg) (e : Ending) (w' : World) : Prop :=
  e = .returned (.tuple #[]) ∧ w'.ownsRow 0 99 5 (.slice (some ⟨g, 0, none⟩) n cap) n (ds.flatMap Dg.cells) ∧ (w'.os = w.os ∧ w'.tape = w.tape ∧ w'.output = w.output) ∧ w.heap.size ≤ w'.heap.size ∧ ∀ b, b < w.heap.size → b ≠ g → w'.heap[b]? = w.heap[b]?
theorem ins_any (w : World) (g cap n : Nat) (ds ds' : List Dg) (hl : ds.length = n) (hl' : ds'.length = n) (hb : n ≤ 1000000) (hs : (Sort.insertionSort (ltOf cmpRd) ds.toArray 0 n) = ds'.toArray) (row : w.ownsRow 0 99 5 (.slice (some ⟨g, 0, none⟩) n cap) n (ds.flatMap Dg.cells)) :
    Calls Tryz.prog 146 #[.slice (some ⟨g, 0, none⟩) n cap, .int .i64 0, .int .i64 (n : Int), .func (.func 77) #[] #[]] w (StbPost w g cap n ds') := by
  have eg : ∀ args w, (callFunc 77 args).run Tryz.prog w = .ok (.enter 77 args) w := enters_of Tryz.func77 (by kernel_rfl) rfl
  have hcmp : CmpLays Tryz.prog 77 #[] Dg.cells 5 cmpRd g 0 ds.toArray.size w := fun _ _ _ _ x y => cmpRd_any x y _
  have hglt := (row.lt g rfl).2
  have hcon := AnyQ.insertionSortCmpFunc { Tryz.sortDg with } 5 Tryz.isAgg99 Tryz.sizeOf99 Dg.cells (fun _ => rfl) (fun x v hv => by simp [Dg.cells] at hv; rcases hv with rfl | rfl | rfl | rfl | rfl <;> rfl) cmpRd 77 #[] g 0 cap 0 n ds.toArray w eg hcmp (holdsK_own Dg.cells_len hl row) hglt (Nat.zero_le _) (by simp only [List.size_toArray, hl]; exact Nat.le_refl _) (by simp only [List.size_toArray, hl]; omega)
  simp only [List.size_toArray, hl, hs] at hcon
  refine Calls.mono (show Calls Tryz.prog 146 _ _ _ from hcon) ?_
  rintro e w' ⟨rfl, m, os, hw⟩
  exact ⟨rfl, own_sorted Dg.cells_len hl hl' row m os hw⟩
theorem stab_small (w : World) (g cap n : Nat) (ds' : List Dg) (hn : n < 20)
    (hi : Calls Tryz.prog 146 #[.slice (some ⟨g, 0, none⟩) n cap, .int .i64 0, .int .i64 (n : Int), .func (.func 77) #[] #[]] w (StbPost w g cap n ds')) :
    Calls Tryz.prog 76 #[.slice (some ⟨g, 0, none⟩) n cap, .func (.func 77) #[] #[]] w (StbPost w g cap n ds') := by
  have HI := Lib.hid hi
  have h1 : ¬ (20 : Int) ≤ n := by omega
  have h2 : ¬ (20 : Int) < n := by omega
  have HP := Lib.hid (show ∀ e w', StbPost w g cap n ds' e w' → e = .returned (.tuple #[]) from fun e w' h => h.1)
  clear hi
  have hst : Calls Tryz.prog 125 #[.slice (some ⟨g, 0, none⟩) n cap, .int .i64 (n : Int), .func (.func 77) #[] #[]] w (StbPost w g cap n ds') := by
    go_enter Tryz.func125, Tryz.ntmps125
    go_wp2_with fail
    go_loopw [7, 8] (fun a b wr => a = .int .i64 0 ∧ b = .int .i64 20 ∧ wr = w) (fun _ _ _ => 0)
    case atStart => exact ⟨rfl, rfl, rfl⟩
    case round =>
      obtain ⟨rfl, rfl, hwr⟩ := hrel
      subst hwr
      go_wp2_with fail
      refine HI.out.mono ?_
      intro e w1 hp
      obtain rfl := HP.out _ _ hp
      have HH := Lib.hid hp
      clear hp
      go_wp2_with fail
      go_loopw [6] (fun a wx => a = .int .i64 20 ∧ wx = w1) (fun _ _ => 0)
      case atStart => exact ⟨rfl, rfl⟩
      case round =>
        obtain ⟨rfl, hwx⟩ := hrel
        subst hwx
        go_wp2_with fail
        go_end0
        exact HH.out
  have HS := Lib.hid hst
  clear hst
  go_enter Tryz.func76, Tryz.ntmps76
  go_wp2_with fail
  refine HS.out.mono ?_
  intro e w1 hp
  obtain rfl := HP.out _ _ hp
  have HH := Lib.hid hp
  clear hp
  go_wp2_with fail
  go_end0
  exact HH.out
end Go.Proofs.YtpibenilagloaaaGreatDoor
