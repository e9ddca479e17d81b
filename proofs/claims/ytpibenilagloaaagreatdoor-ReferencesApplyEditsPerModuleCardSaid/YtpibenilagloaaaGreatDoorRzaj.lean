import Derived.Test.YtpibenilagloaaaGreatDoorRzai
import Derived.Deep.RegionLaw
import Derived.Deep.RegionHeld3
import Derived.Deep.DeepCutAuto
namespace Go.Proofs.YtpibenilagloaaaGreatDoor
open Go.RowKit Go.Maps
set_option linter.unusedVariables false
def dgA : Dg := ⟨203, 0, 0, 0, .empty⟩
def dgB : Dg := ⟨202, 0, 20, 21, ⟨#[102]⟩⟩
def ChcPost (w : World) (e : Ending) (w' : World) : Prop := ∃ A c, e = .returned (.tuple #[.slice A 2 c, .int .i64 0]) ∧ dgD.At w' (Nw w w') A [dgA, dgB] ∧ Below w.heap.size w w'
theorem dg_sorted : (Sort.insertionSort (ltOf cmpRd) [dgA, dgB].toArray 0 2) = [dgA, dgB].toArray := by kernel_rfl
set_option maxRecDepth 100000 in
set_option maxHeartbeats 4000000 in
theorem chb2 (x : Mdl) (es : List FEd) (ss ss2 : List Sym) (K : ChkOk x es ss ss2) (mb mo mc c m3 : Nat) (A : Option Addr) (w : World) (hA : AscAt w) (hb : mb < w.heap.size) (hc : ∀ i v, (mdC x)[i]? = some v → w.cell? ⟨mb, mo + i, none⟩ = some v) (hmc : 1 ≤ mc)
    (he : feD.At w (Lt w) A es) (hl : es.length ≤ 1000) (hsh : FShort es)
    (hsz : x.src.size ≤ 2000) (h21 : 21 ≤ x.src.size) (hid : idLen x.src 20 = 1) (hex : x.src.extract 20 21 = ⟨#[102]⟩)
    (hr1 : ∀ w', Below w.heap.size w w' → Calls Tryz.prog 38 #[.slice (some ⟨mb, mo, none⟩) 1 mc] w' (ResQ ss [⟨0, 20, 5⟩] 0 w'))
    (hr2 : ∀ w' b o c', Below w.heap.size w w' → b < w'.heap.size → (∀ i v, (mdC (newM es 0 x))[i]? = some v → w'.cell? ⟨b, o + i, none⟩ = some v) → Calls Tryz.prog 38 #[.slice (some ⟨b, o, none⟩) 1 c'] w' (ResQ ss2 [⟨0, 20, -1⟩] 1 w')) :
    Calls Tryz.prog 39 #[.slice (some ⟨mb, mo, none⟩) 1 mc, .slice A es.length c, .slice none 0 m3] w (ChcPost w) := by
  have HCP := Lib.hid (show ∀ e w', ChcPost w e w' = (∃ A c, e = .returned (.tuple #[.slice A 2 c, .int .i64 0]) ∧ dgD.At w' (Nw w w') A [dgA, dgB] ∧ Below w.heap.size w w') from fun _ _ => rfl)
  have HID := Lib.hid (fun W => (show Calls Tryz.prog 20 #[.string x.src, .int .i64 20] W (fun e w' => e = .returned (.int .i64 1) ∧ w' = W) from (identLen_any x.src 20 W (by omega) hsz).mono fun e w' ⟨h1, h2⟩ => ⟨by rw [h1, hid]; rfl, h2⟩))
  have h21I : (21 : Int) ≤ x.src.size := by omega
  have hszM : x.src.size ≤ 2000 := hsz
  have HEX := Lib.hid hex
  have HSRC := Lib.hid (hc 1 _ rfl)
  obtain ⟨i0, hi0, hz0, hz1, hz2⟩ := info_parts info_dg
  obtain ⟨kl, hkl⟩ := keyLoc
  have hklw := lawLoc.key hkl
  have hmd : mdD.At w (Lt w) (some ⟨mb, mo, none⟩) [x] := flat_at5 [x] mb mo hb fun i y hi j u hu => by
    match i, hi with
    | 0, hi => simp at hi; subst hi; rw [Nat.zero_mul, Nat.add_zero]; exact hc j u hu
    | i + 1, hi => simp at hi
  have HAE := Lib.hid (applyEdits_any es [x] (some ⟨mb, mo, none⟩) A mc c w hA hmd hmc (by show 1 * 32 ≤ _; omega) he (by omega) hsh)
  have HPO := Lib.hid (show ∀ e w', AeePost es [x] w e w' → (∃ ob oo cO, e = .returned (.tuple #[.slice (some ⟨ob, oo, none⟩) 1 cO, .int .i64 0]) ∧ ob < w'.heap.size ∧ (∀ i v, (mdC (newM es 0 x))[i]? = some v → w'.cell? ⟨ob, oo + i, none⟩ = some v)) ∧ Below w.heap.size w w' from fun e w' h => by
    obtain ⟨h1, h2⟩ := h
    refine ⟨?_, h2⟩
    rcases h1 with ⟨h1, _⟩ | ⟨_, AO, cO, rfl, hat, _⟩
    · rw [K.ok] at h1; cases h1
    · obtain ⟨ob, oo, rfl, hob, hoc⟩ := flat_get hat 0 (newM es 0 x) rfl
      exact ⟨ob, oo, cO, rfl, hob.2, fun i v hi => by have := hoc i v hi; rwa [Nat.zero_mul, Nat.add_zero] at this⟩)
  have HR1 := Lib.hid hr1
  have HR2 := Lib.hid hr2
  have HNP := Lib.hid (fun w' (hb : Below w.heap.size w w') => newPos_any es A c m3 0 20 w' (he.keep (F' := Lt w') (fun b hb' => Nat.lt_of_lt_of_le hb' hb.size) (fun b hb' => hb.block b hb')) (by omega))
  have HN2 := Lib.hid (show ∀ w1 e w', NpoPost es 0 20 w1 e w' → e = .returned (.tuple #[.int .i64 0, .int .i64 20, .bool true]) ∧ Below w1.heap.size w1 w' from fun w1 e w' h => by unfold NpoPost at h; rw [K.n20] at h; exact h)
  obtain ⟨y, hy, hy1, hy2, hy3⟩ := K.y5
  have HCO := Lib.hid (fun w' SA SB RA RB DA DB sc sc2 rc dc rc2 dc2 (hb : Below w.heap.size w w') (h1 : syD.At w' (Lt w') SA ss) (h2 : syD.At w' (Lt w') SB ss2) => corr_any ss ss2 es 5 y 0 3 SA SB RA RB DA DB A sc sc2 1 rc 0 dc 1 rc2 1 dc2 c m3 w' h1 h2 K.p2 (by have := K.l2; omega) (he.keep (F' := Lt w') (fun b hb' => Nat.lt_of_lt_of_le hb' hb.size) (fun b hb' => hb.block b hb')) (by omega) hy (by rw [hy1]; decide) (by rw [hy1]; decide) (by rw [hy2, hy3]; exact K.n3))
  rw [K.co] at HCO
  have HVI := Lib.hid (fun w' => viol_any true 5 (-1) 5 w')
  have ev : violL true 5 (-1) 5 = 202 := by rfl
  rw [ev] at HVI
  have HKL := Lib.hid hkl
  have HKW := Lib.hid hklw
  obtain ⟨ne, hne⟩ : ∃ ne, es.length = ne := ⟨_, rfl⟩
  obtain ⟨ns, hns⟩ : ∃ ns, ss.length = ns := ⟨_, rfl⟩
  obtain ⟨n2, hn2⟩ : ∃ n2, ss2.length = n2 := ⟨_, rfl⟩
  have HNS := Lib.hid hns
  have HNS2 := Lib.hid hn2
  rw [hne] at HAE HNP HCO
  rw [hns, hn2] at HCO
  rw [hne]
  clear K hA hc hmc he hl hsh hsz hid hex hr1 hr2 hmd hy hy1 hy2 hy3 hkl hklw ev hne hns hn2
  go_enter Tryz.func39, Tryz.ntmps39
  go_wp2_with fail
  refine HAE.out.mono ?_
  intro e w1 hpo
  obtain ⟨⟨ob, oo, cO, rfl, hob, hoc⟩, hb1⟩ := HPO.out _ _ hpo
  have HB1 := Lib.hid hb1
  have H1 := Lib.hid (HR1.out w1 hb1)
  have HOC := Lib.hid hoc
  clear hpo hb1 hoc HAE
  go_wp2_with fail
  refine H1.out.mono ?_
  rintro e w2 ⟨SA, sc, RA, rc, DA, dc, rfl, hsy, hrf, hb2⟩
  rw [HNS.out]
  simp only [List.length_cons, List.length_nil, Nat.zero_add]
  have h12 := hb2.size
  obtain ⟨W3, hW3⟩ : ∃ W3, w2.alloc (.cells #[.slice SA ns sc, .slice RA 1 rc, .slice DA 0 dc] 85) = W3 := ⟨_, rfl⟩
  have hb3 : Below w2.heap.size w2 W3 := by rw [← hW3]; exact (Below.refl _ _).alloc (Nat.le_refl _) _
  have hx3 : W3.heap[w2.heap.size]? = some (.cells #[.slice SA ns sc, .slice RA 1 rc, .slice DA 0 dc] 85 (0, 0)) := by rw [← hW3]; exact heap_alloc_new w2 _
  have hb13 := hb2.trans (hb3.mono h12)
  have hbw3 := HB1.out.trans (hb13.mono HB1.out.size)
  have H2 := Lib.hid (HR2.out W3 ob oo cO hbw3 (Nat.lt_of_lt_of_le hob hb13.size) (fun i v hi => (hb13.cell (p := ⟨ob, _, none⟩) hob).trans (HOC.out i v hi)))
  have HBW3 := Lib.hid hbw3
  have HS3 := Lib.hid (hsy.keep (F' := Lt W3) (fun b hb => Nat.lt_of_lt_of_le hb hb3.size) (fun b hb => hb3.block b hb))
  have HR3 := Lib.hid (hrf.keep (F' := Lt W3) (fun b hb => Nat.lt_of_lt_of_le hb hb3.size) (fun b hb => hb3.block b hb))
  have HX3 := Lib.hid hx3
  have l3 := lt_of_heap hx3
  clear hsy hrf hb2 hb3 hx3 hb13 hbw3 H1 hob
  go_wp2_with fail
  clear hW3
  refine H2.out.mono ?_
  rintro e w4 ⟨SB, sc2, RB, rc2, DB, dc2, rfl, hsy2, hrf2, hb4⟩
  rw [HNS2.out]
  simp only [List.length_cons, List.length_nil, Nat.zero_add]
  have h34 := hb4.size
  obtain ⟨W5, hW5⟩ : ∃ W5, w4.alloc (.cells #[.slice SB n2 sc2, .slice RB 1 rc2, .slice DB 1 dc2] 85) = W5 := ⟨_, rfl⟩
  have hb5 : Below w4.heap.size w4 W5 := by rw [← hW5]; exact (Below.refl _ _).alloc (Nat.le_refl _) _
  have hx5 : W5.heap[w4.heap.size]? = some (.cells #[.slice SB n2 sc2, .slice RB 1 rc2, .slice DB 1 dc2] 85 (0, 0)) := by rw [← hW5]; exact heap_alloc_new w4 _
  obtain ⟨W6, hW6⟩ : ∃ W6, W5.alloc (.map #[] 0) = W6 := ⟨_, rfl⟩
  have hb6 : Below W5.heap.size W5 W6 := by rw [← hW6]; exact (Below.refl _ _).alloc (Nat.le_refl _) _
  have ho6 : W6.ownsMap Tryz.prog 163 (plainElem (H := Unit) Tryz.prog 3) W5.heap.size 0 (.map []) := by rw [← hW6]; exact World.ownsMap_made (H := Unit) W5 Tryz.prog 163 (plainElem Tryz.prog 3)
  have hb46 := hb5.trans (hb6.mono hb5.size)
  have hb36 := hb4.trans (hb46.mono h34)
  have hx6 := (hb6.block _ (lt_of_heap hx5)).trans hx5
  have hx36 := (hb36.block _ l3).trans HX3.out
  obtain ⟨ub, uo, rfl, hub, huc⟩ := flat_get hrf2 0 _ rfl
  obtain ⟨rb, ro, rfl, hrb, hrc⟩ := flat_get HR3.out 0 _ rfl
  have HOM := Lib.hid ho6
  have HB6 := Lib.hid (HBW3.out.trans (hb36.mono HBW3.out.size))
  have HX6 := Lib.hid hx6
  have HX36 := Lib.hid hx36
  have s45 : w4.heap.size < W5.heap.size := lt_of_heap hx5
  have HS6 := Lib.hid (HS3.out.keep (w' := W6) (F' := fun b => b < W5.heap.size) (fun b hb => by have h : b < W3.heap.size := hb; omega) (fun b hb => hb36.block b hb))
  have HT6 := Lib.hid (hsy2.keep (w' := W6) (F' := fun b => b < W5.heap.size) (fun b hb => by have h : b < w4.heap.size := hb; omega) (fun b hb => hb46.block b hb))
  have u0 := (hb46.cell (p := ⟨ub, _, none⟩) hub).trans (huc 0 _ rfl)
  have u1 := (hb46.cell (p := ⟨ub, _, none⟩) hub).trans (huc 1 _ rfl)
  have u2 := (hb46.cell (p := ⟨ub, _, none⟩) hub).trans (huc 2 _ rfl)
  have q0 := (hb36.cell (p := ⟨rb, _, none⟩) hrb).trans (hrc 0 _ rfl)
  have q1 := (hb36.cell (p := ⟨rb, _, none⟩) hrb).trans (hrc 1 _ rfl)
  have q2 := (hb36.cell (p := ⟨rb, _, none⟩) hrb).trans (hrc 2 _ rfl)
  simp only [Nat.zero_mul, Nat.add_zero] at u0 u1 u2 q0 q1 q2
  have c61 := cell_of hx6 1 _ rfl
  have c62 := cell_of hx6 2 _ rfl
  have c31 := cell_of hx36 1 _ rfl
  have c32 := cell_of hx36 2 _ rfl
  have lub : ub < W6.heap.size := Nat.lt_of_lt_of_le hub hb46.size
  have lrb : rb < W6.heap.size := Nat.lt_of_lt_of_le hrb hb36.size
  have l6 := lt_of_heap hx6
  have l36 := lt_of_heap hx36
  have s56 : W5.heap.size < W6.heap.size := ho6.lt
  have hub5 : ub < W5.heap.size := by have h : ub < w4.heap.size := hub; omega
  have hrb5 : rb < W5.heap.size := by have h : rb < W3.heap.size := hrb; omega
  have l35 : w2.heap.size < W5.heap.size := by omega
  have hmm := @run_makeMap Tryz.prog
  clear hsy2 hrf2 hb4 hb5 hb6 hx5 hb46 hb36 hx6 hx36 H2 huc hrc hub hrb
  go_wp2_with fail
  clear hW5 hW6 hmm
  have hkey := HKL.out
  have hw5 : (Lit.int .i64 (-1)).wf = true := by decide
  have HAT := Lib.hid (show ∀ z, (DataW.put (H := Unit) (.map []) kl (.lit (.int .i64 (-1)))).atKey kl z = .lit (.int .i64 (-1)) from fun z => atKey_put_same isMap_empty HKW.out _ z)
  have HHAS := Lib.hid (show Maps.has (DataW.put (H := Unit) (.map []) kl (.lit (.int .i64 (-1)))) kl = true from has_put_same isMap_empty HKW.out _)
  obtain ⟨D1, hD1⟩ : ∃ D1, DataW.put (H := Unit) (.map []) kl (.lit (.int .i64 (-1))) = D1 := ⟨_, rfl⟩
  rw [hD1] at HAT HHAS
  have HD1 := Lib.hid hD1
  clear hD1
  go_loopw [51] (fun i wr => (i = .int .i64 0 ∧ wr = W6) ∨ (i = .int .i64 1 ∧ wr.ownsMap Tryz.prog 163 (plainElem (H := Unit) Tryz.prog 3) W5.heap.size 1 D1 ∧ Below W5.heap.size W6 wr)) (fun i _ => 1 - (intOf i).toNat)
  case atStart => exact .inl ⟨rfl, rfl⟩
  case round =>
    rcases hrel with ⟨rfl, rfl⟩ | ⟨rfl, hom, hbm⟩
    · obtain ⟨W7, hW7⟩ : ∃ W7, wr.alloc (.cells #[.int .i64 0, .int .i64 20, .int .i64 (-1)] 117) = W7 := ⟨_, rfl⟩
      have hx7 : W7.heap[wr.heap.size]? = some (.cells #[.int .i64 0, .int .i64 20, .int .i64 (-1)] 117 (0, 0)) := by rw [← hW7]; exact heap_alloc_new wr _
      have hb7 : Below W5.heap.size wr W7 := by rw [← hW7]; exact (Below.refl _ _).alloc (by omega) _
      have hown7 : W7.ownsMap Tryz.prog 163 (plainElem (H := Unit) Tryz.prog 3) W5.heap.size 0 (.map []) := by rw [← hW7]; exact HOM.out.alloc _
      have e0 := cell_of hx7 0 _ rfl
      have e1 := cell_of hx7 1 _ rfl
      have e2 := cell_of hx7 2 _ rfl
      have l7 := lt_of_heap hx7
      have HB7 := Lib.hid hb7
      clear hx7 hb7
      go_wp2_with (at_mapUpdate; refine wpList_mapUpdate_own _ rfl _ _ _ 161 rfl 163 3 lawLoc Tryz.underlying161 _ W5.heap.size 0 _ rfl hown7 (by unfold maxLen; omega) _ _ _ rfl rfl hkey _ [] (plainElem_int Tryz.underlying3 hw5) ?_; intro w8 hown8 hgrow8)
      have hown8' : w8.ownsMap Tryz.prog 163 (plainElem (H := Unit) Tryz.prog 3) W5.heap.size 1 D1 := by rw [← HD1.out]; exact hown8
      have H8 := Lib.hid hown8'
      have HB8 := Lib.hid (HB7.out.grown hgrow8 (by have := HB7.out.size; omega) (fun q hq => by injection hq with hq; omega))
      clear hown7 hown8 hown8' hgrow8 hW7 e0 e1 e2
      go_wp2_with fail
      go_roundw
      case rel => exact .inr ⟨rfl, H8.out, HB8.out⟩
      case measure => simp [intOf]
    · have HOM1 := Lib.hid hom
      have HBM := Lib.hid hbm
      obtain ⟨wo, hwo⟩ : ∃ wo : World, wo = wr := ⟨_, rfl⟩
      subst hwo
      have y10a := (hbm.block _ l35).trans HX36.out
      have y12a := (hbm.block _ s45).trans HX6.out
      have k2a := cell_of y10a 2 _ rfl
      have k3a := cell_of y12a 2 _ rfl
      have ly10a := lt_of_heap y10a
      have ly12a := lt_of_heap y12a
      have hw5a : w.heap.size ≤ W5.heap.size := by have := HBW3.out.size; omega
      have hsoa := hbm.size
      have hwo : w.heap.size ≤ wo.heap.size := by omega
      have hin : ∀ u ∈ ([.int .i64 203, .int .i64 0, .int .i64 0, .int .i64 0, .string .empty] : List Value), u.oneCell' = true := by simp [Value.oneCell']
      have hnil : wo.ownsRow w.heap.size 99 5 (.slice none 0 0) 0 [] := World.ownsRow_nil _ _ _ _
      have hkl1 : 0 + 1 ≤ maxLen := by unfold maxLen; omega
      clear y10a y12a
      go_wp2_with (at_builtin; refine wpList_append_litH rfl (.tmp 71) (.tmp 73) _ rfl w.heap.size 99 _ 5 48 Tryz.underlying58 info_dg rfl (by decide) _ _ _ rfl hnil 1 1 wo.heap.size rfl [.int .i64 203, .int .i64 0, .int .i64 0, .int .i64 0, .string .empty] rfl rfl hin hkl1 (by omega) hwo ?_)
      intro v1 wp hownp hgp hatp
      have hbp : Below wo.heap.size wo wp := ⟨hgp.os, hgp.tape, hgp.output, hgp.size, fun i hi => hgp.block i hi (by simp [Value.ownBlock])⟩
      obtain ⟨A1, c1, rfl⟩ := own_slice hownp
      have HOWP := Lib.hid hownp
      have HBP := Lib.hid hbp
      have hmapp := ownsMap_below5 HOM1.out hbp
      have hbm := hbm.trans (hbp.mono (by omega))
      clear HOM1
      have HOM1 := Lib.hid hmapp
      clear hmapp hgp hatp k2a k3a ly10a ly12a hbp
      have y10 := (hbm.block _ l35).trans HX36.out
      have y12 := (hbm.block _ s45).trans HX6.out
      have p0 := (hbm.cell (p := ⟨rb, ro, none⟩) hrb5).trans q0
      have p1 := (hbm.cell (p := ⟨rb, ro + 1, none⟩) hrb5).trans q1
      have p2 := (hbm.cell (p := ⟨rb, ro + 2, none⟩) hrb5).trans q2
      have k1 := cell_of y10 1 _ rfl
      have k2 := cell_of y10 2 _ rfl
      have k3 := cell_of y12 2 _ rfl
      have hso := hbm.size
      have ly10 := lt_of_heap y10
      have ly12 := lt_of_heap y12
      have lrbo : rb < wp.heap.size := by omega
      have HY10 := Lib.hid y10
      have HY12 := Lib.hid y12
      have HSo := Lib.hid (HS6.out.keep (F' := Lt wp) (fun b (hb : b < W5.heap.size) => (show b < wp.heap.size by omega)) (fun b hb => hbm.block b hb))
      have HTo := Lib.hid (HT6.out.keep (F' := Lt wp) (fun b (hb : b < W5.heap.size) => (show b < wp.heap.size by omega)) (fun b hb => hbm.block b hb))
      have hw5 : w.heap.size ≤ W5.heap.size := hw5a
      have HBO := Lib.hid (HB6.out.trans (hbm.mono hw5))
      clear hom hbm y10 y12 q0 q1 q2 u0 u1 u2 c61 c62 c31 c32 HOM HB6 HX6 HX36 HS6 HT6
      go_wp2_with fail
      go_loopw [17, 78] (fun v i wr => (v = .slice A1 (0 + 1) c1 ∧ i = .int .i64 0 ∧ wr = wp) ∨ (i = .int .i64 1 ∧ (∃ A2 c2, v = .slice A2 2 c2) ∧ wr.ownsRow w.heap.size 99 5 v 2 ([dgA, dgB].flatMap Dg.cells) ∧ Below w.heap.size w wr)) (fun _ i _ => 1 - (intOf i).toNat)
      case atStart => exact .inl ⟨rfl, rfl, rfl⟩
      case round =>
        rcases hrel with ⟨rfl, rfl, rfl⟩ | ⟨rfl, ⟨A2, c2, rfl⟩, hown2, hb9⟩
        · obtain ⟨W9, hW9⟩ : ∃ W9, wr.alloc (.cells #[.int .i64 0, .int .i64 20, .int .i64 5] 117) = W9 := ⟨_, rfl⟩
          have hx9 : W9.heap[wr.heap.size]? = some (.cells #[.int .i64 0, .int .i64 20, .int .i64 5] 117 (0, 0)) := by rw [← hW9]; exact heap_alloc_new wr _
          have hb9 : Below wr.heap.size wr W9 := by rw [← hW9]; exact (Below.refl _ _).alloc (Nat.le_refl _) _
          have e0 := cell_of hx9 0 _ rfl
          have e1 := cell_of hx9 1 _ rfl
          have e2 := cell_of hx9 2 _ rfl
          have l9 := lt_of_heap hx9
          have HB9 := Lib.hid hb9
          have HX9 := Lib.hid hx9
          have HN9 := Lib.hid (HNP.out W9 (HBO.out.trans (hb9.mono HBO.out.size)))
          clear hx9 hb9
          go_wp2_with fail
          refine HN9.out.mono ?_
          intro e w10 hnp
          obtain ⟨rfl, hb10⟩ := HN2.out _ _ _ hnp
          have hb90 := HB9.out.trans (hb10.mono HB9.out.size)
          have hmap := ownsMap_below5 HOM1.out hb90
          have x10 := (hb10.block _ l9).trans HX9.out
          have y10 := (hb90.block _ (lt_of_heap HY10.out)).trans HY10.out
          have y12 := (hb90.block _ (lt_of_heap HY12.out)).trans HY12.out
          have s2 := cell_of x10 2 _ rfl
          have t0 := cell_of y10 0 _ rfl
          have t1 := cell_of y10 1 _ rfl
          have t2 := cell_of y10 2 _ rfl
          have v0 := cell_of y12 0 _ rfl
          have v1 := cell_of y12 1 _ rfl
          have v2 := cell_of y12 2 _ rfl
          have m1 := lt_of_heap x10
          have m2 := lt_of_heap y10
          have m3' := lt_of_heap y12
          have HB90 := Lib.hid hb90
          have HX10 := Lib.hid x10
          have HZ10 := Lib.hid y10
          have HZ12 := Lib.hid y12
          have HC10 := Lib.hid (fun W RA RB DA DB sc sc2 rc dc rc2 dc2 (hb : Below w10.heap.size w10 W) => HCO.out W SA SB RA RB DA DB sc sc2 rc dc rc2 dc2 (HBO.out.trans ((hb90.trans (hb.mono hb90.size)).mono HBO.out.size)) (HSo.out.keep (F' := Lt W) (fun b (hb' : b < wr.heap.size) => (show b < W.heap.size from Nat.lt_of_lt_of_le (Nat.lt_of_lt_of_le hb' hb90.size) hb.size)) (fun b hb' => (hb.block b (Nat.lt_of_lt_of_le hb' hb90.size)).trans (hb90.block b hb'))) (HTo.out.keep (F' := Lt W) (fun b (hb' : b < wr.heap.size) => (show b < W.heap.size from Nat.lt_of_lt_of_le (Nat.lt_of_lt_of_le hb' hb90.size) hb.size)) (fun b hb' => (hb.block b (Nat.lt_of_lt_of_le hb' hb90.size)).trans (hb90.block b hb'))))
          clear hb10 hb90 x10 y10 y12 hnp HN9 hW9 e0 e1 e2 p0 p1 p2 k1 k2 k3
          go_wp2_with (at_lookup; refine wpList_lookup_own_ok_int _ rfl _ _ 161 rfl 163 3 .i64 lawLoc Tryz.underlying161 Tryz.underlying3 (zeroLoc _) W5.heap.size 1 _ rfl hmap _ _ rfl hkey ?_; intro cq hat hwc; have hcq : (-1 : Int) = cq := (by rw [HAT.out] at hat; injection hat with hat; injection hat); subst hcq; rw [HHAS.out])
          have HSW := Lib.hid (show ∀ u, Below w10.heap.size w10 u → (fun u : World => u.cell? ⟨wr.heap.size, 2, none⟩ = some (.int .i64 5) ∧ u.cell? ⟨w2.heap.size, 0, none⟩ = some (.slice SA ns sc) ∧ u.cell? ⟨w2.heap.size, 1, none⟩ = some (.slice (some ⟨rb, ro, none⟩) 1 rc) ∧ u.cell? ⟨w2.heap.size, 2, none⟩ = some (.slice DA 0 dc) ∧ u.cell? ⟨w4.heap.size, 0, none⟩ = some (.slice SB n2 sc2) ∧ u.cell? ⟨w4.heap.size, 1, none⟩ = some (.slice (some ⟨ub, uo, none⟩) 1 rc2) ∧ u.cell? ⟨w4.heap.size, 2, none⟩ = some (.slice DB 1 dc2)) u from fun u hu => ⟨cell_of ((hu.block _ m1).trans HX10.out) 2 _ rfl, cell_of ((hu.block _ m2).trans HZ10.out) 0 _ rfl, cell_of ((hu.block _ m2).trans HZ10.out) 1 _ rfl, cell_of ((hu.block _ m2).trans HZ10.out) 2 _ rfl, cell_of ((hu.block _ m3').trans HZ12.out) 0 _ rfl, cell_of ((hu.block _ m3').trans HZ12.out) 1 _ rfl, cell_of ((hu.block _ m3').trans HZ12.out) 2 _ rfl⟩)
          go_region_held3 (fun u : World => u.cell? ⟨wr.heap.size, 2, none⟩ = some (.int .i64 5) ∧ u.cell? ⟨w2.heap.size, 0, none⟩ = some (.slice SA ns sc) ∧ u.cell? ⟨w2.heap.size, 1, none⟩ = some (.slice (some ⟨rb, ro, none⟩) 1 rc) ∧ u.cell? ⟨w2.heap.size, 2, none⟩ = some (.slice DA 0 dc) ∧ u.cell? ⟨w4.heap.size, 0, none⟩ = some (.slice SB n2 sc2) ∧ u.cell? ⟨w4.heap.size, 1, none⟩ = some (.slice (some ⟨ub, uo, none⟩) 1 rc2) ∧ u.cell? ⟨w4.heap.size, 2, none⟩ = some (.slice DB 1 dc2)) (first | go_keep | trivial | (exact HSW.out _ B11.out)) ((first
            | (go_at_call 75; refine (HC10.out _ _ _ _ _ _ _ _ _ _ _ (below_drewN (Below.refl _ _) _)).mono ?_; rintro e w11 ⟨rfl, hb11⟩; have B11 : Hid (Below w10.heap.size w10 w11) := Lib.hid ((below_drewN (Below.refl _ _) _).trans hb11))
            | (go_at_call 74; refine (HVI.out _).mono ?_; rintro e w12 ⟨rfl, rfl⟩)))
          · have hb112 := HB90.out.trans (B11.out.mono HB90.out.size)
            have HB12 := Lib.hid hb112
            have x12 := (B11.out.block _ m1).trans HX10.out
            have g0 := cell_of x12 0 _ rfl
            have g1 := cell_of x12 1 _ rfl
            have g2 := cell_of x12 2 _ rfl
            have gl := lt_of_heap x12
            have hww : Below w.heap.size w wr := HBO.out
            have hw12 := hww.trans (hb112.mono hww.size)
            have HW12 := Lib.hid hw12
            have gs : w12.cell? ⟨mb, mo + 1, none⟩ = some (.string x.src) := (hw12.cell (p := ⟨mb, _, none⟩) hb).trans HSRC.out
            have gm : mb < w12.heap.size := Nat.lt_of_lt_of_le hb hw12.size
            have hw21 : IntKind.i64.wrap (21 : Int) = 21 := by rfl
            have own12 : w12.ownsRow w.heap.size 99 5 (.slice A1 1 c1) 1 [.int .i64 203, .int .i64 0, .int .i64 0, .int .i64 0, .string .empty] := ownsRow_below HOWP.out (fun g hg => hb112.block g (HOWP.out.lt g hg).2)
            have hin2 : ∀ u ∈ ([.int .i64 202, .int .i64 0, .int .i64 20, .int .i64 21, .string ⟨#[102]⟩] : List Value), u.oneCell' = true := by simp [Value.oneCell']
            have hkl2 : 1 + 1 ≤ maxLen := by unfold maxLen; omega
            have hwl : w.heap.size ≤ w12.heap.size := hw12.size
            have hex := HEX.out
            clear hb112 x12 hww hw12 hb11
            go_wp2_with fail
            go_region_held3 (fun u : World => u.cell? ⟨wr.heap.size, 1, none⟩ = some (.int .i64 20)) (first | go_keep | trivial) ((go_at_call 20; refine (HID.out _).mono ?_; rintro e w13 ⟨rfl, rfl⟩))
            go_wp2_with fail
            have hbV : Below w12.heap.size w12 w12.drew := (Below.refl _ _).drew
            have own13 : w12.drew.ownsRow w.heap.size 99 5 (.slice A1 1 c1) 1 [.int .i64 203, .int .i64 0, .int .i64 0, .int .i64 0, .string .empty] := own12.drew
            have f0 : w12.drew.cell? ⟨wr.heap.size, 0, none⟩ = some (.int .i64 0) := g0
            have f1 : w12.drew.cell? ⟨wr.heap.size, 1, none⟩ = some (.int .i64 20) := g1
            have fl : wr.heap.size < w12.drew.heap.size := gl
            have fw : w.heap.size ≤ w12.drew.heap.size := hwl
            have fb : Below wr.heap.size wr w12.drew := HB12.out.trans (hbV.mono HB12.out.size)
            clear g0 g1 g2 gl gs gm own12 hwl hbV
            generalize w12.drew = V at *
            have HFB := Lib.hid fb
            clear fb
            have hne : ∀ q, (Value.slice A1 1 c1).ownBlock = some q → q ≠ wr.heap.size := fun q hq e => by have := (HOWP.out.lt q hq).2; omega
            have xV0 := f0
            have HKP := Lib.hid (fun (cs' : Array Value) (t : TypeId) (w1 : World) (hg : ((V.alloc (.cells cs' t)).drew).grownBy w1 (Value.slice A1 1 c1).ownBlock) => (show w1.cell? ⟨wr.heap.size, 0, none⟩ = some (.int .i64 0) ∧ w1.cell? ⟨wr.heap.size, 1, none⟩ = some (.int .i64 20) from by
              have hlt : wr.heap.size < ((V.alloc (.cells cs' t)).drew).heap.size := by show wr.heap.size < (V.alloc _).heap.size; simp; omega
              have hnb : some wr.heap.size ≠ (Value.slice A1 1 c1).ownBlock := fun e => hne _ e.symm rfl
              exact ⟨(hg.cell_far ⟨wr.heap.size, 0, none⟩ hlt hnb).trans ((World.cell?_alloc_lt V _ ⟨wr.heap.size, 0, none⟩ fl).trans f0), (hg.cell_far ⟨wr.heap.size, 1, none⟩ hlt hnb).trans ((World.cell?_alloc_lt V _ ⟨wr.heap.size, 1, none⟩ fl).trans f1)⟩))
            clear hne xV0
            go_region_held3 (fun u : World => u.cell? ⟨wr.heap.size, 0, none⟩ = some (.int .i64 0) ∧ u.cell? ⟨wr.heap.size, 1, none⟩ = some (.int .i64 20)) (first | go_keep | trivial | (exact HKP.out _ _ _ hgrow15)) ((refine step_append_lies _ (by rfl) (.tmp 130) (.tmp 143) _ (by rfl) w.heap.size 99 i0 _ 5 48 Tryz.underlying58 hi0 hz0 hz1 hz2 rfl (by omega) (.slice A1 1 c1) 1 [.int .i64 203, .int .i64 0, .int .i64 0, .int .i64 0, .string .empty] (by rfl) ((own13.alloc _).drew) ⟨V.heap.size, 0, none⟩ 1 1 [.int .i64 202, .int .i64 0, .int .i64 20, .int .i64 21, .string ⟨#[102]⟩] (by rfl) (by rfl) (World.news_of_block (cs := #[_, _, _, _, _]) (t := 99) (fr := (0, 0)) (heap_alloc_new _ _)) hin2 (by omega) hkl2 (by omega) (by simp; omega) _ rfl ?_; intro gg cap w15 hown15 hgrow15 hat15 hlt15))
            have hbA : Below wr.heap.size wr (V.alloc (.cells #[.int .i64 202, .int .i64 0, .int .i64 20, .int .i64 21, .string ⟨#[102]⟩] 99)).drew := (HFB.out.alloc HFB.out.size _).drew
            have HWA := Lib.hid (HBO.out.trans (hbA.mono HBO.out.size))
            have H15 := Lib.hid (show w15.ownsRow w.heap.size 99 5 (.slice (some ⟨gg, 0, none⟩) 2 cap) 2 ([dgA, dgB].flatMap Dg.cells) from hown15)
            have HB15 := Lib.hid (HWA.out.grown hgrow15 HWA.out.size (fun q hq => (HOWP.out.lt q hq).1))
            clear hown15 hgrow15 hat15 hlt15 hbA own13
            go_wp2_with fail
            go_roundw
            case rel => exact .inr ⟨rfl, ⟨_, _, rfl⟩, H15.out, HB15.out⟩
            case measure => simp [intOf]
        · obtain ⟨g, c5, hv5, hg1, hg2⟩ := own_some hown2 (by decide)
          injection hv5 with hv5 _ hv6
          subst hv5 hv6
          have hins := ins_any wr g c2 2 [dgA, dgB] [dgA, dgB] rfl rfl (by decide) dg_sorted (own_base hown2)
          have HST := Lib.hid (stab_small wr g c2 2 [dgA, dgB] (by decide) hins)
          have HBE := Lib.hid hb9
          clear hins hown2 hb9
          go_wp2_with fail
          refine HST.out.mono ?_
          rintro e w16 ⟨rfl, ho16, ⟨q1, q2, q3⟩, hs16, hk16⟩
          have hbz : Below w.heap.size wr w16 := ⟨q1, q2, q3, hs16, fun i hi => hk16 i (by have := HBE.out.size; omega) (by omega)⟩
          have HBZ := Lib.hid (HBE.out.trans hbz)
          have hdo : dgD.Own w16 0 99 (Nw w w16) (.slice (some ⟨g, 0, none⟩) 2 c2) [dgA, dgB] ([dgA, dgB].flatMap Dg.cells) := ⟨ho16, flatD_of _⟩
          obtain ⟨A7, c7, hv7, hat7, _⟩ := hdo.at (F' := Nw w w16) (fun _ h => h) (fun q hq => ⟨by have e : g = q := (by simpa [Value.ownBlock] using hq); omega, (ho16.lt q hq).2⟩)
          injection hv7 with hv7 _ hv8
          subst hv7 hv8
          have HAT7 := Lib.hid hat7
          clear hbz hdo hat7 ho16 hk16 HST
          go_wp2_with fail
          go_ret2
          exact (HCP.out _ _).mpr ⟨_, _, rfl, HAT7.out, HBZ.out⟩
end Go.Proofs.YtpibenilagloaaaGreatDoor
