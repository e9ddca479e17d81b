import Derived.Test.YtpibenilagloaaaGreatDoorRzaj
import Derived.Deep.QuietTactic
import Derived.BigQuiet
namespace Go.Proofs.YtpibenilagloaaaGreatDoor
open Go.RowKit
set_option linter.unusedVariables false
def exR : Mdl := ⟨⟨#[109]⟩, ⟨#[102, 110, 32, 102, 40, 41, 32, 123, 32, 125, 10, 102, 110, 32, 103, 40, 41, 32, 123, 32, 102, 40, 41, 59, 32, 125]⟩⟩
def esA : List FEd := [⟨0, 3, 4, ⟨#[104]⟩⟩]
def esB : List FEd := [⟨0, 3, 4, ⟨#[104]⟩⟩, ⟨0, 20, 21, ⟨#[104]⟩⟩]
def exRa : Mdl := newM esA 0 exR
def exRb : Mdl := newM esB 0 exR
def rSs (x : Mdl) (u : PS) : List Sym := symsN x (astN x.src u.ch)
def rRf (x : Mdl) (u : PS) : List Rfn := sortI cmpRf (resN x (astN x.src u.ch)).rf
def rNd (x : Mdl) (u : PS) : Nat := (resN x (astN x.src u.ch)).ds.length
theorem exR_run : (run 100 fileC ⟨tokensL exR.src.data.toList, [], false, 600000⟩).map (fun u => (modB exR u, rRf exR u, rNd exR u, unuOk (rSs exR u) (rRf exR u), unuL (rRf exR u) 0 (rSs exR u), ((rSs exR u)[4]?).map (fun z => (z.kind, decide (z.par < 0))), ((rSs exR u)[5]?).map (fun y => (y.kind, y.mod, y.st)), ((rSs exR u)[6]?).map (fun y => y.nm), decide ((rSs exR u).length = 7))) =
    some (true, [⟨0, 20, 5⟩], 0, true, [6], some (1, true), some (2, 0, 3), some ⟨#[103]⟩, true) := by kernel_rfl
theorem exRa_run : (run 100 fileC ⟨tokensL exRa.src.data.toList, [], false, 600000⟩).map (fun u => (modB exRa u, rRf exRa u, rNd exRa u, corrL (rSs exRa u) 0 3, decide ((rSs exRa u).length = 7))) = some (true, [⟨0, 20, -1⟩], 1, 5, true) := by kernel_rfl
theorem exRb_run : (run 100 fileC ⟨tokensL exRb.src.data.toList, [], false, 600000⟩).map (fun u => (modB exRb u, rRf exRb u, rNd exRb u, corrL (rSs exRb u) 0 3, decide ((rSs exRb u).length = 7))) = some (true, [⟨0, 20, 5⟩], 0, 5, true) := by kernel_rfl
theorem exA_ok : okM esA [exR] = true ∧ newPosL esA 0 20 = (0, 20, true) ∧ newPosL esA 0 3 = (0, 3, true) := ⟨by kernel_rfl, by kernel_rfl, by kernel_rfl⟩
theorem exB_ok : okM esB [exR] = true ∧ newPosL esB 0 20 = (0, 20, true) ∧ newPosL esB 0 3 = (0, 3, true) := ⟨by kernel_rfl, by kernel_rfl, by kernel_rfl⟩
theorem exR_id : idLen exR.src 20 = 1 ∧ exR.src.extract 20 21 = ⟨#[102]⟩ := ⟨by kernel_rfl, by kernel_rfl⟩

theorem map_some6 {α β : Type} {o : Option α} {f : α → β} {y : β} (h : o.map f = some y) : ∃ x, o = some x ∧ f x = y := by
  cases o with
  | none => cases h
  | some x => exact ⟨x, rfl, by injection h⟩
theorem resQ_of (x : Mdl) (u : PS) (ss : List Sym) (rf : List Rfn) (nd : Nat) (M : ModOk x u (astN x.src u.ch)) (h1 : rSs x u = ss) (h2 : rRf x u = rf) (h3 : rNd x u = nd) (b o c : Nat) (w : World) (hg : Gl w) (hb : b < w.heap.size) (hc : ∀ i v, (mdC x)[i]? = some v → w.cell? ⟨b, o + i, none⟩ = some v) :
    Calls Tryz.prog 38 #[.slice (some ⟨b, o, none⟩) 1 c] w (ResQ ss rf nd w) := by
  subst h1 h2 h3
  exact resolve_one x u _ M b o c w hg hb hc
set_option maxRecDepth 100000 in
set_option maxHeartbeats 12800000 in
theorem refEx_any (w : World) (hg : Gl w) :
    Calls Tryz.prog 15 #[] w fun e w' => e = .returned (.bool true) ∧ Below w.heap.size w w' := by
  obtain ⟨u, hu, he⟩ := map_some6 exR_run
  have a1 : modB exR u = true := congrArg Prod.fst he
  have a2 : rRf exR u = [⟨0, 20, 5⟩] := congrArg (fun q => q.2.1) he
  have a3 : rNd exR u = 0 := congrArg (fun q => q.2.2.1) he
  have a4 : unuOk (rSs exR u) (rRf exR u) = true := congrArg (fun q => q.2.2.2.1) he
  have a5 : unuL (rRf exR u) 0 (rSs exR u) = [6] := congrArg (fun q => q.2.2.2.2.1) he
  have a6 : ((rSs exR u)[4]?).map (fun z => (z.kind, decide (z.par < 0))) = some (1, true) := congrArg (fun q => q.2.2.2.2.2.1) he
  have a7 : ((rSs exR u)[5]?).map (fun y => (y.kind, y.mod, y.st)) = some (2, 0, 3) := congrArg (fun q => q.2.2.2.2.2.2.1) he
  have a8 : ((rSs exR u)[6]?).map (fun y => y.nm) = some ⟨#[103]⟩ := congrArg (fun q => q.2.2.2.2.2.2.2.1) he
  have a9 : (rSs exR u).length = 7 := of_decide_eq_true (congrArg (fun q => q.2.2.2.2.2.2.2.2) he)
  obtain ⟨ua, hua, hea⟩ := map_some6 exRa_run
  have b1 : modB exRa ua = true := congrArg Prod.fst hea
  have b2 : rRf exRa ua = [⟨0, 20, -1⟩] := congrArg (fun q => q.2.1) hea
  have b3 : rNd exRa ua = 1 := congrArg (fun q => q.2.2.1) hea
  have b4 : corrL (rSs exRa ua) 0 3 = 5 := congrArg (fun q => q.2.2.2.1) hea
  have b5 : (rSs exRa ua).length = 7 := of_decide_eq_true (congrArg (fun q => q.2.2.2.2) hea)
  obtain ⟨ub, hub, heb⟩ := map_some6 exRb_run
  have c1 : modB exRb ub = true := congrArg Prod.fst heb
  have c2 : rRf exRb ub = [⟨0, 20, 5⟩] := congrArg (fun q => q.2.1) heb
  have c3 : rNd exRb ub = 0 := congrArg (fun q => q.2.2.1) heb
  have c4 : corrL (rSs exRb ub) 0 3 = 5 := congrArg (fun q => q.2.2.2.1) heb
  have c5 : (rSs exRb ub).length = 7 := of_decide_eq_true (congrArg (fun q => q.2.2.2.2) heb)
  have M := modOk_of hu a1
  have Ma := modOk_of hua b1
  have Mb := modOk_of hub c1
  obtain ⟨z, hz, hze⟩ := map_some6 a6
  have hz1 : z.kind = 1 := congrArg Prod.fst hze
  have hz2 : z.par < 0 := of_decide_eq_true (congrArg Prod.snd hze)
  obtain ⟨y, hy, hye⟩ := map_some6 a7
  have hy1 : y.kind = 2 := congrArg Prod.fst hye
  have hy2 : y.mod = 0 := congrArg (fun q => q.2.1) hye
  have hy3 : y.st = 3 := congrArg (fun q => q.2.2) hye
  obtain ⟨y6, hy6, hy6n⟩ := map_some6 a8
  rw [a2] at a4 a5
  have KA : ChkOk exR esA (rSs exR u) (rSs exRa ua) := ⟨exA_ok.1, by omega, by omega, ⟨y, hy, hy1, hy2, hy3⟩, by omega, exA_ok.2.1, exA_ok.2.2, b4⟩
  have KB : ChkOk exR esB (rSs exR u) (rSs exRb ub) := ⟨exB_ok.1, by omega, by omega, ⟨y, hy, hy1, hy2, hy3⟩, by omega, exB_ok.2.1, exB_ok.2.2, c4⟩
  obtain ⟨W1, hW1⟩ : ∃ W1, w.alloc (.cells #[.string ⟨#[109]⟩, .string ⟨#[102, 110, 32, 102, 40, 41, 32, 123, 32, 125, 10, 102, 110, 32, 103, 40, 41, 32, 123, 32, 102, 40, 41, 59, 32, 125]⟩] 48) = W1 := ⟨_, rfl⟩
  have hb1 : Below w.heap.size w W1 := by rw [← hW1]; exact (Below.refl _ _).alloc (Nat.le_refl _) _
  have hx1 : W1.heap[w.heap.size]? = some (.cells #[.string ⟨#[109]⟩, .string ⟨#[102, 110, 32, 102, 40, 41, 32, 123, 32, 125, 10, 102, 110, 32, 103, 40, 41, 32, 123, 32, 102, 40, 41, 59, 32, 125]⟩] 48 (0, 0)) := by rw [← hW1]; exact heap_alloc_new w _
  have hl1 := lt_of_heap hx1
  have hg1 := gl_below hg hb1
  have hcm : ∀ W, Below W1.heap.size W1 W → ∀ i v, (mdC exR)[i]? = some v → W.cell? ⟨w.heap.size, 0 + i, none⟩ = some v := fun W hb i v hv => by
    rw [Nat.zero_add]
    exact (hb.cell (p := ⟨w.heap.size, _, none⟩) hl1).trans ((Lib.cell_of_heap hx1 i).trans (by simpa [mdC, exR] using hv))
  have HRES := Lib.hid (fun W (hb : Below W1.heap.size W1 W) => resQ_of exR u _ _ _ M rfl a2 a3 w.heap.size 0 1 W (gl_below hg1 hb) (Nat.lt_of_lt_of_le hl1 hb.size) (hcm W hb))
  have HUN := Lib.hid (unused_of (rSs exR u) [⟨0, 20, 5⟩] 0 1 (some ⟨w.heap.size, 0, none⟩) z W1 (by omega) (by decide) (fun r hr => by simp at hr; subst hr; simp only; omega) hz hz1 hz2 a4 (fun W hb => HRES.out W hb))
  have HUP := Lib.hid (show ∀ e w', UnuPost (rSs exR u) [⟨0, 20, 5⟩] W1 e w' → ∃ ab ao c, e = .returned (.tuple #[.slice (some ⟨ab, ao, none⟩) 1 c, .int .i64 0]) ∧ ab < w'.heap.size ∧ w'.cell? ⟨ab, ao, none⟩ = some (.int .i64 6) ∧ Below W1.heap.size W1 w' from fun e w' h => by
    unfold UnuPost at h
    rw [a5] at h
    obtain ⟨A, c, h1, h2, h3⟩ := h
    obtain ⟨ab, ao, rfl, hab, hac⟩ := flat_get h2 0 6 rfl
    have := hac 0 _ rfl
    simp only [Nat.zero_mul, Nat.add_zero] at this
    exact ⟨ab, ao, c, h1, hab.2, this, h3⟩)
  have HB0 := Lib.hid (fun W A c (hb : Below W1.heap.size W1 W) (h : feD.At W (Lt W) A esB) => chb0 exR esB (rSs exR u) (rSs exRb ub) KB w.heap.size 0 1 c 0 A W (gl_below hg1 hb).1 (Nat.lt_of_lt_of_le hl1 hb.size) (hcm W hb) (Nat.le_refl _) h (by decide) (fun x hx => by simp [esB] at hx; rcases hx with rfl | rfl <;> decide)
    (fun W' hb' => HRES.out W' (hb.trans (hb'.mono hb.size))) (fun W' b o c' hb' hbl hc => resQ_of exRb ub _ _ _ Mb rfl c2 c3 b o c' W' (gl_below (gl_below hg1 hb) hb') hbl hc))
  have HB2 := Lib.hid (fun W A c (hb : Below W1.heap.size W1 W) (h : feD.At W (Lt W) A esA) => chb2 exR esA (rSs exR u) (rSs exRa ua) KA w.heap.size 0 1 c 0 A W (gl_below hg1 hb).1 (Nat.lt_of_lt_of_le hl1 hb.size) (hcm W hb) (Nat.le_refl _) h (by decide) (fun x hx => by simp [esA] at hx; subst hx; decide) (by decide) (by decide) exR_id.1 exR_id.2
    (fun W' hb' => HRES.out W' (hb.trans (hb'.mono hb.size))) (fun W' b o c' hb' hbl hc => resQ_of exRa ua _ _ _ Ma rfl b2 b3 b o c' W' (gl_below (gl_below hg1 hb) hb') hbl hc))
  have HC2 := Lib.hid (show ∀ W e w', ChcPost W e w' → ∃ A c, e = .returned (.tuple #[.slice A 2 c, .int .i64 0]) ∧ dgD.At w' (Nw W w') A [dgA, dgB] ∧ Below W.heap.size W w' from fun _ _ _ h => h)
  have HY6 := Lib.hid hy6
  have HY6N := Lib.hid hy6n
  have HL7 := Lib.hid a9
  have HB1 := Lib.hid hb1
  clear he hea heb hu hua hub a1 a2 a3 a4 a5 a6 a7 a8 a9 b1 b2 b3 b4 b5 c1 c2 c3 c4 c5 M Ma Mb hz hz1 hz2 hze hy hye hy1 hy2 hy3 hy6 hy6n KA KB hb1 hx1 hcm hg hg1
  obtain ⟨n7, hn7⟩ : ∃ n7, (rSs exR u).length = n7 := ⟨_, rfl⟩
  have HN7 := Lib.hid hn7
  have h67 : (6 : Int) < n7 := by have := HL7.out; omega
  clear hn7
  go_enter Tryz.func15, Tryz.ntmps15
  go_wp2_with fail
  refine HUN.out.mono ?_
  intro e w2 hup
  obtain ⟨ab, ao, c, rfl, hab, hac, hb2⟩ := HUP.out _ _ hup
  have HBB2 := Lib.hid hb2
  have HR2 := Lib.hid (HRES.out w2 hb2)
  clear hup hb2 HUN hW1
  go_wp2_with fail
  refine HR2.out.mono ?_
  rintro e w3 ⟨SA, sc, RA, rc, DA, dc, rfl, hsy, hrf, hb3⟩
  rw [HN7.out]
  simp only [List.length_cons, List.length_nil, Nat.zero_add]
  obtain ⟨sb, so, rfl, hsb, hsc⟩ := flat_get hsy 6 y6 HY6.out
  obtain ⟨W4, hW4⟩ : ∃ W4, w3.alloc (.cells #[.slice (some ⟨sb, so, none⟩) n7 sc, .slice RA 1 rc, .slice DA 0 dc] 85) = W4 := ⟨_, rfl⟩
  have hb4 : Below w3.heap.size w3 W4 := by rw [← hW4]; exact (Below.refl _ _).alloc (Nat.le_refl _) _
  have hx4 : W4.heap[w3.heap.size]? = some (.cells #[.slice (some ⟨sb, so, none⟩) n7 sc, .slice RA 1 rc, .slice DA 0 dc] 85 (0, 0)) := by rw [← hW4]; exact heap_alloc_new w3 _
  have r0 := cell_of hx4 0 _ rfl
  have l4 := lt_of_heap hx4
  have hb24 := hb3.trans (hb4.mono hb3.size)
  have u0 : W4.cell? ⟨ab, ao, none⟩ = some (.int .i64 6) := (hb24.cell (p := ⟨ab, _, none⟩) hab).trans hac
  have lab : ab < W4.heap.size := Nat.lt_of_lt_of_le hab hb24.size
  have hsb3 : sb < w3.heap.size := hsb
  have t4 : W4.cell? ⟨sb, so + 6 * 6 + 4, none⟩ = some (.string ⟨#[103]⟩) := by rw [← HY6N.out]; exact (hb4.cell (p := ⟨sb, _, none⟩) hsb3).trans (hsc 4 _ rfl)
  have t4' : W4.cell? ⟨sb, so + 40, none⟩ = some (.string ⟨#[103]⟩) := t4
  have lsb : sb < W4.heap.size := Nat.lt_of_lt_of_le hsb3 hb4.size
  have HB4 := Lib.hid (HBB2.out.trans (hb24.mono HBB2.out.size))
  clear hsy hrf hb3 hb4 hx4 hb24 hsc hac hab hsb HR2
  go_wp2_with fail
  go_quiet (fail)
  have hbV : Below W4.heap.size W4 (W4.drewN nq) := below_drewN (Below.refl _ _) _
  have hbV1 := HB4.out.trans (hbV.mono HB4.out.size)
  generalize W4.drewN nq = V at *
  have HBV := Lib.hid hbV1
  have HFE := Lib.hid (fun (s e : Int) W => fileEdit_any s e ⟨#[104]⟩ W)
  clear hW4 hbV hbV1 u0 t4 t4' r0
  go_wp2_with fail
  refine (HFE.out 3 4 _).mono ?_
  rintro e w5 ⟨rfl, hb5⟩
  have HB5 := Lib.hid (HBV.out.trans (hb5.mono HBV.out.size))
  clear hb5
  go_wp2_with fail
  refine (HFE.out 20 21 _).mono ?_
  rintro e w6 ⟨rfl, hb6⟩
  have HB6 := Lib.hid (HB5.out.trans (hb6.mono HB5.out.size))
  obtain ⟨W7, hW7⟩ : ∃ W7, w6.alloc (.cells #[.int .i64 0, .int .i64 3, .int .i64 4, .string ⟨#[104]⟩, .int .i64 0, .int .i64 20, .int .i64 21, .string ⟨#[104]⟩] 95) = W7 := ⟨_, rfl⟩
  have hb7 : Below w6.heap.size w6 W7 := by rw [← hW7]; exact (Below.refl _ _).alloc (Nat.le_refl _) _
  have hx7 : W7.heap[w6.heap.size]? = some (.cells #[.int .i64 0, .int .i64 3, .int .i64 4, .string ⟨#[104]⟩, .int .i64 0, .int .i64 20, .int .i64 21, .string ⟨#[104]⟩] 95 (0, 0)) := by rw [← hW7]; exact heap_alloc_new w6 _
  have hat7 : feD.At W7 (Lt W7) (some ⟨w6.heap.size, 0, none⟩) esB := ⟨esB.flatMap feC, flatD_of _, fun _ => ⟨_, 0, rfl, lt_of_heap hx7, fun j v hj => by
    rw [Nat.zero_add]
    exact (Lib.cell_of_heap hx7 j).trans (by simpa [esB, feC] using hj)⟩⟩
  have hb17 := HB6.out.trans (hb7.mono HB6.out.size)
  have HB7 := Lib.hid hb17
  have HC0 := Lib.hid (show Calls Tryz.prog 39 #[.slice (some ⟨w.heap.size, 0, none⟩) 1 1, .slice (some ⟨w6.heap.size, 0, none⟩) 2 2, .slice none 0 0] W7 (fun e w' => e = .returned (.tuple #[.slice none 0 0, .int .i64 0]) ∧ Below W7.heap.size W7 w') from HB0.out W7 (some ⟨w6.heap.size, 0, none⟩) 2 hb17 hat7)
  clear hb6 hb7 hx7 hat7 hb17 HB0
  go_wp2_with fail
  refine HC0.out.mono ?_
  rintro e w8 ⟨rfl, hb8⟩
  have HB8 := Lib.hid (HB7.out.trans (hb8.mono HB7.out.size))
  clear hb8 hW7 HC0
  go_wp2_with fail
  refine (HFE.out 3 4 _).mono ?_
  rintro e w9 ⟨rfl, hb9⟩
  have HB9 := Lib.hid (HB8.out.trans (hb9.mono HB8.out.size))
  obtain ⟨W10, hW10⟩ : ∃ W10, w9.alloc (.cells #[.int .i64 0, .int .i64 3, .int .i64 4, .string ⟨#[104]⟩] 95) = W10 := ⟨_, rfl⟩
  have hb10 : Below w9.heap.size w9 W10 := by rw [← hW10]; exact (Below.refl _ _).alloc (Nat.le_refl _) _
  have hx10 : W10.heap[w9.heap.size]? = some (.cells #[.int .i64 0, .int .i64 3, .int .i64 4, .string ⟨#[104]⟩] 95 (0, 0)) := by rw [← hW10]; exact heap_alloc_new w9 _
  have hat10 : feD.At W10 (Lt W10) (some ⟨w9.heap.size, 0, none⟩) esA := ⟨esA.flatMap feC, flatD_of _, fun _ => ⟨_, 0, rfl, lt_of_heap hx10, fun j v hj => by
    rw [Nat.zero_add]
    exact (Lib.cell_of_heap hx10 j).trans (by simpa [esA, feC] using hj)⟩⟩
  have hb110 := HB9.out.trans (hb10.mono HB9.out.size)
  have HB10 := Lib.hid hb110
  have HC2' := Lib.hid (show Calls Tryz.prog 39 #[.slice (some ⟨w.heap.size, 0, none⟩) 1 1, .slice (some ⟨w9.heap.size, 0, none⟩) 1 1, .slice none 0 0] W10 (ChcPost W10) from HB2.out W10 (some ⟨w9.heap.size, 0, none⟩) 1 hb110 hat10)
  clear hb9 hb10 hx10 hat10 hb110 HB2
  go_wp2_with fail
  refine HC2'.out.mono ?_
  intro e w11 hp11
  obtain ⟨A2, c2, rfl, hat11, hb11⟩ := HC2.out _ _ _ hp11
  have HB11 := Lib.hid (HB10.out.trans (hb11.mono HB10.out.size))
  obtain ⟨W12, hW12⟩ : ∃ W12, w11.alloc (.cells #[.int .i64 203, .int .i64 0, .int .i64 0, .int .i64 0, .string ⟨#[]⟩, .int .i64 202, .int .i64 0, .int .i64 20, .int .i64 21, .string ⟨#[102]⟩] 99) = W12 := ⟨_, rfl⟩
  have hb12 : Below w11.heap.size w11 W12 := by rw [← hW12]; exact (Below.refl _ _).alloc (Nat.le_refl _) _
  have hx12 : W12.heap[w11.heap.size]? = some (.cells #[.int .i64 203, .int .i64 0, .int .i64 0, .int .i64 0, .string ⟨#[]⟩, .int .i64 202, .int .i64 0, .int .i64 20, .int .i64 21, .string ⟨#[102]⟩] 99 (0, 0)) := by rw [← hW12]; exact heap_alloc_new w11 _
  have hat12 : dgD.At W12 (Lt W12) (some ⟨w11.heap.size, 0, none⟩) [dgA, dgB] := ⟨[dgA, dgB].flatMap Dg.cells, flatD_of _, fun _ => ⟨_, 0, rfl, lt_of_heap hx12, fun j v hj => by
    rw [Nat.zero_add]
    exact (Lib.cell_of_heap hx12 j).trans (by rw [← Array.getElem?_toList]; exact hj)⟩⟩
  have hat11' : dgD.At W12 (Lt W12) A2 [dgA, dgB] := hat11.keep (fun b hb => Nat.lt_of_lt_of_le hb.2 hb12.size) (fun b hb => hb12.block b hb.2)
  have HEQ := Lib.hid (show Calls Tryz.prog 41 #[.slice A2 2 c2, .slice (some ⟨w11.heap.size, 0, none⟩) 2 2] W12 (fun e w' => e = .returned (.bool true) ∧ Below W12.heap.size W12 w') from eqDgs_any [dgA, dgB] A2 (some ⟨w11.heap.size, 0, none⟩) c2 2 W12 (Lt W12) hat11' hat12 (fun _ h => h) (by decide))
  have HB12 := Lib.hid (HB11.out.trans (hb12.mono HB11.out.size))
  clear hp11 hb11 hat11 hat11' hat12 hb12 hx12 hW10 HC2'
  go_wp2_with fail
  refine HEQ.out.mono ?_
  rintro e w13 ⟨rfl, hb13⟩
  have HB13 := Lib.hid (HB1.out.trans ((HB12.out.trans (hb13.mono HB12.out.size)).mono HB1.out.size))
  clear hb13 HEQ
  go_wp2_with fail
  go_ret
  exact ⟨rfl, HB13.out⟩
end Go.Proofs.YtpibenilagloaaaGreatDoor
