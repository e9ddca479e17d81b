import Derived.Test.YtpibenilagloaaaGreatDoorCuad
/-
  cursorExamples answers true.
-/
namespace Go.Proofs.YtpibenilagloaaaGreatDoor
open Go.RowKit
set_option linter.unusedVariables false

theorem saEx (u : PS) (of : Nat) (a b c : Int) (hs : saL exC.src 0 of (exCs u) (exCr u) = (a, b, c)) (hof : of ≤ exC.src.size) (M : ModOk exC u (astN exC.src u.ch)) (hr : (exCr u).length ≤ 1000) (mb : Nat) (w : World) (hg : Gl w) (hb : mb < w.heap.size) (hc : ∀ i v, (mdC exC)[i]? = some v → w.cell? ⟨mb, 0 + i, none⟩ = some v) :
    Calls Tryz.prog 19 #[.slice (some ⟨mb, 0, none⟩) 1 1, .int .i64 0, .int .i64 (of : Int)] w fun e w' => e = .returned (.tuple #[.int .i64 a, .int .i64 b, .int .i64 c]) ∧ Below w.heap.size w w' := by
  have h := symbolAt_of exC.nm exC.src (exCs u) (exCr u) (resN exC (astN exC.src u.ch)).ds.length mb 0 1 of w M.sz hof hb (hc 1 _ rfl) M.sl hr (fun w' hb' => resolve_one exC u _ M mb 0 1 w' (gl_below hg hb') (Nat.lt_of_lt_of_le hb hb'.size) (fun i v hv => (hb'.cell (p := ⟨mb, _, none⟩) hb).trans (hc i v hv)))
  have e : SaPost exC.src of (exCs u) (exCr u) w = fun e w' => e = .returned (.tuple #[.int .i64 a, .int .i64 b, .int .i64 c]) ∧ Below w.heap.size w w' := by funext e w'; unfold SaPost; rw [hs]
  rw [e] at h
  exact h
set_option maxRecDepth 100000 in
set_option maxHeartbeats 12800000 in
theorem curEx_any (w : World) (hg : Gl w) :
    Calls Tryz.prog 7 #[] w fun e w' => e = .returned (.bool true) ∧ Below w.heap.size w w' := by
  obtain ⟨u, hu, he⟩ := map_some5 exC_run
  have h1 : modB exC u = true := congrArg Prod.fst he
  have h2 : (exCr u).length ≤ 1000 := of_decide_eq_true (congrArg (fun q => q.2.1) he)
  have h3 : saL exC.src 0 3 (exCs u) (exCr u) = (5, 3, 0) := congrArg (fun q => q.2.2.1) he
  have h4 : saL exC.src 0 17 (exCs u) (exCr u) = (5, 16, 0) := congrArg (fun q => q.2.2.2.1) he
  have h5 : saL exC.src 0 6 (exCs u) (exCr u) = (0, 0, 5) := congrArg (fun q => q.2.2.2.2) he
  have M := modOk_of hu h1
  obtain ⟨v, hv, hve⟩ := map_some5 exX_run
  have g1 : (exXl v.ch).length ≤ 12 := of_decide_eq_true (congrArg Prod.fst hve)
  have g2 : compactL (sortI cmpCu (exXl v.ch)) = [⟨0, 9, 14⟩, ⟨0, 7, 16⟩, ⟨0, 0, 16⟩] := congrArg Prod.snd hve
  have g3 : exL exX v.ch 9 10 = [⟨0, 9, 14⟩, ⟨0, 7, 16⟩, ⟨0, 0, 16⟩] := by
    show compactL (sortCu (exXl v.ch)) = _
    rw [sortCu_small _ g1, g2]
  obtain ⟨W1, hW1⟩ : ∃ W1, w.alloc (.cells #[.string ⟨#[109]⟩, .string ⟨#[102, 110, 32, 102, 40, 41, 32, 45, 62, 32, 105, 110, 116, 32, 123, 32, 102, 40, 41, 32, 125]⟩] 48) = W1 := ⟨_, rfl⟩
  have hb1 : Below w.heap.size w W1 := by rw [← hW1]; exact (Below.refl _ _).alloc (Nat.le_refl _) _
  have hx1 : W1.heap[w.heap.size]? = some (.cells #[.string ⟨#[109]⟩, .string ⟨#[102, 110, 32, 102, 40, 41, 32, 45, 62, 32, 105, 110, 116, 32, 123, 32, 102, 40, 41, 32, 125]⟩] 48 (0, 0)) := by rw [← hW1]; exact heap_alloc_new w _
  have hl1 := lt_of_heap hx1
  have hcm : ∀ i v, (mdC exC)[i]? = some v → W1.cell? ⟨w.heap.size, 0 + i, none⟩ = some v := fun i v hv => by
    rw [Nat.zero_add]
    exact (Lib.cell_of_heap hx1 i).trans (by simpa [mdC, exC] using hv)
  have HS3 := Lib.hid (saEx u 3 5 3 0 h3 (by decide) M h2 w.heap.size W1 (gl_below hg hb1) hl1 hcm)
  have HS17 := Lib.hid (fun W (hb : Below W1.heap.size W1 W) => saEx u 17 5 16 0 h4 (by decide) M h2 w.heap.size W (gl_below hg (hb1.trans (hb.mono hb1.size))) (Nat.lt_of_lt_of_le hl1 hb.size) (fun i v hv => (hb.cell (p := ⟨w.heap.size, _, none⟩) hl1).trans (hcm i v hv)))
  have HS6 := Lib.hid (fun W (hb : Below W1.heap.size W1 W) => saEx u 6 0 0 5 h5 (by decide) M h2 w.heap.size W (gl_below hg (hb1.trans (hb.mono hb1.size))) (Nat.lt_of_lt_of_le hl1 hb.size) (fun i v hv => (hb.cell (p := ⟨w.heap.size, _, none⟩) hl1).trans (hcm i v hv)))
  have HXS := Lib.hid (fun W (hb : Below w.heap.size w W) => expand_any exX 9 10 W (gl_below hg hb) (by decide) 100 v hv (by decide) (by decide) (by decide))
  rw [g3] at HXS
  have HIL := Lib.hid (fun W => identLen_any ⟨#[97, 98, 95, 49, 32, 99]⟩ 0 W (by decide) (by decide))
  rw [exI_len] at HIL
  have heq := rg3_eq
  have HB1 := Lib.hid hb1
  clear hg hb1 hx1 hcm h1 h2 h3 h4 h5 M g1 g2 g3 hu he hv hve hl1
  go_enter Tryz.func7, Tryz.ntmps7
  go_wp2_with fail
  refine HS3.out.mono ?_
  rintro e w2 ⟨rfl, hb2⟩
  have HB2 := Lib.hid hb2
  have H17 := Lib.hid (HS17.out w2 hb2)
  clear hb2 HS3 hW1
  go_wp2_with fail
  refine H17.out.mono ?_
  rintro e w3 ⟨rfl, hb3⟩
  have hb13 := HB2.out.trans (hb3.mono HB2.out.size)
  have HB3 := Lib.hid hb13
  have H6 := Lib.hid (HS6.out w3 hb13)
  clear hb3 H17 hb13
  go_wp2_with fail
  refine H6.out.mono ?_
  rintro e w4 ⟨rfl, hb4⟩
  have hb14 := HB3.out.trans (hb4.mono HB3.out.size)
  have HB4 := Lib.hid (HB1.out.trans (hb14.mono HB1.out.size))
  have HX4 := Lib.hid (HXS.out w4 HB4.out)
  clear hb4 H6 hb14
  go_wp2_with fail
  refine HX4.out.mono ?_
  rintro e w5 ⟨A, c, rfl, hf, hb5⟩
  have HB5 := Lib.hid (HB4.out.trans (hb5.mono HB4.out.size))
  obtain ⟨b, off, rfl, hbn, hcl⟩ := hf (by decide)
  have d0 := hcl 0 _ rfl 0 _ rfl
  have d1 := hcl 0 _ rfl 1 _ rfl
  have d2 := hcl 0 _ rfl 2 _ rfl
  simp only [Nat.zero_mul, Nat.add_zero] at d0 d1 d2
  have hbl : b < w5.heap.size := hbn.2
  have hi5 := Lib.hid (HIL.out w5)
  clear hb5 hf hcl hbn HX4
  simp only [List.length_cons, List.length_nil, Nat.zero_add, Nat.reduceAdd]
  go_wp2_with fail
  refine hi5.out.mono ?_
  rintro e w6 ⟨rfl, rfl⟩
  go_wp2_with fail
  go_ret
  exact ⟨rfl, HB5.out⟩
end Go.Proofs.YtpibenilagloaaaGreatDoor
