import Derived.Test.YtpibenilagloaaaGreatDoorMxbu
import Derived.Test.YtpibenilagloaaaGreatDoorMxat
import Derived.Test.YtpibenilagloaaaGreatDoorMxbw
import Derived.Test.YtpibenilagloaaaGreatDoorRows
import Derived.ProofKit
import Derived.OpenShut
import Derived.ShutString
import Derived.ChangeOld
import Derived.SizedLaws
import Derived.ChangeSame
import Derived.Lay
import Derived.LaidLaws
import Derived.MakeChecks
import Derived.Lib.LaidU8
import Derived.Lib.LaidTab
import Derived.Deep.Slices
import Derived.Deep.Fields
/-
  semtokensExamples answers true.
-/
namespace Go.Proofs.YtpibenilagloaaaGreatDoor
open Go.RowKit Go.Maps
set_option linter.unusedVariables false

theorem map_some2 {α β : Type} {o : Option α} {f : α → β} {y : β} (h : o.map f = some y) : ∃ x, o = some x ∧ f x = y := by
  cases o with
  | none => cases h
  | some x => exact ⟨x, rfl, by injection h⟩
theorem tk_eq (x0 x1 x2 y0 y1 y2 : Int) (w : World) : (binOp .eql 71 (.agg #[.int .i64 x0, .int .i64 x1, .int .i64 x2]) (.agg #[.int .i64 y0, .int .i64 y1, .int .i64 y2])).run Tryz.prog w = .ok (.bool (decide ((⟨x0, x1, x2⟩ : TokS) = ⟨y0, y1, y2⟩))) w := by
  rw [run_eql_struct, tk_equal]; rfl
def exS6 : ByteArray := ⟨#[97, 98, 10, 32, 99, 100]⟩
def exL2 : List TokS := [⟨0, 2, 1⟩, ⟨4, 2, 2⟩]
def exD2 : List TokD := [⟨0, 0, 2, 1⟩, ⟨1, 1, 2, 2⟩]
theorem exE2 : encL exS6.data.toList 0 exL2 = exD2 := by kernel_rfl
theorem exV2 : valL exS6.size 0 exL2 = true := by kernel_rfl
theorem exDc : (decL (lineStartsL exS6.data.toList) exS6.size 0 0 exD2).filter (valL exS6.size 0) = some exL2 := by kernel_rfl
theorem exDs : dStart exD2 (exD2.take 1) = 1 ∧ dSuf exD2 (exD2.take 1) = 0 := by constructor <;> kernel_rfl
theorem semClassify_any (w : World) (hg : Gl w) (mb mo mc : Nat) (hb : mb < w.heap.size) (hc : ∀ i u, (mdC exM)[i]? = some u → w.cell? ⟨mb, mo + i, none⟩ = some u) :
    Calls Tryz.prog 30 #[.slice (some ⟨mb, mo, none⟩) 1 mc, .int .i64 0] w fun e w' => ∃ A c, e = .returned (.tuple #[.slice A 7 c, .int .i64 0]) ∧ tkD.At w' (Lt w') A exT ∧ Below w.heap.size w w' := by
  obtain ⟨u, hu, he⟩ := map_some2 exM_run
  have h1 : modB exM u = true := congrArg Prod.fst he
  have h2 : semB exM u = true := congrArg (fun q => q.2.1) he
  have h3 := congrArg (fun q => q.2.2) he
  simp only at h3
  unfold semB at h2
  simp only [Bool.and_eq_true, decide_eq_true_eq, List.all_eq_true] at h2
  obtain ⟨a1, a2, a3, a4, a5⟩ := h2
  have := classify_one exM u _ (modOk_of hu h1) mb mo mc w hg hb hc (fun y hy => (a1 y hy)) (fun r hr => (a2 r hr)) a3 a4 (fun y hy e => a5 y hy (by rw [e]; rfl))
  unfold ClsPost at this
  rw [h3] at this
  exact this
set_option maxRecDepth 100000 in
set_option maxHeartbeats 12800000 in
theorem semEx_any (w : World) (hg : Gl w) :
    Calls Tryz.prog 9 #[] w fun e w' => e = .returned (.bool true) ∧ Below w.heap.size w w' := by
  obtain ⟨W1, hW1⟩ : ∃ W1, w.alloc (.cells #[.string ⟨#[109]⟩, .string ⟨#[102, 110, 32, 102, 40, 41, 32, 123, 32, 103, 32, 125]⟩] 48) = W1 := ⟨_, rfl⟩
  have hb1 : Below w.heap.size w W1 := by rw [← hW1]; exact (Below.refl _ _).alloc (Nat.le_refl _) _
  have hx1 : W1.heap[w.heap.size]? = some (.cells #[.string ⟨#[109]⟩, .string ⟨#[102, 110, 32, 102, 40, 41, 32, 123, 32, 103, 32, 125]⟩] 48 (0, 0)) := by rw [← hW1]; exact heap_alloc_new w _
  have H1 := Lib.hid (semClassify_any W1 (gl_below hg hb1) w.heap.size 0 1 (lt_of_heap hx1) (fun i v hv => by
    rw [Nat.zero_add]
    exact (Lib.cell_of_heap hx1 i).trans (by simpa [mdC, exM] using hv)))
  have HB1 := Lib.hid hb1
  have heq := tk_eq
  clear hg hb1 hx1
  go_enter Tryz.func9, Tryz.ntmps9
  go_wp2_with fail
  refine H1.out.mono ?_
  rintro e w2 ⟨A, c, rfl, hat, hb2⟩
  clear hW1 H1
  obtain ⟨tb, tf, rfl, htb, hx0⟩ := flat_get hat 0 ⟨0, 2, 21⟩ rfl
  obtain ⟨tb1, tf1, q1, _, hx1⟩ := flat_get hat 1 ⟨3, 1, 2⟩ rfl
  obtain ⟨tb5, tf5, q5, _, hx5⟩ := flat_get hat 5 ⟨9, 1, 26⟩ rfl
  injection q1 with q1; injection q1 with q1 q1' _
  injection q5 with q5; injection q5 with q5 q5' _
  subst q1 q1' q5 q5'
  have t2 := hx0 2 _ rfl
  have t3 := hx1 0 _ rfl
  have t4 := hx1 1 _ rfl
  have t5 := hx1 2 _ rfl
  have t17 := hx5 2 _ rfl
  simp only [Nat.zero_mul, Nat.one_mul, Nat.add_zero] at t2 t3 t4 t5 t17
  have htl : tb < w2.heap.size := htb
  have HB2 := Lib.hid (HB1.out.trans (hb2.mono HB1.out.size))
  obtain ⟨W3, hW3⟩ : ∃ W3, w2.alloc (.cells #[.int .i64 0, .int .i64 2, .int .i64 1, .int .i64 4, .int .i64 2, .int .i64 2] 71) = W3 := ⟨_, rfl⟩
  have hb3 : Below w2.heap.size w2 W3 := by rw [← hW3]; exact (Below.refl _ _).alloc (Nat.le_refl _) _
  have hx3 : W3.heap[w2.heap.size]? = some (.cells #[.int .i64 0, .int .i64 2, .int .i64 1, .int .i64 4, .int .i64 2, .int .i64 2] 71 (0, 0)) := by rw [← hW3]; exact heap_alloc_new w2 _
  have hl2 : tkD.At W3 (Lt W3) (some ⟨w2.heap.size, 0, none⟩) exL2 := ⟨exL2.flatMap tkC, flatD_of _, fun _ => ⟨_, 0, rfl, lt_of_heap hx3, fun j v hj => by
    rw [Nat.zero_add]
    exact (Lib.cell_of_heap hx3 j).trans (by simpa [exL2, tkC] using hj)⟩⟩
  have hen := enc_okc exS6 exL2 (some ⟨w2.heap.size, 0, none⟩) 2 W3 (Lt W3) hl2 (fun _ h => h) (by decide) exV2
  rw [exE2] at hen
  have HEN := Lib.hid (show Calls Tryz.prog 10 #[.string ⟨#[97, 98, 10, 32, 99, 100]⟩, .slice (some ⟨w2.heap.size, 0, none⟩) 2 2] W3 fun e w' => ∃ A' c', e = .returned (.tuple #[.slice A' 2 c', .int .i64 0]) ∧ tdD.At w' (Nw W3 w') A' exD2 ∧ 2 ≤ c' ∧ Below W3.heap.size W3 w' from hen)
  have HL2 := Lib.hid hl2
  have HB3 := Lib.hid (HB2.out.trans (hb3.mono HB2.out.size))
  have HB23 := Lib.hid hb3
  clear hb2 hb3 hx3 hl2 hen hat hx0 hx1 hx5
  go_wp2_with fail
  refine HEN.out.mono ?_
  rintro e w4 ⟨EA, ec, rfl, hea, hec, hb4⟩
  have HEA := Lib.hid hea
  have HB34 := Lib.hid hb4
  have HB4 := Lib.hid (HB3.out.trans (hb4.mono HB3.out.size))
  have HDE := Lib.hid (show Calls Tryz.prog 11 #[.string ⟨#[97, 98, 10, 32, 99, 100]⟩, .slice EA 2 ec] w4 (DecPost exS6.size (decL (lineStartsL exS6.data.toList) exS6.size 0 0 exD2) w4) from dec_any exS6 exD2 EA ec w4 (Nw W3 w4) hea (fun b hb => hb.2) (by decide) (by decide))
  obtain ⟨eb, eo, rfl, _, _⟩ := flat_get hea 0 ⟨0, 0, 2, 1⟩ rfl
  clear hea hb4 hW3 HEN
  go_wp2_with fail
  refine HDE.out.mono ?_
  rintro e w5 ⟨hp, hb5⟩
  rcases hp with ⟨hp1, _⟩ | ⟨ts, TA, tc, hp1, rfl, hta⟩
  · rw [exDc] at hp1; cases hp1
  rw [exDc] at hp1
  injection hp1 with hp1
  subst hp1
  have HTA := Lib.hid hta
  have HB45 := Lib.hid hb5
  have HB5 := Lib.hid (HB4.out.trans (hb5.mono HB4.out.size))
  have hea5 : tdD.At w5 (Lt w5) (some ⟨eb, eo, none⟩) exD2 := HEA.out.keep (fun b hb => Nat.lt_of_lt_of_le hb.2 hb5.size) (fun b hb => hb5.block b hb.2)
  have hdf := diff_any exD2 (exD2.take 1) (some ⟨eb, eo, none⟩) (some ⟨eb, eo, none⟩) ec ec w5 (Lt w5) hea5 (hea5.take 1) (fun _ h => h) (by decide) (by decide) hec (by show 1 ≤ ec; omega)
  rw [exDs.1, exDs.2] at hdf
  have HDF := Lib.hid (show Calls Tryz.prog 14 #[.slice (some ⟨eb, eo, none⟩) 2 ec, .slice (some ⟨eb, eo, none⟩) 1 ec] w5 fun e w' => ∃ A' c', e = .returned (.tuple #[.int .i64 1, .int .i64 1, .slice A' 0 c']) ∧ _ ∧ Below w5.heap.size w5 w' from hdf)
  have HE5 := Lib.hid hea5
  have hecI : (1 : Int) ≤ ec := by omega
  have e2 : exL2.length = 2 := rfl
  rw [e2]
  clear hta hb5 HDE hea5 hdf e2
  go_wp2_with fail
  refine HDF.out.mono ?_
  rintro e w6 ⟨A', c', rfl, _, hb6⟩
  have hs25 : w2.heap.size ≤ w5.heap.size := by have := HB23.out.size; have := HB34.out.size; have := HB45.out.size; omega
  have hb26 : Below w2.heap.size w2 w6 := ((HB23.out.trans (HB34.out.mono HB23.out.size)).trans (HB45.out.mono (by have := HB23.out.size; have := HB34.out.size; omega))).trans (hb6.mono hs25)
  have t2' := (hb26.cell (p := ⟨tb, _, none⟩) htl).trans t2
  have t3' := (hb26.cell (p := ⟨tb, _, none⟩) htl).trans t3
  have t4' := (hb26.cell (p := ⟨tb, _, none⟩) htl).trans t4
  have t5' := (hb26.cell (p := ⟨tb, _, none⟩) htl).trans t5
  have t17' := (hb26.cell (p := ⟨tb, _, none⟩) htl).trans t17
  have htl6 : tb < w6.heap.size := Nat.lt_of_lt_of_le htl hb26.size
  obtain ⟨W7, hW7⟩ : ∃ W7, w6.alloc (.cells #[.int .i64 0, .int .i64 0, .int .i64 2, .int .i64 1, .int .i64 1, .int .i64 1, .int .i64 2, .int .i64 2] 73) = W7 := ⟨_, rfl⟩
  have hb7 : Below w6.heap.size w6 W7 := by rw [← hW7]; exact (Below.refl _ _).alloc (Nat.le_refl _) _
  have hx7 : W7.heap[w6.heap.size]? = some (.cells #[.int .i64 0, .int .i64 0, .int .i64 2, .int .i64 1, .int .i64 1, .int .i64 1, .int .i64 2, .int .i64 2] 73 (0, 0)) := by rw [← hW7]; exact heap_alloc_new w6 _
  have hd7 : tdD.At W7 (Lt W7) (some ⟨w6.heap.size, 0, none⟩) exD2 := ⟨exD2.flatMap tdC, flatD_of _, fun _ => ⟨_, 0, rfl, lt_of_heap hx7, fun j v hj => by
    rw [Nat.zero_add]
    exact (Lib.cell_of_heap hx7 j).trans (by simpa [exD2, tdC] using hj)⟩⟩
  have hb57 := hb6.trans (hb7.mono hb6.size)
  have hbw7 := HB5.out.trans (hb57.mono HB5.out.size)
  have HED := Lib.hid (show Calls Tryz.prog 13 #[.slice (some ⟨eb, eo, none⟩) 2 ec, .slice (some ⟨w6.heap.size, 0, none⟩) 2 2] W7 fun e w' => e = .returned (.bool true) ∧ Below W7.heap.size W7 w' from eqDeltas_any exD2 (some ⟨eb, eo, none⟩) (some ⟨w6.heap.size, 0, none⟩) ec 2 W7 (Lt W7) (HE5.out.keep (fun b hb => Nat.lt_of_lt_of_le hb hb57.size) (fun b hb => hb57.block b hb)) hd7 (fun _ h => h) (by decide))
  have HT7 := Lib.hid (HTA.out.keep (F' := Lt W7) (fun b hb => Nat.lt_of_lt_of_le hb.2 hb57.size) (fun b hb => hb57.block b hb.2))
  have hb37 := ((HB34.out.trans (HB45.out.mono HB34.out.size)).trans (hb57.mono (by have := HB34.out.size; have := HB45.out.size; omega)))
  have HL7 := Lib.hid (HL2.out.keep (F' := Lt W7) (fun b hb => Nat.lt_of_lt_of_le hb hb37.size) (fun b hb => hb37.block b hb))
  have HB7 := Lib.hid hbw7
  clear hb6 hb26 hb7 hx7 hd7 hb57 hbw7 hb37 t2 t3 t4 t5 t17 HDF
  go_wp2_with fail
  refine HED.out.mono ?_
  rintro e w8 ⟨rfl, hb8⟩
  have HET := Lib.hid (show Calls Tryz.prog 12 #[.slice TA 2 tc, .slice (some ⟨w2.heap.size, 0, none⟩) 2 2] w8 fun e w' => e = .returned (.bool true) ∧ Below w8.heap.size w8 w' from eqTokens_any exL2 TA (some ⟨w2.heap.size, 0, none⟩) tc 2 w8 (Lt w8) (HT7.out.keep (fun b hb => Nat.lt_of_lt_of_le hb hb8.size) (fun b hb => hb8.block b hb)) (HL7.out.keep (fun b hb => Nat.lt_of_lt_of_le hb hb8.size) (fun b hb => hb8.block b hb)) (fun _ h => h) (by decide))
  have HB8 := Lib.hid (HB7.out.trans (hb8.mono HB7.out.size))
  clear hb8 hW7 HED
  go_wp2_with fail
  refine HET.out.mono ?_
  rintro e w9 ⟨rfl, hb9⟩
  have HB9 := Lib.hid (HB8.out.trans (hb9.mono HB8.out.size))
  clear hb9 HET
  go_wp2_with fail
  go_ret
  exact ⟨rfl, HB9.out⟩
end Go.Proofs.YtpibenilagloaaaGreatDoor

/-
  The row's step for semtokens: from the listed variables to Gl; arguments that are slices of tokens and of differences, opened.
-/
namespace Go.Proofs.YtpibenilagloaaaGreatDoor
open Go.ChangeShapes Go.WideShapes Go.ChangeAt Go.RowKit Go.Deep
open Go.ChangeMaps (open_string shut_string)
set_option linter.unusedVariables false

theorem own : ownKnob Tryz.prog.godebug = none := by kernel_rfl
theorem laidOut : laidOutB Tryz.prog = true := by kernel_rfl
theorem glob_rng : Tryz.prog.globalNamed "strconv.ErrRange" = some 4 := by kernel_rfl
theorem asc_data : (Rows.laid_strings_asciiSpace : DataW Unit) = Lib.tabData .u8 Lib.asciiSpaceTab := by kernel_rfl
theorem gl_of_laid {W : World} {laid : List (String × DataW Unit)} (h : laidMet Tryz.prog laid W) (h1 : ("strings.asciiSpace", (Rows.laid_strings_asciiSpace : DataW Unit)) ∈ laid) (h2 : ("strconv.ErrRange", (Rows.laid_strconv_ErrRange : DataW Unit)) ∈ laid) : Gl W := by
  obtain ⟨g, t, cs, fuel, p, hg, ht, hv, hr⟩ := Lib.laidMet.reads h h1
  obtain rfl := Option.some.inj (glob_asc.symm.trans hg)
  obtain rfl := Option.some.inj ((show (Tryz.prog.globals[1]?).map (·.type) = some 291 by kernel_rfl).symm.trans ht)
  rw [asc_data] at hr
  have hcs := Lib.cells_of_tab (n := 256) Tryz.underlying291 Tryz.underlying5 (by kernel_rfl) (by kernel_rfl) hr
  have hasc : AscAt W := by
    unfold AscAt Lib.TabIs
    rw [hv, ← hcs]
  obtain ⟨g2, t2, cs2, fuel2, p2, hg2, ht2, hv2, hr2⟩ := Lib.laidMet.reads h h2
  obtain rfl := Option.some.inj (glob_rng.symm.trans hg2)
  obtain rfl := Option.some.inj ((show (Tryz.prog.globals[4]?).map (·.type) = some 111 by kernel_rfl).symm.trans ht2)
  obtain ⟨f3, u, v, hcs2, _, _⟩ := iface_of_trod Tryz.underlying111 hr2
  have hrng : W.cell? ⟨4, 0, none⟩ = some (.iface u v) := by
    refine World.var?_cell (cs := cs2) glob_rng hv2 0 |>.trans ?_
    have := congrArg (fun l : List Value => l[0]?) hcs2
    simpa using this
  refine ⟨hasc, ⟨u, v, hrng⟩, ?_⟩
  have l1 : 4 < W.heap.size := World.block_lt_of_cell? W ⟨4, 0, none⟩ hrng
  have l2 : 1 < W.heap.size := World.block_lt_of_cell? W ⟨1, 0, none⟩ (Lib.TabIs.cell hasc glob_asc 0 (by rw [Lib.asciiSpaceTab_length]; decide))
  unfold ng
  exact Nat.succ_le_of_lt (Nat.max_lt.2 ⟨l2, l1⟩)

theorem flatMap_get {α : Type} {enc : α → List Value} {k : Nat} (hk : ∀ x, (enc x).length = k) : ∀ (xs : List α) (j : Nat) (u : Value), (xs.flatMap enc)[j]? = some u → ∃ i x j', xs[i]? = some x ∧ (enc x)[j']? = some u ∧ j = i * k + j'
  | [], j, u, h => by simp at h
  | x :: r, j, u, h => by
    rw [List.flatMap_cons] at h
    by_cases hj : j < (enc x).length
    · rw [List.getElem?_append_left hj] at h
      exact ⟨0, x, j, rfl, h, by omega⟩
    · rw [List.getElem?_append_right (by omega)] at h
      obtain ⟨i, y, j', h1, h2, h3⟩ := flatMap_get hk r _ u h
      rw [hk] at h3 hj
      exact ⟨i + 1, y, j', by simpa using h1, h2, by rw [Nat.add_mul]; omega⟩
theorem flat_at4 {α : Type} {enc : α → List Value} {k : Nat} {hp : 0 < k} {hk : ∀ x, (enc x).length = k} {h1 : ∀ x, ∀ v ∈ enc x, v.oneCell' = true} {w : World} {F : Nat → Prop} (xs : List α) (b off : Nat) (hb : F b)
    (h : ∀ i x, xs[i]? = some x → ∀ j u, (enc x)[j]? = some u → w.cell? ⟨b, off + i * k + j, none⟩ = some u) : (flatD enc k hp hk h1).At w F (some ⟨b, off, none⟩) xs := by
  refine ⟨xs.flatMap enc, flatD_of xs, fun _ => ⟨b, off, rfl, hb, fun j u hu => ?_⟩⟩
  obtain ⟨i, x, j', h2, h3, rfl⟩ := flatMap_get hk xs j u hu
  rw [← Nat.add_assoc]
  exact h i x h2 j' u h3
theorem weights_all {P : Program} {H : Type} {t e : TypeId} (hu : P.underlying t = some (.slice e)) {m n : Nat} {D : Nat → DataW H} {by' : Nat} (hb : P.bytesOf e = by') (hn : n ≤ m)
    (hsz : ((DataW.slice ((List.range n).map D) ((List.range (m - n)).map fun j => D (n + j))).weights P t).all (fun x => decide (x ≤ reachBytes)) = true) : n * by' ≤ reachBytes := by
  have := List.all_eq_true.1 hsz ((((List.range n).map D).length + ((List.range (m - n)).map fun j => D (n + j)).length) * P.bytesOf e) (by simp only [DataW.weights, hu, List.mem_cons, true_or])
  have h2 := of_decide_eq_true this
  rw [hb] at h2
  simp at h2
  exact Nat.le_trans (Nat.mul_le_mul_right _ (by omega)) h2
section
variable {H : Type} {enc : TypeId × Value → H}
theorem cells_tk : Tryz.prog.cellsOf 71 = 3 := by kernel_rfl
theorem bytes_tk : Tryz.prog.bytesOf 71 = 24 := by kernel_rfl
set_option maxRecDepth 100000 in
theorem open_tk {W : World} {base : Nat} {v : Value} {d : DataW H} {p : List MemPlace} (hv : Value.okWide Tryz.prog W .any base 30 v)
    (hj : DataW.Trod enc Tryz.prog W 0 (fun _ => true) true 30 v d p) (hsz : (d.weights Tryz.prog 30).all (fun x => decide (x ≤ reachBytes)) = true) :
    ∃ A c es, v = .slice A es.length c ∧ tkD.At W (Lt W) A es ∧ es.length ≤ maxLen ∧ es.length * 24 ≤ 140737488355328 ∧ es.length ≤ c := by
  obtain ⟨a0, len, cap, rfl⟩ := okWide_slice Tryz.underlying30 hv
  obtain ⟨fuel, hf⟩ := hj
  rcases open_slice Tryz.underlying30 hf with ⟨hcs, _⟩ | ⟨a, l, c, m, n, D, Pl, hcs, _, hl, hm, hmm, hx, hi⟩
  · simp [Value.cells] at hcs
    obtain ⟨rfl, rfl, rfl⟩ := hcs
    exact ⟨none, 0, [], rfl, Dat.At.nil, Nat.zero_le _, by simp, Nat.le_refl _⟩
  · simp [Value.cells] at hcs
    obtain ⟨rfl, rfl, rfl⟩ := hcs
    simp only [Prod.mk.injEq] at hx
    obtain ⟨rfl, _⟩ := hx
    have hw : len * 24 ≤ reachBytes := weights_all Tryz.underlying30 bytes_tk (by simp only [if_true] at hmm; omega) hsz
    unfold reachBytes at hw
    have each : ∀ i, i < len → ∃ x : TokS, W.cell? (a.add (i * 3)) = some (.int .i64 x.s) ∧ W.cell? (a.add (i * 3 + 1)) = some (.int .i64 x.l) ∧ W.cell? (a.add (i * 3 + 2)) = some (.int .i64 x.k) := by
      intro i hil
      obtain ⟨cs', hc, ht⟩ := hi i (by simp only [if_true] at hmm; omega)
      rw [cells_tk] at hc
      obtain ⟨xs, k, _, hxy, _, hxl, hfd⟩ := DataW.trod_struct Tryz.underlying71 ht
      obtain ⟨_, hcl, hat⟩ := World.cells?_some hc
      match xs, hxl, cs', hcl with
      | [y0, y1, y2], _, [v0, v1, v2], _ =>
        have g0 := hfd 0 _ rfl
        have g1 := hfd 1 _ rfl
        have g2 := hfd 2 _ rfl
        have i0 : Tryz.prog.cellsOf 3 = 1 := by kernel_rfl
        simp [i0] at g0 g1 g2
        obtain ⟨s0, e0, rfl, w0⟩ := DataW.trod_int Tryz.underlying3 g0
        obtain ⟨s1, e1, rfl, w1⟩ := DataW.trod_int Tryz.underlying3 g1
        obtain ⟨s2, e2, rfl, w2⟩ := DataW.trod_int Tryz.underlying3 g2
        simp at e0 e1 e2
        subst e0 e1 e2
        have a0 := hat 0 (by omega)
        have a1 := hat 1 (by omega)
        have a2 := hat 2 (by omega)
        rw [Go.Deep.add_add] at a0 a1 a2
        exact ⟨⟨s0, s1, s2⟩, by simpa using a0, by simpa using a1, by simpa using a2⟩
    obtain ⟨X, hX⟩ := choose_lt each
    have hlen : ((List.range len).map X).length = len := by simp
    refine ⟨some a, cap, (List.range len).map X, by rw [hlen], ?_, by rw [hlen]; unfold maxLen; omega, by rw [hlen]; omega, by rw [hlen]; omega⟩
    by_cases hp : 0 < len
    · have h0 := (hX 0 hp).1
      obtain ⟨b, off, spot⟩ := a
      have hspot : spot = none := by simpa [Addr.add] using World.cell?_spot h0
      subst hspot
      have hb : b < W.heap.size := by simpa [Addr.add] using World.block_lt_of_cell? W _ h0
      refine flat_at4 _ b off hb fun i x hi j u hu => ?_
      simp only [List.getElem?_map, Option.map_eq_some_iff] at hi
      obtain ⟨i', hi', rfl⟩ := hi
      obtain ⟨hil, hi'⟩ := List.getElem?_eq_some_iff.1 hi'
      simp at hil hi'
      subst hi'
      obtain ⟨c0, c1, c2⟩ := hX i hil
      rw [add_plain] at c0 c1 c2
      match j, hu with
      | 0, hu => simp [tkC] at hu; subst hu; exact c0
      | 1, hu => simp [tkC] at hu; subst hu; rw [Nat.add_assoc]; exact c1
      | 2, hu => simp [tkC] at hu; subst hu; rw [Nat.add_assoc]; exact c2
      | j + 3, hu => simp [tkC] at hu
    · have : len = 0 := by omega
      subst this
      exact Dat.At.nil
theorem cells_td : Tryz.prog.cellsOf 73 = 4 := by kernel_rfl
theorem bytes_td : Tryz.prog.bytesOf 73 = 32 := by kernel_rfl
set_option maxRecDepth 100000 in
theorem open_td {W : World} {base : Nat} {v : Value} {d : DataW H} {p : List MemPlace} (hv : Value.okWide Tryz.prog W .any base 31 v)
    (hj : DataW.Trod enc Tryz.prog W 0 (fun _ => true) true 31 v d p) (hsz : (d.weights Tryz.prog 31).all (fun x => decide (x ≤ reachBytes)) = true) :
    ∃ A c es, v = .slice A es.length c ∧ tdD.At W (Lt W) A es ∧ es.length ≤ maxLen ∧ es.length * 32 ≤ 140737488355328 ∧ es.length ≤ c := by
  obtain ⟨a0, len, cap, rfl⟩ := okWide_slice Tryz.underlying31 hv
  obtain ⟨fuel, hf⟩ := hj
  rcases open_slice Tryz.underlying31 hf with ⟨hcs, _⟩ | ⟨a, l, c, m, n, D, Pl, hcs, _, hl, hm, hmm, hx, hi⟩
  · simp [Value.cells] at hcs
    obtain ⟨rfl, rfl, rfl⟩ := hcs
    exact ⟨none, 0, [], rfl, Dat.At.nil, Nat.zero_le _, by simp, Nat.le_refl _⟩
  · simp [Value.cells] at hcs
    obtain ⟨rfl, rfl, rfl⟩ := hcs
    simp only [Prod.mk.injEq] at hx
    obtain ⟨rfl, _⟩ := hx
    have hw : len * 32 ≤ reachBytes := weights_all Tryz.underlying31 bytes_td (by simp only [if_true] at hmm; omega) hsz
    unfold reachBytes at hw
    have each : ∀ i, i < len → ∃ x : TokD, W.cell? (a.add (i * 4)) = some (.int .i64 x.dl) ∧ W.cell? (a.add (i * 4 + 1)) = some (.int .i64 x.ds) ∧ W.cell? (a.add (i * 4 + 2)) = some (.int .i64 x.l) ∧ W.cell? (a.add (i * 4 + 3)) = some (.int .i64 x.k) := by
      intro i hil
      obtain ⟨cs', hc, ht⟩ := hi i (by simp only [if_true] at hmm; omega)
      rw [cells_td] at hc
      obtain ⟨xs, k, _, hxy, _, hxl, hfd⟩ := DataW.trod_struct Tryz.underlying73 ht
      obtain ⟨_, hcl, hat⟩ := World.cells?_some hc
      match xs, hxl, cs', hcl with
      | [y0, y1, y2, y3], _, [v0, v1, v2, v3], _ =>
        have g0 := hfd 0 _ rfl
        have g1 := hfd 1 _ rfl
        have g2 := hfd 2 _ rfl
        have g3 := hfd 3 _ rfl
        have i0 : Tryz.prog.cellsOf 3 = 1 := by kernel_rfl
        simp [i0] at g0 g1 g2 g3
        obtain ⟨s0, e0, rfl, w0⟩ := DataW.trod_int Tryz.underlying3 g0
        obtain ⟨s1, e1, rfl, w1⟩ := DataW.trod_int Tryz.underlying3 g1
        obtain ⟨s2, e2, rfl, w2⟩ := DataW.trod_int Tryz.underlying3 g2
        obtain ⟨s3, e3, rfl, w3⟩ := DataW.trod_int Tryz.underlying3 g3
        simp at e0 e1 e2 e3
        subst e0 e1 e2 e3
        have a0 := hat 0 (by omega)
        have a1 := hat 1 (by omega)
        have a2 := hat 2 (by omega)
        have a3 := hat 3 (by omega)
        rw [Go.Deep.add_add] at a0 a1 a2 a3
        exact ⟨⟨s0, s1, s2, s3⟩, by simpa using a0, by simpa using a1, by simpa using a2, by simpa using a3⟩
    obtain ⟨X, hX⟩ := choose_lt each
    have hlen : ((List.range len).map X).length = len := by simp
    refine ⟨some a, cap, (List.range len).map X, by rw [hlen], ?_, by rw [hlen]; unfold maxLen; omega, by rw [hlen]; omega, by rw [hlen]; omega⟩
    by_cases hp : 0 < len
    · have h0 := (hX 0 hp).1
      obtain ⟨b, off, spot⟩ := a
      have hspot : spot = none := by simpa [Addr.add] using World.cell?_spot h0
      subst hspot
      have hb : b < W.heap.size := by simpa [Addr.add] using World.block_lt_of_cell? W _ h0
      refine flat_at4 _ b off hb fun i x hi j u hu => ?_
      simp only [List.getElem?_map, Option.map_eq_some_iff] at hi
      obtain ⟨i', hi', rfl⟩ := hi
      obtain ⟨hil, hi'⟩ := List.getElem?_eq_some_iff.1 hi'
      simp at hil hi'
      subst hi'
      obtain ⟨c0, c1, c2, c3⟩ := hX i hil
      rw [add_plain] at c0 c1 c2 c3
      match j, hu with
      | 0, hu => simp [tdC] at hu; subst hu; exact c0
      | 1, hu => simp [tdC] at hu; subst hu; rw [Nat.add_assoc]; exact c1
      | 2, hu => simp [tdC] at hu; subst hu; rw [Nat.add_assoc]; exact c2
      | 3, hu => simp [tdC] at hu; subst hu; rw [Nat.add_assoc]; exact c3
      | j + 4, hu => simp [tdC] at hu
    · have : len = 0 := by omega
      subst this
      exact Dat.At.nil
end
end Go.Proofs.YtpibenilagloaaaGreatDoor
