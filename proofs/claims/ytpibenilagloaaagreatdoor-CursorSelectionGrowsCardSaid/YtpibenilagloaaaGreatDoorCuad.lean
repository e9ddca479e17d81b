import Derived.Test.YtpibenilagloaaaGreatDoorCuac
import Derived.Test.YtpibenilagloaaaGreatDoorMxbd
import Derived.Test.YtpibenilagloaaaGreatDoorMxbk
import Derived.Deep.RegionHeld3
import Derived.Test.YtpibenilagloaaaGreatDoorMxag
import Derived.Test.YtpibenilagloaaaGreatDoorMxbj
/-
  CursorSelectionGrows: the law's walk (the examples are a premise).
-/
namespace Go.Proofs.YtpibenilagloaaaGreatDoor
open Go.RowKit
set_option linter.unusedVariables false

def CexOk (w : World) : Prop := ∀ w', Below w.heap.size w w' → Calls Tryz.prog 7 #[] w' fun e w2 => e = .returned (.bool true) ∧ Below w'.heap.size w' w2
set_option maxRecDepth 100000 in
set_option maxHeartbeats 3200000 in
theorem csg_any (src : ByteArray) (s e : Int) (w : World) (hg : Gl w) (hm : src.size ≤ maxLen) (hs1 : -9223372036854775808 ≤ s ∧ s ≤ 9223372036854775807) (he1 : -9223372036854775808 ≤ e ∧ e ≤ 9223372036854775807) (hx : CexOk w) :
    Calls Tryz.prog 3 #[.string src, .int .i64 s, .int .i64 e] w fun r w' => r = .returned (.bool true) ∧ Below w.heap.size w w' := by
  have HX := Lib.hid hx
  have HX0 := Lib.hid (hx w (Below.refl _ _))
  have hfin : ∀ (err : Int), err ≠ 0 → (∀ w1, Below w.heap.size w w1 → Calls Tryz.prog 8 #[.string src, .int .i64 s, .int .i64 e] w1 fun r w' => r = .returned (.tuple #[.slice none 0 0, .int .i64 err]) ∧ Below w1.heap.size w1 w') →
      Calls Tryz.prog 3 #[.string src, .int .i64 s, .int .i64 e] w fun r w' => r = .returned (.bool true) ∧ Below w.heap.size w w' := by
    intro err herr hcall
    have HC := Lib.hid hcall
    have hb : (err == 0) = false := by simpa using herr
    have hb2 : (err != 0) = true := by simpa using herr
    clear hcall herr hx hg
    go_enter Tryz.func3, Tryz.ntmps3
    go_wp2_with fail
    refine HX0.out.mono ?_
    rintro r w1 ⟨rfl, hb1⟩
    have HB1 := Lib.hid hb1
    have HC1 := Lib.hid (HC.out w1 hb1)
    clear hb1 HX0
    go_wp2_with fail
    refine HC1.out.mono ?_
    rintro r w2 ⟨rfl, hb2⟩
    have HB2 := Lib.hid (HB1.out.trans (hb2.mono HB1.out.size))
    have HX2 := Lib.hid (HX.out w2 HB2.out)
    clear hb2 HC1
    go_wp2_with fail
    refine HX2.out.mono ?_
    rintro r w3 ⟨rfl, hb3⟩
    have HB3 := Lib.hid (HB2.out.trans (hb3.mono HB2.out.size))
    clear hb3 HX2
    go_wp2_with fail
    go_ret
    exact ⟨rfl, HB3.out⟩
  by_cases hs : src.size ≤ 2000
  · obtain ⟨n, u, hu⟩ := file_ends (tokensL src.data.toList) (Nat.le_trans (tokensL_length _) (by rw [show src.data.toList.length = src.size from Array.length_toList]; exact hs))
    by_cases hc : 0 ≤ s ∧ s ≤ e ∧ e ≤ src.size
    · obtain ⟨h1, h2, h3⟩ := hc
      have hok := exL_ok src hs n u hu s e h1 h2 h3
      have hcall := fun w1 (hb : Below w.heap.size w w1) => expand_any src s e w1 (gl_below hg hb) hs n u hu h1 h2 h3
      clear hfin
      obtain ⟨xs, hxs⟩ : ∃ xs, exL src u.ch s e = xs := ⟨_, rfl⟩
      rw [hxs] at hok hcall
      have HC := Lib.hid hcall
      have HOK := Lib.hid hok
      have hwe : IntKind.i64.wrap (e - s) = e - s := IntWalk.i64_in _ (by omega)
      clear hcall hok hu hxs hx hg
      go_enter Tryz.func3, Tryz.ntmps3
      go_wp2_with fail
      refine HX0.out.mono ?_
      rintro r w1 ⟨rfl, hb1⟩
      have HB1 := Lib.hid hb1
      have HC1 := Lib.hid (HC.out w1 hb1)
      clear hb1 HX0
      go_wp2_with fail
      refine HC1.out.mono ?_
      rintro r w2 ⟨A, c, rfl, hf, hb2⟩
      have HB2 := Lib.hid (HB1.out.trans (hb2.mono HB1.out.size))
      have HF := Lib.hid hf
      obtain ⟨N, hN⟩ : ∃ N, xs.length = N := ⟨_, rfl⟩
      have hNb : N ≤ 700000 := by rw [← hN]; exact HOK.out.len
      have HN := Lib.hid hN
      rw [hN]
      clear hb2 hf HC1 hN
      go_wp2_with fail
      go_loopw [9] (fun i wr => ∃ j : Nat, i = .int .i64 (j : Int) ∧ j ≤ N ∧ Below w2.heap.size w2 wr) (fun i _ => N - (intOf i).toNat)
      case atStart => exact ⟨0, rfl, Nat.zero_le _, Below.refl _ _⟩
      case round =>
        obtain ⟨j, rfl, hj, hb⟩ := hrel
        by_cases hlt : j < N
        · have hjI : (j : Int) < N := by omega
          have hjl : j < xs.length := by rw [HN.out]; exact hlt
          have hxj := List.getElem?_eq_getElem hjl
          obtain ⟨b, off, hA, hbn, hcl⟩ := HF.out (by omega)
          subst hA
          have hbl : b < w2.heap.size := hbn.2
          have hcw : ∀ i x, xs[i]? = some x → ∀ t v, (Rg3.cells x)[t]? = some v → wr.cell? ⟨b, off + i * 3 + t, none⟩ = some v := fun i x hi t v hv => (World.cell?_of_block (w := w2) (w' := wr) (a := ⟨b, _, none⟩) (hb.block b hbl)).trans (hcl i x hi t v hv)
          obtain ⟨k1, k2, k3⟩ := HOK.out.has j _ hxj
          have hg := fun y k (hk : j = k + 1) (hy : xs[k]? = some y) => HOK.out.grow k y xs[j] hy (by rw [← hk]; exact hxj)
          obtain ⟨x, hxx⟩ : ∃ x, xs[j] = x := ⟨_, rfl⟩
          rw [hxx] at hxj k1 k2 k3 hg
          obtain ⟨x0, x1, x2⟩ := x
          have c0 := hcw j _ hxj 0 _ rfl
          have c1 := hcw j _ hxj 1 _ rfl
          have c2 := hcw j _ hxj 2 _ rfl
          rw [Nat.add_zero] at c0
          have hb2 := hb.size
          have hbl2 : b < wr.heap.size := by omega
          obtain ⟨W1, hW1⟩ : ∃ W1, wr.alloc (.cells #[.int .i64 x0, .int .i64 x1, .int .i64 x2] 28) = W1 := ⟨_, rfl⟩
          have hbW : Below wr.heap.size wr W1 := by rw [← hW1]; exact (Below.refl _ _).alloc (Nat.le_refl _) _
          have hvh : W1.heap[wr.heap.size]? = some (.cells #[.int .i64 x0, .int .i64 x1, .int .i64 x2] 28) := by rw [← hW1]; exact heap_alloc_new wr _
          have v0 := cell_of hvh 0 _ rfl
          have v1 := cell_of hvh 1 _ rfl
          have v2 := cell_of hvh 2 _ rfl
          have vl := lt_of_heap hvh
          have hbl3 : b < W1.heap.size := by omega
          have HBW := Lib.hid (hb.trans (hbW.mono hb2))
          simp only at k1 k2 k3 hg c0 c1 c2
          rw [hwe] at k3
          have q1 : ¬ s < x1 := by omega
          have q2 : ¬ x2 < e := by omega
          have q3 : ¬ x1 > s := by omega
          have HCW := Lib.hid hcw
          have HG := Lib.hid hg
          have hcb : ∀ a : Addr, a.block < wr.heap.size → W1.cell? a = wr.cell? a := fun a ha => hbW.cell (p := a) ha
          have HCB := Lib.hid hcb
          clear hxx hxj hcw hcl hg hb hbW hvh hcb
          by_cases hj0 : j = 0
          · subst hj0
            simp only [Nat.zero_mul, Nat.add_zero] at c0 c1 c2
            generalize hdx : IntKind.i64.wrap (x2 - x1) = dx at *
            go_wp2_with fail
            go_region
            all_goals (try go_wp2_with fail)
            all_goals exact ⟨⟨1, by go_num, by omega, by first | exact HBW.out.drew | exact HBW.out⟩, by simp [intOf]; omega⟩
          · obtain ⟨k, rfl⟩ : ∃ k, j = k + 1 := ⟨j - 1, by omega⟩
            have hkl : k < xs.length := by omega
            have hyk := List.getElem?_eq_getElem hkl
            obtain ⟨y, hyy⟩ : ∃ y, xs[k] = y := ⟨_, rfl⟩
            rw [hyy] at hyk
            have g1 := HG.out y k rfl hyk
            obtain ⟨y0, y1, y2⟩ := y
            have d0 := (HCB.out ⟨b, off + k * 3 + 0, none⟩ hbl2).trans (HCW.out k _ hyk 0 _ rfl)
            have d1 := (HCB.out ⟨b, off + k * 3 + 1, none⟩ hbl2).trans (HCW.out k _ hyk 1 _ rfl)
            have d2 := (HCB.out ⟨b, off + k * 3 + 2, none⟩ hbl2).trans (HCW.out k _ hyk 2 _ rfl)
            simp only at g1 d0 d1 d2
            have hw1 : IntKind.i64.wrap (((k + 1 : Nat) : Int) - 1) = (k : Int) := by rw [IntWalk.i64_in _ (by have := HN.out; omega)]; omega
            have hkN : (k : Int) < N := by omega
            clear hyk hyy
            generalize hdx : IntKind.i64.wrap (x2 - x1) = dx at *
            generalize hdy : IntKind.i64.wrap (y2 - y1) = dy at *
            go_wp2_with fail
            go_region
            go_wp2_with fail
            exact ⟨⟨k + 1 + 1, by go_num, by omega, HBW.out.drew⟩, by simp [intOf]; omega⟩
        · have hjI : ¬ (j : Int) < N := by omega
          have HB3 := Lib.hid (HB2.out.trans (hb.mono HB2.out.size))
          have HX3 := Lib.hid (HX.out wr HB3.out)
          clear hb
          go_wp2_with fail
          refine HX3.out.mono ?_
          rintro r w4 ⟨rfl, hb4⟩
          have HB4 := Lib.hid (HB3.out.trans (hb4.mono HB3.out.size))
          clear hb4
          go_wp2_with fail
          go_ret
          exact ⟨rfl, HB4.out⟩
    · exact hfin 1 (by decide) fun w1 hb => expand_none src s e w1 (gl_below hg hb) hs n u hu hc
  · exact hfin 2 (by decide) fun w1 hb => expand_big src s e w1 (by omega) hm
end Go.Proofs.YtpibenilagloaaaGreatDoor

/-
  cursor.SymbolAt's closure: is the offset at the name that starts at 'start'?
-/
namespace Go.Proofs.YtpibenilagloaaaGreatDoor
open Go.RowKit
set_option linter.unusedVariables false

/-- atOffset, for a start that is no negative number -/
def atSy (src : ByteArray) (md of : Nat) (m : Int) (st : Nat) : Bool := m == (md : Int) && decide (st ≤ of ∧ of ≤ st + idLen src st)
set_option maxRecDepth 100000 in
set_option maxHeartbeats 3200000 in
theorem symAt1_any (src : ByteArray) (md of : Nat) (m : Int) (st : Nat) (a b c : Addr) (w : World) (hs : src.size ≤ 2000) (hof : of ≤ src.size) (ha : w.cell? a = some (.int .i64 (md : Int))) (hb : w.cell? b = some (.int .i64 (of : Int))) (hc : w.cell? c = some (.string src)) :
    Calls Tryz.prog 48 #[.int .i64 m, .int .i64 (st : Int), .pointer (some a), .pointer (some b), .pointer (some c)] w fun e w' => e = .returned (.bool (atSy src md of m st)) ∧ Below w.heap.size w w' := by
  have la := World.block_lt_of_cell? w a ha
  have lb := World.block_lt_of_cell? w b hb
  have lc := World.block_lt_of_cell? w c hc
  by_cases h1 : m = (md : Int)
  · by_cases h2 : st ≤ of
    · have HA := Lib.hid (show atSy src md of m st = decide (of ≤ st + idLen src st) by unfold atSy; rw [h1]; simp [h2])
      have HI := Lib.hid (fun W => identLen_any src st W (by omega) hs)
      have k1 : (m == (md : Int)) = true := by simpa using h1
      have k2 : (0 : Int) ≤ st := by omega
      have k3 : (st : Int) ≤ of := by omega
      have hil : idLen src st ≤ 2000 := by
        unfold idLen
        refine Nat.le_trans (List.takeWhile_sublist _).length_le ?_
        rw [List.length_drop, Array.length_toList]
        have h2 : src.data.size = src.size := rfl
        omega
      generalize idLen src st = il at *
      have hw : IntKind.i64.wrap ((st : Int) + il) = ((st + il : Nat) : Int) := by rw [IntWalk.i64_in _ (by omega)]; omega
      clear h1
      have HIW := Lib.hid (HI.out w)
      go_enter Tryz.func48, Tryz.ntmps48
      go_wp2_with fail
      go_region_held3 (fun w' => w'.cell? a = some (.int .i64 (md : Int)) ∧ w'.cell? b = some (.int .i64 (of : Int)) ∧ w'.cell? c = some (.string src)) (first | go_keep | trivial) ((go_at_call 20; refine (HI.out _).mono ?_; rintro e w2 ⟨rfl, rfl⟩))
      go_wp2_with fail
      go_ret
      refine ⟨?_, (Below.refl _ _).drew⟩
      rw [HA.out]
      have e : decide ((of : Int) ≤ (st : Int) + il) = decide (of ≤ st + il) := by rw [decide_eq_decide]; omega
      rw [← e]; rfl
    · have HA := Lib.hid (show atSy src md of m st = false by unfold atSy; simp [h2])
      have k1 : (m == (md : Int)) = true := by simpa using h1
      have k2 : (0 : Int) ≤ st := by omega
      have k3 : ¬ (st : Int) ≤ of := by omega
      clear h1
      go_enter Tryz.func48, Tryz.ntmps48
      go_wp2_with fail
      go_region
      go_wp2_with fail
      go_ret
      exact ⟨by rw [HA.out]; rfl, (Below.refl _ _).drew⟩
  · have HA := Lib.hid (show atSy src md of m st = false by unfold atSy; simp [h1])
    have k1 : (m == (md : Int)) = false := by simpa using h1
    clear h1
    go_enter Tryz.func48, Tryz.ntmps48
    go_wp2_with fail
    go_region
    go_wp2_with fail
    go_ret
    exact ⟨by rw [HA.out]; rfl, (Below.refl _ _).drew⟩
end Go.Proofs.YtpibenilagloaaaGreatDoor

/-
  cursor.SymbolAt's closure at any start; what SymbolAt answers, as plain data.
-/
namespace Go.Proofs.YtpibenilagloaaaGreatDoor
open Go.RowKit
set_option linter.unusedVariables false

def atSI (src : ByteArray) (md of : Nat) (m st : Int) : Bool := decide (0 ≤ st) && atSy src md of m st.toNat
set_option maxRecDepth 100000 in
set_option maxHeartbeats 3200000 in
theorem symAtI_any (src : ByteArray) (md of : Nat) (m st : Int) (a b c : Addr) (w : World) (hs : src.size ≤ 2000) (hof : of ≤ src.size) (ha : w.cell? a = some (.int .i64 (md : Int))) (hb : w.cell? b = some (.int .i64 (of : Int))) (hc : w.cell? c = some (.string src)) :
    Calls Tryz.prog 48 #[.int .i64 m, .int .i64 st, .pointer (some a), .pointer (some b), .pointer (some c)] w fun e w' => e = .returned (.bool (atSI src md of m st)) ∧ Below w.heap.size w w' := by
  by_cases h0 : 0 ≤ st
  · obtain ⟨n, rfl⟩ : ∃ n : Nat, st = n := ⟨st.toNat, by omega⟩
    have e : atSI src md of m n = atSy src md of m n := by unfold atSI; simp
    rw [e]
    exact symAt1_any src md of m n a b c w hs hof ha hb hc
  · have la := World.block_lt_of_cell? w a ha
    have HA := Lib.hid (show atSI src md of m st = false by unfold atSI; simp [h0])
    have k2 : decide ((0 : Int) ≤ st) = false := decide_eq_false h0
    have k3 : st < 0 := by omega
    clear h0
    cases k1 : (m == (md : Int))
    · go_enter Tryz.func48, Tryz.ntmps48
      go_wp2_with fail
      go_region
      go_wp2_with fail
      go_ret
      exact ⟨by rw [HA.out]; rfl, (Below.refl _ _).drew⟩
    · go_enter Tryz.func48, Tryz.ntmps48
      go_wp2_with fail
      go_region
      go_wp2_with fail
      go_ret
      exact ⟨by rw [HA.out]; rfl, (Below.refl _ _).drew⟩
def hitY (src : ByteArray) (md of : Nat) (y : Sym) : Bool := decide (y.kind ≠ 6) && atSI src md of y.mod y.st
def hitR (src : ByteArray) (md of : Nat) (r : Rfn) : Bool := decide (0 ≤ r.sym) && atSI src md of r.mod r.st
def saY (p : Sym → Bool) : Nat → List Sym → Option (Int × Int)
  | _, [] => none
  | i, y :: r => if p y then some ((i : Int), y.st) else saY p (i + 1) r
def saR (p : Rfn → Bool) : List Rfn → Option (Int × Int)
  | [] => none
  | y :: r => if p y then some (y.sym, y.st) else saR p r
theorem saY_hit (p : Sym → Bool) : ∀ (l : List Sym) (i j : Nat) (y : Sym), (∀ k z, k < j → l[k]? = some z → p z = false) → l[j]? = some y → p y = true → saY p i l = some (((i + j : Nat) : Int), y.st)
  | [], _, _, _, _, h, _ => by simp at h
  | z :: r, i, 0, y, _, h, hp => by
    simp at h; subst h
    rw [saY, if_pos hp]; rfl
  | z :: r, i, j + 1, y, h1, h, hp => by
    have h0 := h1 0 z (by omega) rfl
    rw [saY, if_neg (by rw [h0]; decide), saY_hit p r (i + 1) j y (fun k x hk hx => h1 (k + 1) x (by omega) hx) h hp]
    congr 2
    rw [show i + 1 + j = i + (j + 1) by omega]
theorem saY_none (p : Sym → Bool) : ∀ (l : List Sym) (i : Nat), (∀ (k : Nat) z, l[k]? = some z → p z = false) → saY p i l = none
  | [], _, _ => rfl
  | z :: r, i, h => by
    rw [saY, if_neg (by rw [h 0 z rfl]; decide)]
    exact saY_none p r (i + 1) fun k x hx => h (k + 1) x hx
theorem saR_hit (p : Rfn → Bool) : ∀ (l : List Rfn) (j : Nat) (y : Rfn), (∀ k z, k < j → l[k]? = some z → p z = false) → l[j]? = some y → p y = true → saR p l = some (y.sym, y.st)
  | [], _, _, _, h, _ => by simp at h
  | z :: r, 0, y, _, h, hp => by
    simp at h; subst h
    rw [saR, if_pos hp]
  | z :: r, j + 1, y, h1, h, hp => by
    have h0 := h1 0 z (by omega) rfl
    rw [saR, if_neg (by rw [h0]; decide), saR_hit p r j y (fun k x hk hx => h1 (k + 1) x (by omega) hx) h hp]
theorem saR_none (p : Rfn → Bool) : ∀ (l : List Rfn), (∀ (k : Nat) z, l[k]? = some z → p z = false) → saR p l = none
  | [], _ => rfl
  | z :: r, h => by
    rw [saR, if_neg (by rw [h 0 z rfl]; decide)]
    exact saR_none p r fun k x hx => h (k + 1) x hx
def saL (src : ByteArray) (md of : Nat) (ss : List Sym) (rf : List Rfn) : Int × Int × Int :=
  match saY (hitY src md of) 0 ss with
  | some (i, s) => (i, s, 0)
  | none => match saR (hitR src md of) rf with
    | some (i, s) => (i, s, 0)
    | none => (0, 0, 5)
end Go.Proofs.YtpibenilagloaaaGreatDoor

/-
  cursor.SymbolAt where Resolve's answer is known, at the first module.
-/
namespace Go.Proofs.YtpibenilagloaaaGreatDoor
open Go.RowKit
set_option linter.unusedVariables false

/-- what Resolve leaves: symbols ss, references rf, nd diagnostics -/
def ResP (ss : List Sym) (rf : List Rfn) (nd : Nat) (w : World) (e : Ending) (w' : World) : Prop :=
  ∃ SA sc RA rc DA dc, e = .returned (.tuple #[.agg #[.slice SA ss.length sc, .slice RA rf.length rc, .slice DA nd dc], .int .i64 0]) ∧ syD.At w' (Lt w') SA ss ∧ rfD.At w' (Lt w') RA rf ∧ Below w.heap.size w w'
def SaPost (src : ByteArray) (of : Nat) (ss : List Sym) (rf : List Rfn) (w : World) (e : Ending) (w' : World) : Prop :=
  e = .returned (.tuple #[.int .i64 (saL src 0 of ss rf).1, .int .i64 (saL src 0 of ss rf).2.1, .int .i64 (saL src 0 of ss rf).2.2]) ∧ Below w.heap.size w w'
set_option maxRecDepth 100000 in
set_option maxHeartbeats 12800000 in
theorem symbolAt_of (nm src : ByteArray) (ss : List Sym) (rf : List Rfn) (nd mb mo mc of : Nat) (w : World) (hsz : src.size ≤ 2000) (hof : of ≤ src.size) (hb : mb < w.heap.size) (hc1 : w.cell? ⟨mb, mo + 1, none⟩ = some (.string src))
    (hs : ss.length ≤ 1000) (hr : rf.length ≤ 1000) (hres : ∀ w', Below w.heap.size w w' → Calls Tryz.prog 38 #[.slice (some ⟨mb, mo, none⟩) 1 mc] w' (ResP ss rf nd w')) :
    Calls Tryz.prog 19 #[.slice (some ⟨mb, mo, none⟩) 1 mc, .int .i64 0, .int .i64 (of : Int)] w (SaPost src of ss rf w) := by
  obtain ⟨n, hn⟩ : ∃ n, ss.length = n := ⟨_, rfl⟩
  obtain ⟨m, hm⟩ : ∃ m, rf.length = m := ⟨_, rfl⟩
  have HN := Lib.hid hn
  have HM := Lib.hid hm
  rw [hn] at hs
  rw [hm] at hr
  obtain ⟨W0, hW0⟩ : ∃ W0, w.alloc (.cells #[.int .i64 0] 3) = W0 := ⟨_, rfl⟩
  obtain ⟨W1, hW1⟩ : ∃ W1, W0.alloc (.cells #[.int .i64 (of : Int)] 3) = W1 := ⟨_, rfl⟩
  have hb0 : Below w.heap.size w W0 := by rw [← hW0]; exact (Below.refl _ _).alloc (Nat.le_refl _) _
  have hx0 : W0.heap[w.heap.size]? = some (.cells #[.int .i64 0] 3 (0, 0)) := by rw [← hW0]; exact heap_alloc_new w _
  have hs0 : W0.heap.size = w.heap.size + 1 := by rw [← hW0]; simp
  have hb1 : Below W0.heap.size W0 W1 := by rw [← hW1]; exact (Below.refl _ _).alloc (Nat.le_refl _) _
  have hx1 : W1.heap[W0.heap.size]? = some (.cells #[.int .i64 (of : Int)] 3 (0, 0)) := by rw [← hW1]; exact heap_alloc_new W0 _
  have hb01 : Below w.heap.size w W1 := hb0.trans (hb1.mono hb0.size)
  have hm0 : w.heap.size < W0.heap.size := by omega
  have hx10 := (hb1.block _ hm0).trans hx0
  have HR := Lib.hid (hres W1 hb01)
  have HB1 := Lib.hid hb01
  have HX0 := Lib.hid hx10
  have HX1 := Lib.hid hx1
  have hl1 := lt_of_heap hx1
  have HC1 := Lib.hid hc1
  have HSL := Lib.hid (show ∀ a b c : Int, saL src 0 of ss rf = (a, b, c) → SaPost src of ss rf w = fun e w' => e = .returned (.tuple #[.int .i64 a, .int .i64 b, .int .i64 c]) ∧ Below w.heap.size w w' from fun a b c h => by funext e w'; unfold SaPost; rw [h])
  clear hres hb0 hx0 hb1 hx1 hb01 hx10 hn hm hc1 hs0 hm0
  go_enter Tryz.func19, Tryz.ntmps19
  go_wp2_with fail
  refine HR.out.mono ?_
  rintro e w2 ⟨SA, sc, RA, rc, DA, dc, rfl, hsy, hrf, hb2⟩
  rw [HN.out, HM.out]
  have h02 := hb2.size
  obtain ⟨W3, hW3⟩ : ∃ W3, w2.alloc (.cells #[.slice SA n sc, .slice RA m rc, .slice DA nd dc] 85) = W3 := ⟨_, rfl⟩
  have hb3 : Below w2.heap.size w2 W3 := by rw [← hW3]; exact (Below.refl _ _).alloc (Nat.le_refl _) _
  have hx3 : W3.heap[w2.heap.size]? = some (.cells #[.slice SA n sc, .slice RA m rc, .slice DA nd dc] 85 (0, 0)) := by rw [← hW3]; exact heap_alloc_new w2 _
  have hb13 := hb2.trans (hb3.mono h02)
  have a0 : W3.cell? ⟨w.heap.size, 0, none⟩ = some (.int .i64 0) := cell_of ((hb13.block _ (lt_of_heap HX0.out)).trans HX0.out) 0 _ rfl
  have a1 : W3.cell? ⟨W0.heap.size, 0, none⟩ = some (.int .i64 (of : Int)) := cell_of ((hb13.block _ (lt_of_heap HX1.out)).trans HX1.out) 0 _ rfl
  have hmb1 : mb < W1.heap.size := Nat.lt_of_lt_of_le hb HB1.out.size
  have a2 : W3.cell? ⟨mb, mo + 1, none⟩ = some (.string src) := (hb13.cell (p := ⟨mb, _, none⟩) hmb1).trans ((HB1.out.cell (p := ⟨mb, _, none⟩) hb).trans HC1.out)
  have hs3 := hb13.size
  have l0 : w.heap.size < W3.heap.size := by have := lt_of_heap HX0.out; omega
  have l1 : W0.heap.size < W3.heap.size := by omega
  have l2 : mb < W3.heap.size := by omega
  have l3 := lt_of_heap hx3
  have r0 := cell_of hx3 0 _ rfl
  have r1 := cell_of hx3 1 _ rfl
  have HS3 := Lib.hid (hsy.keep (F' := Lt W3) (fun b hb => Nat.lt_of_lt_of_le hb hb3.size) (fun b hb => hb3.block b hb))
  have HR3 := Lib.hid (hrf.keep (F' := Lt W3) (fun b hb => Nat.lt_of_lt_of_le hb hb3.size) (fun b hb => hb3.block b hb))
  have HB3 := Lib.hid (HB1.out.trans (hb13.mono HB1.out.size))
  have k1 : ¬ (src.size : Int) < of := by omega
  have k2 : ¬ (of : Int) < 0 := by omega
  have k3 : ¬ src.size < of := by omega
  clear hsy hrf hb2 hb3 hx3 hb13 HR
  go_wp2_with fail
  go_quiet (fail)
  clear hW3
  have hbV : Below W3.heap.size W3 (W3.drewN nq) := below_drewN (Below.refl _ _) _
  generalize W3.drewN nq = V at *
  have hsV := hbV.size
  have b0 : V.cell? ⟨w.heap.size, 0, none⟩ = some (.int .i64 0) := (hbV.cell (p := ⟨_, 0, none⟩) l0).trans a0
  have b1 : V.cell? ⟨W0.heap.size, 0, none⟩ = some (.int .i64 (of : Int)) := (hbV.cell (p := ⟨_, 0, none⟩) l1).trans a1
  have b2 : V.cell? ⟨mb, mo + 1, none⟩ = some (.string src) := (hbV.cell (p := ⟨mb, _, none⟩) l2).trans a2
  have v0 := (hbV.cell (p := ⟨w2.heap.size, 0, none⟩) l3).trans r0
  have v1 := (hbV.cell (p := ⟨w2.heap.size, 1, none⟩) l3).trans r1
  have n0 : w.heap.size < V.heap.size := by omega
  have n1 : W0.heap.size < V.heap.size := by omega
  have n2 : mb < V.heap.size := by omega
  have n3 : w2.heap.size < V.heap.size := by omega
  obtain ⟨W4, hW4⟩ : ∃ W4, V.alloc (.cells #[.string src] 9) = W4 := ⟨_, rfl⟩
  have hb4V : Below V.heap.size V W4 := by rw [← hW4]; exact (Below.refl _ _).alloc (Nat.le_refl _) _
  have hb4 : Below W3.heap.size W3 W4 := hbV.trans (hb4V.mono hsV)
  have hx4 : W4.heap[V.heap.size]? = some (.cells #[.string src] 9 (0, 0)) := by rw [← hW4]; exact heap_alloc_new V _
  have a0' : W4.cell? ⟨w.heap.size, 0, none⟩ = some (.int .i64 0) := (hb4V.cell (p := ⟨_, 0, none⟩) n0).trans b0
  have a1' : W4.cell? ⟨W0.heap.size, 0, none⟩ = some (.int .i64 (of : Int)) := (hb4V.cell (p := ⟨_, 0, none⟩) n1).trans b1
  have a2' : W4.cell? ⟨V.heap.size, 0, none⟩ = some (.string src) := cell_of hx4 0 _ rfl
  have r0' := (hb4V.cell (p := ⟨w2.heap.size, 0, none⟩) n3).trans v0
  have r1' := (hb4V.cell (p := ⟨w2.heap.size, 1, none⟩) n3).trans v1
  have hs4 := hb4.size
  have m0 : w.heap.size < W4.heap.size := by omega
  have m1 : W0.heap.size < W4.heap.size := by omega
  have m2 := lt_of_heap hx4
  have m3 : w2.heap.size < W4.heap.size := by omega
  have HS4 := Lib.hid (HS3.out.keep (F' := Lt W4) (fun b hb => Nat.lt_of_lt_of_le hb hb4.size) (fun b hb => hb4.block b hb))
  have HR4 := Lib.hid (HR3.out.keep (F' := Lt W4) (fun b hb => Nat.lt_of_lt_of_le hb hb4.size) (fun b hb => hb4.block b hb))
  have HB4 := Lib.hid (HB3.out.trans (hb4.mono HB3.out.size))
  have HCL := Lib.hid (fun (k st : Int) (W : World) (hb : Below W4.heap.size W4 W) => symAtI_any src 0 of k st ⟨w.heap.size, 0, none⟩ ⟨W0.heap.size, 0, none⟩ ⟨V.heap.size, 0, none⟩ W hsz hof ((hb.cell (p := ⟨_, 0, none⟩) m0).trans a0') ((hb.cell (p := ⟨_, 0, none⟩) m1).trans a1') ((hb.cell (p := ⟨_, 0, none⟩) m2).trans a2'))
  have HQ1 := Lib.hid (fun (W : World) (hb : Below W4.heap.size W4 W) => (hb.cell (p := ⟨w2.heap.size, 1, none⟩) m3).trans r1')
  have HA1 := Lib.hid (fun (W : World) (hb : Below W4.heap.size W4 W) => (hb.cell (p := ⟨W0.heap.size, 0, none⟩) m1).trans a1')
  clear hb4 hb4V hbV hx4 a0' a1' a2' HS3 HR3 HB3 HC1 HX0 HX1
  go_wp2_with fail
  go_loopw [58] (fun i wr => ∃ j : Nat, i = .int .i64 (j : Int) ∧ j ≤ n ∧ (∀ (k : Nat) z, k < j → ss[k]? = some z → hitY src 0 of z = false) ∧ Below W4.heap.size W4 wr) (fun i _ => n - (intOf i).toNat)
  case atStart => exact ⟨0, rfl, Nat.zero_le _, fun k z hk => absurd hk (Nat.not_lt_zero _), Below.refl _ _⟩
  case round =>
    obtain ⟨j, rfl, hj, hall, hb⟩ := hrel
    have HALL := Lib.hid hall
    have hbs := hb.size
    clear hall
    by_cases hlt : j < n
    · have hjI : (j : Int) < n := by omega
      have hjl : j < ss.length := by rw [HN.out]; exact hlt
      have hyj : ss[j]? = some ss[j] := List.getElem?_eq_getElem hjl
      obtain ⟨tb, off, rfl, htb, hxc⟩ := flat_get HS4.out j ss[j] hyj
      obtain ⟨y, hyy⟩ : ∃ y, ss[j] = y := ⟨_, rfl⟩
      rw [hyy] at hyj hxc
      obtain ⟨y0, y1, y2, y3, y4, y5⟩ := y
      have htb' : tb < W4.heap.size := htb
      have htw : tb < wr.heap.size := by omega
      have cc : ∀ i u, ([.int .i64 y0, .int .i64 y1, .int .i64 y2, .int .i64 y3, .string y4, .bool y5] : List Value)[i]? = some u → wr.cell? ⟨tb, off + j * 6 + i, none⟩ = some u := fun i u hu => (hb.cell (p := ⟨tb, _, none⟩) htb').trans (hxc i u hu)
      have d0 := cc 0 _ rfl
      have d1 := cc 1 _ rfl
      have d2 := cc 2 _ rfl
      have d3 := cc 3 _ rfl
      have d4 := cc 4 _ rfl
      have d5 := cc 5 _ rfl
      rw [Nat.add_zero] at d0
      obtain ⟨W5, hW5⟩ : ∃ W5, wr.alloc (.cells #[.int .i64 y0, .int .i64 y1, .int .i64 y2, .int .i64 y3, .string y4, .bool y5] 89) = W5 := ⟨_, rfl⟩
      have hb5 : Below wr.heap.size wr W5 := by rw [← hW5]; exact (Below.refl _ _).alloc (Nat.le_refl _) _
      have hx5 : W5.heap[wr.heap.size]? = some (.cells #[.int .i64 y0, .int .i64 y1, .int .i64 y2, .int .i64 y3, .string y4, .bool y5] 89 (0, 0)) := by rw [← hW5]; exact heap_alloc_new wr _
      have s0 := cell_of hx5 0 _ rfl
      have s1 := cell_of hx5 1 _ rfl
      have s2 := cell_of hx5 2 _ rfl
      have l5 := lt_of_heap hx5
      have hb45 := hb.trans (hb5.mono hbs)
      have HB5 := Lib.hid hb45
      have HC5 := Lib.hid (HCL.out y1 y2 W5 hb45)
      have HX5 := Lib.hid hx5
      have HY := Lib.hid hyj
      have HIT := Lib.hid (show hitY src 0 of ⟨y0, y1, y2, y3, y4, y5⟩ = (decide (y0 ≠ 6) && atSI src 0 of y1 y2) from rfl)
      have HNX := Lib.hid (show hitY src 0 of ⟨y0, y1, y2, y3, y4, y5⟩ = false → ∀ (k : Nat) z, k < j + 1 → ss[k]? = some z → hitY src 0 of z = false from fun hf k z hk hz => by
        by_cases e : k < j
        · exact HALL.out k z e hz
        · obtain rfl : k = j := by omega
          rw [HY.out] at hz; injection hz with hz; rw [← hz]; exact hf)
      clear cc hxc hb hb5 hx5 hyj hyy hb45
      by_cases g6 : y0 = 6
      · have k6 : (y0 != 6) = false := by simpa using g6
        have HF := Lib.hid (HNX.out (by rw [HIT.out]; simp [g6]))
        clear g6
        go_wp2_with fail
        go_roundw
        case rel => exact ⟨j + 1, by go_num, by omega, HF.out, HB5.out⟩
        case measure => simp [intOf]; omega
      · have k6 : (y0 != 6) = true := by simpa using g6
        obtain ⟨t, ht⟩ : ∃ t, atSI src 0 of y1 y2 = t := ⟨_, rfl⟩
        rw [ht] at HC5
        cases t with
        | false =>
          have HF := Lib.hid (HNX.out (by rw [HIT.out, ht]; simp))
          clear g6 ht
          go_wp2_with fail
          refine HC5.out.mono ?_
          rintro e w6 ⟨rfl, hb6⟩
          have HB6 := Lib.hid (HB5.out.trans (hb6.mono HB5.out.size))
          clear hb6 HC5
          go_wp2_with fail
          go_roundw
          case rel => exact ⟨j + 1, by go_num, by omega, HF.out, HB6.out⟩
          case measure => simp [intOf]; omega
        | true =>
          have HF := Lib.hid (HSL.out (j : Int) y2 0 (by
            unfold saL
            rw [saY_hit (hitY src 0 of) ss 0 j _ HALL.out HY.out (by rw [HIT.out, ht]; simp [g6])]
            simp))
          clear g6 ht
          go_wp2_with fail
          refine HC5.out.mono ?_
          rintro e w6 ⟨rfl, hb6⟩
          have HB6 := Lib.hid (HB4.out.trans ((HB5.out.trans (hb6.mono HB5.out.size)).mono HB4.out.size))
          have t2 := (hb6.cell (p := ⟨wr.heap.size, 2, none⟩) l5).trans s2
          have l6 : wr.heap.size < w6.heap.size := Nat.lt_of_lt_of_le l5 hb6.size
          clear hb6 HC5
          go_wp2_with fail
          go_quiet (fail)
          go_wp2_with fail
          go_ret3
          exact (congrFun (congrFun HF.out _) _).mpr ⟨rfl, below_drewN HB6.out _⟩
    · have hjI : ¬ (j : Int) < n := by omega
      obtain rfl : j = n := by omega
      have HNO := Lib.hid (show saY (hitY src 0 of) 0 ss = none from saY_none _ ss 0 fun k z hz => HALL.out k z (by have := (List.getElem?_eq_some_iff.1 hz).1; rw [HN.out] at this; exact this) hz)
      have hq1 := HQ1.out wr hb
      have l3r : w2.heap.size < wr.heap.size := by omega
      have HBO := Lib.hid hb
      obtain ⟨wo, rfl⟩ : ∃ wo : World, wo = wr := ⟨_, rfl⟩
      clear hb HALL
      go_wp2_with fail
      go_loopw [81] (fun i wr => ∃ q : Nat, i = .int .i64 (q : Int) ∧ q ≤ m ∧ (∀ (k : Nat) z, k < q → rf[k]? = some z → hitR src 0 of z = false) ∧ Below W4.heap.size W4 wr) (fun i _ => m - (intOf i).toNat)
      case atStart => exact ⟨0, rfl, Nat.zero_le _, fun k z hk => absurd hk (Nat.not_lt_zero _), HBO.out⟩
      case round =>
        obtain ⟨q, rfl, hq, hall, hb⟩ := hrel
        have HALL := Lib.hid hall
        have hbs := hb.size
        clear hall
        by_cases hlt : q < m
        · have hqI : (q : Int) < m := by omega
          have hql : q < rf.length := by rw [HM.out]; exact hlt
          have hyj : rf[q]? = some rf[q] := List.getElem?_eq_getElem hql
          obtain ⟨tb, off, rfl, htb, hxc⟩ := flat_get HR4.out q rf[q] hyj
          obtain ⟨y, hyy⟩ : ∃ y, rf[q] = y := ⟨_, rfl⟩
          rw [hyy] at hyj hxc
          obtain ⟨y0, y1, y2⟩ := y
          have htb' : tb < W4.heap.size := htb
          have htw : tb < wr.heap.size := by omega
          have cc : ∀ i u, ([.int .i64 y0, .int .i64 y1, .int .i64 y2] : List Value)[i]? = some u → wr.cell? ⟨tb, off + q * 3 + i, none⟩ = some u := fun i u hu => (hb.cell (p := ⟨tb, _, none⟩) htb').trans (hxc i u hu)
          have d0 := cc 0 _ rfl
          have d1 := cc 1 _ rfl
          have d2 := cc 2 _ rfl
          rw [Nat.add_zero] at d0
          obtain ⟨W5, hW5⟩ : ∃ W5, wr.alloc (.cells #[.int .i64 y0, .int .i64 y1, .int .i64 y2] 117) = W5 := ⟨_, rfl⟩
          have hb5 : Below wr.heap.size wr W5 := by rw [← hW5]; exact (Below.refl _ _).alloc (Nat.le_refl _) _
          have hx5 : W5.heap[wr.heap.size]? = some (.cells #[.int .i64 y0, .int .i64 y1, .int .i64 y2] 117 (0, 0)) := by rw [← hW5]; exact heap_alloc_new wr _
          have s0 := cell_of hx5 0 _ rfl
          have s1 := cell_of hx5 1 _ rfl
          have s2 := cell_of hx5 2 _ rfl
          have l5 := lt_of_heap hx5
          have hb45 := hb.trans (hb5.mono hbs)
          have HB5 := Lib.hid hb45
          have HC5 := Lib.hid (HCL.out y0 y1 W5 hb45)
          have HY := Lib.hid hyj
          have HIT := Lib.hid (show hitR src 0 of ⟨y0, y1, y2⟩ = (decide (0 ≤ y2) && atSI src 0 of y0 y1) from rfl)
          have HNX := Lib.hid (show hitR src 0 of ⟨y0, y1, y2⟩ = false → ∀ (k : Nat) z, k < q + 1 → rf[k]? = some z → hitR src 0 of z = false from fun hf k z hk hz => by
            by_cases e : k < q
            · exact HALL.out k z e hz
            · obtain rfl : k = q := by omega
              rw [HY.out] at hz; injection hz with hz; rw [← hz]; exact hf)
          clear cc hxc hb hb5 hx5 hyj hyy hb45
          by_cases g6 : 0 ≤ y2
          · obtain ⟨t, ht⟩ : ∃ t, atSI src 0 of y0 y1 = t := ⟨_, rfl⟩
            rw [ht] at HC5
            cases t with
            | false =>
              have HF := Lib.hid (HNX.out (by rw [HIT.out, ht]; simp))
              clear ht
              go_wp2_with fail
              refine HC5.out.mono ?_
              rintro e w6 ⟨rfl, hb6⟩
              have HB6 := Lib.hid (HB5.out.trans (hb6.mono HB5.out.size))
              clear hb6 HC5
              go_wp2_with fail
              go_roundw
              case rel => exact ⟨q + 1, by go_num, by omega, HF.out, HB6.out⟩
              case measure => simp [intOf]; omega
            | true =>
              have HF := Lib.hid (HSL.out y2 y1 0 (by
                unfold saL
                rw [HNO.out]
                simp only
                rw [saR_hit (hitR src 0 of) rf q _ HALL.out HY.out (by rw [HIT.out, ht]; simp [g6])]))
              clear ht
              go_wp2_with fail
              refine HC5.out.mono ?_
              rintro e w6 ⟨rfl, hb6⟩
              have HB6 := Lib.hid (HB4.out.trans ((HB5.out.trans (hb6.mono HB5.out.size)).mono HB4.out.size))
              have t2 := (hb6.cell (p := ⟨wr.heap.size, 2, none⟩) l5).trans s2
              have t1 := (hb6.cell (p := ⟨wr.heap.size, 1, none⟩) l5).trans s1
              have l6 : wr.heap.size < w6.heap.size := Nat.lt_of_lt_of_le l5 hb6.size
              clear hb6 HC5
              go_wp2_with fail
              go_quiet (fail)
              go_wp2_with fail
              go_ret3
              exact (congrFun (congrFun HF.out _) _).mpr ⟨rfl, below_drewN HB6.out _⟩
          · have g6' : decide ((0 : Int) ≤ y2) = false := decide_eq_false g6
            have HF := Lib.hid (HNX.out (by rw [HIT.out]; simp [g6]))
            go_wp2_with fail
            go_roundw
            case rel => exact ⟨q + 1, by go_num, by omega, HF.out, HB5.out⟩
            case measure => simp [intOf]; omega
        · have hqI : ¬ (q : Int) < m := by omega
          obtain rfl : q = m := by omega
          have HF := Lib.hid (HSL.out 0 0 5 (by
            unfold saL
            rw [HNO.out]
            simp only
            rw [saR_none _ rf fun k z hz => HALL.out k z (by have := (List.getElem?_eq_some_iff.1 hz).1; rw [HM.out] at this; exact this) hz]))
          have HB6 := Lib.hid (HB4.out.trans (hb.mono HB4.out.size))
          clear hb
          go_wp2_with fail
          go_ret3
          exact (congrFun (congrFun HF.out _) _).mpr ⟨rfl, HB6.out⟩
end Go.Proofs.YtpibenilagloaaaGreatDoor

/-
  cursorExamples: what the kernel reckons.
-/
namespace Go.Proofs.YtpibenilagloaaaGreatDoor
open Go.RowKit
set_option linter.unusedVariables false

theorem map_some5 {α β : Type} {o : Option α} {f : α → β} {y : β} (h : o.map f = some y) : ∃ x, o = some x ∧ f x = y := by
  cases o with
  | none => cases h
  | some x => exact ⟨x, rfl, by injection h⟩
/-- fn f() -> int { f() } -/
def exC : Mdl := ⟨⟨#[109]⟩, ⟨#[102, 110, 32, 102, 40, 41, 32, 45, 62, 32, 105, 110, 116, 32, 123, 32, 102, 40, 41, 32, 125]⟩⟩
def exCs (u : PS) : List Sym := symsN exC (astN exC.src u.ch)
def exCr (u : PS) : List Rfn := sortI cmpRf (resN exC (astN exC.src u.ch)).rf
theorem exC_run : (run 100 fileC ⟨tokensL exC.src.data.toList, [], false, 600000⟩).map (fun u => (modB exC u, decide ((exCr u).length ≤ 1000), saL exC.src 0 3 (exCs u) (exCr u), saL exC.src 0 17 (exCs u) (exCr u), saL exC.src 0 6 (exCs u) (exCr u))) = some (true, true, (5, 3, 0), (5, 16, 0), (0, 0, 5)) := by kernel_rfl
/-- fn f() { 1 + 2 } -/
def exX : ByteArray := ⟨#[102, 110, 32, 102, 40, 41, 32, 123, 32, 49, 32, 43, 32, 50, 32, 125]⟩
def exXl (ch : List Tree) : List Rg3 := (enclN 9 10 (astN exX ch)).filter fun x => !isSel 9 10 x
theorem exX_run : (run 100 fileC ⟨tokensL exX.data.toList, [], false, 600000⟩).map (fun u => (decide ((exXl u.ch).length ≤ 12), compactL (sortI cmpCu (exXl u.ch)))) = some (true, [⟨0, 9, 14⟩, ⟨0, 7, 16⟩, ⟨0, 0, 16⟩]) := by kernel_rfl
theorem exI_len : idLen ⟨#[97, 98, 95, 49, 32, 99]⟩ 0 = 4 := by kernel_rfl
end Go.Proofs.YtpibenilagloaaaGreatDoor
