import Derived.Test.YtpibenilagloaaaGreatDoorRzac
import Derived.Test.YtpibenilagloaaaGreatDoorRzag
import Derived.Test.YtpibenilagloaaaGreatDoorMzaf
import Derived.Deep.QuietTactic
import Derived.BigQuiet
import Derived.Test.YtpibenilagloaaaGreatDoorMzbk
namespace Go.Proofs.YtpibenilagloaaaGreatDoor
open Go.RowKit
set_option linter.unusedVariables false
set_option maxRecDepth 100000 in
set_option maxHeartbeats 3200000 in
theorem edsOfMod_any (es : List FEd) (A : Option Addr) (c : Nat) (m : Int) (w : World) (h : feD.At w (Lt w) A es) (hl : es.length * 40 ≤ 140737488351232) :
    Calls Tryz.prog 18 #[.slice A es.length c, .int .i64 m] w fun e w' => ∃ A' c', e = .returned (.slice A' (edsOf es m).length c') ∧ edD.At w' (Nw w w') A' (edsOf es m) ∧ Below w.heap.size w w' := by
  obtain ⟨n, hn⟩ : ∃ n, es.length = n := ⟨_, rfl⟩
  have HN := Lib.hid hn
  have HA := Lib.hid h
  rw [hn] at hl
  rw [hn]
  have HES := Lib.hid (show ∀ j (x : FEd), es[j]? = some x → edsOf (es.take (j + 1)) m = edsOf (es.take j) m ++ (if x.mod = m then [x.ed] else []) from fun j x hx => edsOf_snoc es m j x hx)
  clear hn h
  go_enter Tryz.func18, Tryz.ntmps18
  go_wp2_with fail
  have hq0 : edD.Own w w.heap.size 93 (OF w.heap.size (.slice none 0 0) w) (.slice none 0 0) [] [] := Dat.Own.nil
  go_loopw [5, 6] (fun v i wr => ∃ (j : Nat) (vs : List Value), i = .int .i64 (j : Int) ∧ j ≤ n ∧ edD.Own wr w.heap.size 93 (OF w.heap.size v wr) v (edsOf (es.take j) m) vs ∧ Below w.heap.size w wr) (fun _ i _ => n - (intOf i).toNat)
  case atStart => exact ⟨0, [], rfl, Nat.zero_le _, by simpa [edsOf] using hq0, Below.refl _ _⟩
  case round =>
    clear hq0
    obtain ⟨j, vs, rfl, hj, hown, hb⟩ := hrel
    by_cases hlt : j < n
    · have hjI : (j : Int) < n := by omega
      have hjl : j < es.length := by rw [HN.out]; exact hlt
      obtain ⟨tb, off, rfl, htb, hxc⟩ := flat_get HA.out j es[j] (List.getElem?_eq_getElem hjl)
      have htk := HES.out j es[j] (List.getElem?_eq_getElem hjl)
      have hlen := edsOf_len (es.take j) m
      rw [List.length_take, Nat.min_eq_left (by omega)] at hlen
      generalize es[j] = x at *
      obtain ⟨x0, x1, x2, x3⟩ := x
      simp only [FEd.ed] at htk
      have hbs := hb.size
      have htl : tb < w.heap.size := htb
      have cc : ∀ i u, ([.int .i64 x0, .int .i64 x1, .int .i64 x2, .string x3] : List Value)[i]? = some u → wr.cell? ⟨tb, off + j * 4 + i, none⟩ = some u := fun i u hu => (hb.cell (p := ⟨tb, _, none⟩) htl).trans (hxc i u hu)
      have d0 := cc 0 _ rfl
      have d1 := cc 1 _ rfl
      have d2 := cc 2 _ rfl
      have d3 := cc 3 _ rfl
      rw [Nat.add_zero] at d0
      have htl2 : tb < wr.heap.size := Nat.lt_of_lt_of_le htl hbs
      have HTK := Lib.hid htk
      have HOW := Lib.hid hown
      have HB := Lib.hid hb
      have HLE := Lib.hid hlen
      clear cc hxc htk hown hb hlen
      by_cases g1 : x0 = m
      · have HF := Lib.hid (show edsOf (es.take (j + 1)) m = edsOf (es.take j) m ++ [⟨x1, x2, x3⟩] by rw [HTK.out, if_pos g1])
        have k1 : (x0 == m) = true := by simpa using g1
        have HG1 := Lib.hid g1
        clear HTK g1
        obtain ⟨n0, hn0⟩ : ∃ n0, (edsOf (es.take j) m).length = n0 := ⟨_, rfl⟩
        have ho1 := HOW.out.1
        have hn0b : n0 ≤ j := by rw [← hn0]; exact HLE.out
        rw [hn0] at ho1
        have ho1' : wr.ownsRow w.heap.size 93 3 u5 n0 vs := ho1
        have HN0 := Lib.hid hn0
        clear hn0 ho1
        go_wp2_with (at_builtin; refine wpList_append_litH rfl (.tmp 20) (.tmp 26) _ rfl w.heap.size 93 _ 3 32 Tryz.underlying49 info_ed rfl (by decide) _ _ _ rfl ho1' 1 1 wr.heap.size rfl [.int .i64 x1, .int .i64 x2, .string x3] rfl rfl ?a1 ?a2 ?a3 hbs ?_)
        case a1 => simp [Value.oneCell']
        case a2 => simp only [maxLen]; omega
        case a3 => omega
        intro v2 w2 hown2 hg2 hat2
        have h2 : edD.Own w2 w.heap.size 93 (OF w.heap.size v2 w2) v2 (edsOf (es.take (j + 1)) m) (vs ++ [.int .i64 x1, .int .i64 x2, .string x3]) := by
          rw [HF.out]
          exact HOW.out.grow (ys := [⟨x1, x2, x3⟩]) (Dat.Row.single (D := edD) rfl) hg2 (by rw [HN0.out]; exact hown2) hat2
        have hb2 : Below w.heap.size w w2 := HB.out.grown hg2 hbs (fun q hq => (HOW.out.1.lt q hq).1)
        have H2 := Lib.hid h2
        have HB2 := Lib.hid hb2
        clear h2 hb2 hown2 hg2 hat2
        go_wp2_with fail
        go_roundw
        case rel => exact ⟨j + 1, _, by go_num, by omega, H2.out, HB2.out⟩
        case measure => simp [intOf]; omega
      · have HF := Lib.hid (show edsOf (es.take (j + 1)) m = edsOf (es.take j) m by rw [HTK.out, if_neg g1, List.append_nil])
        have k1 : (x0 == m) = false := by simpa using g1
        clear HTK g1
        go_wp2_with fail
        go_roundw
        case rel => exact ⟨j + 1, vs, by go_num, by omega, by rw [HF.out]; exact HOW.out, HB.out⟩
        case measure => simp [intOf]; omega
    · have hjI : ¬ (j : Int) < n := by omega
      have htk : es.take j = es := List.take_of_length_le (by rw [HN.out]; omega)
      rw [htk] at hown
      have HB := Lib.hid hb
      obtain ⟨A3, c3, hv, hAt, _⟩ := hown.at (F' := Nw w wr) (fun c hc => ⟨hc.1, hc.2.1⟩) (fun c hc => hown.1.lt c hc)
      subst hv
      have HAt := Lib.hid hAt
      obtain ⟨z, hz⟩ : ∃ z, (edsOf es m).length = z := ⟨_, rfl⟩
      have HQ := Lib.hid hz
      rw [hz]
      clear hb hAt hown htk hz
      go_wp2_with fail
      go_ret
      first
        | exact ⟨A3, c3, by rw [HQ.out]; rfl, HAt.out, HB.out⟩
        | exact ⟨A3, ⟨c3, by rw [HQ.out]; rfl⟩, HAt.out, HB.out⟩

def RexOk (w : World) : Prop := ∀ w', Below w.heap.size w w' → Calls Tryz.prog 15 #[] w' fun e w2 => e = .returned (.bool true) ∧ Below w'.heap.size w' w2
set_option maxRecDepth 100000 in
set_option maxHeartbeats 6400000 in
theorem ral_any (es : List FEd) (xs : List Mdl) (M A : Option Addr) (mc c : Nat) (w : World) (hA : AscAt w) (h : mdD.At w (Lt w) M xs) (hcap : xs.length ≤ mc) (hm : xs.length * 32 ≤ 140737488355328) (he : feD.At w (Lt w) A es) (hl : es.length * 40 ≤ 140737488351232) (hsh : FShort es) (hx : RexOk w) :
    Calls Tryz.prog 6 #[.slice M xs.length mc, .slice A es.length c] w fun r w' => r = .returned (.bool true) ∧ Below w.heap.size w w' := by
  have HX := Lib.hid hx
  have HX0 := Lib.hid (hx w (Below.refl _ _))
  have HAE := Lib.hid (fun w1 (hb : Below w.heap.size w w1) => applyEdits_any es xs M A mc c w1 (AscAt.below hA hb) (h.keep (fun b hb' => Nat.lt_of_lt_of_le hb' hb.size) (fun b hb' => hb.block b hb')) hcap hm (he.keep (fun b hb' => Nat.lt_of_lt_of_le hb' hb.size) (fun b hb' => hb.block b hb')) hl hsh)
  have HPO := Lib.hid (show ∀ w1 e w', AeePost es xs w1 e w' → (((okM es xs = false ∧ ∃ err : Int, err ≠ 0 ∧ e = .returned (.tuple #[.slice none 0 0, .int .i64 err])) ∨
    (okM es xs = true ∧ ∃ A c, e = .returned (.tuple #[.slice A xs.length c, .int .i64 0]) ∧ mdD.At w' (Nw w1 w') A (outM es xs) ∧ xs.length ≤ c)) ∧ Below w1.heap.size w1 w') from fun _ _ _ h => h)
  have HH := Lib.hid h
  have HE := Lib.hid he
  have HS := Lib.hid hsh
  have HEL := Lib.hid (show ∀ m : Int, (edsOf es m).length ≤ 140737488351232 from fun m => by have := edsOf_len es m; omega)
  have HOG := Lib.hid (show ∀ (j : Nat) (x : Mdl), xs[j]? = some x → (outM es xs)[j]? = some (newM es j x) from fun j x hj => by unfold outM; rw [List.getElem?_mapIdx, hj]; rfl)
  have HOK := Lib.hid (show okM es xs = true → ∀ (j : Nat) (x : Mdl), xs[j]? = some x → tx.valT x.src.size (edsOf es j) = 0 ∧ x.src.size ≤ 2000 from fun hk j x hj => by
    unfold okM at hk
    simp only [Bool.and_eq_true, decide_eq_true_eq] at hk
    obtain ⟨h1, _, h3, _⟩ := hk
    have hjl := (List.getElem?_eq_some_iff.1 hj).1
    have := List.all_eq_true.1 h3 j (List.mem_range.2 hjl)
    unfold okAt at this
    rw [hj] at this
    exact ⟨by simpa using this, (valM_ok h1).2 x (List.mem_of_getElem? hj)⟩)
  have HEO := Lib.hid (fun (m : Int) w1 (hb : Below w.heap.size w w1) => edsOfMod_any es A c m w1 (he.keep (fun b hb' => Nat.lt_of_lt_of_le hb' hb.size) (fun b hb' => hb.block b hb')) hl)
  obtain ⟨n, hn⟩ : ∃ n, xs.length = n := ⟨_, rfl⟩
  obtain ⟨ne, hne⟩ : ∃ ne, es.length = ne := ⟨_, rfl⟩
  have HN := Lib.hid hn
  rw [hn] at HAE HPO hcap
  rw [hne] at HAE HEO
  rw [hn, hne]
  have hnb : n ≤ 4398046511104 := by omega
  clear hx h he hsh hA hn hne hm hl
  go_enter Tryz.func6, Tryz.ntmps6
  go_wp2_with fail
  refine HX0.out.mono ?_
  rintro r w1 ⟨rfl, hb1⟩
  have HB1 := Lib.hid hb1
  have HA1 := Lib.hid (HAE.out w1 hb1)
  clear hb1 HX0
  go_wp2_with fail
  refine HA1.out.mono ?_
  intro e w2 hpo
  obtain ⟨hpo, hb2⟩ := HPO.out _ _ _ hpo
  have HB2 := Lib.hid (HB1.out.trans (hb2.mono HB1.out.size))
  have HX2 := Lib.hid (HX.out w2 HB2.out)
  rcases hpo with ⟨hok, err, herr, rfl⟩ | ⟨hok, AO, cO, rfl, hat, hcO⟩
  · have k1 : (err != 0) = true := by simpa using herr
    clear hok hb2 herr HA1
    go_wp2_with fail
    refine HX2.out.mono ?_
    rintro r w3 ⟨rfl, hb3⟩
    have HB3 := Lib.hid (HB2.out.trans (hb3.mono HB2.out.size))
    clear hb3 HX2
    go_wp2_with fail
    go_ret
    exact ⟨rfl, HB3.out⟩
  · have HK := Lib.hid (HOK.out hok)
    have HAT := Lib.hid hat
    clear hok hb2 hat HA1 HX2
    go_wp2_with fail
    go_loopw [7] (fun i wr => ∃ j : Nat, i = .int .i64 (j : Int) ∧ j ≤ n ∧ Below w2.heap.size w2 wr) (fun i _ => n - (intOf i).toNat)
    case atStart => exact ⟨0, rfl, Nat.zero_le _, Below.refl _ _⟩
    case round =>
      obtain ⟨j, rfl, hj, hb⟩ := hrel
      by_cases hlt : j < n
      · have hjI : (j : Int) < n := by omega
        have hjl : j < xs.length := by rw [HN.out]; exact hlt
        have hxj : xs[j]? = some xs[j] := List.getElem?_eq_getElem hjl
        obtain ⟨tb, off, rfl, htb, hxc⟩ := flat_get HH.out j xs[j] hxj
        obtain ⟨hv0, hsz⟩ := HK.out j _ hxj
        obtain ⟨ob, oo, rfl, hob, hoc⟩ := flat_get HAT.out j _ (HOG.out j _ hxj)
        have hnm : newM es j xs[j] = ⟨xs[j].nm, ⟨(tx.applyL xs[j].src.data.toList (edsOf es j) 0).toArray⟩⟩ := rfl
        rw [hnm] at hoc
        clear hnm
        generalize xs[j] = x at *
        obtain ⟨nm, src⟩ := x
        simp only at hv0 hsz hoc
        obtain ⟨ns, hns⟩ : ∃ ns : ByteArray, (⟨(tx.applyL src.data.toList (edsOf es j) 0).toArray⟩ : ByteArray) = ns := ⟨_, rfl⟩
        rw [hns] at hoc
        have htb' : tb < w.heap.size := htb
        have hob' : ob < w2.heap.size := hob.2
        have hbs := hb.size
        have hbw : Below w.heap.size w wr := HB2.out.trans (hb.mono HB2.out.size)
        have htw : tb < wr.heap.size := by have := hbw.size; omega
        have how : ob < wr.heap.size := by omega
        have mc0 : ∀ w', Below wr.heap.size wr w' → w'.cell? ⟨tb, off + j * 2, none⟩ = some (.string nm) := fun w' hb' => (hb'.cell (p := ⟨tb, _, none⟩) htw).trans ((hbw.cell (p := ⟨tb, _, none⟩) htb').trans (hxc 0 _ rfl))
        have mc1 : ∀ w', Below wr.heap.size wr w' → w'.cell? ⟨tb, off + j * 2 + 1, none⟩ = some (.string src) := fun w' hb' => (hb'.cell (p := ⟨tb, _, none⟩) htw).trans ((hbw.cell (p := ⟨tb, _, none⟩) htb').trans (hxc 1 _ rfl))
        have oc0 : ∀ w', Below wr.heap.size wr w' → w'.cell? ⟨ob, oo + j * 2, none⟩ = some (.string nm) := fun w' hb' => (hb'.cell (p := ⟨ob, _, none⟩) how).trans ((hb.cell (p := ⟨ob, _, none⟩) hob').trans (hoc 0 _ rfl))
        have oc1 : ∀ w', Below wr.heap.size wr w' → w'.cell? ⟨ob, oo + j * 2 + 1, none⟩ = some (.string ns) := fun w' hb' => (hb'.cell (p := ⟨ob, _, none⟩) how).trans ((hb.cell (p := ⟨ob, _, none⟩) hob').trans (hoc 1 _ rfl))
        have HM0 := Lib.hid mc0
        have HM1 := Lib.hid mc1
        have HO0 := Lib.hid oc0
        have HO1 := Lib.hid oc1
        have d1 := mc1 wr (Below.refl _ _)
        have HEO1 := Lib.hid (fun w' (hb' : Below wr.heap.size wr w') => HEO.out j w' (hbw.trans (hb'.mono hbw.size)))
        have HAP := Lib.hid (fun w' A' c' (ha : edD.At w' (Lt w') A' (edsOf es j)) => tx.apply_ok src A' c' (edsOf es j) w' (eds_of ha (fun _ h => h)) (by have := HEL.out j; unfold maxLen; omega) (edsOf_short HS.out j) (by unfold maxLen; omega) hv0)
        rw [hns] at HAP
        obtain ⟨ln, hln⟩ : ∃ ln, (edsOf es j).length = ln := ⟨_, rfl⟩
        rw [hln] at HEO1 HAP
        have HBr := Lib.hid hb
        clear hxc hoc hv0 hns hb hbw mc0 mc1 oc0 oc1 hln hxj
        go_wp2_with fail
        go_region_held3 (fun w' => w'.cell? ⟨tb, off + j * 2 + 1, none⟩ = some (.string src)) (first | go_keep | trivial | (exact HM1.out _ B6.out) | (exact HM1.out _ B5.out)) ((first
          | (go_at_call 18; refine (HEO1.out _ (below_drewN (Below.refl _ _) _)).mono ?_; rintro e w5 ⟨A', c', rfl, hat5, hb5⟩; have B5 : Hid (Below wr.heap.size wr w5) := Lib.hid ((below_drewN (Below.refl _ _) _).trans hb5))
          | (go_at_call 17; refine (HAP.out _ _ _ (hat5.keep (F' := Lt _) (fun b hb => hb.2) (fun b _ => rfl))).mono ?_; rintro e w6 ⟨rfl, hb6⟩; have B6 : Hid (Below wr.heap.size wr w6) := Lib.hid (B5.out.trans (hb6.mono B5.out.size)))))
        all_goals
          have c0 := HM0.out _ B6.out
          have c1 := HM1.out _ B6.out
          have c2 := HO0.out _ B6.out
          have c3 := HO1.out _ B6.out
          have l1 : tb < w6.heap.size := Nat.lt_of_lt_of_le htw B6.out.size
          have l2 : ob < w6.heap.size := Nat.lt_of_lt_of_le how B6.out.size
          have HB6 := Lib.hid (HBr.out.trans (B6.out.mono hbs))
          clear hb5 hb6 hat5 d1
          go_wp2_with fail
          go_quiet (fail)
          go_wp2_with fail
          go_roundw
          case rel => exact ⟨j + 1, by go_num, by omega, below_drewN HB6.out _⟩
          case measure => simp [intOf]; omega
      · have hjI : ¬ (j : Int) < n := by omega
        have HB3 := Lib.hid (HB2.out.trans (hb.mono HB2.out.size))
        have HX3 := Lib.hid (HX.out wr HB3.out)
        clear hb
        go_wp2_with fail
        refine HX3.out.mono ?_
        rintro r w4 ⟨rfl, hb4⟩
        have HB4 := Lib.hid (HB3.out.trans (hb4.mono HB3.out.size))
        clear hb4 HX3
        go_wp2_with fail
        go_ret
        exact ⟨by simp, HB4.out⟩
end Go.Proofs.YtpibenilagloaaaGreatDoor

namespace Go.Proofs.YtpibenilagloaaaGreatDoor
open Go.ChangeShapes Go.WideShapes Go.ChangeAt Go.RowKit Go.Deep
open Go.ChangeMaps (open_string shut_string)
set_option linter.unusedVariables false
section
variable {H : Type} {enc : TypeId × Value → H}
theorem cells_md : Tryz.prog.cellsOf 48 = 2 := by kernel_rfl
theorem bytes_md : Tryz.prog.bytesOf 48 = 32 := by kernel_rfl
set_option maxRecDepth 100000 in
theorem open_md {W : World} {base : Nat} {v : Value} {d : DataW H} {p : List MemPlace} (hv : Value.okWide Tryz.prog W .any base 41 v)
    (hj : DataW.Trod enc Tryz.prog W 0 (fun _ => true) true 41 v d p) (hsz : (d.weights Tryz.prog 41).all (fun x => decide (x ≤ reachBytes)) = true) :
    ∃ A c es, v = .slice A es.length c ∧ mdD.At W (Lt W) A es ∧ es.length ≤ maxLen ∧ es.length * 32 ≤ 140737488355328 ∧ es.length ≤ c := by
  obtain ⟨a0, len, cap, rfl⟩ := okWide_slice Tryz.underlying41 hv
  obtain ⟨fuel, hf⟩ := hj
  rcases open_slice Tryz.underlying41 hf with ⟨hcs, _⟩ | ⟨a, l, c, m, n, D, Pl, hcs, _, hl, hm, hmm, hx, hi⟩
  · simp [Value.cells] at hcs
    obtain ⟨rfl, rfl, rfl⟩ := hcs
    exact ⟨none, 0, [], rfl, Dat.At.nil, Nat.zero_le _, by simp, Nat.le_refl _⟩
  · simp [Value.cells] at hcs
    obtain ⟨rfl, rfl, rfl⟩ := hcs
    simp only [Prod.mk.injEq] at hx
    obtain ⟨rfl, _⟩ := hx
    have hw : len * 32 ≤ reachBytes := weights_all Tryz.underlying41 bytes_md (by simp only [if_true] at hmm; omega) hsz
    unfold reachBytes at hw
    have each : ∀ i, i < len → ∃ x : Mdl, W.cell? (a.add (i * 2)) = some (.string x.nm) ∧ W.cell? (a.add (i * 2 + 1)) = some (.string x.src) := by
      intro i hil
      obtain ⟨cs', hc, ht⟩ := hi i (by simp only [if_true] at hmm; omega)
      rw [cells_md] at hc
      obtain ⟨xs, k, _, hxy, _, hxl, hfd⟩ := DataW.trod_struct Tryz.underlying48 ht
      obtain ⟨_, hcl, hat⟩ := World.cells?_some hc
      match xs, hxl, cs', hcl with
      | [y0, y1], _, [v0, v1], _ =>
        have g0 := hfd 0 _ rfl
        have g1 := hfd 1 _ rfl
        have i0 : Tryz.prog.cellsOf 9 = 1 := by kernel_rfl
        simp [i0] at g0 g1
        obtain ⟨s0, e0, rfl, w0⟩ := DataW.trod_string Tryz.underlying9 g0
        obtain ⟨s1, e1, rfl, w1⟩ := DataW.trod_string Tryz.underlying9 g1
        simp at e0 e1
        subst e0 e1
        have a0 := hat 0 (by omega)
        have a1 := hat 1 (by omega)
        rw [Go.Deep.add_add] at a0 a1
        exact ⟨⟨s0, s1⟩, by simpa using a0, by simpa using a1⟩
    obtain ⟨X, hX⟩ := choose_lt each
    have hlen : ((List.range len).map X).length = len := by simp
    refine ⟨some a, cap, (List.range len).map X, by rw [hlen], ?_, by rw [hlen]; unfold maxLen; omega, by rw [hlen]; omega, by rw [hlen]; omega⟩
    by_cases hp : 0 < len
    · have h0 := (hX 0 hp).1
      obtain ⟨b, off, spot⟩ := a
      have hspot : spot = none := by simpa [Addr.add] using World.cell?_spot h0
      subst hspot
      have hb : b < W.heap.size := by simpa [Addr.add] using World.block_lt_of_cell? W _ h0
      refine flat_at4 _ b off hb fun i x hi j u hu => ?_
      simp only [List.getElem?_map, Option.map_eq_some_iff] at hi
      obtain ⟨i', hi', rfl⟩ := hi
      obtain ⟨hil, hi'⟩ := List.getElem?_eq_some_iff.1 hi'
      simp at hil hi'
      subst hi'
      obtain ⟨c0, c1⟩ := hX i hil
      rw [add_plain] at c0 c1
      match j, hu with
      | 0, hu => simp [mdC] at hu; subst hu; exact c0
      | 1, hu => simp [mdC] at hu; subst hu; rw [Nat.add_assoc]; exact c1
      | j + 2, hu => simp [mdC] at hu
    · have : len = 0 := by omega
      subst this
      exact Dat.At.nil
theorem cells_fe : Tryz.prog.cellsOf 95 = 4 := by kernel_rfl
theorem cells_te : Tryz.prog.cellsOf 93 = 3 := by kernel_rfl
theorem bytes_fe : Tryz.prog.bytesOf 95 = 40 := by kernel_rfl
theorem weights_mem_all {P : Program} {e : TypeId} {d : DataW H} {n : Nat} : ∀ {l : List (DataW H)}, d ∈ l → n ∈ d.weights P e → n ∈ DataW.weightsAll P e l
  | x :: r, hd, hn => by
    simp only [DataW.weightsAll, List.mem_append]
    rcases List.mem_cons.1 hd with rfl | hd
    · exact .inl hn
    · exact .inr (weights_mem_all hd hn)
set_option maxRecDepth 100000 in
theorem open_fe {W : World} {base : Nat} {v : Value} {d : DataW H} {p : List MemPlace} (hv : Value.okWide Tryz.prog W .any base 42 v)
    (hj : DataW.Trod enc Tryz.prog W 0 (fun _ => true) true 42 v d p) (hsz : (d.weights Tryz.prog 42).all (fun x => decide (x ≤ reachBytes)) = true) :
    ∃ A c es, v = .slice A es.length c ∧ feD.At W (Lt W) A es ∧ es.length * 40 ≤ 140737488351232 ∧ FShort es ∧ es.length ≤ c := by
  obtain ⟨a0, len, cap, rfl⟩ := okWide_slice Tryz.underlying42 hv
  obtain ⟨fuel, hf⟩ := hj
  rcases open_slice Tryz.underlying42 hf with ⟨hcs, _⟩ | ⟨a, l, c, m, n, D, Pl, hcs, _, hl, hm, hmm, hx, hi⟩
  · simp [Value.cells] at hcs
    obtain ⟨rfl, rfl, rfl⟩ := hcs
    exact ⟨none, 0, [], rfl, Dat.At.nil, by simp, (fun x hx => by cases hx), Nat.le_refl _⟩
  · simp [Value.cells] at hcs
    obtain ⟨rfl, rfl, rfl⟩ := hcs
    simp only [Prod.mk.injEq] at hx
    obtain ⟨rfl, _⟩ := hx
    have hw : len * 40 ≤ reachBytes := weights_all Tryz.underlying42 bytes_fe (by simp only [if_true] at hmm; omega) hsz
    unfold reachBytes at hw
    have each : ∀ i, i < len → ∃ x : FEd, (W.cell? (a.add (i * 4)) = some (.int .i64 x.mod) ∧ W.cell? (a.add (i * 4 + 1)) = some (.int .i64 x.s) ∧ W.cell? (a.add (i * 4 + 2)) = some (.int .i64 x.e) ∧ W.cell? (a.add (i * 4 + 3)) = some (.string x.t)) ∧
        D i = .agg [.lit (.int .i64 x.mod), .agg [.lit (.int .i64 x.s), .lit (.int .i64 x.e), .lit (.string x.t.data.toList)]] := by
      intro i hil
      obtain ⟨cs', hc, ht⟩ := hi i (by simp only [if_true] at hmm; omega)
      rw [cells_fe] at hc
      obtain ⟨xs, k, _, hxy, _, hxl, hfd⟩ := DataW.trod_struct Tryz.underlying95 ht
      obtain ⟨_, hcl, hat⟩ := World.cells?_some hc
      match xs, hxl, cs', hcl with
      | [y0, y1], _, [v0, v1, v2, v3], _ =>
        have g0 := hfd 0 _ rfl
        have g1 := hfd 1 _ rfl
        have i0 : Tryz.prog.cellsOf 3 = 1 := by kernel_rfl
        have i1 : Tryz.prog.cellsOf 9 = 1 := by kernel_rfl
        simp [i0, cells_te] at g0 g1
        obtain ⟨s0, e0, rfl, w0⟩ := DataW.trod_int Tryz.underlying3 g0
        obtain ⟨zs, k2, _, hzy, _, hzl, hfe⟩ := DataW.trod_struct Tryz.underlying93 g1
        match zs, hzl with
        | [z0, z1, z2], _ =>
          have f0 := hfe 0 _ rfl
          have f1 := hfe 1 _ rfl
          have f2 := hfe 2 _ rfl
          simp [i0, i1] at f0 f1 f2
          obtain ⟨s1, e1, rfl, w1⟩ := DataW.trod_int Tryz.underlying3 f0
          obtain ⟨s2, e2, rfl, w2⟩ := DataW.trod_int Tryz.underlying3 f1
          obtain ⟨s3, e3, rfl, w3⟩ := DataW.trod_string Tryz.underlying9 f2
          simp at e0 e1 e2 e3
          subst e0 e1 e2 e3
          have a0 := hat 0 (by omega)
          have a1 := hat 1 (by omega)
          have a2 := hat 2 (by omega)
          have a3 := hat 3 (by omega)
          rw [Go.Deep.add_add] at a0 a1 a2 a3
          simp only [Prod.mk.injEq] at hxy
          subst hzy
          exact ⟨⟨s0, s1, s2, s3⟩, ⟨by simpa using a0, by simpa using a1, by simpa using a2, by simpa using a3⟩, by simpa using hxy.1⟩
    obtain ⟨X, hX⟩ := choose_lt each
    have hlen : ((List.range len).map X).length = len := by simp
    refine ⟨some a, cap, (List.range len).map X, by rw [hlen], ?_, by rw [hlen]; omega, fun x hx => ?_, by rw [hlen]; omega⟩
    · by_cases hp : 0 < len
      · have h0 := (hX 0 hp).1.1
        obtain ⟨b, off, spot⟩ := a
        have hspot : spot = none := by simpa [Addr.add] using World.cell?_spot h0
        subst hspot
        have hb : b < W.heap.size := by simpa [Addr.add] using World.block_lt_of_cell? W _ h0
        refine flat_at4 _ b off hb fun i x hi j u hu => ?_
        simp only [List.getElem?_map, Option.map_eq_some_iff] at hi
        obtain ⟨i', hi', rfl⟩ := hi
        obtain ⟨hil, hi'⟩ := List.getElem?_eq_some_iff.1 hi'
        simp at hil hi'
        subst hi'
        obtain ⟨c0, c1, c2, c3⟩ := (hX i hil).1
        rw [add_plain] at c0 c1 c2 c3
        match j, hu with
        | 0, hu => simp [feC] at hu; subst hu; exact c0
        | 1, hu => simp [feC] at hu; subst hu; rw [Nat.add_assoc]; exact c1
        | 2, hu => simp [feC] at hu; subst hu; rw [Nat.add_assoc]; exact c2
        | 3, hu => simp [feC] at hu; subst hu; rw [Nat.add_assoc]; exact c3
        | j + 4, hu => simp [feC] at hu
      · have : len = 0 := by omega
        subst this
        exact Dat.At.nil
    · obtain ⟨i, hi', rfl⟩ := List.mem_map.1 hx
      have hil := List.mem_range.1 hi'
      have hD := (hX i hil).2
      have hw : (X i).t.data.toList.length ∈ DataW.weights Tryz.prog 42 (.slice ((List.range len).map D) ((List.range (m - len)).map fun j => D (len + j))) := by
        simp only [DataW.weights, Tryz.underlying42, List.mem_cons, List.mem_append]
        refine .inr (.inl (weights_mem_all (d := D i) (List.mem_map.2 ⟨i, hi', rfl⟩) ?_))
        rw [hD]
        simp [DataW.weights, Tryz.underlying95, Tryz.underlying93, DataW.weightsEach]
      have := List.all_eq_true.1 hsz _ hw
      simpa [reachBytes] using of_decide_eq_true this
end
end Go.Proofs.YtpibenilagloaaaGreatDoor
