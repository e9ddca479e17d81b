import Derived.Test.YtpibenilagloaaaGreatDoorRzac
namespace Go.Proofs.YtpibenilagloaaaGreatDoor
open Go.RowKit
set_option linter.unusedVariables false
def cutB (st : Int) (x : tx.Ed) : Bool := decide (x.s < st ∧ st < x.e) || decide (x.s = st ∧ st < x.e ∧ x.t.size = 0)
def newPosL (es : List FEd) (m st : Int) : Int × Int × Bool := if (edsOf es m).any (cutB st) then (0, 0, false) else if tx.mapE (edsOf es m) st ≠ 0 then (0, 0, false) else (m, tx.mapP (edsOf es m) st true, true)
def NpoPost (es : List FEd) (m st : Int) (w : World) (e : Ending) (w' : World) : Prop := e = .returned (.tuple #[.int .i64 (newPosL es m st).1, .int .i64 (newPosL es m st).2.1, .bool (newPosL es m st).2.2]) ∧ Below w.heap.size w w'
theorem size0 {x : ByteArray} : x.size = 0 ↔ x.toList = [] := by
  rw [ByteArray.toList_eq, ← List.length_eq_zero_iff, Array.length_toList]; rfl
set_option maxRecDepth 100000 in
set_option maxHeartbeats 6400000 in
theorem newPos_any (es : List FEd) (A : Option Addr) (c mc : Nat) (m st : Int) (w : World) (h : feD.At w (Lt w) A es) (hl : es.length * 40 ≤ 140737488351232) :
    Calls Tryz.prog 73 #[.slice A es.length c, .slice none 0 mc, .int .i64 m, .int .i64 st] w (NpoPost es m st w) := by
  have HP := Lib.hid (show ∀ a b (r : Bool), newPosL es m st = (a, b, r) → NpoPost es m st w = fun e w' => e = .returned (.tuple #[.int .i64 a, .int .i64 b, .bool r]) ∧ Below w.heap.size w w' from fun a b r h => by funext e w'; unfold NpoPost; rw [h])
  have HNP := Lib.hid (show newPosL es m st = if (edsOf es m).any (cutB st) then (0, 0, false) else if tx.mapE (edsOf es m) st ≠ 0 then (0, 0, false) else (m, tx.mapP (edsOf es m) st true, true) from rfl)
  obtain ⟨n, hn⟩ : ∃ n, es.length = n := ⟨_, rfl⟩
  have HN := Lib.hid hn
  have HA := Lib.hid h
  rw [hn] at hl
  rw [hn]
  have HES := Lib.hid (show ∀ j (x : FEd), es[j]? = some x → edsOf (es.take (j + 1)) m = edsOf (es.take j) m ++ (if x.mod = m then [x.ed] else []) from fun j x hx => edsOf_snoc es m j x hx)
  have HIN := Lib.hid (show ∀ j (x : FEd), es[j]? = some x → x.mod = m → x.ed ∈ edsOf es m from fun j x hx hm => by
    unfold edsOf
    exact List.mem_map.2 ⟨x, List.mem_filter.2 ⟨List.mem_of_getElem? hx, by simpa using hm⟩, rfl⟩)
  clear hn h
  go_enter Tryz.func73, Tryz.ntmps73
  go_wp2_with fail
  go_loopw [20] (fun i wr => i = .int .i64 0 ∧ wr = w) (fun _ _ => 0)
  case atStart => exact ⟨rfl, rfl⟩
  case round =>
    obtain ⟨rfl, rfl⟩ := hrel
    obtain ⟨wo, rfl⟩ : ∃ wo : World, wo = wr := ⟨_, rfl⟩
    go_wp2_with fail
    have hq0 : edD.Own wo wo.heap.size 93 (OF wo.heap.size (.slice none 0 0) wo) (.slice none 0 0) [] [] := Dat.Own.nil
    go_loopw [13, 55] (fun v i wr => ∃ (j : Nat) (vs : List Value), i = .int .i64 (j : Int) ∧ j ≤ n ∧ edD.Own wr wo.heap.size 93 (OF wo.heap.size v wr) v (edsOf (es.take j) m) vs ∧ (edsOf (es.take j) m).any (cutB st) = false ∧ Below wo.heap.size wo wr) (fun _ i _ => n - (intOf i).toNat)
    case atStart => exact ⟨0, [], rfl, Nat.zero_le _, by simpa [edsOf] using hq0, rfl, Below.refl _ _⟩
    case round =>
      clear hq0
      obtain ⟨j, vs, rfl, hj, hown, hany, hb⟩ := hrel
      have HANY := Lib.hid hany
      clear hany
      by_cases hlt : j < n
      · have hjI : (j : Int) < n := by omega
        have hjl : j < es.length := by rw [HN.out]; exact hlt
        obtain ⟨tb, off, rfl, htb, hxc⟩ := flat_get HA.out j es[j] (List.getElem?_eq_getElem hjl)
        have htk := HES.out j es[j] (List.getElem?_eq_getElem hjl)
        have hin := HIN.out j es[j] (List.getElem?_eq_getElem hjl)
        have hlen := edsOf_len (es.take j) m
        rw [List.length_take, Nat.min_eq_left (by omega)] at hlen
        generalize es[j] = x at *
        obtain ⟨x0, x1, x2, x3⟩ := x
        simp only [FEd.ed] at htk hin
        have hbs := hb.size
        have htl : tb < wo.heap.size := htb
        have cc : ∀ i u, ([.int .i64 x0, .int .i64 x1, .int .i64 x2, .string x3] : List Value)[i]? = some u → wr.cell? ⟨tb, off + j * 4 + i, none⟩ = some u := fun i u hu => (hb.cell (p := ⟨tb, _, none⟩) htl).trans (hxc i u hu)
        have d0 := cc 0 _ rfl
        have d1 := cc 1 _ rfl
        have d2 := cc 2 _ rfl
        have d3 := cc 3 _ rfl
        rw [Nat.add_zero] at d0
        have htl2 : tb < wr.heap.size := Nat.lt_of_lt_of_le htl hbs
        obtain ⟨W2, hW2⟩ : ∃ W2, wr.alloc (.cells #[.int .i64 x0, .int .i64 x1, .int .i64 x2, .string x3] 95) = W2 := ⟨_, rfl⟩
        have hb2 : Below wr.heap.size wr W2 := by rw [← hW2]; exact (Below.refl _ _).alloc (Nat.le_refl _) _
        have hx2 : W2.heap[wr.heap.size]? = some (.cells #[.int .i64 x0, .int .i64 x1, .int .i64 x2, .string x3] 95 (0, 0)) := by rw [← hW2]; exact heap_alloc_new wr _
        have hxl := lt_of_heap hx2
        have e0 := cell_of hx2 0 _ rfl
        have e1 := cell_of hx2 1 _ rfl
        have e2 := cell_of hx2 2 _ rfl
        have e3 := cell_of hx2 3 _ rfl
        have hs2 := hb2.size
        have hown2' := hown.below hb2
        have HTK := Lib.hid htk
        have HI := Lib.hid hin
        have HOW := Lib.hid hown2'
        have HB2 := Lib.hid (hb.trans (hb2.mono hbs))
        have HLE := Lib.hid hlen
        clear cc hxc htk hown hb hb2 hx2 hlen hin hown2'
        by_cases g1 : x0 = m
        · have k1 : (x0 != m) = false := by simpa using g1
          have k1' : (x0 == m) = true := by simpa using g1
          have HI2 := Lib.hid (HI.out g1)
          have HTK2 := Lib.hid (show edsOf (es.take (j + 1)) m = edsOf (es.take j) m ++ [⟨x1, x2, x3⟩] by rw [HTK.out, if_pos g1])
          clear HTK HI
          by_cases hc : cutB st ⟨x1, x2, x3⟩ = true
          · have HF := Lib.hid (show NpoPost es m st wo = fun e w' => e = .returned (.tuple #[.int .i64 0, .int .i64 0, .bool false]) ∧ Below wo.heap.size wo w' from HP.out 0 0 false (by rw [HNP.out, if_pos (List.any_eq_true.2 ⟨_, HI2.out, hc⟩)]))
            unfold cutB at hc
            simp only [Bool.or_eq_true, decide_eq_true_eq] at hc
            by_cases q1 : x1 < st ∧ st < x2
            · obtain ⟨q1, q2⟩ := q1
              clear hc g1
              go_wp2_with fail
              go_ret3
              exact (congrFun (congrFun HF.out _) _).mpr ⟨rfl, HB2.out⟩
            · obtain ⟨q2, q3, q4⟩ : x1 = st ∧ st < x2 ∧ x3.size = 0 := by
                rcases hc with hc | hc
                · exact absurd hc q1
                · exact hc
              have q5 : ¬ x1 < st := by omega
              have q6 : (x1 == st) = true := by simpa using q2
              have q7 := size0.1 q4
              clear hc g1 q1 q4 q2
              go_wp2_with fail
              go_ret3
              exact (congrFun (congrFun HF.out _) _).mpr ⟨rfl, HB2.out⟩
          · have hcf : cutB st ⟨x1, x2, x3⟩ = false := by simpa using hc
            have HF := Lib.hid (show (edsOf (es.take (j + 1)) m).any (cutB st) = false by rw [HTK2.out, List.any_append, HANY.out]; simp [hcf])
            obtain ⟨n0, hn0⟩ : ∃ n0, (edsOf (es.take j) m).length = n0 := ⟨_, rfl⟩
            have ho1 := HOW.out.1
            have hn0b : n0 ≤ j := by rw [← hn0]; exact HLE.out
            rw [hn0] at ho1
            have ho1' : W2.ownsRow wo.heap.size 93 3 u13 n0 vs := ho1
            have HN0 := Lib.hid hn0
            have hbB : wo.heap.size ≤ W2.heap.size := by omega
            have hend : ∀ (w3 : World) v3, w3.ownsRow wo.heap.size 93 3 v3 (n0 + 1) (vs ++ [.int .i64 x1, .int .i64 x2, .string x3]) → W2.grownBy w3 (Value.ownBlock u13) → (v3.ownBlock = Value.ownBlock u13 ∨ ∃ g, v3.ownBlock = some g ∧ W2.heap.size ≤ g) →
                edD.Own w3 wo.heap.size 93 (OF wo.heap.size v3 w3) v3 (edsOf (es.take (j + 1)) m) (vs ++ [.int .i64 x1, .int .i64 x2, .string x3]) ∧ Below wo.heap.size wo w3 := fun w3 v3 a1 a2 a3 => by
              refine ⟨?_, HB2.out.grown a2 hbB (fun q hq => (HOW.out.1.lt q hq).1)⟩
              rw [HTK2.out]
              exact HOW.out.grow (ys := [⟨x1, x2, x3⟩]) (Dat.Row.single (D := edD) rfl) a2 (by rw [HN0.out]; exact a1) a3
            have HEND := Lib.hid hend
            clear hn0 ho1 hend
            unfold cutB at hc
            simp only [Bool.or_eq_true, decide_eq_true_eq, not_or, not_and] at hc
            obtain ⟨c1, c2⟩ := hc
            have hin2 : ∀ u ∈ ([.int .i64 x1, .int .i64 x2, .string x3] : List Value), u.oneCell' = true := by simp [Value.oneCell']
            have hkl : n0 + 1 ≤ maxLen := by unfold maxLen; omega
            have hkb : (n0 + 1) * 32 ≤ 140737488355328 := by omega
            have hz := size0 (x := x3)
            have hcase : (x1 < st ∧ ¬ st < x2 ∧ (x1 == st) = false) ∨ (¬ x1 < st ∧ (x1 == st) = true ∧ st < x2 ∧ ¬ x3.toList = [] ∧ x3.toList.isEmpty = false) ∨ (¬ x1 < st ∧ (x1 == st) = true ∧ ¬ st < x2) ∨ (¬ x1 < st ∧ (x1 == st) = false) := by
              simp only [beq_iff_eq, beq_eq_false_iff_ne]
              by_cases y1 : x1 < st
              · exact .inl ⟨y1, c1 y1, by omega⟩
              · by_cases y2 : x1 = st
                · by_cases y3 : st < x2
                  · exact .inr (.inl ⟨y1, y2, y3, fun e => c2 y2 y3 (hz.2 e), by rw [List.isEmpty_eq_false_iff]; exact fun e => c2 y2 y3 (hz.2 e)⟩)
                  · exact .inr (.inr (.inl ⟨y1, y2, y3⟩))
                · exact .inr (.inr (.inr ⟨y1, y2⟩))
            clear c1 c2 hz g1
            rcases hcase with ⟨p1, p2, p3⟩ | ⟨p1, p2, p3, p4, p5⟩ | ⟨p1, p2, p3⟩ | ⟨p1, p2⟩
            all_goals
              go_wp2_with (at_builtin; refine wpList_append_litH rfl (.tmp 95) (.tmp 98) _ rfl wo.heap.size 93 _ 3 32 Tryz.underlying49 info_ed rfl (by decide) _ _ _ rfl ho1' 1 1 W2.heap.size rfl [.int .i64 x1, .int .i64 x2, .string x3] rfl rfl hin2 hkl hkb hbB ?_)
              intro v2 w2 hown2 hg2 hat2
              obtain ⟨h2, hb2⟩ := HEND.out _ _ hown2 hg2 hat2
              have H2 := Lib.hid h2
              have HB3 := Lib.hid hb2
              clear h2 hb2 hown2 hg2 hat2
              go_wp2_with fail
              go_roundw
              case rel => exact ⟨j + 1, _, by go_num, by omega, H2.out, HF.out, HB3.out⟩
              case measure => simp [intOf]; omega
        · have k1 : (x0 != m) = true := by simpa using g1
          have k1' : (x0 == m) = false := by simpa using g1
          have HF := Lib.hid (show edsOf (es.take (j + 1)) m = edsOf (es.take j) m by rw [HTK.out, if_neg g1, List.append_nil])
          clear HTK HI g1
          go_wp2_with fail
          go_roundw
          case rel => exact ⟨j + 1, vs, by go_num, by omega, by rw [HF.out]; exact HOW.out, by rw [HF.out]; exact HANY.out, HB2.out⟩
          case measure => simp [intOf]; omega
      · have hjI : ¬ (j : Int) < n := by omega
        have htk : es.take j = es := List.take_of_length_le (by rw [HN.out]; omega)
        rw [htk] at hown
        have HANY2 := Lib.hid (show (edsOf es m).any (cutB st) = false from by have := HANY.out; rw [htk] at this; exact this)
        obtain ⟨A3, c3, hv, hAt, _⟩ := hown.at (F' := Lt wr) (fun c hc => hc.2.1) (fun c hc => (hown.1.lt c hc).2)
        subst hv
        have HMP := Lib.hid (tx.map_any A3 c3 (edsOf es m) st true wr (eds_of hAt (fun _ h => h)) (by have := edsOf_len es m; rw [HN.out] at this; unfold maxLen; omega))
        have HB := Lib.hid hb
        obtain ⟨z, hz⟩ : ∃ z, (edsOf es m).length = z := ⟨_, rfl⟩
        rw [hz] at HMP
        rw [hz]
        obtain ⟨me, hme⟩ : ∃ me, tx.mapE (edsOf es m) st = me := ⟨_, rfl⟩
        obtain ⟨mp, hmp⟩ : ∃ mp, tx.mapP (edsOf es m) st true = mp := ⟨_, rfl⟩
        rw [hme, hmp] at HMP
        have HME := Lib.hid hme
        have HMPP := Lib.hid hmp
        clear hb hAt hown htk hz hme hmp HANY
        by_cases hm0 : me = 0
        · subst hm0
          have HF := Lib.hid (show NpoPost es m st wo = fun e w' => e = .returned (.tuple #[.int .i64 m, .int .i64 mp, .bool true]) ∧ Below wo.heap.size wo w' from HP.out m mp true (by rw [HNP.out, if_neg (by rw [HANY2.out]; decide), if_neg (by rw [HME.out]; simp), HMPP.out]))
          go_wp2_with fail
          refine HMP.out.mono ?_
          rintro e w5 ⟨rfl, hb5⟩
          have HB5 := Lib.hid (HB.out.trans (hb5.mono HB.out.size))
          clear hb5 HMP
          go_wp2_with fail
          go_ret3
          exact (congrFun (congrFun HF.out _) _).mpr ⟨rfl, HB5.out⟩
        · have HF := Lib.hid (show NpoPost es m st wo = fun e w' => e = .returned (.tuple #[.int .i64 0, .int .i64 0, .bool false]) ∧ Below wo.heap.size wo w' from HP.out 0 0 false (by rw [HNP.out, if_neg (by rw [HANY2.out]; decide), if_pos (by rw [HME.out]; exact hm0)]))
          have k1 : (me != 0) = true := by simpa using hm0
          clear hm0
          go_wp2_with fail
          refine HMP.out.mono ?_
          rintro e w5 ⟨rfl, hb5⟩
          have HB5 := Lib.hid (HB.out.trans (hb5.mono HB.out.size))
          clear hb5 HMP
          go_wp2_with fail
          go_ret3
          exact (congrFun (congrFun HF.out _) _).mpr ⟨rfl, HB5.out⟩
end Go.Proofs.YtpibenilagloaaaGreatDoor
