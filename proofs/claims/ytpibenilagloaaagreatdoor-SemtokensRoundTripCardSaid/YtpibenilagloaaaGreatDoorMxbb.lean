import Derived.Test.YtpibenilagloaaaGreatDoorMxad
import Derived.Test.YtpibenilagloaaaGreatDoorShelf
import Derived.Test.YtpibenilagloaaaGreatDoorShelf2
import Derived.Test.YtpibenilagloaaaGreatDoorMxba
import Derived.Test.YtpibenilagloaaaGreatDoorMxau
import Derived.Shelf.Strings.Builder1
import Derived.Lib.Builder
import Derived.Lib.AppendStr
/-
  Members, unique.
-/
namespace Go.Proofs.YtpibenilagloaaaGreatDoor
open Go.RowKit
set_option linter.unusedVariables false

theorem idxs_snoc (p : Sym → Bool) : ∀ (l : List Sym) (i : Nat) (y : Sym), idxsFrom p i (l ++ [y]) = idxsFrom p i l ++ (if p y then [((i + l.length : Nat) : Int)] else [])
  | [], i, y => by
    simp only [List.nil_append, idxsFrom, List.length_nil, Nat.add_zero]
  | x :: r, i, y => by
    rw [List.cons_append, idxsFrom, idxsFrom, idxs_snoc p r (i + 1) y, List.length_cons, show i + 1 + r.length = i + (r.length + 1) by omega]
    split
    · rw [List.cons_append]
    · rfl
theorem idxs_len (p : Sym → Bool) : ∀ (l : List Sym) (i : Nat), (idxsFrom p i l).length ≤ l.length
  | [], i => by simp [idxsFrom]
  | x :: r, i => by
    have := idxs_len p r (i + 1)
    unfold idxsFrom
    split <;> simp <;> omega
theorem unique_any (xs : List Int) (A : Option Addr) (c : Nat) (w : World) (h : inD.At w (Lt w) A xs) :
    Calls Tryz.prog 296 #[.slice A xs.length c] w fun e w' => e = .returned (.tuple #[.int .i64 (uniqueL xs).1, .int .i64 (uniqueL xs).2]) ∧ w' = w := by
  match xs, h with
  | [], h =>
    go_enter Tryz.func296, Tryz.ntmps296
    go_wp2_with fail
    go_ret2
    exact ⟨rfl, rfl⟩
  | [x], h =>
    obtain ⟨b, off, rfl, hb, hc⟩ := flat_get h 0 x rfl
    have c0 := hc 0 _ rfl
    simp only [Nat.zero_mul, Nat.add_zero] at c0
    have hb2 : b < w.heap.size := hb
    clear hc h hb
    go_enter Tryz.func296, Tryz.ntmps296
    go_wp2_with fail
    go_ret2
    exact ⟨rfl, rfl⟩
  | x :: y :: r, h =>
    obtain ⟨n, hn⟩ : ∃ n, (x :: y :: r).length = n := ⟨_, rfl⟩
    have h2 : 2 ≤ n := by rw [← hn]; simp
    rw [hn]
    have e0 : ¬ (n : Int) = 0 := by omega
    have e1 : ¬ (n : Int) = 1 := by omega
    have e2 : ¬ n = 0 := by omega
    have e3 : ¬ n = 1 := by omega
    clear hn h
    go_enter Tryz.func296, Tryz.ntmps296
    go_wp2_with fail
    go_ret2
    exact ⟨rfl, rfl⟩
set_option maxRecDepth 100000 in
set_option maxHeartbeats 1600000 in
theorem members_any (p : Nat) (ss : List Sym) (xs : List Xpt) (par q : Int) (nm : ByteArray) (Ak : Option Addr) (ck : Nat) (w : World) (h : PgV w p ss xs) (hk : inD.At w (Lt w) Ak [q]) (hm : ss.length ≤ 1000000) :
    Calls Tryz.prog 290 #[.pointer (some ⟨p, 0, none⟩), .int .i64 par, .string nm, .slice Ak 1 ck] w fun e w' => ∃ A c, e = .returned (.slice A (membersL ss par nm [q]).length c) ∧ inD.At w' (Nw w w') A (membersL ss par nm [q]) ∧ Below w.heap.size w w' := by
  obtain ⟨A, c, hc3, hat⟩ := h.sy
  obtain ⟨kb, koff, rfl, hkl, hkc⟩ := flat_get hk 0 q rfl
  have hkc0 := hkc 0 _ rfl
  simp only [Nat.zero_mul, Nat.add_zero] at hkc0
  have HKL := Lib.hid (show kb < w.heap.size from hkl)
  have HKC := Lib.hid hkc0
  have hpl := h.lt
  obtain ⟨n, hn⟩ : ∃ n, ss.length = n := ⟨_, rfl⟩
  have HN := Lib.hid hn
  have HA := Lib.hid hat
  rw [hn] at hc3 hm
  clear hn hat h hk hkc hkc0 hkl
  go_enter Tryz.func290, Tryz.ntmps290
  go_wp2_with fail
  have hq0 : inD.Own w w.heap.size 3 (OF w.heap.size (.slice none 0 0) w) (.slice none 0 0) [] [] := Dat.Own.nil
  go_loopw [9, 17] (fun v i wr => ∃ (j : Nat) (vs : List Value), i = .int .i64 (j : Int) ∧ j ≤ n ∧ inD.Own wr w.heap.size 3 (OF w.heap.size v wr) v (membersL (ss.take j) par nm [q]) vs ∧ Below w.heap.size w wr) (fun _ i _ => n - (intOf i).toNat)
  case atStart => exact ⟨0, [], rfl, Nat.zero_le _, by simpa [membersL, idxsFrom] using hq0, Below.refl _ _⟩
  case round =>
    clear hq0
    obtain ⟨j, vs, rfl, hj, hown, hb⟩ := hrel
    by_cases hlt : j < n
    · have hjI : (j : Int) < n := by omega
      have hjl : j < ss.length := by rw [HN.out]; exact hlt
      obtain ⟨tb, off, rfl, htb, hxc⟩ := flat_get HA.out j ss[j] (List.getElem?_eq_getElem hjl)
      have htk : membersL (ss.take (j + 1)) par nm [q] = membersL (ss.take j) par nm [q] ++ (if (decide (ss[j].par = par) && (decide (ss[j].nm = nm) && [q].contains ss[j].kind)) then [(j : Int)] else []) := by
        unfold membersL
        rw [List.take_succ_eq_append_getElem hjl, idxs_snoc, List.length_take, Nat.zero_add, Nat.min_eq_left (by omega)]
      have hlen : (membersL (ss.take j) par nm [q]).length ≤ j := by
        unfold membersL
        refine Nat.le_trans (idxs_len _ _ _) ?_; rw [List.length_take]; omega
      generalize ss[j] = x at *
      obtain ⟨x0, x1, x2, x3, x4, x5⟩ := x
      simp only at htk
      have hbs := hb.size
      have htl : tb < w.heap.size := htb
      have cc : ∀ i u, ([.int .i64 x0, .int .i64 x1, .int .i64 x2, .int .i64 x3, .string x4, .bool x5] : List Value)[i]? = some u → wr.cell? ⟨tb, off + j * 6 + i, none⟩ = some u := fun i u hu => (hb.cell (p := ⟨tb, _, none⟩) htl).trans (hxc i u hu)
      have d0 := cc 0 _ rfl
      have d1 := cc 1 _ rfl
      have d2 := cc 2 _ rfl
      have d3 := cc 3 _ rfl
      have d4 := cc 4 _ rfl
      have d5 := cc 5 _ rfl
      rw [Nat.add_zero] at d0
      have htl2 : tb < wr.heap.size := Nat.lt_of_lt_of_le htl hbs
      have HTK := Lib.hid htk
      have HOW := Lib.hid hown
      have HB := Lib.hid hb
      have HLE := Lib.hid hlen
      clear cc hxc htk hown hb hlen hc3
      by_cases g1 : par = x3
      · subst g1
        by_cases g2 : nm = x4
        · subst g2
          by_cases g3 : q = x0
          · subst g3
            have HQQ := Lib.hid (show (([q] : List Int).take 1).contains q = true by simp)
            have HCQ : Hid (Calls Tryz.prog 106 #[.slice (some ⟨kb, koff, none⟩) 1 ck, .int .i64 q] (wr.alloc (.cells #[.int .i64 q, .int .i64 x1, .int .i64 x2, .int .i64 par, .string nm, .bool x5] 89)) fun e w' => e = .returned (.bool ((([q] : List Int).take 1).contains q)) ∧ w' = wr.alloc (.cells #[.int .i64 q, .int .i64 x1, .int .i64 x2, .int .i64 par, .string nm, .bool x5] 89)) := Tryz.slices_Contains_int kb koff 1 ck [q] q _ (Nat.le_refl _) (by decide) (fun j hj => by
              obtain rfl : j = 0 := by simpa using hj
              exact (((HB.out.alloc hbs _).cell (p := ⟨kb, koff, none⟩) HKL.out).trans HKC.out))
            have HF := Lib.hid (show membersL (ss.take (j + 1)) par nm [q] = membersL (ss.take j) par nm [q] ++ [(j : Int)] by rw [HTK.out, if_pos (by simp)])
            clear HTK
            have hbl : Below wr.heap.size wr (wr.alloc (.cells #[.int .i64 q, .int .i64 x1, .int .i64 x2, .int .i64 par, .string nm, .bool x5] 89)) := (Below.refl _ _).alloc (Nat.le_refl _) _
            have hown1 := HOW.out.below hbl
            obtain ⟨n0, hn0⟩ : ∃ n0, (membersL (ss.take j) par nm [q]).length = n0 := ⟨_, rfl⟩
            have ho1 := hown1.1
            have hn0b : n0 ≤ j := by rw [← hn0]; exact HLE.out
            rw [hn0] at ho1
            have ho1' : (wr.alloc (.cells #[.int .i64 q, .int .i64 x1, .int .i64 x2, .int .i64 par, .string nm, .bool x5] 89)).ownsRow w.heap.size 3 1 u9 n0 vs := ho1
            have HO1 := Lib.hid hown1
            have HBL := Lib.hid hbl
            have HN0 := Lib.hid hn0
            have hbB : w.heap.size ≤ (wr.alloc (.cells #[.int .i64 q, .int .i64 x1, .int .i64 x2, .int .i64 par, .string nm, .bool x5] 89)).heap.size := by simp; omega
            clear hn0 hown1 hbl ho1
            go_wp2_with fail
            refine HCQ.out.mono ?_
            rintro e w3 ⟨rfl, rfl⟩
            rw [HQQ.out]
            go_wp2_with (at_builtin; refine wpList_append_litH rfl (.tmp 38) (.tmp 40) _ rfl w.heap.size 3 _ 1 8 Tryz.underlying76 info_in rfl (by decide) _ _ _ rfl ho1' 1 1 (wr.heap.size + 1) (by simp) [.int .i64 (j : Int)] rfl rfl ?a1 ?a2 ?a3 hbB ?_)
            case a1 => simp [Value.oneCell']
            case a2 => simp only [maxLen]; omega
            case a3 => omega
            intro v2 w2 hown2 hg2 hat2
            have h2 : inD.Own w2 w.heap.size 3 (OF w.heap.size v2 w2) v2 (membersL (ss.take (j + 1)) par nm [q]) (vs ++ [.int .i64 (j : Int)]) := by
              rw [HF.out]
              exact HO1.out.grow (ys := [(j : Int)]) (Dat.Row.single (D := inD) rfl) hg2 (by rw [HN0.out]; exact hown2) (hat2.imp_right fun ⟨g, h1, h2⟩ => ⟨g, h1, by simp; exact h2⟩)
            have hb2 : Below w.heap.size w w2 := (HB.out.trans (HBL.out.mono hbs)).grown hg2 hbB (fun q hq => (HO1.out.1.lt q hq).1)
            have H2 := Lib.hid h2
            have HB2 := Lib.hid hb2
            clear h2 hb2 hown2 hg2 hat2
            go_wp2_with fail
            go_roundw
            case rel => exact ⟨j + 1, _, by go_num, by omega, H2.out, HB2.out⟩
            case measure => simp [intOf]; omega
          · have g3' : ¬ x0 = q := fun e => g3 e.symm
            have HQQ := Lib.hid (show (([q] : List Int).take 1).contains x0 = false by simp [g3'])
            have HCQ : Hid (Calls Tryz.prog 106 #[.slice (some ⟨kb, koff, none⟩) 1 ck, .int .i64 x0] (wr.alloc (.cells #[.int .i64 x0, .int .i64 x1, .int .i64 x2, .int .i64 par, .string nm, .bool x5] 89)) fun e w' => e = .returned (.bool ((([q] : List Int).take 1).contains x0)) ∧ w' = wr.alloc (.cells #[.int .i64 x0, .int .i64 x1, .int .i64 x2, .int .i64 par, .string nm, .bool x5] 89)) := Tryz.slices_Contains_int kb koff 1 ck [q] x0 _ (Nat.le_refl _) (by decide) (fun j hj => by
              obtain rfl : j = 0 := by simpa using hj
              exact (((HB.out.alloc hbs _).cell (p := ⟨kb, koff, none⟩) HKL.out).trans HKC.out))
            have HF := Lib.hid (show membersL (ss.take (j + 1)) par nm [q] = membersL (ss.take j) par nm [q] by rw [HTK.out, if_neg (by simp [g3']), List.append_nil])
            clear HTK
            go_wp2_with fail
            refine HCQ.out.mono ?_
            rintro e w3 ⟨rfl, rfl⟩
            rw [HQQ.out]
            go_wp2_with fail
            go_roundw
            case rel => exact ⟨j + 1, vs, by go_num, by omega, by rw [HF.out]; exact HOW.out.below ((Below.refl _ _).alloc (Nat.le_refl _) _), HB.out.alloc hbs _⟩
            case measure => simp [intOf]; omega
        · have gs : ¬ x4.toList = nm.toList := fun e => g2 (ba_inj e).symm
          have g2' : ¬ x4 = nm := fun e => g2 e.symm
          have HF := Lib.hid (show membersL (ss.take (j + 1)) par nm [q] = membersL (ss.take j) par nm [q] by rw [HTK.out, if_neg (by simp [g2']), List.append_nil])
          clear HTK
          go_wp2_with fail
          go_roundw
          case rel => exact ⟨j + 1, vs, by go_num, by omega, by rw [HF.out]; exact HOW.out.below ((Below.refl _ _).alloc (Nat.le_refl _) _), HB.out.alloc hbs _⟩
          case measure => simp [intOf]; omega
      · have g1' : ¬ x3 = par := fun e => g1 e.symm
        have HF := Lib.hid (show membersL (ss.take (j + 1)) par nm [q] = membersL (ss.take j) par nm [q] by rw [HTK.out, if_neg (by simp [g1']), List.append_nil])
        clear HTK
        go_wp2_with fail
        go_roundw
        case rel => exact ⟨j + 1, vs, by go_num, by omega, by rw [HF.out]; exact HOW.out.below ((Below.refl _ _).alloc (Nat.le_refl _) _), HB.out.alloc hbs _⟩
        case measure => simp [intOf]; omega
    · have hjI : ¬ (j : Int) < n := by omega
      have htk : ss.take j = ss := List.take_of_length_le (by rw [HN.out]; omega)
      rw [htk] at hown
      have HB := Lib.hid hb
      obtain ⟨A3, c3, hv, hAt, _⟩ := hown.at (F' := Nw w wr) (fun c hc => ⟨hc.1, hc.2.1⟩) (fun c hc => hown.1.lt c hc)
      subst hv
      have HAt := Lib.hid hAt
      obtain ⟨z, hz⟩ : ∃ z, (membersL ss par nm [q]).length = z := ⟨_, rfl⟩
      have HQ := Lib.hid hz
      rw [hz]
      clear hb hAt hown htk hz
      go_wp2_with fail
      go_ret
      first
        | exact ⟨A3, c3, by rw [HQ.out]; rfl, HAt.out, HB.out⟩
        | exact ⟨A3, ⟨c3, by rw [HQ.out]; rfl⟩, HAt.out, HB.out⟩
end Go.Proofs.YtpibenilagloaaaGreatDoor

/-
  workspace.IndexOf.
-/
namespace Go.Proofs.YtpibenilagloaaaGreatDoor
open Go.RowKit
set_option linter.unusedVariables false

/-- the closure of IndexOf: 'm.Name == name', name in the cell ⟨B, 0⟩ of the caller's -/
theorem idx_pred (nm : ByteArray) (B : Nat) (w : World) (hB : B < w.heap.size) (hcell : w.cell? ⟨B, 0, none⟩ = some (.string nm)) :
    PredBelow Tryz.prog 127 #[.pointer (some ⟨B, 0, none⟩)] (fun x : Mdl => .agg (mdC x).toArray) (fun x => decide (x.nm = nm)) w := fun W x hb => by
  have hc : W.cell? ⟨B, 0, none⟩ = some (.string nm) := (hb.cell (p := ⟨B, 0, none⟩) hB).trans hcell
  have hBW : B < W.heap.size := Nat.lt_of_lt_of_le hB hb.size
  have hne : B ≠ W.heap.size := by omega
  obtain ⟨x0, x1⟩ := x
  have HB := Lib.hid hb
  clear hb
  show Calls Tryz.prog 127 #[.agg #[.string x0, .string x1], .pointer (some ⟨B, 0, none⟩)] W _
  by_cases g : nm = x0
  · subst g
    go_enter Tryz.func127, Tryz.ntmps127
    go_wp2_with fail
    go_ret
    exact ⟨by simp, HB.out.alloc HB.out.size _⟩
  · have gs : ¬ x0.toList = nm.toList := fun e => g (ba_inj e).symm
    go_enter Tryz.func127, Tryz.ntmps127
    go_wp2_with fail
    go_ret
    have g' : ¬ x0 = nm := fun e => g e.symm
    exact ⟨by simp [g', gs], HB.out.alloc HB.out.size _⟩
set_option maxHeartbeats 1000000 in
theorem indexOf_any (b off n c : Nat) (zs : List Mdl) (nm : ByteArray) (w : World) (hz : n ≤ zs.length) (hbig : n ≤ 9223372036854775807) (hb : b < w.heap.size)
    (hc : ∀ j x, zs[j]? = some x → ∀ i u, (mdC x)[i]? = some u → w.cell? ⟨b, off + j * 2 + i, none⟩ = some u) :
    Calls Tryz.prog 82 #[.slice (some ⟨b, off, none⟩) n c, .string nm] w fun e w' => e = .returned (.int .i64 (idxOf (zs.take n) nm)) ∧ Below w.heap.size w w' := by
  have eg : ∀ args w, (callFunc 127 args).run Tryz.prog w = .ok (.enter 127 args) w := enters_of Tryz.func127 (by kernel_rfl) rfl
  have hcon := AnyQ.slices_IndexFunc Tryz.idxMd 2 Tryz.isAgg48 Tryz.sizeOf48 mdC (fun _ => rfl) (fun x => decide (x.nm = nm)) 127 #[.pointer (some ⟨w.heap.size, 0, none⟩)] eg b off n c zs (w.alloc (.cells #[.string nm] 9))
    (idx_pred nm w.heap.size _ (by simp) (by simp)) hz hbig (by simp; omega) (fun j hj i v hi => by
      refine Lib.cell?_alloc_some _ ?_
      have e : zs[j]? = some zs[j]! := by rw [List.getElem!_eq_getElem?_getD, List.getElem?_eq_getElem hj]; rfl
      exact hc j _ e i v hi)
  change Calls Tryz.prog 126 _ _ _ at hcon
  have HC := Lib.hid hcon
  have HI := Lib.hid (show idxOf (zs.take n) nm = Lib.idxBy (fun _ y => decide (y.nm = nm)) (zs.take n) default from rfl)
  generalize Lib.idxBy (fun _ (y : Mdl) => decide (y.nm = nm)) (zs.take n) default = r at *
  rw [HI.out]
  clear hc hcon
  go_enter Tryz.func82, Tryz.ntmps82
  go_wp2_with fail
  refine HC.out.mono ?_
  rintro e w' ⟨rfl, hb'⟩
  go_wp2_with fail
  go_ret
  exact ⟨rfl, ((Below.refl _ w).alloc (Nat.le_refl _) _).trans (hb'.mono (by simp))⟩
end Go.Proofs.YtpibenilagloaaaGreatDoor

/-
  workspace.Validate at one module.
-/
namespace Go.Proofs.YtpibenilagloaaaGreatDoor
open Go.RowKit
set_option linter.unusedVariables false

theorem big_below (w : World) : PredBelow Tryz.prog 79 #[] (fun x : Mdl => .agg (mdC x).toArray) (fun x => decide (2000 < x.src.size)) w := fun W x hb =>
  (big_pred x.nm x.src W).mono fun e w' h => ⟨h.1, hb.trans (h.2.mono hb.size)⟩
theorem name_below (w : World) (hA : AscAt w) : PredBelow Tryz.prog 80 #[] (fun x : Mdl => .agg (mdC x).toArray) (fun x => !isIdB x.nm) w := fun W x hb =>
  (name_pred x.nm x.src W (AscAt.below hA hb)).mono fun e w' h => ⟨h.1, hb.trans (h.2.mono hb.size)⟩
set_option maxRecDepth 100000 in
set_option maxHeartbeats 1600000 in
theorem val_one (x : Mdl) (b off c : Nat) (w : World) (hA : AscAt w) (hb : b < w.heap.size) (hc : ∀ i u, (mdC x)[i]? = some u → w.cell? ⟨b, off + i, none⟩ = some u) (h1 : isIdB x.nm = true) (h2 : x.src.size ≤ 2000) :
    Calls Tryz.prog 42 #[.slice (some ⟨b, off, none⟩) 1 c] w fun e w' => e = .returned (.int .i64 0) ∧ Below w.heap.size w w' := by
  have e1 : ∀ args w, (callFunc 79 args).run Tryz.prog w = .ok (.enter 79 args) w := enters_of Tryz.func79 (by kernel_rfl) rfl
  have e2 : ∀ args w, (callFunc 80 args).run Tryz.prog w = .ok (.enter 80 args) w := enters_of Tryz.func80 (by kernel_rfl) rfl
  have hcc : ∀ w' : World, Below w.heap.size w w' → ∀ j, j < [x].length → ∀ i v, (mdC ([x][j]!))[i]? = some v → w'.cell? ⟨b, off + j * 2 + i, none⟩ = some v := by
    intro w' hb' j hj i v hi
    obtain rfl : j = 0 := by simpa using hj
    rw [Nat.zero_mul, Nat.add_zero]
    exact (hb'.cell (p := ⟨b, _, none⟩) hb).trans (hc i v hi)
  have hc1 := Lib.hid (fun w' (hb' : Below w.heap.size w w') => AnyQ.slices_ContainsFunc Tryz.conMd 2 Tryz.isAgg48 Tryz.sizeOf48 mdC (fun _ => rfl) (fun x => decide (2000 < x.src.size)) 79 #[] e1 b off 1 c [x] w' (big_below w') (by simp) (by decide) (Nat.lt_of_lt_of_le hb hb'.size) (hcc w' hb'))
  have hc2 := Lib.hid (fun w' (hb' : Below w.heap.size w w') => AnyQ.slices_ContainsFunc Tryz.conMd 2 Tryz.isAgg48 Tryz.sizeOf48 mdC (fun _ => rfl) (fun x => !isIdB x.nm) 80 #[] e2 b off 1 c [x] w' (name_below w' (AscAt.below hA hb')) (by simp) (by decide) (Nat.lt_of_lt_of_le hb hb'.size) (hcc w' hb'))
  have r1 : ([x].take 1).any (fun x => decide (2000 < x.src.size)) = false := by simp; omega
  have r2 : ([x].take 1).any (fun x => !isIdB x.nm) = false := by simp [h1]
  have HCC := Lib.hid hcc
  rw [r1] at hc1
  rw [r2] at hc2
  clear r1 r2 e1 e2 hcc
  have HZ := Lib.hid (fun w' (hb' : Below w.heap.size w w') => indexOf_any b off 0 c [x] x.nm w' (Nat.zero_le _) (by decide) (Nat.lt_of_lt_of_le hb hb'.size) (fun j y hy i u hi => by
    obtain ⟨hj, rfl⟩ := List.getElem?_eq_some_iff.1 hy
    have := HCC.out w' hb' j hj i u (by rw [getElem!_pos [x] j hj]; exact hi)
    exact this))
  have hz : idxOf ([x].take 0) x.nm = -1 := by rfl
  rw [hz] at HZ
  have c0 := hc 0 _ rfl
  have c1 := hc 1 _ rfl
  rw [Nat.add_zero] at c0
  obtain ⟨nm, src⟩ := x
  clear hc h1 h2 hz HCC
  simp only at HZ
  go_enter Tryz.func42, Tryz.ntmps42
  go_wp2_with fail
  refine (hc1.out w (Below.refl _ _)).mono ?_
  rintro e w1 ⟨rfl, hb1⟩
  have HB1 := Lib.hid hb1
  have H2 := Lib.hid (hc2.out w1 hb1)
  clear hb1 hc1 hc2
  go_wp2_with fail
  refine H2.out.mono ?_
  rintro e w2 ⟨rfl, hb2⟩
  have HB2 := Lib.hid (HB1.out.trans (hb2.mono HB1.out.size))
  clear hb2 H2
  go_wp2_with fail
  go_loopw [16] (fun i wr => ∃ k : Nat, k ≤ 1 ∧ i = .int .i64 (k : Int) ∧ Below w.heap.size w wr) (fun i _ => 1 - (intOf i).toNat)
  case atStart => exact ⟨0, by omega, rfl, HB2.out⟩
  case round =>
    obtain ⟨k, hk, rfl, hb3⟩ := hrel
    by_cases hk0 : k = 0
    · subst hk0
      have d0 : wr.cell? ⟨b, off, none⟩ = some (.string nm) := (hb3.cell (p := ⟨b, _, none⟩) hb).trans c0
      have d1 : wr.cell? ⟨b, off + 1, none⟩ = some (.string src) := (hb3.cell (p := ⟨b, _, none⟩) hb).trans c1
      have hs3 := hb3.size
      have HB3 := Lib.hid (hb3.alloc hs3 (.cells #[.string nm, .string src] 48))
      have H4 := Lib.hid (HZ.out _ HB3.out.drew)
      clear hb3 c0 c1
      go_wp2_with fail
      go_region_with (go_at_call 82; refine H4.out.mono ?_; rintro e w4 ⟨rfl, hb4⟩)
      all_goals
        have HB4 := Lib.hid ((HB3.out.drew).trans (hb4.mono HB3.out.size))
        clear hb4 H4
        go_wp2_with fail
        go_roundw
        case rel => exact ⟨1, by omega, by go_num, HB4.out⟩
        case measure => simp [intOf]
    · have hkI : ¬ (k : Int) < 1 := by omega
      have hkN : ¬ k < 1 := by omega
      go_wp2_with fail
      go_ret
      exact ⟨rfl, hb3⟩
end Go.Proofs.YtpibenilagloaaaGreatDoor

/-
  strings.Builder: copyCheck, WriteByte, String.
-/
namespace Go.Proofs.YtpibenilagloaaaGreatDoor
open Go.RowKit Go.Shelf
set_option linter.unusedVariables false

/-- blocks of cells of other types than t0, t1 are as they were -/
def Kept (t0 t1 : TypeId) (w w' : World) : Prop := ∀ (g : Nat) (cs : Array Value) (t : TypeId) (fr : Nat × Nat), w.heap[g]? = some (.cells cs t fr) → t ≠ t0 → t ≠ t1 → w'.heap[g]? = some (.cells cs t fr)
theorem Kept.trans {t0 t1 : TypeId} {a b c : World} (h : Kept t0 t1 a b) (k : Kept t0 t1 b c) : Kept t0 t1 a c := fun g cs t fr hg h0 h1 => k g cs t fr (h g cs t fr hg h0 h1) h0 h1
theorem Kept.refl (t0 t1 : TypeId) (w : World) : Kept t0 t1 w w := fun _ _ _ _ h _ _ => h
theorem Kept.setCell {t0 t1 t : TypeId} {w : World} {b : Nat} {cs : Array Value} {fr : Nat × Nat} (hb : w.heap[b]? = some (.cells cs t fr)) (ht : t = t0 ∨ t = t1) (i : Nat) (v : Value) : Kept t0 t1 w (w.setCell ⟨b, i, none⟩ v) := by
  intro g cs' t' fr' hg h0 h1
  rw [Below.heap_setCell _ _ _ _ (fun e => ?_)]
  · exact hg
  · simp only at e
    subst e
    rw [hb] at hg
    injection hg with hg
    injection hg with _ hg _
    rcases ht with ht | ht
    · exact h0 (by rw [← hg, ht])
    · exact h1 (by rw [← hg, ht])
theorem Kept.grown {t0 t1 e : TypeId} {w w' : World} {base size n : Nat} {v : Value} {xs : List Value} (ho : w.ownsRow base e size v n xs) (hg : w.grownBy w' v.ownBlock) (he : e = t0 ∨ e = t1) : Kept t0 t1 w w' := by
  intro g cs' t' fr' hh h0 h1
  rw [hg.block g (lt_of_heap hh) (fun e' => ?_)]
  · exact hh
  · rcases ho.2 with ⟨rfl, _⟩ | ⟨g', cap, cur, rfl, _, hc, _⟩
    · simp [Value.ownBlock] at e'
    · simp [Value.ownBlock] at e'
      subst e'
      rw [hc] at hh
      injection hh with hh
      injection hh with _ hh _
      rcases he with ht | ht
      · exact h0 (by rw [← hh, ht])
      · exact h1 (by rw [← hh, ht])
theorem heap_at2 (w : World) (o1 o2 : Obj) : ((w.alloc o1).alloc o2).drew.heap[w.heap.size + 1]? = some o2 := by
  have := heap_alloc_new (w.alloc o1) o2
  rw [World.size_alloc] at this
  exact this
theorem ret_int {k : IntKind} {a b : Int} (h : a = b) : Ending.returned (.int k a) = .returned (.int k b) := by rw [h]
theorem drop_cons {α : Type} (es : List α) (k : Nat) (h : k < es.length) : es.drop k = es[k] :: es.drop (k + 1) := List.drop_eq_getElem_cons h
theorem take_snoc {α : Type} (es : List α) (k : Nat) (h : k < es.length) : es.take (k + 1) = es.take k ++ [es[k]] := by
  rw [List.take_succ_eq_append_getElem h]
def bldRen : Go.Shelf.Ren := ⟨fun | 169 => 47 | n => n, fun | 70 => 106 | 9 => 9 | 0 => 0 | 72 => 109 | 37 => 107 | 127 => 173 | 3 => 3 | 5 => 5 | n => n, fun | n => n⟩
theorem bldLays : Go.Proofs.Lays.n169 Tryz.prog bldRen := {
  mixed := by kernel_rfl
  f169 := Tryz.func47.trans (congrArg some (by kernel_rfl))
  t0 := Tryz.underlying0
  a0 := Tryz.isAgg0
  z0 := Tryz.sizeOf0
  v0 := Tryz.zeroValue0
  t3 := Tryz.underlying3
  a3 := Tryz.isAgg3
  z3 := Tryz.sizeOf3
  v3 := Tryz.zeroValue3
  t9 := Tryz.underlying9
  a9 := Tryz.isAgg9
  z9 := Tryz.sizeOf9
  v9 := Tryz.zeroValue9
  t37 := Tryz.underlying107
  a37 := Tryz.isAgg107
  z37 := Tryz.sizeOf107
  v37 := Tryz.zeroValue107
  t70 := Tryz.underlying106
  a70 := Tryz.isAgg106
  z70 := Tryz.sizeOf106
  v70 := Tryz.zeroValue106
  t72 := Tryz.underlying109
  a72 := Tryz.isAgg109
  z72 := Tryz.sizeOf109
  v72 := Tryz.zeroValue109
  t127 := Tryz.underlying173
  a127 := Tryz.isAgg173
  z127 := Tryz.sizeOf173
  v127 := Tryz.zeroValue173 }
theorem bldExtra : Builder.Extra Tryz.prog bldRen := {
  sizeBuilder := by kernel_rfl
  liesBuilder := by kernel_rfl
  t5 := Tryz.underlying5
  a5 := Tryz.isAgg5
  z5 := Tryz.sizeOf5
  v5 := Tryz.zeroValue5
  infoByte := by kernel_rfl
  cellsByte := by kernel_rfl
  sizeByte := by kernel_rfl
  neB5 := by decide }
theorem bld_String (B b : Nat) (l : List UInt8) (w : World) (h : Lib.IsBuilder 109 5 B b (Lib.byteCells l) w) (hBw : B ≤ w.heap.size) :
    Calls Tryz.prog 47 #[.pointer (some ⟨b, 0, none⟩)] w fun e w' => e = .returned (.string ⟨l.toArray⟩) ∧ Below B w w' := Any.Builder_String_any bldLays bldExtra B b l w h hBw

theorem bld_below {T e : TypeId} {B b : Nat} {bs : List Value} {w w' : World} (h : Lib.IsBuilder T e B b bs w) (hb : Below w.heap.size w w') : Lib.IsBuilder T e B b bs w' := by
  have f : ∀ p, Lib.BuilderAt T e B b p bs w → Lib.BuilderAt T e B b p bs w' := by
    intro p hh
    have hlt := hh.lt
    obtain ⟨hB, v, hbk, hown, hne⟩ := hh
    exact ⟨hB, v, (hb.block b hlt).trans hbk, own_below' hown hb, hne⟩
  exact h.imp (f _) (f _)
theorem bld_more {T e : TypeId} {B B' b : Nat} {bs : List Value} {w : World} (h : Lib.IsBuilder T e B b bs w) (hB : B' ≤ B) : Lib.IsBuilder T e B' b bs w := by
  have f : ∀ p, Lib.BuilderAt T e B b p bs w → Lib.BuilderAt T e B' b p bs w := by
    rintro p ⟨hb, v, hbk, ⟨hl, ho⟩, hne⟩
    refine ⟨by omega, v, hbk, ⟨hl, ?_⟩, hne⟩
    rcases ho with ho | ⟨g, cap, cur, hv, hg, r⟩
    · exact .inl ho
    · exact .inr ⟨g, cap, cur, hv, by omega, r⟩
  exact h.imp (f _) (f _)
theorem bldInfo : (Tryz.prog.info? 109).map (fun i => i.size) = some 2 := by kernel_rfl
theorem byteInfo : (Tryz.prog.info? 5).map (fun i => (i.zero, i.size, i.bytes)) = some (some (.int .u8 0), 1, 1) := by kernel_rfl

set_option maxRecDepth 100000 in
set_option maxHeartbeats 1000000 in
theorem bld_cc_used (b : Nat) (w : World) (h0 : w.cell? ⟨b, 0, none⟩ = some (.pointer (some ⟨b, 0, none⟩))) :
    Calls Tryz.prog 83 #[.pointer (some ⟨b, 0, none⟩)] w fun e w' => e = .returned (.tuple #[]) ∧ w' = w := by
  obtain ⟨j, hj, _⟩ := Option.map_eq_some_iff.1 bldInfo
  go_enter Tryz.func83, Tryz.ntmps83
  go_wp2
  rw [Lib.run_neq_ptr_same w _ Tryz.underlying106 hj]
  go_wp2
  go_end0
  exact ⟨rfl, rfl⟩

set_option maxRecDepth 100000 in
set_option maxHeartbeats 1000000 in
theorem bld_cc_fresh (b : Nat) (w : World) (h0 : w.cell? ⟨b, 0, none⟩ = some (.pointer none)) (hsh : w.shape? b = some (109, 2)) (hfz : w.frozen? ⟨b, 0, none⟩ = false) :
    Calls Tryz.prog 83 #[.pointer (some ⟨b, 0, none⟩)] w fun e w' => e = .returned (.tuple #[]) ∧ w' = w.setCell ⟨b, 0, none⟩ (.pointer (some ⟨b, 0, none⟩)) := by
  obtain ⟨j, hj, hjs⟩ := Option.map_eq_some_iff.1 bldInfo
  go_enter Tryz.func83, Tryz.ntmps83
  go_wp2
  rw [Lib.run_to_unsafe w ⟨b, 0, none⟩ Tryz.underlying106 Tryz.underlying222 hj (by rw [hjs]; decide) hsh (Nat.zero_lt_succ 1)]
  simp only [Result.andThen]
  rw [Oper.upon_value]
  go_wp2
  rw [run_callFunc_extern Tryz.func128 (by kernel_rfl) (by kernel_rfl) (by kernel_rfl) (e := Extern.AbiNoEscape.same) (by kernel_rfl)]
  rw [Lib.run_noEscape]
  simp only [Result.andThen]
  rw [Oper.upon_value]
  go_wp2
  rw [Lib.run_from_unsafe w ⟨b, 0, none⟩ Tryz.underlying222 Tryz.underlying106 hj hsh (by kernel_rfl)]
  simp only [Result.andThen]
  rw [Oper.upon_value]
  go_wp2
  go_end0
  exact ⟨rfl, rfl⟩

theorem bld_cc (B b : Nat) (bs : List Value) (w : World) (h : Lib.IsBuilder 109 5 B b bs w) :
    Calls Tryz.prog 83 #[.pointer (some ⟨b, 0, none⟩)] w fun e w' => e = .returned (.tuple #[]) ∧ (Lib.BuilderAt 109 5 B b (.pointer (some ⟨b, 0, none⟩)) bs w' ∧ Below B w w' ∧ Kept 109 5 w w') := by
  rcases h with h | h
  · refine (bld_cc_fresh b w h.cell0 h.shape h.frozen0).mono ?_
    rintro e w' ⟨rfl, rfl⟩
    obtain ⟨_, v, hbk, _⟩ := id h
    exact ⟨rfl, h.used _, (Below.refl B w).setCell (p := ⟨b, 0, none⟩) h.1 _, Kept.setCell hbk (.inl rfl) 0 _⟩
  · refine (bld_cc_used b w h.cell0).mono ?_
    rintro e w' ⟨rfl, rfl⟩
    exact ⟨rfl, h, Below.refl B _, Kept.refl _ _ _⟩


theorem byteCells_snoc (l : List UInt8) (c : UInt8) : Lib.byteCells (l ++ [c]) = Lib.byteCells l ++ [.int .u8 c.toNat] := by simp [Lib.byteCells]
/-- what a write to a strings.Builder leaves -/
def SbPost (w : World) (B b : Nat) (l : List UInt8) (r : Value) (e : Ending) (w' : World) : Prop := e = .returned r ∧ Lib.IsBuilder 109 5 B b (Lib.byteCells l) w' ∧ Below B w w' ∧ Kept 109 5 w w'
set_option maxHeartbeats 2000000 in
theorem bld_WriteByte (B b : Nat) (l : List UInt8) (c : UInt8) (w : World) (h : Lib.IsBuilder 109 5 B b (Lib.byteCells l) w) (hlen : l.length ≤ 1000000) (hBw : B ≤ w.heap.size) :
    Calls Tryz.prog 223 #[.pointer (some ⟨b, 0, none⟩), .int .u8 c.toNat] w (SbPost w B b (l ++ [c]) .nilIface) := by
  have hcl : (Lib.byteCells l).length ≤ 1000000 := by rw [Lib.byteCells_length]; exact hlen
  have HN := Lib.hid (byteCells_snoc l c)
  generalize Lib.byteCells l = bs at h hcl HN
  obtain ⟨x, hx⟩ : ∃ x : Int, (c.toNat : Int) = x := ⟨_, rfl⟩
  rw [hx] at HN ⊢
  clear hx
  go_enter Tryz.func223, Tryz.ntmps223
  go_wp2_with fail
  refine (bld_cc B b bs _ h).mono ?_
  rintro e w1 ⟨rfl, h1, hb1, hk1⟩
  obtain ⟨hB, v, hbk, hown, hne⟩ := h1
  have c1 : w1.cell? ⟨b, 1, none⟩ = some v := by rw [Lib.cell_of_heap hbk]; rfl
  have hlt : b < w1.heap.size := lt_of_heap hbk
  have hbs := hb1.size
  go_wp2_with (at_builtin; refine wpList_append_lit rfl (.tmp 11) (.tmp 13) _ rfl B 5 (.int .u8 0) 1 1 Tryz.underlying107 byteInfo rfl (by decide) _ _ _ rfl hown 1 1 [.int .u8 x] rfl rfl ?c2 ?c3 ?c4 ?c5 ?_)
  case c2 => simp [Value.oneCell']
  case c3 => simp only [maxLen]; omega
  case c4 => omega
  case c5 => omega
  intro v' w2 hown' hgrow _
  have hb2 : w2.heap[b]? = some (.cells #[.pointer (some ⟨b, 0, none⟩), v] 109 (0, 0)) := by
    rw [hgrow.block b hlt (fun e => hne e.symm)]
    exact hbk
  have d1 : w2.cell? ⟨b, 1, none⟩ = some v := by rw [Lib.cell_of_heap hb2]; rfl
  have f1 : w2.frozen? ⟨b, 1, none⟩ = false := Lib.frozen_of_heap hb2 1
  have hlt2 : b < w2.heap.size := lt_of_heap hb2
  have HQ : Hid (SbPost w B b (l ++ [c]) .nilIface (.returned .nilIface) (w2.setCell ⟨b, 1, none⟩ v')) := by
    refine ⟨rfl, .inr ?_, ?_, (hk1.trans (Kept.grown hown hgrow (.inr rfl))).trans (Kept.setCell hb2 (.inl rfl) 1 _)⟩
    · rw [HN.out]
      exact Lib.BuilderAt.put (T := 109) (e := 5) hB hb2 (bs' := bs ++ [.int .u8 x]) (by simpa using hown') (by decide)
    · exact (hb1.grown hgrow (by omega) (fun k hk => (hown.lt k hk).1)).setCell (p := ⟨b, 1, none⟩) hB _
  obtain ⟨ao, cap, rfl⟩ := own_slice hown'
  go_wp2
  go_ret
  exact HQ.out

theorem freeze_far (w : World) (g n k : Nat) (h : k ≠ g) : (w.freeze ⟨g, 0, none⟩ n).heap[k]? = w.heap[k]? := by
  unfold World.freeze
  split
  · rfl
  · simp [Array.getElem?_modify, Ne.symm h]
theorem Kept.below {t0 t1 : TypeId} {w w' : World} (h : Below w.heap.size w w') : Kept t0 t1 w w' := fun g cs t fr hg _ _ => (h.block g (lt_of_heap hg)).trans hg
/-- what String leaves -/
def StrPost (w : World) (B : Nat) (s : ByteArray) (e : Ending) (w' : World) : Prop := e = .returned (.string s) ∧ Below B w w' ∧ Kept 109 5 w w'
set_option maxHeartbeats 2000000 in
set_option maxRecDepth 100000 in
theorem bld_Str (B b : Nat) (l : List UInt8) (w : World) (h : Lib.IsBuilder 109 5 B b (Lib.byteCells l) w) (hBw : B ≤ w.heap.size) :
    Calls Tryz.prog 47 #[.pointer (some ⟨b, 0, none⟩)] w (StrPost w B ⟨l.toArray⟩) := by
  obtain ⟨p, hB, v, hbk, hown, hne⟩ : ∃ p, Lib.BuilderAt 109 5 B b p (Lib.byteCells l) w := h.elim (fun h => ⟨_, h⟩) (fun h => ⟨_, h⟩)
  have fin : ∀ {e : Ending} {w' : World}, e = .returned (.string ⟨#[]⟩) ∧ Below w.heap.size w w' → l = [] → StrPost w B ⟨l.toArray⟩ e w' := by
    rintro e w' ⟨rfl, hb⟩ rfl
    exact ⟨rfl, hb.mono hBw, Kept.below hb⟩
  by_cases h0 : l = []
  · rcases hown.2 with ⟨rfl, _⟩ | ⟨g, cap, cur, rfl, hbg, hg, _, _, _, _⟩
    · exact (Any.Builder_String_nil bldLays bldExtra w.heap.size b p w hbk).mono fun e w' hh => fin hh h0
    · have hl : (Lib.byteCells l).length = 0 := by rw [h0]; rfl
      rw [hl] at hbk
      by_cases hc0 : cap = 0
      · subst hc0
        exact (Any.Builder_String_noroom bldLays bldExtra w.heap.size b g p cur w (Nat.le_refl _) hbk hg).mono fun e w' hh => fin hh h0
      · exact (Any.Builder_String_room bldLays bldExtra w.heap.size b g cap p w hc0 hbk).mono fun e w' hh => fin hh h0
  · have hl0 : l.length ≠ 0 := by simpa using h0
    rw [Lib.byteCells_length] at hown
    obtain ⟨g, cap, cur, rfl, hbg, hg, hnc, hcm, hcs, htake⟩ : ∃ g cap cur, v = .slice (some ⟨g, 0, none⟩) l.length cap ∧ B ≤ g ∧ w.heap[g]? = some (.cells cur 5 (0, 0)) ∧ l.length ≤ cap ∧ cap ≤ maxLen ∧ cur.size = cap * 1 ∧ cur.toList.take (l.length * 1) = Lib.byteCells l := by
      rcases hown.2 with ⟨_, hz⟩ | ⟨g, cap, cur, hv, r⟩
      · exact absurd hz hl0
      · exact ⟨g, cap, cur, hv, r⟩
    have c1 : w.drew.cell? ⟨b, 1, none⟩ = some (.slice (some ⟨g, 0, none⟩) l.length cap) := by
      have : w.drew.heap[b]? = some (.cells #[p, .slice (some ⟨g, 0, none⟩) l.length cap] 109 (0, 0)) := hbk
      rw [Lib.cell_of_heap this]; rfl
    have hSD : (Builtin.unsafeSliceData_ #[107] 173 #[.slice (some ⟨g, 0, none⟩) l.length cap]).run Tryz.prog w.drew = .ok (.pointer (some ⟨g, 0, none⟩)) w.drew :=
      Lib.run_unsafeSliceData_row _ _ _ _ _ _ (by omega)
    have hUS : (Builtin.unsafeString_ #[173, 3] 9 #[.pointer (some ⟨g, 0, none⟩), .int .i64 l.length]).run Tryz.prog w.drew = .ok (.string ⟨l.toArray⟩) (w.drew.freeze ⟨g, 0, none⟩ l.length) := by
      refine Lib.run_unsafeString_row w.drew 173 3 9 5 Tryz.underlying173 bldExtra.cellsByte g cur.size (by have hg' : w.drew.heap[g]? = some (.cells cur 5 (0, 0)) := hg; simp [World.shape?, hg']) l h0 (by omega) (by unfold maxLen at hcm; omega) ?_
      intro j x hx
      have := hown.cells (g := g) rfl j (.int .u8 x.toNat) (by simp [Lib.byteCells, hx])
      exact this
    have HQ : Hid (StrPost w B ⟨l.toArray⟩ (.returned (.string ⟨l.toArray⟩)) (w.drew.freeze ⟨g, 0, none⟩ l.length)) := by
      refine ⟨rfl, Lib.below_freeze (Below.drew (Below.refl B w)) (p := ⟨g, 0, none⟩) hbg _, fun k cs t fr hk h0 h1 => ?_⟩
      refine (freeze_far w.drew g _ k fun e => ?_).trans hk
      subst e
      rw [hg] at hk
      injection hk with hk
      injection hk with _ hk _
      exact h1 hk.symm
    clear hown hcs htake hg
    go_enter Tryz.func47, Tryz.ntmps47
    go_wp2
    go_region
    all_goals (go_wp2; go_ret; exact HQ.out)
end Go.Proofs.YtpibenilagloaaaGreatDoor
