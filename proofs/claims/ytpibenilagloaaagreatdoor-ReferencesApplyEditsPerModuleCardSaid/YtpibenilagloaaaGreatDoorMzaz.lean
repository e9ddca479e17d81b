import Derived.Test.YtpibenilagloaaaGreatDoorMzay
import Derived.IntWalk
import Derived.Test.YtpibenilagloaaaGreatDoorSyb
import Derived.Test.YtpibenilagloaaaGreatDoorMzae
namespace Go.Proofs.YtpibenilagloaaaGreatDoor
open Go.RowKit
set_option linter.unusedVariables false
def CptPost (w : World) (g : Nat) (ds : List Dg) (e : Ending) (w' : World) : Prop :=
  ∃ c', e = .returned (.slice (some ⟨g, 0, none⟩) (compactL ds).length c') ∧ FlatAt Dg.cells 5 w' (fun b => b = g) (some ⟨g, 0, none⟩) (compactL ds) ∧ Upd g w w'
theorem compact_short (w : World) (A : Option Addr) (n c : Nat) (hn : n < 2) :
    Calls Tryz.prog 54 #[.slice A n c] w fun e w' => e = .returned (.slice A n c) ∧ w' = w := by
  have h : (n : Int) < 2 := by omega
  go_enter Tryz.func54, Tryz.ntmps54
  go_wp2
  go_ret
  exact ⟨rfl, rfl⟩
theorem dg_cells {w : World} {g n cap : Nat} {ds : List Dg} (row : w.ownsRow 0 99 5 (.slice (some ⟨g, 0, none⟩) n cap) n (ds.flatMap Dg.cells)) (i : Nat) (d : Dg) (h : ds[i]? = some d) :
    w.cell? ⟨g, i * 5, none⟩ = some (.int .i64 d.code) ∧ w.cell? ⟨g, i * 5 + 1, none⟩ = some (.int .i64 d.mod) ∧ w.cell? ⟨g, i * 5 + 2, none⟩ = some (.int .i64 d.s) ∧ w.cell? ⟨g, i * 5 + 3, none⟩ = some (.int .i64 d.e) ∧ w.cell? ⟨g, i * 5 + 4, none⟩ = some (.string d.nm) := by
  have hl : ds.length * 5 = n * 5 := by rw [← flat_length Dg.cells_len]; exact row.1
  have hi : i < ds.length := (List.getElem?_eq_some_iff.1 h).1
  have f := fun j v hv (hj : j < 5) => (row.cellAt (i * 5 + j) (by omega)).trans (flat_at Dg.cells_len ds i d h j v hv)
  exact ⟨f 0 _ rfl (by omega), f 1 _ rfl (by omega), f 2 _ rfl (by omega), f 3 _ rfl (by omega), f 4 _ rfl (by omega)⟩
structure Cp2 (w : World) (g cap n : Nat) (ds : List Dg) (wr : World) (i0 j iv : Nat) (cur : List Dg) : Prop where
  len : cur.length = n
  done : cur.take iv = compactL (ds.take (i0 + (j + 1)))
  rest : ∀ t, i0 + j ≤ t → cur[t]? = ds[t]?
  le : iv ≤ i0 + j
  row : wr.ownsRow 0 99 5 (.slice (some ⟨g, 0, none⟩) n cap) n (cur.flatMap Dg.cells)
  upd : Upd g w wr
  ivl : iv = (compactL (ds.take (i0 + (j + 1)))).length
theorem Cp2.same {w : World} {g cap n : Nat} {ds : List Dg} {wr : World} {i0 j iv : Nat} {cur : List Dg} (h : Cp2 w g cap n ds wr i0 j iv cur) (he : compactL (ds.take (i0 + j + 1 + 1)) = compactL (ds.take (i0 + j + 1))) : Cp2 w g cap n ds wr.drew i0 (j + 1) iv cur :=
  ⟨h.len, by rw [show i0 + (j + 1 + 1) = i0 + j + 1 + 1 by omega, he]; exact h.done, fun t ht => h.rest t (by omega), by have := h.le; omega, h.row, h.upd.drew, by rw [show i0 + (j + 1 + 1) = i0 + j + 1 + 1 by omega, he]; exact h.ivl⟩
theorem Cp2.put {w : World} {g cap n : Nat} {ds : List Dg} {wr : World} {i0 j iv : Nat} {cur : List Dg} (h : Cp2 w g cap n ds wr i0 j iv cur) (x : Dg) (hiv : iv < n) (he : compactL (ds.take (i0 + j + 1 + 1)) = compactL (ds.take (i0 + j + 1)) ++ [x]) :
    Cp2 w g cap n ds ((((((wr.setCell ⟨g, iv * 5, none⟩ (.int .i64 x.code)).setCell ⟨g, iv * 5 + 1, none⟩ (.int .i64 x.mod)).setCell ⟨g, iv * 5 + 2, none⟩ (.int .i64 x.s)).setCell ⟨g, iv * 5 + 3, none⟩ (.int .i64 x.e)).setCell ⟨g, iv * 5 + 4, none⟩ (.string x.nm)).drew) i0 (j + 1) (iv + 1) (cur.set iv x) := by
  have hl := h.len
  have hd := h.done
  have hv := h.ivl
  obtain ⟨o1, _⟩ := h.row.stored (iv * 5) (.int .i64 x.code)
  obtain ⟨o2, _⟩ := o1.stored (iv * 5 + 1) (.int .i64 x.mod)
  obtain ⟨o3, _⟩ := o2.stored (iv * 5 + 2) (.int .i64 x.s)
  obtain ⟨o4, _⟩ := o3.stored (iv * 5 + 3) (.int .i64 x.e)
  obtain ⟨o5, _⟩ := o4.stored (iv * 5 + 4) (.string x.nm)
  rw [flat_set5 cur iv x (by omega)] at o5
  refine ⟨by rw [List.length_set]; exact hl, ?_, fun t ht => ?_, by have := h.le; omega, o5.drew, ((((((h.upd.set _ _).set _ _).set _ _).set _ _).set _ _).drew), ?_⟩
  · rw [show i0 + (j + 1 + 1) = i0 + j + 1 + 1 by omega, he, ← show i0 + (j + 1) = i0 + j + 1 from rfl, ← hd, List.take_succ_eq_append_getElem (by rw [List.length_set]; omega), List.take_set_of_le (Nat.le_refl _), List.getElem_set_self]
  · rw [List.getElem?_set_ne (by have := h.le; omega)]
    exact h.rest t (by omega)
  · rw [show i0 + (j + 1 + 1) = i0 + j + 1 + 1 by omega, he, List.length_append, ← show i0 + (j + 1) = i0 + j + 1 from rfl, ← hv]; rfl
set_option maxRecDepth 100000 in
set_option maxHeartbeats 3200000 in
theorem compact_any (w : World) (g cap n : Nat) (ds : List Dg) (hn : ds.length = n) (h2 : 2 ≤ n) (hb : n ≤ 1000000) (hrow : w.ownsRow 0 99 5 (.slice (some ⟨g, 0, none⟩) n cap) n (ds.flatMap Dg.cells)) :
    Calls Tryz.prog 54 #[.slice (some ⟨g, 0, none⟩) n cap] w (CptPost w g ds) := by
  have h2I : ¬ (n : Int) < 2 := by omega
  have HN := Lib.hid hn
  have HE := Lib.hid dg_eq
  have HR := Lib.hid hrow
  have hcap : n ≤ cap := by
    rcases hrow.2 with ⟨h, _⟩ | ⟨_, _, _, h, _, _, h3, _⟩
    · cases h
    · injection h with _ _ h; subst h; exact h3
  have hglt := (hrow.lt g rfl).2
  clear hn hrow
  go_enter Tryz.func54, Tryz.ntmps54
  go_wp2_with fail
  go_loopw [3] (fun i wr => ∃ k : Nat, k + 1 ≤ n ∧ i = .int .i64 ((k + 1 : Nat) : Int) ∧ Hid (compactL (ds.take (k + 1)) = ds.take (k + 1)) ∧ Upd g w wr ∧ wr.heap = w.heap) (fun i _ => n - (intOf i).toNat)
  case atStart => exact ⟨0, by omega, rfl, by
    cases ds with
    | nil => have := HN.out; simp at this; omega
    | cons x r => exact Lib.hid rfl, Upd.refl _ _, rfl⟩
  case round =>
    obtain ⟨k, hk, rfl, hi, hup, hhp⟩ := hrel
    have HHP := Lib.hid hhp
    have hglt' : g < wr.heap.size := by rw [hhp]; exact hglt
    have row : wr.ownsRow 0 99 5 (.slice (some ⟨g, 0, none⟩) n cap) n (ds.flatMap Dg.cells) := ownsRow_below HR.out fun _ _ => by rw [hhp]
    have HROW := Lib.hid row
    clear hhp
    by_cases hlt : k + 1 < n
    · have hltI : ((k + 1 : Nat) : Int) < n := by omega
      have hk1 : k + 1 < ds.length := by rw [HN.out]; exact hlt
      have hk0 : k < ds.length := by omega
      have HT := Lib.hid (compactL_take ds (k + 1) (by omega) hk1)
      have hw1 : IntKind.i64.wrap (((k + 1 : Nat) : Int) - 1) = (k : Int) := by rw [IntWalk.i64_in _ (by omega)]; omega
      obtain ⟨c0, c1, c2, c3, c4⟩ := dg_cells row (k + 1) ds[k + 1] (List.getElem?_eq_getElem hk1)
      obtain ⟨d0, d1, d2, d3, d4⟩ := dg_cells row k ds[k] (List.getElem?_eq_getElem hk0)
      simp only [Nat.add_sub_cancel] at HT
      have HT2 := Lib.hid (compactL_take ds (k + 1) (by omega) hk1)
      simp only [Nat.add_sub_cancel] at HT2
      have HTK := Lib.hid (List.take_succ_eq_append_getElem hk1)
      clear HT row
      generalize hx : ds[k + 1] = x at *
      generalize hy : ds[k] = y at *
      have HX := Lib.hid hx
      have HY := Lib.hid hy
      obtain ⟨x0, x1, x2, x3, x4⟩ := x
      obtain ⟨y0, y1, y2, y3, y4⟩ := y
      simp only at c0 c1 c2 c3 c4 d0 d1 d2 d3 d4
      have heq := fun w => dg_eq x0 x1 x2 x3 y0 y1 y2 y3 x4 y4 w
      have hi1 : (k : Int) < n := by omega
      have hk1I : ((k + 1 : Nat) : Int) < (n : Int) := by omega
      clear hx hy
      by_cases hxy : (⟨x0, x1, x2, x3, x4⟩ : Dg) = ⟨y0, y1, y2, y3, y4⟩
      · rw [decide_eq_true hxy] at heq
        have HXY := Lib.hid hxy
        clear hxy
        go_wp2_with fail
        go_region
        go_wp2_with fail
        have hup0 := hup.drew
        have row0 : wr.drew.ownsRow 0 99 5 (.slice (some ⟨g, 0, none⟩) n cap) n (ds.flatMap Dg.cells) := HROW.out
        have hz0 : Cp2 w g cap n ds wr.drew (k + 1) 0 (k + 1) ds := by
          refine ⟨HN.out, ?_, fun t _ => rfl, by omega, row0, hup0, ?_⟩
          · have h1 := HT2.out
            rw [if_pos HXY.out, List.append_nil] at h1
            rw [h1, hi.out]
          · have h1 := HT2.out
            rw [if_pos HXY.out, List.append_nil] at h1
            rw [h1, hi.out, List.length_take]; have := HN.out; omega
        clear hup0 row0 hup heq c0 c1 c2 c3 c4 d0 d1 d2 d3 d4 hglt'
        go_loopw [3, 5] (fun i k2 wr2 => ∃ (j iv : Nat) (cur : List Dg), i = .int .i64 (iv : Int) ∧ k2 = .int .i64 ((j + 1 : Nat) : Int) ∧ j + 1 ≤ n - (k + 1) ∧ Cp2 w g cap n ds wr2 (k + 1) j iv cur) (fun _ k2 _ => n - (intOf k2).toNat)
        case atStart => exact ⟨0, k + 1, ds, rfl, rfl, by omega, hz0⟩
        case round =>
          clear hz0
          obtain ⟨j, iv, cur, rfl, rfl, hj, hC⟩ := hrel
          clear HTK HT2 HXY HX HY hi HROW HHP
          by_cases hlt2 : j + 1 < n - (k + 1)
          · have hlt2I : ((j + 1 : Nat) : Int) < ((n - (k + 1) : Nat) : Int) := by omega
            have hjI : (j : Int) < ((n - (k + 1) : Nat) : Int) := by omega
            have hw2 : IntKind.i64.wrap (((j + 1 : Nat) : Int) - 1) = (j : Int) := by rw [IntWalk.i64_in _ (by omega)]; omega
            have hr1 : k + 1 + (j + 1) < ds.length := by rw [HN.out]; omega
            have hr0 : k + 1 + j < ds.length := by omega
            have hl := hC.len
            have hx1 := (hC.rest (k + 1 + (j + 1)) (by omega)).trans (List.getElem?_eq_getElem hr1)
            have hy1 := (hC.rest (k + 1 + j) (by omega)).trans (List.getElem?_eq_getElem hr0)
            obtain ⟨c0, c1, c2, c3, c4⟩ := dg_cells hC.row _ _ hx1
            obtain ⟨d0, d1, d2, d3, d4⟩ := dg_cells hC.row _ _ hy1
            have HT2 := compactL_take2 ds (k + 1 + j) _ _ (List.getElem?_eq_getElem hr1) (List.getElem?_eq_getElem hr0)
            have HXC := Lib.hid hx1
            generalize hxx : ds[k + 1 + (j + 1)] = x at *
            generalize hyy : ds[k + 1 + j] = y at *
            obtain ⟨p0, p1, p2, p3, p4⟩ := x
            obtain ⟨q0, q1, q2, q3, q4⟩ := y
            simp only at c0 c1 c2 c3 c4 d0 d1 d2 d3 d4
            rw [show (k + 1 + (j + 1)) * 5 = (k + 1) * 5 + (j + 1) * 5 by rw [Nat.add_mul]] at c0 c1 c2 c3 c4
            rw [show (k + 1 + j) * 5 = (k + 1) * 5 + j * 5 by rw [Nat.add_mul]] at d0 d1 d2 d3 d4
            have heq := fun w => dg_neq p0 p1 p2 p3 q0 q1 q2 q3 p4 q4 w
            have hivn : iv < n := by have := hC.le; omega
            have hivI : (iv : Int) < n := by omega
            have hglt2 := (hC.row.lt g rfl).2
            have HC := Lib.hid hC
            have HT3 := Lib.hid HT2
            clear hx1 hy1 hxx hyy HT2 hC
            by_cases hxy : (⟨p0, p1, p2, p3, p4⟩ : Dg) = ⟨q0, q1, q2, q3, q4⟩
            · rw [decide_eq_true hxy] at heq
              have hC2 := HC.out.same (by have h1 := HT3.out; rw [if_pos hxy, List.append_nil] at h1; exact h1)
              clear hxy
              go_wp2_with fail
              go_region
              go_wp2_with fail
              exact ⟨⟨j + 1, iv, cur, rfl, by go_num, by omega, hC2⟩, by simp [intOf]; omega⟩
            · rw [decide_eq_false hxy] at heq
              have HXY := Lib.hid hxy
              clear hxy
              have f := hglt2
              obtain ⟨e0, e1, e2, e3, e4⟩ := dg_cells HC.out.row iv cur[iv] (List.getElem?_eq_getElem (by rw [hl]; exact hivn))
              have hfz := HC.out.row.frozenAt
              have f0 := hfz (iv * 5)
              have f1 := hfz (iv * 5 + 1)
              have f2 := hfz (iv * 5 + 2)
              have f3 := hfz (iv * 5 + 3)
              have f4 := hfz (iv * 5 + 4)
              clear hfz
              go_wp2_with fail
              go_region
              go_wp2_with fail
              have hC2 := HC.out.put ⟨p0, p1, p2, p3, p4⟩ hivn (by have h1 := HT3.out; rw [if_neg HXY.out] at h1; exact h1)
              exact ⟨⟨j + 1, iv + 1, _, by go_num, by go_num, by omega, hC2⟩, by simp [intOf]; omega⟩
          · have hlt2I : ¬ ((j + 1 : Nat) : Int) < ((n - (k + 1) : Nat) : Int) := by omega
            have hl := hC.len
            have hle := hC.le
            have hivc : iv < cap := by omega
            have hivn : iv < n := by omega
            have hjn : k + 1 + (j + 1) = n := by omega
            obtain ⟨L, hL⟩ := clear_dg wr g (iv * 5) (n - iv) (cap - iv) (fun t ht => by rw [hC.row.cellAt _ (by omega), List.getElem?_eq_getElem (by rw [hC.row.1]; omega)]; rfl) hC.row.frozenAt
            have hivI : (iv : Int) < n := by omega
            have hivcI : (iv : Int) < cap := by omega
            have hcne : cap ≠ iv := by omega
            have HC := Lib.hid hC
            clear hC
            have HQ : Hid (CptPost w g ds (.returned (.slice (some ⟨g, 0, none⟩) iv cap)) (wr.setCells g (iv * 5) L)) := by
              have hC := HC.out
              have ht : ds.take (k + 1 + (j + 1)) = ds := by rw [hjn, ← HN.out, List.take_length]
              have hd := hC.done
              have hv := hC.ivl
              rw [ht] at hd hv
              refine ⟨cap, by rw [hv], ?_, hC.upd.setCells L _⟩
              rw [← hd]
              intro _
              refine ⟨g, 0, rfl, rfl, fun i x hx t v hv2 => ?_⟩
              have hi : i < iv := by have := (List.getElem?_eq_some_iff.1 hx).1; rw [List.length_take] at this; omega
              rw [List.getElem?_take_of_lt hi] at hx
              have h5 : t < 5 := by have := (List.getElem?_eq_some_iff.1 hv2).1; rw [Dg.cells_len] at this; exact this
              have ho := World.cell?_setCells_out g L (iv * 5) wr ⟨g, 0 + i * 5 + t, none⟩ (fun _ _ => .inl (by show 0 + i * 5 + t < iv * 5; omega))
              rw [ho, Nat.zero_add, hC.row.cellAt _ (by omega)]
              exact flat_at Dg.cells_len cur i x hx t v hv2
            clear HC
            go_wp2_with fail
            go_ret
            exact HQ.out
      · rw [decide_eq_false hxy] at heq
        have HXY := Lib.hid hxy
        clear hxy
        go_wp2_with fail
        go_region
        go_wp2_with fail
        exact ⟨⟨k + 1, by omega, by go_num, Lib.hid (by rw [HT2.out, HTK.out, hi.out, if_neg HXY.out]), hup.drew, HHP.out⟩, by simp [intOf]; omega⟩
    · have hltI : ¬ ((k + 1 : Nat) : Int) < n := by omega
      have HQ : Hid (CptPost w g ds (.returned (.slice (some ⟨g, 0, none⟩) n cap)) wr) := by
        have hkn : k + 1 = n := by omega
        have ht : ds.take (k + 1) = ds := by rw [hkn, ← HN.out, List.take_length]
        have hi2 := hi.out
        rw [ht] at hi2
        refine ⟨cap, by rw [hi2, HN.out], ?_, hup⟩
        rw [hi2]
        intro _
        refine ⟨g, 0, rfl, rfl, fun i x hx t v hv2 => ?_⟩
        have hil : i < n := by have := (List.getElem?_eq_some_iff.1 hx).1; rw [HN.out] at this; exact this
        have h5 : t < 5 := by have := (List.getElem?_eq_some_iff.1 hv2).1; rw [Dg.cells_len] at this; exact this
        rw [Nat.zero_add, HROW.out.cellAt _ (by omega)]
        exact flat_at Dg.cells_len ds i x hx t v hv2
      clear hup row hi
      go_wp2_with fail
      go_ret
      exact HQ.out
end Go.Proofs.YtpibenilagloaaaGreatDoor

namespace Go.Proofs.YtpibenilagloaaaGreatDoor
open Go.RowKit
open Go.Sort (grow grow_grow alloc_eq_grow PermIn SortedIn SWO)
set_option linter.unusedVariables false
theorem flat_div {α : Type} [Inhabited α] {enc : α → List Value} {k : Nat} (hk : ∀ x, (enc x).length = k) (ds : List α) (t : Nat) (ht : t < ds.length * k) : (ds.flatMap enc)[t]? = some ((enc ds.toArray[t / k]!)[t % k]!) := by
  have hk0 : 0 < k := by rcases Nat.eq_zero_or_pos k with h | h; (subst h; simp at ht); exact h
  have hd : t / k < ds.length := (Nat.div_lt_iff_lt_mul hk0).2 ht
  have hm : t % k < k := Nat.mod_lt _ hk0
  have e1 : ds.toArray[t / k]! = ds[t / k] := by rw [getElem!_pos _ _ (by simpa using hd)]; simp
  have e2 : (enc ds[t / k])[t % k]? = some ((enc ds[t / k])[t % k]!) := by
    rw [getElem!_pos _ _ (by rw [hk]; exact hm), List.getElem?_eq_getElem (by rw [hk]; exact hm)]
  have := flat_at hk ds (t / k) ds[t / k] (List.getElem?_eq_getElem hd) (t % k) _ e2
  rw [Nat.div_add_mod' t k] at this
  rw [this, e1]
theorem holdsK_own {α : Type} [Inhabited α] {enc : α → List Value} {k : Nat} (hk : ∀ x, (enc x).length = k) {w : World} {g cap n : Nat} {e : TypeId} {ds : List α} (hl : ds.length = n) (row : w.ownsRow 0 e k (.slice (some ⟨g, 0, none⟩) n cap) n (ds.flatMap enc)) :
    Sort.HoldsK enc k w g 0 ds.toArray := by
  intro t ht
  rw [Sort.size_flatK] at ht
  simp only [List.size_toArray] at ht
  refine ⟨?_, row.frozenAt _⟩
  rw [Nat.zero_add, row.cellAt t (by rw [← hl]; exact ht), flat_div hk ds t ht, Sort.get_flatK _ _ _ _ (by simpa using ht)]
  rfl
theorem own_sorted {α : Type} [Inhabited α] {enc : α → List Value} {k : Nat} (hk : ∀ x, (enc x).length = k) {w : World} {g cap n : Nat} {e : TypeId} {ds ds' : List α} (hl : ds.length = n) (hl' : ds'.length = n) (row : w.ownsRow 0 e k (.slice (some ⟨g, 0, none⟩) n cap) n (ds.flatMap enc)) (m : Nat) (os : Array Obj) {w' : World} (hw : w' = sortWorldK enc k w g 0 m ds'.toArray os) :
    w'.ownsRow 0 e k (.slice (some ⟨g, 0, none⟩) n cap) n (ds'.flatMap enc) ∧ (w'.os = w.os ∧ w'.tape = w.tape ∧ w'.output = w.output) ∧ w.heap.size ≤ w'.heap.size ∧ ∀ b, b < w.heap.size → b ≠ g → w'.heap[b]? = w.heap[b]? := by
  obtain ⟨g', cap', cur, h1, h2, h3, h4, h5, h6, h7⟩ := row.2.resolve_left (by rintro ⟨h, _⟩; cases h)
  injection h1 with h1 _ h1c
  injection h1 with h1
  injection h1 with h1 _ _
  subst h1 h1c
  have hglt := lt_of_heap h3
  have hh : w'.heap = w.heap.modify g (Sort.onCells (Sort.putCells id 0 (Sort.flatK enc k ds'.toArray))) ++ os := by subst hw; rfl
  have hlen : (w.heap.modify g (Sort.onCells (Sort.putCells id 0 (Sort.flatK enc k ds'.toArray)))).size = w.heap.size := by simp
  refine ⟨⟨by rw [flat_length hk, hl'], .inr ⟨g, cap, Sort.putCells id 0 (Sort.flatK enc k ds'.toArray) cur, rfl, Nat.zero_le _, ?_, h4, h5, ?_, ?_⟩⟩, by subst hw; exact ⟨rfl, rfl, rfl⟩, by rw [hh]; simp, fun b hb hne => ?_⟩
  · rw [hh, Array.getElem?_append_left (by rw [hlen]; exact hglt), Array.getElem?_modify, if_pos rfl, h3]
    rfl
  · simp [Sort.putCells, h6]
  · have hnk : n * k ≤ cur.size := by rw [h6]; exact Nat.mul_le_mul_right _ h4
    apply List.ext_getElem?
    intro t
    by_cases ht : t < n * k
    · rw [List.getElem?_take_of_lt ht, flat_div hk ds' t (by rw [hl']; exact ht)]
      have htc : t < cur.size := by omega
      simp only [Sort.putCells, Array.getElem?_toList, Array.getElem?_mapIdx, Array.getElem?_eq_getElem htc, Option.map_some]
      rw [if_pos ⟨Nat.zero_le _, by rw [Sort.size_flatK]; simp only [List.size_toArray, hl']; omega⟩, Nat.sub_zero, Sort.get_flatK _ _ _ _ (by simp only [List.size_toArray, hl']; exact ht)]
      rfl
    · rw [List.getElem?_eq_none (by rw [List.length_take]; omega), List.getElem?_eq_none (by rw [flat_length hk, hl']; omega)]
  · rw [hh, Array.getElem?_append_left (by rw [hlen]; exact hb), Array.getElem?_modify, if_neg (fun e => hne e.symm)]
theorem cmpI_eq (x y : Int) : cmpI x y = 0 ↔ x = y := by unfold cmpI; split <;> (try split) <;> constructor <;> intro h <;> omega
structure CmpLaw {α : Type} (c : α → α → Int) : Prop where
  anti : ∀ x y, c y x = - c x y
  trans : ∀ x y z, c x y ≤ 0 → c y z ≤ 0 → c x z ≤ 0
theorem CmpLaw.strict {α : Type} {c : α → α → Int} (h : CmpLaw c) {x y z : α} (h1 : c x y ≤ 0) (h2 : c y z ≤ 0) (h3 : c x y < 0 ∨ c y z < 0) : c x z < 0 := by
  have h4 := h.trans x y z h1 h2
  have a1 := h.anti x y
  have a2 := h.anti y z
  have a3 := h.anti x z
  by_cases h0 : c x z = 0
  · rcases h3 with h3 | h3
    · have := h.trans y z x h2 (by omega)
      omega
    · have := h.trans z x y (by omega) h1
      omega
  · omega
theorem CmpLaw.lex {α : Type} {c d : α → α → Int} (h : CmpLaw c) (k : CmpLaw d) : CmpLaw (fun x y => if c x y = 0 then d x y else c x y) where
  anti x y := by
    have a1 := h.anti x y
    have a2 := k.anti x y
    by_cases h0 : c x y = 0
    · rw [if_pos h0, if_pos (by omega), a2]
    · rw [if_neg h0, if_neg (by omega), a1]
  trans x y z h1 h2 := by
    have a1 := h.anti x y
    have a2 := h.anti y z
    have a3 := h.anti x z
    have e1 : c x y ≤ 0 := by
      by_cases h0 : c x y = 0
      · omega
      · rw [if_neg h0] at h1; exact h1
    have e2 : c y z ≤ 0 := by
      by_cases h0 : c y z = 0
      · omega
      · rw [if_neg h0] at h2; exact h2
    by_cases c1 : c x y < 0 ∨ c y z < 0
    · have := h.strict e1 e2 c1
      rw [if_neg (by omega)]; omega
    · rw [if_pos (by omega)] at h1 h2
      have e3 := h.trans x y z e1 e2
      have e4 := h.trans z y x (by omega) (by omega)
      rw [if_pos (by omega)]
      exact k.trans x y z h1 h2
theorem CmpLaw.of {α β : Type} {c : β → β → Int} (h : CmpLaw c) (f : α → β) : CmpLaw (fun x y => c (f x) (f y)) := ⟨fun x y => h.anti _ _, fun x y z => h.trans _ _ _⟩
theorem cmpI_law : CmpLaw cmpI where
  anti x y := by unfold cmpI; split <;> split <;> (try split) <;> omega
  trans x y z := by unfold cmpI; split <;> split <;> (try split) <;> (try split) <;> (try split) <;> (try split) <;> omega
theorem bytes_anti : ∀ (x y : List UInt8), Lib.compareBytes y x = - Lib.compareBytes x y
  | [], [] => rfl
  | [], _ :: _ => rfl
  | _ :: _, [] => rfl
  | a :: xs, b :: bs => by
    unfold Lib.compareBytes
    have ih := bytes_anti xs bs
    by_cases h1 : a < b
    · have h2 : ¬ b < a := fun h => UInt8.lt_irrefl _ (UInt8.lt_trans h1 h)
      rw [if_pos h1, if_neg h2, if_pos h1]; rfl
    · by_cases h2 : b < a
      · rw [if_pos h2, if_neg h1, if_pos h2]
      · rw [if_neg h2, if_neg h1, if_neg h1, if_neg h2, ih]
theorem bytes_trans : ∀ (x y z : List UInt8), Lib.compareBytes x y ≤ 0 → Lib.compareBytes y z ≤ 0 → Lib.compareBytes x z ≤ 0
  | [], _, [], _, _ => by simp [Lib.compareBytes]
  | [], _, _ :: _, _, _ => by simp [Lib.compareBytes]
  | _ :: _, [], _, h, _ => by simp [Lib.compareBytes] at h
  | _ :: _, _ :: _, [], _, h => by simp [Lib.compareBytes] at h
  | a :: xs, b :: bs, c :: cs, h1, h2 => by
    have ih := bytes_trans xs bs cs
    unfold Lib.compareBytes at h1 h2 ⊢
    by_cases ab : a < b
    · by_cases bc : b < c
      · rw [if_pos (UInt8.lt_trans ab bc)]; omega
      · rw [if_neg bc] at h2
        by_cases cb : c < b
        · rw [if_pos cb] at h2; omega
        · obtain rfl : b = c := UInt8.le_antisymm (UInt8.not_lt.1 cb) (UInt8.not_lt.1 bc)
          rw [if_pos ab]; omega
    · rw [if_neg ab] at h1
      by_cases ba : b < a
      · rw [if_pos ba] at h1; omega
      · obtain rfl : a = b := UInt8.le_antisymm (UInt8.not_lt.1 ba) (UInt8.not_lt.1 ab)
        rw [if_neg ba] at h1
        by_cases bc : a < c
        · rw [if_pos bc]; omega
        · rw [if_neg bc] at h2 ⊢
          by_cases cb : c < a
          · rw [if_pos cb] at h2; omega
          · rw [if_neg cb] at h2 ⊢
            exact ih h1 h2
theorem bytes_law : CmpLaw Lib.compareBytes := ⟨bytes_anti, bytes_trans⟩
theorem cmpDg_law : CmpLaw cmpDg := by
  have h1 : CmpLaw (fun a b : Dg => cmpI a.mod b.mod) := cmpI_law.of Dg.mod
  have h2 : CmpLaw (fun a b : Dg => cmpI a.s b.s) := cmpI_law.of Dg.s
  have h3 : CmpLaw (fun a b : Dg => cmpI a.e b.e) := cmpI_law.of Dg.e
  have h4 : CmpLaw (fun a b : Dg => cmpI a.code b.code) := cmpI_law.of Dg.code
  have h5 : CmpLaw (fun a b : Dg => cmpB a.nm b.nm) := bytes_law.of (fun a : Dg => a.nm.data.toList)
  have h := h1.lex (h2.lex (h3.lex (h4.lex h5)))
  have e : cmpDg = fun a b : Dg => if cmpI a.mod b.mod = 0 then (if cmpI a.s b.s = 0 then (if cmpI a.e b.e = 0 then (if cmpI a.code b.code = 0 then cmpB a.nm b.nm else cmpI a.code b.code) else cmpI a.e b.e) else cmpI a.s b.s) else cmpI a.mod b.mod := by
    funext a b
    unfold cmpDg
    simp only [orL]
    by_cases k5 : cmpB a.nm b.nm = 0
    · simp [k5]
    · simp [k5]
  rw [e]
  exact h
theorem cmpB_eq (x y : ByteArray) : cmpB x y = 0 ↔ x = y := by
  unfold cmpB
  rw [compareBytes_zero]
  constructor
  · intro h; cases x; cases y; simp_all
  · intro h; rw [h]
theorem cmpDg_eq (a b : Dg) (h : cmpDg a b = 0) : a = b := by
  unfold cmpDg at h
  simp only [orL] at h
  have g1 : cmpI a.mod b.mod = 0 := by
    by_cases k : cmpI a.mod b.mod = 0
    · exact k
    · rw [if_neg k] at h; exact absurd h k
  rw [if_pos g1] at h
  have g2 : cmpI a.s b.s = 0 := by
    by_cases k : cmpI a.s b.s = 0
    · exact k
    · rw [if_neg k] at h; exact absurd h k
  rw [if_pos g2] at h
  have g3 : cmpI a.e b.e = 0 := by
    by_cases k : cmpI a.e b.e = 0
    · exact k
    · rw [if_neg k] at h; exact absurd h k
  rw [if_pos g3] at h
  have g4 : cmpI a.code b.code = 0 := by
    by_cases k : cmpI a.code b.code = 0
    · exact k
    · rw [if_neg k] at h; exact absurd h k
  rw [if_pos g4] at h
  have g5 : cmpB a.nm b.nm = 0 := by
    by_cases k : cmpB a.nm b.nm = 0
    · exact k
    · rw [if_neg k] at h; exact h
  rw [cmpI_eq] at g1 g2 g3 g4
  rw [cmpB_eq] at g5
  cases a; cases b
  simp_all
theorem CmpLaw.swo {α : Type} {c : α → α → Int} (h : CmpLaw c) : SWO (ltOf c) where
  irrefl x := by have := h.anti x x; unfold ltOf; rw [decide_eq_false_iff_not]; omega
  trans x y z h1 h2 := by
    unfold ltOf at *
    rw [decide_eq_true_eq] at *
    have a1 := h.anti x y
    have e := h.strict (x := x) (y := y) (z := z) (by omega) (by omega) (.inl h1)
    omega
  ntrans x y z h1 h2 := by
    unfold ltOf at *
    rw [decide_eq_false_iff_not] at *
    have a1 := h.anti x y
    have a2 := h.anti y z
    have a3 := h.anti x z
    have := h.trans z y x (by omega) (by omega)
    omega
def sortDg (ds : List Dg) : List Dg := ds.mergeSort fun x y => !(ltOf cmpDg) y x
theorem sortDg_len (ds : List Dg) : (sortDg ds).length = ds.length := List.length_mergeSort _
def SrtPost (w : World) (g cap n : Nat) (ds : List Dg) (e : Ending) (w' : World) : Prop :=
  e = .returned (.tuple #[]) ∧ w'.ownsRow 0 99 5 (.slice (some ⟨g, 0, none⟩) n cap) n (ds.flatMap Dg.cells) ∧ (w'.os = w.os ∧ w'.tape = w.tape ∧ w'.output = w.output) ∧ w.heap.size ≤ w'.heap.size ∧ ∀ b, b < w.heap.size → b ≠ g → w'.heap[b]? = w.heap[b]?
theorem sort_any (w : World) (g cap n : Nat) (ds : List Dg) (hl : ds.length = n) (hb : n ≤ 1000000) (row : w.ownsRow 0 99 5 (.slice (some ⟨g, 0, none⟩) n cap) n (ds.flatMap Dg.cells)) :
    Calls Tryz.prog 52 #[.slice (some ⟨g, 0, none⟩) n cap, .func (.func 53) #[] #[]] w (SrtPost w g cap n (sortDg ds)) := by
  have eg : ∀ args w, (callFunc 53 args).run Tryz.prog w = .ok (.enter 53 args) w := enters_of Tryz.func53 (by kernel_rfl) rfl
  have hcmp : CmpLays Tryz.prog 53 #[] Dg.cells 5 cmpDg g 0 ds.toArray.size w := fun _ _ _ _ x y => cmpDg_any x y _
  have hglt := (row.lt g rfl).2
  have hcon := AnyQ.slices_SortFunc_total Tryz.sortDg 5 Tryz.isAgg99 Tryz.sizeOf99 Dg.cells (fun _ => rfl) (fun x v hv => by simp [Dg.cells] at hv; rcases hv with rfl | rfl | rfl | rfl | rfl <;> rfl) cmpDg cmpDg_law.swo 53 #[] g 0 cap ds.toArray w eg hcmp (holdsK_own Dg.cells_len hl row) hglt (by simp only [List.size_toArray, hl]; omega)
    (fun x y h1 h2 => by
      unfold ltOf at h1 h2
      rw [decide_eq_false_iff_not] at h1 h2
      have := cmpDg_law.anti x y
      exact cmpDg_eq x y (by omega))
  simp only [List.size_toArray, hl] at hcon
  refine Calls.mono (show Calls Tryz.prog 52 _ _ _ from hcon) ?_
  rintro e w' ⟨rfl, m, os, hw⟩
  exact ⟨rfl, own_sorted Dg.cells_len hl (by rw [sortDg_len, hl]) row m os hw⟩
theorem sort_none (w : World) (p : Option Addr) (cap : Nat) (fv : Value) :
    Calls Tryz.prog 52 #[.slice p 0 cap, fv] w fun e w' => e = .returned (.tuple #[]) ∧ w' = w :=
  AnyF.slices_SortFunc_none { Tryz.sortDg with } p cap fv w
end Go.Proofs.YtpibenilagloaaaGreatDoor

namespace Go.Proofs.YtpibenilagloaaaGreatDoor
set_option linter.unusedVariables false
mutual
def Tree.yl : Tree → Nat
  | .mk k t ch => if 100 ≤ k then t.size else yls ch
def yls : List Tree → Nat
  | [] => 0
  | x :: r => x.yl + yls r
end
mutual
def Tree.ok : Tree → Prop
  | .mk k t ch => (k = 105 → t.size ≤ 281474976710656 ∧ (Lib.atoiAll t.data.toList = .range ∨ ∃ v, Lib.atoiAll t.data.toList = .ok v)) ∧ (k = 60 → ∃ x ∈ ch, x.k < 100) ∧ oks ch
def oks : List Tree → Prop
  | [] => True
  | x :: r => x.ok ∧ oks r
end
theorem oks_mem : ∀ {l : List Tree}, oks l → ∀ x ∈ l, x.ok
  | [], _, x, h => by cases h
  | y :: r, hl, x, h => by
    unfold oks at hl
    rcases List.mem_cons.1 h with rfl | h
    · exact hl.1
    · exact oks_mem hl.2 x h
theorem oks_of : ∀ {l : List Tree}, (∀ x ∈ l, x.ok) → oks l
  | [], _ => by unfold oks; trivial
  | y :: r, h => by unfold oks; exact ⟨h y (by simp), oks_of fun x hx => h x (by simp [hx])⟩
theorem Tree.yl_leaf {x : Tree} (h : 100 ≤ x.k) : x.yl = x.t.size := by cases x; unfold Tree.yl; exact if_pos h
theorem Tree.yl_node {x : Tree} (h : ¬ 100 ≤ x.k) : x.yl = yls x.ch := by cases x; unfold Tree.yl; exact if_neg h
theorem wts_append : ∀ (a b : List Tree), wts (a ++ b) = wts a + wts b
  | [], b => by simp [wts]
  | x :: r, b => by rw [List.cons_append, wts, wts, wts_append r b]; omega
theorem yls_append : ∀ (a b : List Tree), yls (a ++ b) = yls a + yls b
  | [], b => by simp [yls]
  | x :: r, b => by rw [List.cons_append, yls, yls, yls_append r b]; omega
mutual
theorem yl_le_wt : ∀ (x : Tree), x.yl ≤ x.wt
  | .mk k t ch => by
    unfold Tree.yl Tree.wt
    have := yls_le_wts ch
    split <;> omega
theorem yls_le_wts : ∀ (l : List Tree), yls l ≤ wts l
  | [] => by simp [yls, wts]
  | x :: r => by unfold yls wts; have := yl_le_wt x; have := yls_le_wts r; omega
end
theorem Tree.wt_pos (x : Tree) : x.t.size + 1 ≤ x.wt := by cases x; simp only [Tree.wt, Tree.t]; omega
theorem tokB_off (k : Int) (t : ByteArray) (b : BS) : (tokB k t b).off = b.off + t.size := by
  unfold tokB
  simp only
  split
  · split <;> rfl
  · split
    · unfold identB; split <;> rfl
    · split
      · unfold intB; split <;> rfl
      · split <;> rfl
theorem finB_off (h : Hd) (b : BS) : (finB h b).off = b.off := by
  unfold finB
  split
  · rfl
  · split <;> rfl
mutual
theorem nodeL_off (src : ByteArray) : ∀ (x : Tree) (b : BS), ¬ 100 ≤ x.k → (nodeL src x b).2.off = b.off + x.yl
  | .mk k t ch, b, h => by
    unfold nodeL
    simp only
    rw [finB_off, kidsL_off src ch _, Tree.yl_node h]
    rfl
theorem kidsL_off (src : ByteArray) : ∀ (l : List Tree) (s : NS), (kidsL src l s).b.off = s.b.off + yls l
  | [], s => by simp [kidsL, yls]
  | x :: r, s => by
    by_cases h : 100 ≤ x.k
    · rw [kidsL_tok h, kidsL_off src r _]
      simp only
      rw [tokB_off, yls, Tree.yl_leaf h]; omega
    · rw [kidsL_node h, kidsL_off src r _]
      simp only
      rw [nodeL_off src x s.b h, yls]; omega
end
theorem uqG_len (l : List UInt8) : ∀ (n i : Nat), (uqG l n i).2.length ≤ n
  | 0, i => by simp [uqG]
  | n + 1, i => by
    unfold uqG
    simp only
    have h1 := uqG_len l n (i + 1)
    have h2 := uqG_len l n (i + 2)
    split
    · split
      · split
        · simp only; omega
        · split
          · simp only; omega
          · simp only [List.length_cons]; omega
      · simp only; omega
    · simp
theorem tokB_ds (k : Int) (t : ByteArray) (b : BS) : (tokB k t b).ds.length ≤ b.ds.length + t.size + 1 := by
  unfold tokB
  simp only
  split
  · split <;> simp [BS.rep] <;> omega
  · split
    · unfold identB; split <;> simp [BS.rep] <;> omega
    · split
      · unfold intB; split <;> simp [BS.rep] <;> omega
      · split
        · have := uqG_len t.data.toList t.size 1
          simp [unqB]; omega
        · simp only; omega
theorem finB_ds (h : Hd) (b : BS) : (finB h b).ds.length ≤ b.ds.length + 1 := by
  unfold finB
  split
  · omega
  · split
    · simp [BS.rep]
    · omega
mutual
theorem nodeL_ds (src : ByteArray) : ∀ (x : Tree) (b : BS), (nodeL src x b).2.ds.length ≤ b.ds.length + x.wt
  | .mk k t ch, b => by
    unfold nodeL Tree.wt
    simp only
    have h1 := finB_ds (maxH (kidsL src ch ⟨newH k b.off, [], b⟩).h) (kidsL src ch ⟨newH k b.off, [], b⟩).b
    have h2 := kidsL_ds src ch ⟨newH k b.off, [], b⟩
    simp only at h2
    omega
theorem kidsL_ds (src : ByteArray) : ∀ (l : List Tree) (s : NS), (kidsL src l s).b.ds.length ≤ s.b.ds.length + wts l
  | [], s => by simp [kidsL, wts]
  | x :: r, s => by
    by_cases h : 100 ≤ x.k
    · rw [kidsL_tok h, wts]
      have h1 := kidsL_ds src r ⟨tokH s.h x.k x.t s.b.off (s.b.off + x.t.size), s.ch, tokB x.k x.t s.b⟩
      have h2 := tokB_ds x.k x.t s.b
      have h3 := x.wt_pos
      simp only at h1
      omega
    · rw [kidsL_node h, wts]
      have h1 := kidsL_ds src r ⟨extendH s.h (nodeL src x s.b).1.h.s (nodeL src x s.b).1.h.e, s.ch ++ [(nodeL src x s.b).1], (nodeL src x s.b).2⟩
      have h2 := nodeL_ds src x s.b
      simp only at h1
      omega
end
def Ext (h : Hd) (s0 o : Int) : Prop := (h.e < 0 ∧ h.s = s0) ∨ (s0 ≤ h.s ∧ h.s ≤ h.e ∧ h.e ≤ o)
theorem Ext.extend {h h' : Hd} {s0 o s e o' : Int} (H : Ext h s0 o) (hs : h'.s = h.s) (he : h'.e = h.e) (h0 : 0 ≤ s0) (h1 : s0 ≤ o) (h2 : o ≤ s) (h3 : s ≤ e) (h4 : e ≤ o') : Ext (extendH h' s e) s0 o' := by
  unfold Ext extendH at *
  rw [hs, he]
  simp only
  right
  rcases H with ⟨a, b⟩ | ⟨a, b, c⟩
  · rw [if_pos a]; omega
  · split <;> omega
theorem Ext.more {h : Hd} {s0 o o' : Int} (H : Ext h s0 o) (ho : o ≤ o') : Ext h s0 o' := by
  unfold Ext at *; omega
theorem setFlagH_ext (h : Hd) (t : ByteArray) : (setFlagH h t).s = h.s ∧ (setFlagH h t).e = h.e ∧ (setFlagH h t).k = h.k := by
  unfold setFlagH
  split
  · exact ⟨rfl, rfl, rfl⟩
  · split
    · exact ⟨rfl, rfl, rfl⟩
    · split
      · exact ⟨rfl, rfl, rfl⟩
      · split
        · exact ⟨rfl, rfl, rfl⟩
        · split <;> exact ⟨rfl, rfl, rfl⟩
theorem identH_ext (h : Hd) (t : ByteArray) (s : Int) : (identH h t s).s = h.s ∧ (identH h t s).e = h.e ∧ (identH h t s).k = h.k := by
  unfold identH; split <;> exact ⟨rfl, rfl, rfl⟩
theorem tokH_k (h : Hd) (k : Int) (t : ByteArray) (s e : Int) : (tokH h k t s e).k = h.k := by
  unfold tokH
  split
  · rfl
  · split
    · split <;> rfl
    · split
      · exact (identH_ext h t s).2.2
      · split
        · rfl
        · split
          · rfl
          · exact (setFlagH_ext h t).2.2
theorem Ext.tok {h : Hd} {s0 o : Int} (H : Ext h s0 o) (h0 : 0 ≤ s0) (h1 : s0 ≤ o) (k : Int) (t : ByteArray) : Ext (tokH h k t o (o + t.size)) s0 (o + t.size) := by
  have h2 : o ≤ o + t.size := by omega
  unfold tokH
  split
  · exact H.more h2
  · split
    · split
      · exact H.more h2
      · exact H.extend rfl rfl h0 h1 (Int.le_refl _) h2 (Int.le_refl _)
    · split
      · exact H.extend (identH_ext h t o).1 (identH_ext h t o).2.1 h0 h1 (Int.le_refl _) h2 (Int.le_refl _)
      · split
        · exact H.extend (by rfl) (by rfl) h0 h1 (Int.le_refl _) h2 (Int.le_refl _)
        · split
          · exact H.extend (by rfl) (by rfl) h0 h1 (Int.le_refl _) h2 (Int.le_refl _)
          · exact H.extend (setFlagH_ext h t).1 (setFlagH_ext h t).2.1 h0 h1 (Int.le_refl _) h2 (Int.le_refl _)
theorem finN_ext (src : ByteArray) (h : Hd) (ch : List Node) : (finN src h ch).h.s = h.s ∧ (finN src h ch).h.e = h.e := by
  unfold finN
  split
  · exact ⟨rfl, rfl⟩
  · split <;> exact ⟨rfl, rfl⟩
theorem maxH_ext {h : Hd} {s0 o : Int} (H : Ext h s0 o) (h0 : 0 ≤ s0) (h1 : s0 ≤ o) : s0 ≤ (maxH h).s ∧ (maxH h).s ≤ (maxH h).e ∧ (maxH h).e ≤ o := by
  unfold maxH Ext at *
  simp only
  rcases H with ⟨a, b⟩ | ⟨a, b, c⟩
  · omega
  · omega
mutual
theorem nodeL_ext (src : ByteArray) : ∀ (x : Tree) (b : BS), ¬ 100 ≤ x.k → 0 ≤ b.off → b.off ≤ (nodeL src x b).1.h.s ∧ (nodeL src x b).1.h.s ≤ (nodeL src x b).1.h.e ∧ (nodeL src x b).1.h.e ≤ b.off + x.yl
  | .mk k t ch, b, h, h0 => by
    unfold nodeL
    simp only
    have e := kidsL_ext src ch ⟨newH k b.off, [], b⟩ b.off h0 (Int.le_refl _) (.inl ⟨show (-1 : Int) < 0 by decide, rfl⟩)
    simp only at e
    have m := maxH_ext e h0 (by omega)
    obtain ⟨f1, f2⟩ := finN_ext src (maxH (kidsL src ch ⟨newH k b.off, [], b⟩).h) (kidsL src ch ⟨newH k b.off, [], b⟩).ch
    rw [f1, f2, Tree.yl_node h]
    exact m
theorem kidsL_ext (src : ByteArray) : ∀ (l : List Tree) (s : NS) (s0 : Int), 0 ≤ s0 → s0 ≤ s.b.off → Ext s.h s0 s.b.off → Ext (kidsL src l s).h s0 (s.b.off + yls l)
  | [], s, s0, h0, h1, H => by simpa [kidsL, yls] using H
  | x :: r, s, s0, h0, h1, H => by
    by_cases h : 100 ≤ x.k
    · rw [kidsL_tok h, yls, Tree.yl_leaf h]
      have := kidsL_ext src r ⟨tokH s.h x.k x.t s.b.off (s.b.off + x.t.size), s.ch, tokB x.k x.t s.b⟩ s0 h0 (by simp only; rw [tokB_off]; omega) (by simp only; rw [tokB_off]; exact H.tok h0 h1 x.k x.t)
      simp only at this
      rw [tokB_off] at this
      rw [show s.b.off + ((x.t.size + yls r : Nat) : Int) = s.b.off + x.t.size + yls r by omega]
      exact this
    · rw [kidsL_node h, yls]
      have e := nodeL_ext src x s.b h (by omega)
      have o := nodeL_off src x s.b h
      have := kidsL_ext src r ⟨extendH s.h (nodeL src x s.b).1.h.s (nodeL src x s.b).1.h.e, s.ch ++ [(nodeL src x s.b).1], (nodeL src x s.b).2⟩ s0 h0 (by simp only; rw [o]; omega) (by simp only; rw [o]; exact H.extend rfl rfl h0 h1 e.1 e.2.1 e.2.2)
      simp only at this
      rw [o] at this
      rw [show s.b.off + ((x.yl + yls r : Nat) : Int) = s.b.off + x.yl + yls r by omega]
      exact this
end
theorem kidsL_len (src : ByteArray) : ∀ (l : List Tree) (s : NS), s.ch.length ≤ (kidsL src l s).ch.length ∧ (kidsL src l s).ch.length ≤ s.ch.length + l.length
  | [], s => by simp [kidsL]
  | x :: r, s => by
    by_cases h : 100 ≤ x.k
    · rw [kidsL_tok h]
      have := kidsL_len src r ⟨tokH s.h x.k x.t s.b.off (s.b.off + x.t.size), s.ch, tokB x.k x.t s.b⟩
      simp only [List.length_cons] at this ⊢
      omega
    · rw [kidsL_node h]
      have := kidsL_len src r ⟨extendH s.h (nodeL src x s.b).1.h.s (nodeL src x s.b).1.h.e, s.ch ++ [(nodeL src x s.b).1], (nodeL src x s.b).2⟩
      simp only [List.length_cons, List.length_append, List.length_nil] at this ⊢
      omega
theorem kidsL_ne (src : ByteArray) : ∀ (l : List Tree) (s : NS), (∃ x ∈ l, x.k < 100) → (kidsL src l s).ch ≠ []
  | [], s, h => by obtain ⟨x, hx, _⟩ := h; cases hx
  | x :: r, s, h => by
    by_cases hk : 100 ≤ x.k
    · rw [kidsL_tok hk]
      refine kidsL_ne src r _ ?_
      obtain ⟨y, hy, hlt⟩ := h
      rcases List.mem_cons.1 hy with rfl | hy
      · omega
      · exact ⟨y, hy, hlt⟩
    · rw [kidsL_node hk]
      intro e
      have := (kidsL_len src r ⟨extendH s.h (nodeL src x s.b).1.h.s (nodeL src x s.b).1.h.e, s.ch ++ [(nodeL src x s.b).1], (nodeL src x s.b).2⟩).1
      rw [e] at this
      simp at this
theorem kidsL_k (src : ByteArray) : ∀ (l : List Tree) (s : NS), (kidsL src l s).h.k = s.h.k
  | [], s => by simp [kidsL]
  | x :: r, s => by
    by_cases h : 100 ≤ x.k
    · rw [kidsL_tok h, kidsL_k src r _]
      exact tokH_k _ _ _ _ _
    · rw [kidsL_node h, kidsL_k src r _]
      rfl
theorem len_le_wts : ∀ (l : List Tree), l.length ≤ wts l
  | [] => by simp
  | x :: r => by rw [wts, List.length_cons]; have := x.wt_pos; have := len_le_wts r; omega
end Go.Proofs.YtpibenilagloaaaGreatDoor
