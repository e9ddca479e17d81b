import Derived.Test.YtpibenilagloaaaGreatDoorMxaz
import Derived.Deep.Onto
/-
  slices.Compact at ranges, of any length.
-/
namespace Go.Proofs.YtpibenilagloaaaGreatDoor
open Go.RowKit
set_option linter.unusedVariables false

/-- a range of a module -/
structure Rg3 where
  mod : Int
  s : Int
  e : Int
deriving DecidableEq
instance : Inhabited Rg3 := ⟨⟨0, 0, 0⟩⟩
def Rg3.cells (x : Rg3) : List Value := [.int .i64 x.mod, .int .i64 x.s, .int .i64 x.e]
theorem Rg3.cells_len (x : Rg3) : x.cells.length = 3 := rfl
/-- the model's equality at a diagnostic -/
theorem rg3_equal (x0 x1 x2 y0 y1 y2 : Int) (w : World) : (Op.equalIn 10000 28 (.agg #[.int .i64 x0, .int .i64 x1, .int .i64 x2]) (.agg #[.int .i64 y0, .int .i64 y1, .int .i64 y2])).run Tryz.prog w = .ok (decide ((⟨x0, x1, x2⟩ : Rg3) = ⟨y0, y1, y2⟩)) w := by
  have hS : Tryz.prog.underlying 28 = some (.struct (Tryz.prog.fieldsOf 28)) := by kernel_rfl
  have hp : Tryz.prog.stoodInHeld 28 = false := by kernel_rfl
  rw [show (10000 : Nat) = 9999 + 1 from rfl, run_equalIn_agg w 9999 28 _ _ hS hp]
  simp only [Program.fieldsOf, Tryz.underlying28]
  go_simp
  by_cases h0 : x0 = y0 <;> by_cases h1 : x1 = y1 <;> by_cases h2 : x2 = y2 <;> simp [h0, h1, h2]
theorem rg3_eq (x0 x1 x2 y0 y1 y2 : Int) (w : World) : (binOp .eql 28 (.agg #[.int .i64 x0, .int .i64 x1, .int .i64 x2]) (.agg #[.int .i64 y0, .int .i64 y1, .int .i64 y2])).run Tryz.prog w = .ok (.bool (decide ((⟨x0, x1, x2⟩ : Rg3) = ⟨y0, y1, y2⟩))) w := by
  rw [run_eql_struct, rg3_equal]; rfl
theorem rg3_neq (x0 x1 x2 y0 y1 y2 : Int) (w : World) : (binOp .neq 28 (.agg #[.int .i64 x0, .int .i64 x1, .int .i64 x2]) (.agg #[.int .i64 y0, .int .i64 y1, .int .i64 y2])).run Tryz.prog w = .ok (.bool (!decide ((⟨x0, x1, x2⟩ : Rg3) = ⟨y0, y1, y2⟩))) w := by
  rw [run_neq_struct, rg3_equal]; rfl
/-- 'clear' at a slice of diagnostics -/
theorem clear_rg3 (w : World) (g o n c : Nat) (hc : ∀ j, j < n * 3 → (w.cell? ⟨g, o + j, none⟩).isSome = true) (hf : ∀ j, w.frozen? ⟨g, j, none⟩ = false) :
    ∃ L : List Value, ∀ ty : TypeId, (Builtin.clear_ #[23] ty #[.slice (some ⟨g, o, none⟩) n c]).run Tryz.prog w = .ok (.tuple #[]) (w.setCells g o L) := by
  cases n with
  | zero => exact ⟨[], fun ty => by simp [Builtin.clear_, run_underlying Tryz.underlying23]; rfl⟩
  | succ m =>
    have hv : ∀ w, (zeroValue 28).run Tryz.prog w = .ok (.agg #[.int .i64 0, .int .i64 0, .int .i64 0]) w := Tryz.zeroValue28
    generalize hL : (Builtin.zeroCells (Value.agg #[.int .i64 0, .int .i64 0, .int .i64 0]).cells (m + 1)).toList = L
    have hl : L.length = (m + 1) * 3 := by
      rw [← hL]
      simp [Builtin.zeroCells, Value.cells]
    have h1 : ∀ v ∈ L, v.oneCell' = true := by
      rw [← hL]
      intro v hv
      simp [Builtin.zeroCells, Value.cells] at hv
      obtain ⟨a, _, rfl⟩ := hv
      obtain h | h | h : a % 3 = 0 ∨ a % 3 = 1 ∨ a % 3 = 2 := by omega
      all_goals rw [h]; rfl
    have hst := run_storeCells_cells (P := Tryz.prog) g o L 0 w (by rw [hl]; simpa using hc) (fun j _ => hf _) h1
    simp only [Nat.add_zero] at hst
    refine ⟨L, fun ty => ?_⟩
    simp [Builtin.clear_, run_underlying Tryz.underlying23, hv, hL, hst]
theorem flat_set3r (xs : List Rg3) (k : Nat) (d : Rg3) (h : k < xs.length) :
    ((((xs.flatMap Rg3.cells).set (k * 3) (.int .i64 d.mod)).set (k * 3 + 1) (.int .i64 d.s)).set (k * 3 + 2) (.int .i64 d.e)) = (xs.set k d).flatMap Rg3.cells := by
  induction xs generalizing k with
  | nil => simp at h
  | cons x r ih =>
    cases k with
    | zero => simp [Rg3.cells]
    | succ k =>
      have := ih k (by simpa using h)
      rw [List.set_cons_succ, List.flatMap_cons, List.flatMap_cons, ← this]
      have e : ∀ j v, (x.cells ++ r.flatMap Rg3.cells).set ((k + 1) * 3 + j) v = x.cells ++ (r.flatMap Rg3.cells).set (k * 3 + j) v := fun j v => by
        rw [List.set_append_right _ _ (by simp [Rg3.cells]; omega)]
        congr 2
        simp [Rg3.cells]; omega
      have e0 := fun (l : List Value) v => (fun (l : List Value) => (by
        rw [List.set_append_right _ _ (by simp [Rg3.cells]; omega)]
        congr 2
        simp [Rg3.cells]; omega : (x.cells ++ l).set ((k + 1) * 3) v = x.cells ++ l.set (k * 3) v)) l
      have e' : ∀ (l : List Value) j v, (x.cells ++ l).set ((k + 1) * 3 + j) v = x.cells ++ l.set (k * 3 + j) v := fun l j v => by
        rw [List.set_append_right _ _ (by simp [Rg3.cells]; omega)]
        congr 2
        simp [Rg3.cells]; omega
      rw [e0, e', e']
/-- what Compact leaves -/
def CrpPost (w : World) (g : Nat) (ds : List Rg3) (e : Ending) (w' : World) : Prop :=
  ∃ c', e = .returned (.slice (some ⟨g, 0, none⟩) (compactL ds).length c') ∧ FlatAt Rg3.cells 3 w' (fun b => b = g) (some ⟨g, 0, none⟩) (compactL ds) ∧ Upd g w w'
theorem compactR_short (w : World) (A : Option Addr) (n c : Nat) (hn : n < 2) :
    Calls Tryz.prog 29 #[.slice A n c] w fun e w' => e = .returned (.slice A n c) ∧ w' = w := by
  have h : (n : Int) < 2 := by omega
  go_enter Tryz.func29, Tryz.ntmps29
  go_wp2
  go_ret
  exact ⟨rfl, rfl⟩
theorem rg3_cells {w : World} {g n cap : Nat} {ds : List Rg3} (row : w.ownsRow 0 28 3 (.slice (some ⟨g, 0, none⟩) n cap) n (ds.flatMap Rg3.cells)) (i : Nat) (d : Rg3) (h : ds[i]? = some d) :
    w.cell? ⟨g, i * 3, none⟩ = some (.int .i64 d.mod) ∧ w.cell? ⟨g, i * 3 + 1, none⟩ = some (.int .i64 d.s) ∧ w.cell? ⟨g, i * 3 + 2, none⟩ = some (.int .i64 d.e) := by
  have hl : ds.length * 3 = n * 3 := by rw [← flat_length Rg3.cells_len]; exact row.1
  have hi : i < ds.length := (List.getElem?_eq_some_iff.1 h).1
  have f := fun j v hv (hj : j < 3) => (row.cellAt (i * 3 + j) (by omega)).trans (flat_at Rg3.cells_len ds i d h j v hv)
  exact ⟨f 0 _ rfl (by omega), f 1 _ rfl (by omega), f 2 _ rfl (by omega)⟩
/-- the inner loop: i0 the first that equals its predecessor, j + 1 looked at behind it, iv places settled -/
structure Cr2 (w : World) (g cap n : Nat) (ds : List Rg3) (wr : World) (i0 j iv : Nat) (cur : List Rg3) : Prop where
  len : cur.length = n
  done : cur.take iv = compactL (ds.take (i0 + (j + 1)))
  rest : ∀ t, i0 + j ≤ t → cur[t]? = ds[t]?
  le : iv ≤ i0 + j
  row : wr.ownsRow 0 28 3 (.slice (some ⟨g, 0, none⟩) n cap) n (cur.flatMap Rg3.cells)
  upd : Upd g w wr
  ivl : iv = (compactL (ds.take (i0 + (j + 1)))).length
theorem Cr2.same {w : World} {g cap n : Nat} {ds : List Rg3} {wr : World} {i0 j iv : Nat} {cur : List Rg3} (h : Cr2 w g cap n ds wr i0 j iv cur) (he : compactL (ds.take (i0 + j + 1 + 1)) = compactL (ds.take (i0 + j + 1))) : Cr2 w g cap n ds wr.drew i0 (j + 1) iv cur :=
  ⟨h.len, by rw [show i0 + (j + 1 + 1) = i0 + j + 1 + 1 by omega, he]; exact h.done, fun t ht => h.rest t (by omega), by have := h.le; omega, h.row, h.upd.drew, by rw [show i0 + (j + 1 + 1) = i0 + j + 1 + 1 by omega, he]; exact h.ivl⟩
theorem Cr2.put {w : World} {g cap n : Nat} {ds : List Rg3} {wr : World} {i0 j iv : Nat} {cur : List Rg3} (h : Cr2 w g cap n ds wr i0 j iv cur) (x : Rg3) (hiv : iv < n) (he : compactL (ds.take (i0 + j + 1 + 1)) = compactL (ds.take (i0 + j + 1)) ++ [x]) :
    Cr2 w g cap n ds ((((wr.setCell ⟨g, iv * 3, none⟩ (.int .i64 x.mod)).setCell ⟨g, iv * 3 + 1, none⟩ (.int .i64 x.s)).setCell ⟨g, iv * 3 + 2, none⟩ (.int .i64 x.e)).drew) i0 (j + 1) (iv + 1) (cur.set iv x) := by
  have hl := h.len
  have hd := h.done
  have hv := h.ivl
  obtain ⟨o1, _⟩ := h.row.stored (iv * 3) (.int .i64 x.mod)
  obtain ⟨o2, _⟩ := o1.stored (iv * 3 + 1) (.int .i64 x.s)
  obtain ⟨o5, _⟩ := o2.stored (iv * 3 + 2) (.int .i64 x.e)
  rw [flat_set3r cur iv x (by omega)] at o5
  refine ⟨by rw [List.length_set]; exact hl, ?_, fun t ht => ?_, by have := h.le; omega, o5.drew, ((((h.upd.set _ _).set _ _).set _ _).drew), ?_⟩
  · rw [show i0 + (j + 1 + 1) = i0 + j + 1 + 1 by omega, he, ← show i0 + (j + 1) = i0 + j + 1 from rfl, ← hd, List.take_succ_eq_append_getElem (by rw [List.length_set]; omega), List.take_set_of_le (Nat.le_refl _), List.getElem_set_self]
  · rw [List.getElem?_set_ne (by have := h.le; omega)]
    exact h.rest t (by omega)
  · rw [show i0 + (j + 1 + 1) = i0 + j + 1 + 1 by omega, he, List.length_append, ← show i0 + (j + 1) = i0 + j + 1 from rfl, ← hv]; rfl
set_option maxRecDepth 100000 in
set_option maxHeartbeats 3200000 in
theorem compactR_any (w : World) (g cap n : Nat) (ds : List Rg3) (hn : ds.length = n) (h2 : 2 ≤ n) (hb : n ≤ 1000000) (hrow : w.ownsRow 0 28 3 (.slice (some ⟨g, 0, none⟩) n cap) n (ds.flatMap Rg3.cells)) :
    Calls Tryz.prog 29 #[.slice (some ⟨g, 0, none⟩) n cap] w (CrpPost w g ds) := by
  have h2I : ¬ (n : Int) < 2 := by omega
  have HN := Lib.hid hn
  have HE := Lib.hid rg3_eq
  have HR := Lib.hid hrow
  have hcap : n ≤ cap := by
    rcases hrow.2 with ⟨h, _⟩ | ⟨_, _, _, h, _, _, h3, _⟩
    · cases h
    · injection h with _ _ h; subst h; exact h3
  have hglt := (hrow.lt g rfl).2
  clear hn hrow
  go_enter Tryz.func29, Tryz.ntmps29
  go_wp2_with fail
  go_loopw [3] (fun i wr => ∃ k : Nat, k + 1 ≤ n ∧ i = .int .i64 ((k + 1 : Nat) : Int) ∧ Hid (compactL (ds.take (k + 1)) = ds.take (k + 1)) ∧ Upd g w wr ∧ wr.heap = w.heap) (fun i _ => n - (intOf i).toNat)
  case atStart => exact ⟨0, by omega, rfl, by
    cases ds with
    | nil => have := HN.out; simp at this; omega
    | cons x r => exact Lib.hid rfl, Upd.refl _ _, rfl⟩
  case round =>
    obtain ⟨k, hk, rfl, hi, hup, hhp⟩ := hrel
    have HHP := Lib.hid hhp
    have hglt' : g < wr.heap.size := by rw [hhp]; exact hglt
    have row : wr.ownsRow 0 28 3 (.slice (some ⟨g, 0, none⟩) n cap) n (ds.flatMap Rg3.cells) := ownsRow_below HR.out fun _ _ => by rw [hhp]
    have HROW := Lib.hid row
    clear hhp
    by_cases hlt : k + 1 < n
    · have hltI : ((k + 1 : Nat) : Int) < n := by omega
      have hk1 : k + 1 < ds.length := by rw [HN.out]; exact hlt
      have hk0 : k < ds.length := by omega
      have HT := Lib.hid (compactL_take ds (k + 1) (by omega) hk1)
      have hw1 : IntKind.i64.wrap (((k + 1 : Nat) : Int) - 1) = (k : Int) := by rw [IntWalk.i64_in _ (by omega)]; omega
      obtain ⟨c0, c1, c2⟩ := rg3_cells row (k + 1) ds[k + 1] (List.getElem?_eq_getElem hk1)
      obtain ⟨d0, d1, d2⟩ := rg3_cells row k ds[k] (List.getElem?_eq_getElem hk0)
      simp only [Nat.add_sub_cancel] at HT
      have HT2 := Lib.hid (compactL_take ds (k + 1) (by omega) hk1)
      simp only [Nat.add_sub_cancel] at HT2
      have HTK := Lib.hid (List.take_succ_eq_append_getElem hk1)
      clear HT row
      generalize hx : ds[k + 1] = x at *
      generalize hy : ds[k] = y at *
      have HX := Lib.hid hx
      have HY := Lib.hid hy
      obtain ⟨x0, x1, x2⟩ := x
      obtain ⟨y0, y1, y2⟩ := y
      simp only at c0 c1 c2 d0 d1 d2
      have heq := fun w => rg3_eq x0 x1 x2 y0 y1 y2 w
      have hi1 : (k : Int) < n := by omega
      have hk1I : ((k + 1 : Nat) : Int) < (n : Int) := by omega
      clear hx hy
      by_cases hxy : (⟨x0, x1, x2⟩ : Rg3) = ⟨y0, y1, y2⟩
      · rw [decide_eq_true hxy] at heq
        have HXY := Lib.hid hxy
        clear hxy
        go_wp2_with fail
        go_region
        go_wp2_with fail
        have hup0 := hup.drew
        have row0 : wr.drew.ownsRow 0 28 3 (.slice (some ⟨g, 0, none⟩) n cap) n (ds.flatMap Rg3.cells) := HROW.out
        have hz0 : Cr2 w g cap n ds wr.drew (k + 1) 0 (k + 1) ds := by
          refine ⟨HN.out, ?_, fun t _ => rfl, by omega, row0, hup0, ?_⟩
          · have h1 := HT2.out
            rw [if_pos HXY.out, List.append_nil] at h1
            rw [h1, hi.out]
          · have h1 := HT2.out
            rw [if_pos HXY.out, List.append_nil] at h1
            rw [h1, hi.out, List.length_take]; have := HN.out; omega
        clear hup0 row0 hup heq c0 c1 c2 d0 d1 d2 hglt'
        go_loopw [3, 5] (fun i k2 wr2 => ∃ (j iv : Nat) (cur : List Rg3), i = .int .i64 (iv : Int) ∧ k2 = .int .i64 ((j + 1 : Nat) : Int) ∧ j + 1 ≤ n - (k + 1) ∧ Cr2 w g cap n ds wr2 (k + 1) j iv cur) (fun _ k2 _ => n - (intOf k2).toNat)
        case atStart => exact ⟨0, k + 1, ds, rfl, rfl, by omega, hz0⟩
        case round =>
          clear hz0
          obtain ⟨j, iv, cur, rfl, rfl, hj, hC⟩ := hrel
          clear HTK HT2 HXY HX HY hi HROW HHP
          by_cases hlt2 : j + 1 < n - (k + 1)
          · have hlt2I : ((j + 1 : Nat) : Int) < ((n - (k + 1) : Nat) : Int) := by omega
            have hjI : (j : Int) < ((n - (k + 1) : Nat) : Int) := by omega
            have hw2 : IntKind.i64.wrap (((j + 1 : Nat) : Int) - 1) = (j : Int) := by rw [IntWalk.i64_in _ (by omega)]; omega
            have hr1 : k + 1 + (j + 1) < ds.length := by rw [HN.out]; omega
            have hr0 : k + 1 + j < ds.length := by omega
            have hl := hC.len
            have hx1 := (hC.rest (k + 1 + (j + 1)) (by omega)).trans (List.getElem?_eq_getElem hr1)
            have hy1 := (hC.rest (k + 1 + j) (by omega)).trans (List.getElem?_eq_getElem hr0)
            obtain ⟨c0, c1, c2⟩ := rg3_cells hC.row _ _ hx1
            obtain ⟨d0, d1, d2⟩ := rg3_cells hC.row _ _ hy1
            have HT2 := compactL_take2 ds (k + 1 + j) _ _ (List.getElem?_eq_getElem hr1) (List.getElem?_eq_getElem hr0)
            have HXC := Lib.hid hx1
            generalize hxx : ds[k + 1 + (j + 1)] = x at *
            generalize hyy : ds[k + 1 + j] = y at *
            obtain ⟨p0, p1, p2⟩ := x
            obtain ⟨q0, q1, q2⟩ := y
            simp only at c0 c1 c2 d0 d1 d2
            rw [show (k + 1 + (j + 1)) * 3 = (k + 1) * 3 + (j + 1) * 3 by rw [Nat.add_mul]] at c0 c1 c2
            rw [show (k + 1 + j) * 3 = (k + 1) * 3 + j * 3 by rw [Nat.add_mul]] at d0 d1 d2
            have heq := fun w => rg3_neq p0 p1 p2 q0 q1 q2 w
            have hivn : iv < n := by have := hC.le; omega
            have hivI : (iv : Int) < n := by omega
            have hglt2 := (hC.row.lt g rfl).2
            have HC := Lib.hid hC
            have HT3 := Lib.hid HT2
            clear hx1 hy1 hxx hyy HT2 hC
            by_cases hxy : (⟨p0, p1, p2⟩ : Rg3) = ⟨q0, q1, q2⟩
            · rw [decide_eq_true hxy] at heq
              have hC2 := HC.out.same (by have h1 := HT3.out; rw [if_pos hxy, List.append_nil] at h1; exact h1)
              clear hxy
              go_wp2_with fail
              go_region
              go_wp2_with fail
              exact ⟨⟨j + 1, iv, cur, rfl, by go_num, by omega, hC2⟩, by simp [intOf]; omega⟩
            · rw [decide_eq_false hxy] at heq
              have HXY := Lib.hid hxy
              clear hxy
              have f := hglt2
              obtain ⟨e0, e1, e2⟩ := rg3_cells HC.out.row iv cur[iv] (List.getElem?_eq_getElem (by rw [hl]; exact hivn))
              have hfz := HC.out.row.frozenAt
              have f0 := hfz (iv * 3)
              have f1 := hfz (iv * 3 + 1)
              have f2 := hfz (iv * 3 + 2)
              clear hfz
              go_wp2_with fail
              go_region
              go_wp2_with fail
              have hC2 := HC.out.put ⟨p0, p1, p2⟩ hivn (by have h1 := HT3.out; rw [if_neg HXY.out] at h1; exact h1)
              exact ⟨⟨j + 1, iv + 1, _, by go_num, by go_num, by omega, hC2⟩, by simp [intOf]; omega⟩
          · have hlt2I : ¬ ((j + 1 : Nat) : Int) < ((n - (k + 1) : Nat) : Int) := by omega
            have hl := hC.len
            have hle := hC.le
            have hivc : iv < cap := by omega
            have hivn : iv < n := by omega
            have hjn : k + 1 + (j + 1) = n := by omega
            obtain ⟨L, hL⟩ := clear_rg3 wr g (iv * 3) (n - iv) (cap - iv) (fun t ht => by rw [hC.row.cellAt _ (by omega), List.getElem?_eq_getElem (by rw [hC.row.1]; omega)]; rfl) hC.row.frozenAt
            have hivI : (iv : Int) < n := by omega
            have hivcI : (iv : Int) < cap := by omega
            have hcne : cap ≠ iv := by omega
            have HC := Lib.hid hC
            clear hC
            have HQ : Hid (CrpPost w g ds (.returned (.slice (some ⟨g, 0, none⟩) iv cap)) (wr.setCells g (iv * 3) L)) := by
              have hC := HC.out
              have ht : ds.take (k + 1 + (j + 1)) = ds := by rw [hjn, ← HN.out, List.take_length]
              have hd := hC.done
              have hv := hC.ivl
              rw [ht] at hd hv
              refine ⟨cap, by rw [hv], ?_, hC.upd.setCells L _⟩
              rw [← hd]
              intro _
              refine ⟨g, 0, rfl, rfl, fun i x hx t v hv2 => ?_⟩
              have hi : i < iv := by have := (List.getElem?_eq_some_iff.1 hx).1; rw [List.length_take] at this; omega
              rw [List.getElem?_take_of_lt hi] at hx
              have h5 : t < 3 := by have := (List.getElem?_eq_some_iff.1 hv2).1; rw [Rg3.cells_len] at this; exact this
              have ho := World.cell?_setCells_out g L (iv * 3) wr ⟨g, 0 + i * 3 + t, none⟩ (fun _ _ => .inl (by show 0 + i * 3 + t < iv * 3; omega))
              rw [ho, Nat.zero_add, hC.row.cellAt _ (by omega)]
              exact flat_at Rg3.cells_len cur i x hx t v hv2
            clear HC
            go_wp2_with fail
            go_ret
            exact HQ.out
      · rw [decide_eq_false hxy] at heq
        have HXY := Lib.hid hxy
        clear hxy
        go_wp2_with fail
        go_region
        go_wp2_with fail
        exact ⟨⟨k + 1, by omega, by go_num, Lib.hid (by rw [HT2.out, HTK.out, hi.out, if_neg HXY.out]), hup.drew, HHP.out⟩, by simp [intOf]; omega⟩
    · have hltI : ¬ ((k + 1 : Nat) : Int) < n := by omega
      have HQ : Hid (CrpPost w g ds (.returned (.slice (some ⟨g, 0, none⟩) n cap)) wr) := by
        have hkn : k + 1 = n := by omega
        have ht : ds.take (k + 1) = ds := by rw [hkn, ← HN.out, List.take_length]
        have hi2 := hi.out
        rw [ht] at hi2
        refine ⟨cap, by rw [hi2, HN.out], ?_, hup⟩
        rw [hi2]
        intro _
        refine ⟨g, 0, rfl, rfl, fun i x hx t v hv2 => ?_⟩
        have hil : i < n := by have := (List.getElem?_eq_some_iff.1 hx).1; rw [HN.out] at this; exact this
        have h5 : t < 3 := by have := (List.getElem?_eq_some_iff.1 hv2).1; rw [Rg3.cells_len] at this; exact this
        rw [Nat.zero_add, HROW.out.cellAt _ (by omega)]
        exact flat_at Rg3.cells_len ds i x hx t v hv2
      clear hup row hi
      go_wp2_with fail
      go_ret
      exact HQ.out
end Go.Proofs.YtpibenilagloaaaGreatDoor

/-
  cursor.ExpandSelection's two closures: which range is the selection; the comparison by length, then by start.
-/
namespace Go.Proofs.YtpibenilagloaaaGreatDoor
open Go.RowKit
open Go.Sort (grow grow_grow alloc_eq_grow PermIn SortedIn SWO)
set_option linter.unusedVariables false

def Rg3.len (x : Rg3) : Int := IntKind.i64.wrap (x.e - x.s)
def cmpCu (a b : Rg3) : Int := orL [cmpI a.len b.len, cmpI a.s b.s]
theorem cmpCu_law : CmpLaw cmpCu := by
  have h1 : CmpLaw (fun a b : Rg3 => cmpI a.len b.len) := cmpI_law.of Rg3.len
  have h2 : CmpLaw (fun a b : Rg3 => cmpI a.s b.s) := cmpI_law.of Rg3.s
  have h := h1.lex h2
  have e : cmpCu = fun a b : Rg3 => if cmpI a.len b.len = 0 then cmpI a.s b.s else cmpI a.len b.len := by
    funext a b
    unfold cmpCu
    simp only [orL]
    by_cases k : cmpI a.s b.s = 0
    · simp [k]
    · simp [k]
  rw [e]
  exact h
set_option maxRecDepth 100000 in
set_option maxHeartbeats 3200000 in
theorem cmpCu_any (x y : Rg3) (w : World) :
    Calls Tryz.prog 26 #[.agg x.cells.toArray, .agg y.cells.toArray] w fun e w' => e = .returned (.int .i64 (cmpCu x y)) ∧ ∃ q os', w' = grow (w.drewN q) os' := by
  obtain ⟨x0, x1, x2⟩ := x
  obtain ⟨y0, y1, y2⟩ := y
  have HC := Lib.hid (show cmpCu ⟨x0, x1, x2⟩ ⟨y0, y1, y2⟩ = orL [cmpI (IntKind.i64.wrap (x2 - x1)) (IntKind.i64.wrap (y2 - y1)), cmpI x1 y1] from rfl)
  show Calls _ _ #[.agg #[.int .i64 x0, .int .i64 x1, .int .i64 x2], .agg #[.int .i64 y0, .int .i64 y1, .int .i64 y2]] _ _
  go_enter Tryz.func26, Tryz.ntmps26
  go_wp2_with fail
  have hx := heap_one w (.cells #[.int .i64 x0, .int .i64 x1, .int .i64 x2] 28) (.cells #[.int .i64 y0, .int .i64 y1, .int .i64 y2] 28)
  have hy := heap_two w (.cells #[.int .i64 x0, .int .i64 x1, .int .i64 x2] 28) (.cells #[.int .i64 y0, .int .i64 y1, .int .i64 y2] 28)
  generalize hW : (w.alloc (.cells #[.int .i64 x0, .int .i64 x1, .int .i64 x2] 28)).alloc (.cells #[.int .i64 y0, .int .i64 y1, .int .i64 y2] 28) = W at *
  have HW := Lib.hid hW
  have xc1 := cell_of hx 1 _ rfl
  have xc2 := cell_of hx 2 _ rfl
  have yc1 := cell_of hy 1 _ rfl
  have yc2 := cell_of hy 2 _ rfl
  have hl1 := lt_of_heap hx
  have hl2 := lt_of_heap hy
  clear hx hy hW
  refine wp_region_still_tail 16 (by kernel_rfl) (by kernel_rfl) ?_
  simp only [List.take_succ_cons, List.take_zero, List.drop_succ_cons, List.drop_zero]
  repeat still_step
  still_call (cmp_any _ _ _)
  repeat still_step
  still_call (cmp_any _ _ _)
  repeat still_step
  refine wpStill_nil ?_
  generalize cmpI (IntKind.i64.wrap (x2 - x1)) (IntKind.i64.wrap (y2 - y1)) = c1 at *
  generalize cmpI x1 y1 = c2 at *
  go_wp2_with fail
  refine (or_any (some ⟨W.heap.size, 0, none⟩) 2 [c1, c2] _ (fun _ => ⟨W.heap.size, 0, rfl, by simp, fun k z hz => ?_⟩) (by unfold maxLen; simp)).mono ?_
  · rw [show ∀ (X : World) (a : Addr), X.drew.cell? a = X.cell? a from fun _ _ => rfl, Nat.zero_add, Lib.cell_of_heap (heap_alloc_new W _)]
    match k, hz with
    | 0, hz => cases hz; rfl
    | 1, hz => cases hz; rfl
    | k + 2, hz => simp at hz
  · rintro e w1 ⟨rfl, rfl⟩
    go_wp2_with fail
    go_ret
    refine ⟨by rw [HC.out]; rfl, 1, #[.cells #[.int .i64 x0, .int .i64 x1, .int .i64 x2] 28] ++ #[.cells #[.int .i64 y0, .int .i64 y1, .int .i64 y2] 28] ++ #[.cells #[.int .i64 c1, .int .i64 c2] 3], ?_⟩
    rw [← HW.out, alloc_eq_grow, alloc_eq_grow, alloc_eq_grow, grow_grow, grow_grow]
    rfl
/-- is the range the selection itself? -/
def isSel (s e : Int) (x : Rg3) : Bool := x.s == s && x.e == e
set_option maxRecDepth 100000 in
set_option maxHeartbeats 3200000 in
theorem delCu_any (x : Rg3) (s e : Int) (a b : Addr) (w : World) (ha : w.cell? a = some (.int .i64 s)) (hb : w.cell? b = some (.int .i64 e)) (hla : a.block < w.heap.size) (hlb : b.block < w.heap.size) :
    Calls Tryz.prog 24 #[.agg x.cells.toArray, .pointer (some a), .pointer (some b)] w fun r w' => r = .returned (.bool (isSel s e x)) ∧ Below w.heap.size w w' := by
  obtain ⟨x0, x1, x2⟩ := x
  have HC := Lib.hid (show isSel s e ⟨x0, x1, x2⟩ = (x1 == s && x2 == e) from rfl)
  show Calls _ _ #[.agg #[.int .i64 x0, .int .i64 x1, .int .i64 x2], _, _] _ _
  obtain ⟨W, hW⟩ : ∃ W, w.alloc (.cells #[.int .i64 x0, .int .i64 x1, .int .i64 x2] 28) = W := ⟨_, rfl⟩
  have hbl : Below w.heap.size w W := by rw [← hW]; exact (Below.refl _ _).alloc (Nat.le_refl _) _
  have h1 := hbl.cell (p := a) hla |>.trans ha
  have h2 := hbl.cell (p := b) hlb |>.trans hb
  have hxh : W.heap[w.heap.size]? = some (.cells #[.int .i64 x0, .int .i64 x1, .int .i64 x2] 28) := by rw [← hW]; exact heap_alloc_new w _
  have xc1 := cell_of hxh 1 _ rfl
  have xc2 := cell_of hxh 2 _ rfl
  have hl1 := lt_of_heap hxh
  have HB := Lib.hid hbl
  clear hxh hbl ha hb hla hlb
  by_cases k1 : (x1 == s) = true <;> by_cases k2 : (x2 == e) = true
  all_goals
    have g1 := k1
    have g2 := k2
    try rw [Bool.not_eq_true] at g1
    try rw [Bool.not_eq_true] at g2
    rw [g1, g2] at HC
    clear k1 k2
    go_enter Tryz.func24, Tryz.ntmps24
    go_wp2_with fail
    all_goals (try go_region)
    all_goals (try go_wp2_with fail)
    go_ret
    exact ⟨by rw [HC.out]; rfl, by first | exact HB.out | exact HB.out.drew⟩
end Go.Proofs.YtpibenilagloaaaGreatDoor
