import Derived.Test.YtepadojclmjllaaGreatDoorMxbe
import Derived.Laws.StructEq
import Derived.Laws.IdiomCopy
import Derived.Test.YtepadojclmjllaaGreatDoorMxbg
import Derived.IntWalk
/-
  slices.Compact at diagnostics.
-/
namespace Go.Proofs.YtepadojclmjllaaGreatDoor
open Go.RowKit
set_option linter.unusedVariables false

/-- without what equals its predecessor -/
def compactFrom {α : Type} [DecidableEq α] (p : α) : List α → List α
  | [] => []
  | y :: r => if y = p then compactFrom p r else y :: compactFrom y r
def compactL {α : Type} [DecidableEq α] : List α → List α
  | [] => []
  | x :: r => x :: compactFrom x r
theorem compactFrom_snoc {α : Type} [DecidableEq α] (y : α) : ∀ (l : List α) (p : α), compactFrom p (l ++ [y]) = compactFrom p l ++ (if y = (p :: l).getLast (by simp) then [] else [y])
  | [], p => by
    by_cases h : y = p <;> simp [compactFrom, h]
  | z :: r, p => by
    simp only [List.cons_append, compactFrom]
    by_cases h : z = p
    · subst h
      rw [if_pos rfl, if_pos rfl, compactFrom_snoc y r z]
      simp [List.getLast_cons]
    · rw [if_neg h, if_neg h, compactFrom_snoc y r z]
      simp [List.getLast_cons]
theorem compactL_snoc {α : Type} [DecidableEq α] (l : List α) (y : α) (h : l ≠ []) : compactL (l ++ [y]) = compactL l ++ (if y = l.getLast h then [] else [y]) := by
  cases l with
  | nil => exact absurd rfl h
  | cons x r =>
    simp only [List.cons_append, compactL]
    rw [compactFrom_snoc]
theorem compactFrom_len {α : Type} [DecidableEq α] : ∀ (l : List α) (p : α), (compactFrom p l).length ≤ l.length
  | [], p => by simp [compactFrom]
  | z :: r, p => by
    simp only [compactFrom]
    have h1 := compactFrom_len r p
    have h2 := compactFrom_len r z
    split <;> simp only [List.length_cons] <;> omega
theorem compactL_len {α : Type} [DecidableEq α] (l : List α) : (compactL l).length ≤ l.length := by
  cases l with
  | nil => simp [compactL]
  | cons x r => simp only [compactL, List.length_cons]; have := compactFrom_len r x; omega
theorem compactL_nil {α : Type} [DecidableEq α] (l : List α) : compactL l = [] ↔ l = [] := by
  cases l <;> simp [compactL]
/-- one element more -/
theorem compactL_take {α : Type} [DecidableEq α] (l : List α) (k : Nat) (h0 : 0 < k) (h : k < l.length) : compactL (l.take (k + 1)) = compactL (l.take k) ++ (if l[k] = l[k - 1] then [] else [l[k]]) := by
  have hne : l.take k ≠ [] := by intro e; have := congrArg List.length e; rw [List.length_take] at this; simp only [List.length_nil] at this; omega
  rw [List.take_succ_eq_append_getElem h, compactL_snoc _ _ hne]
  have : (l.take k).getLast hne = l[k - 1] := by
    rw [List.getLast_eq_getElem]
    simp only [List.getElem_take, List.length_take]
    congr 1
    omega
  rw [this]
theorem compactL_take2 {α : Type} [DecidableEq α] (l : List α) (k : Nat) (x y : α) (hx : l[k + 1]? = some x) (hy : l[k]? = some y) : compactL (l.take (k + 1 + 1)) = compactL (l.take (k + 1)) ++ (if x = y then [] else [x]) := by
  obtain ⟨h1, rfl⟩ := List.getElem?_eq_some_iff.1 hx
  obtain ⟨h2, rfl⟩ := List.getElem?_eq_some_iff.1 hy
  exact compactL_take l (k + 1) (by omega) h1
/-- the model's equality at a diagnostic -/
theorem dg_equal (x0 x1 x2 x3 y0 y1 y2 y3 : Int) (x4 y4 : ByteArray) (w : World) : (Op.equalIn 10000 62 (.agg #[.int .i64 x0, .int .i64 x1, .int .i64 x2, .int .i64 x3, .string x4]) (.agg #[.int .i64 y0, .int .i64 y1, .int .i64 y2, .int .i64 y3, .string y4])).run Tryz.prog w = .ok (decide ((⟨x0, x1, x2, x3, x4⟩ : Dg) = ⟨y0, y1, y2, y3, y4⟩)) w := by
  have hS : Tryz.prog.underlying 62 = some (.struct (Tryz.prog.fieldsOf 62)) := by kernel_rfl
  have hp : Tryz.prog.stoodInHeld 62 = false := by kernel_rfl
  rw [show (10000 : Nat) = 9999 + 1 from rfl, run_equalIn_agg w 9999 62 _ _ hS hp]
  simp only [Program.fieldsOf, Tryz.underlying62]
  go_simp
  have e4 : decide (x4 = y4) = decide (x4.toList = y4.toList) := by
    rw [Bool.eq_iff_iff]
    simp only [decide_eq_true_eq]
    exact ⟨fun h => by rw [h], fun h => by
      rw [ByteArray.toList_eq, ByteArray.toList_eq] at h
      cases x4; cases y4
      simp_all⟩
  rw [e4]
  by_cases h0 : x0 = y0 <;> by_cases h1 : x1 = y1 <;> by_cases h2 : x2 = y2 <;> by_cases h3 : x3 = y3 <;> by_cases h5 : x4.toList = y4.toList <;> simp [h0, h1, h2, h3, h5]
theorem dg_eq (x0 x1 x2 x3 y0 y1 y2 y3 : Int) (x4 y4 : ByteArray) (w : World) : (binOp .eql 62 (.agg #[.int .i64 x0, .int .i64 x1, .int .i64 x2, .int .i64 x3, .string x4]) (.agg #[.int .i64 y0, .int .i64 y1, .int .i64 y2, .int .i64 y3, .string y4])).run Tryz.prog w = .ok (.bool (decide ((⟨x0, x1, x2, x3, x4⟩ : Dg) = ⟨y0, y1, y2, y3, y4⟩))) w := by
  rw [run_eql_struct, dg_equal]; rfl
theorem dg_neq (x0 x1 x2 x3 y0 y1 y2 y3 : Int) (x4 y4 : ByteArray) (w : World) : (binOp .neq 62 (.agg #[.int .i64 x0, .int .i64 x1, .int .i64 x2, .int .i64 x3, .string x4]) (.agg #[.int .i64 y0, .int .i64 y1, .int .i64 y2, .int .i64 y3, .string y4])).run Tryz.prog w = .ok (.bool (!decide ((⟨x0, x1, x2, x3, x4⟩ : Dg) = ⟨y0, y1, y2, y3, y4⟩))) w := by
  rw [run_neq_struct, dg_equal]; rfl
/-- 'clear' at a slice of diagnostics -/
theorem clear_dg (w : World) (g o n c : Nat) (hc : ∀ j, j < n * 5 → (w.cell? ⟨g, o + j, none⟩).isSome = true) (hf : ∀ j, w.frozen? ⟨g, j, none⟩ = false) :
    ∃ L : List Value, ∀ ty : TypeId, (Builtin.clear_ #[41] ty #[.slice (some ⟨g, o, none⟩) n c]).run Tryz.prog w = .ok (.tuple #[]) (w.setCells g o L) := by
  cases n with
  | zero => exact ⟨[], fun ty => by simp [Builtin.clear_, run_underlying Tryz.underlying41]; rfl⟩
  | succ m =>
    have hv : ∀ w, (zeroValue 62).run Tryz.prog w = .ok (.agg #[.int .i64 0, .int .i64 0, .int .i64 0, .int .i64 0, .string .empty]) w := Tryz.zeroValue62
    generalize hL : (Builtin.zeroCells (Value.agg #[.int .i64 0, .int .i64 0, .int .i64 0, .int .i64 0, .string .empty]).cells (m + 1)).toList = L
    have hl : L.length = (m + 1) * 5 := by
      rw [← hL]
      simp [Builtin.zeroCells, Value.cells]
    have h1 : ∀ v ∈ L, v.oneCell' = true := by
      rw [← hL]
      intro v hv
      simp [Builtin.zeroCells, Value.cells] at hv
      obtain ⟨a, _, rfl⟩ := hv
      obtain h | h | h | h | h : a % 5 = 0 ∨ a % 5 = 1 ∨ a % 5 = 2 ∨ a % 5 = 3 ∨ a % 5 = 4 := by omega
      all_goals rw [h]; rfl
    have hst := run_storeCells_cells (P := Tryz.prog) g o L 0 w (by rw [hl]; simpa using hc) (fun j _ => hf _) h1
    simp only [Nat.add_zero] at hst
    refine ⟨L, fun ty => ?_⟩
    simp [Builtin.clear_, run_underlying Tryz.underlying41, hv, hL, hst]
theorem Upd.setCells {g : Nat} {w : World} : ∀ (L : List Value) (o : Nat) {w1 : World}, Upd g w w1 → Upd g w (w1.setCells g o L)
  | [], o, w1, h => h
  | v :: r, o, w1, h => by
    unfold World.setCells
    exact Upd.setCells r (o + 1) (h.set o v)
theorem flat_set5 (xs : List Dg) (k : Nat) (d : Dg) (h : k < xs.length) :
    ((((((xs.flatMap Dg.cells).set (k * 5) (.int .i64 d.code)).set (k * 5 + 1) (.int .i64 d.mod)).set (k * 5 + 2) (.int .i64 d.s)).set (k * 5 + 3) (.int .i64 d.e)).set (k * 5 + 4) (.string d.nm)) = (xs.set k d).flatMap Dg.cells := by
  induction xs generalizing k with
  | nil => simp at h
  | cons x r ih =>
    cases k with
    | zero => simp [Dg.cells]
    | succ k =>
      have := ih k (by simpa using h)
      rw [List.set_cons_succ, List.flatMap_cons, List.flatMap_cons, ← this]
      have e : ∀ j v, (x.cells ++ r.flatMap Dg.cells).set ((k + 1) * 5 + j) v = x.cells ++ (r.flatMap Dg.cells).set (k * 5 + j) v := fun j v => by
        rw [List.set_append_right _ _ (by simp [Dg.cells]; omega)]
        congr 2
        simp [Dg.cells]; omega
      have e0 := fun (l : List Value) v => (fun (l : List Value) => (by
        rw [List.set_append_right _ _ (by simp [Dg.cells]; omega)]
        congr 2
        simp [Dg.cells]; omega : (x.cells ++ l).set ((k + 1) * 5) v = x.cells ++ l.set (k * 5) v)) l
      have e' : ∀ (l : List Value) j v, (x.cells ++ l).set ((k + 1) * 5 + j) v = x.cells ++ l.set (k * 5 + j) v := fun l j v => by
        rw [List.set_append_right _ _ (by simp [Dg.cells]; omega)]
        congr 2
        simp [Dg.cells]; omega
      rw [e0, e', e', e', e']
end Go.Proofs.YtepadojclmjllaaGreatDoor

/-
  slices.Compact at diagnostics: the walk.
-/
namespace Go.Proofs.YtepadojclmjllaaGreatDoor
open Go.RowKit
set_option linter.unusedVariables false

/-- what Compact leaves -/
def CptPost (w : World) (g : Nat) (ds : List Dg) (e : Ending) (w' : World) : Prop :=
  ∃ c', e = .returned (.slice (some ⟨g, 0, none⟩) (compactL ds).length c') ∧ FlatAt Dg.cells 5 w' (fun b => b = g) (some ⟨g, 0, none⟩) (compactL ds) ∧ Upd g w w'
theorem compact_short (w : World) (A : Option Addr) (n c : Nat) (hn : n < 2) :
    Calls Tryz.prog 23 #[.slice A n c] w fun e w' => e = .returned (.slice A n c) ∧ w' = w := by
  have h : (n : Int) < 2 := by omega
  go_enter Tryz.func23, Tryz.ntmps23
  go_wp2
  go_ret
  exact ⟨rfl, rfl⟩
theorem dg_cells {w : World} {g n cap : Nat} {ds : List Dg} (row : w.ownsRow 0 62 5 (.slice (some ⟨g, 0, none⟩) n cap) n (ds.flatMap Dg.cells)) (i : Nat) (d : Dg) (h : ds[i]? = some d) :
    w.cell? ⟨g, i * 5, none⟩ = some (.int .i64 d.code) ∧ w.cell? ⟨g, i * 5 + 1, none⟩ = some (.int .i64 d.mod) ∧ w.cell? ⟨g, i * 5 + 2, none⟩ = some (.int .i64 d.s) ∧ w.cell? ⟨g, i * 5 + 3, none⟩ = some (.int .i64 d.e) ∧ w.cell? ⟨g, i * 5 + 4, none⟩ = some (.string d.nm) := by
  have hl : ds.length * 5 = n * 5 := by rw [← flat_length Dg.cells_len]; exact row.1
  have hi : i < ds.length := (List.getElem?_eq_some_iff.1 h).1
  have f := fun j v hv (hj : j < 5) => (row.cellAt (i * 5 + j) (by omega)).trans (flat_at Dg.cells_len ds i d h j v hv)
  exact ⟨f 0 _ rfl (by omega), f 1 _ rfl (by omega), f 2 _ rfl (by omega), f 3 _ rfl (by omega), f 4 _ rfl (by omega)⟩
/-- the inner loop: i0 the first that equals its predecessor, j + 1 looked at behind it, iv places settled -/
structure Cp2 (w : World) (g cap n : Nat) (ds : List Dg) (wr : World) (i0 j iv : Nat) (cur : List Dg) : Prop where
  len : cur.length = n
  done : cur.take iv = compactL (ds.take (i0 + (j + 1)))
  rest : ∀ t, i0 + j ≤ t → cur[t]? = ds[t]?
  le : iv ≤ i0 + j
  row : wr.ownsRow 0 62 5 (.slice (some ⟨g, 0, none⟩) n cap) n (cur.flatMap Dg.cells)
  upd : Upd g w wr
  ivl : iv = (compactL (ds.take (i0 + (j + 1)))).length
theorem Cp2.same {w : World} {g cap n : Nat} {ds : List Dg} {wr : World} {i0 j iv : Nat} {cur : List Dg} (h : Cp2 w g cap n ds wr i0 j iv cur) (he : compactL (ds.take (i0 + j + 1 + 1)) = compactL (ds.take (i0 + j + 1))) : Cp2 w g cap n ds wr.drew i0 (j + 1) iv cur :=
  ⟨h.len, by rw [show i0 + (j + 1 + 1) = i0 + j + 1 + 1 by omega, he]; exact h.done, fun t ht => h.rest t (by omega), by have := h.le; omega, h.row, h.upd.drew, by rw [show i0 + (j + 1 + 1) = i0 + j + 1 + 1 by omega, he]; exact h.ivl⟩
theorem Cp2.put {w : World} {g cap n : Nat} {ds : List Dg} {wr : World} {i0 j iv : Nat} {cur : List Dg} (h : Cp2 w g cap n ds wr i0 j iv cur) (x : Dg) (hiv : iv < n) (he : compactL (ds.take (i0 + j + 1 + 1)) = compactL (ds.take (i0 + j + 1)) ++ [x]) :
    Cp2 w g cap n ds ((((((wr.setCell ⟨g, iv * 5, none⟩ (.int .i64 x.code)).setCell ⟨g, iv * 5 + 1, none⟩ (.int .i64 x.mod)).setCell ⟨g, iv * 5 + 2, none⟩ (.int .i64 x.s)).setCell ⟨g, iv * 5 + 3, none⟩ (.int .i64 x.e)).setCell ⟨g, iv * 5 + 4, none⟩ (.string x.nm)).drew) i0 (j + 1) (iv + 1) (cur.set iv x) := by
  have hl := h.len
  have hd := h.done
  have hv := h.ivl
  obtain ⟨o1, _⟩ := h.row.stored (iv * 5) (.int .i64 x.code)
  obtain ⟨o2, _⟩ := o1.stored (iv * 5 + 1) (.int .i64 x.mod)
  obtain ⟨o3, _⟩ := o2.stored (iv * 5 + 2) (.int .i64 x.s)
  obtain ⟨o4, _⟩ := o3.stored (iv * 5 + 3) (.int .i64 x.e)
  obtain ⟨o5, _⟩ := o4.stored (iv * 5 + 4) (.string x.nm)
  rw [flat_set5 cur iv x (by omega)] at o5
  refine ⟨by rw [List.length_set]; exact hl, ?_, fun t ht => ?_, by have := h.le; omega, o5.drew, ((((((h.upd.set _ _).set _ _).set _ _).set _ _).set _ _).drew), ?_⟩
  · rw [show i0 + (j + 1 + 1) = i0 + j + 1 + 1 by omega, he, ← show i0 + (j + 1) = i0 + j + 1 from rfl, ← hd, List.take_succ_eq_append_getElem (by rw [List.length_set]; omega), List.take_set_of_le (Nat.le_refl _), List.getElem_set_self]
  · rw [List.getElem?_set_ne (by have := h.le; omega)]
    exact h.rest t (by omega)
  · rw [show i0 + (j + 1 + 1) = i0 + j + 1 + 1 by omega, he, List.length_append, ← show i0 + (j + 1) = i0 + j + 1 from rfl, ← hv]; rfl
set_option maxRecDepth 100000 in
set_option maxHeartbeats 3200000 in
theorem compact_any (w : World) (g cap n : Nat) (ds : List Dg) (hn : ds.length = n) (h2 : 2 ≤ n) (hb : n ≤ 1000000) (hrow : w.ownsRow 0 62 5 (.slice (some ⟨g, 0, none⟩) n cap) n (ds.flatMap Dg.cells)) :
    Calls Tryz.prog 23 #[.slice (some ⟨g, 0, none⟩) n cap] w (CptPost w g ds) := by
  have h2I : ¬ (n : Int) < 2 := by omega
  have HN := Lib.hid hn
  have HE := Lib.hid dg_eq
  have HR := Lib.hid hrow
  have hcap : n ≤ cap := by
    rcases hrow.2 with ⟨h, _⟩ | ⟨_, _, _, h, _, _, h3, _⟩
    · cases h
    · injection h with _ _ h; subst h; exact h3
  have hglt := (hrow.lt g rfl).2
  clear hn hrow
  go_enter Tryz.func23, Tryz.ntmps23
  go_wp2_with fail
  go_loopw [3] (fun i wr => ∃ k : Nat, k + 1 ≤ n ∧ i = .int .i64 ((k + 1 : Nat) : Int) ∧ Hid (compactL (ds.take (k + 1)) = ds.take (k + 1)) ∧ Upd g w wr ∧ wr.heap = w.heap) (fun i _ => n - (intOf i).toNat)
  case atStart => exact ⟨0, by omega, rfl, by
    cases ds with
    | nil => have := HN.out; simp at this; omega
    | cons x r => exact Lib.hid rfl, Upd.refl _ _, rfl⟩
  case round =>
    obtain ⟨k, hk, rfl, hi, hup, hhp⟩ := hrel
    have HHP := Lib.hid hhp
    have hglt' : g < wr.heap.size := by rw [hhp]; exact hglt
    have row : wr.ownsRow 0 62 5 (.slice (some ⟨g, 0, none⟩) n cap) n (ds.flatMap Dg.cells) := ownsRow_below HR.out fun _ _ => by rw [hhp]
    have HROW := Lib.hid row
    clear hhp
    by_cases hlt : k + 1 < n
    · have hltI : ((k + 1 : Nat) : Int) < n := by omega
      have hk1 : k + 1 < ds.length := by rw [HN.out]; exact hlt
      have hk0 : k < ds.length := by omega
      have HT := Lib.hid (compactL_take ds (k + 1) (by omega) hk1)
      have hw1 : IntKind.i64.wrap (((k + 1 : Nat) : Int) - 1) = (k : Int) := by rw [IntWalk.i64_in _ (by omega)]; omega
      obtain ⟨c0, c1, c2, c3, c4⟩ := dg_cells row (k + 1) ds[k + 1] (List.getElem?_eq_getElem hk1)
      obtain ⟨d0, d1, d2, d3, d4⟩ := dg_cells row k ds[k] (List.getElem?_eq_getElem hk0)
      simp only [Nat.add_sub_cancel] at HT
      have HT2 := Lib.hid (compactL_take ds (k + 1) (by omega) hk1)
      simp only [Nat.add_sub_cancel] at HT2
      have HTK := Lib.hid (List.take_succ_eq_append_getElem hk1)
      clear HT row
      generalize hx : ds[k + 1] = x at *
      generalize hy : ds[k] = y at *
      have HX := Lib.hid hx
      have HY := Lib.hid hy
      obtain ⟨x0, x1, x2, x3, x4⟩ := x
      obtain ⟨y0, y1, y2, y3, y4⟩ := y
      simp only at c0 c1 c2 c3 c4 d0 d1 d2 d3 d4
      have heq := fun w => dg_eq x0 x1 x2 x3 y0 y1 y2 y3 x4 y4 w
      have hi1 : (k : Int) < n := by omega
      have hk1I : ((k + 1 : Nat) : Int) < (n : Int) := by omega
      clear hx hy
      by_cases hxy : (⟨x0, x1, x2, x3, x4⟩ : Dg) = ⟨y0, y1, y2, y3, y4⟩
      · rw [decide_eq_true hxy] at heq
        have HXY := Lib.hid hxy
        clear hxy
        go_wp2_with fail
        go_region
        go_wp2_with fail
        have hup0 := hup.drew
        have row0 : wr.drew.ownsRow 0 62 5 (.slice (some ⟨g, 0, none⟩) n cap) n (ds.flatMap Dg.cells) := HROW.out
        have hz0 : Cp2 w g cap n ds wr.drew (k + 1) 0 (k + 1) ds := by
          refine ⟨HN.out, ?_, fun t _ => rfl, by omega, row0, hup0, ?_⟩
          · have h1 := HT2.out
            rw [if_pos HXY.out, List.append_nil] at h1
            rw [h1, hi.out]
          · have h1 := HT2.out
            rw [if_pos HXY.out, List.append_nil] at h1
            rw [h1, hi.out, List.length_take]; have := HN.out; omega
        clear hup0 row0 hup heq c0 c1 c2 c3 c4 d0 d1 d2 d3 d4 hglt'
        go_loopw [3, 5] (fun i k2 wr2 => ∃ (j iv : Nat) (cur : List Dg), i = .int .i64 (iv : Int) ∧ k2 = .int .i64 ((j + 1 : Nat) : Int) ∧ j + 1 ≤ n - (k + 1) ∧ Cp2 w g cap n ds wr2 (k + 1) j iv cur) (fun _ k2 _ => n - (intOf k2).toNat)
        case atStart => exact ⟨0, k + 1, ds, rfl, rfl, by omega, hz0⟩
        case round =>
          clear hz0
          obtain ⟨j, iv, cur, rfl, rfl, hj, hC⟩ := hrel
          clear HTK HT2 HXY HX HY hi HROW HHP
          by_cases hlt2 : j + 1 < n - (k + 1)
          · have hlt2I : ((j + 1 : Nat) : Int) < ((n - (k + 1) : Nat) : Int) := by omega
            have hjI : (j : Int) < ((n - (k + 1) : Nat) : Int) := by omega
            have hw2 : IntKind.i64.wrap (((j + 1 : Nat) : Int) - 1) = (j : Int) := by rw [IntWalk.i64_in _ (by omega)]; omega
            have hr1 : k + 1 + (j + 1) < ds.length := by rw [HN.out]; omega
            have hr0 : k + 1 + j < ds.length := by omega
            have hl := hC.len
            have hx1 := (hC.rest (k + 1 + (j + 1)) (by omega)).trans (List.getElem?_eq_getElem hr1)
            have hy1 := (hC.rest (k + 1 + j) (by omega)).trans (List.getElem?_eq_getElem hr0)
            obtain ⟨c0, c1, c2, c3, c4⟩ := dg_cells hC.row _ _ hx1
            obtain ⟨d0, d1, d2, d3, d4⟩ := dg_cells hC.row _ _ hy1
            have HT2 := compactL_take2 ds (k + 1 + j) _ _ (List.getElem?_eq_getElem hr1) (List.getElem?_eq_getElem hr0)
            have HXC := Lib.hid hx1
            generalize hxx : ds[k + 1 + (j + 1)] = x at *
            generalize hyy : ds[k + 1 + j] = y at *
            obtain ⟨p0, p1, p2, p3, p4⟩ := x
            obtain ⟨q0, q1, q2, q3, q4⟩ := y
            simp only at c0 c1 c2 c3 c4 d0 d1 d2 d3 d4
            rw [show (k + 1 + (j + 1)) * 5 = (k + 1) * 5 + (j + 1) * 5 by rw [Nat.add_mul]] at c0 c1 c2 c3 c4
            rw [show (k + 1 + j) * 5 = (k + 1) * 5 + j * 5 by rw [Nat.add_mul]] at d0 d1 d2 d3 d4
            have heq := fun w => dg_neq p0 p1 p2 p3 q0 q1 q2 q3 p4 q4 w
            have hivn : iv < n := by have := hC.le; omega
            have hivI : (iv : Int) < n := by omega
            have hglt2 := (hC.row.lt g rfl).2
            have HC := Lib.hid hC
            have HT3 := Lib.hid HT2
            clear hx1 hy1 hxx hyy HT2 hC
            by_cases hxy : (⟨p0, p1, p2, p3, p4⟩ : Dg) = ⟨q0, q1, q2, q3, q4⟩
            · rw [decide_eq_true hxy] at heq
              have hC2 := HC.out.same (by have h1 := HT3.out; rw [if_pos hxy, List.append_nil] at h1; exact h1)
              clear hxy
              go_wp2_with fail
              go_region
              go_wp2_with fail
              exact ⟨⟨j + 1, iv, cur, rfl, by go_num, by omega, hC2⟩, by simp [intOf]; omega⟩
            · rw [decide_eq_false hxy] at heq
              have HXY := Lib.hid hxy
              clear hxy
              have f := hglt2
              obtain ⟨e0, e1, e2, e3, e4⟩ := dg_cells HC.out.row iv cur[iv] (List.getElem?_eq_getElem (by rw [hl]; exact hivn))
              have hfz := HC.out.row.frozenAt
              have f0 := hfz (iv * 5)
              have f1 := hfz (iv * 5 + 1)
              have f2 := hfz (iv * 5 + 2)
              have f3 := hfz (iv * 5 + 3)
              have f4 := hfz (iv * 5 + 4)
              clear hfz
              go_wp2_with fail
              go_region
              go_wp2_with fail
              have hC2 := HC.out.put ⟨p0, p1, p2, p3, p4⟩ hivn (by have h1 := HT3.out; rw [if_neg HXY.out] at h1; exact h1)
              exact ⟨⟨j + 1, iv + 1, _, by go_num, by go_num, by omega, hC2⟩, by simp [intOf]; omega⟩
          · have hlt2I : ¬ ((j + 1 : Nat) : Int) < ((n - (k + 1) : Nat) : Int) := by omega
            have hl := hC.len
            have hle := hC.le
            have hivc : iv < cap := by omega
            have hivn : iv < n := by omega
            have hjn : k + 1 + (j + 1) = n := by omega
            obtain ⟨L, hL⟩ := clear_dg wr g (iv * 5) (n - iv) (cap - iv) (fun t ht => by rw [hC.row.cellAt _ (by omega), List.getElem?_eq_getElem (by rw [hC.row.1]; omega)]; rfl) hC.row.frozenAt
            have hivI : (iv : Int) < n := by omega
            have hivcI : (iv : Int) < cap := by omega
            have hcne : cap ≠ iv := by omega
            have HC := Lib.hid hC
            clear hC
            have HQ : Hid (CptPost w g ds (.returned (.slice (some ⟨g, 0, none⟩) iv cap)) (wr.setCells g (iv * 5) L)) := by
              have hC := HC.out
              have ht : ds.take (k + 1 + (j + 1)) = ds := by rw [hjn, ← HN.out, List.take_length]
              have hd := hC.done
              have hv := hC.ivl
              rw [ht] at hd hv
              refine ⟨cap, by rw [hv], ?_, hC.upd.setCells L _⟩
              rw [← hd]
              intro _
              refine ⟨g, 0, rfl, rfl, fun i x hx t v hv2 => ?_⟩
              have hi : i < iv := by have := (List.getElem?_eq_some_iff.1 hx).1; rw [List.length_take] at this; omega
              rw [List.getElem?_take_of_lt hi] at hx
              have h5 : t < 5 := by have := (List.getElem?_eq_some_iff.1 hv2).1; rw [Dg.cells_len] at this; exact this
              have ho := World.cell?_setCells_out g L (iv * 5) wr ⟨g, 0 + i * 5 + t, none⟩ (fun _ _ => .inl (by show 0 + i * 5 + t < iv * 5; omega))
              rw [ho, Nat.zero_add, hC.row.cellAt _ (by omega)]
              exact flat_at Dg.cells_len cur i x hx t v hv2
            clear HC
            go_wp2_with fail
            go_ret
            exact HQ.out
      · rw [decide_eq_false hxy] at heq
        have HXY := Lib.hid hxy
        clear hxy
        go_wp2_with fail
        go_region
        go_wp2_with fail
        exact ⟨⟨k + 1, by omega, by go_num, Lib.hid (by rw [HT2.out, HTK.out, hi.out, if_neg HXY.out]), hup.drew, HHP.out⟩, by simp [intOf]; omega⟩
    · have hltI : ¬ ((k + 1 : Nat) : Int) < n := by omega
      have HQ : Hid (CptPost w g ds (.returned (.slice (some ⟨g, 0, none⟩) n cap)) wr) := by
        have hkn : k + 1 = n := by omega
        have ht : ds.take (k + 1) = ds := by rw [hkn, ← HN.out, List.take_length]
        have hi2 := hi.out
        rw [ht] at hi2
        refine ⟨cap, by rw [hi2, HN.out], ?_, hup⟩
        rw [hi2]
        intro _
        refine ⟨g, 0, rfl, rfl, fun i x hx t v hv2 => ?_⟩
        have hil : i < n := by have := (List.getElem?_eq_some_iff.1 hx).1; rw [HN.out] at this; exact this
        have h5 : t < 5 := by have := (List.getElem?_eq_some_iff.1 hv2).1; rw [Dg.cells_len] at this; exact this
        rw [Nat.zero_add, HROW.out.cellAt _ (by omega)]
        exact flat_at Dg.cells_len ds i x hx t v hv2
      clear hup row hi
      go_wp2_with fail
      go_ret
      exact HQ.out
end Go.Proofs.YtepadojclmjllaaGreatDoor
