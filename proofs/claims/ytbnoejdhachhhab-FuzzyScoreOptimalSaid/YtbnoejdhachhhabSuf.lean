/-
  fuzzy.suffixScores: the walk.
-/
import Derived.Test.YtbnoejdhachhhabRnd
namespace Go.Proofs.Ytbnoejdhachhhab
open Go.RowKit Go.Shelf
set_option linter.unusedVariables false
attribute [local go_sem] Oper.semAt_some

theorem info_sl : (Try.prog.info? 22).map (fun i => (i.zero, i.size, i.bytes)) = some (some (.slice none 0 0), 1, 24) := by kernel_rfl
theorem run_make_rows (n : Nat) (hn : n ≤ 1000) (u : World) :
    (Instr.makeSlice 37 (.int .i64 (n : Int)) (.int .i64 (n : Int))).run Try.prog u = .ok (.slice (some ⟨u.heap.size, 0, none⟩) n n) (u.alloc (.cells (madeCells #[.slice none 0 0] (n * 1)) 22)) := by
  obtain ⟨i0, hi, hz0, hz1, hz2⟩ := info_parts info_sl
  have h := run_make (P := Try.prog) u 37 22 i0 _ Try.underlying37 hi hz0 .i64 .i64 (n : Int) (n : Int) (by omega) (Int.le_refl _) (by rw [hz2]; omega) (by omega)
  simp only [Int.toNat_natCast, hz1, Value.cells] at h
  exact h
theorem made_rows (n : Nat) : madeCells #[.slice none 0 0] n = (List.replicate n (.slice none 0 0)).toArray := by
  apply Array.ext'
  apply List.ext_getElem?
  intro i
  by_cases h : i < n
  · simp [madeCells, h, Nat.mod_one]
  · simp [madeCells, h]

/-- in a round: block g holds the row so far, the table's entry i points to it, all else is as it was in W -/
def St (W : World) (T g n i : Nat) (cs : List Value) (row : List Int) (wr : World) : Prop :=
  W.heap.size ≤ g ∧ W.grownBy wr (some T) ∧ wr.heap[g]? = some (.cells (row.map (Value.int .i64)).toArray 3 (0, 0)) ∧
    wr.heap[T]? = some (.cells (cs.set i (.slice (some ⟨g, 0, none⟩) n n)).toArray 22 (0, 0))
/-- what slices.Repeat leaves -/
def RepPost (W : World) (row : List Int) (w' : World) : Prop :=
  w'.heap[W.heap.size + 1]? = some (.cells (row.map (Value.int .i64)).toArray 3 (0, 0)) ∧ W.grownBy w' none
theorem RepPost.cell {W : World} {row : List Int} {w' : World} (h : RepPost W row w') {a : Addr} {v : Value} (hc : W.cell? a = some v) : w'.cell? a = some v := cell_kept hc h.2 (fun r e => by cases e)
theorem RepPost.frozen {W : World} {row : List Int} {w' : World} (h : RepPost W row w') {a : Addr} {v : Value} (hc : W.cell? a = some v) (hf : W.frozen? a = false) : w'.frozen? a = false := (frozen_kept hc h.2 (fun r e => by cases e)).trans hf
theorem St.start {W w1 : World} {T n i : Nat} {cs : List Value} {row : List Int} (h : RepPost W row w1) (ht : W.heap[T]? = some (.cells cs.toArray 22 (0, 0))) (hT : T < W.heap.size) :
    St W T (W.heap.size + 1) n i cs row (w1.setCell ⟨T, i, none⟩ (.slice (some ⟨W.heap.size + 1, 0, none⟩) n n)) := by
  have h2 : w1.heap[T]? = some (.cells cs.toArray 22 (0, 0)) := (h.2.block T hT (by simp)).trans ht
  exact ⟨by omega, grown_trans (grown_any h.2 _) (grown_setCell _ _ _ _), (Below.heap_setCell _ _ _ _ (by simp; omega)).trans h.1, set_block h2 _⟩
theorem St.drew {W wr : World} {T g n i : Nat} {cs : List Value} {row : List Int} (h : St W T g n i cs row wr) : St W T g n i cs row wr.drew := ⟨h.1, grown_trans h.2.1 (grown_drew _ _), h.2.2.1, h.2.2.2⟩
theorem St.store {W wr : World} {T g n i : Nat} {cs : List Value} {row : List Int} (h : St W T g n i cs row wr) (hT : T < W.heap.size) (k : Nat) (x : Int) : St W T g n i cs (row.set k x) (wr.setCell ⟨g, k, none⟩ (.int .i64 x)) :=
  ⟨h.1, grown_new h.2.1 (grown_setCell _ _ _ _) h.1, by rw [List.map_set]; exact set_block h.2.2.1 _, (Below.heap_setCell _ _ _ _ (by have := h.1; simp; omega)).trans h.2.2.2⟩
theorem St.old {W wr : World} {T g n i : Nat} {cs : List Value} {row : List Int} (h : St W T g n i cs row wr) {b : Nat} {o : Obj} (hb : W.heap[b]? = some o) (hne : b ≠ T) : wr.heap[b]? = some o :=
  (h.2.1.block b (lt_of_heap hb) (fun e => hne (by cases e; rfl))).trans hb
theorem St.tab {W wr : World} {T g i : Nat} {cs : List Value} {pat s : ByteArray} {rows : List (List Int)} (h : St W T g s.size i cs (rowOf pat s i (rows.getD (i + 1) [])) wr) (hT : T < W.heap.size) (hl : cs.length = rows.length)
    (ht : ∀ (i : Nat) (v : Value) (xs : List Int), cs[i]? = some v → rows[i]? = some xs → RowV T W v xs) : TabIs T wr (stepT pat s rows i) := by
  refine ⟨_, h.2.2.2, by simp [stepT, hl], ?_⟩
  intro j v xs hv hx
  unfold stepT at hx
  rw [List.getElem?_set] at hv hx
  by_cases hij : i = j
  · subst hij
    rw [if_pos rfl] at hv hx
    by_cases hi : i < cs.length
    · rw [if_pos hi] at hv
      rw [if_pos (by omega)] at hx
      cases hv; cases hx
      exact .inr ⟨g, by rw [rowOf_length], by have := h.1; omega, h.2.2.1⟩
    · rw [if_neg hi] at hv; cases hv
  · rw [if_neg hij] at hv hx
    exact (ht j v xs hv hx).kept h.2.1 (fun r e => by cases e; exact .inl (Nat.le_refl _))
/-- what the loop's body finds: three boxes, the table -/
def Inv (pat s : ByteArray) (N : Nat) (rows : List (List Int)) (W : World) : Prop :=
  N + 5 ≤ W.heap.size ∧ W.heap[N]? = some (.cells #[.string pat] 9 (0, 0)) ∧ W.heap[N + 1]? = some (.cells #[.string s] 9 (0, 0)) ∧
    W.heap[N + 1 + 1 + 1]? = some (.cells #[.slice (some ⟨N + 1 + 1, 0, none⟩) pat.size pat.size] 37 (0, 0)) ∧ TabIs (N + 1 + 1) W rows
theorem Inv.kept {pat s : ByteArray} {N : Nat} {rows : List (List Int)} {W W' : World} {row : Option Nat} (h : Inv pat s N rows W) (hg : W.grownBy W' row) (hr : ∀ r, row = some r → ∃ o : Obj, W.heap[r]? = some o ∧ o.isCells = false) : Inv pat s N rows W' := by
  obtain ⟨h0, h1, h2, h3, h4⟩ := h
  exact ⟨Nat.le_trans h0 hg.size, (grownBy_keeps_cells hg hr h1 rfl).trans h1, (grownBy_keeps_cells hg hr h2 rfl).trans h2, (grownBy_keeps_cells hg hr h3 rfl).trans h3, h4.kept hg hr⟩
/-- the table when the rounds pre are over -/
def rowsAt (pat s : ByteArray) (pre : List (Rnd pat.size)) : List (List Int) := (pre.map fun x => x.1.1).foldl (stepT pat s) (List.replicate pat.size [])
theorem rowsAt_snoc (pat s : ByteArray) (pre : List (Rnd pat.size)) (x : Rnd pat.size) : rowsAt pat s (pre ++ [x]) = stepT pat s (rowsAt pat s pre) x.1.1 := by simp [rowsAt]
theorem fold_facts (pat s : ByteArray) : ∀ (l : List Nat) (T : List (List Int)) (B : Int), 0 ≤ B → tabLe T B → tabLen T s.size →
    (l.foldl (stepT pat s) T).length = T.length ∧ tabLe (l.foldl (stepT pat s) T) (B + 9 * l.length) ∧ tabLen (l.foldl (stepT pat s) T) s.size := by
  intro l
  induction l with
  | nil => intro T B hB h1 h2; exact ⟨rfl, by simpa using h1, h2⟩
  | cons i l ih =>
    intro T B hB h1 h2
    obtain ⟨a1, a2, a3⟩ := ih (stepT pat s T i) (B + 9) (by omega) (stepT_le pat s T i B hB h1) (stepT_len pat s T i h2)
    refine ⟨by rw [List.foldl_cons, a1]; simp [stepT], ?_, a3⟩
    rw [List.length_cons, show B + 9 * ((l.length + 1 : Nat) : Int) = B + 9 + 9 * l.length by omega]
    exact a2
theorem rowsAt_facts (pat s : ByteArray) (pre : List (Rnd pat.size)) : (rowsAt pat s pre).length = pat.size ∧ tabLe (rowsAt pat s pre) (9 * pre.length) ∧ tabLen (rowsAt pat s pre) s.size := by
  have := fold_facts pat s (pre.map fun x => x.1.1) (List.replicate pat.size []) 0 (by omega) (fun xs hx => by rw [(List.mem_replicate.1 hx).2]; simp) (fun xs hx => by rw [(List.mem_replicate.1 hx).2]; simp)
  simpa [rowsAt] using this
theorem heap_old {w : World} {k : Nat} {x : Obj} (o : Obj) (h : w.heap[k]? = some x) : (w.alloc o).heap[k]? = some x := (Below.heap_alloc w o k (lt_of_heap h)).trans h
theorem heap_new {w : World} {k : Nat} (o : Obj) (h : w.heap.size = k) : (w.alloc o).heap[k]? = some o := by subst h; exact World.alloc_heap_new w o

set_option maxRecDepth 100000 in
set_option maxHeartbeats 2000000 in
theorem suf_any (pat s : ByteArray) (w : World) (hp : pat.size ≤ 100) (hs : s.size ≤ 100) :
    Calls Try.prog 14 #[.string pat, .string s] w fun e w' => e = .returned (.slice (some ⟨w.heap.size + 1 + 1, 0, none⟩) pat.size pat.size) ∧ TabIs (w.heap.size + 1 + 1) w' (tab pat s) ∧ Below w.heap.size w w' := by
  have hmk := fun u => run_make_rows pat.size (by omega) u
  refine (callsIn_wide (n := 5)).1 ?_
  refine callsIn_of_wp_marks Try.func14 rfl trivial ?_ rfl
  simp only [Try.ntmps14, List.size_toArray, List.length_cons, List.length_nil, Nat.reduceAdd, Nat.reduceSub, Array.replicate_succ, Array.replicate_zero, List.push_toArray, List.append_toArray, List.nil_append, List.cons_append]
  gi_wp2_with (refine ⟨trivial, ?_⟩; gi_at_call 22; refine (bwd_in _ _ trivial rfl _ _ _ _).mono ?_; rintro e w' ⟨rfl, rfl⟩)
  rw [made_rows]
  obtain ⟨W0, hW0⟩ : ∃ W0, (((((w.alloc (.cells #[.string pat] 9)).alloc (.cells #[.string s] 9)).alloc (.cells (List.replicate pat.size (.slice none 0 0)).toArray 22)).alloc (.cells #[.slice (some ⟨w.heap.size + 1 + 1, 0, none⟩) pat.size pat.size] 37)).alloc (.cells #[.slice (some ⟨w.heap.size + 1 + 1, 0, none⟩) pat.size pat.size] 37)) = W0 := ⟨_, rfl⟩
  have HB0 : Below w.heap.size w W0 := by
    rw [← hW0]
    exact (((((Below.refl _ w).alloc (Nat.le_refl _) _).alloc (by simp) _).alloc (by simp; omega) _).alloc (by simp; omega) _).alloc (by simp; omega) _
  have HI0 : Inv pat s w.heap.size (List.replicate pat.size []) W0 ∧ W0.heap[w.heap.size + 1 + 1 + 1 + 1]? = some (.cells #[.slice (some ⟨w.heap.size + 1 + 1, 0, none⟩) pat.size pat.size] 37 (0, 0)) ∧ W0.heap.size = w.heap.size + 5 := by
    rw [← hW0]
    have h1 := heap_new (w := w) (.cells #[.string pat] 9) rfl
    have h2 := heap_new (w := w.alloc (.cells #[.string pat] 9)) (.cells #[.string s] 9) (World.size_alloc _ _)
    have h3 := heap_new (w := (w.alloc (.cells #[.string pat] 9)).alloc (.cells #[.string s] 9)) (k := w.heap.size + 1 + 1) (.cells (List.replicate pat.size (.slice none 0 0)).toArray 22) (by simp)
    refine ⟨⟨by simp, heap_old _ (heap_old _ (heap_old _ (heap_old _ h1))), heap_old _ (heap_old _ (heap_old _ h2)), heap_old _ (heap_new _ (by simp)), _, heap_old _ (heap_old _ h3), by simp, ?_⟩, heap_new _ (by simp), by simp⟩
    intro i v xs hv hx
    have hi := (List.getElem?_eq_some_iff.1 hv).1
    rw [List.length_replicate] at hi
    rw [List.getElem?_replicate, if_pos hi] at hv hx
    cases hv; cases hx
    exact .inl ⟨rfl, rfl⟩
  rw [hW0]
  clear hW0
  obtain ⟨HI1, HBs, HS0⟩ := HI0
  refine wpIn_rangeFunc_ownG rfl (by omega) (gf := 29) (lb := #[.pointer (some ⟨w.heap.size + 1 + 1 + 1 + 1, 0, none⟩)]) rfl trivial (enters_of Try.func29 (by kernel_rfl) rfl)
    (bwd_stops Fence.wide _ trivial rfl (by omega) (w.heap.size + 1 + 1 + 1 + 1) (w.heap.size + 1 + 1 + 1 + 1 + 1) (w.heap.size + 1 + 1) pat.size pat.size (by omega) (by omega) (by omega) (by omega) W0 (by omega) HBs (by have := HI1.2.2.2.2.table; rwa [List.length_replicate] at this)) kpT_t
    (fun W l o o' hl _ _ _ => kpT_b (w := W0) (by omega) (by omega) W l o o' hl) (Below.refl _ _) (fun _ => rfl)
    (fun pre W => Inv pat s w.heap.size (rowsAt pat s pre) W ∧ Below w.heap.size w W)
    (fun _ _ _ => False)
    (OwnFrom.and (Own.from (fun s A B row hs hg hr => hs.kept hg hr) _) (ownFrom_below (Nat.le_refl _) (by omega)))
    (fun _ _ _ _ _ hs _ _ => hs)
    ⟨HI1, HB0⟩
    (fun x => { tmps := #[.string pat, .string s, .pointer (some ⟨w.heap.size, 0, none⟩), .pointer (some ⟨w.heap.size + 1, 0, none⟩), .slice none 0 0, .pointer (some ⟨w.heap.size + 1 + 1 + 1, 0, none⟩), .int .i64 (x.1.1 : Int), undef, undef, .string pat, .int .i64 pat.size, .slice (some ⟨w.heap.size + 1 + 1, 0, none⟩) pat.size pat.size, .slice (some ⟨w.heap.size + 1 + 1, 0, none⟩) pat.size pat.size, .func (.func 29) #[] #[.pointer (some ⟨w.heap.size + 1 + 1 + 1 + 1, 0, none⟩)], .int .i64 (x.1.1 : Int), x.1.2, undef, undef, undef, undef, undef, undef, undef, undef, undef, undef, undef, undef, undef, undef, undef, undef, undef, undef, undef, undef, undef, undef, undef, undef, undef, undef, undef, undef, undef, undef, undef, undef, undef, undef, undef, undef, undef, undef, undef, undef, undef, undef, undef, undef, undef, undef, undef, undef, undef, undef, undef, undef, undef], defers := [] }) ?assign ?body ?done ?stop
  case assign =>
    intro l x W K hK
    gi_wp2
    exact hK
  case body =>
    rintro l pre ⟨⟨i, v⟩, hi, hv⟩ W ⟨hI, hB⟩ hlen
    dsimp only at hi hv ⊢
    obtain ⟨r1, r2, r3⟩ := rowsAt_facts pat s pre
    obtain ⟨rows, hrows⟩ : ∃ rows, rowsAt pat s pre = rows := ⟨_, rfl⟩
    rw [hrows] at hI r1 r2 r3
    have hIH := Lib.hid hI
    obtain ⟨i0, i1, i2, i3, cs, t1, t2, t3⟩ := hI
    have c0 : W.cell? ⟨w.heap.size, 0, none⟩ = some (.string pat) := by rw [Lib.cell_of_heap i1]; rfl
    have c1 : W.cell? ⟨w.heap.size + 1, 0, none⟩ = some (.string s) := by rw [Lib.cell_of_heap i2]; rfl
    have c3 : W.cell? ⟨w.heap.size + 1 + 1 + 1, 0, none⟩ = some (.slice (some ⟨w.heap.size + 1 + 1, 0, none⟩) pat.size pat.size) := by rw [Lib.cell_of_heap i3]; rfl
    have hTlt := lt_of_heap t1
    have hi3 := lt_of_heap i3
    have hi5 : w.heap.size + 5 ≤ W.heap.size := i0
    have hi2 := lt_of_heap i2
    have hi1 := lt_of_heap i1
    have hmx : Try.prog.follows .mixedOrders = true := by kernel_rfl
    have hiI : (i : Int) < pat.size := by omega
    have hrep : Calls Try.prog 23 #[.slice (some ⟨W.heap.size, 0, none⟩) 1 1, .int .i64 s.size] ((W.alloc (.cells #[.int .i64 (-1)] 3)).drew) fun e w' => e = .returned (.slice (some ⟨W.heap.size + 1, 0, none⟩) s.size s.size) ∧ RepPost W (List.replicate s.size (-1)) w' := by
      refine (rep_any (some ⟨W.heap.size, 0, none⟩) 1 (-1) s.size _ ?_ (by omega)).mono ?_
      · exact fun _ => ⟨_, 0, rfl, by simp, fun k y hk => by
          obtain ⟨h1, h2⟩ := List.getElem?_eq_some_iff.1 hk
          obtain rfl : k = 0 := by simpa using h1
          obtain rfl : -1 = y := h2
          rw [cell_drew_own, Lib.cell_of_heap (show _ = some (Obj.cells #[.int .i64 (-1)] 3 (0, 0)) from World.alloc_heap_new W _)]; rfl⟩
      · rintro e w' ⟨rfl, h1, h2⟩
        have hz : ((W.alloc (.cells #[.int .i64 (-1)] 3)).drew).heap.size = W.heap.size + 1 := by simp
        rw [hz] at h1 h2 ⊢
        exact ⟨rfl, by rw [List.map_replicate]; exact h1, h2.os, h2.tape, h2.output, by have := h2.size; rw [hz] at this; omega, fun k hk _ => (h2.block k (by omega)).trans (Below.heap_alloc W _ k hk)⟩
    have hti : i < cs.length := by omega
    have ct : W.cell? ⟨w.heap.size + 1 + 1, i, none⟩ = some cs[i] := by rw [Lib.cell_of_heap t1]; simp [hti]
    have ft : W.frozen? ⟨w.heap.size + 1 + 1, i, none⟩ = false := Lib.frozen_of_heap t1 i
    have HREP := Lib.hid hrep
    clear hrep t3
    have HT1 := Lib.hid t1
    clear t1 i1 i2 i3
    gi_wp2_with fail
    refine round_held (fun w' => w'.cell? ⟨w.heap.size + 1, 0, none⟩ = some (.string s) ∧ w'.cell? ⟨w.heap.size + 1 + 1 + 1, 0, none⟩ = some (.slice (some ⟨w.heap.size + 1 + 1, 0, none⟩) pat.size pat.size)) (by kernel_rfl) (by kernel_rfl) (lets_then (lets_block lets_post)) ⟨c1, c3⟩ ?_
    intro hS
    refine wpAnyH_take (i := 0) (v := ?v0) (at_zero) (by kernel_rfl) (by kernel_rfl) (by kernel_rfl) (fun _ _ _ h => h) (Or.inl ⟨by rfl, ?y0⟩) (by assumption) ?z0
    case y0 => intro wq hSw; go_simp; try with_reducible rfl
    try simp only [Act.put, List.setIfInBounds_toArray, List.set_cons_zero, List.set_cons_succ]
    refine wpAnyH_take (i := 1) (v := ?v1) (at_succ (at_zero)) (by kernel_rfl) (by kernel_rfl) (by kernel_rfl) (fun _ _ _ h => h) (Or.inl ⟨by rfl, ?y1⟩) (by assumption) ?z1
    case y1 => intro wq hSw; go_simp; try with_reducible rfl
    try simp only [Act.put, List.setIfInBounds_toArray, List.set_cons_zero, List.set_cons_succ]
    refine wpAnyH_take (i := 3) (v := ?v3) (at_succ (at_succ (at_succ (at_zero)))) (by kernel_rfl) (by kernel_rfl) (by kernel_rfl) (fun _ _ _ h => h) (Or.inl ⟨by rfl, ?y3⟩) (by assumption) ?z3
    case y3 => intro wq hSw; go_simp; try with_reducible rfl
    try simp only [Act.put, List.setIfInBounds_toArray, List.set_cons_zero, List.set_cons_succ]
    refine wpAnyH_take (i := 4) (v := ?v4) (at_succ (at_succ (at_succ (at_succ (at_zero))))) (by kernel_rfl) (by kernel_rfl) (by kernel_rfl) (fun _ _ _ h => h) (Or.inl ⟨by rfl, ?y4⟩) (by assumption) ?z4
    case y4 => intro wq hSw; go_simp; try with_reducible rfl
    try simp only [Act.put, List.setIfInBounds_toArray, List.set_cons_zero, List.set_cons_succ]
    refine wpAnyH_ready (rs := [2]) (by kernel_rfl) (by simp) (AllReadyH.cons (at_succ (at_succ (at_zero))) (fun K hK => ?_) AllReadyH.nil)
    go_simp
    refine hK.out _ _ ?s2 (fun hS => ?_)
    case s2 => constructor <;> go_simp
    clear hK K
    try simp only [Act.put, List.setIfInBounds_toArray, List.set_cons_zero, List.set_cons_succ]
    refine wpAnyH_ready (rs := [5]) (by kernel_rfl) (by simp) (AllReadyH.cons (at_succ (at_succ (at_succ (at_succ (at_succ (at_zero)))))) (fun K hK => ?_) AllReadyH.nil)
    go_simp
    refine HREP.out.mono ?_
    rintro e w1 ⟨rfl, hq⟩
    have HQ := Lib.hid hq
    have d1 := hq.cell c1
    have d3 := hq.cell c3
    have dt := hq.cell ct
    have df := hq.frozen ct ft
    clear hq hS
    refine hK.out _ _ ?s5 (fun hS => ?_)
    case s5 => exact ⟨d1, d3⟩
    clear hK K
    try simp only [Act.put, List.setIfInBounds_toArray, List.set_cons_zero, List.set_cons_succ]
    refine wpAnyH_take (i := 6) (v := ?v6) (at_succ (at_succ (at_succ (at_succ (at_succ (at_succ (at_zero))))))) (by kernel_rfl) (by kernel_rfl) (by kernel_rfl) (fun _ _ _ h => h) (Or.inl ⟨by rfl, ?y6⟩) (by assumption) ?z6
    case y6 => intro wq hSw; go_simp; try with_reducible rfl
    try simp only [Act.put, List.setIfInBounds_toArray, List.set_cons_zero, List.set_cons_succ]
    refine wpAnyH_ready (rs := [7]) (by kernel_rfl) (by simp) (AllReadyH.cons (at_succ (at_succ (at_succ (at_succ (at_succ (at_succ (at_succ (at_zero)))))))) (fun K hK => ?_) AllReadyH.nil)
    go_simp
    refine hK.out _ _ ?s7 (fun hS => ?_)
    case s7 => constructor <;> go_simp
    clear hK K
    try simp only [Act.put, List.setIfInBounds_toArray, List.set_cons_zero, List.set_cons_succ]
    refine wpAnyH_done (by kernel_rfl) ?_ _
    have HSt : St W (w.heap.size + 1 + 1) (W.heap.size + 1) s.size i cs (rowTo pat s i (rows.getD (i + 1) []) 0) (w1.setCell ⟨w.heap.size + 1 + 1, i, none⟩ (.slice (some ⟨W.heap.size + 1, 0, none⟩) s.size s.size)) := by
      rw [rowTo_zero]
      exact St.start HQ.out HT1.out (by omega)
    generalize w1.setCell ⟨w.heap.size + 1 + 1, i, none⟩ (.slice (some ⟨W.heap.size + 1, 0, none⟩) s.size s.size) = W1 at *
    obtain ⟨c1', c3'⟩ := hS
    clear d1 d3 dt df HQ ct ft HREP hmk
    obtain ⟨nx, hnx⟩ : ∃ nx, rows.getD (i + 1) [] = nx := ⟨_, rfl⟩
    rw [hnx] at HSt
    have HNX := Lib.hid hnx
    clear hnx
    gi_wp2_with fail
    gi_loopw [25] (fun kv wr => ∃ k : Nat, k ≤ s.size ∧ kv = .int .i64 k ∧ St W (w.heap.size + 1 + 1) (W.heap.size + 1) s.size i cs (rowTo pat s i nx k) wr) (fun kv _ => s.size - (intOf kv).toNat)
    case atStart => exact ⟨0, Nat.zero_le _, rfl, HSt⟩
    case round =>
      obtain ⟨k, hk, rfl, HS⟩ := hrel
      clear c1 c3 c1' c3' c0 HSt hS
      obtain ⟨i0, i1, i2, i3, cs', t1, t2', t3⟩ := hIH.out
      obtain rfl : cs' = cs := by
        have := HT1.out.symm.trans t1
        injection this with this; injection this with this
        simpa using this.symm
      have c0 : wr.cell? ⟨w.heap.size, 0, none⟩ = some (.string pat) := by rw [Lib.cell_of_heap (HS.old i1 (by omega))]; rfl
      have c1 : wr.cell? ⟨w.heap.size + 1, 0, none⟩ = some (.string s) := by rw [Lib.cell_of_heap (HS.old i2 (by omega))]; rfl
      have c3 : wr.cell? ⟨w.heap.size + 1 + 1 + 1, 0, none⟩ = some (.slice (some ⟨w.heap.size + 1 + 1, 0, none⟩) pat.size pat.size) := by rw [Lib.cell_of_heap (HS.old i3 (by omega))]; rfl
      have ci : wr.cell? ⟨w.heap.size + 1 + 1, i, none⟩ = some (.slice (some ⟨W.heap.size + 1, 0, none⟩) s.size s.size) := by rw [Lib.cell_of_heap HS.2.2.2]; simp [hti]
      have hnx := HNX.out
      have hT := hTlt
      by_cases hlt : k < s.size
      · have hkI : (k : Int) < s.size := by omega
        have hrow := rowTo_length pat s i nx k hk
        have hkr : k < (rowTo pat s i nx k).length := by omega
        have cg : wr.cell? ⟨W.heap.size + 1, k, none⟩ = some (.int .i64 (rowTo pat s i nx k)[k]) := by rw [Lib.cell_of_heap HS.2.2.1]; simp [hkr]
        have fg : wr.frozen? ⟨W.heap.size + 1, k, none⟩ = false := Lib.frozen_of_heap HS.2.2.1 k
        generalize (rowTo pat s i nx k)[k] = old at cg
        have hpi : pat.data.toList.getD i 0 = pat[i] := getD_at pat i hi
        have hsk : s.data.toList.getD k 0 = s[k] := getD_at s k hlt
        have hri : tabLe [nx] 900 := by
          intro xs hx y hy
          rw [List.mem_singleton] at hx
          rw [hx] at hy
          by_cases hi2 : i + 1 < rows.length
          · rw [List.getD_eq_getElem?_getD, List.getElem?_eq_getElem hi2] at hnx
            have := r2 nx (hnx ▸ List.getElem_mem hi2) y hy
            omega
          · rw [List.getD_eq_getElem?_getD, List.getElem?_eq_none (by omega)] at hnx
            rw [← hnx] at hy
            simp at hy
        cases hfo : foldB pat[i] s[k]
        · have HK := Lib.hid (rowTo_keep pat s i nx k hlt (by unfold entry; rw [hpi, hsk, if_neg (by simp [hfo])]))
          clear hpi hsk hri hnx hrow hkr t1 t2' t3 i1 i2 i3 r2 r3
          gi_wp2_with fail
          refine round_held (fun w' => w'.cell? ⟨w.heap.size, 0, none⟩ = some (.string pat) ∧ w'.cell? ⟨w.heap.size + 1, 0, none⟩ = some (.string s)) (by kernel_rfl) (by kernel_rfl) (by repeat (first | exact lets_post | refine lets_then ?_ | refine lets_block ?_)) ⟨c0, c1⟩ ?_
          intro hS
          refine wpAnyH_take (i := 0) (v := ?v101) (at_zero) (by kernel_rfl) (by kernel_rfl) (by kernel_rfl) (fun _ _ _ h => h) (Or.inl ⟨by rfl, ?y101⟩) (by assumption) ?z101
          case y101 => intro wq hSw; go_simp; try with_reducible rfl
          try simp only [Act.put, List.setIfInBounds_toArray, List.set_cons_zero, List.set_cons_succ]
          refine wpAnyH_take (i := 1) (v := ?v102) (at_succ (at_zero)) (by kernel_rfl) (by kernel_rfl) (by kernel_rfl) (fun _ _ _ h => h) (Or.inl ⟨by rfl, ?y102⟩) (by assumption) ?z102
          case y102 => intro wq hSw; go_simp; try with_reducible rfl
          try simp only [Act.put, List.setIfInBounds_toArray, List.set_cons_zero, List.set_cons_succ]
          refine wpAnyH_take (i := 2) (v := ?v103) (at_succ (at_succ (at_zero))) (by kernel_rfl) (by kernel_rfl) (by kernel_rfl) (fun _ _ _ h => h) (Or.inl ⟨by rfl, ?y103⟩) (by assumption) ?z103
          case y103 => intro wq hSw; go_simp; try with_reducible rfl
          try simp only [Act.put, List.setIfInBounds_toArray, List.set_cons_zero, List.set_cons_succ]
          refine wpAnyH_take (i := 3) (v := ?v104) (at_succ (at_succ (at_succ (at_zero)))) (by kernel_rfl) (by kernel_rfl) (by kernel_rfl) (fun _ _ _ h => h) (Or.inl ⟨by rfl, ?y104⟩) (by assumption) ?z104
          case y104 => intro wq hSw; go_simp; try with_reducible rfl
          try simp only [Act.put, List.setIfInBounds_toArray, List.set_cons_zero, List.set_cons_succ]
          refine wpAnyH_take (i := 4) (v := ?v105) (at_succ (at_succ (at_succ (at_succ (at_zero))))) (by kernel_rfl) (by kernel_rfl) (by kernel_rfl) (fun _ _ _ h => h) (Or.inl ⟨by rfl, ?y105⟩) (by assumption) ?z105
          case y105 => intro wq hSw; go_simp; try with_reducible rfl
          try simp only [Act.put, List.setIfInBounds_toArray, List.set_cons_zero, List.set_cons_succ]
          refine wpAnyH_take (i := 5) (v := ?v106) (at_succ (at_succ (at_succ (at_succ (at_succ (at_zero)))))) (by kernel_rfl) (by kernel_rfl) (by kernel_rfl) (fun _ _ _ h => h) (Or.inl ⟨by rfl, ?y106⟩) (by assumption) ?z106
          case y106 => intro wq hSw; go_simp; try with_reducible rfl
          try simp only [Act.put, List.setIfInBounds_toArray, List.set_cons_zero, List.set_cons_succ]
          refine wpAnyH_ready (rs := [6]) (by kernel_rfl) (by simp) (AllReadyH.cons (at_succ (at_succ (at_succ (at_succ (at_succ (at_succ (at_zero))))))) (fun K hK => ?_) AllReadyH.nil)
          go_simp
          refine (fold_any pat[i] s[k] _).mono ?_
          rintro e w1 ⟨rfl, rfl⟩
          clear hS
          rw [hfo]
          refine hK.out _ _ ?s107 (fun hS => ?_)
          case s107 => exact ⟨c0, c1⟩
          clear hK K
          try simp only [Act.put, List.setIfInBounds_toArray, List.set_cons_zero, List.set_cons_succ]
          refine wpAnyH_take (i := 7) (v := ?v108) (at_succ (at_succ (at_succ (at_succ (at_succ (at_succ (at_succ (at_zero)))))))) (by kernel_rfl) (by kernel_rfl) (by kernel_rfl) (fun _ _ _ h => h) (Or.inl ⟨by rfl, ?y108⟩) (by assumption) ?z108
          case y108 => intro wq hSw; go_simp; try with_reducible rfl
          try simp only [Act.put, List.setIfInBounds_toArray, List.set_cons_zero, List.set_cons_succ]
          refine wpAnyH_done (by kernel_rfl) ?_ _
          gi_wp2_with fail
          go_roundw
          case rel => exact ⟨k + 1, by omega, by go_num, by rw [HK.out]; first | exact HS.drew | exact HS.drew.drew⟩
          case measure => simp [intOf]; omega
        · have hpts := pts_le pat[i] s k
          obtain ⟨pn, hpn⟩ : ∃ pn, ptsN pat[i] s k = pn := ⟨_, rfl⟩
          rw [hpn] at hpts
          by_cases hla : i + 1 < pat.size
          · have hlaI : (i : Int) + 1 < pat.size := by omega
            obtain ⟨r, hr⟩ : ∃ r, (bestL nx k).1 = r := ⟨_, rfl⟩
            obtain ⟨r2nd, hr2⟩ : ∃ r2nd, (bestL nx k).2 = r2nd := ⟨_, rfl⟩
            have hrb := bestL_le nx k 900 (by omega) (hri nx (by simp))
            rw [hr] at hrb
            have hres : rest s (decide (pat.size ≤ i + 1)) nx k = r := by unfold rest; rw [decide_eq_false (by omega)]; exact hr
            have hi1 : i + 1 < rows.length := by omega
            have hi1c : i + 1 < cs'.length := by omega
            have hnx2 : rows[i + 1]? = some nx := by rw [List.getD_eq_getElem?_getD, List.getElem?_eq_getElem hi1] at hnx; rw [List.getElem?_eq_getElem hi1]; exact congrArg some hnx
            have hrv := (t3 (i + 1) cs'[i + 1] nx (List.getElem?_eq_getElem hi1c) hnx2).kept HS.2.1 (fun r e => by cases e; exact .inl (Nat.le_refl _))
            obtain ⟨A, hA, hin⟩ := hrv.ints
            have cn : wr.cell? ⟨w.heap.size + 1 + 1, i + 1, none⟩ = some (.slice A nx.length nx.length) := by
              rw [Lib.cell_of_heap HS.2.2.2, ← hA]
              simp [hi1c]
            have hnl : nx.length ≤ 1000 := by
              have := r3 nx (List.mem_of_getElem? hnx2)
              omega
            have hbest := Lib.hid (best_any A nx.length nx k wr.drew hin hnl (by omega) (by omega) (fun y hy => by have := hri nx (by simp) y hy; omega))
            by_cases hr1 : r = -1
            · have hrn : ((r : Int) != -1) = false := by simp [hr1]
              have HK := Lib.hid (rowTo_keep pat s i nx k hlt (by unfold entry; rw [hres, if_neg (fun q => q.2 hr1)]))
              have HR1 := Lib.hid hr1
              clear hpi hsk hri hnx hrow hkr t1 t2' t3 i1 i2 i3 r2 r3 hA hin hrv hnx2 hres hr1
              gi_wp2_with fail
              refine round_held (fun w' => w'.cell? ⟨w.heap.size, 0, none⟩ = some (.string pat) ∧ w'.cell? ⟨w.heap.size + 1, 0, none⟩ = some (.string s)) (by kernel_rfl) (by kernel_rfl) (by repeat (first | exact lets_post | refine lets_then ?_ | refine lets_block ?_)) ⟨c0, c1⟩ ?_
              intro hS
              refine wpAnyH_take (i := 0) (v := ?v109) (at_zero) (by kernel_rfl) (by kernel_rfl) (by kernel_rfl) (fun _ _ _ h => h) (Or.inl ⟨by rfl, ?y109⟩) (by assumption) ?z109
              case y109 => intro wq hSw; go_simp; try with_reducible rfl
              try simp only [Act.put, List.setIfInBounds_toArray, List.set_cons_zero, List.set_cons_succ]
              refine wpAnyH_take (i := 1) (v := ?v110) (at_succ (at_zero)) (by kernel_rfl) (by kernel_rfl) (by kernel_rfl) (fun _ _ _ h => h) (Or.inl ⟨by rfl, ?y110⟩) (by assumption) ?z110
              case y110 => intro wq hSw; go_simp; try with_reducible rfl
              try simp only [Act.put, List.setIfInBounds_toArray, List.set_cons_zero, List.set_cons_succ]
              refine wpAnyH_take (i := 2) (v := ?v111) (at_succ (at_succ (at_zero))) (by kernel_rfl) (by kernel_rfl) (by kernel_rfl) (fun _ _ _ h => h) (Or.inl ⟨by rfl, ?y111⟩) (by assumption) ?z111
              case y111 => intro wq hSw; go_simp; try with_reducible rfl
              try simp only [Act.put, List.setIfInBounds_toArray, List.set_cons_zero, List.set_cons_succ]
              refine wpAnyH_take (i := 3) (v := ?v112) (at_succ (at_succ (at_succ (at_zero)))) (by kernel_rfl) (by kernel_rfl) (by kernel_rfl) (fun _ _ _ h => h) (Or.inl ⟨by rfl, ?y112⟩) (by assumption) ?z112
              case y112 => intro wq hSw; go_simp; try with_reducible rfl
              try simp only [Act.put, List.setIfInBounds_toArray, List.set_cons_zero, List.set_cons_succ]
              refine wpAnyH_take (i := 4) (v := ?v113) (at_succ (at_succ (at_succ (at_succ (at_zero))))) (by kernel_rfl) (by kernel_rfl) (by kernel_rfl) (fun _ _ _ h => h) (Or.inl ⟨by rfl, ?y113⟩) (by assumption) ?z113
              case y113 => intro wq hSw; go_simp; try with_reducible rfl
              try simp only [Act.put, List.setIfInBounds_toArray, List.set_cons_zero, List.set_cons_succ]
              refine wpAnyH_take (i := 5) (v := ?v114) (at_succ (at_succ (at_succ (at_succ (at_succ (at_zero)))))) (by kernel_rfl) (by kernel_rfl) (by kernel_rfl) (fun _ _ _ h => h) (Or.inl ⟨by rfl, ?y114⟩) (by assumption) ?z114
              case y114 => intro wq hSw; go_simp; try with_reducible rfl
              try simp only [Act.put, List.setIfInBounds_toArray, List.set_cons_zero, List.set_cons_succ]
              refine wpAnyH_ready (rs := [6]) (by kernel_rfl) (by simp) (AllReadyH.cons (at_succ (at_succ (at_succ (at_succ (at_succ (at_succ (at_zero))))))) (fun K hK => ?_) AllReadyH.nil)
              go_simp
              refine (fold_any pat[i] s[k] _).mono ?_
              rintro e w1 ⟨rfl, rfl⟩
              clear hS
              rw [hfo]
              refine hK.out _ _ ?s115 (fun hS => ?_)
              case s115 => exact ⟨c0, c1⟩
              clear hK K
              try simp only [Act.put, List.setIfInBounds_toArray, List.set_cons_zero, List.set_cons_succ]
              refine wpAnyH_take (i := 7) (v := ?v116) (at_succ (at_succ (at_succ (at_succ (at_succ (at_succ (at_succ (at_zero)))))))) (by kernel_rfl) (by kernel_rfl) (by kernel_rfl) (fun _ _ _ h => h) (Or.inl ⟨by rfl, ?y116⟩) (by assumption) ?z116
              case y116 => intro wq hSw; go_simp; try with_reducible rfl
              try simp only [Act.put, List.setIfInBounds_toArray, List.set_cons_zero, List.set_cons_succ]
              refine wpAnyH_done (by kernel_rfl) ?_ _
              gi_wp2_with fail
              refine ⟨trivial, ?_⟩
              gi_at_call 15
              refine (CallsIn.inRound l (callsIn_wide.2 hbest.out)).mono ?_
              rintro e w1 ⟨rfl, rfl⟩
              rw [hr, hr2]
              gi_wp2_with fail
              go_roundw
              case rel => exact ⟨k + 1, by omega, by go_num, by rw [HK.out]; first | exact HS.drew | exact HS.drew.drew⟩
              case measure => simp [intOf]; omega
            · have hrn : ((r : Int) != -1) = true := by simp [hr1]
              have hsum : IntKind.i64.wrap (pn + r) = pn + r := by rw [IntWalk.i64_in _ (by omega)]
              have HK := Lib.hid (show rowTo pat s i nx (k + 1) = (rowTo pat s i nx k).set k (pn + r) by rw [rowTo_succ pat s i nx k hlt]; unfold entry; rw [hres, hpi, hsk, if_pos ⟨hfo, hr1⟩, hpn])
              have HR1 := Lib.hid hr1
              clear hpi hsk hri hnx hrow hkr t1 t2' t3 i1 i2 i3 r2 r3 hA hin hrv hnx2 hres hr1
              gi_wp2_with fail
              refine round_held (fun w' => w'.cell? ⟨w.heap.size, 0, none⟩ = some (.string pat) ∧ w'.cell? ⟨w.heap.size + 1, 0, none⟩ = some (.string s)) (by kernel_rfl) (by kernel_rfl) (by repeat (first | exact lets_post | refine lets_then ?_ | refine lets_block ?_)) ⟨c0, c1⟩ ?_
              intro hS
              refine wpAnyH_take (i := 0) (v := ?v117) (at_zero) (by kernel_rfl) (by kernel_rfl) (by kernel_rfl) (fun _ _ _ h => h) (Or.inl ⟨by rfl, ?y117⟩) (by assumption) ?z117
              case y117 => intro wq hSw; go_simp; try with_reducible rfl
              try simp only [Act.put, List.setIfInBounds_toArray, List.set_cons_zero, List.set_cons_succ]
              refine wpAnyH_take (i := 1) (v := ?v118) (at_succ (at_zero)) (by kernel_rfl) (by kernel_rfl) (by kernel_rfl) (fun _ _ _ h => h) (Or.inl ⟨by rfl, ?y118⟩) (by assumption) ?z118
              case y118 => intro wq hSw; go_simp; try with_reducible rfl
              try simp only [Act.put, List.setIfInBounds_toArray, List.set_cons_zero, List.set_cons_succ]
              refine wpAnyH_take (i := 2) (v := ?v119) (at_succ (at_succ (at_zero))) (by kernel_rfl) (by kernel_rfl) (by kernel_rfl) (fun _ _ _ h => h) (Or.inl ⟨by rfl, ?y119⟩) (by assumption) ?z119
              case y119 => intro wq hSw; go_simp; try with_reducible rfl
              try simp only [Act.put, List.setIfInBounds_toArray, List.set_cons_zero, List.set_cons_succ]
              refine wpAnyH_take (i := 3) (v := ?v120) (at_succ (at_succ (at_succ (at_zero)))) (by kernel_rfl) (by kernel_rfl) (by kernel_rfl) (fun _ _ _ h => h) (Or.inl ⟨by rfl, ?y120⟩) (by assumption) ?z120
              case y120 => intro wq hSw; go_simp; try with_reducible rfl
              try simp only [Act.put, List.setIfInBounds_toArray, List.set_cons_zero, List.set_cons_succ]
              refine wpAnyH_take (i := 4) (v := ?v121) (at_succ (at_succ (at_succ (at_succ (at_zero))))) (by kernel_rfl) (by kernel_rfl) (by kernel_rfl) (fun _ _ _ h => h) (Or.inl ⟨by rfl, ?y121⟩) (by assumption) ?z121
              case y121 => intro wq hSw; go_simp; try with_reducible rfl
              try simp only [Act.put, List.setIfInBounds_toArray, List.set_cons_zero, List.set_cons_succ]
              refine wpAnyH_take (i := 5) (v := ?v122) (at_succ (at_succ (at_succ (at_succ (at_succ (at_zero)))))) (by kernel_rfl) (by kernel_rfl) (by kernel_rfl) (fun _ _ _ h => h) (Or.inl ⟨by rfl, ?y122⟩) (by assumption) ?z122
              case y122 => intro wq hSw; go_simp; try with_reducible rfl
              try simp only [Act.put, List.setIfInBounds_toArray, List.set_cons_zero, List.set_cons_succ]
              refine wpAnyH_ready (rs := [6]) (by kernel_rfl) (by simp) (AllReadyH.cons (at_succ (at_succ (at_succ (at_succ (at_succ (at_succ (at_zero))))))) (fun K hK => ?_) AllReadyH.nil)
              go_simp
              refine (fold_any pat[i] s[k] _).mono ?_
              rintro e w1 ⟨rfl, rfl⟩
              clear hS
              rw [hfo]
              refine hK.out _ _ ?s123 (fun hS => ?_)
              case s123 => exact ⟨c0, c1⟩
              clear hK K
              try simp only [Act.put, List.setIfInBounds_toArray, List.set_cons_zero, List.set_cons_succ]
              refine wpAnyH_take (i := 7) (v := ?v124) (at_succ (at_succ (at_succ (at_succ (at_succ (at_succ (at_succ (at_zero)))))))) (by kernel_rfl) (by kernel_rfl) (by kernel_rfl) (fun _ _ _ h => h) (Or.inl ⟨by rfl, ?y124⟩) (by assumption) ?z124
              case y124 => intro wq hSw; go_simp; try with_reducible rfl
              try simp only [Act.put, List.setIfInBounds_toArray, List.set_cons_zero, List.set_cons_succ]
              refine wpAnyH_done (by kernel_rfl) ?_ _
              gi_wp2_with fail
              refine ⟨trivial, ?_⟩
              gi_at_call 15
              refine (CallsIn.inRound l (callsIn_wide.2 hbest.out)).mono ?_
              rintro e w1 ⟨rfl, rfl⟩
              rw [hr, hr2]
              gi_wp2_with fail
              refine round_held (fun w' => w'.cell? ⟨w.heap.size, 0, none⟩ = some (.string pat) ∧ w'.cell? ⟨w.heap.size + 1, 0, none⟩ = some (.string s) ∧ w'.cell? ⟨w.heap.size + 1 + 1 + 1, 0, none⟩ = some (.slice (some ⟨w.heap.size + 1 + 1, 0, none⟩) pat.size pat.size) ∧ w'.cell? ⟨w.heap.size + 1 + 1, i, none⟩ = some (.slice (some ⟨W.heap.size + 1, 0, none⟩) s.size s.size)) (by kernel_rfl) (by kernel_rfl) (by repeat (first | exact lets_post | refine lets_then ?_ | refine lets_block ?_)) ⟨c0, c1, c3, ci⟩ ?_
              intro hS
              refine wpAnyH_take (i := 0) (v := ?v125) (at_zero) (by kernel_rfl) (by kernel_rfl) (by kernel_rfl) (fun _ _ _ h => h) (Or.inl ⟨by rfl, ?y125⟩) (by assumption) ?z125
              case y125 => intro wq hSw; go_simp; try with_reducible rfl
              try simp only [Act.put, List.setIfInBounds_toArray, List.set_cons_zero, List.set_cons_succ]
              refine wpAnyH_take (i := 1) (v := ?v126) (at_succ (at_zero)) (by kernel_rfl) (by kernel_rfl) (by kernel_rfl) (fun _ _ _ h => h) (Or.inl ⟨by rfl, ?y126⟩) (by assumption) ?z126
              case y126 => intro wq hSw; go_simp; try with_reducible rfl
              try simp only [Act.put, List.setIfInBounds_toArray, List.set_cons_zero, List.set_cons_succ]
              refine wpAnyH_take (i := 2) (v := ?v127) (at_succ (at_succ (at_zero))) (by kernel_rfl) (by kernel_rfl) (by kernel_rfl) (fun _ _ _ h => h) (Or.inl ⟨by rfl, ?y127⟩) (by assumption) ?z127
              case y127 => intro wq hSw; go_simp; try with_reducible rfl
              try simp only [Act.put, List.setIfInBounds_toArray, List.set_cons_zero, List.set_cons_succ]
              refine wpAnyH_take (i := 3) (v := ?v128) (at_succ (at_succ (at_succ (at_zero)))) (by kernel_rfl) (by kernel_rfl) (by kernel_rfl) (fun _ _ _ h => h) (Or.inl ⟨by rfl, ?y128⟩) (by assumption) ?z128
              case y128 => intro wq hSw; go_simp; try with_reducible rfl
              try simp only [Act.put, List.setIfInBounds_toArray, List.set_cons_zero, List.set_cons_succ]
              refine wpAnyH_take (i := 4) (v := ?v129) (at_succ (at_succ (at_succ (at_succ (at_zero))))) (by kernel_rfl) (by kernel_rfl) (by kernel_rfl) (fun _ _ _ h => h) (Or.inl ⟨by rfl, ?y129⟩) (by assumption) ?z129
              case y129 => intro wq hSw; go_simp; try with_reducible rfl
              try simp only [Act.put, List.setIfInBounds_toArray, List.set_cons_zero, List.set_cons_succ]
              refine wpAnyH_take (i := 5) (v := ?v130) (at_succ (at_succ (at_succ (at_succ (at_succ (at_zero)))))) (by kernel_rfl) (by kernel_rfl) (by kernel_rfl) (fun _ _ _ h => h) (Or.inl ⟨by rfl, ?y130⟩) (by assumption) ?z130
              case y130 => intro wq hSw; go_simp; try with_reducible rfl
              try simp only [Act.put, List.setIfInBounds_toArray, List.set_cons_zero, List.set_cons_succ]
              refine wpAnyH_take (i := 6) (v := ?v131) (at_succ (at_succ (at_succ (at_succ (at_succ (at_succ (at_zero))))))) (by kernel_rfl) (by kernel_rfl) (by kernel_rfl) (fun _ _ _ h => h) (Or.inl ⟨by rfl, ?y131⟩) (by assumption) ?z131
              case y131 => intro wq hSw; go_simp; try with_reducible rfl
              try simp only [Act.put, List.setIfInBounds_toArray, List.set_cons_zero, List.set_cons_succ]
              refine wpAnyH_take (i := 7) (v := ?v132) (at_succ (at_succ (at_succ (at_succ (at_succ (at_succ (at_succ (at_zero)))))))) (by kernel_rfl) (by kernel_rfl) (by kernel_rfl) (fun _ _ _ h => h) (Or.inl ⟨by rfl, ?y132⟩) (by assumption) ?z132
              case y132 => intro wq hSw; go_simp; try with_reducible rfl
              try simp only [Act.put, List.setIfInBounds_toArray, List.set_cons_zero, List.set_cons_succ]
              refine wpAnyH_take (i := 8) (v := ?v133) (at_succ (at_succ (at_succ (at_succ (at_succ (at_succ (at_succ (at_succ (at_zero))))))))) (by kernel_rfl) (by kernel_rfl) (by kernel_rfl) (fun _ _ _ h => h) (Or.inl ⟨by rfl, ?y133⟩) (by assumption) ?z133
              case y133 => intro wq hSw; go_simp; try with_reducible rfl
              try simp only [Act.put, List.setIfInBounds_toArray, List.set_cons_zero, List.set_cons_succ]
              refine wpAnyH_take (i := 9) (v := ?v134) (at_succ (at_succ (at_succ (at_succ (at_succ (at_succ (at_succ (at_succ (at_succ (at_zero)))))))))) (by kernel_rfl) (by kernel_rfl) (by kernel_rfl) (fun _ _ _ h => h) (Or.inl ⟨by rfl, ?y134⟩) (by assumption) ?z134
              case y134 => intro wq hSw; go_simp; try with_reducible rfl
              try simp only [Act.put, List.setIfInBounds_toArray, List.set_cons_zero, List.set_cons_succ]
              refine wpAnyH_take (i := 11) (v := ?v135) (at_succ (at_succ (at_succ (at_succ (at_succ (at_succ (at_succ (at_succ (at_succ (at_succ (at_succ (at_zero)))))))))))) (by kernel_rfl) (by kernel_rfl) (by kernel_rfl) (fun _ _ _ h => h) (Or.inl ⟨by rfl, ?y135⟩) (by assumption) ?z135
              case y135 => intro wq hSw; go_simp; try with_reducible rfl
              try simp only [Act.put, List.setIfInBounds_toArray, List.set_cons_zero, List.set_cons_succ]
              refine wpAnyH_ready (rs := [10]) (by kernel_rfl) (by simp) (AllReadyH.cons (at_succ (at_succ (at_succ (at_succ (at_succ (at_succ (at_succ (at_succ (at_succ (at_succ (at_zero))))))))))) (fun K hK => ?_) AllReadyH.nil)
              go_simp
              refine (points_any pat[i] s k hlt (by unfold maxLen; omega) _).mono ?_
              rintro e w1 ⟨rfl, rfl⟩
              clear hS
              rw [hpn]
              refine hK.out _ _ ?s136 (fun hS => ?_)
              case s136 => exact ⟨c0, c1, c3, ci⟩
              clear hK K
              try simp only [Act.put, List.setIfInBounds_toArray, List.set_cons_zero, List.set_cons_succ]
              refine wpAnyH_take (i := 12) (v := ?v137) (at_succ (at_succ (at_succ (at_succ (at_succ (at_succ (at_succ (at_succ (at_succ (at_succ (at_succ (at_succ (at_zero))))))))))))) (by kernel_rfl) (by kernel_rfl) (by kernel_rfl) (fun _ _ _ h => h) (Or.inl ⟨by rfl, ?y137⟩) (by assumption) ?z137
              case y137 => intro wq hSw; go_simp; try with_reducible rfl
              try simp only [Act.put, List.setIfInBounds_toArray, List.set_cons_zero, List.set_cons_succ]
              refine wpAnyH_take (i := 13) (v := ?v138) (at_succ (at_succ (at_succ (at_succ (at_succ (at_succ (at_succ (at_succ (at_succ (at_succ (at_succ (at_succ (at_succ (at_zero)))))))))))))) (by kernel_rfl) (by kernel_rfl) (by kernel_rfl) (fun _ _ _ h => h) (Or.inl ⟨by rfl, ?y138⟩) (by assumption) ?z138
              case y138 => intro wq hSw; go_simp; try with_reducible rfl
              try simp only [Act.put, List.setIfInBounds_toArray, List.set_cons_zero, List.set_cons_succ]
              refine wpAnyH_ready (rs := [14]) (by kernel_rfl) (by simp) (AllReadyH.cons (at_succ (at_succ (at_succ (at_succ (at_succ (at_succ (at_succ (at_succ (at_succ (at_succ (at_succ (at_succ (at_succ (at_succ (at_zero))))))))))))))) (fun K hK => ?_) AllReadyH.nil)
              go_simp
              refine hK.out _ _ ?s139 (fun hS => ?_)
              case s139 => refine ⟨?_, ?_, ?_, ?_⟩ <;> go_simp
              clear hK K
              try simp only [Act.put, List.setIfInBounds_toArray, List.set_cons_zero, List.set_cons_succ]
              refine wpAnyH_done (by kernel_rfl) ?_ _
              gi_wp2_with fail
              go_roundw
              case rel => exact ⟨k + 1, by omega, by go_num, by rw [HK.out]; first | exact (HS.store hT k _).drew.drew | exact (HS.drew.drew.store hT k _)⟩
              case measure => simp [intOf]; omega
          · have hlaI : (pat.size : Int) ≤ (i : Int) + 1 := by omega
            have hres : rest s (decide (pat.size ≤ i + 1)) nx k = 0 := by unfold rest; rw [decide_eq_true (by omega)]; rfl
            have hsum : IntKind.i64.wrap (pn + 0) = pn + 0 := by rw [IntWalk.i64_in _ (by omega)]
            have hsum2 : IntKind.i64.wrap pn = pn := by rw [IntWalk.i64_in _ (by omega)]
            have HK := Lib.hid (show rowTo pat s i nx (k + 1) = (rowTo pat s i nx k).set k pn by rw [rowTo_succ pat s i nx k hlt]; unfold entry; rw [hres, hpi, hsk, if_pos ⟨hfo, by decide⟩, hpn, Int.add_zero])
            clear hpi hsk hri hnx hrow hkr t1 t2' t3 i1 i2 i3 r2 r3 hres
            gi_wp2_with fail
            refine round_held (fun w' => w'.cell? ⟨w.heap.size, 0, none⟩ = some (.string pat) ∧ w'.cell? ⟨w.heap.size + 1, 0, none⟩ = some (.string s)) (by kernel_rfl) (by kernel_rfl) (by repeat (first | exact lets_post | refine lets_then ?_ | refine lets_block ?_)) ⟨c0, c1⟩ ?_
            intro hS
            refine wpAnyH_take (i := 0) (v := ?v140) (at_zero) (by kernel_rfl) (by kernel_rfl) (by kernel_rfl) (fun _ _ _ h => h) (Or.inl ⟨by rfl, ?y140⟩) (by assumption) ?z140
            case y140 => intro wq hSw; go_simp; try with_reducible rfl
            try simp only [Act.put, List.setIfInBounds_toArray, List.set_cons_zero, List.set_cons_succ]
            refine wpAnyH_take (i := 1) (v := ?v141) (at_succ (at_zero)) (by kernel_rfl) (by kernel_rfl) (by kernel_rfl) (fun _ _ _ h => h) (Or.inl ⟨by rfl, ?y141⟩) (by assumption) ?z141
            case y141 => intro wq hSw; go_simp; try with_reducible rfl
            try simp only [Act.put, List.setIfInBounds_toArray, List.set_cons_zero, List.set_cons_succ]
            refine wpAnyH_take (i := 2) (v := ?v142) (at_succ (at_succ (at_zero))) (by kernel_rfl) (by kernel_rfl) (by kernel_rfl) (fun _ _ _ h => h) (Or.inl ⟨by rfl, ?y142⟩) (by assumption) ?z142
            case y142 => intro wq hSw; go_simp; try with_reducible rfl
            try simp only [Act.put, List.setIfInBounds_toArray, List.set_cons_zero, List.set_cons_succ]
            refine wpAnyH_take (i := 3) (v := ?v143) (at_succ (at_succ (at_succ (at_zero)))) (by kernel_rfl) (by kernel_rfl) (by kernel_rfl) (fun _ _ _ h => h) (Or.inl ⟨by rfl, ?y143⟩) (by assumption) ?z143
            case y143 => intro wq hSw; go_simp; try with_reducible rfl
            try simp only [Act.put, List.setIfInBounds_toArray, List.set_cons_zero, List.set_cons_succ]
            refine wpAnyH_take (i := 4) (v := ?v144) (at_succ (at_succ (at_succ (at_succ (at_zero))))) (by kernel_rfl) (by kernel_rfl) (by kernel_rfl) (fun _ _ _ h => h) (Or.inl ⟨by rfl, ?y144⟩) (by assumption) ?z144
            case y144 => intro wq hSw; go_simp; try with_reducible rfl
            try simp only [Act.put, List.setIfInBounds_toArray, List.set_cons_zero, List.set_cons_succ]
            refine wpAnyH_take (i := 5) (v := ?v145) (at_succ (at_succ (at_succ (at_succ (at_succ (at_zero)))))) (by kernel_rfl) (by kernel_rfl) (by kernel_rfl) (fun _ _ _ h => h) (Or.inl ⟨by rfl, ?y145⟩) (by assumption) ?z145
            case y145 => intro wq hSw; go_simp; try with_reducible rfl
            try simp only [Act.put, List.setIfInBounds_toArray, List.set_cons_zero, List.set_cons_succ]
            refine wpAnyH_ready (rs := [6]) (by kernel_rfl) (by simp) (AllReadyH.cons (at_succ (at_succ (at_succ (at_succ (at_succ (at_succ (at_zero))))))) (fun K hK => ?_) AllReadyH.nil)
            go_simp
            refine (fold_any pat[i] s[k] _).mono ?_
            rintro e w1 ⟨rfl, rfl⟩
            clear hS
            rw [hfo]
            refine hK.out _ _ ?s146 (fun hS => ?_)
            case s146 => exact ⟨c0, c1⟩
            clear hK K
            try simp only [Act.put, List.setIfInBounds_toArray, List.set_cons_zero, List.set_cons_succ]
            refine wpAnyH_take (i := 7) (v := ?v147) (at_succ (at_succ (at_succ (at_succ (at_succ (at_succ (at_succ (at_zero)))))))) (by kernel_rfl) (by kernel_rfl) (by kernel_rfl) (fun _ _ _ h => h) (Or.inl ⟨by rfl, ?y147⟩) (by assumption) ?z147
            case y147 => intro wq hSw; go_simp; try with_reducible rfl
            try simp only [Act.put, List.setIfInBounds_toArray, List.set_cons_zero, List.set_cons_succ]
            refine wpAnyH_done (by kernel_rfl) ?_ _
            gi_wp2_with fail
            refine round_held (fun w' => w'.cell? ⟨w.heap.size, 0, none⟩ = some (.string pat) ∧ w'.cell? ⟨w.heap.size + 1, 0, none⟩ = some (.string s) ∧ w'.cell? ⟨w.heap.size + 1 + 1 + 1, 0, none⟩ = some (.slice (some ⟨w.heap.size + 1 + 1, 0, none⟩) pat.size pat.size) ∧ w'.cell? ⟨w.heap.size + 1 + 1, i, none⟩ = some (.slice (some ⟨W.heap.size + 1, 0, none⟩) s.size s.size)) (by kernel_rfl) (by kernel_rfl) (by repeat (first | exact lets_post | refine lets_then ?_ | refine lets_block ?_)) ⟨c0, c1, c3, ci⟩ ?_
            intro hS
            refine wpAnyH_take (i := 0) (v := ?v148) (at_zero) (by kernel_rfl) (by kernel_rfl) (by kernel_rfl) (fun _ _ _ h => h) (Or.inl ⟨by rfl, ?y148⟩) (by assumption) ?z148
            case y148 => intro wq hSw; go_simp; try with_reducible rfl
            try simp only [Act.put, List.setIfInBounds_toArray, List.set_cons_zero, List.set_cons_succ]
            refine wpAnyH_take (i := 1) (v := ?v149) (at_succ (at_zero)) (by kernel_rfl) (by kernel_rfl) (by kernel_rfl) (fun _ _ _ h => h) (Or.inl ⟨by rfl, ?y149⟩) (by assumption) ?z149
            case y149 => intro wq hSw; go_simp; try with_reducible rfl
            try simp only [Act.put, List.setIfInBounds_toArray, List.set_cons_zero, List.set_cons_succ]
            refine wpAnyH_take (i := 2) (v := ?v150) (at_succ (at_succ (at_zero))) (by kernel_rfl) (by kernel_rfl) (by kernel_rfl) (fun _ _ _ h => h) (Or.inl ⟨by rfl, ?y150⟩) (by assumption) ?z150
            case y150 => intro wq hSw; go_simp; try with_reducible rfl
            try simp only [Act.put, List.setIfInBounds_toArray, List.set_cons_zero, List.set_cons_succ]
            refine wpAnyH_take (i := 3) (v := ?v151) (at_succ (at_succ (at_succ (at_zero)))) (by kernel_rfl) (by kernel_rfl) (by kernel_rfl) (fun _ _ _ h => h) (Or.inl ⟨by rfl, ?y151⟩) (by assumption) ?z151
            case y151 => intro wq hSw; go_simp; try with_reducible rfl
            try simp only [Act.put, List.setIfInBounds_toArray, List.set_cons_zero, List.set_cons_succ]
            refine wpAnyH_take (i := 4) (v := ?v152) (at_succ (at_succ (at_succ (at_succ (at_zero))))) (by kernel_rfl) (by kernel_rfl) (by kernel_rfl) (fun _ _ _ h => h) (Or.inl ⟨by rfl, ?y152⟩) (by assumption) ?z152
            case y152 => intro wq hSw; go_simp; try with_reducible rfl
            try simp only [Act.put, List.setIfInBounds_toArray, List.set_cons_zero, List.set_cons_succ]
            refine wpAnyH_take (i := 5) (v := ?v153) (at_succ (at_succ (at_succ (at_succ (at_succ (at_zero)))))) (by kernel_rfl) (by kernel_rfl) (by kernel_rfl) (fun _ _ _ h => h) (Or.inl ⟨by rfl, ?y153⟩) (by assumption) ?z153
            case y153 => intro wq hSw; go_simp; try with_reducible rfl
            try simp only [Act.put, List.setIfInBounds_toArray, List.set_cons_zero, List.set_cons_succ]
            refine wpAnyH_take (i := 6) (v := ?v154) (at_succ (at_succ (at_succ (at_succ (at_succ (at_succ (at_zero))))))) (by kernel_rfl) (by kernel_rfl) (by kernel_rfl) (fun _ _ _ h => h) (Or.inl ⟨by rfl, ?y154⟩) (by assumption) ?z154
            case y154 => intro wq hSw; go_simp; try with_reducible rfl
            try simp only [Act.put, List.setIfInBounds_toArray, List.set_cons_zero, List.set_cons_succ]
            refine wpAnyH_take (i := 7) (v := ?v155) (at_succ (at_succ (at_succ (at_succ (at_succ (at_succ (at_succ (at_zero)))))))) (by kernel_rfl) (by kernel_rfl) (by kernel_rfl) (fun _ _ _ h => h) (Or.inl ⟨by rfl, ?y155⟩) (by assumption) ?z155
            case y155 => intro wq hSw; go_simp; try with_reducible rfl
            try simp only [Act.put, List.setIfInBounds_toArray, List.set_cons_zero, List.set_cons_succ]
            refine wpAnyH_take (i := 8) (v := ?v156) (at_succ (at_succ (at_succ (at_succ (at_succ (at_succ (at_succ (at_succ (at_zero))))))))) (by kernel_rfl) (by kernel_rfl) (by kernel_rfl) (fun _ _ _ h => h) (Or.inl ⟨by rfl, ?y156⟩) (by assumption) ?z156
            case y156 => intro wq hSw; go_simp; try with_reducible rfl
            try simp only [Act.put, List.setIfInBounds_toArray, List.set_cons_zero, List.set_cons_succ]
            refine wpAnyH_take (i := 9) (v := ?v157) (at_succ (at_succ (at_succ (at_succ (at_succ (at_succ (at_succ (at_succ (at_succ (at_zero)))))))))) (by kernel_rfl) (by kernel_rfl) (by kernel_rfl) (fun _ _ _ h => h) (Or.inl ⟨by rfl, ?y157⟩) (by assumption) ?z157
            case y157 => intro wq hSw; go_simp; try with_reducible rfl
            try simp only [Act.put, List.setIfInBounds_toArray, List.set_cons_zero, List.set_cons_succ]
            refine wpAnyH_take (i := 11) (v := ?v158) (at_succ (at_succ (at_succ (at_succ (at_succ (at_succ (at_succ (at_succ (at_succ (at_succ (at_succ (at_zero)))))))))))) (by kernel_rfl) (by kernel_rfl) (by kernel_rfl) (fun _ _ _ h => h) (Or.inl ⟨by rfl, ?y158⟩) (by assumption) ?z158
            case y158 => intro wq hSw; go_simp; try with_reducible rfl
            try simp only [Act.put, List.setIfInBounds_toArray, List.set_cons_zero, List.set_cons_succ]
            refine wpAnyH_ready (rs := [10]) (by kernel_rfl) (by simp) (AllReadyH.cons (at_succ (at_succ (at_succ (at_succ (at_succ (at_succ (at_succ (at_succ (at_succ (at_succ (at_zero))))))))))) (fun K hK => ?_) AllReadyH.nil)
            go_simp
            refine (points_any pat[i] s k hlt (by unfold maxLen; omega) _).mono ?_
            rintro e w1 ⟨rfl, rfl⟩
            clear hS
            rw [hpn]
            refine hK.out _ _ ?s159 (fun hS => ?_)
            case s159 => exact ⟨c0, c1, c3, ci⟩
            clear hK K
            try simp only [Act.put, List.setIfInBounds_toArray, List.set_cons_zero, List.set_cons_succ]
            refine wpAnyH_take (i := 12) (v := ?v160) (at_succ (at_succ (at_succ (at_succ (at_succ (at_succ (at_succ (at_succ (at_succ (at_succ (at_succ (at_succ (at_zero))))))))))))) (by kernel_rfl) (by kernel_rfl) (by kernel_rfl) (fun _ _ _ h => h) (Or.inl ⟨by rfl, ?y160⟩) (by assumption) ?z160
            case y160 => intro wq hSw; go_simp; try with_reducible rfl
            try simp only [Act.put, List.setIfInBounds_toArray, List.set_cons_zero, List.set_cons_succ]
            refine wpAnyH_take (i := 13) (v := ?v161) (at_succ (at_succ (at_succ (at_succ (at_succ (at_succ (at_succ (at_succ (at_succ (at_succ (at_succ (at_succ (at_succ (at_zero)))))))))))))) (by kernel_rfl) (by kernel_rfl) (by kernel_rfl) (fun _ _ _ h => h) (Or.inl ⟨by rfl, ?y161⟩) (by assumption) ?z161
            case y161 => intro wq hSw; go_simp; try with_reducible rfl
            try simp only [Act.put, List.setIfInBounds_toArray, List.set_cons_zero, List.set_cons_succ]
            refine wpAnyH_ready (rs := [14]) (by kernel_rfl) (by simp) (AllReadyH.cons (at_succ (at_succ (at_succ (at_succ (at_succ (at_succ (at_succ (at_succ (at_succ (at_succ (at_succ (at_succ (at_succ (at_succ (at_zero))))))))))))))) (fun K hK => ?_) AllReadyH.nil)
            go_simp
            refine hK.out _ _ ?s162 (fun hS => ?_)
            case s162 => refine ⟨?_, ?_, ?_, ?_⟩ <;> go_simp
            clear hK K
            try simp only [Act.put, List.setIfInBounds_toArray, List.set_cons_zero, List.set_cons_succ]
            refine wpAnyH_done (by kernel_rfl) ?_ _
            gi_wp2_with fail
            go_roundw
            case rel => exact ⟨k + 1, by omega, by go_num, by rw [HK.out]; first | exact (HS.store hT k _).drew.drew | exact (HS.drew.drew.store hT k _)⟩
            case measure => simp [intOf]; omega
      · obtain rfl : k = s.size := by omega
        clear c0 c1 c3 ci
        rw [rowTo_all, ← HNX.out] at HS
        have HT := Lib.hid (HS.tab hT t2' t3)
        have HG := Lib.hid HS.2.1
        clear HS t1 t2' t3 i1 i2 i3
        gi_wp2_with fail
        have hnew : Inv pat s w.heap.size (rowsAt pat s (pre ++ [⟨(i, v), ⟨hi, hv⟩⟩])) wr := by
          obtain ⟨i0, i1, i2, i3, _⟩ := hIH.out
          rw [rowsAt_snoc, hrows]
          exact ⟨Nat.le_trans i0 HG.out.size, (HG.out.block _ hi1 (fun e => by injection e with e; omega)).trans i1, (HG.out.block _ hi2 (fun e => by injection e with e; omega)).trans i2, (HG.out.block _ hi3 (fun e => by injection e with e; omega)).trans i3, HT.out⟩
        exact ⟨KeepsFrom.of_grownBy HG.out (fun j e => by cases e; omega), ⟨fun k hk hne => HG.out.block k (by omega) (fun e => hne (by cases e; rfl)), fun _ => by
          have := HT.out.table
          rwa [show (stepT pat s rows i).length = pat.size by simp [stepT, r1]] at this⟩, hnew, hB.grown HG.out hB.size (fun k e => by cases e; omega)⟩
  case done =>
    rintro D ys W hD hys ⟨hI, hB⟩ hK
    obtain ⟨i0, i1, i2, i3, hT⟩ := hI
    have c3 : W.cell? ⟨w.heap.size + 1 + 1 + 1, 0, none⟩ = some (.slice (some ⟨w.heap.size + 1 + 1, 0, none⟩) pat.size pat.size) := by rw [Lib.cell_of_heap i3]; rfl
    have hT2 : TabIs (w.heap.size + 1 + 1) W (tab pat s) := by
      have e : rowsAt pat s ys = tab pat s := by unfold rowsAt tab; rw [hys]
      rw [← e]; exact hT
    have HT := Lib.hid hT2
    clear i0 i1 i2 i3 hT hT2 hys
    gi_wp2_with fail
    refine ⟨by simp, .inl ⟨_, _, rfl, run_takeDeferred hK, ?_⟩⟩
    refine ⟨_, results_tmp rfl _ _ _, rfl, HT.out.kept (grownBy_putObj' W D _) (fun r e => by cases e; exact ⟨_, hK, rfl⟩), hB.trans (belowK_b (w := w) (Nat.le_refl _) W D _ _ (by omega) hK rfl rfl)⟩
  case stop =>
    rintro D c pre W _ _ h _
    exact h.elim
end Go.Proofs.Ytbnoejdhachhhab
