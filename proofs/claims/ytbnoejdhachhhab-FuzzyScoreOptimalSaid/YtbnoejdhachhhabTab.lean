/-
  PLAIN: fuzzy.suffixScores as a list of rows; WORDS: a table of rows in memory.
-/
import Derived.Test.YtbnoejdhachhhabBwd
namespace Go.Proofs.Ytbnoejdhachhhab
open Go.RowKit Go.Shelf
set_option linter.unusedVariables false

/-- one entry of a row -/
def rest (s : ByteArray) (last : Bool) (next : List Int) (k : Nat) : Int := if last then 0 else (bestL next k).1
def entry (p : UInt8) (s : ByteArray) (last : Bool) (next : List Int) (k : Nat) : Int :=
  if foldB p (s.data.toList.getD k 0) = true ∧ rest s last next k ≠ -1 then ptsN p s k + rest s last next k else -1
def rowOf (pat s : ByteArray) (i : Nat) (next : List Int) : List Int := (List.range s.size).map (entry (pat.data.toList.getD i 0) s (decide (pat.size ≤ i + 1)) next)
def stepT (pat s : ByteArray) (T : List (List Int)) (i : Nat) : List (List Int) := T.set i (rowOf pat s i (T.getD (i + 1) []))
/-- fuzzy.suffixScores -/
def tab (pat s : ByteArray) : List (List Int) := (down pat.size pat.size).foldl (stepT pat s) (List.replicate pat.size [])

/-- the row when k offsets are done -/
def rowTo (pat s : ByteArray) (i : Nat) (next : List Int) (k : Nat) : List Int := (rowOf pat s i next).take k ++ List.replicate (s.size - k) (-1)
theorem rowOf_length (pat s : ByteArray) (i : Nat) (next : List Int) : (rowOf pat s i next).length = s.size := by simp [rowOf]
theorem rowTo_zero (pat s : ByteArray) (i : Nat) (next : List Int) : rowTo pat s i next 0 = List.replicate s.size (-1) := by simp [rowTo]
theorem rowTo_all (pat s : ByteArray) (i : Nat) (next : List Int) : rowTo pat s i next s.size = rowOf pat s i next := by
  unfold rowTo; rw [List.take_of_length_le (by rw [rowOf_length]; omega)]; simp
theorem rowTo_length (pat s : ByteArray) (i : Nat) (next : List Int) (k : Nat) (hk : k ≤ s.size) : (rowTo pat s i next k).length = s.size := by
  unfold rowTo; rw [List.length_append, List.length_take, rowOf_length, List.length_replicate]; omega
theorem rowOf_at (pat s : ByteArray) (i : Nat) (next : List Int) (k : Nat) (hk : k < s.size) : (rowOf pat s i next)[k]? = some (entry (pat.data.toList.getD i 0) s (decide (pat.size ≤ i + 1)) next k) := by
  simp [rowOf, hk]
theorem rowTo_succ (pat s : ByteArray) (i : Nat) (next : List Int) (k : Nat) (hk : k < s.size) :
    rowTo pat s i next (k + 1) = (rowTo pat s i next k).set k (entry (pat.data.toList.getD i 0) s (decide (pat.size ≤ i + 1)) next k) := by
  have hl := rowOf_length pat s i next
  have ha := rowOf_at pat s i next k hk
  have hk2 : k < (rowOf pat s i next).length := by omega
  unfold rowTo
  rw [List.set_append_right _ _ (by rw [List.length_take]; omega), List.length_take, Nat.min_eq_left (by omega), Nat.sub_self, List.take_add_one, ha]
  obtain ⟨m, hm⟩ : ∃ m, s.size - k = m + 1 := ⟨s.size - k - 1, by omega⟩
  rw [hm, show s.size - (k + 1) = m by omega, List.replicate_succ, List.set_cons_zero]
  simp
theorem rowTo_keep (pat s : ByteArray) (i : Nat) (next : List Int) (k : Nat) (hk : k < s.size) (he : entry (pat.data.toList.getD i 0) s (decide (pat.size ≤ i + 1)) next k = -1) :
    rowTo pat s i next (k + 1) = rowTo pat s i next k := by
  rw [rowTo_succ pat s i next k hk, he]
  apply List.ext_getElem?
  intro j
  rw [List.getElem?_set]
  split
  · next hkj =>
    subst hkj
    have : (rowTo pat s i next k)[k]? = some (-1) := by
      unfold rowTo
      have hl := rowOf_length pat s i next
      rw [List.getElem?_append_right (by rw [List.length_take]; omega), List.length_take, Nat.min_eq_left (by omega), Nat.sub_self]
      simp [show 0 < s.size - k by omega]
    rw [this]
    have := rowTo_length pat s i next k (by omega)
    simp [this, hk]
  · rfl

/-! ### bounds -/
theorem bestLoop_le (prev B : Int) (hB : -1 ≤ B) : ∀ (ns : List Int) (i sc off : Int), (∀ x ∈ ns, -1 ≤ x ∧ x ≤ B) → -1 ≤ sc → sc ≤ B + 3 → -1 ≤ (bestLoop prev ns i sc off).1 ∧ (bestLoop prev ns i sc off).1 ≤ B + 3 := by
  intro ns
  induction ns with
  | nil => intro i sc off _ h1 h2; exact ⟨h1, h2⟩
  | cons n ns ih =>
    intro i sc off h h1 h2
    have hn := h n (by simp)
    unfold bestLoop
    split
    · refine ih _ _ _ (fun x hx => h x (by simp [hx])) ?_ ?_ <;> (unfold adj; split <;> omega)
    · exact ih _ _ _ (fun x hx => h x (by simp [hx])) h1 h2
theorem bestL_le (row : List Int) (prev B : Int) (hB : -1 ≤ B) (h : ∀ x ∈ row, -1 ≤ x ∧ x ≤ B) : -1 ≤ (bestL row prev).1 ∧ (bestL row prev).1 ≤ B + 3 :=
  bestLoop_le prev B hB _ _ _ _ (fun x hx => h x (List.mem_of_mem_drop hx)) (by omega) (by omega)
theorem pts_le (p : UInt8) (s : ByteArray) (k : Nat) : 1 ≤ ptsN p s k ∧ ptsN p s k ≤ 6 := by unfold ptsN; split <;> split <;> omega
theorem rest_le (s : ByteArray) (last : Bool) (next : List Int) (k : Nat) (B : Int) (hB : 0 ≤ B) (h : ∀ x ∈ next, -1 ≤ x ∧ x ≤ B) : -1 ≤ rest s last next k ∧ rest s last next k ≤ B + 3 := by
  unfold rest
  have := bestL_le next k B (by omega) h
  split <;> omega
theorem rowOf_le (pat s : ByteArray) (i : Nat) (next : List Int) (B : Int) (hB : 0 ≤ B) (h : ∀ x ∈ next, -1 ≤ x ∧ x ≤ B) : ∀ x ∈ rowOf pat s i next, -1 ≤ x ∧ x ≤ B + 9 := by
  intro x hx
  simp only [rowOf, List.mem_map, List.mem_range] at hx
  obtain ⟨k, hk, rfl⟩ := hx
  have h1 := pts_le (pat.data.toList.getD i 0) s k
  have h2 := rest_le s (decide (pat.size ≤ i + 1)) next k B hB h
  unfold entry
  split <;> omega
def tabLe (T : List (List Int)) (B : Int) : Prop := ∀ xs ∈ T, ∀ x ∈ xs, -1 ≤ x ∧ x ≤ B
theorem stepT_le (pat s : ByteArray) (T : List (List Int)) (i : Nat) (B : Int) (hB : 0 ≤ B) (h : tabLe T B) : tabLe (stepT pat s T i) (B + 9) := by
  intro xs hxs x hx
  rcases List.mem_or_eq_of_mem_set hxs with h' | rfl
  · have := h xs h' x hx; omega
  · refine rowOf_le pat s i _ B hB ?_ x hx
    intro y hy
    rw [List.getD_eq_getElem?_getD] at hy
    by_cases hi : i + 1 < T.length
    · rw [List.getElem?_eq_getElem hi] at hy
      exact h _ (List.getElem_mem hi) y hy
    · rw [List.getElem?_eq_none (by omega)] at hy; simp at hy
/-- rows are empty or as long as the name -/
def tabLen (T : List (List Int)) (n : Nat) : Prop := ∀ xs ∈ T, xs.length = 0 ∨ xs.length = n
theorem stepT_len (pat s : ByteArray) (T : List (List Int)) (i : Nat) (h : tabLen T s.size) : tabLen (stepT pat s T i) s.size := by
  intro xs hxs
  rcases List.mem_or_eq_of_mem_set hxs with h' | rfl
  · exact h xs h'
  · exact .inr (rowOf_length _ _ _ _)

/-! ### in memory -/
def RowV (T : Nat) (W : World) (v : Value) (xs : List Int) : Prop := (v = .slice none 0 0 ∧ xs = []) ∨ ∃ g, v = .slice (some ⟨g, 0, none⟩) xs.length xs.length ∧ T < g ∧ W.heap[g]? = some (.cells (xs.map (Value.int .i64)).toArray 3 (0, 0))
def TabIs (T : Nat) (W : World) (rows : List (List Int)) : Prop := ∃ cs : List Value, W.heap[T]? = some (.cells cs.toArray 22 (0, 0)) ∧ cs.length = rows.length ∧ ∀ (i : Nat) (v : Value) (xs : List Int), cs[i]? = some v → rows[i]? = some xs → RowV T W v xs
theorem RowV.kept {T : Nat} {W W' : World} {v : Value} {xs : List Int} {row : Option Nat} (h : RowV T W v xs) (hg : W.grownBy W' row) (hr : ∀ r, row = some r → r ≤ T ∨ ∃ o : Obj, W.heap[r]? = some o ∧ o.isCells = false) : RowV T W' v xs := by
  rcases h with h | ⟨g, h1, h2, h3⟩
  · exact .inl h
  · refine .inr ⟨g, h1, h2, (hg.block g (lt_of_heap h3) ?_).trans h3⟩
    rintro rfl
    rcases hr g rfl with h | ⟨o, h, h'⟩
    · omega
    · rw [h3] at h; cases h; cases h'
theorem TabIs.kept {T : Nat} {W W' : World} {rows : List (List Int)} {row : Option Nat} (h : TabIs T W rows) (hg : W.grownBy W' row) (hr : ∀ r, row = some r → ∃ o : Obj, W.heap[r]? = some o ∧ o.isCells = false) : TabIs T W' rows := by
  obtain ⟨cs, h1, h2, h3⟩ := h
  refine ⟨cs, (hg.block T (lt_of_heap h1) ?_).trans h1, h2, fun i v xs hv hx => (h3 i v xs hv hx).kept hg (fun r e => .inr (hr r e))⟩
  rintro rfl
  obtain ⟨o, h, h'⟩ := hr T rfl
  rw [h1] at h; cases h; cases h'
theorem TabIs.table {T : Nat} {W : World} {rows : List (List Int)} (h : TabIs T W rows) : TableAt T rows.length W := by
  obtain ⟨cs, h1, h2, h3⟩ := h
  refine ⟨cs, h1, h2, fun v hv => ?_⟩
  obtain ⟨i, hi, rfl⟩ := List.getElem_of_mem hv
  rcases h3 i cs[i] rows[i] (List.getElem?_eq_getElem hi) (List.getElem?_eq_getElem (by omega)) with ⟨h, _⟩ | ⟨g, h, _⟩ <;> (rw [h]; exact ⟨_, _, _, rfl⟩)
theorem grown_trans {A B C : World} {row : Option Nat} (h : A.grownBy B row) (k : B.grownBy C row) : A.grownBy C row :=
  ⟨k.os.trans h.os, k.tape.trans h.tape, k.output.trans h.output, Nat.le_trans h.size k.size, fun j hj hne => (k.block j (Nat.lt_of_lt_of_le hj h.size) hne).trans (h.block j hj hne)⟩
theorem set_block {W : World} {b i : Nat} {cs : List Value} {t : TypeId} {fr : Nat × Nat} (h : W.heap[b]? = some (.cells cs.toArray t fr)) (v : Value) : (W.setCell ⟨b, i, none⟩ v).heap[b]? = some (.cells (cs.set i v).toArray t fr) := by
  obtain ⟨hlt, hk⟩ := Array.getElem?_eq_some_iff.1 h
  show (W.heap.modify b _)[b]? = _
  rw [Array.getElem?_eq_getElem (by rw [Array.size_modify]; exact hlt), Array.getElem_modify_self, hk]
  simp
theorem grown_setCell (W : World) (b i : Nat) (v : Value) : W.grownBy (W.setCell ⟨b, i, none⟩ v) (some b) :=
  ⟨rfl, rfl, rfl, by simp [World.setCell], fun k _ hk => Below.heap_setCell _ _ _ k (fun e => hk (by rw [e]))⟩
theorem grown_drew (W : World) (row : Option Nat) : W.grownBy W.drew row := ⟨rfl, rfl, rfl, Nat.le_refl _, fun _ _ _ => rfl⟩
theorem grown_any {W W' : World} (h : W.grownBy W' none) (row : Option Nat) : W.grownBy W' row := ⟨h.os, h.tape, h.output, h.size, fun k hk _ => h.block k hk (by simp)⟩
/-- a block that is new may be written -/
theorem grown_new {W W' W'' : World} {row : Option Nat} {b : Nat} (h : W.grownBy W' row) (k : W'.grownBy W'' (some b)) (hb : W.heap.size ≤ b) : W.grownBy W'' row :=
  ⟨k.os.trans h.os, k.tape.trans h.tape, k.output.trans h.output, Nat.le_trans h.size k.size, fun j hj hne => (k.block j (Nat.lt_of_lt_of_le hj h.size) (fun e => by cases e; omega)).trans (h.block j hj hne)⟩
/-- a row reads as integers -/
theorem RowV.ints {T : Nat} {W : World} {v : Value} {xs : List Int} (h : RowV T W v xs) : ∃ A, v = .slice A xs.length xs.length ∧ IntsAt W W.heap.size A xs := by
  rcases h with ⟨rfl, rfl⟩ | ⟨g, rfl, _, h⟩
  · exact ⟨none, rfl, fun hp => by simp at hp⟩
  · refine ⟨_, rfl, fun _ => ⟨g, 0, rfl, lt_of_heap h, fun k x hx => ?_⟩⟩
    rw [Nat.zero_add, Lib.cell_of_heap h]
    simp [hx]
end Go.Proofs.Ytbnoejdhachhhab
