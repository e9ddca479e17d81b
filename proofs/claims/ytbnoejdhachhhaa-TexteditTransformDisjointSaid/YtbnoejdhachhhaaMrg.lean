/-
  textedit.merger: insert, deletes: the walks.
-/
import Derived.Test.YtbnoejdhachhhaaComp
import Derived.Deep.RegionLaw
namespace Go.Proofs.Ytbnoejdhachhhaa
open Go.RowKit

/-- bytes with origins from o on -/
def insO : List UInt8 → Int → List TB
  | [], _ => []
  | b :: bs, o => ⟨b, o⟩ :: insO bs (o + 1)
theorem insO_take (l : List UInt8) : ∀ (k : Nat) (o : Int) (h : k < l.length), insO (l.take (k + 1)) o = insO (l.take k) o ++ [⟨l[k], o + k⟩] := by
  induction l with
  | nil => intro k o h; simp at h
  | cons x xs ih =>
    intro k o h
    cases k with
    | zero => simp [insO]
    | succ k =>
      have := ih k (o + 1) (by simpa using h)
      simp only [List.take_succ_cons, insO, this, List.cons_append, List.getElem_cons_succ]
      rw [show o + 1 + (k : Int) = o + ((k + 1 : Nat) : Int) from by omega]
theorem insO_length (l : List UInt8) : ∀ o : Int, (insO l o).length = l.length := by
  induction l with
  | nil => intro o; rfl
  | cons x xs ih => intro o; simp [insO, ih]

/-- two mergers, each in a block of its own, and the rows that they own -/
def Two (w : World) (B bl br : Nat) (Al Ar : Option Addr) (cl cr : Nat) (vl vr : Value) (el er : List Ed) (ol or_ : Int) (ml mr : List TB) : Prop :=
  (B ≤ bl ∧ B ≤ br ∧ bl ≠ br) ∧ w.heap[bl]? = some (.cells #[.slice Al el.length cl, .int .i64 ol, vl] 69 (0, 0)) ∧ w.heap[br]? = some (.cells #[.slice Ar er.length cr, .int .i64 or_, vr] 69 (0, 0)) ∧
    (el.length ≤ cl ∧ er.length ≤ cr) ∧ EdsAt w B Al el ∧ EdsAt w B Ar er ∧ w.ownsRow B 73 2 vl ml.length (tbCells ml) ∧ w.ownsRow B 73 2 vr mr.length (tbCells mr) ∧ (∀ g, vl.ownBlock = some g → vr.ownBlock ≠ some g)
theorem Two.swap {w : World} {B bl br : Nat} {Al Ar : Option Addr} {cl cr : Nat} {vl vr : Value} {el er : List Ed} {ol or_ : Int} {ml mr : List TB} (h : Two w B bl br Al Ar cl cr vl vr el er ol or_ ml mr) : Two w B br bl Ar Al cr cl vr vl er el or_ ol mr ml := by
  obtain ⟨⟨a1, a2, a3⟩, h2, h3, ⟨h4, h4'⟩, h5, h6, h7, h8, h9⟩ := h
  exact ⟨⟨a2, a1, a3.symm⟩, h3, h2, ⟨h4', h4⟩, h6, h5, h8, h7, fun g hg hg' => h9 g hg' hg⟩
theorem Two.below {w w' : World} {B bl br : Nat} {Al Ar : Option Addr} {cl cr : Nat} {vl vr : Value} {el er : List Ed} {ol or_ : Int} {ml mr : List TB} (h : Two w B bl br Al Ar cl cr vl vr el er ol or_ ml mr) (hb : Below w.heap.size w w') (hB : B ≤ w.heap.size) : Two w' B bl br Al Ar cl cr vl vr el er ol or_ ml mr := by
  obtain ⟨h1, h2, h3, h4, h5, h6, h7, h8, h9⟩ := h
  exact ⟨h1, (hb.block _ (lt_of_heap h2)).trans h2, (hb.block _ (lt_of_heap h3)).trans h3, h4, h5.below (hb.mono hB), h6.below (hb.mono hB), own_below h7 hb, own_below h8 hb, h9⟩

theorem cell3 {w : World} {b : Nat} {x y z : Value} {t : TypeId} (h : w.heap[b]? = some (.cells #[x, y, z] t (0, 0))) :
    w.cell? ⟨b, 0, none⟩ = some x ∧ w.cell? ⟨b, 1, none⟩ = some y ∧ w.cell? ⟨b, 2, none⟩ = some z ∧ w.frozen? ⟨b, 0, none⟩ = false ∧ w.frozen? ⟨b, 1, none⟩ = false ∧ w.frozen? ⟨b, 2, none⟩ = false :=
  ⟨by rw [Lib.cell_of_heap h]; rfl, by rw [Lib.cell_of_heap h]; rfl, by rw [Lib.cell_of_heap h]; rfl, Lib.frozen_of_heap h 0, Lib.frozen_of_heap h 1, Lib.frozen_of_heap h 2⟩

theorem heap_set3_1 {w : World} {g : Nat} {x y z : Value} {t : TypeId} (h : w.heap[g]? = some (.cells #[x, y, z] t (0, 0))) (u : Value) : (w.setCell ⟨g, 1, none⟩ u).heap[g]? = some (.cells #[x, u, z] t (0, 0)) := by
  rw [heap_set h]; rfl
theorem heap_set3_2 {w : World} {g : Nat} {x y z : Value} {t : TypeId} (h : w.heap[g]? = some (.cells #[x, y, z] t (0, 0))) (u : Value) : (w.setCell ⟨g, 2, none⟩ u).heap[g]? = some (.cells #[x, y, u] t (0, 0)) := by
  rw [heap_set h]; rfl
theorem heap_set3_0 {w : World} {g : Nat} {x y z : Value} {t : TypeId} (h : w.heap[g]? = some (.cells #[x, y, z] t (0, 0))) (u : Value) : (w.setCell ⟨g, 0, none⟩ u).heap[g]? = some (.cells #[u, y, z] t (0, 0)) := by
  rw [heap_set h]; rfl
theorem EdsAt.setCell {w : World} {B : Nat} {A : Option Addr} {es : List Ed} (h : EdsAt w B A es) {p : Addr} (hp : B ≤ p.block) (u : Value) : EdsAt (w.setCell p u) B A es :=
  h.below ((Below.refl B w).setCell hp u)

/-- the left merger's row has grown, and its third cell says so -/
theorem Two.grow {w w' : World} {B bl br : Nat} {Al Ar : Option Addr} {cl cr : Nat} {vl vr : Value} {el er : List Ed} {ol or_ : Int} {ml mr : List TB} (h : Two w B bl br Al Ar cl cr vl vr el er ol or_ ml mr) (hB : B ≤ w.heap.size)
    {vl' : Value} {ml' : List TB} (hown : w'.ownsRow B 73 2 vl' ml'.length (tbCells ml')) (hg : w.grownBy w' vl.ownBlock) (hat : vl'.ownBlock = vl.ownBlock ∨ ∃ g, vl'.ownBlock = some g ∧ w.heap.size ≤ g) :
    Two (w'.setCell ⟨bl, 2, none⟩ vl') B bl br Al Ar cl cr vl' vr el er ol or_ ml' mr ∧ w'.heap[bl]? = some (.cells #[.slice Al el.length cl, .int .i64 ol, vl] 69 (0, 0)) := by
  obtain ⟨⟨hb1, hb2, hb3⟩, h2, h3, h4, h5, h6, h7, h8, h9⟩ := h
  have kk := Kept.grown (t0 := 73) (t1 := 73) h7 hg (.inl rfl)
  have k2 := kk _ _ _ _ h2 (by decide) (by decide)
  have k3 := kk _ _ _ _ h3 (by decide) (by decide)
  have hb := grown_below (Below.refl B w) hB h7 hg
  have hr : w'.ownsRow B 73 2 vr mr.length (tbCells mr) := by
    refine h8.kept hg ?_
    by_cases hn : vr.ownBlock = none
    · exact .inl hn
    · refine .inr (fun e => ?_)
      obtain ⟨g, hg'⟩ := Option.ne_none_iff_exists'.1 hn
      exact h9 g (by rw [← e, hg']) hg'
  refine ⟨⟨⟨hb1, hb2, hb3⟩, heap_set3_2 k2 _, heap_far k3 hb3.symm _ _, h4, (h5.below hb).setCell (p := ⟨bl, 2, none⟩) hb1 _, (h6.below hb).setCell (p := ⟨bl, 2, none⟩) hb1 _, own_set hown k2 (by decide) _ _, own_set hr k2 (by decide) _ _, fun g hg1 hg2 => ?_⟩, k2⟩
  rcases hat with hat | ⟨g', hat, hge⟩
  · exact h9 g (by rw [← hat, hg1]) hg2
  · rw [hat] at hg1
    injection hg1 with hg1
    subst hg1
    have := (h8.lt _ hg2).2
    omega
theorem Two.setOff {w : World} {B bl br : Nat} {Al Ar : Option Addr} {cl cr : Nat} {vl vr : Value} {el er : List Ed} {ol or_ : Int} {ml mr : List TB} (h : Two w B bl br Al Ar cl cr vl vr el er ol or_ ml mr) (o : Int) :
    Two (w.setCell ⟨bl, 1, none⟩ (.int .i64 o)) B bl br Al Ar cl cr vl vr el er o or_ ml mr := by
  obtain ⟨⟨hb1, hb2, hb3⟩, h2, h3, h4, h5, h6, h7, h8, h9⟩ := h
  exact ⟨⟨hb1, hb2, hb3⟩, heap_set3_1 h2 _, heap_far h3 hb3.symm _ _, h4, h5.setCell (p := ⟨bl, 1, none⟩) hb1 _, h6.setCell (p := ⟨bl, 1, none⟩) hb1 _, own_set h7 h2 (by decide) _ _, own_set h8 h2 (by decide) _ _, h9⟩

/-- one traced byte appended to the left merger's row -/
theorem Two.push {w : World} {B bl br : Nat} {Al Ar : Option Addr} {cl cr : Nat} {vl vr : Value} {el er : List Ed} {ol or_ : Int} {ml mr : List TB} (hT : Two w B bl br Al Ar cl cr vl vr el er ol or_ ml mr) (hB : B ≤ w.heap.size) (x : TB)
    (gg cap : Nat) (w1 : World) (hown1 : w1.ownsRow B 73 2 (.slice (some ⟨gg, 0, none⟩) (ml.length + 1) cap) (ml.length + 1) (tbCells ml ++ x.cells))
    (hgrow : (w.alloc (.cells x.cells.toArray 73)).drew.grownBy w1 vl.ownBlock) (hat : vl.ownBlock = some gg ∨ gg = (w.alloc (.cells x.cells.toArray 73)).drew.heap.size) :
    (Two (w1.setCell ⟨bl, 2, none⟩ (.slice (some ⟨gg, 0, none⟩) (ml.length + 1) cap)) B bl br Al Ar cl cr (.slice (some ⟨gg, 0, none⟩) (ml.length + 1) cap) vr el er ol or_ (ml ++ [x]) mr ∧
      w1.heap[bl]? = some (.cells #[.slice Al el.length cl, .int .i64 ol, vl] 69 (0, 0))) ∧ Below B w (w1.setCell ⟨bl, 2, none⟩ (.slice (some ⟨gg, 0, none⟩) (ml.length + 1) cap)) := by
  obtain ⟨⟨hb1, _, _⟩, _, _, _, _, _, t7, _, _⟩ := id hT
  rw [← tbCells_one, ← tbCells_append] at hown1
  have hT2 := hT.below (((Below.refl _ _).alloc (Nat.le_refl _) (.cells x.cells.toArray 73)).drew) (by omega)
  have hB2 : B ≤ ((w.alloc (.cells x.cells.toArray 73)).drew).heap.size := by show B ≤ (w.alloc _).heap.size; rw [World.size_alloc]; omega
  have hgT := hT2.grow hB2 (ml' := ml ++ [x]) (by rw [List.length_append]; exact hown1) hgrow (by
    rcases hat with hat | hat
    · exact .inl hat.symm
    · exact .inr ⟨gg, rfl, by omega⟩)
  exact ⟨hgT, (((Below.refl B w).alloc hB _).drew.grown hgrow hB2 (fun q hq => (t7.lt _ hq).1)).setCell (p := ⟨bl, 2, none⟩) hb1 _⟩

/-- merger.insert does nothing -/
def NoIns (es : List Ed) (i : Int) : Prop := ∀ x, es.head? = some x → x.s ≠ i

set_option maxHeartbeats 1600000 in
theorem insert_no (w : World) (B bl br : Nat) (Al Ar : Option Addr) (cl cr : Nat) (vl vr : Value) (el er : List Ed) (ol or_ : Int) (ml mr : List TB) (h : Two w B bl br Al Ar cl cr vl vr el er ol or_ ml mr) (i : Int) (hi : NoIns el i) :
    Calls Try.prog 33 #[.pointer (some ⟨bl, 0, none⟩), .int .i64 i, .pointer (some ⟨br, 0, none⟩)] w fun e w' => e = .returned (.tuple #[]) ∧ w' = w := by
  obtain ⟨_, h2, _, ⟨h4, _⟩, h5, _⟩ := h
  obtain ⟨c0, c1, c2, f0, f1, f2⟩ := cell3 h2
  cases el with
  | nil =>
    simp only [List.length_nil] at c0
    clear h2 hi h5
    go_enter Try.func33, Try.ntmps33
    go_wp2
    refine bodyPost_ret (results_none rfl _ _ _) rfl ?_
    exact ⟨rfl, rfl⟩
  | cons x xs =>
    obtain ⟨b, off, rfl, _, hc⟩ := h5 (by simp)
    obtain ⟨d0, d1, d2⟩ := hc 0 x rfl
    simp only [Nat.zero_mul, Nat.add_zero] at d0 d1 d2
    have hne : (x.s != i) = true := by simpa using hi x rfl
    have hl : (0 : Int) < ((x :: xs).length : Int) := by rw [List.length_cons]; omega
    have hl2 : (((x :: xs).length : Int) == 0) = false := by rw [List.length_cons, beq_eq_false_iff_ne]; omega
    generalize (x :: xs).length = n at *
    clear h2 hi hc
    go_enter Try.func33, Try.ntmps33
    go_wp2
    refine bodyPost_ret (results_none rfl _ _ _) rfl ?_
    exact ⟨rfl, rfl⟩

set_option maxHeartbeats 3200000 in
theorem insert_yes (w : World) (B bl br : Nat) (Al Ar : Option Addr) (cl cr : Nat) (vl vr : Value) (x : Ed) (xs er : List Ed) (ol or_ : Int) (ml mr : List TB) (h : Two w B bl br Al Ar cl cr vl vr (x :: xs) er ol or_ ml mr) (hB : B ≤ w.heap.size)
    (h0 : 0 ≤ ol) (h1 : ol ≤ 90000000) (ht : x.t.size ≤ 10000) (hl1 : ml.length ≤ 80000000) (hl2 : mr.length ≤ 80000000) :
    Calls Try.prog 33 #[.pointer (some ⟨bl, 0, none⟩), .int .i64 x.s, .pointer (some ⟨br, 0, none⟩)] w fun e w' => e = .returned (.tuple #[]) ∧
      (∃ vl' vr', Two w' B bl br Al Ar cl cr vl' vr' (x :: xs) er (ol + x.t.size) or_ (ml ++ insO x.t.data.toList ol) (mr ++ ins x.t.data.toList)) ∧ Below B w w' := by
  have hT := h
  obtain ⟨_, h2, _, ⟨h4, _⟩, h5, _⟩ := h
  obtain ⟨c0, c1, c2, f0, f1, f2⟩ := cell3 h2
  obtain ⟨b, off, rfl, _, hc⟩ := h5 (by simp)
  obtain ⟨d0, d1, d2⟩ := hc 0 x rfl
  simp only [Nat.zero_mul, Nat.add_zero] at d0 d1 d2
  have hl : (0 : Int) < ((x :: xs).length : Int) := by rw [List.length_cons]; omega
  have hl2' : (((x :: xs).length : Int) == 0) = false := by rw [List.length_cons, beq_eq_false_iff_ne]; omega
  have kc := fun (u : World) => run_bytes_of_string (P := Try.prog) u 9 55 5 x.t Try.underlying9 Try.underlying55 Try.underlying5
  have HN := Lib.hid (rfl : (x :: xs).length = (x :: xs).length)
  generalize hn : (x :: xs).length = n at c0 h4 hl hl2'
  have HNN := Lib.hid hn
  clear hn HN h2 hc
  go_enter Try.func33, Try.ntmps33
  go_wp2
  clear kc c0 c1 c2 f0 f1 f2 d0 d1 d2 h5 hl hl2' h4
  have hT1 := hT.below (((Below.refl _ _).alloc (Nat.le_refl _) (.cells (bytesRow x.t (grownCap w x.t.size 0 5)) 5 ((bytesRow x.t (grownCap w x.t.size 0 5)).size, (bytesRow x.t (grownCap w x.t.size 0 5)).size + 1))).drew) hB
  have hb0 := ((Below.refl B w).alloc hB (.cells (bytesRow x.t (grownCap w x.t.size 0 5)) 5 ((bytesRow x.t (grownCap w x.t.size 0 5)).size, (bytesRow x.t (grownCap w x.t.size 0 5)).size + 1))).drew
  have hg0 := heap_alloc_new w (.cells (bytesRow x.t (grownCap w x.t.size 0 5)) 5 ((bytesRow x.t (grownCap w x.t.size 0 5)).size, (bytesRow x.t (grownCap w x.t.size 0 5)).size + 1))
  generalize ((bytesRow x.t (grownCap w x.t.size 0 5)).size, (bytesRow x.t (grownCap w x.t.size 0 5)).size + 1) = fr at *
  generalize grownCap w x.t.size 0 5 = gc at *
  clear hT
  go_loopw [34] (fun j wr => ∃ (k : Nat) (vl' vr' : Value), k ≤ x.t.size ∧ j = .int .i64 k ∧ Two wr B bl br (some ⟨b, off, none⟩) Ar cl cr vl' vr' (x :: xs) er (ol + k) or_ (ml ++ insO (x.t.data.toList.take k) ol) (mr ++ ins (x.t.data.toList.take k)) ∧
    wr.heap[w.heap.size]? = some (.cells (bytesRow x.t gc) 5 fr) ∧ Below B w wr) (fun j _ => x.t.size - (intOf j).toNat)
  case atStart => exact ⟨0, vl, vr, Nat.zero_le _, rfl, by simpa [insO, ins] using hT1, hg0, hb0⟩
  case round =>
    obtain ⟨k, vl1, vr1, hk, rfl, hT, hg, hb⟩ := hrel
    by_cases hlt : k < x.t.size
    · have hlt3 : k < x.t.data.size := hlt
      have e1 : wr.cell? ⟨w.heap.size, k, none⟩ = some (.int .u8 (x.t.data[k].toNat : Int)) := by rw [Lib.cell_of_heap hg, bytesRow_at x.t gc k hlt3]
      have HT := Lib.hid (ins_take x.t.data.toList k (by rw [Array.length_toList]; exact hlt3))
      have HT' := Lib.hid (insO_take x.t.data.toList k ol (by rw [Array.length_toList]; exact hlt3))
      simp only [Array.getElem_toList] at HT HT'
      have hla : (ml ++ insO (x.t.data.toList.take k) ol).length ≤ 90000000 := by rw [List.length_append, insO_length, List.length_take]; omega
      have hlb : (mr ++ ins (x.t.data.toList.take k)).length ≤ 90000000 := by rw [List.length_append, ins, List.length_map, List.length_take]; omega
      generalize x.t.data[k] = bt at *
      have hbt : 0 ≤ (bt.toNat : Int) ∧ (bt.toNat : Int) ≤ 255 := by have := bt.toNat_lt; omega
      generalize hma : ml ++ insO (x.t.data.toList.take k) ol = ma at *
      generalize hmb : mr ++ ins (x.t.data.toList.take k) = mb at *
      have HMA := Lib.hid hma
      have HMB := Lib.hid hmb
      clear hma hmb
      have hT0 := hT
      obtain ⟨⟨hb1, hb2, hb3⟩, t2, _, _, _, _, t7, _, _⟩ := hT0
      obtain ⟨c0, c1, c2, f0, f1, f2⟩ := cell3 t2
      have hbs := hb.size
      have hblt := lt_of_heap t2
      obtain ⟨i0, hi0, hz0, hz1, hz2⟩ := info_parts info_tb
      have hin : ∀ u ∈ TB.cells ⟨bt, ol + k⟩, u.oneCell' = true := by simp [TB.cells, Value.oneCell']
      have hkl : ma.length + 1 ≤ maxLen := by simp only [maxLen]; omega
      have hkb : (ma.length + 1) * 16 ≤ 140737488355328 := by omega
      rw [HNN.out] at c0
      have hK1 := fun (o : Obj) => cell3 ((Below.heap_alloc wr o bl hblt).trans t2)
      have hK2 := fun (cs : Array Value) (t : TypeId) (w1 : World) (hg : ((wr.alloc (.cells cs t)).drew).grownBy w1 vl1.ownBlock) => cell3 (Kept.grown (t0 := 73) (t1 := 73) ((t7.alloc (.cells cs t)).drew) hg (.inl rfl) bl _ _ _ ((Below.heap_alloc wr _ bl hblt).trans t2) (by decide) (by decide))
      go_wp2
      have hfin : ∀ (gg cap : Nat) (w1 : World), w1.ownsRow B 73 2 (.slice (some ⟨gg, 0, none⟩) (ma.length + 1) cap) (ma.length + 1) (tbCells ma ++ TB.cells ⟨bt, ol + k⟩) →
          (wr.alloc (.cells #[.int .u8 bt.toNat, .int .i64 (ol + k)] 73)).drew.grownBy w1 vl1.ownBlock → (vl1.ownBlock = some gg ∨ gg = (wr.alloc (.cells #[.int .u8 bt.toNat, .int .i64 (ol + k)] 73)).drew.heap.size) →
          ∃ vl2 : Value, Two (w1.setCell ⟨bl, 2, none⟩ (.slice (some ⟨gg, 0, none⟩) (ma.length + 1) cap)) B bl br (some ⟨b, off, none⟩) Ar cl cr vl2 vr1 (x :: xs) er (ol + k) or_ (ma ++ [⟨bt, ol + k⟩]) mb ∧
            (w1.setCell ⟨bl, 2, none⟩ (.slice (some ⟨gg, 0, none⟩) (ma.length + 1) cap)).heap[w.heap.size]? = some (.cells (bytesRow x.t gc) 5 fr) ∧ Below B w (w1.setCell ⟨bl, 2, none⟩ (.slice (some ⟨gg, 0, none⟩) (ma.length + 1) cap)) := by
        intro gg cap w1 hown1 hgrow hat
        have hp := hT.push (by omega) ⟨bt, ol + k⟩ gg cap w1 hown1 hgrow hat
        have hgb := Kept.grown (t0 := 73) (t1 := 73) ((t7.alloc (.cells #[.int .u8 bt.toNat, .int .i64 (ol + k)] 73)).drew) hgrow (.inl rfl) w.heap.size _ _ _ ((Below.heap_alloc wr _ _ (lt_of_heap hg)).trans hg) (by decide) (by decide)
        exact ⟨_, hp.1.1, heap_far hgb (blk_ne hgb hp.1.2 (by decide)) _ _, hb.trans hp.2⟩
      go_cut [] (fun wx => ∃ vl2 : Value, Two wx B bl br (some ⟨b, off, none⟩) Ar cl cr vl2 vr1 (x :: xs) er (ol + k) or_ (ma ++ [⟨bt, ol + k⟩]) mb ∧ wx.heap[w.heap.size]? = some (.cells (bytesRow x.t gc) 5 fr) ∧ Below B w wx)
      case first =>
        go_region_law
          ((refine step_append_lies _ (by rfl) _ _ _ (by rfl) B 73 i0 _ 2 16 Try.underlying64 hi0 hz0 hz1 hz2 rfl (by omega) vl1 ma.length (tbCells ma) (by rfl) ((t7.alloc _).drew)
              ⟨wr.heap.size, 0, none⟩ 1 1 (TB.cells ⟨bt, ol + k⟩) (by rfl) (by rfl) (World.news_of_block (cs := #[_, _]) (t := 73) (fr := (0, 0)) (heap_alloc_new _ _)) hin (by omega) hkl hkb (by simp; omega) _ rfl ?_; intro gg cap w1 hown1 hgrow hat hlt; obtain ⟨_, k1, k2, _, _, k3⟩ := hK2 _ _ _ hgrow))
        all_goals
          go_wp2_with fail
          go_meet
          exact hfin _ _ _ hown1 hgrow hat
      case rest =>
        clear hfin
        obtain ⟨vl2, hT2, hg2, hb4⟩ := hcut
        have hT3 := hT2.swap
        obtain ⟨_, t2', t3', _, _, _, t7', t8', _⟩ := id hT2
        obtain ⟨e0, e1', e2, f0', f1', f2'⟩ := cell3 t3'
        have hblt2 := lt_of_heap t2'
        have hbs4 := hb4.size
        have hbs4' : B ≤ wc.heap.size := by omega
        have hblt3 := lt_of_heap t3'
        go_wp2_with (at_builtin; refine wpList_append_lit rfl (.tmp 57) (.tmp 60) _ rfl B 73 _ 2 16 Try.underlying64 info_tb rfl (by decide) _ _ _ rfl t8' 1 1 (TB.cells ⟨bt, -1⟩) rfl rfl ?c2 ?c3 ?c4 ?c5 ?_)
        case c2 => simp [TB.cells, Value.oneCell']
        case c3 => simp only [maxLen]; omega
        case c4 => omega
        case c5 => omega
        intro vr2 w3 hown3 hg3 hat3
        rw [← tbCells_one, ← tbCells_append] at hown3
        obtain ⟨hT4, k3'⟩ := hT3.grow hbs4' (ml' := mb ++ [⟨bt, -1⟩]) (by rw [List.length_append]; exact hown3) hg3 hat3
        obtain ⟨p0, p1, p2, r0, r1, r2⟩ := cell3 k3'
        have hT5 := hT4.swap
        obtain ⟨_, s2, _⟩ := id hT5
        obtain ⟨q0, q1, q2, u0, u1, u2⟩ := cell3 s2
        have hT6 := hT5.setOff (ol + (k + 1 : Nat))
        have hgb := Kept.grown (t0 := 73) (t1 := 73) t8' hg3 (.inl rfl) w.heap.size _ _ _ hg2 (by decide) (by decide)
        have hgb2 := heap_far (heap_far hgb (blk_ne hgb k3' (by decide)) 2 vr2) (blk_ne (heap_far hgb (blk_ne hgb k3' (by decide)) 2 vr2) s2 (by decide)) 1 (.int .i64 (ol + (k + 1 : Nat)))
        have hb6 : Below B w ((w3.setCell ⟨br, 2, none⟩ vr2).setCell ⟨bl, 1, none⟩ (.int .i64 (ol + (k + 1 : Nat)))) := ((grown_below hb4 hbs4' t8' hg3).setCell (p := ⟨br, 2, none⟩) hb2 _).setCell (p := ⟨bl, 1, none⟩) hb1 _
        have E1 : ma ++ [⟨bt, ol + k⟩] = ml ++ insO (x.t.data.toList.take (k + 1)) ol := by rw [HT'.out, ← List.append_assoc, HMA.out]
        have E2 : mb ++ [⟨bt, -1⟩] = mr ++ ins (x.t.data.toList.take (k + 1)) := by rw [HT.out, ← List.append_assoc, HMB.out]
        rw [E1, E2] at hT6
        have hoff : ol + (k : Int) + 1 = ol + (k + 1 : Nat) := by omega
        have HT6 := Lib.hid hT6
        have HG := Lib.hid hgb2
        have HB := Lib.hid hb6
        have HOF := Lib.hid hoff
        obtain ⟨Av, nv, cv, rfl⟩ : ∃ Av nv cv, vr2 = .slice Av nv cv := by
          rcases hown3.2 with ⟨h, _⟩ | ⟨g, cap, cur, h, _⟩
          · exact ⟨_, _, _, h⟩
          · exact ⟨_, _, _, h⟩
        clear hT6 hgb hgb2 hb6 hoff E1 E2 hT5 hT4 hT3 hT2 hg2 hb4 t2' t3' t7' t8' hown3 hg3 hat3 s2 k3' hT hb t2 t7 hK2 e0 e1' e2
        go_wp2
        go_roundw
        case rel => exact ⟨k + 1, _, _, by omega, by go_num, by rw [HOF.out]; exact HT6.out, by rw [HOF.out]; exact HG.out, by rw [HOF.out]; exact HB.out⟩
        case measure => simp [intOf]; omega
    · have e : x.t.data.toList.take k = x.t.data.toList := List.take_of_length_le (by rw [Array.length_toList]; show x.t.size ≤ k; omega)
      have hk2 : (k : Int) = x.t.size := by omega
      rw [e, hk2] at hT
      have HT := Lib.hid hT
      clear hT e hk2
      go_wp2
      go_end0
      exact ⟨rfl, ⟨_, _, HT.out⟩, hb⟩

/-- the text that merger.insert emits at i -/
def hit (es : List Ed) (i : Int) : List UInt8 := match es with
  | [] => []
  | x :: _ => if x.s = i then x.t.data.toList else []
theorem insert_any (w : World) (B bl br : Nat) (Al Ar : Option Addr) (cl cr : Nat) (vl vr : Value) (el er : List Ed) (ol or_ : Int) (ml mr : List TB) (h : Two w B bl br Al Ar cl cr vl vr el er ol or_ ml mr) (hB : B ≤ w.heap.size) (i : Int)
    (h0 : 0 ≤ ol) (h1 : ol ≤ 90000000) (ht : ∀ x ∈ el, x.t.size ≤ 10000) (hl1 : ml.length ≤ 80000000) (hl2 : mr.length ≤ 80000000) :
    Calls Try.prog 33 #[.pointer (some ⟨bl, 0, none⟩), .int .i64 i, .pointer (some ⟨br, 0, none⟩)] w fun e w' => e = .returned (.tuple #[]) ∧
      (∃ vl' vr', Two w' B bl br Al Ar cl cr vl' vr' el er (ol + (hit el i).length) or_ (ml ++ insO (hit el i) ol) (mr ++ ins (hit el i))) ∧ Below B w w' := by
  by_cases hi : NoIns el i
  · have hh : hit el i = [] := by
      unfold hit
      cases el with
      | nil => rfl
      | cons x xs => simp only; rw [if_neg (hi x rfl)]
    refine (insert_no w B bl br Al Ar cl cr vl vr el er ol or_ ml mr h i hi).mono fun e w' ⟨he, hw⟩ => ⟨he, ⟨vl, vr, ?_⟩, by rw [hw]; exact Below.refl _ _⟩
    rw [hh, hw]
    simpa [insO, ins] using h
  · cases el with
    | nil => exact absurd (fun x hx => by cases hx) hi
    | cons x xs =>
      have hx : x.s = i := by
        by_cases hx : x.s = i
        · exact hx
        · refine absurd (fun y hy => ?_) hi
          simp at hy
          subst hy
          exact hx
      subst hx
      have hh : hit (x :: xs) x.s = x.t.data.toList := by simp [hit]
      rw [hh, Array.length_toList]
      exact insert_yes w B bl br Al Ar cl cr vl vr x xs er ol or_ ml mr h hB h0 h1 (ht x (by simp)) hl1 hl2
end Go.Proofs.Ytbnoejdhachhhaa
