/-
  THE PLAIN LAWS of anchors: retained bytes through one list, through two. No Go.
-/
import Derived.Test.YtbnoejdhachhhaaPIdn
namespace Go.Proofs.Ytbnoejdhachhhaa
open Go.RowKit

theorem anchor_ret_law {src : ByteArray} {es : List Ed} {k : Nat} (h : valT src.size es = 0) (hs : Short es) (hk : k < src.size) (hd : delB es k = false) :
    ∃ m : Nat, (mapE es k = 0 ∧ mapE es (k + 1) = 0) ∧ mapP es k true = m ∧ mapP es (k + 1) false = m + 1 ∧ m < (applyB src es).size ∧ (applyB src es).data.toList[m]? = src.data.toList[k]? := by
  obtain ⟨g1, g2, g3, g4⟩ := valT_ok4 h
  have hA := valA_of_val h
  obtain ⟨p1, p2⟩ := mapP_ok hA (off := k) (by omega) (by omega) hs true
  obtain ⟨p3, p4⟩ := mapP_ok hA (off := (k : Int) + 1) (by omega) (by omega) hs false
  have hl : k < src.data.toList.length := by rw [size_data]; exact hk
  obtain ⟨r1, r2, r3⟩ := map_retained es k (traceL src.data.toList) (-1) 0 0 g3 (by omega) (by omega) (by omega) (by rw [traceL_length]; exact hl) hd
  rw [traceL_at _ _ hl, show (((0 : Nat) : Int) + 0) = 0 from rfl, Int.sub_zero] at r2
  refine ⟨(mapOffI es k true 0).toNat, ⟨p2, p4⟩, by rw [p1]; omega, by rw [p3, r3]; omega, ?_⟩
  have e : (applyB src es).data.toList[(mapOffI es k true 0).toNat]? = src.data.toList[k]? := by
    have := congrArg (Option.map TB.v) r2
    rw [← List.getElem?_map, applyT_vals, traceL_vals] at this
    rw [applyB_data h, this, List.getElem?_eq_getElem hl]
    rfl
  refine ⟨?_, e⟩
  rw [List.getElem?_eq_getElem hl] at e
  have := (List.getElem?_eq_some_iff.1 e).1
  rw [size_data] at this
  exact this

theorem mem_drop_trace {l : List UInt8} {o : Nat} {y : TB} (h : y ∈ (traceL l).drop o) : (o : Int) ≤ y.o := by
  obtain ⟨i, hi, rfl⟩ := List.mem_iff_getElem.1 h
  rw [List.length_drop, traceL_length] at hi
  have h1 := traceL_at l (o + i) (by omega)
  rw [List.getElem_drop]
  rw [List.getElem?_eq_getElem (by rw [traceL_length]; omega)] at h1
  injection h1 with h1
  rw [h1]; simp only; omega
theorem mem_take_trace {l : List UInt8} {o c : Nat} {y : TB} (h : y ∈ ((traceL l).drop o).take c) : y.o < o + c := by
  obtain ⟨i, hi, rfl⟩ := List.mem_iff_getElem.1 h
  rw [List.length_take, List.length_drop, traceL_length] at hi
  have h1 := traceL_at l (o + i) (by omega)
  rw [List.getElem_take, List.getElem_drop]
  rw [List.getElem?_eq_getElem (by rw [traceL_length]; omega)] at h1
  injection h1 with h1
  rw [h1]; simp only; omega
theorem mem_ins {t : List UInt8} {y : TB} (h : y ∈ ins t) : y.o = -1 := by
  obtain ⟨b, _, rfl⟩ := List.mem_map.1 h; rfl
theorem applyT_low {l : List UInt8} {n : Int} (es : List Ed) : ∀ (p : Int) (o : Nat) (y : TB), OkFrom n es p → (o : Int) ≤ p + 1 → y ∈ applyT (traceL l) es o → y.o = -1 ∨ (o : Int) ≤ y.o := by
  induction es with
  | nil => intro p o y _ _ hy; exact .inr (mem_drop_trace hy)
  | cons x xs ih =>
    intro p o y h hp hy
    obtain ⟨h1, h2, h3, h4⟩ := h
    simp only [applyT, List.mem_append] at hy
    rcases hy with (hy | hy) | hy
    · exact .inr (mem_drop_trace (List.mem_of_mem_take hy))
    · exact .inl (mem_ins hy)
    · rcases ih x.e x.e.toNat y h4 (by omega) hy with g | g
      · exact .inl g
      · exact .inr (by omega)
theorem delB_low {n : Int} (es : List Ed) (k : Int) : ∀ p : Int, OkFrom n es p → delB es k = true → p < k := by
  induction es with
  | nil => intro p _ h; simp [delB] at h
  | cons x xs ih =>
    intro p h hd
    obtain ⟨h1, h2, h3, h4⟩ := h
    simp only [delB, List.any_cons, Bool.or_eq_true, Bool.and_eq_true, decide_eq_true_eq] at hd
    rcases hd with hd | hd
    · omega
    · have := ih x.e h4 hd; omega
theorem del_none {l : List UInt8} {n : Int} (es : List Ed) (k : Nat) : ∀ (p : Int) (o : Nat) (y : TB), OkFrom n es p → (o : Int) ≤ p + 1 → delB es k = true → y ∈ applyT (traceL l) es o → y.o ≠ k := by
  induction es with
  | nil => intro p o y _ _ h; simp [delB] at h
  | cons x xs ih =>
    intro p o y h hp hd hy
    obtain ⟨h1, h2, h3, h4⟩ := h
    simp only [delB, List.any_cons, Bool.or_eq_true, Bool.and_eq_true, decide_eq_true_eq] at hd
    simp only [applyT, List.mem_append] at hy
    rcases hy with (hy | hy) | hy
    · have := mem_take_trace hy
      rcases hd with hd | hd
      · omega
      · have := delB_low xs k x.e h4 hd; omega
    · have := mem_ins hy; omega
    · rcases hd with hd | hd
      · rcases applyT_low xs x.e x.e.toNat y h4 (by omega) hy with g | g <;> omega
      · exact ih x.e x.e.toNat y h4 (by omega) hd hy

theorem ret_mem {T : List TB} {x : TB} (h : x ∈ T) (ho : x.o ≠ -1) : x ∈ ret T := by
  unfold ret; rw [List.mem_filter]; exact ⟨h, by simpa using ho⟩
theorem ret_uniq_lt {T : List TB} (hp : (ret T).Pairwise fun a b => a.o < b.o) {i j : Nat} {x : TB} (hi : T[i]? = some x) (hj : T[j]? = some x) (ho : x.o ≠ -1) (hlt : i < j) : False := by
  have e : T = T.take j ++ T.drop j := (List.take_append_drop j T).symm
  rw [e, ret_append, List.pairwise_append] at hp
  have m1 : x ∈ T.take j := List.mem_of_getElem? (i := i) (by rw [List.getElem?_take_of_lt hlt]; exact hi)
  have m2 : x ∈ T.drop j := List.mem_of_getElem? (i := 0) (by rw [List.getElem?_drop, Nat.add_zero]; exact hj)
  have := hp.2.2 x (ret_mem m1 ho) x (ret_mem m2 ho)
  omega
theorem ret_uniq {T : List TB} (hp : (ret T).Pairwise fun a b => a.o < b.o) {i j : Nat} {x : TB} (hi : T[i]? = some x) (hj : T[j]? = some x) (ho : x.o ≠ -1) : i = j := by
  rcases Nat.lt_trichotomy i j with h | h | h
  · exact (ret_uniq_lt hp hi hj ho h).elim
  · exact h
  · exact (ret_uniq_lt hp hj hi ho h).elim

theorem anchor_comp_law {src : ByteArray} {a b : List Ed} {off : Int} (hc : compC src a b = 0) (hs : Short a) (hs' : Short b) (hs'' : Short (compL src a b)) (he : mapE a off = 0) (hlt : off < src.size) (hd : delB a off = false) (hd' : delB b (mapP a off true) = false) :
    mapE b (mapP a off true) = 0 ∧ mapE (compL src a b) off = 0 ∧ mapP b (mapP a off true) true = mapP (compL src a b) off true := by
  obtain ⟨_, h0⟩ := mapE_zero he
  obtain ⟨k, rfl⟩ : ∃ k : Nat, off = k := ⟨off.toNat, by omega⟩
  obtain ⟨c1, c2, c3, c4, c5⟩ := comp_law hc
  obtain ⟨g1, g2, g3, g4⟩ := valT_ok4 c1
  obtain ⟨f1, f2, f3, f4⟩ := valT_ok4 c2
  obtain ⟨e1, e2, e3, e4⟩ := valT_ok4 c3
  obtain ⟨p1, p2⟩ := mapP_ok (valA_of_val c1) (off := k) (by omega) (by omega) hs true
  have hl : k < src.data.toList.length := by rw [size_data]; omega
  obtain ⟨r1, r2, r3⟩ := map_retained a k (traceL src.data.toList) (-1) 0 0 g3 (by omega) (by omega) (by omega) (by rw [traceL_length]; exact hl) hd
  rw [traceL_at _ _ hl, show (((0 : Nat) : Int) + 0) = 0 from rfl, Int.sub_zero] at r2
  obtain ⟨m, hm⟩ : ∃ m : Nat, mapOffI a k true 0 = m := ⟨(mapOffI a k true 0).toNat, by omega⟩
  rw [hm] at r2 p1
  rw [Int.toNat_natCast] at r2
  rw [p1] at hd' ⊢
  have hmlt := (List.getElem?_eq_some_iff.1 r2).1
  have hml : m < (applyB src a).size := by rw [applyB_size c1, ← applyT_trace_length]; exact hmlt
  obtain ⟨p3, p4⟩ := mapP_ok (valA_of_val c2) (off := m) (by omega) (by omega) hs' true
  obtain ⟨q1, q2, q3⟩ := map_retained b m (applyT (traceL src.data.toList) a 0) (-1) 0 0 f3 (by omega) (by omega) (by omega) hmlt hd'
  rw [r2, show (((0 : Nat) : Int) + 0) = 0 from rfl, Int.sub_zero] at q2
  have hT : applyT (applyT (traceL src.data.toList) a 0) b 0 = compT src a b := rfl
  rw [hT] at q2
  have hdC : delB (compL src a b) k = false := by
    by_cases hx : delB (compL src a b) k = true
    · have := del_none (l := src.data.toList) (compL src a b) k (-1) 0 ⟨src.data.toList[k], k⟩ e3 (by omega) hx (by rw [c5]; exact List.mem_of_getElem? q2)
      exact absurd rfl this
    · simpa using hx
  obtain ⟨p5, p6⟩ := mapP_ok (valA_of_val c3) (off := k) (by omega) (by omega) hs'' true
  obtain ⟨s1, s2, s3⟩ := map_retained (compL src a b) k (traceL src.data.toList) (-1) 0 0 e3 (by omega) (by omega) (by omega) (by rw [traceL_length]; exact hl) hdC
  rw [traceL_at _ _ hl, c5, show (((0 : Nat) : Int) + 0) = 0 from rfl, Int.sub_zero] at s2
  have := ret_uniq (comp_wf c1 c2).2 q2 s2 (by simp only; omega)
  refine ⟨p4, p6, ?_⟩
  rw [p3, p5]
  omega
end Go.Proofs.Ytbnoejdhachhhaa
