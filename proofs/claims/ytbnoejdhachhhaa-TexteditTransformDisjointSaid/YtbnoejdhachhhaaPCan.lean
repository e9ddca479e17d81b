/-
  THE PLAIN LAWS of canonical and Compose. No Go.
-/
import Derived.Test.YtbnoejdhachhhaaPInv
namespace Go.Proofs.Ytbnoejdhachhhaa
open Go.RowKit

/-- the retained bytes -/
def ret (bs : List TB) : List TB := bs.filter fun b => decide (b.o ≠ -1)
theorem ret_append (a b : List TB) : ret (a ++ b) = ret a ++ ret b := List.filter_append ..
theorem ret_ins (l : List UInt8) : ret (ins l) = [] := by
  unfold ret ins
  rw [List.filter_eq_nil_iff]
  intro x hx
  obtain ⟨b, _, rfl⟩ := List.mem_map.1 hx
  simp
/-- the retained bytes are tr's own, in order, from st on, before n -/
def WF (tr : List TB) (n st : Int) (T : List TB) : Prop :=
  (∀ y ∈ ret T, st ≤ y.o ∧ 0 ≤ y.o ∧ y.o < n ∧ tr[y.o.toNat]? = some y) ∧ (ret T).Pairwise fun a b => a.o < b.o
theorem WF.sub {tr : List TB} {n st : Int} {T U : List TB} (h : WF tr n st T) (hs : (ret U).Sublist (ret T)) : WF tr n st U :=
  ⟨fun y hy => h.1 y (hs.subset hy), h.2.sublist hs⟩

theorem ret_applyT (es : List Ed) : ∀ (bs : List TB) (n p : Int) (off : Nat), OkFrom n es p → (off : Int) ≤ p + 1 → (ret (applyT bs es off)).Sublist (ret (bs.drop off)) := by
  induction es with
  | nil => intro bs n p off _ _; exact List.Sublist.refl _
  | cons x xs ih =>
    intro bs n p off h hp
    obtain ⟨h1, h2, h3, h4⟩ := h
    have := ih bs n x.e x.e.toNat h4 (by omega)
    simp only [applyT, ret_append, ret_ins, List.append_nil]
    have e : bs.drop off = (bs.drop off).take (x.s.toNat - off) ++ (bs.drop off).drop (x.s.toNat - off) := (List.take_append_drop _ _).symm
    rw [show ret (bs.drop off) = ret ((bs.drop off).take (x.s.toNat - off)) ++ ret ((bs.drop off).drop (x.s.toNat - off)) by rw [← ret_append, ← e]]
    refine List.Sublist.append (List.Sublist.refl _) (this.trans ?_)
    unfold ret
    refine List.Sublist.filter _ ?_
    rw [List.drop_drop]
    exact List.drop_sublist_drop_left bs (by omega)

theorem applyT_step {tr : List TB} {n : Int} {es : List Ed} {p : Int} {k : Nat} (h : OkFrom n es p) (hk : (k : Int) ≤ p) (x : TB) (hx : tr[k]? = some x) : applyT tr es k = x :: applyT tr es (k + 1) := by
  obtain ⟨hlt, hx⟩ := List.getElem?_eq_some_iff.1 hx
  have hd := drop_cons tr k hlt
  rw [hx] at hd
  cases es with
  | nil => simp only [applyT]; exact hd
  | cons y ys =>
    obtain ⟨h1, h2, h3, h4⟩ := h
    simp only [applyT]
    rw [hd, show y.s.toNat - k = (y.s.toNat - (k + 1)) + 1 from by omega, List.take_succ_cons]
    rfl

theorem canonL_ok (n : Int) (T : List TB) : ∀ (st : Int) (pend : List UInt8), st ≤ n → (∀ y ∈ ret T, y.o < n) → (∀ y ∈ ret T, st ≤ y.o) → (ret T).Pairwise (fun a b => a.o < b.o) → OkFrom n (canonL n T st pend) (st - 1) := by
  induction T with
  | nil =>
    intro st pend h _ _ _
    simp only [canonL, flushed]
    split
    · exact ⟨by simp only; omega, by simp only; omega, by simp only; omega, trivial⟩
    · trivial
  | cons b bs ih =>
    intro st pend h h1 h2 h3
    simp only [canonL]
    by_cases hb : b.o = -1
    · rw [if_pos hb]
      have hr : ret (b :: bs) = ret bs := by simp [ret, hb]
      rw [hr] at h1 h2 h3
      exact ih st _ h h1 h2 h3
    · rw [if_neg hb]
      have hr : ret (b :: bs) = b :: ret bs := by simp [ret, hb]
      rw [hr] at h1 h2 h3
      have hbn := h1 b (by simp)
      have hbs := h2 b (by simp)
      have hi := ih (b.o + 1) [] (by omega) (fun y hy => h1 y (by simp [hy])) (fun y hy => by have := (List.pairwise_cons.1 h3).1 y hy; omega) (List.pairwise_cons.1 h3).2
      rw [show b.o + 1 - 1 = b.o from by omega] at hi
      unfold flushed
      split
      · exact ⟨by simp only; omega, by simp only; omega, by simp only; omega, hi⟩
      · exact hi.weaken (by omega)

/-- canonical is the list of T -/
theorem canonL_apply (tr : List TB) (T : List TB) : ∀ (st : Nat) (pend : List UInt8), st ≤ tr.length → WF tr tr.length st T → applyT tr (canonL tr.length T st pend) st = ins pend ++ T := by
  induction T with
  | nil =>
    intro st pend h _
    simp only [canonL, flushed]
    split
    · simp only [applyT, Int.toNat_natCast, Nat.sub_self, List.take_zero, List.nil_append, List.drop_length, List.append_nil]
    · rename_i hn
      have h1 : st = tr.length := by omega
      have h2 : pend = [] := by cases pend with
        | nil => rfl
        | cons => exact absurd (Or.inr (by simp)) hn
      rw [h2, h1]
      simp [applyT, ins]
  | cons b bs ih =>
    intro st pend h hw
    obtain ⟨h1, h2⟩ := hw
    simp only [canonL]
    by_cases hb : b.o = -1
    · rw [if_pos hb]
      have hr : ret (b :: bs) = ret bs := by simp [ret, hb]
      rw [hr] at h1 h2
      rw [ih st _ h ⟨h1, h2⟩]
      have : b = ⟨b.v, -1⟩ := by cases b; simp only at hb; rw [hb]
      simp only [ins, List.map_append, List.map_cons, List.map_nil, List.append_assoc, List.singleton_append]
      rw [← this]
    · rw [if_neg hb]
      have hr : ret (b :: bs) = b :: ret bs := by simp [ret, hb]
      rw [hr] at h1 h2
      obtain ⟨g1, g2, g3, g4⟩ := h1 b (by simp)
      obtain ⟨k, hk⟩ : ∃ k : Nat, b.o = k := ⟨b.o.toNat, by omega⟩
      rw [hk] at g1 g2 g3 g4
      rw [Int.toNat_natCast] at g4
      have hW : WF tr tr.length ((k + 1 : Nat) : Int) bs := ⟨fun y hy => by
        obtain ⟨_, a2, a3, a4⟩ := h1 y (by simp [hy])
        have := (List.pairwise_cons.1 h2).1 y hy
        exact ⟨by omega, a2, a3, a4⟩, (List.pairwise_cons.1 h2).2⟩
      have hi := ih (k + 1) [] (by omega) hW
      have hok := canonL_ok tr.length bs ((k + 1 : Nat) : Int) [] (by omega) (fun y hy => (hW.1 y hy).2.2.1) (fun y hy => (hW.1 y hy).1) hW.2
      have hst := applyT_step hok (k := k) (by omega) b g4
      rw [hi] at hst
      rw [hk, show (k : Int) + 1 = ((k + 1 : Nat) : Int) from by omega]
      unfold flushed
      split
      · simp only [List.singleton_append, applyT, Int.toNat_natCast, Nat.sub_self, List.take_zero, List.nil_append]
        rw [hst]
        simp [ins]
      · rename_i hn
        have e1 : st = k := by omega
        have e2 : pend = [] := by cases pend with
          | nil => rfl
          | cons => exact absurd (Or.inr (by simp)) hn
        rw [e2, e1, List.nil_append, hst]
        simp [ins]

theorem ret_trace (l : List UInt8) : ret (traceL l) = traceL l := by
  unfold ret
  rw [List.filter_eq_self]
  intro x hx
  simp only [traceL, List.mem_map, List.mem_range] at hx
  obtain ⟨i, _, rfl⟩ := hx
  simp
theorem WF_trace (l : List UInt8) : WF (traceL l) l.length 0 (traceL l) := by
  refine ⟨fun y hy => ?_, ?_⟩
  · rw [ret_trace] at hy
    obtain ⟨i, hi, rfl⟩ := List.mem_iff_getElem.1 hy
    rw [traceL_length] at hi
    have h1 := traceL_at l i hi
    have h2 := List.getElem?_eq_getElem (l := traceL l) (by rw [traceL_length]; exact hi)
    rw [h1] at h2
    injection h2 with h2
    rw [← h2]
    exact ⟨by simp only; omega, by simp only; omega, by simp only; omega, by simp only [Int.toNat_natCast]; exact h1⟩
  · rw [ret_trace, traceL, List.pairwise_map]
    refine List.pairwise_lt_range.imp ?_
    intro a b h
    simp only; omega

theorem comp_wf {src : ByteArray} {a b : List Ed} (h : valT src.size a = 0) (h' : valT (applyB src a).size b = 0) : WF (traceL src.data.toList) (traceL src.data.toList).length 0 (compT src a b) := by
  obtain ⟨_, _, h3, _⟩ := valT_ok4 h
  obtain ⟨_, _, g3, _⟩ := valT_ok4 h'
  have hw := WF_trace src.data.toList
  rw [← traceL_length src.data.toList] at hw
  have s1 := ret_applyT a (traceL src.data.toList) _ _ 0 h3 (by omega)
  have s2 := ret_applyT b (applyT (traceL src.data.toList) a 0) _ _ 0 g3 (by omega)
  rw [List.drop_zero] at s1 s2
  exact hw.sub (s2.trans s1)
theorem compC_zero {src : ByteArray} {a b : List Ed} (h : compC src a b = 0) : valT src.size a = 0 ∧ valT (applyB src a).size b = 0 ∧ (canonL src.size (compT src a b) 0 []).length ≤ 50 ∧ compL src a b = canonL src.size (compT src a b) 0 [] := by
  have hc := h
  unfold compC at h
  split at h
  · rename_i h1
    split at h
    · rename_i h2
      refine ⟨h1, h2, ?_, by rw [compL, if_pos hc]⟩
      unfold canE at h
      split at h <;> omega
    · contradiction
  · contradiction

/-- what canonical says of well-formed traced bytes -/
theorem canon_law {src : ByteArray} {T : List TB} (hw : WF (traceL src.data.toList) (traceL src.data.toList).length 0 T) (hn : src.size ≤ 2000) (hT : T.length ≤ 2000) (hC : (canonL src.size T 0 []).length ≤ 50) :
    valT src.size (canonL src.size T 0 []) = 0 ∧ applyT (traceL src.data.toList) (canonL src.size T 0 []) 0 = T ∧ (applyB src (canonL src.size T 0 [])).data.toList = T.map TB.v := by
  have hl : ((traceL src.data.toList).length : Int) = src.size := by rw [traceL_length, size_data]
  have hap := canonL_apply (traceL src.data.toList) T 0 [] (by omega) hw
  rw [Int.natCast_zero, hl] at hap
  have hap' : applyT (traceL src.data.toList) (canonL src.size T 0 []) 0 = T := hap
  have hok := canonL_ok src.size T 0 [] (by omega) (fun y hy => by have := (hw.1 y hy).2.2.1; rw [hl] at this; exact this) (fun y hy => (hw.1 y hy).1) hw.2
  have hv := applyT_vals (canonL src.size T 0 []) (traceL src.data.toList) 0
  rw [hap', traceL_vals] at hv
  have hlen := applyL_length src.data.toList (canonL src.size T 0 []) (-1) 0 (by rw [size_data]; exact hok) (by omega) (by omega)
  rw [← hv, List.length_map, size_data, Int.natCast_zero, Int.sub_zero] at hlen
  have hval : valT src.size (canonL src.size T 0 []) = 0 := (valT_iff _ _).2 ⟨by omega, hC, hok, by omega⟩
  exact ⟨hval, hap', by rw [applyB_data hval, hv]⟩

theorem comp_law {src : ByteArray} {a b : List Ed} (h : compC src a b = 0) :
    valT src.size a = 0 ∧ valT (applyB src a).size b = 0 ∧ valT src.size (compL src a b) = 0 ∧ applyB src (compL src a b) = applyB (applyB src a) b ∧ applyT (traceL src.data.toList) (compL src a b) 0 = compT src a b := by
  obtain ⟨h1, h2, h3, h4⟩ := compC_zero h
  obtain ⟨k1, k2, k3⟩ := canon_law (comp_wf h1 h2) (valT_ok4 h1).1 (compT_length h1 h2) h3
  rw [h4]
  refine ⟨h1, h2, k1, ?_, k2⟩
  apply ba_ext
  rw [k3, applyB_data h2, applyB_data h1, compT, applyT_vals, applyT_vals, traceL_vals]

/-- the relabelling of traced bytes by their origins -/
def relab (A : List TB) (x : TB) : TB := if x.o = -1 then x else (A[x.o.toNat]?).getD x
theorem relab_ins (A : List TB) (l : List UInt8) : (ins l).map (relab A) = ins l := by
  simp [ins, relab]
theorem applyT_map (g : TB → TB) (hg : ∀ l, (ins l).map g = ins l) (es : List Ed) : ∀ (bs : List TB) (off : Nat), applyT (bs.map g) es off = (applyT bs es off).map g := by
  induction es with
  | nil => intro bs off; simp only [applyT, List.map_drop]
  | cons x xs ih => intro bs off; simp only [applyT, List.map_append, ih, hg, List.map_take, List.map_drop]
theorem trace_relab (A : List TB) : (traceL (A.map TB.v)).map (relab A) = A := by
  apply List.ext_getElem?
  intro i
  rw [List.getElem?_map]
  by_cases h : i < A.length
  · rw [traceL_at (A.map TB.v) i (by rw [List.length_map]; exact h)]
    have : ((i : Int) = -1) = False := by simp
    simp [relab, this, h]
  · rw [List.getElem?_eq_none (by rw [traceL_length, List.length_map]; omega), List.getElem?_eq_none (by omega)]; rfl

theorem assoc_law {src : ByteArray} {a b c : List Ed} (h1 : compC src a b = 0) (h2 : compC (applyB src a) b c = 0) (h3 : compC src (compL src a b) c = 0) (h4 : compC src a (compL (applyB src a) b c) = 0) :
    compL src (compL src a b) c = compL src a (compL (applyB src a) b c) := by
  obtain ⟨p1, p2, p3, p4, p5⟩ := comp_law h1
  obtain ⟨q1, q2, q3, q4, q5⟩ := comp_law h2
  rw [(compC_zero h3).2.2.2, (compC_zero h4).2.2.2]
  have e : compT src (compL src a b) c = compT src a (compL (applyB src a) b c) := by
    rw [compT, p5, compT, compT]
    have hA : (applyB src a).data.toList = (applyT (traceL src.data.toList) a 0).map TB.v := by rw [applyB_data p1, applyT_vals, traceL_vals]
    generalize applyT (traceL src.data.toList) a 0 = A at *
    rw [hA, compT, hA] at q5
    have := congrArg (List.map (relab A)) q5
    rw [← applyT_map _ (relab_ins A), ← applyT_map _ (relab_ins A), ← applyT_map _ (relab_ins A), trace_relab] at this
    exact this.symm
  rw [e]
end Go.Proofs.Ytbnoejdhachhhaa
