/-
  THE PLAIN LAWS of Transform. No Go.
-/
import Derived.Test.YtbnoejdhachhhaaLaws
namespace Go.Proofs.Ytbnoejdhachhhaa
open Go.RowKit

/-- the edits that do not end before i: the first may have begun -/
def OkAt (n : Int) : List Ed → Int → Prop
  | [], _ => True
  | x :: xs, i => i ≤ x.e ∧ x.s ≤ x.e ∧ x.e ≤ n ∧ OkFrom n xs x.e
/-- what is still to come of the result, ahead of the insertion at i -/
def rem (l : List UInt8) : List Ed → Nat → List UInt8
  | [], i => l.drop i
  | x :: xs, i => if x.s < i then applyL l xs x.e.toNat else applyL l (x :: xs) i
/-- behind the insertion at i -/
def rem2 (l : List UInt8) : List Ed → Nat → List UInt8
  | [], i => l.drop i
  | x :: xs, i => if x.s ≤ i then applyL l xs x.e.toNat else applyL l (x :: xs) i

theorem rem_hit (l : List UInt8) (es : List Ed) (i : Nat) : rem l es i = hit es i ++ rem2 l es i := by
  cases es with
  | nil => simp [rem, rem2, hit]
  | cons x xs =>
    simp only [rem, rem2, hit]
    by_cases h1 : x.s < i
    · rw [if_pos h1, if_neg (by omega), if_pos (by omega)]; rfl
    · rw [if_neg h1]
      by_cases h2 : x.s = i
      · rw [if_pos h2, if_pos (by omega), applyL_cons, h2, Int.toNat_natCast, Nat.sub_self, List.take_zero]; rfl
      · rw [if_neg h2, if_neg (by omega)]; rfl
theorem applyL_step {l : List UInt8} {n : Int} {es : List Ed} {p : Int} {k : Nat} (h : OkFrom n es p) (hk : (k : Int) ≤ p) (hl : k < l.length) : applyL l es k = l[k] :: applyL l es (k + 1) := by
  have hd := drop_cons l k hl
  cases es with
  | nil => simp only [applyL]; exact hd
  | cons y ys =>
    obtain ⟨h1, h2, h3, h4⟩ := h
    rw [applyL_cons, applyL_cons, hd, show y.s.toNat - k = (y.s.toNat - (k + 1)) + 1 from by omega, List.take_succ_cons]
    rfl
theorem rem_ok {l : List UInt8} {n : Int} {xs : List Ed} {p : Int} {i : Nat} (h : OkFrom n xs p) (hi : (i : Int) ≤ p + 1) : OkAt n xs i ∧ rem l xs i = applyL l xs i := by
  cases xs with
  | nil => exact ⟨trivial, rfl⟩
  | cons y ys =>
    obtain ⟨h1, h2, h3, h4⟩ := h
    refine ⟨⟨by omega, h2, h3, h4⟩, ?_⟩
    simp only [rem]; rw [if_neg (by omega)]

/-- one round: deletes, then the byte -/
theorem rem_round {l : List UInt8} {n : Int} {es : List Ed} {i : Nat} (h : OkAt n es i) (hl : i < l.length) :
    OkAt n (delDrop es i) ((i + 1 : Nat) : Int) ∧ rem2 l es i = (if delRes es i = false then [l[i]] else []) ++ rem l (delDrop es i) (i + 1) := by
  cases es with
  | nil =>
    refine ⟨trivial, ?_⟩
    show l.drop i = (if false = false then [l[i]] else []) ++ l.drop (i + 1)
    rw [if_pos rfl]
    exact drop_cons l i hl
  | cons x xs =>
    obtain ⟨h1, h2, h3, h4⟩ := h
    by_cases he : x.e ≤ i
    · have hei : x.e = i := by omega
      have hdd : delDrop (x :: xs) i = xs := by
        unfold delDrop
        rw [List.dropWhile_cons_of_pos (by simpa using he)]
        cases xs with
        | nil => rfl
        | cons y ys =>
          obtain ⟨g1, g2, g3, g4⟩ := h4
          rw [List.dropWhile_cons_of_neg (by simp; omega)]
      have hdr : delRes (x :: xs) i = false := by
        unfold delRes
        rw [hdd]
        cases xs with
        | nil => rfl
        | cons y ys => obtain ⟨g1, g2, g3, g4⟩ := h4; simp; omega
      rw [hdd, hdr]
      obtain ⟨k1, k2⟩ := rem_ok (l := l) (i := i + 1) h4 (by omega)
      refine ⟨k1, ?_⟩
      simp only [rem2]
      rw [if_pos (by omega), k2, hei, Int.toNat_natCast, if_pos trivial]
      exact applyL_step h4 (by omega) hl
    · have hdd : delDrop (x :: xs) i = x :: xs := by
        unfold delDrop
        rw [List.dropWhile_cons_of_neg (by simp; omega)]
      have hdr : delRes (x :: xs) i = decide (x.s ≤ i) := by
        unfold delRes
        rw [hdd]
      rw [hdd, hdr]
      refine ⟨⟨by omega, h2, h3, h4⟩, ?_⟩
      simp only [rem2, rem]
      by_cases hs : x.s ≤ i
      · rw [if_pos hs, if_neg (by simpa using hs), if_pos (by omega)]; rfl
      · rw [if_neg hs, if_pos (by simpa using hs), if_neg (by omega)]
        exact applyL_step (n := n) (es := x :: xs) (p := i) ⟨by omega, h2, h3, h4⟩ (by omega) hl
theorem rem_end {l : List UInt8} {es : List Ed} (h : OkAt l.length es l.length) : rem2 l es l.length = [] := by
  cases es with
  | nil => simp [rem2]
  | cons x xs =>
    obtain ⟨h1, h2, h3, h4⟩ := h
    have hxs : xs = [] := by
      cases xs with
      | nil => rfl
      | cons y ys => obtain ⟨g1, g2, g3, _⟩ := h4; omega
    subst hxs
    simp only [rem2]
    rw [if_pos (by omega), applyL, List.drop_of_length_le (by omega)]

/-- one merger: the retained bytes are R's own up to o -/
def Good (R : List UInt8) (o : Int) (m : List TB) : Prop := (∀ y ∈ m, 0 ≤ y.o ∧ y.o < o ∧ (traceL R)[y.o.toNat]? = some y) ∧ m.Pairwise fun a b => a.o < b.o
theorem Good.snoc {R : List UInt8} {o : Nat} {m : List TB} (h : Good R o m) {v : UInt8} (hv : R[o]? = some v) : Good R ((o + 1 : Nat) : Int) (m ++ [⟨v, o⟩]) := by
  obtain ⟨h1, h2⟩ := h
  refine ⟨fun y hy => ?_, ?_⟩
  · rcases List.mem_append.1 hy with hy | hy
    · obtain ⟨a, b, c⟩ := h1 y hy; exact ⟨a, by omega, c⟩
    · simp at hy; subst hy
      obtain ⟨hlt, e⟩ := List.getElem?_eq_some_iff.1 hv
      refine ⟨by simp only; omega, by simp only; omega, ?_⟩
      simp only [Int.toNat_natCast]
      rw [traceL_at R o hlt, e]
  · rw [List.pairwise_append]
    refine ⟨h2, List.pairwise_singleton _ _, fun a ha b hb => ?_⟩
    simp at hb; subst hb
    have := (h1 a ha).2.1
    simp only; omega
theorem Good.more {R : List UInt8} {o o' : Int} {m : List TB} (h : Good R o m) (ho : o ≤ o') : Good R o' m := ⟨fun y hy => by obtain ⟨a, b, c⟩ := h.1 y hy; exact ⟨a, by omega, c⟩, h.2⟩
theorem Good.insO {R : List UInt8} (t : List UInt8) : ∀ (o : Nat) (m : List TB) (rest : List UInt8), Good R o m → R.drop o = t ++ rest → Good R ((o + t.length : Nat) : Int) (m ++ insO t o) ∧ R.drop (o + t.length) = rest := by
  induction t with
  | nil => intro o m rest h hR; simpa [_root_.Go.Proofs.Ytbnoejdhachhhaa.insO] using ⟨h, hR⟩
  | cons b bs ih =>
    intro o m rest h hR
    have hv : R[o]? = some b := by
      have := congrArg (fun l => l[0]?) hR
      simpa using this
    have h2 : R.drop (o + 1) = bs ++ rest := by
      have := congrArg (List.drop 1) hR
      rw [List.drop_drop] at this
      simpa using this
    have := ih (o + 1) (m ++ [⟨b, o⟩]) rest (h.snoc hv) h2
    rw [show o + 1 + bs.length = o + (b :: bs).length from by simp only [List.length_cons]; omega] at this
    simp only [_root_.Go.Proofs.Ytbnoejdhachhhaa.insO]
    rw [List.append_assoc, List.singleton_append, show ((o + 1 : Nat) : Int) = (o : Int) + 1 from by omega] at this
    exact this

/-- one side of the state at the head of round i -/
def Side (l R : List UInt8) (es : List Ed) (o : Int) (m : List TB) (i : Nat) : Prop := OkAt l.length es i ∧ ∃ k : Nat, o = k ∧ R.drop k = rem l es i ∧ Good R k (ret m)
def Side2 (l R : List UInt8) (es : List Ed) (o : Int) (m : List TB) (i : Nat) : Prop := OkAt l.length es i ∧ ∃ k : Nat, o = k ∧ R.drop k = rem2 l es i ∧ Good R k (ret m)

theorem ret_insO (t : List UInt8) : ∀ o : Nat, ret (insO t o) = insO t o := by
  induction t with
  | nil => intro o; rfl
  | cons b bs ih =>
    intro o
    have := ih (o + 1)
    simp only [insO]
    rw [show ((o : Int) + 1) = ((o + 1 : Nat) : Int) from by omega]
    unfold ret at *
    rw [List.filter_cons_of_pos (by simp), this]
theorem Side.ins {l R : List UInt8} {es : List Ed} {o : Int} {m m' : List TB} {i : Nat} (h : Side l R es o m i) (hm : ret m' = ret m ++ ret (insO (hit es i) o)) : Side2 l R es (o + (hit es i).length) m' i := by
  obtain ⟨h1, k, rfl, h2, h3⟩ := h
  rw [rem_hit] at h2
  obtain ⟨g1, g2⟩ := Good.insO (hit es i) k (ret m) _ h3 h2
  refine ⟨h1, k + (hit es i).length, by omega, g2, ?_⟩
  rw [hm, ret_insO]
  exact g1
theorem Side2.keep {l R : List UInt8} {es : List Ed} {o : Int} {m m' : List TB} {i : Nat} (h : Side2 l R es o m i) (hl : i < l.length) (oth : Bool) (hm : ret m' = ret (if delRes es i = false ∧ oth = false then m ++ [⟨l[i], o⟩] else m)) :
    Side l R (delDrop es i) (if delRes es i = false then o + 1 else o) m' (i + 1) := by
  obtain ⟨h1, k, rfl, h2, h3⟩ := h
  obtain ⟨g1, g2⟩ := rem_round h1 hl
  rw [g2] at h2
  refine ⟨g1, ?_⟩
  by_cases hd : delRes es i = false
  · rw [if_pos hd] at h2 ⊢
    have hv : R[k]? = some l[i] := by
      have := congrArg (fun l => l[0]?) h2
      simpa using this
    have hr : R.drop (k + 1) = rem l (delDrop es i) (i + 1) := by
      have := congrArg (List.drop 1) h2
      rw [List.drop_drop] at this
      simpa using this
    refine ⟨k + 1, by omega, hr, ?_⟩
    rw [hm]
    by_cases ho : oth = false
    · rw [if_pos ⟨hd, ho⟩, ret_append]
      have : ret [(⟨l[i], (k : Int)⟩ : TB)] = [⟨l[i], k⟩] := by unfold ret; rw [List.filter_cons_of_pos (by simp)]; rfl
      rw [this]
      exact h3.snoc hv
    · rw [if_neg (fun q => ho q.2)]
      exact h3.more (by omega)
  · rw [if_neg hd] at h2 ⊢
    refine ⟨k, rfl, h2, ?_⟩
    rw [hm, if_neg (fun q => hd q.1)]
    exact h3
end Go.Proofs.Ytbnoejdhachhhaa
