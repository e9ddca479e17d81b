import Derived.Test.YtpibenilagloaaaGreatDoorMxae
import Derived.Test.YtpibenilagloaaaGreatDoorMxay
/-
  The builder, plainly: offsets, extents, bounds.
-/
namespace Go.Proofs.YtpibenilagloaaaGreatDoor
set_option linter.unusedVariables false

mutual
/-- the bytes that a tree spans -/
def Tree.yl : Tree → Nat
  | .mk k t ch => if 100 ≤ k then t.size else yls ch
def yls : List Tree → Nat
  | [] => 0
  | x :: r => x.yl + yls r
end
mutual
/-- what the builder asks of a tree -/
def Tree.ok : Tree → Prop
  | .mk k t ch => (k = 105 → t.size ≤ 281474976710656 ∧ (Lib.atoiAll t.data.toList = .range ∨ ∃ v, Lib.atoiAll t.data.toList = .ok v)) ∧ (k = 60 → ∃ x ∈ ch, x.k < 100) ∧ oks ch
def oks : List Tree → Prop
  | [] => True
  | x :: r => x.ok ∧ oks r
end
theorem oks_mem : ∀ {l : List Tree}, oks l → ∀ x ∈ l, x.ok
  | [], _, x, h => by cases h
  | y :: r, hl, x, h => by
    unfold oks at hl
    rcases List.mem_cons.1 h with rfl | h
    · exact hl.1
    · exact oks_mem hl.2 x h
theorem oks_of : ∀ {l : List Tree}, (∀ x ∈ l, x.ok) → oks l
  | [], _ => by unfold oks; trivial
  | y :: r, h => by unfold oks; exact ⟨h y (by simp), oks_of fun x hx => h x (by simp [hx])⟩
theorem Tree.yl_leaf {x : Tree} (h : 100 ≤ x.k) : x.yl = x.t.size := by cases x; unfold Tree.yl; exact if_pos h
theorem Tree.yl_node {x : Tree} (h : ¬ 100 ≤ x.k) : x.yl = yls x.ch := by cases x; unfold Tree.yl; exact if_neg h
theorem wts_append : ∀ (a b : List Tree), wts (a ++ b) = wts a + wts b
  | [], b => by simp [wts]
  | x :: r, b => by rw [List.cons_append, wts, wts, wts_append r b]; omega
theorem yls_append : ∀ (a b : List Tree), yls (a ++ b) = yls a + yls b
  | [], b => by simp [yls]
  | x :: r, b => by rw [List.cons_append, yls, yls, yls_append r b]; omega
mutual
theorem yl_le_wt : ∀ (x : Tree), x.yl ≤ x.wt
  | .mk k t ch => by
    unfold Tree.yl Tree.wt
    have := yls_le_wts ch
    split <;> omega
theorem yls_le_wts : ∀ (l : List Tree), yls l ≤ wts l
  | [] => by simp [yls, wts]
  | x :: r => by unfold yls wts; have := yl_le_wt x; have := yls_le_wts r; omega
end
theorem Tree.wt_pos (x : Tree) : x.t.size + 1 ≤ x.wt := by cases x; simp only [Tree.wt, Tree.t]; omega

/- THE OFFSET -/
theorem tokB_off (k : Int) (t : ByteArray) (b : BS) : (tokB k t b).off = b.off + t.size := by
  unfold tokB
  simp only
  split
  · split <;> rfl
  · split
    · unfold identB; split <;> rfl
    · split
      · unfold intB; split <;> rfl
      · split <;> rfl
theorem finB_off (h : Hd) (b : BS) : (finB h b).off = b.off := by
  unfold finB
  split
  · rfl
  · split <;> rfl
mutual
theorem nodeL_off (src : ByteArray) : ∀ (x : Tree) (b : BS), ¬ 100 ≤ x.k → (nodeL src x b).2.off = b.off + x.yl
  | .mk k t ch, b, h => by
    unfold nodeL
    simp only
    rw [finB_off, kidsL_off src ch _, Tree.yl_node h]
    rfl
theorem kidsL_off (src : ByteArray) : ∀ (l : List Tree) (s : NS), (kidsL src l s).b.off = s.b.off + yls l
  | [], s => by simp [kidsL, yls]
  | x :: r, s => by
    by_cases h : 100 ≤ x.k
    · rw [kidsL_tok h, kidsL_off src r _]
      simp only
      rw [tokB_off, yls, Tree.yl_leaf h]; omega
    · rw [kidsL_node h, kidsL_off src r _]
      simp only
      rw [nodeL_off src x s.b h, yls]; omega
end
/- THE DIAGNOSTICS -/
theorem uqG_len (l : List UInt8) : ∀ (n i : Nat), (uqG l n i).2.length ≤ n
  | 0, i => by simp [uqG]
  | n + 1, i => by
    unfold uqG
    simp only
    have h1 := uqG_len l n (i + 1)
    have h2 := uqG_len l n (i + 2)
    split
    · split
      · split
        · simp only; omega
        · split
          · simp only; omega
          · simp only [List.length_cons]; omega
      · simp only; omega
    · simp
theorem tokB_ds (k : Int) (t : ByteArray) (b : BS) : (tokB k t b).ds.length ≤ b.ds.length + t.size + 1 := by
  unfold tokB
  simp only
  split
  · split <;> simp [BS.rep] <;> omega
  · split
    · unfold identB; split <;> simp [BS.rep] <;> omega
    · split
      · unfold intB; split <;> simp [BS.rep] <;> omega
      · split
        · have := uqG_len t.data.toList t.size 1
          simp [unqB]; omega
        · simp only; omega
theorem finB_ds (h : Hd) (b : BS) : (finB h b).ds.length ≤ b.ds.length + 1 := by
  unfold finB
  split
  · omega
  · split
    · simp [BS.rep]
    · omega
mutual
theorem nodeL_ds (src : ByteArray) : ∀ (x : Tree) (b : BS), (nodeL src x b).2.ds.length ≤ b.ds.length + x.wt
  | .mk k t ch, b => by
    unfold nodeL Tree.wt
    simp only
    have h1 := finB_ds (maxH (kidsL src ch ⟨newH k b.off, [], b⟩).h) (kidsL src ch ⟨newH k b.off, [], b⟩).b
    have h2 := kidsL_ds src ch ⟨newH k b.off, [], b⟩
    simp only at h2
    omega
theorem kidsL_ds (src : ByteArray) : ∀ (l : List Tree) (s : NS), (kidsL src l s).b.ds.length ≤ s.b.ds.length + wts l
  | [], s => by simp [kidsL, wts]
  | x :: r, s => by
    by_cases h : 100 ≤ x.k
    · rw [kidsL_tok h, wts]
      have h1 := kidsL_ds src r ⟨tokH s.h x.k x.t s.b.off (s.b.off + x.t.size), s.ch, tokB x.k x.t s.b⟩
      have h2 := tokB_ds x.k x.t s.b
      have h3 := x.wt_pos
      simp only at h1
      omega
    · rw [kidsL_node h, wts]
      have h1 := kidsL_ds src r ⟨extendH s.h (nodeL src x s.b).1.h.s (nodeL src x s.b).1.h.e, s.ch ++ [(nodeL src x s.b).1], (nodeL src x s.b).2⟩
      have h2 := nodeL_ds src x s.b
      simp only at h1
      omega
end
/- THE EXTENT -/
/-- between s0 and o: nothing is covered yet, or the bytes from h.s to h.e are -/
def Ext (h : Hd) (s0 o : Int) : Prop := (h.e < 0 ∧ h.s = s0) ∨ (s0 ≤ h.s ∧ h.s ≤ h.e ∧ h.e ≤ o)
theorem Ext.extend {h h' : Hd} {s0 o s e o' : Int} (H : Ext h s0 o) (hs : h'.s = h.s) (he : h'.e = h.e) (h0 : 0 ≤ s0) (h1 : s0 ≤ o) (h2 : o ≤ s) (h3 : s ≤ e) (h4 : e ≤ o') : Ext (extendH h' s e) s0 o' := by
  unfold Ext extendH at *
  rw [hs, he]
  simp only
  right
  rcases H with ⟨a, b⟩ | ⟨a, b, c⟩
  · rw [if_pos a]; omega
  · split <;> omega
theorem Ext.more {h : Hd} {s0 o o' : Int} (H : Ext h s0 o) (ho : o ≤ o') : Ext h s0 o' := by
  unfold Ext at *; omega
theorem setFlagH_ext (h : Hd) (t : ByteArray) : (setFlagH h t).s = h.s ∧ (setFlagH h t).e = h.e ∧ (setFlagH h t).k = h.k := by
  unfold setFlagH
  split
  · exact ⟨rfl, rfl, rfl⟩
  · split
    · exact ⟨rfl, rfl, rfl⟩
    · split
      · exact ⟨rfl, rfl, rfl⟩
      · split
        · exact ⟨rfl, rfl, rfl⟩
        · split <;> exact ⟨rfl, rfl, rfl⟩
theorem identH_ext (h : Hd) (t : ByteArray) (s : Int) : (identH h t s).s = h.s ∧ (identH h t s).e = h.e ∧ (identH h t s).k = h.k := by
  unfold identH; split <;> exact ⟨rfl, rfl, rfl⟩
theorem tokH_k (h : Hd) (k : Int) (t : ByteArray) (s e : Int) : (tokH h k t s e).k = h.k := by
  unfold tokH
  split
  · rfl
  · split
    · split <;> rfl
    · split
      · exact (identH_ext h t s).2.2
      · split
        · rfl
        · split
          · rfl
          · exact (setFlagH_ext h t).2.2
theorem Ext.tok {h : Hd} {s0 o : Int} (H : Ext h s0 o) (h0 : 0 ≤ s0) (h1 : s0 ≤ o) (k : Int) (t : ByteArray) : Ext (tokH h k t o (o + t.size)) s0 (o + t.size) := by
  have h2 : o ≤ o + t.size := by omega
  unfold tokH
  split
  · exact H.more h2
  · split
    · split
      · exact H.more h2
      · exact H.extend rfl rfl h0 h1 (Int.le_refl _) h2 (Int.le_refl _)
    · split
      · exact H.extend (identH_ext h t o).1 (identH_ext h t o).2.1 h0 h1 (Int.le_refl _) h2 (Int.le_refl _)
      · split
        · exact H.extend (by rfl) (by rfl) h0 h1 (Int.le_refl _) h2 (Int.le_refl _)
        · split
          · exact H.extend (by rfl) (by rfl) h0 h1 (Int.le_refl _) h2 (Int.le_refl _)
          · exact H.extend (setFlagH_ext h t).1 (setFlagH_ext h t).2.1 h0 h1 (Int.le_refl _) h2 (Int.le_refl _)
theorem finN_ext (src : ByteArray) (h : Hd) (ch : List Node) : (finN src h ch).h.s = h.s ∧ (finN src h ch).h.e = h.e := by
  unfold finN
  split
  · exact ⟨rfl, rfl⟩
  · split <;> exact ⟨rfl, rfl⟩
theorem maxH_ext {h : Hd} {s0 o : Int} (H : Ext h s0 o) (h0 : 0 ≤ s0) (h1 : s0 ≤ o) : s0 ≤ (maxH h).s ∧ (maxH h).s ≤ (maxH h).e ∧ (maxH h).e ≤ o := by
  unfold maxH Ext at *
  simp only
  rcases H with ⟨a, b⟩ | ⟨a, b, c⟩
  · omega
  · omega
mutual
theorem nodeL_ext (src : ByteArray) : ∀ (x : Tree) (b : BS), ¬ 100 ≤ x.k → 0 ≤ b.off → b.off ≤ (nodeL src x b).1.h.s ∧ (nodeL src x b).1.h.s ≤ (nodeL src x b).1.h.e ∧ (nodeL src x b).1.h.e ≤ b.off + x.yl
  | .mk k t ch, b, h, h0 => by
    unfold nodeL
    simp only
    have e := kidsL_ext src ch ⟨newH k b.off, [], b⟩ b.off h0 (Int.le_refl _) (.inl ⟨show (-1 : Int) < 0 by decide, rfl⟩)
    simp only at e
    have m := maxH_ext e h0 (by omega)
    obtain ⟨f1, f2⟩ := finN_ext src (maxH (kidsL src ch ⟨newH k b.off, [], b⟩).h) (kidsL src ch ⟨newH k b.off, [], b⟩).ch
    rw [f1, f2, Tree.yl_node h]
    exact m
theorem kidsL_ext (src : ByteArray) : ∀ (l : List Tree) (s : NS) (s0 : Int), 0 ≤ s0 → s0 ≤ s.b.off → Ext s.h s0 s.b.off → Ext (kidsL src l s).h s0 (s.b.off + yls l)
  | [], s, s0, h0, h1, H => by simpa [kidsL, yls] using H
  | x :: r, s, s0, h0, h1, H => by
    by_cases h : 100 ≤ x.k
    · rw [kidsL_tok h, yls, Tree.yl_leaf h]
      have := kidsL_ext src r ⟨tokH s.h x.k x.t s.b.off (s.b.off + x.t.size), s.ch, tokB x.k x.t s.b⟩ s0 h0 (by simp only; rw [tokB_off]; omega) (by simp only; rw [tokB_off]; exact H.tok h0 h1 x.k x.t)
      simp only at this
      rw [tokB_off] at this
      rw [show s.b.off + ((x.t.size + yls r : Nat) : Int) = s.b.off + x.t.size + yls r by omega]
      exact this
    · rw [kidsL_node h, yls]
      have e := nodeL_ext src x s.b h (by omega)
      have o := nodeL_off src x s.b h
      have := kidsL_ext src r ⟨extendH s.h (nodeL src x s.b).1.h.s (nodeL src x s.b).1.h.e, s.ch ++ [(nodeL src x s.b).1], (nodeL src x s.b).2⟩ s0 h0 (by simp only; rw [o]; omega) (by simp only; rw [o]; exact H.extend rfl rfl h0 h1 e.1 e.2.1 e.2.2)
      simp only at this
      rw [o] at this
      rw [show s.b.off + ((x.yl + yls r : Nat) : Int) = s.b.off + x.yl + yls r by omega]
      exact this
end
/- CHILDREN -/
theorem kidsL_len (src : ByteArray) : ∀ (l : List Tree) (s : NS), s.ch.length ≤ (kidsL src l s).ch.length ∧ (kidsL src l s).ch.length ≤ s.ch.length + l.length
  | [], s => by simp [kidsL]
  | x :: r, s => by
    by_cases h : 100 ≤ x.k
    · rw [kidsL_tok h]
      have := kidsL_len src r ⟨tokH s.h x.k x.t s.b.off (s.b.off + x.t.size), s.ch, tokB x.k x.t s.b⟩
      simp only [List.length_cons] at this ⊢
      omega
    · rw [kidsL_node h]
      have := kidsL_len src r ⟨extendH s.h (nodeL src x s.b).1.h.s (nodeL src x s.b).1.h.e, s.ch ++ [(nodeL src x s.b).1], (nodeL src x s.b).2⟩
      simp only [List.length_cons, List.length_append, List.length_nil] at this ⊢
      omega
theorem kidsL_ne (src : ByteArray) : ∀ (l : List Tree) (s : NS), (∃ x ∈ l, x.k < 100) → (kidsL src l s).ch ≠ []
  | [], s, h => by obtain ⟨x, hx, _⟩ := h; cases hx
  | x :: r, s, h => by
    by_cases hk : 100 ≤ x.k
    · rw [kidsL_tok hk]
      refine kidsL_ne src r _ ?_
      obtain ⟨y, hy, hlt⟩ := h
      rcases List.mem_cons.1 hy with rfl | hy
      · omega
      · exact ⟨y, hy, hlt⟩
    · rw [kidsL_node hk]
      intro e
      have := (kidsL_len src r ⟨extendH s.h (nodeL src x s.b).1.h.s (nodeL src x s.b).1.h.e, s.ch ++ [(nodeL src x s.b).1], (nodeL src x s.b).2⟩).1
      rw [e] at this
      simp at this
theorem kidsL_k (src : ByteArray) : ∀ (l : List Tree) (s : NS), (kidsL src l s).h.k = s.h.k
  | [], s => by simp [kidsL]
  | x :: r, s => by
    by_cases h : 100 ≤ x.k
    · rw [kidsL_tok h, kidsL_k src r _]
      exact tokH_k _ _ _ _ _
    · rw [kidsL_node h, kidsL_k src r _]
      rfl
theorem len_le_wts : ∀ (l : List Tree), l.length ≤ wts l
  | [] => by simp
  | x :: r => by rw [wts, List.length_cons]; have := x.wt_pos; have := len_le_wts r; omega
end Go.Proofs.YtpibenilagloaaaGreatDoor

/-
  The builder's node: finish at any node, the state of the loop over the children.
-/
namespace Go.Proofs.YtpibenilagloaaaGreatDoor
open Go.RowKit
set_option linter.unusedVariables false

theorem TreesV.get {w : World} {F : Nat → Prop} : ∀ (xs : List Tree) (b i k : Nat) (x : Tree), TreesV w F xs b i → xs[k]? = some x → ∃ v0 v1 v2, w.cell? ⟨b, i + k * 3, none⟩ = some v0 ∧ w.cell? ⟨b, i + k * 3 + 1, none⟩ = some v1 ∧ w.cell? ⟨b, i + k * 3 + 2, none⟩ = some v2 ∧ TreeV w F x v0 v1 v2
  | [], _, _, _, _, _, h => by simp at h
  | y :: r, b, i, 0, x, h, hk => by
    simp at hk; subst hk
    unfold TreesV at h
    rw [Nat.zero_mul, Nat.add_zero]
    exact h.1
  | y :: r, b, i, k + 1, x, h, hk => by
    unfold TreesV at h
    have := TreesV.get r b (i + 3) k x h.2 (by simpa using hk)
    rw [show i + (k + 1) * 3 = i + 3 + k * 3 by omega]
    exact this
/-- what finish leaves -/
def FinPost (M : MM) (w : World) (F : Nat → Prop) (p : Nat) (src : ByteArray) (b : BS) (n : Node) (e : Ending) (w' : World) : Prop :=
  ∃ us M', e = .returned (.agg us.toArray) ∧ NodeV w' F n us ∧ BAt w' p M' src b ∧ Step M w M' w'
theorem nfinish_any (w : World) (p : Nat) (M : MM) (src : ByteArray) (b : BS) (hB : BAt w p M src b) (h : Hd) (ch : List Node) (A : Option Addr) (c : Nat) (F : Nat → Prop)
    (hV : ch = [] ∨ ∃ b off, A = some ⟨b, off, none⟩ ∧ F b ∧ NodesV w F ch b off) (hF : ∀ g, F g → g < w.heap.size ∧ ¬ M g) (h60 : h.k = 60 → ch ≠ []) (h46 : h.k = 46 → 0 ≤ h.s ∧ h.s ≤ h.e ∧ h.e ≤ src.size) (hl : b.ds.length ≤ 1000000) :
    Calls Tryz.prog 89 #[.pointer (some ⟨p, 0, none⟩), .agg #[.int .i64 h.k, .int .i64 h.v, .string h.t, .int .i64 h.s, .int .i64 h.e, .int .i64 h.nm, .slice A ch.length c]] w (FinPost M w F p src (finB h b) (finN src h ch)) := by
  have keep : ∀ {w'}, Below w.heap.size w w' → ∀ g, F g → w'.heap[g]? = w.heap[g]? := fun hb g hg => hb.block g (hF g hg).1
  by_cases k1 : h.k = 60
  · obtain ⟨b0, off, rfl, hb, hN⟩ := hV.resolve_left (h60 k1)
    cases ch with
    | nil => exact absurd rfl (h60 k1)
    | cons x r =>
      have hx := hN
      unfold NodesV at hx
      obtain ⟨⟨vs, hv, hc⟩, _⟩ := hx
      obtain ⟨A2, c2, rfl, hd⟩ := hv.vals
      refine (finish_paren w p h x.h b0 off (x :: r).length c x.ch.length c2 A2 k1 (by simp) (hc 0 _ rfl) (hc 1 _ rfl) (hc 2 _ rfl) (hc 3 _ rfl) (hc 4 _ rfl) (hc 5 _ rfl) (hc 6 _ rfl) (hF b0 hb).1).mono ?_
      rintro e w' ⟨rfl, hbw⟩
      have e1 : finN src h (x :: r) = .mk { x.h with s := h.s, e := h.e } x.ch := by unfold finN; rw [if_pos k1]; rfl
      have e2 : finB h b = b := by unfold finB; rw [if_pos k1]
      rw [e1, e2]
      refine ⟨_, M, rfl, ?_, hB.below hbw, Step.of_below hbw⟩
      unfold NodeV
      refine ⟨A2, c2, rfl, ?_⟩
      rcases hd with hd | ⟨b1, o1, rfl, hb1, hn1⟩
      · exact .inl hd
      · exact .inr ⟨b1, o1, rfl, hb1, NodesV.keep (fun _ h => h) (keep hbw) _ _ _ hb1 hn1⟩
  by_cases k2 : h.k = 46
  · obtain ⟨g1, g2, g3⟩ := h46 k2
    refine (finish_error w p M src b hB h A ch.length c k2 g1 g2 g3 hl).mono ?_
    rintro e w' ⟨rfl, M', h1, h2⟩
    have e1 : finN src h ch = .mk ⟨46, 0, src.extract h.s.toNat h.e.toNat, h.s, h.e, -1⟩ [] := by unfold finN; rw [if_neg k1, if_pos k2]
    have e2 : finB h b = b.rep (if h.s = h.e then 1 else 2) h.s h.e := by unfold finB; rw [if_neg k1, if_pos k2]
    rw [e1, e2]
    refine ⟨_, M', rfl, ?_, h1, h2⟩
    unfold NodeV
    exact ⟨none, 0, rfl, .inl rfl⟩
  · refine (finish_same w p M src b hB h A ch.length c k1 k2).mono ?_
    rintro e w' ⟨rfl, hbw⟩
    have e1 : finN src h ch = .mk h ch := by unfold finN; rw [if_neg k1, if_neg k2]
    have e2 : finB h b = b := by unfold finB; rw [if_neg k1, if_neg k2]
    rw [e1, e2]
    refine ⟨_, M, rfl, ?_, hB.below hbw, Step.of_below hbw⟩
    unfold NodeV
    refine ⟨A, c, rfl, ?_⟩
    rcases hV with hd | ⟨b1, o1, rfl, hb1, hn1⟩
    · exact .inl hd
    · exact .inr ⟨b1, o1, rfl, hb1, NodesV.keep (fun _ h => h) (keep hbw) _ _ _ hb1 hn1⟩

/-- blocks of finished nodes -/
def NF (B : Nat) (vb v : Value) (w : World) (c : Nat) : Prop := B + 3 ≤ c ∧ c < w.heap.size ∧ vb.ownBlock ≠ some c ∧ v.ownBlock ≠ some c
/-- the state of node's loop: from world w on, builder p, the tree's own values, the node so far -/
structure NIn (w : World) (p : Nat) (M : MM) (src : ByteArray) (k0 : Int) (t0 : ByteArray) (sl : Value) (wr : World) (s : NS) (vb v : Value) (xs : List Value) : Prop where
  bat : BAtX wr p (Tight p vb M.x) src s.b vb
  step : Step M w (Tight p vb M.x) wr
  box : wr.heap[w.heap.size]? = some (.cells #[.int .i64 k0, .string t0, sl] 121 (0, 0))
  res : wr.heap[w.heap.size + 1]? = some (.cells #[.int .i64 0, .int .i64 0, .string ⟨#[]⟩, .int .i64 0, .int .i64 0, .int .i64 0, .slice none 0 0] 57 (0, 0))
  node : HAt wr (w.heap.size + 2) s.h v
  row : wr.ownsRow (w.heap.size + 3) 57 7 v s.ch.length xs
  rown : RowN wr (NF w.heap.size vb v wr) s.ch xs
  apart : ∀ g, v.ownBlock = some g → vb.ownBlock ≠ some g
  out : ∀ g, vb.ownBlock = some g → g < w.heap.size ∨ w.heap.size + 3 ≤ g
  pw : p < w.heap.size
theorem NIn.tight {w : World} {p : Nat} {M : MM} {src : ByteArray} {k0 : Int} {t0 : ByteArray} {sl : Value} {wr : World} {s : NS} {vb v : Value} {xs : List Value} (h : NIn w p M src k0 t0 sl wr s vb v xs) : (∀ c, Tight p vb M.x c → c < wr.heap.size) ∧ (∀ i, i < 3 → ¬ Tight p vb M.x (w.heap.size + i)) ∧ (∀ g, v.ownBlock = some g → ¬ Tight p vb M.x g) :=
  ⟨fun c hc => hc.elim (fun e => e ▸ h.bat.lt) (fun e => (h.bat.row.lt _ e).2), fun i hi e => e.elim (fun e => by have := h.pw; omega) (fun e => (h.out _ e).elim (fun e => by omega) (fun e => by omega)), fun g hg e => e.elim (fun e => by have := (h.row.lt g hg).1; have := h.pw; omega) (fun e => h.apart g hg e)⟩
theorem NIn.below {w : World} {p : Nat} {M : MM} {src : ByteArray} {k0 : Int} {t0 : ByteArray} {sl : Value} {wr wr' : World} {s : NS} {vb v : Value} {xs : List Value} (h : NIn w p M src k0 t0 sl wr s vb v xs) (hb : Below wr.heap.size wr wr') : NIn w p M src k0 t0 sl wr' s vb v xs := by
  have hs := hb.size
  have hB : BAtX wr' p (Tight p vb M.x) src s.b vb := by
    have hx := h.bat
    exact ⟨(hb.block _ hx.lt).trans hx.blk, ownsRow_below hx.row fun g hg => hb.block g (hx.row.lt g hg).2, hx.mp, hx.mr, hx.gl.keep hs (fun b h => hb.block b (Nat.lt_of_lt_of_le h hx.gl.big)), hx.glM⟩
  refine ⟨hB, h.step.below (hb.mono h.step.size), (hb.block _ (lt_of_heap h.box)).trans h.box, (hb.block _ (lt_of_heap h.res)).trans h.res, h.node.keep (hb.block _ (lt_of_heap h.node)), ownsRow_below h.row fun g hg => hb.block g (h.row.lt g hg).2, ?_, h.apart, h.out, h.pw⟩
  exact RowN.keep (fun c hc => ⟨hc.1, Nat.lt_of_lt_of_le hc.2.1 hs, hc.2.2⟩) (fun c hc => hb.block c hc.2.1) _ _ h.rown
/-- a call that writes the builder alone -/
theorem NIn.call {w : World} {p : Nat} {M M' : MM} {src : ByteArray} {k0 : Int} {t0 : ByteArray} {sl : Value} {wr wr' : World} {s : NS} {vb v : Value} {xs : List Value} (h : NIn w p M src k0 t0 sl wr s vb v xs) {b' : BS} (hB : BAt wr' p M' src b') (hS : Step (Tight p vb M.x) wr M' wr') : ∃ vb', NIn w p M src k0 t0 sl wr' { s with b := b' } vb' v xs ∧ ∀ c, Tight p vb' M.x c → M' c := by
  obtain ⟨vb', hX⟩ := hB
  obtain ⟨t1, t2, t3⟩ := h.tight
  have hMx : M'.x = M.x := hS.hx
  have hT := hX.tight
  rw [hMx] at hT
  have hin : ∀ c, Tight p vb' M.x c → M' c := fun c hc => hc.elim (fun e => e ▸ hX.mp) (fun e => (hX.mr c e).1)
  have far : ∀ c, c < wr.heap.size → ¬ Tight p vb M.x c → wr'.heap[c]? = wr.heap[c]? ∧ ¬ Tight p vb' M.x c := fun c hc hn => ⟨hS.block c hc hn, fun e => (hS.own c (hin c e)).elim hn (fun e => by omega)⟩
  have hS2 : Step (Tight p vb M.x) wr (Tight p vb' M.x) wr' := ⟨hS.os, hS.tape, hS.output, hS.size, hS.block, fun c hc => hS.own c (hin c hc), rfl⟩
  have l0 := lt_of_heap h.box
  have l1 := lt_of_heap h.res
  have l2 := lt_of_heap h.node
  have f0 := far _ l0 (t2 0 (by omega))
  have f1 := far _ l1 (t2 1 (by omega))
  have f2 := far _ l2 (t2 2 (by omega))
  refine ⟨vb', ⟨hT, h.step.trans hS2, f0.1.trans h.box, f1.1.trans h.res, h.node.keep f2.1, ownsRow_below h.row fun g hg => (far g (h.row.lt g hg).2 (t3 g hg)).1, ?_, ?_, ?_, h.pw⟩, hin⟩
  · refine RowN.keep (fun c hc => ?_) (fun c hc => ?_) _ _ h.rown
    · have hn : ¬ Tight p vb M.x c := fun e => e.elim (fun e => by have := hc.1; have := h.pw; omega) hc.2.2.1
      exact ⟨hc.1, Nat.lt_of_lt_of_le hc.2.1 hS.size, fun e => (far c hc.2.1 hn).2 (.inr e), hc.2.2.2⟩
    · have hn : ¬ Tight p vb M.x c := fun e => e.elim (fun e => by have := hc.1; have := h.pw; omega) hc.2.2.1
      exact (far c hc.2.1 hn).1
  · exact fun g hg e => (far g (h.row.lt g hg).2 (t3 g hg)).2 (.inr e)
  · intro g hg
    rcases hS2.own g (.inr hg) with e | e
    · rcases e with e | e
      · exact .inl (e ▸ h.pw)
      · exact h.out g e
    · right; omega
/-- the node's own cells turn -/
theorem NIn.upd {w : World} {p : Nat} {M : MM} {src : ByteArray} {k0 : Int} {t0 : ByteArray} {sl : Value} {wr wr' : World} {s : NS} {vb v : Value} {xs : List Value} (h : NIn w p M src k0 t0 sl wr s vb v xs) (hu : Upd (w.heap.size + 2) wr wr') {h' : Hd} (hn : HAt wr' (w.heap.size + 2) h' v) : NIn w p M src k0 t0 sl wr' { s with h := h' } vb v xs := by
  obtain ⟨t1, t2, t3⟩ := h.tight
  have hgl := h.bat.gl.big
  have hsz := h.step.size
  have hng : ng ≤ w.heap.size + 2 := by
    have := h.bat.glM p (.inl rfl)
    have := h.pw
    omega
  have hB : BAtX wr' p (Tight p vb M.x) src s.b vb := by
    have hx := h.bat
    have k : ∀ c, Tight p vb M.x c → wr'.heap[c]? = wr.heap[c]? := fun c hc => hu.block c (by rintro rfl; exact t2 2 (by omega) hc)
    exact ⟨(k _ hx.mp).trans hx.blk, ownsRow_below hx.row fun g hgv => k _ (hx.mr g hgv).1, hx.mp, hx.mr, hx.gl.keep (Nat.le_of_eq hu.size.symm) (fun c hc => hu.block c (by omega)), hx.glM⟩
  refine ⟨hB, h.step.upd hu (by omega), (hu.block _ (by omega)).trans h.box, (hu.block _ (by omega)).trans h.res, hn, ownsRow_below h.row fun g hg => hu.block g (by have := (h.row.lt g hg).1; omega), ?_, h.apart, h.out, h.pw⟩
  exact RowN.keep (fun c hc => ⟨hc.1, by rw [hu.size]; exact hc.2.1, hc.2.2⟩) (fun c hc => hu.block c (by have := hc.1; omega)) _ _ h.rown
/-- a child more -/
theorem NIn.push {w : World} {p : Nat} {M : MM} {src : ByteArray} {k0 : Int} {t0 : ByteArray} {sl : Value} {wr w2 : World} {s : NS} {vb v v' : Value} {xs us : List Value} (h : NIn w p M src k0 t0 sl wr s vb v xs) {x : Node} (hx : NodeV wr (NF w.heap.size vb v wr) x us)
    (hg : wr.grownBy w2 v.ownBlock) (ho : w2.ownsRow (w.heap.size + 3) 57 7 v' (s.ch.length + 1) (xs ++ us)) (hat : v'.ownBlock = v.ownBlock ∨ ∃ g, v'.ownBlock = some g ∧ wr.heap.size ≤ g) {w3 : World} (hu : Upd (w.heap.size + 2) w2 w3) (hn : HAt w3 (w.heap.size + 2) s.h v') :
    NIn w p M src k0 t0 sl w3 { s with ch := s.ch ++ [x] } vb v' (xs ++ us) := by
  obtain ⟨t1, t2, t3⟩ := h.tight
  have hsz := h.step.size
  have hng : ng ≤ w.heap.size + 2 := by
    have := h.bat.glM p (.inl rfl)
    have := h.pw
    omega
  have l0 := lt_of_heap h.box
  have l1 := lt_of_heap h.res
  have l2 := lt_of_heap h.node
  have hvlt := h.row.lt
  -- blocks that stay
  have far : ∀ c, c < wr.heap.size → c ≠ w.heap.size + 2 → v.ownBlock ≠ some c → w3.heap[c]? = wr.heap[c]? := fun c hc hne hv => (hu.block c hne).trans (hg.block c hc (fun e => hv e.symm))
  have hv3 : ∀ c, c < w.heap.size + 3 → v.ownBlock ≠ some c := fun c hc e => by have := (hvlt c e).1; omega
  have hB : BAtX w3 p (Tight p vb M.x) src s.b vb := by
    have hx := h.bat
    have hpw := h.pw
    have k : ∀ c, Tight p vb M.x c → w3.heap[c]? = wr.heap[c]? := fun c hc => far c (t1 c hc) (by rintro rfl; exact t2 2 (by omega) hc) (fun e => t3 c e hc)
    exact ⟨(k _ hx.mp).trans hx.blk, ownsRow_below hx.row fun g hgv => k _ (hx.mr g hgv).1, hx.mp, hx.mr, hx.gl.keep (by rw [hu.size]; exact hg.size) (fun c hc => far c (Nat.lt_of_lt_of_le hc hx.gl.big) (by omega) (hv3 c (by omega))), hx.glM⟩
  have hsub : ∀ c, NF w.heap.size vb v wr c → NF w.heap.size vb v' w3 c := fun c hc => by
    refine ⟨hc.1, by rw [hu.size]; exact Nat.lt_of_lt_of_le hc.2.1 hg.size, hc.2.2.1, fun e => ?_⟩
    rcases hat with e2 | ⟨g, e2, hge⟩
    · exact hc.2.2.2 (by rw [← e2]; exact e)
    · rw [e2] at e; injection e with e; have := hc.2.1; omega
  have hkp : ∀ c, NF w.heap.size vb v wr c → w3.heap[c]? = wr.heap[c]? := fun c hc => far c hc.2.1 (by have := hc.1; omega) hc.2.2.2
  refine ⟨hB, ⟨hu.os.trans (hg.os.trans h.step.os), hu.tape.trans (hg.tape.trans h.step.tape), hu.output.trans (hg.output.trans h.step.output), by rw [hu.size]; exact Nat.le_trans hsz hg.size, fun c hc hM => (far c (by omega) (by omega) (hv3 c (by omega))).trans (h.step.block c hc hM), h.step.own, h.step.hx⟩,
    (far _ l0 (by omega) (hv3 _ (by omega))).trans h.box, (far _ l1 (by omega) (hv3 _ (by omega))).trans h.res, hn, ?_, ?_, ?_, h.out, h.pw⟩
  · simp only [List.length_append, List.length_singleton]
    exact ownsRow_below ho fun g hgv => hu.block g (by have := (ho.lt g hgv).1; omega)
  · exact RowN.snoc (NodeV.keep hsub hkp _ _ hx) _ _ (RowN.keep hsub hkp _ _ h.rown)
  · intro g hg2 e
    rcases hat with e2 | ⟨g', e2, hge⟩
    · exact h.apart g (by rw [← e2]; exact hg2) e
    · rw [e2] at hg2; injection hg2 with hg2; subst hg2
      have := (h.bat.row.lt _ e).2
      omega

theorem set7 (xs : List Value) (n : Nat) (h : xs.length = n * 7) (z0 z1 z2 z3 z4 z5 z6 u0 u1 u2 u3 u4 u5 u6 : Value) : (((((((xs ++ [z0, z1, z2, z3, z4, z5, z6]).set (n * 7) u0).set (n * 7 + 1) u1).set (n * 7 + 2) u2).set (n * 7 + 3) u3).set (n * 7 + 4) u4).set (n * 7 + 5) u5).set (n * 7 + 6) u6 = xs ++ [u0, u1, u2, u3, u4, u5, u6] := by
  rw [← h]
  simp [List.set_append_right]
/-- .. as the code does it: an element of zeros, its cells, the slice -/
theorem NIn.add {w : World} {p : Nat} {M : MM} {src : ByteArray} {k0 : Int} {t0 : ByteArray} {sl : Value} {wr w2 : World} {s : NS} {vb v : Value} {xs : List Value} (h : NIn w p M src k0 t0 sl wr s vb v xs) {x : Node} {u0 u1 u2 u3 u4 u5 u6 : Value} (hx : NodeV wr (NF w.heap.size vb v wr) x [u0, u1, u2, u3, u4, u5, u6])
    {n gg cap : Nat} (hn : s.ch.length = n) (hg : wr.grownBy w2 v.ownBlock) {z0 z1 z2 z3 z4 z5 z6 : Value} (ho : w2.ownsRow (w.heap.size + 3) 57 7 (.slice (some ⟨gg, 0, none⟩) (n + 1) cap) (n + 1) (xs ++ [z0, z1, z2, z3, z4, z5, z6])) (hat : v.ownBlock = some gg ∨ wr.heap.size ≤ gg) {wf : World}
    (hwf : (((((((w2.setCell ⟨gg, n * 7, none⟩ u0).setCell ⟨gg, n * 7 + 1, none⟩ u1).setCell ⟨gg, n * 7 + 2, none⟩ u2).setCell ⟨gg, n * 7 + 3, none⟩ u3).setCell ⟨gg, n * 7 + 4, none⟩ u4).setCell ⟨gg, n * 7 + 5, none⟩ u5).setCell ⟨gg, n * 7 + 6, none⟩ u6).setCell ⟨w.heap.size + 1 + 1, 6, none⟩ (.slice (some ⟨gg, 0, none⟩) (n + 1) cap) = wf) :
    NIn w p M src k0 t0 sl wf { s with ch := s.ch ++ [x] } vb (.slice (some ⟨gg, 0, none⟩) (n + 1) cap) (xs ++ [u0, u1, u2, u3, u4, u5, u6]) := by
  subst hn
  obtain ⟨o1, q1⟩ := ho.stored (s.ch.length * 7) u0
  obtain ⟨o2, q2⟩ := o1.stored (s.ch.length * 7 + 1) u1
  obtain ⟨o3, q3⟩ := o2.stored (s.ch.length * 7 + 2) u2
  obtain ⟨o4, q4⟩ := o3.stored (s.ch.length * 7 + 3) u3
  obtain ⟨o5, q5⟩ := o4.stored (s.ch.length * 7 + 4) u4
  obtain ⟨o6, q6⟩ := o5.stored (s.ch.length * 7 + 5) u5
  obtain ⟨o7, q7⟩ := o6.stored (s.ch.length * 7 + 6) u6
  rw [set7 xs s.ch.length h.row.1] at o7
  have hgg := (ho.lt gg rfl).1
  have e1 : v.ownBlock = (Value.slice (some ⟨gg, 0, none⟩) (s.ch.length + 1) cap).ownBlock ∨ wr.heap.size ≤ gg := hat.imp id id
  have hgr : wr.grownBy (((((((w2.setCell ⟨gg, s.ch.length * 7, none⟩ u0).setCell ⟨gg, s.ch.length * 7 + 1, none⟩ u1).setCell ⟨gg, s.ch.length * 7 + 2, none⟩ u2).setCell ⟨gg, s.ch.length * 7 + 3, none⟩ u3).setCell ⟨gg, s.ch.length * 7 + 4, none⟩ u4).setCell ⟨gg, s.ch.length * 7 + 5, none⟩ u5).setCell ⟨gg, s.ch.length * 7 + 6, none⟩ u6) v.ownBlock := by
    refine ⟨q7.os.trans (q6.os.trans (q5.os.trans (q4.os.trans (q3.os.trans (q2.os.trans (q1.os.trans hg.os)))))), q7.tape.trans (q6.tape.trans (q5.tape.trans (q4.tape.trans (q3.tape.trans (q2.tape.trans (q1.tape.trans hg.tape)))))), q7.output.trans (q6.output.trans (q5.output.trans (q4.output.trans (q3.output.trans (q2.output.trans (q1.output.trans hg.output)))))), by simpa using hg.size, fun c hc hne => ?_⟩
    have hcg : c ≠ gg := by
      rintro rfl
      rcases hat with e | e
      · exact hne e.symm
      · omega
    rw [Below.heap_setCell _ _ _ _ hcg, Below.heap_setCell _ _ _ _ hcg, Below.heap_setCell _ _ _ _ hcg, Below.heap_setCell _ _ _ _ hcg, Below.heap_setCell _ _ _ _ hcg, Below.heap_setCell _ _ _ _ hcg, Below.heap_setCell _ _ _ _ hcg]
    exact hg.block c hc hne
  have hu : Upd (w.heap.size + 2) (((((((w2.setCell ⟨gg, s.ch.length * 7, none⟩ u0).setCell ⟨gg, s.ch.length * 7 + 1, none⟩ u1).setCell ⟨gg, s.ch.length * 7 + 2, none⟩ u2).setCell ⟨gg, s.ch.length * 7 + 3, none⟩ u3).setCell ⟨gg, s.ch.length * 7 + 4, none⟩ u4).setCell ⟨gg, s.ch.length * 7 + 5, none⟩ u5).setCell ⟨gg, s.ch.length * 7 + 6, none⟩ u6) wf := by
    rw [← hwf]
    exact (Upd.refl _ _).set 6 _
  refine h.push hx hgr o7 (hat.imp (fun e => e.symm) (fun e => ⟨gg, rfl, e⟩)) hu ?_
  rw [← hwf]
  exact heap_set ((hgr.block _ (lt_of_heap h.node) (fun e => by have := (h.row.lt _ e.symm).1; omega)).trans h.node) 6 _
end Go.Proofs.YtpibenilagloaaaGreatDoor
