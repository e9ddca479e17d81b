import Derived.Test.YtepadojclmjllaaGreatDoorMxaa
/-
  The builder, plainly: offsets, extents, bounds.
-/
namespace Go.Proofs.YtepadojclmjllaaGreatDoor
set_option linter.unusedVariables false

mutual
/-- the bytes that a tree spans -/
def Tree.yl : Tree → Nat
  | .mk k t ch => if 100 ≤ k then t.size else yls ch
def yls : List Tree → Nat
  | [] => 0
  | x :: r => x.yl + yls r
end
mutual
/-- what the builder asks of a tree -/
def Tree.ok : Tree → Prop
  | .mk k t ch => (k = 105 → t.size ≤ 281474976710656 ∧ (Lib.atoiAll t.data.toList = .range ∨ ∃ v, Lib.atoiAll t.data.toList = .ok v)) ∧ (k = 60 → ∃ x ∈ ch, x.k < 100) ∧ oks ch
def oks : List Tree → Prop
  | [] => True
  | x :: r => x.ok ∧ oks r
end
theorem oks_mem : ∀ {l : List Tree}, oks l → ∀ x ∈ l, x.ok
  | [], _, x, h => by cases h
  | y :: r, hl, x, h => by
    unfold oks at hl
    rcases List.mem_cons.1 h with rfl | h
    · exact hl.1
    · exact oks_mem hl.2 x h
theorem oks_of : ∀ {l : List Tree}, (∀ x ∈ l, x.ok) → oks l
  | [], _ => by unfold oks; trivial
  | y :: r, h => by unfold oks; exact ⟨h y (by simp), oks_of fun x hx => h x (by simp [hx])⟩
theorem Tree.yl_leaf {x : Tree} (h : 100 ≤ x.k) : x.yl = x.t.size := by cases x; unfold Tree.yl; exact if_pos h
theorem Tree.yl_node {x : Tree} (h : ¬ 100 ≤ x.k) : x.yl = yls x.ch := by cases x; unfold Tree.yl; exact if_neg h
theorem wts_append : ∀ (a b : List Tree), wts (a ++ b) = wts a + wts b
  | [], b => by simp [wts]
  | x :: r, b => by rw [List.cons_append, wts, wts, wts_append r b]; omega
theorem yls_append : ∀ (a b : List Tree), yls (a ++ b) = yls a + yls b
  | [], b => by simp [yls]
  | x :: r, b => by rw [List.cons_append, yls, yls, yls_append r b]; omega
mutual
theorem yl_le_wt : ∀ (x : Tree), x.yl ≤ x.wt
  | .mk k t ch => by
    unfold Tree.yl Tree.wt
    have := yls_le_wts ch
    split <;> omega
theorem yls_le_wts : ∀ (l : List Tree), yls l ≤ wts l
  | [] => by simp [yls, wts]
  | x :: r => by unfold yls wts; have := yl_le_wt x; have := yls_le_wts r; omega
end
theorem Tree.wt_pos (x : Tree) : x.t.size + 1 ≤ x.wt := by cases x; simp only [Tree.wt, Tree.t]; omega

/- THE OFFSET -/
theorem tokB_off (k : Int) (t : ByteArray) (b : BS) : (tokB k t b).off = b.off + t.size := by
  unfold tokB
  simp only
  split
  · split <;> rfl
  · split
    · unfold identB; split <;> rfl
    · split
      · unfold intB; split <;> rfl
      · split <;> rfl
theorem finB_off (h : Hd) (b : BS) : (finB h b).off = b.off := by
  unfold finB
  split
  · rfl
  · split <;> rfl
mutual
theorem nodeL_off (src : ByteArray) : ∀ (x : Tree) (b : BS), ¬ 100 ≤ x.k → (nodeL src x b).2.off = b.off + x.yl
  | .mk k t ch, b, h => by
    unfold nodeL
    simp only
    rw [finB_off, kidsL_off src ch _, Tree.yl_node h]
    rfl
theorem kidsL_off (src : ByteArray) : ∀ (l : List Tree) (s : NS), (kidsL src l s).b.off = s.b.off + yls l
  | [], s => by simp [kidsL, yls]
  | x :: r, s => by
    by_cases h : 100 ≤ x.k
    · rw [kidsL_tok h, kidsL_off src r _]
      simp only
      rw [tokB_off, yls, Tree.yl_leaf h]; omega
    · rw [kidsL_node h, kidsL_off src r _]
      simp only
      rw [nodeL_off src x s.b h, yls]; omega
end
/- THE DIAGNOSTICS -/
theorem uqG_len (l : List UInt8) : ∀ (n i : Nat), (uqG l n i).2.length ≤ n
  | 0, i => by simp [uqG]
  | n + 1, i => by
    unfold uqG
    simp only
    have h1 := uqG_len l n (i + 1)
    have h2 := uqG_len l n (i + 2)
    split
    · split
      · split
        · simp only; omega
        · split
          · simp only; omega
          · simp only [List.length_cons]; omega
      · simp only; omega
    · simp
theorem tokB_ds (k : Int) (t : ByteArray) (b : BS) : (tokB k t b).ds.length ≤ b.ds.length + t.size + 1 := by
  unfold tokB
  simp only
  split
  · split <;> simp [BS.rep] <;> omega
  · split
    · unfold identB; split <;> simp [BS.rep] <;> omega
    · split
      · unfold intB; split <;> simp [BS.rep] <;> omega
      · split
        · have := uqG_len t.data.toList t.size 1
          simp [unqB]; omega
        · simp only; omega
theorem finB_ds (h : Hd) (b : BS) : (finB h b).ds.length ≤ b.ds.length + 1 := by
  unfold finB
  split
  · omega
  · split
    · simp [BS.rep]
    · omega
mutual
theorem nodeL_ds (src : ByteArray) : ∀ (x : Tree) (b : BS), (nodeL src x b).2.ds.length ≤ b.ds.length + x.wt
  | .mk k t ch, b => by
    unfold nodeL Tree.wt
    simp only
    have h1 := finB_ds (maxH (kidsL src ch ⟨newH k b.off, [], b⟩).h) (kidsL src ch ⟨newH k b.off, [], b⟩).b
    have h2 := kidsL_ds src ch ⟨newH k b.off, [], b⟩
    simp only at h2
    omega
theorem kidsL_ds (src : ByteArray) : ∀ (l : List Tree) (s : NS), (kidsL src l s).b.ds.length ≤ s.b.ds.length + wts l
  | [], s => by simp [kidsL, wts]
  | x :: r, s => by
    by_cases h : 100 ≤ x.k
    · rw [kidsL_tok h, wts]
      have h1 := kidsL_ds src r ⟨tokH s.h x.k x.t s.b.off (s.b.off + x.t.size), s.ch, tokB x.k x.t s.b⟩
      have h2 := tokB_ds x.k x.t s.b
      have h3 := x.wt_pos
      simp only at h1
      omega
    · rw [kidsL_node h, wts]
      have h1 := kidsL_ds src r ⟨extendH s.h (nodeL src x s.b).1.h.s (nodeL src x s.b).1.h.e, s.ch ++ [(nodeL src x s.b).1], (nodeL src x s.b).2⟩
      have h2 := nodeL_ds src x s.b
      simp only at h1
      omega
end
/- THE EXTENT -/
/-- between s0 and o: nothing is covered yet, or the bytes from h.s to h.e are -/
def Ext (h : Hd) (s0 o : Int) : Prop := (h.e < 0 ∧ h.s = s0) ∨ (s0 ≤ h.s ∧ h.s ≤ h.e ∧ h.e ≤ o)
theorem Ext.extend {h h' : Hd} {s0 o s e o' : Int} (H : Ext h s0 o) (hs : h'.s = h.s) (he : h'.e = h.e) (h0 : 0 ≤ s0) (h1 : s0 ≤ o) (h2 : o ≤ s) (h3 : s ≤ e) (h4 : e ≤ o') : Ext (extendH h' s e) s0 o' := by
  unfold Ext extendH at *
  rw [hs, he]
  simp only
  right
  rcases H with ⟨a, b⟩ | ⟨a, b, c⟩
  · rw [if_pos a]; omega
  · split <;> omega
theorem Ext.more {h : Hd} {s0 o o' : Int} (H : Ext h s0 o) (ho : o ≤ o') : Ext h s0 o' := by
  unfold Ext at *; omega
theorem setFlagH_ext (h : Hd) (t : ByteArray) : (setFlagH h t).s = h.s ∧ (setFlagH h t).e = h.e ∧ (setFlagH h t).k = h.k := by
  unfold setFlagH
  split
  · exact ⟨rfl, rfl, rfl⟩
  · split
    · exact ⟨rfl, rfl, rfl⟩
    · split
      · exact ⟨rfl, rfl, rfl⟩
      · split
        · exact ⟨rfl, rfl, rfl⟩
        · split <;> exact ⟨rfl, rfl, rfl⟩
theorem identH_ext (h : Hd) (t : ByteArray) (s : Int) : (identH h t s).s = h.s ∧ (identH h t s).e = h.e ∧ (identH h t s).k = h.k := by
  unfold identH; split <;> exact ⟨rfl, rfl, rfl⟩
theorem tokH_k (h : Hd) (k : Int) (t : ByteArray) (s e : Int) : (tokH h k t s e).k = h.k := by
  unfold tokH
  split
  · rfl
  · split
    · split <;> rfl
    · split
      · exact (identH_ext h t s).2.2
      · split
        · rfl
        · split
          · rfl
          · exact (setFlagH_ext h t).2.2
theorem Ext.tok {h : Hd} {s0 o : Int} (H : Ext h s0 o) (h0 : 0 ≤ s0) (h1 : s0 ≤ o) (k : Int) (t : ByteArray) : Ext (tokH h k t o (o + t.size)) s0 (o + t.size) := by
  have h2 : o ≤ o + t.size := by omega
  unfold tokH
  split
  · exact H.more h2
  · split
    · split
      · exact H.more h2
      · exact H.extend rfl rfl h0 h1 (Int.le_refl _) h2 (Int.le_refl _)
    · split
      · exact H.extend (identH_ext h t o).1 (identH_ext h t o).2.1 h0 h1 (Int.le_refl _) h2 (Int.le_refl _)
      · split
        · exact H.extend (by rfl) (by rfl) h0 h1 (Int.le_refl _) h2 (Int.le_refl _)
        · split
          · exact H.extend (by rfl) (by rfl) h0 h1 (Int.le_refl _) h2 (Int.le_refl _)
          · exact H.extend (setFlagH_ext h t).1 (setFlagH_ext h t).2.1 h0 h1 (Int.le_refl _) h2 (Int.le_refl _)
theorem finN_ext (src : ByteArray) (h : Hd) (ch : List Node) : (finN src h ch).h.s = h.s ∧ (finN src h ch).h.e = h.e := by
  unfold finN
  split
  · exact ⟨rfl, rfl⟩
  · split <;> exact ⟨rfl, rfl⟩
theorem maxH_ext {h : Hd} {s0 o : Int} (H : Ext h s0 o) (h0 : 0 ≤ s0) (h1 : s0 ≤ o) : s0 ≤ (maxH h).s ∧ (maxH h).s ≤ (maxH h).e ∧ (maxH h).e ≤ o := by
  unfold maxH Ext at *
  simp only
  rcases H with ⟨a, b⟩ | ⟨a, b, c⟩
  · omega
  · omega
mutual
theorem nodeL_ext (src : ByteArray) : ∀ (x : Tree) (b : BS), ¬ 100 ≤ x.k → 0 ≤ b.off → b.off ≤ (nodeL src x b).1.h.s ∧ (nodeL src x b).1.h.s ≤ (nodeL src x b).1.h.e ∧ (nodeL src x b).1.h.e ≤ b.off + x.yl
  | .mk k t ch, b, h, h0 => by
    unfold nodeL
    simp only
    have e := kidsL_ext src ch ⟨newH k b.off, [], b⟩ b.off h0 (Int.le_refl _) (.inl ⟨show (-1 : Int) < 0 by decide, rfl⟩)
    simp only at e
    have m := maxH_ext e h0 (by omega)
    obtain ⟨f1, f2⟩ := finN_ext src (maxH (kidsL src ch ⟨newH k b.off, [], b⟩).h) (kidsL src ch ⟨newH k b.off, [], b⟩).ch
    rw [f1, f2, Tree.yl_node h]
    exact m
theorem kidsL_ext (src : ByteArray) : ∀ (l : List Tree) (s : NS) (s0 : Int), 0 ≤ s0 → s0 ≤ s.b.off → Ext s.h s0 s.b.off → Ext (kidsL src l s).h s0 (s.b.off + yls l)
  | [], s, s0, h0, h1, H => by simpa [kidsL, yls] using H
  | x :: r, s, s0, h0, h1, H => by
    by_cases h : 100 ≤ x.k
    · rw [kidsL_tok h, yls, Tree.yl_leaf h]
      have := kidsL_ext src r ⟨tokH s.h x.k x.t s.b.off (s.b.off + x.t.size), s.ch, tokB x.k x.t s.b⟩ s0 h0 (by simp only; rw [tokB_off]; omega) (by simp only; rw [tokB_off]; exact H.tok h0 h1 x.k x.t)
      simp only at this
      rw [tokB_off] at this
      rw [show s.b.off + ((x.t.size + yls r : Nat) : Int) = s.b.off + x.t.size + yls r by omega]
      exact this
    · rw [kidsL_node h, yls]
      have e := nodeL_ext src x s.b h (by omega)
      have o := nodeL_off src x s.b h
      have := kidsL_ext src r ⟨extendH s.h (nodeL src x s.b).1.h.s (nodeL src x s.b).1.h.e, s.ch ++ [(nodeL src x s.b).1], (nodeL src x s.b).2⟩ s0 h0 (by simp only; rw [o]; omega) (by simp only; rw [o]; exact H.extend rfl rfl h0 h1 e.1 e.2.1 e.2.2)
      simp only at this
      rw [o] at this
      rw [show s.b.off + ((x.yl + yls r : Nat) : Int) = s.b.off + x.yl + yls r by omega]
      exact this
end
/- CHILDREN -/
theorem kidsL_len (src : ByteArray) : ∀ (l : List Tree) (s : NS), s.ch.length ≤ (kidsL src l s).ch.length ∧ (kidsL src l s).ch.length ≤ s.ch.length + l.length
  | [], s => by simp [kidsL]
  | x :: r, s => by
    by_cases h : 100 ≤ x.k
    · rw [kidsL_tok h]
      have := kidsL_len src r ⟨tokH s.h x.k x.t s.b.off (s.b.off + x.t.size), s.ch, tokB x.k x.t s.b⟩
      simp only [List.length_cons] at this ⊢
      omega
    · rw [kidsL_node h]
      have := kidsL_len src r ⟨extendH s.h (nodeL src x s.b).1.h.s (nodeL src x s.b).1.h.e, s.ch ++ [(nodeL src x s.b).1], (nodeL src x s.b).2⟩
      simp only [List.length_cons, List.length_append, List.length_nil] at this ⊢
      omega
theorem kidsL_ne (src : ByteArray) : ∀ (l : List Tree) (s : NS), (∃ x ∈ l, x.k < 100) → (kidsL src l s).ch ≠ []
  | [], s, h => by obtain ⟨x, hx, _⟩ := h; cases hx
  | x :: r, s, h => by
    by_cases hk : 100 ≤ x.k
    · rw [kidsL_tok hk]
      refine kidsL_ne src r _ ?_
      obtain ⟨y, hy, hlt⟩ := h
      rcases List.mem_cons.1 hy with rfl | hy
      · omega
      · exact ⟨y, hy, hlt⟩
    · rw [kidsL_node hk]
      intro e
      have := (kidsL_len src r ⟨extendH s.h (nodeL src x s.b).1.h.s (nodeL src x s.b).1.h.e, s.ch ++ [(nodeL src x s.b).1], (nodeL src x s.b).2⟩).1
      rw [e] at this
      simp at this
theorem kidsL_k (src : ByteArray) : ∀ (l : List Tree) (s : NS), (kidsL src l s).h.k = s.h.k
  | [], s => by simp [kidsL]
  | x :: r, s => by
    by_cases h : 100 ≤ x.k
    · rw [kidsL_tok h, kidsL_k src r _]
      exact tokH_k _ _ _ _ _
    · rw [kidsL_node h, kidsL_k src r _]
      rfl
theorem len_le_wts : ∀ (l : List Tree), l.length ≤ wts l
  | [] => by simp
  | x :: r => by rw [wts, List.length_cons]; have := x.wt_pos; have := len_le_wts r; omega
end Go.Proofs.YtepadojclmjllaaGreatDoor

/-
  What a run does to the purse.
-/
namespace Go.Proofs.YtepadojclmjllaaGreatDoor
set_option linter.unusedVariables false

theorem add_gas {s s' : PS} {l : List Tree} (h : s.add l = some s') : s'.gas ≤ s.gas ∧ 0 < s'.gas ∧ s'.rest = s.rest ∧ s'.ch = s.ch ++ l ∧ s'.gas + l.length = s.gas := by
  unfold PS.add at h
  split at h
  · next hg => injection h with h; rw [← h]; refine ⟨Nat.sub_le _ _, ?_, rfl, rfl, ?_⟩ <;> show _ <;> simp only <;> omega
  · cases h
theorem run_gas : ∀ (n : Nat) (c : Cmd) (s s' : PS), run n c s = some s' → 0 < s.gas → s'.gas ≤ s.gas ∧ 0 < s'.gas
  | 0, c, s, s', h, _ => by simp [run] at h
  | n + 1, c, s, s', h, h0 => by
    have ih := run_gas n
    cases c with
    | skip => simp [run] at h; subst h; exact ⟨Nat.le_refl _, h0⟩
    | bump =>
      simp only [run] at h
      obtain ⟨u, hu, rfl⟩ := Option.map_eq_some_iff.1 h
      have := add_gas hu
      exact ⟨this.1, this.2.1⟩
    | trivia =>
      simp only [run] at h
      obtain ⟨u, hu, rfl⟩ := Option.map_eq_some_iff.1 h
      have := add_gas hu
      exact ⟨this.1, this.2.1⟩
    | leaf k =>
      simp only [run] at h
      have := add_gas h
      exact ⟨this.1, this.2.1⟩
    | node k c =>
      simp only [run] at h
      split at h
      · next hg =>
        obtain ⟨u, hu, rfl⟩ := Option.map_eq_some_iff.1 h
        have := ih _ _ _ hu (by show 0 < s.gas - 1; omega)
        exact ⟨Nat.le_trans this.1 (Nat.sub_le _ _), this.2⟩
      · cases h
    | wrap k c =>
      simp only [run] at h
      split at h
      · cases h
      · split at h
        · next hg =>
          obtain ⟨u, hu, rfl⟩ := Option.map_eq_some_iff.1 h
          have := ih _ _ _ hu (by show 0 < s.gas - 1; omega)
          exact ⟨Nat.le_trans this.1 (Nat.sub_le _ _), this.2⟩
        · cases h
    | seq c d =>
      simp only [run] at h
      obtain ⟨u, hu, hd⟩ := Option.bind_eq_some_iff.1 h
      have h1 := ih _ _ _ hu h0
      have h2 := ih _ _ _ hd h1.2
      exact ⟨Nat.le_trans h2.1 h1.1, h2.2⟩
    | ite t c d =>
      simp only [run] at h
      split at h
      · exact ih _ _ _ h h0
      · exact ih _ _ _ h h0
    | loop t c =>
      simp only [run] at h
      split at h
      · obtain ⟨u, hu, hd⟩ := Option.bind_eq_some_iff.1 h
        have h1 := ih _ _ _ hu h0
        have h2 := ih _ _ _ hd h1.2
        exact ⟨Nat.le_trans h2.1 h1.1, h2.2⟩
      · injection h with h; subst h; exact ⟨Nat.le_refl _, h0⟩
    | moved c d e =>
      simp only [run] at h
      obtain ⟨u, hu, hd⟩ := Option.bind_eq_some_iff.1 h
      have h1 := ih _ _ _ hu h0
      split at hd
      · have h2 := ih _ _ _ hd h1.2
        exact ⟨Nat.le_trans h2.1 h1.1, h2.2⟩
      · have h2 := ih _ _ _ hd h1.2
        exact ⟨Nat.le_trans h2.1 h1.1, h2.2⟩
    | dropLast =>
      simp only [run] at h
      split at h
      · cases h
      · injection h with h; subst h; exact ⟨Nat.le_refl _, h0⟩
    | insNone =>
      simp only [run] at h
      split at h
      · cases h
      · split at h
        · next hg =>
          injection h with h
          subst h
          exact ⟨Nat.sub_le _ _, by show 0 < s.gas - 1; omega⟩
        · cases h
    | setFlag b => simp only [run] at h; injection h with h; subst h; exact ⟨Nat.le_refl _, h0⟩
    | call f => simp only [run] at h; exact ih _ _ _ h h0
end Go.Proofs.YtepadojclmjllaaGreatDoor

/-
  The parser ends: a static check of its functions.
-/
namespace Go.Proofs.YtepadojclmjllaaGreatDoor
set_option linter.unusedVariables false

/-- what is known of the next token: nothing, that there is one, that it is an opening brace -/
inductive Fact where
  | any | ne | lb
deriving DecidableEq
def Fact.sup : Fact → Fact → Fact
  | .lb, _ => .lb
  | _, .lb => .lb
  | .ne, _ => .ne
  | _, .ne => .ne
  | _, _ => .any
def Fact.inf : Fact → Fact → Fact
  | .any, _ => .any
  | _, .any => .any
  | .ne, _ => .ne
  | _, .ne => .ne
  | _, _ => .lb
def Fact.Holds : Fact → List Tok → Prop
  | .any, _ => True
  | .ne, r => sig r ≠ []
  | .lb, r => atB [pLb] r = true
def factOf : Test → Fact
  | .at ts => if ts = [pLb] then .lb else .ne
  | .kind k => if k = 100 then .any else .ne
  | .not (.kind k) => if k = 100 then .ne else .any
  | .ahead _ t => if factOf t = .any then .any else .ne
  | .and a b => (factOf a).sup (factOf b)
  | .or a b => (factOf a).inf (factOf b)
  | _ => .any
structure TEnt where
  rank : Nat
  k0 : Option Int
  k1 : Option Int
  needs : Bool
  gives : Bool
structure Res where
  k0 : Option Int
  k1 : Option Int
  nz : Bool
  f0 : Bool
def oadd : Option Int → Option Int → Option Int
  | some a, some b => some (a + b)
  | _, _ => none
def omax : Option Int → Option Int → Option Int
  | some a, some b => some (max a b)
  | some a, none => some a
  | none, b => b
/-- the price of a token -/
def cA : Int := 200
def isLb : Test → Bool
  | .at ts => decide (ts = [pLb])
  | _ => false
/-- the test fails once the flag is set -/
def stops : Test → Bool
  | .flag => false
  | .not .flag => true
  | .and a b => stops a || stops b
  | _ => false
def setsFlag : Cmd → Bool
  | .setFlag true => true
  | _ => false
/-- tab: what is claimed of a function, by what is known at its start -/
def chk (tab : Fn → Fact → Option TEnt) (r : Nat) : Fact → Bool → Bool → Cmd → Option Res
  | φ, fresh, nz, .skip => some ⟨some 0, none, nz, false⟩
  | φ, fresh, nz, .setFlag b => some ⟨some 0, none, nz, b⟩
  | φ, fresh, nz, .bump => some ⟨if φ = .any then some 0 else none, some (1 - cA), nz || decide (φ ≠ .any), false⟩
  | φ, fresh, nz, .trivia => some ⟨some 0, some (1 - cA), nz, false⟩
  | φ, fresh, nz, .leaf _ => some ⟨some 1, none, true, false⟩
  | φ, fresh, nz, .dropLast => if nz = true then some ⟨some 0, none, false, false⟩ else none
  | φ, fresh, nz, .insNone => if nz = true then some ⟨some 1, none, true, false⟩ else none
  | φ, fresh, nz, .node _ c => (chk tab r φ fresh false c).map fun x => ⟨oadd (some 1) x.k0, oadd (some 1) x.k1, true, false⟩
  | φ, fresh, nz, .wrap _ c => if nz = true then (chk tab r φ fresh true c).map fun x => ⟨oadd (some 1) x.k0, oadd (some 1) x.k1, true, false⟩ else none
  | φ, fresh, nz, .seq c d => (chk tab r φ fresh nz c).bind fun x =>
      (if x.k0 = none then some ⟨none, none, true, false⟩ else chk tab r φ fresh x.nz d).bind fun y =>
        (if x.k1 = none then some ⟨none, none, true, false⟩ else chk tab r .any false x.nz d).map fun z =>
          ⟨oadd x.k0 y.k0, omax (oadd x.k0 y.k1) (oadd x.k1 (omax z.k0 z.k1)), y.nz && z.nz, false⟩
  | φ, fresh, nz, .moved c d e => (chk tab r φ fresh nz c).bind fun x =>
      (if x.k0 = none then some ⟨none, none, true, false⟩ else chk tab r φ fresh x.nz d).bind fun y =>
        (if x.k1 = none then some ⟨none, none, true, false⟩ else chk tab r .any false x.nz e).map fun z =>
          ⟨oadd x.k0 y.k0, omax (oadd x.k0 y.k1) (oadd x.k1 (omax z.k0 z.k1)), y.nz && z.nz, false⟩
  | φ, fresh, nz, .ite t c d =>
    if isLb t = true ∧ φ = .lb then chk tab r φ fresh nz c else
      (chk tab r (φ.sup (factOf t)) fresh nz c).bind fun x => (chk tab r φ fresh nz d).map fun y =>
        ⟨omax x.k0 y.k0, omax x.k1 y.k1, x.nz && y.nz, (x.k0.isNone || x.f0) && (y.k0.isNone || y.f0)⟩
  | φ, fresh, nz, .loop t c => (chk tab r (factOf t) fresh nz c).bind fun x =>
      if (x.k0 = none ∨ x.k0 = some 0 ∧ x.f0 = true ∧ stops t = true) ∧ (nz = true → x.nz = true) ∧ x.k1.getD 0 ≤ 0 then some ⟨some 0, some (x.k1.getD 0), nz, false⟩ else none
  | φ, fresh, nz, .call f => (tab f φ).bind fun e => if (fresh = true → e.rank < r) ∧ (e.needs = true → nz = true) then some ⟨e.k0, e.k1, nz || e.gives, false⟩ else none
def tab : Fn → Fact → Option TEnt
  | .typeExpr, _ => some ⟨2, some 3, some (-180), false, true⟩
  | .path _, _ => some ⟨1, some 3, some (-185), false, true⟩
  | .typeParams, _ => some ⟨1, some 1, some (-185), false, true⟩
  | .typeParam, _ => some ⟨1, some 0, some (-185), false, false⟩
  | .params c, _ => if c = pRp ∨ c = pBar then some ⟨1, some 2, some (-185), false, true⟩ else none
  | .pattern, _ => some ⟨2, some 4, some (-170), false, true⟩
  | .block, .lb => some ⟨0, none, some (-180), false, true⟩
  | .block, _ => some ⟨50, some 10, some (-90), false, true⟩
  | .statement, .any => none
  | .statement, _ => some ⟨40, none, some (-100), false, false⟩
  | .letS, .any => none
  | .letS, _ => some ⟨0, none, some (-150), false, false⟩
  | .returnS, .any => none
  | .returnS, _ => some ⟨0, none, some (-150), false, false⟩
  | .expr, _ => some ⟨30, some 5, some (-120), false, true⟩
  | .binary l, _ => if l ≤ 5 then some ⟨20 + (5 - l), some 5, some (-120), false, true⟩ else none
  | .unary, _ => some ⟨15, some 5, some (-120), false, true⟩
  | .arguments, .any => some ⟨45, some 5, some (-110), false, false⟩
  | .arguments, _ => some ⟨0, none, some (-190), false, false⟩
  | .postfixS, _ => some ⟨10, some 0, some (-180), true, false⟩
  | .primary, _ => some ⟨10, some 5, some (-130), false, true⟩
  | .ifExpr, .any => none
  | .ifExpr, _ => some ⟨0, none, some (-150), false, true⟩
  | .matchS, .any => none
  | .matchS, _ => some ⟨0, none, some (-150), false, false⟩
  | .structLit, .any => none
  | .structLit, _ => some ⟨0, none, some (-150), false, false⟩
  | .lambda, .any => none
  | .lambda, _ => some ⟨0, none, some (-150), false, false⟩
  | .item, .any => none
  | .item, _ => some ⟨100, none, some (-50), false, true⟩
  | .skipToItem, .any => none
  | .skipToItem, _ => some ⟨1, none, some (-150), false, true⟩
  | .itemBody k, _ => if 2 ≤ k ∧ k ≤ 9 then some ⟨80, some 30, some (-50), false, false⟩ else none
  | .useS, _ => some ⟨1, some 10, some (-100), false, false⟩
  | .function _, _ => some ⟨70, some 25, some (-60), false, false⟩
  | .dataType k, _ => if k = 4 ∨ k = 5 then some ⟨70, some 10, some (-80), false, false⟩ else none
  | .members, _ => some ⟨60, some 5, some (-100), false, false⟩
  | .implS, _ => some ⟨70, some 15, some (-70), false, false⟩
def ole : Option Int → Option Int → Bool
  | none, _ => true
  | some _, none => false
  | some a, some b => decide (a ≤ b)
def resOk (e : TEnt) (nz : Bool) (x : Res) : Bool := ole x.k0 e.k0 && ole x.k1 e.k1 && (!(e.gives || nz) || x.nz)
def fnChk (f : Fn) (φ : Fact) : Bool := match tab f φ with
  | none => true
  | some e => (match chk tab e.rank φ true e.needs (body f) with
    | none => false
    | some x => resOk e e.needs x) && (match chk tab e.rank φ true true (body f) with
    | none => false
    | some x => resOk e true x)
def allFns : List Fn := [.typeExpr, .path true, .path false, .typeParams, .typeParam, .params pRp, .params pBar, .pattern, .block, .statement, .letS, .returnS, .expr, .binary 0, .binary 1, .binary 2, .binary 3, .binary 4, .binary 5, .unary, .arguments, .postfixS, .primary, .ifExpr, .matchS, .structLit, .lambda, .item, .skipToItem, .itemBody 2, .itemBody 3, .itemBody 4, .itemBody 5, .itemBody 6, .itemBody 7, .itemBody 8, .itemBody 9, .useS, .function true, .function false, .dataType 4, .dataType 5, .members, .implS]
end Go.Proofs.YtepadojclmjllaaGreatDoor
