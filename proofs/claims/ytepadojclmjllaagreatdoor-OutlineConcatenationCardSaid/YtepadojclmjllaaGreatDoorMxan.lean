import Derived.Test.YtepadojclmjllaaGreatDoorMxam
import Derived.Shelf.Strings.Builder1
import Derived.Lib.Builder
import Derived.Lib.AppendStr
/-
  The outline: items, plainly and in memory; symbolKind.
-/
namespace Go.Proofs.YtepadojclmjllaaGreatDoor
open Go.RowKit
set_option linter.unusedVariables false

/-- an outline item -/
inductive Item where
  | mk (k s e : Int) (t : ByteArray) (ch : List Item)
instance : Inhabited Item := ⟨.mk 0 0 0 .empty []⟩
def Item.k : Item → Int | .mk k _ _ _ _ => k
def Item.s : Item → Int | .mk _ s _ _ _ => s
def Item.e : Item → Int | .mk _ _ e _ _ => e
def Item.t : Item → ByteArray | .mk _ _ _ t _ => t
def Item.ch : Item → List Item | .mk _ _ _ _ c => c
def symKind (k : Int) : Int := if k = 3 then 2 else if k = 4 then 3 else if k = 5 then 4 else if k = 6 then 5 else if k = 7 then 6 else if k = 8 then 7 else if k = 9 then 8 else if k = 14 then 11 else if k = 15 then 12 else if k = 16 then 13 else 0
mutual
def itemsL : Node → List Item
  | .mk h ch => if symKind h.k = 0 then itemsLs ch else [.mk (symKind h.k) h.s h.e h.t (itemsLs ch)]
def itemsLs : List Node → List Item
  | [] => []
  | x :: r => itemsL x ++ itemsLs r
end
mutual
/-- the number of a node's nodes -/
def Node.sz : Node → Nat
  | .mk h ch => 1 + szs ch
def szs : List Node → Nat
  | [] => 0
  | x :: r => x.sz + szs r
end
theorem szs_append : ∀ (a b : List Node), szs (a ++ b) = szs a + szs b
  | [], b => by simp [szs]
  | x :: r, b => by rw [List.cons_append, szs, szs, szs_append r b]; omega
theorem itemsLs_append : ∀ (a b : List Node), itemsLs (a ++ b) = itemsLs a ++ itemsLs b
  | [], b => by simp [itemsLs]
  | x :: r, b => by rw [List.cons_append, itemsLs, itemsLs, itemsLs_append r b, List.append_assoc]
mutual
theorem itemsL_len : ∀ (n : Node), (itemsL n).length ≤ n.sz
  | .mk h ch => by
    unfold itemsL Node.sz
    have := itemsLs_len ch
    split
    · omega
    · simp
theorem itemsLs_len : ∀ (l : List Node), (itemsLs l).length ≤ szs l
  | [] => by simp [itemsLs, szs]
  | x :: r => by
    unfold itemsLs szs
    have := itemsL_len x
    have := itemsLs_len r
    rw [List.length_append]; omega
end
mutual
/-- five values stand for an item, in blocks of F -/
def ItemV (w : World) (F : Nat → Prop) : Item → List Value → Prop
  | .mk k s e t ch, vs => ∃ A c, vs = [.int .i64 k, .int .i64 s, .int .i64 e, .string t, .slice A ch.length c] ∧ (ch = [] ∨ ∃ b off, A = some ⟨b, off, none⟩ ∧ F b ∧ ItemsV w F ch b off)
def ItemsV (w : World) (F : Nat → Prop) : List Item → Nat → Nat → Prop
  | [], _, _ => True
  | x :: r, b, i => (∃ vs, ItemV w F x vs ∧ ∀ j v, vs[j]? = some v → w.cell? ⟨b, i + j, none⟩ = some v) ∧ ItemsV w F r b (i + 5)
end
mutual
theorem ItemV.keep {w w' : World} {F F' : Nat → Prop} (hF : ∀ b, F b → F' b) (hw : ∀ b, F b → w'.heap[b]? = w.heap[b]?) : ∀ (x : Item) (vs : List Value), ItemV w F x vs → ItemV w' F' x vs
  | .mk k s e t ch, vs, h => by
    unfold ItemV at h ⊢
    obtain ⟨A, c, h2, h3⟩ := h
    refine ⟨A, c, h2, ?_⟩
    rcases h3 with h3 | ⟨b, off, hA, hb, h3⟩
    · exact .inl h3
    · exact .inr ⟨b, off, hA, hF _ hb, ItemsV.keep hF hw ch b off hb h3⟩
theorem ItemsV.keep {w w' : World} {F F' : Nat → Prop} (hF : ∀ b, F b → F' b) (hw : ∀ b, F b → w'.heap[b]? = w.heap[b]?) : ∀ (xs : List Item) (b i : Nat), F b → ItemsV w F xs b i → ItemsV w' F' xs b i
  | [], _, _, _, _ => by unfold ItemsV; trivial
  | x :: r, b, i, hb, h => by
    unfold ItemsV at h ⊢
    obtain ⟨⟨vs, h0, h1⟩, h4⟩ := h
    exact ⟨⟨vs, ItemV.keep hF hw x vs h0, fun j v hv => (World.cell?_of_block (w := w) (w' := w') (a := ⟨b, i + j, none⟩) (hw b hb)).trans (h1 j v hv)⟩, ItemsV.keep hF hw r b (i + 5) hb h4⟩
end
theorem ItemV.vals {w : World} {F : Nat → Prop} {x : Item} {vs : List Value} (h : ItemV w F x vs) : ∃ A c, vs = [.int .i64 x.k, .int .i64 x.s, .int .i64 x.e, .string x.t, .slice A x.ch.length c] ∧ (x.ch = [] ∨ ∃ b off, A = some ⟨b, off, none⟩ ∧ F b ∧ ItemsV w F x.ch b off) := by
  cases x with | mk k s e t ch => unfold ItemV at h; exact h
theorem ItemV.len {w : World} {F : Nat → Prop} {x : Item} {vs : List Value} (h : ItemV w F x vs) : vs.length = 5 := by
  obtain ⟨A, c, rfl, _⟩ := h.vals; rfl
theorem ItemV.one {w : World} {F : Nat → Prop} {x : Item} {vs : List Value} (h : ItemV w F x vs) : ∀ u ∈ vs, u.oneCell' = true := by
  obtain ⟨A, c, rfl, _⟩ := h.vals
  intro u hu
  simp at hu
  rcases hu with rfl | rfl | rfl | rfl | rfl <;> rfl
def itemD : Dat Item := ⟨ItemV, 5, by decide, fun h => h.len, fun hF hw h => ItemV.keep hF hw _ _ h, fun h => h.one⟩
theorem items_row {w : World} {F : Nat → Prop} : ∀ (xs : List Item) (b i : Nat), ItemsV w F xs b i → ∃ vs, itemD.Row w F xs vs ∧ ∀ j u, vs[j]? = some u → w.cell? ⟨b, i + j, none⟩ = some u
  | [], _, _, _ => ⟨[], rfl, fun j u h => by simp at h⟩
  | x :: r, b, i, h => by
    unfold ItemsV at h
    obtain ⟨⟨us, h0, h1⟩, h4⟩ := h
    obtain ⟨vs, h5, h6⟩ := items_row r b (i + 5) h4
    have hl := h0.len
    refine ⟨us ++ vs, ⟨us, vs, rfl, h0, h5⟩, fun j u hu => ?_⟩
    by_cases hj : j < 5
    · rw [List.getElem?_append_left (by omega)] at hu; exact h1 j u hu
    · rw [List.getElem?_append_right (by omega), hl] at hu
      have := h6 (j - 5) u hu
      rwa [show i + 5 + (j - 5) = i + j by omega] at this
theorem row_items {w : World} {F : Nat → Prop} (b : Nat) : ∀ (xs : List Item) (vs : List Value) (i : Nat), itemD.Row w F xs vs → (∀ j u, vs[j]? = some u → w.cell? ⟨b, i + j, none⟩ = some u) → ItemsV w F xs b i
  | [], _, _, _, _ => by unfold ItemsV; trivial
  | x :: r, vs, i, h, hc => by
    obtain ⟨us, ws, rfl, h1, h2⟩ := h
    unfold ItemsV
    have hl : us.length = 5 := ItemV.len h1
    refine ⟨⟨us, h1, fun j v hv => hc j v ?_⟩, row_items b r ws (i + 5) h2 fun j u hu => ?_⟩
    · rw [List.getElem?_append_left (List.getElem?_eq_some_iff.1 hv).1]; exact hv
    · rw [show i + 5 + j = i + (5 + j) by omega]
      refine hc (5 + j) u ?_
      rw [List.getElem?_append_right (by omega), hl, show 5 + j - 5 = j by omega]
      exact hu
theorem ItemV.kids {w : World} {F : Nat → Prop} {x : Item} {vs : List Value} (h : ItemV w F x vs) : ∃ A c, vs = [.int .i64 x.k, .int .i64 x.s, .int .i64 x.e, .string x.t, .slice A x.ch.length c] ∧ itemD.At w F A x.ch := by
  obtain ⟨A, c, rfl, h2⟩ := h.vals
  refine ⟨A, c, rfl, ?_⟩
  rcases h2 with h2 | ⟨b, off, rfl, hb, h3⟩
  · rw [h2]; exact Dat.At.nil
  · obtain ⟨vs, h4, h5⟩ := items_row _ _ _ h3
    exact ⟨vs, h4, fun _ => ⟨b, off, rfl, hb, h5⟩⟩
/-- an item out of its children's slice -/
theorem ItemV.of {w : World} {F : Nat → Prop} {k s e : Int} {t : ByteArray} {ch : List Item} {A : Option Addr} {c : Nat} (h : itemD.At w F A ch) : ItemV w F (.mk k s e t ch) [.int .i64 k, .int .i64 s, .int .i64 e, .string t, .slice A ch.length c] := by
  unfold ItemV
  refine ⟨A, c, rfl, ?_⟩
  cases ch with
  | nil => exact .inl rfl
  | cons x r =>
    obtain ⟨vs, h1, h2⟩ := h
    have hl := h1.length
    have hp : 0 < vs.length := by rw [hl]; exact Nat.mul_pos (by simp) itemD.pos
    obtain ⟨b, off, rfl, hb, hc⟩ := h2 hp
    exact .inr ⟨b, off, rfl, hb, row_items b _ _ off h1 hc⟩
theorem info_item : (Tryz.prog.info? 31).map (fun i => (i.zero, i.size, i.bytes)) = some (some (.agg #[.int .i64 0, .int .i64 0, .int .i64 0, .string .empty, .slice none 0 0]), 5, 64) := by kernel_rfl
/-- blocks of a frame's data: not the row under construction -/
def OF (B : Nat) (v : Value) (w : World) (c : Nat) : Prop := B ≤ c ∧ c < w.heap.size ∧ v.ownBlock ≠ some c
/-- a row grows -/
theorem Dat.Own.grow {α : Type} {D : Dat α} {w w2 : World} {B : Nat} {e : TypeId} {v v' : Value} {xs ys : List α} {vs ws : List Value} (h : D.Own w B e (OF B v w) v xs vs) (hy : D.Row w (OF B v w) ys ws) (hg : w.grownBy w2 v.ownBlock) (ho : w2.ownsRow B e D.k v' (xs.length + ys.length) (vs ++ ws))
    (hat : v'.ownBlock = v.ownBlock ∨ ∃ g, v'.ownBlock = some g ∧ w.heap.size ≤ g) : D.Own w2 B e (OF B v' w2) v' (xs ++ ys) (vs ++ ws) := by
  have hsub : ∀ c, OF B v w c → OF B v' w2 c := fun c hc => by
    refine ⟨hc.1, Nat.lt_of_lt_of_le hc.2.1 hg.size, fun e => ?_⟩
    rcases hat with e2 | ⟨g, e2, hge⟩
    · exact hc.2.2 (by rw [← e2]; exact e)
    · rw [e2] at e; injection e with e; have := hc.2.1; omega
  have hw : ∀ c, OF B v w c → w2.heap[c]? = w.heap[c]? := fun c hc => hg.block c hc.2.1 (fun e => hc.2.2 e.symm)
  exact ⟨by rw [List.length_append]; exact ho, Dat.Row.append (hy.keep hsub hw) _ _ (h.2.keep hsub hw)⟩
theorem Dat.Own.below {α : Type} {D : Dat α} {w w' : World} {B : Nat} {e : TypeId} {v : Value} {xs : List α} {vs : List Value} (h : D.Own w B e (OF B v w) v xs vs) (hb : Below w.heap.size w w') : D.Own w' B e (OF B v w') v xs vs :=
  h.keep (fun c hc => ⟨hc.1, Nat.lt_of_lt_of_le hc.2.1 hb.size, hc.2.2⟩) (fun c hc => hb.block c hc.2.1) (fun g hg => hb.block g (h.1.lt g hg).2)
theorem symbolKind_any (k : Int) (w : World) : Calls Tryz.prog 24 #[.int .i64 k] w fun e w' => e = .returned (.int .i64 (symKind k)) ∧ w' = w := by
  by_cases h : k = 3 ∨ k = 4 ∨ k = 5 ∨ k = 6 ∨ k = 7 ∨ k = 8 ∨ k = 9 ∨ k = 14 ∨ k = 15 ∨ k = 16
  · rcases h with rfl | rfl | rfl | rfl | rfl | rfl | rfl | rfl | rfl | rfl
    all_goals
      go_enter Tryz.func24, Tryz.ntmps24
      go_wp2
      go_ret
      exact ⟨rfl, rfl⟩
  · have hs : symKind k = 0 := by unfold symKind; repeat (rw [if_neg (by omega)])
    have b3 : (k == 3) = false := by simp; omega
    have b4 : (k == 4) = false := by simp; omega
    have b5 : (k == 5) = false := by simp; omega
    have b6 : (k == 6) = false := by simp; omega
    have b7 : (k == 7) = false := by simp; omega
    have b8 : (k == 8) = false := by simp; omega
    have b9 : (k == 9) = false := by simp; omega
    have b14 : (k == 14) = false := by simp; omega
    have b15 : (k == 15) = false := by simp; omega
    have b16 : (k == 16) = false := by simp; omega
    have HS := Lib.hid hs
    clear hs h
    go_enter Tryz.func24, Tryz.ntmps24
    go_wp2
    go_ret
    exact ⟨by rw [HS.out]; rfl, rfl⟩
end Go.Proofs.YtepadojclmjllaaGreatDoor

/-
  strings.Builder: copyCheck, WriteByte, String.
-/
namespace Go.Proofs.YtepadojclmjllaaGreatDoor
open Go.RowKit Go.Shelf
set_option linter.unusedVariables false

/-- blocks of cells of other types than t0, t1 are as they were -/
def Kept (t0 t1 : TypeId) (w w' : World) : Prop := ∀ (g : Nat) (cs : Array Value) (t : TypeId) (fr : Nat × Nat), w.heap[g]? = some (.cells cs t fr) → t ≠ t0 → t ≠ t1 → w'.heap[g]? = some (.cells cs t fr)
theorem Kept.trans {t0 t1 : TypeId} {a b c : World} (h : Kept t0 t1 a b) (k : Kept t0 t1 b c) : Kept t0 t1 a c := fun g cs t fr hg h0 h1 => k g cs t fr (h g cs t fr hg h0 h1) h0 h1
theorem Kept.refl (t0 t1 : TypeId) (w : World) : Kept t0 t1 w w := fun _ _ _ _ h _ _ => h
theorem Kept.setCell {t0 t1 t : TypeId} {w : World} {b : Nat} {cs : Array Value} {fr : Nat × Nat} (hb : w.heap[b]? = some (.cells cs t fr)) (ht : t = t0 ∨ t = t1) (i : Nat) (v : Value) : Kept t0 t1 w (w.setCell ⟨b, i, none⟩ v) := by
  intro g cs' t' fr' hg h0 h1
  rw [Below.heap_setCell _ _ _ _ (fun e => ?_)]
  · exact hg
  · simp only at e
    subst e
    rw [hb] at hg
    injection hg with hg
    injection hg with _ hg _
    rcases ht with ht | ht
    · exact h0 (by rw [← hg, ht])
    · exact h1 (by rw [← hg, ht])
theorem Kept.grown {t0 t1 e : TypeId} {w w' : World} {base size n : Nat} {v : Value} {xs : List Value} (ho : w.ownsRow base e size v n xs) (hg : w.grownBy w' v.ownBlock) (he : e = t0 ∨ e = t1) : Kept t0 t1 w w' := by
  intro g cs' t' fr' hh h0 h1
  rw [hg.block g (lt_of_heap hh) (fun e' => ?_)]
  · exact hh
  · rcases ho.2 with ⟨rfl, _⟩ | ⟨g', cap, cur, rfl, _, hc, _⟩
    · simp [Value.ownBlock] at e'
    · simp [Value.ownBlock] at e'
      subst e'
      rw [hc] at hh
      injection hh with hh
      injection hh with _ hh _
      rcases he with ht | ht
      · exact h0 (by rw [← hh, ht])
      · exact h1 (by rw [← hh, ht])
theorem heap_at2 (w : World) (o1 o2 : Obj) : ((w.alloc o1).alloc o2).drew.heap[w.heap.size + 1]? = some o2 := by
  have := heap_alloc_new (w.alloc o1) o2
  rw [World.size_alloc] at this
  exact this
theorem ret_int {k : IntKind} {a b : Int} (h : a = b) : Ending.returned (.int k a) = .returned (.int k b) := by rw [h]
theorem drop_cons {α : Type} (es : List α) (k : Nat) (h : k < es.length) : es.drop k = es[k] :: es.drop (k + 1) := List.drop_eq_getElem_cons h
theorem take_snoc {α : Type} (es : List α) (k : Nat) (h : k < es.length) : es.take (k + 1) = es.take k ++ [es[k]] := by
  rw [List.take_succ_eq_append_getElem h]
def bldRen : Go.Shelf.Ren := ⟨fun | 169 => 114 | n => n, fun | 70 => 136 | 9 => 9 | 0 => 0 | 72 => 139 | 37 => 137 | 127 => 154 | 3 => 3 | 5 => 5 | n => n, fun | n => n⟩
theorem bldLays : Go.Proofs.Lays.n169 Tryz.prog bldRen := {
  mixed := by kernel_rfl
  f169 := Tryz.func114.trans (congrArg some (by kernel_rfl))
  t0 := Tryz.underlying0
  a0 := Tryz.isAgg0
  z0 := Tryz.sizeOf0
  v0 := Tryz.zeroValue0
  t3 := Tryz.underlying3
  a3 := Tryz.isAgg3
  z3 := Tryz.sizeOf3
  v3 := Tryz.zeroValue3
  t9 := Tryz.underlying9
  a9 := Tryz.isAgg9
  z9 := Tryz.sizeOf9
  v9 := Tryz.zeroValue9
  t37 := Tryz.underlying137
  a37 := Tryz.isAgg137
  z37 := Tryz.sizeOf137
  v37 := Tryz.zeroValue137
  t70 := Tryz.underlying136
  a70 := Tryz.isAgg136
  z70 := Tryz.sizeOf136
  v70 := Tryz.zeroValue136
  t72 := Tryz.underlying139
  a72 := Tryz.isAgg139
  z72 := Tryz.sizeOf139
  v72 := Tryz.zeroValue139
  t127 := Tryz.underlying154
  a127 := Tryz.isAgg154
  z127 := Tryz.sizeOf154
  v127 := Tryz.zeroValue154 }
theorem bldExtra : Builder.Extra Tryz.prog bldRen := {
  sizeBuilder := by kernel_rfl
  liesBuilder := by kernel_rfl
  t5 := Tryz.underlying5
  a5 := Tryz.isAgg5
  z5 := Tryz.sizeOf5
  v5 := Tryz.zeroValue5
  infoByte := by kernel_rfl
  cellsByte := by kernel_rfl
  sizeByte := by kernel_rfl
  neB5 := by decide }
theorem bld_String (B b : Nat) (l : List UInt8) (w : World) (h : Lib.IsBuilder 139 5 B b (Lib.byteCells l) w) (hBw : B ≤ w.heap.size) :
    Calls Tryz.prog 114 #[.pointer (some ⟨b, 0, none⟩)] w fun e w' => e = .returned (.string ⟨l.toArray⟩) ∧ Below B w w' := Any.Builder_String_any bldLays bldExtra B b l w h hBw

theorem bld_below {T e : TypeId} {B b : Nat} {bs : List Value} {w w' : World} (h : Lib.IsBuilder T e B b bs w) (hb : Below w.heap.size w w') : Lib.IsBuilder T e B b bs w' := by
  have f : ∀ p, Lib.BuilderAt T e B b p bs w → Lib.BuilderAt T e B b p bs w' := by
    intro p hh
    have hlt := hh.lt
    obtain ⟨hB, v, hbk, hown, hne⟩ := hh
    exact ⟨hB, v, (hb.block b hlt).trans hbk, own_below' hown hb, hne⟩
  exact h.imp (f _) (f _)
theorem bld_more {T e : TypeId} {B B' b : Nat} {bs : List Value} {w : World} (h : Lib.IsBuilder T e B b bs w) (hB : B' ≤ B) : Lib.IsBuilder T e B' b bs w := by
  have f : ∀ p, Lib.BuilderAt T e B b p bs w → Lib.BuilderAt T e B' b p bs w := by
    rintro p ⟨hb, v, hbk, ⟨hl, ho⟩, hne⟩
    refine ⟨by omega, v, hbk, ⟨hl, ?_⟩, hne⟩
    rcases ho with ho | ⟨g, cap, cur, hv, hg, r⟩
    · exact .inl ho
    · exact .inr ⟨g, cap, cur, hv, by omega, r⟩
  exact h.imp (f _) (f _)
theorem bldInfo : (Tryz.prog.info? 139).map (fun i => i.size) = some 2 := by kernel_rfl
theorem byteInfo : (Tryz.prog.info? 5).map (fun i => (i.zero, i.size, i.bytes)) = some (some (.int .u8 0), 1, 1) := by kernel_rfl

set_option maxRecDepth 100000 in
set_option maxHeartbeats 1000000 in
theorem bld_cc_used (b : Nat) (w : World) (h0 : w.cell? ⟨b, 0, none⟩ = some (.pointer (some ⟨b, 0, none⟩))) :
    Calls Tryz.prog 152 #[.pointer (some ⟨b, 0, none⟩)] w fun e w' => e = .returned (.tuple #[]) ∧ w' = w := by
  obtain ⟨j, hj, _⟩ := Option.map_eq_some_iff.1 bldInfo
  go_enter Tryz.func152, Tryz.ntmps152
  go_wp2
  rw [Lib.run_neq_ptr_same w _ Tryz.underlying136 hj]
  go_wp2
  go_end0
  exact ⟨rfl, rfl⟩

set_option maxRecDepth 100000 in
set_option maxHeartbeats 1000000 in
theorem bld_cc_fresh (b : Nat) (w : World) (h0 : w.cell? ⟨b, 0, none⟩ = some (.pointer none)) (hsh : w.shape? b = some (139, 2)) (hfz : w.frozen? ⟨b, 0, none⟩ = false) :
    Calls Tryz.prog 152 #[.pointer (some ⟨b, 0, none⟩)] w fun e w' => e = .returned (.tuple #[]) ∧ w' = w.setCell ⟨b, 0, none⟩ (.pointer (some ⟨b, 0, none⟩)) := by
  obtain ⟨j, hj, hjs⟩ := Option.map_eq_some_iff.1 bldInfo
  go_enter Tryz.func152, Tryz.ntmps152
  go_wp2
  rw [Lib.run_to_unsafe w ⟨b, 0, none⟩ Tryz.underlying136 Tryz.underlying173 hj (by rw [hjs]; decide) hsh (Nat.zero_lt_succ 1)]
  simp only [Result.andThen]
  rw [Oper.upon_value]
  go_wp2
  rw [run_callFunc_extern Tryz.func177 (by kernel_rfl) (by kernel_rfl) (by kernel_rfl) (e := Extern.AbiNoEscape.same) (by kernel_rfl)]
  rw [Lib.run_noEscape]
  simp only [Result.andThen]
  rw [Oper.upon_value]
  go_wp2
  rw [Lib.run_from_unsafe w ⟨b, 0, none⟩ Tryz.underlying173 Tryz.underlying136 hj hsh (by kernel_rfl)]
  simp only [Result.andThen]
  rw [Oper.upon_value]
  go_wp2
  go_end0
  exact ⟨rfl, rfl⟩

theorem bld_cc (B b : Nat) (bs : List Value) (w : World) (h : Lib.IsBuilder 139 5 B b bs w) :
    Calls Tryz.prog 152 #[.pointer (some ⟨b, 0, none⟩)] w fun e w' => e = .returned (.tuple #[]) ∧ (Lib.BuilderAt 139 5 B b (.pointer (some ⟨b, 0, none⟩)) bs w' ∧ Below B w w' ∧ Kept 139 5 w w') := by
  rcases h with h | h
  · refine (bld_cc_fresh b w h.cell0 h.shape h.frozen0).mono ?_
    rintro e w' ⟨rfl, rfl⟩
    obtain ⟨_, v, hbk, _⟩ := id h
    exact ⟨rfl, h.used _, (Below.refl B w).setCell (p := ⟨b, 0, none⟩) h.1 _, Kept.setCell hbk (.inl rfl) 0 _⟩
  · refine (bld_cc_used b w h.cell0).mono ?_
    rintro e w' ⟨rfl, rfl⟩
    exact ⟨rfl, h, Below.refl B _, Kept.refl _ _ _⟩


theorem byteCells_snoc (l : List UInt8) (c : UInt8) : Lib.byteCells (l ++ [c]) = Lib.byteCells l ++ [.int .u8 c.toNat] := by simp [Lib.byteCells]
/-- what a write to a strings.Builder leaves -/
def SbPost (w : World) (B b : Nat) (l : List UInt8) (r : Value) (e : Ending) (w' : World) : Prop := e = .returned r ∧ Lib.IsBuilder 139 5 B b (Lib.byteCells l) w' ∧ Below B w w' ∧ Kept 139 5 w w'
set_option maxHeartbeats 2000000 in
theorem bld_WriteByte (B b : Nat) (l : List UInt8) (c : UInt8) (w : World) (h : Lib.IsBuilder 139 5 B b (Lib.byteCells l) w) (hlen : l.length ≤ 1000000) (hBw : B ≤ w.heap.size) :
    Calls Tryz.prog 113 #[.pointer (some ⟨b, 0, none⟩), .int .u8 c.toNat] w (SbPost w B b (l ++ [c]) .nilIface) := by
  have hcl : (Lib.byteCells l).length ≤ 1000000 := by rw [Lib.byteCells_length]; exact hlen
  have HN := Lib.hid (byteCells_snoc l c)
  generalize Lib.byteCells l = bs at h hcl HN
  obtain ⟨x, hx⟩ : ∃ x : Int, (c.toNat : Int) = x := ⟨_, rfl⟩
  rw [hx] at HN ⊢
  clear hx
  go_enter Tryz.func113, Tryz.ntmps113
  go_wp2_with fail
  refine (bld_cc B b bs _ h).mono ?_
  rintro e w1 ⟨rfl, h1, hb1, hk1⟩
  obtain ⟨hB, v, hbk, hown, hne⟩ := h1
  have c1 : w1.cell? ⟨b, 1, none⟩ = some v := by rw [Lib.cell_of_heap hbk]; rfl
  have hlt : b < w1.heap.size := lt_of_heap hbk
  have hbs := hb1.size
  go_wp2_with (at_builtin; refine wpList_append_lit rfl (.tmp 11) (.tmp 13) _ rfl B 5 (.int .u8 0) 1 1 Tryz.underlying137 byteInfo rfl (by decide) _ _ _ rfl hown 1 1 [.int .u8 x] rfl rfl ?c2 ?c3 ?c4 ?c5 ?_)
  case c2 => simp [Value.oneCell']
  case c3 => simp only [maxLen]; omega
  case c4 => omega
  case c5 => omega
  intro v' w2 hown' hgrow _
  have hb2 : w2.heap[b]? = some (.cells #[.pointer (some ⟨b, 0, none⟩), v] 139 (0, 0)) := by
    rw [hgrow.block b hlt (fun e => hne e.symm)]
    exact hbk
  have d1 : w2.cell? ⟨b, 1, none⟩ = some v := by rw [Lib.cell_of_heap hb2]; rfl
  have f1 : w2.frozen? ⟨b, 1, none⟩ = false := Lib.frozen_of_heap hb2 1
  have hlt2 : b < w2.heap.size := lt_of_heap hb2
  have HQ : Hid (SbPost w B b (l ++ [c]) .nilIface (.returned .nilIface) (w2.setCell ⟨b, 1, none⟩ v')) := by
    refine ⟨rfl, .inr ?_, ?_, (hk1.trans (Kept.grown hown hgrow (.inr rfl))).trans (Kept.setCell hb2 (.inl rfl) 1 _)⟩
    · rw [HN.out]
      exact Lib.BuilderAt.put (T := 139) (e := 5) hB hb2 (bs' := bs ++ [.int .u8 x]) (by simpa using hown') (by decide)
    · exact (hb1.grown hgrow (by omega) (fun k hk => (hown.lt k hk).1)).setCell (p := ⟨b, 1, none⟩) hB _
  obtain ⟨ao, cap, rfl⟩ := own_slice hown'
  go_wp2
  go_ret
  exact HQ.out

theorem freeze_far (w : World) (g n k : Nat) (h : k ≠ g) : (w.freeze ⟨g, 0, none⟩ n).heap[k]? = w.heap[k]? := by
  unfold World.freeze
  split
  · rfl
  · simp [Array.getElem?_modify, Ne.symm h]
theorem Kept.below {t0 t1 : TypeId} {w w' : World} (h : Below w.heap.size w w') : Kept t0 t1 w w' := fun g cs t fr hg _ _ => (h.block g (lt_of_heap hg)).trans hg
/-- what String leaves -/
def StrPost (w : World) (B : Nat) (s : ByteArray) (e : Ending) (w' : World) : Prop := e = .returned (.string s) ∧ Below B w w' ∧ Kept 139 5 w w'
set_option maxHeartbeats 2000000 in
set_option maxRecDepth 100000 in
theorem bld_Str (B b : Nat) (l : List UInt8) (w : World) (h : Lib.IsBuilder 139 5 B b (Lib.byteCells l) w) (hBw : B ≤ w.heap.size) :
    Calls Tryz.prog 114 #[.pointer (some ⟨b, 0, none⟩)] w (StrPost w B ⟨l.toArray⟩) := by
  obtain ⟨p, hB, v, hbk, hown, hne⟩ : ∃ p, Lib.BuilderAt 139 5 B b p (Lib.byteCells l) w := h.elim (fun h => ⟨_, h⟩) (fun h => ⟨_, h⟩)
  have fin : ∀ {e : Ending} {w' : World}, e = .returned (.string ⟨#[]⟩) ∧ Below w.heap.size w w' → l = [] → StrPost w B ⟨l.toArray⟩ e w' := by
    rintro e w' ⟨rfl, hb⟩ rfl
    exact ⟨rfl, hb.mono hBw, Kept.below hb⟩
  by_cases h0 : l = []
  · rcases hown.2 with ⟨rfl, _⟩ | ⟨g, cap, cur, rfl, hbg, hg, _, _, _, _⟩
    · exact (Any.Builder_String_nil bldLays bldExtra w.heap.size b p w hbk).mono fun e w' hh => fin hh h0
    · have hl : (Lib.byteCells l).length = 0 := by rw [h0]; rfl
      rw [hl] at hbk
      by_cases hc0 : cap = 0
      · subst hc0
        exact (Any.Builder_String_noroom bldLays bldExtra w.heap.size b g p cur w (Nat.le_refl _) hbk hg).mono fun e w' hh => fin hh h0
      · exact (Any.Builder_String_room bldLays bldExtra w.heap.size b g cap p w hc0 hbk).mono fun e w' hh => fin hh h0
  · have hl0 : l.length ≠ 0 := by simpa using h0
    rw [Lib.byteCells_length] at hown
    obtain ⟨g, cap, cur, rfl, hbg, hg, hnc, hcm, hcs, htake⟩ : ∃ g cap cur, v = .slice (some ⟨g, 0, none⟩) l.length cap ∧ B ≤ g ∧ w.heap[g]? = some (.cells cur 5 (0, 0)) ∧ l.length ≤ cap ∧ cap ≤ maxLen ∧ cur.size = cap * 1 ∧ cur.toList.take (l.length * 1) = Lib.byteCells l := by
      rcases hown.2 with ⟨_, hz⟩ | ⟨g, cap, cur, hv, r⟩
      · exact absurd hz hl0
      · exact ⟨g, cap, cur, hv, r⟩
    have c1 : w.drew.cell? ⟨b, 1, none⟩ = some (.slice (some ⟨g, 0, none⟩) l.length cap) := by
      have : w.drew.heap[b]? = some (.cells #[p, .slice (some ⟨g, 0, none⟩) l.length cap] 139 (0, 0)) := hbk
      rw [Lib.cell_of_heap this]; rfl
    have hSD : (Builtin.unsafeSliceData_ #[137] 154 #[.slice (some ⟨g, 0, none⟩) l.length cap]).run Tryz.prog w.drew = .ok (.pointer (some ⟨g, 0, none⟩)) w.drew :=
      Lib.run_unsafeSliceData_row _ _ _ _ _ _ (by omega)
    have hUS : (Builtin.unsafeString_ #[154, 3] 9 #[.pointer (some ⟨g, 0, none⟩), .int .i64 l.length]).run Tryz.prog w.drew = .ok (.string ⟨l.toArray⟩) (w.drew.freeze ⟨g, 0, none⟩ l.length) := by
      refine Lib.run_unsafeString_row w.drew 154 3 9 5 Tryz.underlying154 bldExtra.cellsByte g cur.size (by have hg' : w.drew.heap[g]? = some (.cells cur 5 (0, 0)) := hg; simp [World.shape?, hg']) l h0 (by omega) (by unfold maxLen at hcm; omega) ?_
      intro j x hx
      have := hown.cells (g := g) rfl j (.int .u8 x.toNat) (by simp [Lib.byteCells, hx])
      exact this
    have HQ : Hid (StrPost w B ⟨l.toArray⟩ (.returned (.string ⟨l.toArray⟩)) (w.drew.freeze ⟨g, 0, none⟩ l.length)) := by
      refine ⟨rfl, Lib.below_freeze (Below.drew (Below.refl B w)) (p := ⟨g, 0, none⟩) hbg _, fun k cs t fr hk h0 h1 => ?_⟩
      refine (freeze_far w.drew g _ k fun e => ?_).trans hk
      subst e
      rw [hg] at hk
      injection hk with hk
      injection hk with _ hk _
      exact h1 hk.symm
    clear hown hcs htake hg
    go_enter Tryz.func114, Tryz.ntmps114
    go_wp2
    go_region
    all_goals (go_wp2; go_ret; exact HQ.out)
end Go.Proofs.YtepadojclmjllaaGreatDoor
