import Derived.Test.YtepadojclmjllaaGreatDoorMxak
import Derived.Test.YtepadojclmjllaaGreatDoorShelf
import Derived.Test.YtepadojclmjllaaGreatDoorMxaa
/-
  The tables of keywords: the walk.
-/
namespace Go.Proofs.YtepadojclmjllaaGreatDoor
open Go.RowKit
set_option linter.unusedVariables false

theorem fields_at (lit : ByteArray) (ss : List ByteArray) (h1 : lit.size < 4294967281) (h2 : lit.data.toList.all (fun b => decide (b.toNat < 128)) = true) (h3 : (Lib.fields lit.data.toList).map (fun l => (⟨l.toArray⟩ : ByteArray)) = ss) (w : World) (hA : AscAt w) :
    Calls Tryz.prog 96 #[.string lit] w fun e w' => e = .returned (.slice (some ⟨w.heap.size, 0, none⟩) ss.length ss.length) ∧ w' = w.alloc (.cells (ss.map Value.string).toArray 9) := by
  refine (Tryz.strings_Fields lit w h1 (fun j b hb => ?_) hA).mono ?_
  · have := List.all_eq_true.1 h2 b (List.mem_of_getElem? hb)
    simpa using this
  · rintro e w' ⟨rfl, rfl⟩
    subst h3
    rw [List.length_map, List.map_map]
    exact ⟨rfl, rfl⟩
theorem fields_items (w : World) (hA : AscAt w) : Calls Tryz.prog 96 #[.string ⟨#[117, 115, 101, 32, 112, 117, 98, 32, 102, 110, 32, 115, 116, 114, 117, 99, 116, 32, 101, 110, 117, 109, 32, 116, 114, 97, 105, 116, 32, 105, 109, 112, 108, 32, 99, 111, 110, 115, 116, 32, 109, 97, 99, 114, 111]⟩] w fun e w' =>
    e = .returned (.slice (some ⟨w.heap.size, 0, none⟩) 9 9) ∧ w' = w.alloc (.cells (Cmd.items.map Value.string).toArray 9) := fields_at _ Cmd.items (by decide) (by decide) (by decide) w hA
def kinds : List ByteArray := [kUse, kFn, kStruct, kEnum, kTrait, kImpl, kConst, kMacro]
theorem fields_kinds (w : World) (hA : AscAt w) : Calls Tryz.prog 96 #[.string ⟨#[117, 115, 101, 32, 102, 110, 32, 115, 116, 114, 117, 99, 116, 32, 101, 110, 117, 109, 32, 116, 114, 97, 105, 116, 32, 105, 109, 112, 108, 32, 99, 111, 110, 115, 116, 32, 109, 97, 99, 114, 111]⟩] w fun e w' =>
    e = .returned (.slice (some ⟨w.heap.size, 0, none⟩) 8 8) ∧ w' = w.alloc (.cells (kinds.map Value.string).toArray 9) := fields_at _ kinds (by decide) (by decide) (by decide) w hA
set_option maxRecDepth 100000 in
theorem itemKeywords_any (w : World) (hA : AscAt w) : Calls Tryz.prog 98 #[] w fun e w' => e = .returned (.slice (some ⟨w.heap.size, 0, none⟩) 9 9) ∧ w' = w.alloc (.cells (Cmd.items.map Value.string).toArray 9) := by
  have hcall := Lib.hid (fields_items w hA)
  clear hA
  go_enter Tryz.func98, Tryz.ntmps98
  go_wp2_with fail
  refine hcall.out.mono ?_
  rintro e w1 ⟨rfl, rfl⟩
  clear hcall
  go_wp2_with fail
  go_ret
  exact ⟨rfl, rfl⟩
theorem idxFromS_bd (x : ByteArray) : ∀ (zs : List ByteArray) (k : Nat), Lib.idxFromS zs x k = -1 ∨ ((k : Int) ≤ Lib.idxFromS zs x k ∧ Lib.idxFromS zs x k < (k : Int) + zs.length)
  | [], k => .inl rfl
  | z :: zs, k => by
    unfold Lib.idxFromS
    split
    · exact .inr ⟨Int.le_refl _, by simp only [List.length_cons]; omega⟩
    · rcases idxFromS_bd x zs (k + 1) with h | ⟨h1, h2⟩
      · exact .inl h
      · exact .inr ⟨by omega, by simp only [List.length_cons]; omega⟩
/-- the node kind of a keyword's item, or 0 -/
def kindIx (t : ByteArray) : Int := if Lib.idxOfS kinds t < 0 then 0 else 2 + Lib.idxOfS kinds t
theorem kinds_lt : kinds.length = 8 := rfl
set_option maxRecDepth 100000 in
theorem itemKind_any (w : World) (t : ByteArray) (hA : AscAt w) : Calls Tryz.prog 54 #[.string t] w fun e w' => e = .returned (.int .i64 (kindIx t)) ∧ Below w.heap.size w w' := by
  have hcall := Lib.hid (fields_kinds w hA)
  have HB := Lib.hid (show Below w.heap.size w (w.alloc (.cells (kinds.map Value.string).toArray 9)) from (Below.refl _ _).alloc (Nat.le_refl _) _)
  have hcall2 := Lib.hid (Tryz.slices_Index_string w.heap.size 0 8 8 kinds t (w.alloc (.cells (kinds.map Value.string).toArray 9)) (Nat.le_refl _) (by omega) (fun j hj => by
    rw [Lib.cell_of_heap (heap_alloc_new _ _)]
    simp only [Nat.zero_add]
    rw [show ((kinds.map Value.string).toArray)[j]? = (kinds.map Value.string)[j]? by simp, List.getElem?_map, List.getElem?_eq_getElem hj]
    simp [List.getD, List.getElem?_eq_getElem hj]))
  rw [show kinds.take 8 = kinds from rfl] at hcall2
  have hb : -1 ≤ Lib.idxOfS kinds t ∧ Lib.idxOfS kinds t < 8 := by
    rcases idxFromS_bd t kinds 0 with h | ⟨h1, h2⟩
    · unfold Lib.idxOfS; omega
    · rw [kinds_lt] at h2; unfold Lib.idxOfS; omega
  unfold kindIx
  clear hA
  generalize Lib.idxOfS kinds t = i at *
  obtain ⟨hb1, hb2⟩ := hb
  generalize hW : w.alloc (.cells (kinds.map Value.string).toArray 9) = W at *
  clear hW
  by_cases hi : i < 0
  · rw [if_pos hi]
    go_enter Tryz.func54, Tryz.ntmps54
    go_wp2_with fail
    refine hcall.out.mono ?_
    rintro e w1 ⟨rfl, rfl⟩
    clear hcall
    go_wp2_with fail
    refine hcall2.out.mono ?_
    rintro e w1 ⟨rfl, rfl⟩
    clear hcall2
    go_wp2_with fail
    go_ret
    exact ⟨rfl, HB.out⟩
  · rw [if_neg hi]
    have hi0 : 0 ≤ i := by omega
    go_enter Tryz.func54, Tryz.ntmps54
    go_wp2_with fail
    refine hcall.out.mono ?_
    rintro e w1 ⟨rfl, rfl⟩
    clear hcall
    go_wp2_with fail
    refine hcall2.out.mono ?_
    rintro e w1 ⟨rfl, rfl⟩
    clear hcall2
    go_wp2_with fail
    go_ret
    exact ⟨rfl, HB.out⟩
set_option maxRecDepth 100000 in
theorem atItem_any (w : World) (p : Nat) (M : MM) (toks : List Tok) (low : List LowF) (kind : Int) (s : PS) (h : PAt w p M toks low kind s) :
    Calls Tryz.prog 161 #[.pointer (some ⟨p, 0, none⟩)] w fun e w' => e = .returned (.bool (Cmd.atItem.eval s.flag s.rest)) ∧ Below w.heap.size w w' := by
  have hasc : AscAt w := by obtain ⟨g, cap, v, At, ct, hX⟩ := h; exact hX.asc
  have hcall := Lib.hid (itemKeywords_any w hasc)
  have HB := Lib.hid (show Below w.heap.size w (w.alloc (.cells (Cmd.items.map Value.string).toArray 9)) from (Below.refl _ _).alloc (Nat.le_refl _) _)
  have hcall2 := Lib.hid (at_any _ p M toks low kind s (h.below HB.out) (some ⟨w.heap.size, 0, none⟩) 9 9 Cmd.items (StrsAt.new w Cmd.items 9 _ rfl) rfl (by decide))
  have HP := Lib.hid h
  have he : Cmd.atItem.eval s.flag s.rest = (atB Cmd.items s.rest && !atB [kFn] s.rest) := rfl
  rw [he]
  clear he h hasc
  generalize w.alloc (.cells (Cmd.items.map Value.string).toArray 9) = W at *
  cases h1 : atB Cmd.items s.rest
  · rw [h1] at hcall2
    clear h1
    go_enter Tryz.func161, Tryz.ntmps161
    go_wp2_with fail
    refine hcall.out.mono ?_
    rintro e w1 ⟨rfl, rfl⟩
    clear hcall
    go_wp2_with fail
    refine hcall2.out.mono ?_
    rintro e w2 ⟨rfl, hb⟩
    have HB2 := Lib.hid (HB.out.trans (hb.mono HB.out.size))
    clear hb hcall2
    go_wp2_with fail
    go_ret
    exact ⟨rfl, HB2.out⟩
  · rw [h1] at hcall2
    clear h1
    have HK := Lib.hid (fun (w2 : World) (hb : Below w.heap.size w w2) => at_any (w2.alloc (.cells #[.string kFn] 9)) p M toks low kind s (HP.out.below (hb.alloc hb.size _)) (some ⟨w2.heap.size, 0, none⟩) 1 1 [kFn] (StrsAt.new w2 [kFn] 9 _ rfl) rfl (by decide))
    clear HP
    go_enter Tryz.func161, Tryz.ntmps161
    go_wp2_with fail
    refine hcall.out.mono ?_
    rintro e w1 ⟨rfl, rfl⟩
    clear hcall
    go_wp2_with fail
    refine hcall2.out.mono ?_
    rintro e w2 ⟨rfl, hb⟩
    have HB2 := Lib.hid (HB.out.trans (hb.mono HB.out.size))
    clear hb hcall2
    go_wp2_with fail
    refine (HK.out w2 HB2.out).mono ?_
    rintro e w3 ⟨rfl, hb⟩
    have HB3 := Lib.hid ((HB2.out.alloc HB2.out.size _).trans (hb.mono (by have := HB2.out.size; simp; omega)))
    clear hb HK
    go_wp2_with fail
    go_ret
    exact ⟨rfl, HB3.out⟩
end Go.Proofs.YtepadojclmjllaaGreatDoor

/-
  (*parser).lookahead: the walk.
-/
namespace Go.Proofs.YtepadojclmjllaaGreatDoor
open Go.RowKit
set_option linter.unusedVariables false

theorem heap_alloc_lt (w : World) (o : Obj) {b : Nat} (h : b < w.heap.size) : (w.alloc o).heap[b]? = w.heap[b]? := ((Below.refl _ _).alloc (Nat.le_refl _) o).block b h
theorem taken_length (r : List Tok) : (taken r).length ≤ r.length := by unfold taken; rw [List.length_take]; omega
theorem bump_ex (s : PS) (h : s.rest.length < s.gas) : ∃ u, s.bump = some u ∧ u.rest = after s.rest := by
  unfold PS.bump PS.add
  have := taken_length s.rest
  rw [if_pos (by rw [List.length_map]; omega)]
  exact ⟨_, rfl, rfl⟩
/-- a parser made anew over tokens that stand -/
theorem fresh_at {W : World} {F : Nat → Prop} {toks : List Tok} {At : Option Addr} {ct g p : Nat} (rest : List Tok) (hrest : rest <:+ toks) (k : Int) (hk : W.heap[g]? = some (.cells #[.int .i64 k, .string ⟨#[]⟩, .slice none 0 0] 53 (0, 0)))
    (hp : W.heap[p]? = some (.cells #[.slice At toks.length ct, .int .i64 ((toks.length - rest.length : Nat) : Int), .slice (some ⟨g, 0, none⟩) 1 1] 76 (0, 0))) (hne : p ≠ g) (x : Nat) (hx : x < W.heap.size ∧ x ≠ p ∧ x ≠ g) (hF : ∀ b, F b → b < W.heap.size ∧ b ≠ p ∧ b ≠ g ∧ b ≠ x)
    (htok : ToksAt W F At toks) (hb : toks.length ≤ 500000) (hasc : AscAt W) (h1 : 1 ≠ p) (h2 : 1 ≠ g) :
    PAtX W p ⟨fun b => b = p ∨ b = g, x⟩ toks [] k ⟨rest, [], false, 600000⟩ g 1 (.slice none 0 0) At ct := by
  refine ⟨hp, ⟨rfl, .inr ⟨g, 1, _, rfl, Nat.zero_le _, hk, Nat.le_refl _, by decide, rfl, rfl⟩⟩, ⟨[], World.ownsRow_nil _ _ _ _, by unfold RowV; trivial⟩, (fun f hf => by cases hf), htok.keep (fun b hb => ⟨(hF b hb).1, fun h => h.elim (hF b hb).2.1 (hF b hb).2.2.1, (hF b hb).2.2.2⟩) (fun _ _ => rfl),
    ⟨hne, by simp [Value.ownBlock], by simp [Value.ownBlock], (fun f hf => by cases hf), List.Pairwise.nil⟩, ⟨.inl rfl, .inr rfl, by simp [Value.ownBlock], (fun f hf => by cases hf)⟩, hrest, by simp, by simp, hb, hasc, fun h => h.elim h1 h2, ⟨hx.1, fun h => h.elim hx.2.1 hx.2.2⟩⟩
set_option maxRecDepth 100000 in
set_option maxHeartbeats 1600000 in
theorem lookahead_any (w : World) (p : Nat) (M : MM) (toks : List Tok) (low : List LowF) (kind : Int) (s : PS) (h : PAt w p M toks low kind s) :
    Calls Tryz.prog 53 #[.pointer (some ⟨p, 0, none⟩)] w fun e w' => ∃ q M' s', e = .returned (.pointer (some ⟨q, 0, none⟩)) ∧ PAt w' q M' toks [] 0 s' ∧ s'.rest = after s.rest ∧ Below w.heap.size w w' := by
  obtain ⟨g, cap, v, At, ct, hX⟩ := h
  obtain ⟨c0, c1, c2⟩ := hX.cells
  have hplt := lt_of_heap hX.blk
  have HX := Lib.hid hX
  have hle := hX.rest.length_le
  have hbt := hX.btok
  clear hX
  generalize hm : toks.length - s.rest.length = m at *
  generalize hL : toks.length = L at *
  have HM := Lib.hid hm
  have HL := Lib.hid hL
  have hmL : m ≤ L := by omega
  clear hm hL
  go_enter Tryz.func53, Tryz.ntmps53
  go_wp2_with fail
  go_region
  generalize hW : ((w.alloc (.cells #[.int .i64 0, .string ⟨#[]⟩, .slice none 0 0] 53)).alloc (.cells #[.slice At L ct, .int .i64 (m : Int), .slice (some ⟨w.heap.size, 0, none⟩) 1 1] 76)).drew = W
  have hsz : W.heap.size = w.heap.size + 2 := by rw [← hW]; simp
  have HB := Lib.hid (show Below w.heap.size w W by rw [← hW]; exact (((Below.refl _ _).alloc (Nat.le_refl _) _).alloc (by simp) _).drew)
  have n0 : W.heap[w.heap.size]? = some (.cells #[.int .i64 0, .string ⟨#[]⟩, .slice none 0 0] 53 (0, 0)) := by
    rw [← hW]
    show ((w.alloc _).alloc _).heap[_]? = _
    rw [heap_alloc_lt _ _ (by simp)]
    exact heap_alloc_new _ _
  have n1 : W.heap[w.heap.size + 1]? = some (.cells #[.slice At L ct, .int .i64 (m : Int), .slice (some ⟨w.heap.size, 0, none⟩) 1 1] 76 (0, 0)) := by
    rw [← hW]
    have := heap_alloc_new (w.alloc (.cells #[.int .i64 0, .string ⟨#[]⟩, .slice none 0 0] 53)) (.cells #[.slice At L ct, .int .i64 (m : Int), .slice (some ⟨w.heap.size, 0, none⟩) 1 1] 76)
    simp only [World.size_alloc] at this
    exact this
  have hF : ∀ b, Fix w M b → b < W.heap.size ∧ b ≠ w.heap.size + 1 ∧ b ≠ w.heap.size ∧ b ≠ M.x := fun b hb => by have := hb.1; have := hb.3; omega
  rw [← HL.out, ← HM.out, ← HL.out] at n1
  have hasc := HX.out.asc.lt
  have hQ := fresh_at s.rest HX.out.rest 0 n0 n1 (by omega) M.x (by have := HX.out.hole.1; omega) hF (HX.out.tok.keep (fun _ h => h) (fun b hb => HB.out.block b hb.1)) (by rw [HL.out]; exact hbt) (HX.out.asc.below HB.out) (by omega) (by omega)
  obtain ⟨u, hu1, hu2⟩ := bump_ex ⟨s.rest, [], false, 600000⟩ (by show s.rest.length < 600000; omega)
  have hcall := Lib.hid (bump_any W (w.heap.size + 1) _ toks [] 0 _ u ⟨_, _, _, _, _, hQ⟩ hu1)
  have HU := Lib.hid hu2
  clear hW n0 n1 hF hQ hu1 hu2 c0 c1 c2 hasc
  go_wp2_with fail
  refine hcall.out.mono ?_
  rintro e w1 ⟨rfl, M1, hp1, hst1⟩
  have HP1 := Lib.hid hp1
  have HB1 := Lib.hid (show Below w.heap.size w w1 from ⟨hst1.os.trans HB.out.os, hst1.tape.trans HB.out.tape, hst1.output.trans HB.out.output, Nat.le_trans HB.out.size hst1.size, fun b hb => (hst1.block b (Nat.lt_of_lt_of_le hb HB.out.size) (fun h => by rcases h with h | h <;> omega)).trans (HB.out.block b hb)⟩)
  clear hcall hp1 hst1
  go_wp2_with fail
  go_ret
  exact ⟨_, M1, u, rfl, HP1.out, HU.out, HB1.out⟩
end Go.Proofs.YtepadojclmjllaaGreatDoor

/-
  Words for rows and blocks of any type.
-/
namespace Go.Proofs.YtepadojclmjllaaGreatDoor
open Go.RowKit
set_option linter.unusedVariables false

theorem grown_below {B : Nat} {e : TypeId} {size n : Nat} {v : Value} {xs : List Value} {w0 w w' : World} (hb : Below B w0 w) (hB : B ≤ w.heap.size) (ho : w.ownsRow B e size v n xs) (hg : w.grownBy w' v.ownBlock) : Below B w0 w' :=
  hb.grown hg hB (fun k hk => (ho.lt k hk).1)
theorem grown_of_alloc {u w' : World} {o : Obj} {row : Option Nat} (hg : (u.alloc o).grownBy w' row) : u.grownBy w' row :=
  ⟨hg.os, hg.tape, hg.output, Nat.le_trans (by simp) hg.size, fun k hk hne => (hg.block k (by simp; omega) hne).trans (Below.heap_alloc u o k hk)⟩
/-- 'append(v, T{..})': the literal lies in the newest block -/
theorem wpList_append_litH {P : Program} {u : World} {ops : Array Oper} {rest : List Oper} {o : Oper} {a : Act} {Q : Exit → Act → World → Prop} (hgd : o.guard = none) (s x : Operand) (t : TypeId)
    (ho : o.op = .call { callee := .builtin .append, args := #[s, x], argTypes := #[t, t] })
    (base : Nat) (e : TypeId) (z : Value) (size bytes : Nat) (ht : P.underlying t = some (.slice e)) (hinfo : (P.info? e).map (fun i => (i.zero, i.size, i.bytes)) = some (some z, size, bytes))
    (hzs : z.cells.size = size) (hsz : 0 < size)
    (v : Value) (n : Nat) (xs : List Value) (hs : a.eval s = v) (hown : u.ownsRow base e size v n xs)
    (m c H : Nat) (hH : u.heap.size = H) (news : List Value) (hx : a.eval x = .slice (some ⟨H, 0, none⟩) m c) (hl : news.length = m * size) (h1 : ∀ u ∈ news, u.oneCell' = true)
    (h63 : n + m ≤ maxLen) (hbytes : (n + m) * bytes ≤ 140737488355328) (hbase : base ≤ u.heap.size)
    (h : ∀ v' w', w'.ownsRow base e size v' (n + m) (xs ++ news) → u.grownBy w' v.ownBlock → (v'.ownBlock = v.ownBlock ∨ ∃ g, v'.ownBlock = some g ∧ u.heap.size ≤ g) → wpList P ops Q rest (a.put o.dst v') w') :
    wpList P ops Q (o :: rest) a (u.alloc (.cells news.toArray e)) := by
  subst hH
  refine wpList_plain hgd fun K hK => ?_
  obtain ⟨i, hi, hz, hsize, hby⟩ := info_parts hinfo
  obtain ⟨v', w', hr, h2, h3, _, h5⟩ := run_append_own_at (P := P) (u.alloc (.cells news.toArray e)) base t o.type e i z size bytes ht hi hz hsize hby hzs hsz v n xs (hown.alloc _) ⟨u.heap.size, 0, none⟩ m c news hl
    (fun j w hw => by rw [addr0, World.cell?_alloc_new]; simpa using hw) h1 h63 hbytes (by simp; omega)
  unfold Oper.wp execOp
  simp only [ho, resolve, invoke, builtin, Sem.run_bind, Sem.run_pure, Result.andThen_ok, List.map_toArray, List.map_cons, List.map_nil, hs, hx, hr]
  exact hK _ _ (h v' w' h2 (grown_of_alloc h3) (h5.imp_right fun h => ⟨_, h, by simp⟩))
theorem wpList_append_lit {P : Program} {u : World} {ops : Array Oper} {rest : List Oper} {o : Oper} {a : Act} {Q : Exit → Act → World → Prop} (hgd : o.guard = none) (s x : Operand) (t : TypeId)
    (ho : o.op = .call { callee := .builtin .append, args := #[s, x], argTypes := #[t, t] })
    (base : Nat) (e : TypeId) (z : Value) (size bytes : Nat) (ht : P.underlying t = some (.slice e)) (hinfo : (P.info? e).map (fun i => (i.zero, i.size, i.bytes)) = some (some z, size, bytes))
    (hzs : z.cells.size = size) (hsz : 0 < size)
    (v : Value) (n : Nat) (xs : List Value) (hs : a.eval s = v) (hown : u.ownsRow base e size v n xs)
    (m c : Nat) (news : List Value) (hx : a.eval x = .slice (some ⟨u.heap.size, 0, none⟩) m c) (hl : news.length = m * size) (h1 : ∀ u ∈ news, u.oneCell' = true)
    (h63 : n + m ≤ maxLen) (hbytes : (n + m) * bytes ≤ 140737488355328) (hbase : base ≤ u.heap.size)
    (h : ∀ v' w', w'.ownsRow base e size v' (n + m) (xs ++ news) → u.grownBy w' v.ownBlock → (v'.ownBlock = v.ownBlock ∨ ∃ g, v'.ownBlock = some g ∧ u.heap.size ≤ g) → wpList P ops Q rest (a.put o.dst v') w') :
    wpList P ops Q (o :: rest) a (u.alloc (.cells news.toArray e)) :=
  wpList_append_litH hgd s x t ho base e z size bytes ht hinfo hzs hsz v n xs hs hown m c _ rfl news hx hl h1 h63 hbytes hbase h

/-- a block after a store -/
theorem heap_set {w : World} {b : Nat} {cs : Array Value} {t : TypeId} {fr : Nat × Nat} (h : w.heap[b]? = some (.cells cs t fr)) (i : Nat) (v : Value) : (w.setCell ⟨b, i, none⟩ v).heap[b]? = some (.cells (cs.setIfInBounds i v) t fr) := by
  simp [World.setCell, Array.getElem?_modify, h]
theorem cell_of {w : World} {b : Nat} {cs : Array Value} {t : TypeId} {fr : Nat × Nat} (h : w.heap[b]? = some (.cells cs t fr)) (i : Nat) (v : Value) (hv : cs[i]? = some v) : w.cell? ⟨b, i, none⟩ = some v := by
  rw [Lib.cell_of_heap h]; exact hv

theorem own_slice {w : World} {base : Nat} {e : TypeId} {size : Nat} {v : Value} {n : Nat} {xs : List Value} (h : w.ownsRow base e size v n xs) : ∃ A c, v = .slice A n c := by
  rcases h.2 with ⟨h, h0⟩ | ⟨g, cap, cur, h, _⟩
  · exact ⟨none, 0, by rw [h, h0]⟩
  · exact ⟨_, _, h⟩
/- STEPS -/
theorem Step.alloc {M : MM} (w : World) (o : Obj) : Step M w M (w.alloc o) := Step.of_below ((Below.refl _ _).alloc (Nat.le_refl _) o)
theorem Step.set {M M' : MM} {w w1 : World} (h : Step M w M' w1) (b i : Nat) (v : Value) (hb : M b ∨ w.heap.size ≤ b) : Step M w M' (w1.setCell ⟨b, i, none⟩ v) :=
  ⟨h.os, h.tape, h.output, by simp only [World.size_setCell]; exact h.size, fun c hc hM => (Below.heap_setCell _ _ _ _ (by rintro rfl; rcases hb with hb | hb; exact hM hb; omega)).trans (h.block c hc hM), h.own, h.hx⟩
/-- one block more may be written -/
def More (M : MM) (o : Option Nat) : MM := ⟨fun b => M b ∨ o = some b, M.x⟩
theorem Step.grown {M : MM} {w w2 : World} {v v' : Value} (hg : w.grownBy w2 v.ownBlock) (hm : ∀ b, v.ownBlock = some b → M b) (hat : v'.ownBlock = v.ownBlock ∨ ∃ g, v'.ownBlock = some g ∧ w.heap.size ≤ g) : Step M w (More M v'.ownBlock) w2 :=
  ⟨hg.os, hg.tape, hg.output, hg.size, fun b hb hM => hg.block b hb (fun e => hM (hm b e.symm)), (fun b hb => by
    rcases hb with hb | hb
    · exact .inl hb
    · rcases hat with e | ⟨g, e, hge⟩
      · exact .inl (hm b (by rw [← e, hb]))
      · rw [e] at hb; injection hb with hb; subst hb; exact .inr hge), rfl⟩

/- FLAT ROWS -/
/-- the slice value '.slice A xs.length _' reads as xs, k cells each, in blocks of F -/
def FlatAt {α : Type} (enc : α → List Value) (k : Nat) (w : World) (F : Nat → Prop) (A : Option Addr) (xs : List α) : Prop :=
  0 < xs.length → ∃ b off, A = some ⟨b, off, none⟩ ∧ F b ∧ ∀ i x, xs[i]? = some x → ∀ j v, (enc x)[j]? = some v → w.cell? ⟨b, off + i * k + j, none⟩ = some v
theorem FlatAt.keep {α : Type} {enc : α → List Value} {k : Nat} {w w' : World} {F F' : Nat → Prop} {A : Option Addr} {xs : List α} (h : FlatAt enc k w F A xs) (hF : ∀ b, F b → F' b) (hw : ∀ b, F b → w'.heap[b]? = w.heap[b]?) : FlatAt enc k w' F' A xs := by
  intro hp
  obtain ⟨b, off, rfl, hb, hc⟩ := h hp
  exact ⟨b, off, rfl, hF _ hb, fun i x hx j v hv => (World.cell?_of_block (w := w) (w' := w') (a := ⟨b, _, none⟩) (hw b hb)).trans (hc i x hx j v hv)⟩
theorem flat_length {α : Type} {enc : α → List Value} {k : Nat} (hk : ∀ x, (enc x).length = k) (xs : List α) : (xs.flatMap enc).length = xs.length * k := by
  induction xs with
  | nil => simp
  | cons x r ih => rw [List.flatMap_cons, List.length_append, hk, ih, List.length_cons, Nat.add_mul]; omega
theorem flat_at {α : Type} {enc : α → List Value} {k : Nat} (hk : ∀ x, (enc x).length = k) : ∀ (xs : List α) (i : Nat) (x : α), xs[i]? = some x → ∀ j v, (enc x)[j]? = some v → (xs.flatMap enc)[i * k + j]? = some v
  | [], i, x, h, _, _, _ => by simp at h
  | y :: r, 0, x, h, j, v, hv => by
    simp at h; subst h
    have hj : j < (enc y).length := (List.getElem?_eq_some_iff.1 hv).1
    rw [List.flatMap_cons, Nat.zero_mul, Nat.zero_add, List.getElem?_append_left hj]; exact hv
  | y :: r, i + 1, x, h, j, v, hv => by
    have := flat_at hk r i x (by simpa using h) j v hv
    rw [List.flatMap_cons, List.getElem?_append_right (by rw [hk, Nat.add_mul]; omega), hk, show (i + 1) * k + j - k = i * k + j by rw [Nat.add_mul]; omega]
    exact this
theorem FlatAt.of_own {α : Type} {enc : α → List Value} {k : Nat} (hk : ∀ x, (enc x).length = k) {w : World} {F : Nat → Prop} {base : Nat} {e : TypeId} {v : Value} {xs : List α} (h : w.ownsRow base e k v xs.length (xs.flatMap enc)) (hF : ∀ b, v.ownBlock = some b → F b) :
    ∃ A c, v = .slice A xs.length c ∧ FlatAt enc k w F A xs ∧ (∀ a, A = some a → v.ownBlock = some a.block) ∧ xs.length ≤ c := by
  rcases h.2 with ⟨rfl, hn⟩ | ⟨g, cap, cur, rfl, hb, hh, h3, h4, h5, h6⟩
  · exact ⟨none, 0, by rw [hn], (fun hp => by omega), (fun a ha => by cases ha), by omega⟩
  · refine ⟨some ⟨g, 0, none⟩, cap, rfl, fun _ => ⟨g, 0, rfl, hF g rfl, fun i x hx j u hu => ?_⟩, fun a ha => by injection ha with ha; subst ha; rfl, ?_⟩
    · have := h.cells (g := g) rfl _ _ (flat_at hk xs i x hx j u hu)
      rw [addr0] at this
      simp only [Nat.zero_add]
      exact this
    · exact h3
end Go.Proofs.YtepadojclmjllaaGreatDoor
