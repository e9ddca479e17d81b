import Derived.Test.YtpibenilagloaaaGreatDoorMzat
import Derived.Test.YtpibenilagloaaaGreatDoorMzaf
import Derived.Shelf.Strings.Builder1
import Derived.Lib.Builder
import Derived.Lib.AppendStr
import Derived.StillTailTactics
namespace Go.Proofs.YtpibenilagloaaaGreatDoor
open Go.RowKit
set_option linter.unusedVariables false
theorem big_below (w : World) : PredBelow Tryz.prog 79 #[] (fun x : Mdl => .agg (mdC x).toArray) (fun x => decide (2000 < x.src.size)) w := fun W x hb =>
  (big_pred x.nm x.src W).mono fun e w' h => ⟨h.1, hb.trans (h.2.mono hb.size)⟩
theorem name_below (w : World) (hA : AscAt w) : PredBelow Tryz.prog 80 #[] (fun x : Mdl => .agg (mdC x).toArray) (fun x => !isIdB x.nm) w := fun W x hb =>
  (name_pred x.nm x.src W (AscAt.below hA hb)).mono fun e w' h => ⟨h.1, hb.trans (h.2.mono hb.size)⟩
set_option maxRecDepth 100000 in
set_option maxHeartbeats 1600000 in
theorem val_one (x : Mdl) (b off c : Nat) (w : World) (hA : AscAt w) (hb : b < w.heap.size) (hc : ∀ i u, (mdC x)[i]? = some u → w.cell? ⟨b, off + i, none⟩ = some u) (h1 : isIdB x.nm = true) (h2 : x.src.size ≤ 2000) :
    Calls Tryz.prog 42 #[.slice (some ⟨b, off, none⟩) 1 c] w fun e w' => e = .returned (.int .i64 0) ∧ Below w.heap.size w w' := by
  have e1 : ∀ args w, (callFunc 79 args).run Tryz.prog w = .ok (.enter 79 args) w := enters_of Tryz.func79 (by kernel_rfl) rfl
  have e2 : ∀ args w, (callFunc 80 args).run Tryz.prog w = .ok (.enter 80 args) w := enters_of Tryz.func80 (by kernel_rfl) rfl
  have hcc : ∀ w' : World, Below w.heap.size w w' → ∀ j, j < [x].length → ∀ i v, (mdC ([x][j]!))[i]? = some v → w'.cell? ⟨b, off + j * 2 + i, none⟩ = some v := by
    intro w' hb' j hj i v hi
    obtain rfl : j = 0 := by simpa using hj
    rw [Nat.zero_mul, Nat.add_zero]
    exact (hb'.cell (p := ⟨b, _, none⟩) hb).trans (hc i v hi)
  have hc1 := Lib.hid (fun w' (hb' : Below w.heap.size w w') => AnyQ.slices_ContainsFunc Tryz.conMd 2 Tryz.isAgg48 Tryz.sizeOf48 mdC (fun _ => rfl) (fun x => decide (2000 < x.src.size)) 79 #[] e1 b off 1 c [x] w' (big_below w') (by simp) (by decide) (Nat.lt_of_lt_of_le hb hb'.size) (hcc w' hb'))
  have hc2 := Lib.hid (fun w' (hb' : Below w.heap.size w w') => AnyQ.slices_ContainsFunc Tryz.conMd 2 Tryz.isAgg48 Tryz.sizeOf48 mdC (fun _ => rfl) (fun x => !isIdB x.nm) 80 #[] e2 b off 1 c [x] w' (name_below w' (AscAt.below hA hb')) (by simp) (by decide) (Nat.lt_of_lt_of_le hb hb'.size) (hcc w' hb'))
  have r1 : ([x].take 1).any (fun x => decide (2000 < x.src.size)) = false := by simp; omega
  have r2 : ([x].take 1).any (fun x => !isIdB x.nm) = false := by simp [h1]
  have HCC := Lib.hid hcc
  rw [r1] at hc1
  rw [r2] at hc2
  clear r1 r2 e1 e2 hcc
  have HZ := Lib.hid (fun w' (hb' : Below w.heap.size w w') => indexOf_any b off 0 c [x] x.nm w' (Nat.zero_le _) (by decide) (Nat.lt_of_lt_of_le hb hb'.size) (fun j y hy i u hi => by
    obtain ⟨hj, rfl⟩ := List.getElem?_eq_some_iff.1 hy
    have := HCC.out w' hb' j hj i u (by rw [getElem!_pos [x] j hj]; exact hi)
    exact this))
  have hz : idxOf ([x].take 0) x.nm = -1 := by rfl
  rw [hz] at HZ
  have c0 := hc 0 _ rfl
  have c1 := hc 1 _ rfl
  rw [Nat.add_zero] at c0
  obtain ⟨nm, src⟩ := x
  clear hc h1 h2 hz HCC
  simp only at HZ
  go_enter Tryz.func42, Tryz.ntmps42
  go_wp2_with fail
  refine (hc1.out w (Below.refl _ _)).mono ?_
  rintro e w1 ⟨rfl, hb1⟩
  have HB1 := Lib.hid hb1
  have H2 := Lib.hid (hc2.out w1 hb1)
  clear hb1 hc1 hc2
  go_wp2_with fail
  refine H2.out.mono ?_
  rintro e w2 ⟨rfl, hb2⟩
  have HB2 := Lib.hid (HB1.out.trans (hb2.mono HB1.out.size))
  clear hb2 H2
  go_wp2_with fail
  go_loopw [16] (fun i wr => ∃ k : Nat, k ≤ 1 ∧ i = .int .i64 (k : Int) ∧ Below w.heap.size w wr) (fun i _ => 1 - (intOf i).toNat)
  case atStart => exact ⟨0, by omega, rfl, HB2.out⟩
  case round =>
    obtain ⟨k, hk, rfl, hb3⟩ := hrel
    by_cases hk0 : k = 0
    · subst hk0
      have d0 : wr.cell? ⟨b, off, none⟩ = some (.string nm) := (hb3.cell (p := ⟨b, _, none⟩) hb).trans c0
      have d1 : wr.cell? ⟨b, off + 1, none⟩ = some (.string src) := (hb3.cell (p := ⟨b, _, none⟩) hb).trans c1
      have hs3 := hb3.size
      have HB3 := Lib.hid (hb3.alloc hs3 (.cells #[.string nm, .string src] 48))
      have H4 := Lib.hid (HZ.out _ HB3.out.drew)
      clear hb3 c0 c1
      go_wp2_with fail
      go_region_with (go_at_call 82; refine H4.out.mono ?_; rintro e w4 ⟨rfl, hb4⟩)
      all_goals
        have HB4 := Lib.hid ((HB3.out.drew).trans (hb4.mono HB3.out.size))
        clear hb4 H4
        go_wp2_with fail
        go_roundw
        case rel => exact ⟨1, by omega, by go_num, HB4.out⟩
        case measure => simp [intOf]
    · have hkI : ¬ (k : Int) < 1 := by omega
      have hkN : ¬ k < 1 := by omega
      go_wp2_with fail
      go_ret
      exact ⟨rfl, hb3⟩
end Go.Proofs.YtpibenilagloaaaGreatDoor

namespace Go.Proofs.YtpibenilagloaaaGreatDoor
open Go.RowKit Go.Shelf
set_option linter.unusedVariables false
def Kept (t0 t1 : TypeId) (w w' : World) : Prop := ∀ (g : Nat) (cs : Array Value) (t : TypeId) (fr : Nat × Nat), w.heap[g]? = some (.cells cs t fr) → t ≠ t0 → t ≠ t1 → w'.heap[g]? = some (.cells cs t fr)
theorem Kept.trans {t0 t1 : TypeId} {a b c : World} (h : Kept t0 t1 a b) (k : Kept t0 t1 b c) : Kept t0 t1 a c := fun g cs t fr hg h0 h1 => k g cs t fr (h g cs t fr hg h0 h1) h0 h1
theorem Kept.refl (t0 t1 : TypeId) (w : World) : Kept t0 t1 w w := fun _ _ _ _ h _ _ => h
theorem Kept.setCell {t0 t1 t : TypeId} {w : World} {b : Nat} {cs : Array Value} {fr : Nat × Nat} (hb : w.heap[b]? = some (.cells cs t fr)) (ht : t = t0 ∨ t = t1) (i : Nat) (v : Value) : Kept t0 t1 w (w.setCell ⟨b, i, none⟩ v) := by
  intro g cs' t' fr' hg h0 h1
  rw [Below.heap_setCell _ _ _ _ (fun e => ?_)]
  · exact hg
  · simp only at e
    subst e
    rw [hb] at hg
    injection hg with hg
    injection hg with _ hg _
    rcases ht with ht | ht
    · exact h0 (by rw [← hg, ht])
    · exact h1 (by rw [← hg, ht])
theorem Kept.grown {t0 t1 e : TypeId} {w w' : World} {base size n : Nat} {v : Value} {xs : List Value} (ho : w.ownsRow base e size v n xs) (hg : w.grownBy w' v.ownBlock) (he : e = t0 ∨ e = t1) : Kept t0 t1 w w' := by
  intro g cs' t' fr' hh h0 h1
  rw [hg.block g (lt_of_heap hh) (fun e' => ?_)]
  · exact hh
  · rcases ho.2 with ⟨rfl, _⟩ | ⟨g', cap, cur, rfl, _, hc, _⟩
    · simp [Value.ownBlock] at e'
    · simp [Value.ownBlock] at e'
      subst e'
      rw [hc] at hh
      injection hh with hh
      injection hh with _ hh _
      rcases he with ht | ht
      · exact h0 (by rw [← hh, ht])
      · exact h1 (by rw [← hh, ht])
theorem drop_cons {α : Type} (es : List α) (k : Nat) (h : k < es.length) : es.drop k = es[k] :: es.drop (k + 1) := List.drop_eq_getElem_cons h
def bldRen : Go.Shelf.Ren := ⟨fun | 169 => 47 | n => n, fun | 70 => 106 | 9 => 9 | 0 => 0 | 72 => 109 | 37 => 107 | 127 => 173 | 3 => 3 | 5 => 5 | n => n, fun | n => n⟩
theorem bldLays : Go.Proofs.Lays.n169 Tryz.prog bldRen := {
  mixed := by kernel_rfl
  f169 := Tryz.func47.trans (congrArg some (by kernel_rfl))
  t0 := Tryz.underlying0
  a0 := Tryz.isAgg0
  z0 := Tryz.sizeOf0
  v0 := Tryz.zeroValue0
  t3 := Tryz.underlying3
  a3 := Tryz.isAgg3
  z3 := Tryz.sizeOf3
  v3 := Tryz.zeroValue3
  t9 := Tryz.underlying9
  a9 := Tryz.isAgg9
  z9 := Tryz.sizeOf9
  v9 := Tryz.zeroValue9
  t37 := Tryz.underlying107
  a37 := Tryz.isAgg107
  z37 := Tryz.sizeOf107
  v37 := Tryz.zeroValue107
  t70 := Tryz.underlying106
  a70 := Tryz.isAgg106
  z70 := Tryz.sizeOf106
  v70 := Tryz.zeroValue106
  t72 := Tryz.underlying109
  a72 := Tryz.isAgg109
  z72 := Tryz.sizeOf109
  v72 := Tryz.zeroValue109
  t127 := Tryz.underlying173
  a127 := Tryz.isAgg173
  z127 := Tryz.sizeOf173
  v127 := Tryz.zeroValue173 }
theorem bldExtra : Builder.Extra Tryz.prog bldRen := {
  sizeBuilder := by kernel_rfl
  liesBuilder := by kernel_rfl
  t5 := Tryz.underlying5
  a5 := Tryz.isAgg5
  z5 := Tryz.sizeOf5
  v5 := Tryz.zeroValue5
  infoByte := by kernel_rfl
  cellsByte := by kernel_rfl
  sizeByte := by kernel_rfl
  neB5 := by decide }
theorem bld_String (B b : Nat) (l : List UInt8) (w : World) (h : Lib.IsBuilder 109 5 B b (Lib.byteCells l) w) (hBw : B ≤ w.heap.size) :
    Calls Tryz.prog 47 #[.pointer (some ⟨b, 0, none⟩)] w fun e w' => e = .returned (.string ⟨l.toArray⟩) ∧ Below B w w' := Any.Builder_String_any bldLays bldExtra B b l w h hBw
theorem bld_below {T e : TypeId} {B b : Nat} {bs : List Value} {w w' : World} (h : Lib.IsBuilder T e B b bs w) (hb : Below w.heap.size w w') : Lib.IsBuilder T e B b bs w' := by
  have f : ∀ p, Lib.BuilderAt T e B b p bs w → Lib.BuilderAt T e B b p bs w' := by
    intro p hh
    have hlt := hh.lt
    obtain ⟨hB, v, hbk, hown, hne⟩ := hh
    exact ⟨hB, v, (hb.block b hlt).trans hbk, own_below' hown hb, hne⟩
  exact h.imp (f _) (f _)
theorem bld_more {T e : TypeId} {B B' b : Nat} {bs : List Value} {w : World} (h : Lib.IsBuilder T e B b bs w) (hB : B' ≤ B) : Lib.IsBuilder T e B' b bs w := by
  have f : ∀ p, Lib.BuilderAt T e B b p bs w → Lib.BuilderAt T e B' b p bs w := by
    rintro p ⟨hb, v, hbk, ⟨hl, ho⟩, hne⟩
    refine ⟨by omega, v, hbk, ⟨hl, ?_⟩, hne⟩
    rcases ho with ho | ⟨g, cap, cur, hv, hg, r⟩
    · exact .inl ho
    · exact .inr ⟨g, cap, cur, hv, by omega, r⟩
  exact h.imp (f _) (f _)
theorem bldInfo : (Tryz.prog.info? 109).map (fun i => i.size) = some 2 := by kernel_rfl
theorem byteInfo : (Tryz.prog.info? 5).map (fun i => (i.zero, i.size, i.bytes)) = some (some (.int .u8 0), 1, 1) := by kernel_rfl
set_option maxRecDepth 100000 in
set_option maxHeartbeats 1000000 in
theorem bld_cc_used (b : Nat) (w : World) (h0 : w.cell? ⟨b, 0, none⟩ = some (.pointer (some ⟨b, 0, none⟩))) :
    Calls Tryz.prog 83 #[.pointer (some ⟨b, 0, none⟩)] w fun e w' => e = .returned (.tuple #[]) ∧ w' = w := by
  obtain ⟨j, hj, _⟩ := Option.map_eq_some_iff.1 bldInfo
  go_enter Tryz.func83, Tryz.ntmps83
  go_wp2
  rw [Lib.run_neq_ptr_same w _ Tryz.underlying106 hj]
  go_wp2
  go_end0
  exact ⟨rfl, rfl⟩
set_option maxRecDepth 100000 in
set_option maxHeartbeats 1000000 in
theorem bld_cc_fresh (b : Nat) (w : World) (h0 : w.cell? ⟨b, 0, none⟩ = some (.pointer none)) (hsh : w.shape? b = some (109, 2)) (hfz : w.frozen? ⟨b, 0, none⟩ = false) :
    Calls Tryz.prog 83 #[.pointer (some ⟨b, 0, none⟩)] w fun e w' => e = .returned (.tuple #[]) ∧ w' = w.setCell ⟨b, 0, none⟩ (.pointer (some ⟨b, 0, none⟩)) := by
  obtain ⟨j, hj, hjs⟩ := Option.map_eq_some_iff.1 bldInfo
  go_enter Tryz.func83, Tryz.ntmps83
  go_wp2
  rw [Lib.run_to_unsafe w ⟨b, 0, none⟩ Tryz.underlying106 Tryz.underlying222 hj (by rw [hjs]; decide) hsh (Nat.zero_lt_succ 1)]
  simp only [Result.andThen]
  rw [Oper.upon_value]
  go_wp2
  rw [run_callFunc_extern Tryz.func128 (by kernel_rfl) (by kernel_rfl) (by kernel_rfl) (e := Extern.AbiNoEscape.same) (by kernel_rfl)]
  rw [Lib.run_noEscape]
  simp only [Result.andThen]
  rw [Oper.upon_value]
  go_wp2
  rw [Lib.run_from_unsafe w ⟨b, 0, none⟩ Tryz.underlying222 Tryz.underlying106 hj hsh (by kernel_rfl)]
  simp only [Result.andThen]
  rw [Oper.upon_value]
  go_wp2
  go_end0
  exact ⟨rfl, rfl⟩
theorem bld_cc (B b : Nat) (bs : List Value) (w : World) (h : Lib.IsBuilder 109 5 B b bs w) :
    Calls Tryz.prog 83 #[.pointer (some ⟨b, 0, none⟩)] w fun e w' => e = .returned (.tuple #[]) ∧ (Lib.BuilderAt 109 5 B b (.pointer (some ⟨b, 0, none⟩)) bs w' ∧ Below B w w' ∧ Kept 109 5 w w') := by
  rcases h with h | h
  · refine (bld_cc_fresh b w h.cell0 h.shape h.frozen0).mono ?_
    rintro e w' ⟨rfl, rfl⟩
    obtain ⟨_, v, hbk, _⟩ := id h
    exact ⟨rfl, h.used _, (Below.refl B w).setCell (p := ⟨b, 0, none⟩) h.1 _, Kept.setCell hbk (.inl rfl) 0 _⟩
  · refine (bld_cc_used b w h.cell0).mono ?_
    rintro e w' ⟨rfl, rfl⟩
    exact ⟨rfl, h, Below.refl B _, Kept.refl _ _ _⟩
theorem byteCells_snoc (l : List UInt8) (c : UInt8) : Lib.byteCells (l ++ [c]) = Lib.byteCells l ++ [.int .u8 c.toNat] := by simp [Lib.byteCells]
def SbPost (w : World) (B b : Nat) (l : List UInt8) (r : Value) (e : Ending) (w' : World) : Prop := e = .returned r ∧ Lib.IsBuilder 109 5 B b (Lib.byteCells l) w' ∧ Below B w w' ∧ Kept 109 5 w w'
set_option maxHeartbeats 2000000 in
theorem bld_WriteByte (B b : Nat) (l : List UInt8) (c : UInt8) (w : World) (h : Lib.IsBuilder 109 5 B b (Lib.byteCells l) w) (hlen : l.length ≤ 1000000) (hBw : B ≤ w.heap.size) :
    Calls Tryz.prog 223 #[.pointer (some ⟨b, 0, none⟩), .int .u8 c.toNat] w (SbPost w B b (l ++ [c]) .nilIface) := by
  have hcl : (Lib.byteCells l).length ≤ 1000000 := by rw [Lib.byteCells_length]; exact hlen
  have HN := Lib.hid (byteCells_snoc l c)
  generalize Lib.byteCells l = bs at h hcl HN
  obtain ⟨x, hx⟩ : ∃ x : Int, (c.toNat : Int) = x := ⟨_, rfl⟩
  rw [hx] at HN ⊢
  clear hx
  go_enter Tryz.func223, Tryz.ntmps223
  go_wp2_with fail
  refine (bld_cc B b bs _ h).mono ?_
  rintro e w1 ⟨rfl, h1, hb1, hk1⟩
  obtain ⟨hB, v, hbk, hown, hne⟩ := h1
  have c1 : w1.cell? ⟨b, 1, none⟩ = some v := by rw [Lib.cell_of_heap hbk]; rfl
  have hlt : b < w1.heap.size := lt_of_heap hbk
  have hbs := hb1.size
  go_wp2_with (at_builtin; refine wpList_append_lit rfl (.tmp 11) (.tmp 13) _ rfl B 5 (.int .u8 0) 1 1 Tryz.underlying107 byteInfo rfl (by decide) _ _ _ rfl hown 1 1 [.int .u8 x] rfl rfl ?c2 ?c3 ?c4 ?c5 ?_)
  case c2 => simp [Value.oneCell']
  case c3 => simp only [maxLen]; omega
  case c4 => omega
  case c5 => omega
  intro v' w2 hown' hgrow _
  have hb2 : w2.heap[b]? = some (.cells #[.pointer (some ⟨b, 0, none⟩), v] 109 (0, 0)) := by
    rw [hgrow.block b hlt (fun e => hne e.symm)]
    exact hbk
  have d1 : w2.cell? ⟨b, 1, none⟩ = some v := by rw [Lib.cell_of_heap hb2]; rfl
  have f1 : w2.frozen? ⟨b, 1, none⟩ = false := Lib.frozen_of_heap hb2 1
  have hlt2 : b < w2.heap.size := lt_of_heap hb2
  have HQ : Hid (SbPost w B b (l ++ [c]) .nilIface (.returned .nilIface) (w2.setCell ⟨b, 1, none⟩ v')) := by
    refine ⟨rfl, .inr ?_, ?_, (hk1.trans (Kept.grown hown hgrow (.inr rfl))).trans (Kept.setCell hb2 (.inl rfl) 1 _)⟩
    · rw [HN.out]
      exact Lib.BuilderAt.put (T := 109) (e := 5) hB hb2 (bs' := bs ++ [.int .u8 x]) (by simpa using hown') (by decide)
    · exact (hb1.grown hgrow (by omega) (fun k hk => (hown.lt k hk).1)).setCell (p := ⟨b, 1, none⟩) hB _
  obtain ⟨ao, cap, rfl⟩ := own_slice hown'
  go_wp2
  go_ret
  exact HQ.out
theorem freeze_far (w : World) (g n k : Nat) (h : k ≠ g) : (w.freeze ⟨g, 0, none⟩ n).heap[k]? = w.heap[k]? := by
  unfold World.freeze
  split
  · rfl
  · simp [Array.getElem?_modify, Ne.symm h]
theorem Kept.below {t0 t1 : TypeId} {w w' : World} (h : Below w.heap.size w w') : Kept t0 t1 w w' := fun g cs t fr hg _ _ => (h.block g (lt_of_heap hg)).trans hg
def StrPost (w : World) (B : Nat) (s : ByteArray) (e : Ending) (w' : World) : Prop := e = .returned (.string s) ∧ Below B w w' ∧ Kept 109 5 w w'
set_option maxHeartbeats 2000000 in
set_option maxRecDepth 100000 in
theorem bld_Str (B b : Nat) (l : List UInt8) (w : World) (h : Lib.IsBuilder 109 5 B b (Lib.byteCells l) w) (hBw : B ≤ w.heap.size) :
    Calls Tryz.prog 47 #[.pointer (some ⟨b, 0, none⟩)] w (StrPost w B ⟨l.toArray⟩) := by
  obtain ⟨p, hB, v, hbk, hown, hne⟩ : ∃ p, Lib.BuilderAt 109 5 B b p (Lib.byteCells l) w := h.elim (fun h => ⟨_, h⟩) (fun h => ⟨_, h⟩)
  have fin : ∀ {e : Ending} {w' : World}, e = .returned (.string ⟨#[]⟩) ∧ Below w.heap.size w w' → l = [] → StrPost w B ⟨l.toArray⟩ e w' := by
    rintro e w' ⟨rfl, hb⟩ rfl
    exact ⟨rfl, hb.mono hBw, Kept.below hb⟩
  by_cases h0 : l = []
  · rcases hown.2 with ⟨rfl, _⟩ | ⟨g, cap, cur, rfl, hbg, hg, _, _, _, _⟩
    · exact (Any.Builder_String_nil bldLays bldExtra w.heap.size b p w hbk).mono fun e w' hh => fin hh h0
    · have hl : (Lib.byteCells l).length = 0 := by rw [h0]; rfl
      rw [hl] at hbk
      by_cases hc0 : cap = 0
      · subst hc0
        exact (Any.Builder_String_noroom bldLays bldExtra w.heap.size b g p cur w (Nat.le_refl _) hbk hg).mono fun e w' hh => fin hh h0
      · exact (Any.Builder_String_room bldLays bldExtra w.heap.size b g cap p w hc0 hbk).mono fun e w' hh => fin hh h0
  · have hl0 : l.length ≠ 0 := by simpa using h0
    rw [Lib.byteCells_length] at hown
    obtain ⟨g, cap, cur, rfl, hbg, hg, hnc, hcm, hcs, htake⟩ : ∃ g cap cur, v = .slice (some ⟨g, 0, none⟩) l.length cap ∧ B ≤ g ∧ w.heap[g]? = some (.cells cur 5 (0, 0)) ∧ l.length ≤ cap ∧ cap ≤ maxLen ∧ cur.size = cap * 1 ∧ cur.toList.take (l.length * 1) = Lib.byteCells l := by
      rcases hown.2 with ⟨_, hz⟩ | ⟨g, cap, cur, hv, r⟩
      · exact absurd hz hl0
      · exact ⟨g, cap, cur, hv, r⟩
    have c1 : w.drew.cell? ⟨b, 1, none⟩ = some (.slice (some ⟨g, 0, none⟩) l.length cap) := by
      have : w.drew.heap[b]? = some (.cells #[p, .slice (some ⟨g, 0, none⟩) l.length cap] 109 (0, 0)) := hbk
      rw [Lib.cell_of_heap this]; rfl
    have hSD : (Builtin.unsafeSliceData_ #[107] 173 #[.slice (some ⟨g, 0, none⟩) l.length cap]).run Tryz.prog w.drew = .ok (.pointer (some ⟨g, 0, none⟩)) w.drew :=
      Lib.run_unsafeSliceData_row _ _ _ _ _ _ (by omega)
    have hUS : (Builtin.unsafeString_ #[173, 3] 9 #[.pointer (some ⟨g, 0, none⟩), .int .i64 l.length]).run Tryz.prog w.drew = .ok (.string ⟨l.toArray⟩) (w.drew.freeze ⟨g, 0, none⟩ l.length) := by
      refine Lib.run_unsafeString_row w.drew 173 3 9 5 Tryz.underlying173 bldExtra.cellsByte g cur.size (by have hg' : w.drew.heap[g]? = some (.cells cur 5 (0, 0)) := hg; simp [World.shape?, hg']) l h0 (by omega) (by unfold maxLen at hcm; omega) ?_
      intro j x hx
      have := hown.cells (g := g) rfl j (.int .u8 x.toNat) (by simp [Lib.byteCells, hx])
      exact this
    have HQ : Hid (StrPost w B ⟨l.toArray⟩ (.returned (.string ⟨l.toArray⟩)) (w.drew.freeze ⟨g, 0, none⟩ l.length)) := by
      refine ⟨rfl, Lib.below_freeze (Below.drew (Below.refl B w)) (p := ⟨g, 0, none⟩) hbg _, fun k cs t fr hk h0 h1 => ?_⟩
      refine (freeze_far w.drew g _ k fun e => ?_).trans hk
      subst e
      rw [hg] at hk
      injection hk with hk
      injection hk with _ hk _
      exact h1 hk.symm
    clear hown hcs htake hg
    go_enter Tryz.func47, Tryz.ntmps47
    go_wp2
    go_region
    all_goals (go_wp2; go_ret; exact HQ.out)
end Go.Proofs.YtpibenilagloaaaGreatDoor

namespace Go.Proofs.YtpibenilagloaaaGreatDoor
open Go.RowKit
set_option linter.unusedVariables false
def IntsAt (w : World) (B : Nat) (A : Option Addr) (xs : List Int) : Prop :=
  0 < xs.length → ∃ b off, A = some ⟨b, off, none⟩ ∧ b < B ∧ ∀ k x, xs[k]? = some x → w.cell? ⟨b, off + k, none⟩ = some (.int .i64 x)
theorem nan_any (x : Int) (w : World) : Calls Tryz.prog 58 #[.int .i64 x] w fun e w' => e = .returned (.bool false) ∧ w' = w := by
  go_enter Tryz.func58, Tryz.ntmps58
  go_wp2
  go_ret
  exact ⟨rfl, rfl⟩
def cmpI (x y : Int) : Int := if x < y then -1 else if y < x then 1 else 0
theorem cmp_any (x y : Int) (w : World) : Calls Tryz.prog 28 #[.int .i64 x, .int .i64 y] w fun e w' => e = .returned (.int .i64 (cmpI x y)) ∧ w' = w := by
  by_cases h1 : x < y
  · have H : Hid (cmpI x y = -1) := by unfold Hid cmpI; rw [if_pos h1]
    go_enter Tryz.func28, Tryz.ntmps28
    go_wp2_with (go_at_call 58; refine (nan_any _ _).mono ?_; rintro e w1 ⟨rfl, rfl⟩)
    go_ret
    exact ⟨by rw [H.out]; rfl, rfl⟩
  · by_cases h2 : y < x
    · have H : Hid (cmpI x y = 1) := by unfold Hid cmpI; rw [if_neg h1, if_pos h2]
      go_enter Tryz.func28, Tryz.ntmps28
      go_wp2_with (go_at_call 58; refine (nan_any _ _).mono ?_; rintro e w1 ⟨rfl, rfl⟩)
      go_ret
      exact ⟨by rw [H.out]; rfl, rfl⟩
    · have H : Hid (cmpI x y = 0) := by unfold Hid cmpI; rw [if_neg h1, if_neg h2]
      go_enter Tryz.func28, Tryz.ntmps28
      go_wp2_with (go_at_call 58; refine (nan_any _ _).mono ?_; rintro e w1 ⟨rfl, rfl⟩)
      go_ret
      exact ⟨by rw [H.out]; rfl, rfl⟩
def orL : List Int → Int
  | [] => 0
  | x :: xs => if x = 0 then orL xs else x
set_option maxHeartbeats 400000 in
theorem or_any (A : Option Addr) (c : Nat) (xs : List Int) (w : World) (h : IntsAt w w.heap.size A xs) (hm : xs.length ≤ maxLen) :
    Calls Tryz.prog 27 #[.slice A xs.length c] w fun e w' => e = .returned (.int .i64 (orL xs)) ∧ w' = w := by
  unfold maxLen at hm
  go_enter Tryz.func27, Tryz.ntmps27
  go_wp2_with fail
  go_loopw [8] (fun i wr => ∃ k : Nat, k ≤ xs.length ∧ i = .int .i64 k ∧ Hid (orL (xs.drop k) = orL xs) ∧ wr = w) (fun i _ => xs.length - (intOf i).toNat)
  case atStart => exact ⟨0, Nat.zero_le _, rfl, rfl, rfl⟩
  case round =>
    obtain ⟨k, hk, rfl, HV, rfl⟩ := hrel
    by_cases hlt : k < xs.length
    · obtain ⟨b, off, rfl, hbb, hc⟩ := h (by omega)
      have c1 := hc k xs[k] (List.getElem?_eq_getElem hlt)
      have HD := Lib.hid (drop_cons xs k hlt)
      clear hc h
      generalize xs[k] = x at *
      by_cases h0 : x = 0
      · have HF : Hid (orL (xs.drop (k + 1)) = orL xs) := by unfold Hid; rw [← HV.out, HD.out, orL, if_pos h0]
        subst h0
        go_wp2
        go_roundw
        case rel => exact ⟨k + 1, by omega, by go_num, HF, by first | rfl | trivial⟩
        case measure => simp [intOf]; omega
      · have HF : Hid (orL xs = x) := by unfold Hid; rw [← HV.out, HD.out, orL, if_neg h0]
        have i0 : (x != 0) = true := by simp [h0]
        clear h0
        go_wp2
        go_ret
        exact ⟨by rw [HF.out]; rfl, by first | rfl | trivial⟩
    · have HF : Hid (orL xs = 0) := by unfold Hid; rw [← HV.out, List.drop_of_length_le (by omega)]; rfl
      go_wp2
      go_ret
      exact ⟨by rw [HF.out]; rfl, by first | rfl | trivial⟩
theorem nanS_any (x : ByteArray) (w : World) : Calls Tryz.prog 154 #[.string x] w fun e w' => e = .returned (.bool false) ∧ w' = w := by
  go_enter Tryz.func154, Tryz.ntmps154
  go_wp2
  go_ret
  exact ⟨rfl, rfl⟩
theorem bytesLess_iff : ∀ (l m : List UInt8), Op.bytesLess l m = decide (Lib.compareBytes l m < 0)
  | [], [] => rfl
  | [], _ :: _ => rfl
  | _ :: _, [] => rfl
  | a :: r, b :: s => by
    have ih := bytesLess_iff r s
    unfold Op.bytesLess Lib.compareBytes
    by_cases h1 : a < b
    · simp [h1]
    · by_cases h2 : b < a
      · simp [h1, h2]
        intro e; subst e; exact absurd h2 h1
      · have : a = b := UInt8.le_antisymm (UInt8.not_lt.1 h2) (UInt8.not_lt.1 h1)
        subst this
        simp [ih]
theorem compareBytes_zero : ∀ (l m : List UInt8), Lib.compareBytes l m = 0 ↔ l = m
  | [], [] => by simp [Lib.compareBytes]
  | [], _ :: _ => by simp [Lib.compareBytes]
  | _ :: _, [] => by simp [Lib.compareBytes]
  | a :: r, b :: s => by
    have ih := compareBytes_zero r s
    unfold Lib.compareBytes
    by_cases h1 : a < b
    · simp [h1]
      intro e; subst e; exact absurd h1 (UInt8.lt_irrefl _)
    · by_cases h2 : b < a
      · simp [h1, h2]
        intro e; subst e; exact absurd h2 (UInt8.lt_irrefl _)
      · have : a = b := UInt8.le_antisymm (UInt8.not_lt.1 h2) (UInt8.not_lt.1 h1)
        subst this
        simp [h1, ih]
theorem compareBytes_bound : ∀ (l m : List UInt8), Lib.compareBytes l m = -1 ∨ Lib.compareBytes l m = 0 ∨ Lib.compareBytes l m = 1
  | [], [] => by simp [Lib.compareBytes]
  | [], _ :: _ => by simp [Lib.compareBytes]
  | _ :: _, [] => by simp [Lib.compareBytes]
  | a :: r, b :: s => by
    have ih := compareBytes_bound r s
    unfold Lib.compareBytes
    split
    · simp
    · split
      · simp
      · exact ih
def cmpB (x y : ByteArray) : Int := Lib.compareBytes x.data.toList y.data.toList
set_option maxHeartbeats 1000000 in
theorem cmpS_any (x y : ByteArray) (w : World) : Calls Tryz.prog 91 #[.string x, .string y] w fun e w' => e = .returned (.int .i64 (cmpB x y)) ∧ w' = w := by
  have hb := compareBytes_bound x.toList y.toList
  have hz := compareBytes_zero x.toList y.toList
  have hl := bytesLess_iff x.toList y.toList
  have e : cmpB x y = Lib.compareBytes x.toList y.toList := by unfold cmpB; rw [ByteArray.toList_eq, ByteArray.toList_eq]
  have H1 : Op.bytesLess x.toList y.toList = true → cmpB x y = -1 := fun h => by rw [e]; rw [hl] at h; have := of_decide_eq_true h; omega
  have H2 : Op.bytesLess x.toList y.toList = false → (!x.toList == y.toList) = true → cmpB x y = 1 := fun h k => by
    rw [e]; rw [hl] at h
    have h3 := of_decide_eq_false h
    have : Lib.compareBytes x.toList y.toList ≠ 0 := fun e => by rw [hz.1 e] at k; simp at k
    omega
  have H3 : Op.bytesLess x.toList y.toList = false → (!x.toList == y.toList) = false → cmpB x y = 0 := fun h k => by
    rw [e]
    exact hz.2 (by simpa using k)
  have H1 := Lib.hid H1
  have H2 := Lib.hid H2
  have H3 := Lib.hid H3
  clear hb hz hl e
  generalize cmpB x y = r at *
  go_enter Tryz.func91, Tryz.ntmps91
  go_wp2_with (go_at_call 154; refine (nanS_any _ _).mono ?_; rintro e w1 ⟨rfl, rfl⟩)
  all_goals
    go_ret
    first
      | exact ⟨by rw [H1.out ‹_›]; rfl, rfl⟩
      | exact ⟨by rw [H2.out ‹_› ‹_›]; rfl, rfl⟩
      | exact ⟨by rw [H3.out ‹_› ‹_›]; rfl, rfl⟩
end Go.Proofs.YtpibenilagloaaaGreatDoor
