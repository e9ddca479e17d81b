import Derived.Test.YtpibenilagloaaaGreatDoorRzaa
import Derived.Shelf.Strings.Builder1
import Derived.Lib.Builder
import Derived.Lib.AppendStr
import Derived.Lib.Strings
import Derived.Lib.IndexBytes
namespace Go.Proofs.YtpibenilagloaaaGreatDoor.tx
set_option maxRecDepth 100000
open Go.RowKit Go.Shelf
def bldRen : Go.Shelf.Ren := ⟨fun | 169 => 47 | n => n, fun | 70 => 106 | 9 => 9 | 0 => 0 | 72 => 109 | 37 => 107 | 127 => 173 | 3 => 3 | 5 => 5 | n => n, fun | n => n⟩
theorem bldLays : Go.Proofs.Lays.n169 Tryz.prog bldRen := {
  mixed := by kernel_rfl
  f169 := Tryz.func47.trans (congrArg some (by kernel_rfl))
  t0 := Tryz.underlying0
  a0 := Tryz.isAgg0
  z0 := Tryz.sizeOf0
  v0 := Tryz.zeroValue0
  t3 := Tryz.underlying3
  a3 := Tryz.isAgg3
  z3 := Tryz.sizeOf3
  v3 := Tryz.zeroValue3
  t9 := Tryz.underlying9
  a9 := Tryz.isAgg9
  z9 := Tryz.sizeOf9
  v9 := Tryz.zeroValue9
  t37 := Tryz.underlying107
  a37 := Tryz.isAgg107
  z37 := Tryz.sizeOf107
  v37 := Tryz.zeroValue107
  t70 := Tryz.underlying106
  a70 := Tryz.isAgg106
  z70 := Tryz.sizeOf106
  v70 := Tryz.zeroValue106
  t72 := Tryz.underlying109
  a72 := Tryz.isAgg109
  z72 := Tryz.sizeOf109
  v72 := Tryz.zeroValue109
  t127 := Tryz.underlying173
  a127 := Tryz.isAgg173
  z127 := Tryz.sizeOf173
  v127 := Tryz.zeroValue173 }
theorem bldExtra : Builder.Extra Tryz.prog bldRen := {
  sizeBuilder := by kernel_rfl
  liesBuilder := by kernel_rfl
  t5 := Tryz.underlying5
  a5 := Tryz.isAgg5
  z5 := Tryz.sizeOf5
  v5 := Tryz.zeroValue5
  infoByte := by kernel_rfl
  cellsByte := by kernel_rfl
  sizeByte := by kernel_rfl
  neB5 := by decide }
theorem bld_String (B b : Nat) (l : List UInt8) (w : World) (h : Lib.IsBuilder 109 5 B b (Lib.byteCells l) w) (hBw : B ≤ w.heap.size) :
    Calls Tryz.prog 47 #[.pointer (some ⟨b, 0, none⟩)] w fun e w' => e = .returned (.string ⟨l.toArray⟩) ∧ Below B w w' := Any.Builder_String_any bldLays bldExtra B b l w h hBw
theorem bld_below {T e : TypeId} {B b : Nat} {bs : List Value} {w w' : World} (h : Lib.IsBuilder T e B b bs w) (hb : Below w.heap.size w w') : Lib.IsBuilder T e B b bs w' := by
  have f : ∀ p, Lib.BuilderAt T e B b p bs w → Lib.BuilderAt T e B b p bs w' := by
    intro p hh
    have hlt := hh.lt
    obtain ⟨hB, v, hbk, hown, hne⟩ := hh
    exact ⟨hB, v, (hb.block b hlt).trans hbk, own_below hown hb, hne⟩
  exact h.imp (f _) (f _)
theorem bld_more {T e : TypeId} {B B' b : Nat} {bs : List Value} {w : World} (h : Lib.IsBuilder T e B b bs w) (hB : B' ≤ B) : Lib.IsBuilder T e B' b bs w := by
  have f : ∀ p, Lib.BuilderAt T e B b p bs w → Lib.BuilderAt T e B' b p bs w := by
    rintro p ⟨hb, v, hbk, ⟨hl, ho⟩, hne⟩
    refine ⟨by omega, v, hbk, ⟨hl, ?_⟩, hne⟩
    rcases ho with ho | ⟨g, cap, cur, hv, hg, r⟩
    · exact .inl ho
    · exact .inr ⟨g, cap, cur, hv, by omega, r⟩
  exact h.imp (f _) (f _)
theorem bldInfo : (Tryz.prog.info? 109).map (fun i => i.size) = some 2 := by kernel_rfl
theorem byteInfo : (Tryz.prog.info? 5).map (fun i => (i.zero, i.size, i.bytes)) = some (some (.int .u8 0), 1, 1) := by kernel_rfl
set_option maxHeartbeats 1000000 in
theorem bld_cc_used (b : Nat) (w : World) (h0 : w.cell? ⟨b, 0, none⟩ = some (.pointer (some ⟨b, 0, none⟩))) :
    Calls Tryz.prog 83 #[.pointer (some ⟨b, 0, none⟩)] w fun e w' => e = .returned (.tuple #[]) ∧ w' = w := by
  obtain ⟨j, hj, _⟩ := Option.map_eq_some_iff.1 bldInfo
  go_enter Tryz.func83, Tryz.ntmps83
  go_wp2
  rw [Lib.run_neq_ptr_same w _ Tryz.underlying106 hj]
  go_wp2
  go_end0
  exact ⟨rfl, rfl⟩
set_option maxHeartbeats 1000000 in
theorem bld_cc_fresh (b : Nat) (w : World) (h0 : w.cell? ⟨b, 0, none⟩ = some (.pointer none)) (hsh : w.shape? b = some (109, 2)) (hfz : w.frozen? ⟨b, 0, none⟩ = false) :
    Calls Tryz.prog 83 #[.pointer (some ⟨b, 0, none⟩)] w fun e w' => e = .returned (.tuple #[]) ∧ w' = w.setCell ⟨b, 0, none⟩ (.pointer (some ⟨b, 0, none⟩)) := by
  obtain ⟨j, hj, hjs⟩ := Option.map_eq_some_iff.1 bldInfo
  go_enter Tryz.func83, Tryz.ntmps83
  go_wp2
  rw [Lib.run_to_unsafe w ⟨b, 0, none⟩ Tryz.underlying106 Tryz.underlying222 hj (by rw [hjs]; decide) hsh (Nat.zero_lt_succ 1)]
  simp only [Result.andThen]
  rw [Oper.upon_value]
  go_wp2
  rw [run_callFunc_extern Tryz.func128 (by kernel_rfl) (by kernel_rfl) (by kernel_rfl) (e := Extern.AbiNoEscape.same) (by kernel_rfl)]
  rw [Lib.run_noEscape]
  simp only [Result.andThen]
  rw [Oper.upon_value]
  go_wp2
  rw [Lib.run_from_unsafe w ⟨b, 0, none⟩ Tryz.underlying222 Tryz.underlying106 hj hsh (by kernel_rfl)]
  simp only [Result.andThen]
  rw [Oper.upon_value]
  go_wp2
  go_end0
  exact ⟨rfl, rfl⟩
theorem bld_cc (B b : Nat) (bs : List Value) (w : World) (h : Lib.IsBuilder 109 5 B b bs w) :
    Calls Tryz.prog 83 #[.pointer (some ⟨b, 0, none⟩)] w fun e w' => e = .returned (.tuple #[]) ∧ (Lib.BuilderAt 109 5 B b (.pointer (some ⟨b, 0, none⟩)) bs w' ∧ Below B w w' ∧ Kept 109 5 w w') := by
  rcases h with h | h
  · refine (bld_cc_fresh b w h.cell0 h.shape h.frozen0).mono ?_
    rintro e w' ⟨rfl, rfl⟩
    obtain ⟨_, v, hbk, _⟩ := id h
    exact ⟨rfl, h.used _, (Below.refl B w).setCell (p := ⟨b, 0, none⟩) h.1 _, Kept.setCell hbk (.inl rfl) 0 _⟩
  · refine (bld_cc_used b w h.cell0).mono ?_
    rintro e w' ⟨rfl, rfl⟩
    exact ⟨rfl, h, Below.refl B _, Kept.refl _ _ _⟩
set_option maxHeartbeats 2000000 in
theorem bld_WriteString (B b : Nat) (bs : List Value) (s : ByteArray) (w : World) (h : Lib.IsBuilder 109 5 B b bs w) (hlen : bs.length + s.size ≤ 140737488355328) (hBw : B ≤ w.heap.size) :
    Calls Tryz.prog 46 #[.pointer (some ⟨b, 0, none⟩), .string s] w fun e w' => e = .returned (.tuple #[.int .i64 s.size, .nilIface]) ∧ (Lib.IsBuilder 109 5 B b (bs ++ Lib.strCells s) w' ∧ Below B w w' ∧ Kept 109 5 w w') := by
  obtain ⟨i0, hi, hz0, hz1, hz2⟩ := info_parts byteInfo
  go_enter Tryz.func46, Tryz.ntmps46
  go_wp2_with fail
  refine (bld_cc B b bs _ h).mono ?_
  rintro e w1 ⟨rfl, h1, hb1, hk1⟩
  obtain ⟨hB, v, hbk, hown, hne⟩ := h1
  have c0 : w1.cell? ⟨b, 0, none⟩ = some (.pointer (some ⟨b, 0, none⟩)) := by rw [Lib.cell_of_heap hbk]; rfl
  have c1 : w1.cell? ⟨b, 1, none⟩ = some v := by rw [Lib.cell_of_heap hbk]; rfl
  go_wp2_with (at_builtin; refine Lib.wpList_append_own_string _ rfl _ _ 107 9 rfl B 5 i0 Tryz.underlying107 Tryz.underlying9 hi hz0 hz1 hz2 _ _ _ rfl hown s rfl ?c3 ?c4 ?c5 ?_)
  case c3 => unfold maxLen; omega
  case c4 => omega
  case c5 => have := hb1.size; omega
  intro v' w2 hown' hgrow _
  have hlt : b < w1.heap.size := by
    rcases Nat.lt_or_ge b w1.heap.size with h' | h'
    · exact h'
    · simp [Array.getElem?_eq_none h'] at hbk
  have hb2 : w2.heap[b]? = some (.cells #[.pointer (some ⟨b, 0, none⟩), v] 109 (0, 0)) := by
    rw [hgrow.block b hlt (fun e => hne e.symm)]
    exact hbk
  have d0 : w2.cell? ⟨b, 0, none⟩ = some (.pointer (some ⟨b, 0, none⟩)) := by rw [Lib.cell_of_heap hb2]; rfl
  have d1 : w2.cell? ⟨b, 1, none⟩ = some v := by rw [Lib.cell_of_heap hb2]; rfl
  have f1 : w2.frozen? ⟨b, 1, none⟩ = false := Lib.frozen_of_heap hb2 1
  obtain ⟨ao, n', cap, rfl⟩ : ∃ ao n' cap, v' = .slice ao n' cap := by
    rcases hown'.2 with ⟨hv, _⟩ | ⟨g, cap, cur, hv, _⟩
    · exact ⟨_, _, _, hv⟩
    · exact ⟨_, _, _, hv⟩
  go_wp2
  go_ret2
  refine ⟨rfl, .inr ?_, ?_, (hk1.trans (Kept.grown hown hgrow (.inr rfl))).trans (Kept.setCell hb2 (.inl rfl) 1 _)⟩
  · exact Lib.BuilderAt.put (T := 109) (e := 5) hB hb2 (bs' := bs ++ Lib.strCells s) (by simpa [Lib.strCells_length] using hown') (by decide)
  · exact (hb1.grown hgrow (by have := hb1.size; omega) (fun k hk => (hown.lt k hk).1)).setCell (p := ⟨b, 1, none⟩) hB _
end Go.Proofs.YtpibenilagloaaaGreatDoor.tx

namespace Go.Proofs.YtpibenilagloaaaGreatDoor.tx
set_option maxRecDepth 100000
open Go.RowKit
def applyL (src : List UInt8) : List Ed → Nat → List UInt8
  | [], off => src.drop off
  | x :: xs, off => (src.drop off).take (x.s.toNat - off) ++ x.t.data.toList ++ applyL src xs x.e.toNat
theorem valTLoop_len {n : Int} {es : List Ed} : ∀ {p len : Int}, valTLoop n es p len = 0 → p ≤ n → len ≤ 2000 + (n - p) := by
  induction es with
  | nil => intro p len h hp; unfold valTLoop at h; split at h <;> omega
  | cons x xs ih =>
    intro p len h hp
    obtain ⟨⟨h1, h2, h3⟩, h4⟩ := valTLoop_cons h
    have := ih h4 h3
    omega
set_option maxHeartbeats 1600000 in
theorem apply_ok (src : ByteArray) (A : Option Addr) (c : Nat) (es : List Ed) (w : World) (h : EdsAt w w.heap.size A es) (hm : es.length ≤ maxLen) (hs : Short es) (hsrc : src.size ≤ maxLen) (hv : valT src.size es = 0) :
    Calls Tryz.prog 17 #[.string src, .slice A es.length c] w fun e w' => e = .returned (.tuple #[.string ⟨(applyL src.data.toList es 0).toArray⟩, .int .i64 0]) ∧ Below w.heap.size w w' := by
  have k2 : (valT src.size es != 0) = false := by simp [hv]
  obtain ⟨hn, hl, hvl⟩ := valT_ok hv
  have HV0 := Lib.hid hvl
  clear hv hvl
  go_enter Tryz.func17, Tryz.ntmps17
  go_wp2_with (go_at_call 45; refine (valT_any _ _ _ _ _ h hm hs hsrc).mono ?_; rintro e w1 ⟨rfl, hb1⟩)
  have hbld := Lib.fresh_isBuilder 109 5 w1
  go_loopw [8, 19] (fun o i wr => ∃ (k : Nat) (off : Nat) (pe len : Int) (acc : List UInt8), k ≤ es.length ∧ i = .int .i64 k ∧ o = .int .i64 off ∧ (off : Int) ≤ pe + 1 ∧ -1 ≤ pe ∧ off ≤ src.size ∧ pe ≤ src.size ∧ Hid ((acc.length : Int) + (src.size - off) = len) ∧
    Lib.IsBuilder 109 5 w.heap.size w1.heap.size (Lib.byteCells acc) wr ∧ Hid (valTLoop src.size (es.drop k) pe len = 0) ∧ Hid (acc ++ applyL src.data.toList (es.drop k) off = applyL src.data.toList es 0) ∧ Below w.heap.size w wr) (fun _ i _ => es.length - (intOf i).toNat)
  case atStart => exact ⟨0, 0, -1, src.size, [], Nat.zero_le _, rfl, rfl, by omega, by omega, by omega, by omega, by unfold Hid; simp, bld_more hbld hb1.size, HV0, rfl, hb1.alloc hb1.size _⟩
  case round =>
    obtain ⟨k, off, pe, len, acc, hk, rfl, rfl, q1, q2, q3, q4, q5, hB, HV, HI, hb⟩ := hrel
    by_cases hlt : k < es.length
    · obtain ⟨b, off', rfl, hbb, hc⟩ := (h.below hb) (by omega)
      obtain ⟨c1, c2, c3⟩ := hc k es[k] (List.getElem?_eq_getElem hlt)
      have HD := Lib.hid (drop_cons es k hlt)
      have hsx := hs es[k] (List.getElem_mem hlt)
      clear hc h hs HV0
      generalize es[k] = x at *
      obtain ⟨⟨p1, p2, p3⟩, HV'⟩ := valTLoop_cons (by rw [← HD.out]; exact HV.out)
      have HV2 := Lib.hid HV'
      clear HV'
      have g1 := valTLoop_len HV.out (by omega)
      have g2 : (acc.length : Int) ≤ 4001 := by have := q5.out; omega
      have g3 := valTLoop_len HV2.out p3
      have g4 : (x.t.size : Int) ≤ 4001 := by have := q5.out; omega
      clear g1 g3
      have z3 : x.s ≤ src.size := by omega
      have z1 : 0 ≤ x.s := by omega
      have z2 : (off : Int) ≤ x.s := by omega
      have hbw := hb.alloc hb.size (.cells #[.int .i64 x.s, .int .i64 x.e, .string x.t] 93)
      have hBw : Lib.IsBuilder 109 5 w.heap.size w1.heap.size (Lib.byteCells acc) (wr.alloc (.cells #[.int .i64 x.s, .int .i64 x.e, .string x.t] 93)).drew := bld_below hB (((Below.refl _ _).alloc (Nat.le_refl _) _).drew)
      have hbs := hb.size
      have hsz : (src.extract off x.s.toNat ++ x.t).size = x.s.toNat - off + x.t.size := by rw [ByteArray.size_append, ByteArray.size_extract]; omega
      have hcs : ¬ 9223372036854775807 < x.s.toNat - off + x.t.size := by omega
      have hlen : (Lib.byteCells acc).length + (src.extract off x.s.toNat ++ x.t).size ≤ 140737488355328 := by rw [Lib.byteCells_length, hsz]; omega
      go_wp2
      go_region_held3 (fun w' => w'.cell? ⟨wr.heap.size, 0, none⟩ = some (.int .i64 x.s) ∧ w'.cell? ⟨wr.heap.size, 1, none⟩ = some (.int .i64 x.e) ∧ w'.cell? ⟨wr.heap.size, 2, none⟩ = some (.string x.t))
        (first | go_keep | (go_split_ands; exact ⟨by rw [Lib.cell_of_heap hek]; rfl, by rw [Lib.cell_of_heap hek]; rfl, by rw [Lib.cell_of_heap hek]; rfl⟩))
        ((go_at_call 46; refine (bld_WriteString _ _ _ _ _ hBw hlen (by simp; omega)).mono ?_; rintro e w3 ⟨rfl, hB3, hb3, hk3⟩; have hek := hk3 wr.heap.size _ _ _ (heap_alloc_new wr _) (by decide) (by decide)))
      clear hcs hsz hlen
      have e1 := Lib.hid (show Lib.byteCells acc ++ Lib.strCells (src.extract off x.s.toNat ++ x.t) = Lib.byteCells (acc ++ ((src.data.toList.drop off).take (x.s.toNat - off) ++ x.t.data.toList)) by
        rw [Lib.byteCells_append, Lib.strCells_eq, ByteArray.data_append, Array.toList_append, Lib.extract_data])
      have HI2 : Hid ((acc ++ ((src.data.toList.drop off).take (x.s.toNat - off) ++ x.t.data.toList)) ++ applyL src.data.toList (es.drop (k + 1)) x.e.toNat = applyL src.data.toList es 0) := by
        unfold Hid; rw [← HI.out, HD.out]; simp [applyL, List.append_assoc]
      have q6 : Hid (((acc ++ ((src.data.toList.drop off).take (x.s.toNat - off) ++ x.t.data.toList)).length : Int) + (src.size - x.e.toNat) = len + (x.t.size - (x.e - x.s))) := by
        have h1 : src.data.toList.length = src.size := by rw [Array.length_toList]; rfl
        have h2 : x.t.data.toList.length = x.t.size := by rw [Array.length_toList]; rfl
        have := q5.out
        unfold Hid
        rw [List.length_append, List.length_append, List.length_take, List.length_drop, h1, h2]
        omega
      obtain ⟨en, hen⟩ : ∃ en : Nat, x.e = en := ⟨x.e.toNat, by omega⟩
      have hen2 : x.e.toNat = en := by omega
      rw [hen2] at HI2 q6
      have hek0 : w3.cell? ⟨wr.heap.size, 0, none⟩ = some (.int .i64 x.s) := by rw [Lib.cell_of_heap hek]; rfl
      have hek1 : w3.cell? ⟨wr.heap.size, 1, none⟩ = some (.int .i64 en) := by rw [Lib.cell_of_heap hek, ← hen]; rfl
      have he3 : (en : Int) ≤ src.size := by omega
      have HE := Lib.hid hen
      clear hen hen2
      go_wp2
      go_roundw
      case rel => exact ⟨k + 1, en, x.e, _, _, by omega, by go_num, by rw [HE.out], by have := HE.out; omega, by omega, by omega, by omega, q6, by rw [← e1.out]; exact hB3, HV2, HI2, hbw.drew.trans hb3⟩
      case measure => simp [intOf]; omega
    · have hacc : applyL src.data.toList es 0 = acc ++ src.data.toList.drop off := by rw [← HI.out, List.drop_of_length_le (by omega)]; rfl
      have HA := Lib.hid hacc
      have g1 : (acc.length : Int) ≤ 4001 := by have := q5.out; have := valTLoop_len HV.out (by omega); omega
      clear hacc h hs HV0
      have hsz : (src.extract off src.size).size ≤ src.size := by rw [ByteArray.size_extract]; omega
      have hlen : (Lib.byteCells acc).length + (src.extract off src.size).size ≤ 140737488355328 := by rw [Lib.byteCells_length]; omega
      clear hsz
      go_wp2_with fail
      refine (bld_WriteString _ _ _ _ _ hB hlen hb.size).mono ?_
      rintro e w3 ⟨rfl, hB3, hb3, hk3⟩
      have e1 := Lib.hid (show Lib.byteCells acc ++ Lib.strCells (src.extract off src.size) = Lib.byteCells (acc ++ src.data.toList.drop off) by
        rw [Lib.byteCells_append, Lib.strCells_eq, Lib.extract_to_end])
      rw [e1.out] at hB3
      have hb3' := hb.trans hb3
      go_wp2_with fail
      refine (bld_String _ _ _ _ hB3 hb3'.size).mono ?_
      rintro e w4 ⟨rfl, hb4⟩
      go_wp2_with fail
      go_ret2
      exact ⟨by rw [HA.out]; rfl, hb3'.trans hb4⟩
set_option maxHeartbeats 400000 in
theorem apply_err (src : ByteArray) (A : Option Addr) (c : Nat) (es : List Ed) (w : World) (h : EdsAt w w.heap.size A es) (hm : es.length ≤ maxLen) (hs : Short es) (hsrc : src.size ≤ maxLen) (hv : valT src.size es ≠ 0) :
    Calls Tryz.prog 17 #[.string src, .slice A es.length c] w fun e w' => e = .returned (.tuple #[.string ⟨#[]⟩, .int .i64 (valT src.size es)]) ∧ Below w.heap.size w w' := by
  have k2 : (valT src.size es != 0) = true := by simp [hv]
  clear hv
  go_enter Tryz.func17, Tryz.ntmps17
  go_wp2_with (go_at_call 45; refine (valT_any _ _ _ _ _ h hm hs hsrc).mono ?_; rintro e w1 ⟨rfl, hb1⟩)
  go_ret2
  exact ⟨rfl, hb1⟩
end Go.Proofs.YtpibenilagloaaaGreatDoor.tx
