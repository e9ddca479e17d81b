/-
  textedit.Apply: the walk.
-/
import Derived.Test.YtbnoejdhachhhaaTxtI
import Derived.Test.YtbnoejdhachhhaaBld
import Derived.Lib.Strings
import Derived.Lib.IndexBytes
namespace Go.Proofs.Ytbnoejdhachhhaa
open Go.RowKit

/-- textedit.Apply's bytes -/
def applyL (src : List UInt8) : List Ed → Nat → List UInt8
  | [], off => src.drop off
  | x :: xs, off => (src.drop off).take (x.s.toNat - off) ++ x.t.data.toList ++ applyL src xs x.e.toNat

theorem valTLoop_len {n : Int} {es : List Ed} : ∀ {p len : Int}, valTLoop n es p len = 0 → p ≤ n → len ≤ 2000 + (n - p) := by
  induction es with
  | nil => intro p len h hp; unfold valTLoop at h; split at h <;> omega
  | cons x xs ih =>
    intro p len h hp
    obtain ⟨⟨h1, h2, h3⟩, h4⟩ := valTLoop_cons h
    have := ih h4 h3
    omega

set_option maxHeartbeats 1600000 in
theorem apply_ok (src : ByteArray) (A : Option Addr) (c : Nat) (es : List Ed) (w : World) (h : EdsAt w w.heap.size A es) (hm : es.length ≤ maxLen) (hs : Short es) (hsrc : src.size ≤ maxLen) (hv : valT src.size es = 0) :
    Calls Try.prog 16 #[.string src, .slice A es.length c] w fun e w' => e = .returned (.tuple #[.string ⟨(applyL src.data.toList es 0).toArray⟩, .int .i64 0]) ∧ Below w.heap.size w w' := by
  have k2 : (valT src.size es != 0) = false := by simp [hv]
  obtain ⟨hn, hl, hvl⟩ := valT_ok hv
  have HV0 := Lib.hid hvl
  clear hv hvl
  go_enter Try.func16, Try.ntmps16
  go_wp2_with (go_at_call 22; refine (valT_any _ _ _ _ _ h hm hs hsrc).mono ?_; rintro e w1 ⟨rfl, hb1⟩)
  have hbld := Lib.fresh_isBuilder 57 5 w1
  go_loopw [8, 19] (fun o i wr => ∃ (k : Nat) (off : Nat) (pe len : Int) (acc : List UInt8), k ≤ es.length ∧ i = .int .i64 k ∧ o = .int .i64 off ∧ (off : Int) ≤ pe + 1 ∧ -1 ≤ pe ∧ off ≤ src.size ∧ pe ≤ src.size ∧ Hid ((acc.length : Int) + (src.size - off) = len) ∧
    Lib.IsBuilder 57 5 w.heap.size w1.heap.size (Lib.byteCells acc) wr ∧ Hid (valTLoop src.size (es.drop k) pe len = 0) ∧ Hid (acc ++ applyL src.data.toList (es.drop k) off = applyL src.data.toList es 0) ∧ Below w.heap.size w wr) (fun _ i _ => es.length - (intOf i).toNat)
  case atStart => exact ⟨0, 0, -1, src.size, [], Nat.zero_le _, rfl, rfl, by omega, by omega, by omega, by omega, by unfold Hid; simp, bld_more hbld hb1.size, HV0, rfl, hb1.alloc hb1.size _⟩
  case round =>
    obtain ⟨k, off, pe, len, acc, hk, rfl, rfl, q1, q2, q3, q4, q5, hB, HV, HI, hb⟩ := hrel
    by_cases hlt : k < es.length
    · obtain ⟨b, off', rfl, hbb, hc⟩ := (h.below hb) (by omega)
      obtain ⟨c1, c2, c3⟩ := hc k es[k] (List.getElem?_eq_getElem hlt)
      have HD := Lib.hid (drop_cons es k hlt)
      have hsx := hs es[k] (List.getElem_mem hlt)
      clear hc h hs HV0
      generalize es[k] = x at *
      obtain ⟨⟨p1, p2, p3⟩, HV'⟩ := valTLoop_cons (by rw [← HD.out]; exact HV.out)
      have HV2 := Lib.hid HV'
      clear HV'
      have g1 := valTLoop_len HV.out (by omega)
      have g2 : (acc.length : Int) ≤ 4001 := by have := q5.out; omega
      have g3 := valTLoop_len HV2.out p3
      have g4 : (x.t.size : Int) ≤ 4001 := by have := q5.out; omega
      clear g1 g3
      have z3 : x.s ≤ src.size := by omega
      have z1 : 0 ≤ x.s := by omega
      have z2 : (off : Int) ≤ x.s := by omega
      have hbw := hb.alloc hb.size (.cells #[.int .i64 x.s, .int .i64 x.e, .string x.t] 31)
      have hBw : Lib.IsBuilder 57 5 w.heap.size w1.heap.size (Lib.byteCells acc) (wr.alloc (.cells #[.int .i64 x.s, .int .i64 x.e, .string x.t] 31)).drew := bld_below hB (((Below.refl _ _).alloc (Nat.le_refl _) _).drew)
      have hbs := hb.size
      have hsz : (src.extract off x.s.toNat ++ x.t).size = x.s.toNat - off + x.t.size := by rw [ByteArray.size_append, ByteArray.size_extract]; omega
      have hcs : ¬ 9223372036854775807 < x.s.toNat - off + x.t.size := by omega
      have hlen : (Lib.byteCells acc).length + (src.extract off x.s.toNat ++ x.t).size ≤ 140737488355328 := by rw [Lib.byteCells_length, hsz]; omega
      go_wp2
      go_region_held3 (fun w' => w'.cell? ⟨wr.heap.size, 0, none⟩ = some (.int .i64 x.s) ∧ w'.cell? ⟨wr.heap.size, 1, none⟩ = some (.int .i64 x.e) ∧ w'.cell? ⟨wr.heap.size, 2, none⟩ = some (.string x.t))
        (first | go_keep | (go_split_ands; exact ⟨by rw [Lib.cell_of_heap hek]; rfl, by rw [Lib.cell_of_heap hek]; rfl, by rw [Lib.cell_of_heap hek]; rfl⟩))
        ((go_at_call 28; refine (bld_WriteString _ _ _ _ _ hBw hlen (by simp; omega)).mono ?_; rintro e w3 ⟨rfl, hB3, hb3, hk3⟩; have hek := hk3 wr.heap.size _ _ _ (heap_alloc_new wr _) (by decide) (by decide)))
      clear hcs hsz hlen
      have e1 := Lib.hid (show Lib.byteCells acc ++ Lib.strCells (src.extract off x.s.toNat ++ x.t) = Lib.byteCells (acc ++ ((src.data.toList.drop off).take (x.s.toNat - off) ++ x.t.data.toList)) by
        rw [Lib.byteCells_append, Lib.strCells_eq, ByteArray.data_append, Array.toList_append, Lib.extract_data])
      have HI2 : Hid ((acc ++ ((src.data.toList.drop off).take (x.s.toNat - off) ++ x.t.data.toList)) ++ applyL src.data.toList (es.drop (k + 1)) x.e.toNat = applyL src.data.toList es 0) := by
        unfold Hid; rw [← HI.out, HD.out]; simp [applyL, List.append_assoc]
      have q6 : Hid (((acc ++ ((src.data.toList.drop off).take (x.s.toNat - off) ++ x.t.data.toList)).length : Int) + (src.size - x.e.toNat) = len + (x.t.size - (x.e - x.s))) := by
        have h1 : src.data.toList.length = src.size := by rw [Array.length_toList]; rfl
        have h2 : x.t.data.toList.length = x.t.size := by rw [Array.length_toList]; rfl
        have := q5.out
        unfold Hid
        rw [List.length_append, List.length_append, List.length_take, List.length_drop, h1, h2]
        omega
      obtain ⟨en, hen⟩ : ∃ en : Nat, x.e = en := ⟨x.e.toNat, by omega⟩
      have hen2 : x.e.toNat = en := by omega
      rw [hen2] at HI2 q6
      have hek0 : w3.cell? ⟨wr.heap.size, 0, none⟩ = some (.int .i64 x.s) := by rw [Lib.cell_of_heap hek]; rfl
      have hek1 : w3.cell? ⟨wr.heap.size, 1, none⟩ = some (.int .i64 en) := by rw [Lib.cell_of_heap hek, ← hen]; rfl
      have he3 : (en : Int) ≤ src.size := by omega
      have HE := Lib.hid hen
      clear hen hen2
      go_wp2
      go_roundw
      case rel => exact ⟨k + 1, en, x.e, _, _, by omega, by go_num, by rw [HE.out], by have := HE.out; omega, by omega, by omega, by omega, q6, by rw [← e1.out]; exact hB3, HV2, HI2, hbw.drew.trans hb3⟩
      case measure => simp [intOf]; omega
    · have hacc : applyL src.data.toList es 0 = acc ++ src.data.toList.drop off := by rw [← HI.out, List.drop_of_length_le (by omega)]; rfl
      have HA := Lib.hid hacc
      have g1 : (acc.length : Int) ≤ 4001 := by have := q5.out; have := valTLoop_len HV.out (by omega); omega
      clear hacc h hs HV0
      have hsz : (src.extract off src.size).size ≤ src.size := by rw [ByteArray.size_extract]; omega
      have hlen : (Lib.byteCells acc).length + (src.extract off src.size).size ≤ 140737488355328 := by rw [Lib.byteCells_length]; omega
      clear hsz
      go_wp2_with fail
      refine (bld_WriteString _ _ _ _ _ hB hlen hb.size).mono ?_
      rintro e w3 ⟨rfl, hB3, hb3, hk3⟩
      have e1 := Lib.hid (show Lib.byteCells acc ++ Lib.strCells (src.extract off src.size) = Lib.byteCells (acc ++ src.data.toList.drop off) by
        rw [Lib.byteCells_append, Lib.strCells_eq, Lib.extract_to_end])
      rw [e1.out] at hB3
      have hb3' := hb.trans hb3
      go_wp2_with fail
      refine (bld_String _ _ _ _ hB3 hb3'.size).mono ?_
      rintro e w4 ⟨rfl, hb4⟩
      go_wp2_with fail
      go_ret2
      exact ⟨by rw [HA.out]; rfl, hb3'.trans hb4⟩

set_option maxHeartbeats 400000 in
theorem apply_err (src : ByteArray) (A : Option Addr) (c : Nat) (es : List Ed) (w : World) (h : EdsAt w w.heap.size A es) (hm : es.length ≤ maxLen) (hs : Short es) (hsrc : src.size ≤ maxLen) (hv : valT src.size es ≠ 0) :
    Calls Try.prog 16 #[.string src, .slice A es.length c] w fun e w' => e = .returned (.tuple #[.string ⟨#[]⟩, .int .i64 (valT src.size es)]) ∧ Below w.heap.size w w' := by
  have k2 : (valT src.size es != 0) = true := by simp [hv]
  clear hv
  go_enter Try.func16, Try.ntmps16
  go_wp2_with (go_at_call 22; refine (valT_any _ _ _ _ _ h hm hs hsrc).mono ?_; rintro e w1 ⟨rfl, hb1⟩)
  go_ret2
  exact ⟨rfl, hb1⟩
end Go.Proofs.Ytbnoejdhachhhaa
