/-
  textedit.Invert: the walk.
-/
import Derived.Test.YtbnoejdhachhhaaTxtV
namespace Go.Proofs.Ytbnoejdhachhhaa
open Go.RowKit

/-- textedit.Invert's list -/
def invL (src : ByteArray) : List Ed → Int → List Ed
  | [], _ => []
  | x :: xs, sh => ⟨x.s + sh, x.s + sh + x.t.size, src.extract x.s.toNat x.e.toNat⟩ :: invL src xs (sh + (x.t.size - (x.e - x.s)))

theorem valTLoop_cons {n : Int} {x : Ed} {xs : List Ed} {p len : Int} (h : valTLoop n (x :: xs) p len = 0) : (p < x.s ∧ x.s ≤ x.e ∧ x.e ≤ n) ∧ valTLoop n xs x.e (len + (x.t.size - (x.e - x.s))) = 0 := by
  unfold valTLoop at h
  split at h
  · omega
  · rename_i g; exact ⟨by omega, h⟩
theorem valT_ok {n : Int} {es : List Ed} (h : valT n es = 0) : n ≤ 2000 ∧ es.length ≤ 50 ∧ valTLoop n es (-1) n = 0 := by
  unfold valT at h
  split at h
  · omega
  · rename_i g; exact ⟨by omega, by omega, h⟩
theorem valTLoop_vals (n : Int) (es : List Ed) (p len : Int) : valTLoop n es p len = 0 ∨ valTLoop n es p len = 2 ∨ valTLoop n es p len = 3 := by
  induction es generalizing p len with
  | nil => unfold valTLoop; split; exact .inr (.inl rfl); exact .inl rfl
  | cons x xs ih => unfold valTLoop; split; exact .inr (.inr rfl); exact ih _ _
theorem valT_vals (n : Int) (es : List Ed) : valT n es = 0 ∨ valT n es = 2 ∨ valT n es = 3 := by
  unfold valT; split
  · exact .inr (.inl rfl)
  · exact valTLoop_vals _ _ _ _

set_option maxHeartbeats 1600000 in
theorem inv_ok (src : ByteArray) (A : Option Addr) (c : Nat) (es : List Ed) (w : World) (h : EdsAt w w.heap.size A es) (hm : es.length ≤ maxLen) (hs : Short es) (hsrc : src.size ≤ maxLen) (hv : valT src.size es = 0) :
    Calls Try.prog 15 #[.string src, .slice A es.length c] w fun e w' => ∃ A' c', e = .returned (.tuple #[.slice A' (invL src es 0).length c', .int .i64 0]) ∧ EdsAt w' w'.heap.size A' (invL src es 0) ∧ Below w.heap.size w w' := by
  have k2 : (valT src.size es != 0) = false := by simp [hv]
  obtain ⟨hn, hl, hvl⟩ := valT_ok hv
  have HV0 := Lib.hid hvl
  clear hv hvl
  go_enter Try.func15, Try.ntmps15
  go_wp2_with (go_at_call 22; refine (valT_any _ _ _ _ _ h hm hs hsrc).mono ?_; rintro e w1 ⟨rfl, hb1⟩)
  go_loopw [7, 8, 20] (fun v s i wr => ∃ (k : Nat) (pe sh len : Int) (out : List Ed), k ≤ es.length ∧ i = .int .i64 k ∧ s = .int .i64 sh ∧ out.length = k ∧ -1 ≤ pe ∧ pe ≤ src.size ∧ -1 - pe ≤ sh ∧ sh ≤ k * 140737488351232 ∧
    wr.ownsRow w.heap.size 31 3 v k (edCells' out) ∧ Hid (valTLoop src.size (es.drop k) pe len = 0) ∧ Hid (out ++ invL src (es.drop k) sh = invL src es 0) ∧ Below w.heap.size w wr) (fun _ _ i _ => es.length - (intOf i).toNat)
  case atStart => exact ⟨0, -1, 0, src.size, [], Nat.zero_le _, rfl, rfl, rfl, by omega, by omega, by omega, by omega, World.ownsRow_nil _ _ _ _, HV0, rfl, hb1⟩
  case round =>
    obtain ⟨k, pe, sh, len, out, hk, rfl, rfl, ho, q1, q2, q3, q4, hown, HV, HI, hb⟩ := hrel
    have HO := Lib.hid ho
    clear ho
    by_cases hlt : k < es.length
    · obtain ⟨b, off, rfl, hbb, hc⟩ := (h.below hb) (by omega)
      obtain ⟨c1, c2, c3⟩ := hc k es[k] (List.getElem?_eq_getElem hlt)
      have HD := Lib.hid (drop_cons es k hlt)
      have hsx := hs es[k] (List.getElem_mem hlt)
      clear hc h hs HV0
      generalize es[k] = x at *
      obtain ⟨⟨p1, p2, p3⟩, HV'⟩ := valTLoop_cons (by rw [← HD.out]; exact HV.out)
      have HV2 := Lib.hid HV'
      clear HV'
      have hbw := hb.alloc hb.size (.cells #[.int .i64 x.s, .int .i64 x.e, .string x.t] 31)
      have hown1 := hown.alloc (.cells #[.int .i64 x.s, .int .i64 x.e, .string x.t] 31)
      have hne : u7.ownBlock ≠ some wr.heap.size := fun e => by have := (hown.lt _ e).2; omega
      have z1 : 0 ≤ x.s := by omega
      obtain ⟨i0, hi, hz0, hz1, hz2⟩ := info_parts info_ed
      have hbs := hb.size
      have ew : IntKind.i64.wrap (x.s + sh + x.t.size) = x.s + sh + x.t.size := IntWalk.i64_in _ (by omega)
      have hin : ∀ u ∈ Ed.cells ⟨x.s + sh, x.s + sh + x.t.size, src.extract x.s.toNat x.e.toNat⟩, u.oneCell' = true := by simp [Ed.cells, Value.oneCell']
      have hkl : k + 1 ≤ maxLen := by simp only [maxLen]; omega
      have hkb : (k + 1) * 32 ≤ 140737488355328 := by omega
      go_wp2
      go_region_held3 (fun w' => w'.cell? ⟨wr.heap.size, 0, none⟩ = some (.int .i64 x.s) ∧ w'.cell? ⟨wr.heap.size, 1, none⟩ = some (.int .i64 x.e) ∧ w'.cell? ⟨wr.heap.size, 2, none⟩ = some (.string x.t))
        (first | go_keep | (go_split_ands; refine ⟨?_, ?_, ?_⟩ <;> (rw [hgrow.cell_far _ (by simp; omega) (Ne.symm hne)]; assumption)))
        ((refine step_append_lies _ (by rfl) _ _ _ (by rfl) w.heap.size 31 i0 _ 3 32 Try.underlying22 hi hz0 hz1 hz2 rfl (by omega) u7 k (edCells' out) (by rfl) ((hown1.alloc _).drew)
            ⟨wr.heap.size + 1, 0, none⟩ 1 1 (Ed.cells ⟨x.s + sh, x.s + sh + x.t.size, src.extract x.s.toNat x.e.toNat⟩) (by rfl) (by rfl) (World.news_of_block (cs := #[_, _, _]) (t := 31) (fr := (0, 0)) (heap_at2 _ _ _)) hin (by omega) hkl hkb (by simp; omega) _ rfl ?_; intro gg cap w1 hown1 hgrow hat hlt))
      clear ew
      have hb2 : Below w.heap.size w w1 := (hbw.alloc (by simp; omega) _).drew.grown hgrow (by simp; omega) (fun q hq => (hown.lt _ hq).1)
      have HO2 := Lib.hid (show (out ++ [(⟨x.s + sh, x.s + sh + x.t.size, src.extract x.s.toNat x.e.toNat⟩ : Ed)]).length = k + 1 by simp [HO.out])
      have HI2 := Lib.hid (show (out ++ [(⟨x.s + sh, x.s + sh + x.t.size, src.extract x.s.toNat x.e.toNat⟩ : Ed)]) ++ invL src (es.drop (k + 1)) (sh + (x.t.size - (x.e - x.s))) = invL src es 0 by rw [← HI.out, HD.out]; simp [invL])
      go_wp2
      go_roundw
      case rel => exact ⟨k + 1, x.e, _, _, _, by omega, by go_num, rfl, HO2.out, by omega, by omega, by omega, by omega, by rw [edCells_snoc]; exact hown1, HV2, HI2, hb2⟩
      case measure => simp [intOf]; omega
    · have hout : invL src es 0 = out := by rw [← HI.out, List.drop_of_length_le (by omega)]; simp [invL]
      have hown' : wr.ownsRow w.heap.size 31 3 u7 out.length (edCells' out) := by rw [HO.out]; exact hown
      obtain ⟨D', d', rfl, hD⟩ := EdsAt.of_own hown'
      have HOUT := Lib.hid hout
      clear hown hown' h hs hout
      go_wp2
      go_ret2
      exact ⟨D', d', by rw [HOUT.out]; rfl, by rw [HOUT.out]; exact hD, hb⟩

set_option maxHeartbeats 400000 in
theorem inv_err (src : ByteArray) (A : Option Addr) (c : Nat) (es : List Ed) (w : World) (h : EdsAt w w.heap.size A es) (hm : es.length ≤ maxLen) (hs : Short es) (hsrc : src.size ≤ maxLen) (hv : valT src.size es ≠ 0) :
    Calls Try.prog 15 #[.string src, .slice A es.length c] w fun e w' => e = .returned (.tuple #[.slice none 0 0, .int .i64 (valT src.size es)]) ∧ Below w.heap.size w w' := by
  have k2 : (valT src.size es != 0) = true := by simp [hv]
  clear hv
  go_enter Try.func15, Try.ntmps15
  go_wp2_with (go_at_call 22; refine (valT_any _ _ _ _ _ h hm hs hsrc).mono ?_; rintro e w1 ⟨rfl, hb1⟩)
  go_ret2
  exact ⟨rfl, hb1⟩
end Go.Proofs.Ytbnoejdhachhhaa
