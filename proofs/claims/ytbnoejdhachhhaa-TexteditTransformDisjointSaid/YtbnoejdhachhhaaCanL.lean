/-
  textedit.canonical: the walk.
-/
import Derived.Test.YtbnoejdhachhhaaCan
namespace Go.Proofs.Ytbnoejdhachhhaa
open Go.RowKit

/-- textedit.canonical's list -/
def canonL (n : Int) : List TB → Int → List UInt8 → List Ed
  | [], st, pend => flushed st n pend
  | b :: bs, st, pend => if b.o = -1 then canonL n bs st (pend ++ [b.v]) else flushed st b.o pend ++ canonL n bs (b.o + 1) []

theorem Caught.below {w w' : World} {B bo bs bp : Nat} {vo vp : Value} {out : List Ed} {st : Int} {pend : List UInt8} (h : Caught w B bo bs bp vo vp out st pend) (hb : Below w.heap.size w w') : Caught w' B bo bs bp vo vp out st pend := by
  obtain ⟨h0, h1, h2, h3, h4, h5⟩ := h
  exact ⟨h0, (hb.block _ (lt_of_heap h1)).trans h1, (hb.block _ (lt_of_heap h2)).trans h2, (hb.block _ (lt_of_heap h3)).trans h3, own_below h4 hb, own_below h5 hb⟩

def Origins (bs : List TB) : Prop := ∀ x ∈ bs, x.o = -1 ∨ (0 ≤ x.o ∧ x.o ≤ 100000000)

/-- what canonical leaves, for the list out -/
def CanonRes (w : World) (out : List Ed) (e : Ending) (w' : World) : Prop :=
  (if 50 < out.length then e = .returned (.tuple #[.slice none 0 0, .int .i64 2]) else ∃ A c, e = .returned (.tuple #[.slice A out.length c, .int .i64 0]) ∧ EdsAt w' w'.heap.size A out) ∧ Below w.heap.size w w'

theorem caught0 (w : World) (B : Nat) (hB : B ≤ w.heap.size) :
    Caught (((w.alloc (.cells #[.slice none 0 0] 22)).alloc (.cells #[.int .i64 0] 3)).alloc (.cells #[.slice none 0 0] 55)) B w.heap.size (w.heap.size + 1) (w.heap.size + 1 + 1) (.slice none 0 0) (.slice none 0 0) [] 0 [] :=
  ⟨⟨by omega, by omega, by omega⟩,
    (Below.heap_alloc _ _ _ (by simp; omega)).trans ((Below.heap_alloc _ _ _ (by simp)).trans (heap_alloc_new _ _)),
    (Below.heap_alloc _ _ _ (by simp)).trans (by have := heap_alloc_new (w.alloc (.cells #[.slice none 0 0] 22)) (.cells #[.int .i64 0] 3); rw [World.size_alloc] at this; exact this),
    by have := heap_alloc_new ((w.alloc (.cells #[.slice none 0 0] 22)).alloc (.cells #[.int .i64 0] 3)) (.cells #[.slice none 0 0] 55); rw [World.size_alloc, World.size_alloc] at this; exact this,
    World.ownsRow_nil _ _ _ _, World.ownsRow_nil _ _ _ _⟩

theorem own_far {w w' : World} {B e e' : Nat} {size size' : Nat} {v v' : Value} {n n' : Nat} {xs xs' : List Value} (h : w.ownsRow B e size v n xs) (h' : w.ownsRow B e' size' v' n' xs') (hg : w.grownBy w' v'.ownBlock) (hne : e ≠ e') : w'.ownsRow B e size v n xs := by
  refine ⟨h.1, ?_⟩
  rcases h.2 with ⟨rfl, hn⟩ | ⟨g, cap, cur, rfl, hb, hh, h3⟩
  · exact .inl ⟨rfl, hn⟩
  · exact .inr ⟨g, cap, cur, rfl, hb, Kept.grown (t0 := e') (t1 := e') h' hg (.inl rfl) g _ _ _ hh hne hne, h3⟩
theorem flushed_length (a b : Int) (l : List UInt8) : (flushed a b l).length ≤ 1 := by unfold flushed; split <;> simp

set_option maxHeartbeats 1600000 in
theorem canon_core (n : Int) (D : Option Addr) (d : Nat) (bs : List TB) (w : World) (hr : RowAt w w.heap.size D (tbCells bs)) (hO : Origins bs) (hl : bs.length ≤ 90000000) (hn0 : 0 ≤ n) (hn : n ≤ 100000000) :
    Calls Try.prog 30 #[.int .i64 n, .slice D bs.length d] w (CanonRes w (canonL n bs 0 [])) := by
  have hc0 := caught0 w w.heap.size (Nat.le_refl _)
  have hb0 : Below w.heap.size w (((w.alloc (.cells #[.slice none 0 0] 22)).alloc (.cells #[.int .i64 0] 3)).alloc (.cells #[.slice none 0 0] 55)) := (((Below.refl _ _).alloc (Nat.le_refl _) _).alloc (by simp) _).alloc (by simp; omega) _
  go_enter Try.func30, Try.ntmps30
  go_wp2_with fail
  go_loopw [15] (fun i wr => ∃ (k : Nat) (st : Int) (pend : List UInt8) (out : List Ed) (vo vp : Value), k ≤ bs.length ∧ i = .int .i64 k ∧ pend.length ≤ k ∧ out.length ≤ k ∧ Caught wr w.heap.size w.heap.size (w.heap.size + 1) (w.heap.size + 1 + 1) vo vp out st pend ∧
    Hid (out ++ canonL n (bs.drop k) st pend = canonL n bs 0 []) ∧ Below w.heap.size w wr) (fun i _ => bs.length - (intOf i).toNat)
  case atStart => exact ⟨0, 0, [], [], _, _, Nat.zero_le _, rfl, by simp, by simp, hc0, rfl, hb0⟩
  case round =>
    obtain ⟨k, st, pend, out, vo, vp, hk, rfl, hpl, hol, hC, HI, hb⟩ := hrel
    clear hc0 hb0
    by_cases hlt : k < bs.length
    · have HD := Lib.hid (drop_cons bs k hlt)
      have hOx := hO bs[k] (List.getElem_mem hlt)
      obtain ⟨b, off, rfl, hbb, hc⟩ := (hr.below hb) (by rw [tbCells_length]; omega)
      obtain ⟨t1, t2⟩ := tbCells_at bs k _ (List.getElem?_eq_getElem hlt)
      have c1 := hc _ _ t1
      have c2 := hc _ _ t2
      rw [← Nat.add_assoc] at c2
      clear hc hr hO t1 t2
      generalize bs[k] = x at *
      have hxt := x.v.toNat_lt
      have hbw := hb.alloc hb.size (.cells #[.int .u8 x.v.toNat, .int .i64 x.o] 73)
      have hC1 := hC.below ((Below.refl _ _).alloc (Nat.le_refl _) (.cells #[.int .u8 x.v.toNat, .int .i64 x.o] 73))
      by_cases ho : x.o = -1
      · have hob : (x.o == -1) = true := by simp [ho]
        have HF : Hid (out ++ canonL n (bs.drop (k + 1)) st (pend ++ [x.v]) = canonL n bs 0 []) := by unfold Hid; rw [← HI.out, HD.out, canonL, if_pos ho]
        clear ho
        obtain ⟨⟨hB1, hB2, hB3⟩, hbo, hbs, hbp, hown, hownp⟩ := hC1
        obtain ⟨d1, f1⟩ := Blk1 hbp
        go_wp2_with (at_builtin; refine wpList_append_litH rfl (.tmp 22) (.tmp 25) _ rfl w.heap.size 5 _ 1 1 Try.underlying55 byteInfo rfl (by decide) _ _ _ rfl hownp 1 1 (wr.heap.size + 1) (by simp) [.int .u8 x.v.toNat] rfl rfl ?c2 ?c3 ?c4 ?c5 ?_)
        case c2 => simp [Value.oneCell']
        case c3 => simp only [maxLen]; omega
        case c4 => omega
        case c5 => exact hbw.size
        intro vp1 w1 hownp1 hg1 hat1
        have kk := Kept.grown (t0 := 5) (t1 := 5) hownp hg1 (.inl rfl)
        have kbo := kk _ _ _ _ hbo (by decide) (by decide)
        have kbs := kk _ _ _ _ hbs (by decide) (by decide)
        have kbp := kk _ _ _ _ hbp (by decide) (by decide)
        obtain ⟨d2, f2⟩ := Blk1 kbp
        have n1 := blk_ne kbs kbp (by decide)
        have n3 := blk_ne kbo kbp (by decide)
        have hown1 : w1.ownsRow w.heap.size 31 3 vo out.length (edCells' out) := own_far hown hownp hg1 (by decide)
        have hownp2 : w1.ownsRow w.heap.size 5 1 vp1 (pend ++ [x.v]).length (Lib.byteCells (pend ++ [x.v])) := by rw [List.length_append, Lib.byteCells_append]; exact hownp1
        have HC : Hid (Caught (w1.setCell ⟨w.heap.size + 1 + 1, 0, none⟩ vp1) w.heap.size w.heap.size (w.heap.size + 1) (w.heap.size + 1 + 1) vo vp1 out st (pend ++ [x.v])) :=
          ⟨⟨hB1, hB2, hB3⟩, heap_far kbo n3 _ _, heap_far kbs n1 _ _, heap_set1 kbp _, own_set hown1 kbp (by decide) _ _, own_set hownp2 kbp (by decide) _ _⟩
        have HB : Hid (Below w.heap.size w (w1.setCell ⟨w.heap.size + 1 + 1, 0, none⟩ vp1)) := (grown_below hbw hbw.size hownp hg1).setCell (p := ⟨w.heap.size + 1 + 1, 0, none⟩) hB3 _
        have HL := Lib.hid (show (pend ++ [x.v]).length ≤ k + 1 by simp; omega)
        obtain ⟨Av, nv, cv, rfl⟩ : ∃ Av nv cv, vp1 = .slice Av nv cv := by
          rcases hownp1.2 with ⟨h, _⟩ | ⟨g, cap, cur, h, _⟩
          · exact ⟨_, _, _, h⟩
          · exact ⟨_, _, _, h⟩
        clear kk hown hown1 hownp hownp1 hownp2 kbo kbs kbp hbo hbs hbp hg1 hat1 n1 n3
        go_wp2
        go_roundw
        case rel => exact ⟨k + 1, st, _, out, vo, _, by omega, by go_num, HL.out, by omega, HC.out, HF, HB.out⟩
        case measure => simp [intOf]; omega
      · have hob : (x.o == -1) = false := by simp [ho]
        have HF : Hid ((out ++ flushed st x.o pend) ++ canonL n (bs.drop (k + 1)) (x.o + 1) [] = canonL n bs 0 []) := by unfold Hid; rw [← HI.out, HD.out, canonL, if_neg ho]; simp
        have h0 : 0 ≤ x.o := by rcases hOx with h | h; exact absurd h ho; exact h.1
        have h1 : x.o ≤ 100000000 := by rcases hOx with h | h; exact absurd h ho; exact h.2
        have HL := Lib.hid (show (out ++ flushed st x.o pend).length ≤ k + 1 by rw [List.length_append]; have := flushed_length st x.o pend; omega)
        clear ho hOx
        go_wp2_with fail
        refine (flush_any _ _ _ _ _ _ _ _ _ _ _ hC1 h0 h1 (by omega) (by omega) hbw.size).mono ?_
        rintro e w1 ⟨rfl, ⟨vo1, hC2⟩, hb1⟩
        have hb2 := hbw.trans hb1
        clear hC hC1 hbw hb hb1
        go_wp2_with fail
        go_roundw
        case rel => exact ⟨k + 1, _, [], _, _, _, by omega, by go_num, by simp, HL.out, hC2, HF, hb2⟩
        case measure => simp [intOf]; omega
    · have HF : Hid (canonL n bs 0 [] = out ++ flushed st n pend) := by unfold Hid; rw [← HI.out, List.drop_of_length_le (by omega)]; rfl
      have hbs := hb.size
      go_wp2_with fail
      refine (flush_any _ _ _ _ _ _ _ _ _ _ _ hC hn0 hn (by omega) (by omega) hbs).mono ?_
      rintro e w1 ⟨rfl, ⟨vo1, hC2⟩, hb1⟩
      have hb2 := hb.trans hb1
      rw [← HF.out] at hC2
      clear hC hb hb1
      obtain ⟨_, hbo, _, _, hown, _⟩ := hC2
      obtain ⟨d1, f1⟩ := Blk1 hbo
      obtain ⟨A, c, rfl, hE⟩ := EdsAt.of_own hown
      clear hown hbo
      generalize canonL n bs 0 [] = L at *
      by_cases h50 : 50 < L.length
      · go_wp2_with fail
        go_ret2
        exact ⟨by rw [if_pos h50]; rfl, hb2⟩
      · go_wp2_with fail
        go_ret2
        exact ⟨by rw [if_neg h50]; exact ⟨A, c, rfl, hE⟩, hb2⟩
end Go.Proofs.Ytbnoejdhachhhaa
