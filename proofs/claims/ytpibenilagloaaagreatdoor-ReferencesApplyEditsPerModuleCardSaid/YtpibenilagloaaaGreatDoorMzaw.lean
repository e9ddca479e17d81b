import Derived.Test.YtpibenilagloaaaGreatDoorMzau
import Derived.Test.YtpibenilagloaaaGreatDoorMzav
import Derived.Test.YtpibenilagloaaaGreatDoorMzas
namespace Go.Proofs.YtpibenilagloaaaGreatDoor
open Go.RowKit
set_option linter.unusedVariables false
theorem Step.below {M M' : MM} {w w1 w2 : World} (h : Step M w M' w1) (hb : Below w.heap.size w1 w2) : Step M w M' w2 :=
  ⟨hb.os.trans h.os, hb.tape.trans h.tape, hb.output.trans h.output, Nat.le_trans h.size hb.size, fun b hb1 hM => (hb.block b hb1).trans (h.block b hb1 hM), h.own, h.hx⟩
theorem BAt.kept {w w' : World} {p : Nat} {M : MM} {src : ByteArray} {b : BS} (h : BAt w p M src b) (hk : Kept 109 5 w w') (hs : w.heap.size ≤ w'.heap.size) (hg : ∀ b, b < ng → w'.heap[b]? = w.heap[b]?) : BAt w' p M src b := by
  obtain ⟨v, h⟩ := h
  refine ⟨v, hk _ _ _ _ h.blk (by decide) (by decide), ownsRow_below h.row fun g hgv => ?_, h.mp, h.mr, h.gl.keep hs hg, h.glM⟩
  rcases h.row.2 with ⟨rfl, _⟩ | ⟨g', cap, cur, rfl, _, hh, _⟩
  · cases hgv
  · injection hgv with hgv; subst hgv
    rw [hh]; exact hk _ _ _ _ hh (by decide) (by decide)
def Tight (p : Nat) (v : Value) (x : Nat) : MM := ⟨fun b => b = p ∨ v.ownBlock = some b, x⟩
theorem BAtX.tight {w : World} {p : Nat} {M : MM} {src : ByteArray} {b : BS} {v : Value} (h : BAtX w p M src b v) : BAtX w p (Tight p v M.x) src b v :=
  ⟨h.blk, h.row, .inl rfl, fun g hg => ⟨.inr hg, (h.mr g hg).2⟩, h.gl, fun c hc => hc.elim (fun e => by subst e; exact h.glM _ h.mp) (fun e => h.glM _ (h.mr _ e).1)⟩
theorem Step.loose {w w' : World} {p : Nat} {M M' : MM} {src : ByteArray} {b : BS} {v : Value} (h : BAtX w p M src b v) (k : Step (Tight p v M.x) w M' w') : Step M w M' w' :=
  ⟨k.os, k.tape, k.output, k.size, fun c hc hM => k.block c hc (fun e => hM (e.elim (fun e => by subst e; exact h.mp) (fun e => (h.mr _ e).1))), fun c hc => (k.own c hc).imp (fun e => e.elim (fun e => by subst e; exact h.mp) (fun e => (h.mr _ e).1)) id, k.hx⟩
theorem sb_step {w w' : World} {p : Nat} {M' : MM} {src : ByteArray} {b : BS} {v : Value} {B S x : Nat} {bs : List Value} (h : BAtX w p (Tight p v x) src b v) (k : Step (Tight p v x) w M' w') (hs : Lib.IsBuilder 109 5 B S bs w) : Lib.IsBuilder 109 5 B S bs w' := by
  have keep : ∀ (g : Nat) (cs : Array Value) (t : TypeId) (fr : Nat × Nat), w.heap[g]? = some (.cells cs t fr) → t = 109 ∨ t = 5 → w'.heap[g]? = w.heap[g]? := by
    intro g cs t fr hg ht
    refine k.block g (lt_of_heap hg) fun e => ?_
    rcases e with e | e
    · subst e; rw [h.blk] at hg; injection hg with hg; injection hg with _ hg _; subst hg; revert ht; decide
    · rcases h.row.2 with ⟨rfl, _⟩ | ⟨g', cap, cur, rfl, _, hh, _⟩
      · cases e
      · injection e with e; subst e; rw [hh] at hg; injection hg with hg; injection hg with _ hg _; subst hg; revert ht; decide
  have f : ∀ q, Lib.BuilderAt 109 5 B S q bs w → Lib.BuilderAt 109 5 B S q bs w' := by
    rintro q ⟨hB, u, hbk, hown, hne⟩
    refine ⟨hB, u, (keep _ _ _ _ hbk (.inl rfl)).trans hbk, ownsRow_below hown fun g hg => ?_, hne⟩
    rcases hown.2 with ⟨rfl, _⟩ | ⟨g', cap, cur, rfl, _, hh, _⟩
    · cases hg
    · injection hg with hg; subst hg; exact keep _ _ _ _ hh (.inr rfl)
  exact hs.imp (f _) (f _)
theorem uqG_end (l : List UInt8) (m k : Nat) (h : ¬ k + 1 < l.length) : uqG l m k = ([], []) := by
  cases m with
  | zero => rfl
  | succ m => unfold uqG; rw [if_neg h]
def escD (s : Int) (es : List Int) : List Dg := es.map fun i => ⟨6, 0, s + i, s + i + 2, .empty⟩
theorem wbyte (B b : Nat) (l : List UInt8) (c : UInt8) (x : Int) (hx : (c.toNat : Int) = x) (w : World) (h : Lib.IsBuilder 109 5 B b (Lib.byteCells l) w) (hlen : l.length ≤ 1000000) (hBw : B ≤ w.heap.size) :
    Calls Tryz.prog 223 #[.pointer (some ⟨b, 0, none⟩), .int .u8 x] w (SbPost w B b (l ++ [c]) .nilIface) := by
  subst hx; exact bld_WriteByte B b l c w h hlen hBw
structure UqAt (w : World) (p : Nat) (M : MM) (src t : ByteArray) (s : Int) (b : BS) (wr : World) (k : Nat) (M1 : MM) (acc : List UInt8) (es : List Int) (m : Nat) : Prop where
  k1 : 1 ≤ k
  k2 : k ≤ t.size + 1
  ka : acc.length ≤ k
  ke : es.length ≤ k
  fuel : t.size ≤ m + k
  eq : uqG t.data.toList t.size 1 = (acc ++ (uqG t.data.toList m k).1, es ++ (uqG t.data.toList m k).2)
  sb : Lib.IsBuilder 109 5 w.heap.size w.heap.size (Lib.byteCells acc) wr
  bat : BAt wr p M1 src { b with ds := b.ds ++ escD s es }
  step : Step M w M1 wr
theorem UqAt.byte {w : World} {p : Nat} {M : MM} {src t : ByteArray} {s : Int} {b : BS} {wr : World} {k : Nat} {M1 : MM} {acc : List UInt8} {es : List Int} {m : Nat} (h : UqAt w p M src t s b wr k M1 acc es m) (hg : Gl w) (hM : ∀ c, M c → ng ≤ c) (c : UInt8) (j m' : Nat) (hj : k < j) (hj2 : j ≤ t.size + 1) (hf : t.size ≤ m' + j)
    (he : uqG t.data.toList m k = (c :: (uqG t.data.toList m' j).1, (uqG t.data.toList m' j).2)) (r : Value) (e : Ending) (w' : World) (hp : SbPost wr w.heap.size w.heap.size (acc ++ [c]) r e w') : e = .returned r ∧ UqAt w p M src t s b w' j M1 (acc ++ [c]) es m' := by
  obtain ⟨rfl, h1, h2, h3⟩ := hp
  have hS := h.step
  refine ⟨rfl, by have := h.k1; omega, hj2, ?_, by have := h.ke; omega, hf, ?_, h1, ?_, hS.below h2⟩
  · have := h.ka; rw [List.length_append]; simp; omega
  · rw [h.eq, he]; simp
  · exact h.bat.kept h3 h2.size (fun b hb => h2.block b (Nat.lt_of_lt_of_le hb hg.big))
theorem UqAt.esc {w : World} {p : Nat} {M : MM} {src t : ByteArray} {s : Int} {b : BS} {wr : World} {k : Nat} {M1 : MM} {acc : List UInt8} {es : List Int} {m : Nat} (h : UqAt w p M src t s b wr k M1 acc es m) (j m' : Nat) (c : UInt8) (hj : k < j) (hj2 : j ≤ t.size + 1) (hf : t.size ≤ m' + j) 
    (he : uqG t.data.toList m k = (c :: (uqG t.data.toList m' j).1, (k : Int) :: (uqG t.data.toList m' j).2)) (hl : b.ds.length + t.size ≤ 900000) (x y : Int) (hx : x = s + k) (hy : y = s + k + 2) :
    Calls Tryz.prog 141 #[.pointer (some ⟨p, 0, none⟩), .int .i64 6, .int .i64 x, .int .i64 y] wr fun e w' => e = .returned (.tuple #[]) ∧ ∃ M2, Lib.IsBuilder 109 5 w.heap.size w.heap.size (Lib.byteCells acc) w' ∧ (∀ (r : Value) (e2 : Ending) (w2 : World), SbPost w' w.heap.size w.heap.size (acc ++ [c]) r e2 w2 → Gl w → e2 = .returned r ∧ UqAt w p M src t s b w2 j M2 (acc ++ [c]) (es ++ [(k : Int)]) m') ∧ wr.heap.size ≤ w'.heap.size := by
  obtain ⟨v, hX⟩ := h.bat
  have hk2 := h.k2
  have hke := h.ke
  refine (report_any wr p _ src _ ⟨v, hX.tight⟩ 6 x y (by simp [escD]; omega)).mono ?_
  rintro e w' ⟨rfl, M2, h1, h2⟩
  have h3 := h.step.trans (Step.loose hX h2)
  refine ⟨rfl, M2, sb_step hX.tight h2 h.sb, ?_, h2.size⟩
  rintro r e2 w2 ⟨rfl, g1, g2, g3⟩ hg
  refine ⟨rfl, by omega, hj2, ?_, ?_, hf, ?_, g1, ?_, h3.below g2⟩
  · have := h.ka; rw [List.length_append]; simp; omega
  · rw [List.length_append]; simp; omega
  · rw [h.eq, he]; simp
  · have e1 : ({ b with ds := b.ds ++ escD s (es ++ [(k : Int)]) } : BS) = BS.rep { b with ds := b.ds ++ escD s es } 6 x y := by
      subst hx hy
      simp [BS.rep, escD]
    rw [e1]
    exact h1.kept g3 g2.size (fun b hb => g2.block b (Nat.lt_of_lt_of_le hb hg.big))
set_option maxRecDepth 100000 in
set_option maxHeartbeats 3200000 in
theorem unquote_any (w : World) (p : Nat) (M : MM) (src : ByteArray) (b : BS) (hB : BAt w p M src b) (t : ByteArray) (s : Int) (hs0 : 0 ≤ s) (hs1 : s ≤ 1000000) (hl : b.ds.length + t.size ≤ 900000) :
    Calls Tryz.prog 144 #[.pointer (some ⟨p, 0, none⟩), .string t, .int .i64 s] w (BPost M w p src (unqB t s b) (.string (ofL (unqL t)))) := by
  have HL := Lib.hid (show t.data.toList.length = t.size by simp)
  have hgl := hB.choose_spec.gl
  have hgM := hB.choose_spec.glM
  have h0 : UqAt w p M src t s b (w.alloc (.cells #[.pointer none, .slice none 0 0] 109)) 1 M [] [] t.size :=
    ⟨Nat.le_refl _, by omega, by simp, by simp, by omega, by simp, .inl ⟨Nat.le_refl _, _, heap_alloc_new _ _, World.ownsRow_nil _ _ _ _, by simp [Value.ownBlock]⟩, by simpa [escD] using hB.below ((Below.refl _ _).alloc (Nat.le_refl _) _), Step.alloc w _⟩
  have HG := Lib.hid hgl
  have HM := Lib.hid hgM
  clear hB hgl hgM
  go_enter Tryz.func144, Tryz.ntmps144
  go_wp2_with fail
  go_loopw [8] (fun i wr => ∃ (k m : Nat) (M1 : MM) (acc : List UInt8) (es : List Int), i = .int .i64 (k : Int) ∧ UqAt w p M src t s b wr k M1 acc es m) (fun i _ => t.size + 2 - (intOf i).toNat)
  case atStart => exact ⟨1, _, _, _, _, rfl, h0⟩
  case round =>
    clear h0
    obtain ⟨k, m, M1, acc, es, rfl, hU⟩ := hrel
    have hk1 := hU.k1
    have hk2 := hU.k2
    have hka := hU.ka
    have hwr : w.heap.size ≤ wr.heap.size := hU.step.size
    by_cases hlt : k + 1 < t.size
    · have hltI : (k : Int) < (t.size : Int) - 1 := by omega
      have hltk : k < t.size := by omega
      obtain ⟨m', rfl⟩ : ∃ m', m = m' + 1 := ⟨m - 1, by have := hU.fuel; omega⟩
      have hfu := hU.fuel
      have hstep : uqG t.data.toList (m' + 1) k = if t.data.toList.getD k 0 = 92 then
          (let d := t.data.toList.getD (k + 1) 0
           let r := uqG t.data.toList m' (k + 2)
           (if d = 110 then (10 :: r.1, r.2) else if d = 34 ∨ d = 92 then (d :: r.1, r.2) else (d :: r.1, (k : Int) :: r.2)))
          else let r := uqG t.data.toList m' (k + 1); (t.data.toList.getD k 0 :: r.1, r.2) := by
        conv => lhs; unfold uqG
        rw [if_pos (by rw [HL.out]; exact hlt)]
      have g0 : t.data.toList.getD k 0 = t[k] := by rw [List.getD_eq_getElem?_getD, List.getElem?_eq_getElem (by rw [HL.out]; exact hltk)]; exact byte_at t k hltk
      have g1 : t.data.toList.getD (k + 1) 0 = t[k + 1] := by rw [List.getD_eq_getElem?_getD, List.getElem?_eq_getElem (by rw [HL.out]; exact hlt)]; exact byte_at t (k + 1) hlt
      rw [g0, g1] at hstep
      clear g0 g1
      obtain ⟨n1, n2⟩ := ne_bool t[k] 92 92 rfl
      have tn : ∀ (c d : UInt8) (n : Nat), d.toNat = n → (c = d ↔ c.toNat = n) := fun c d n hd => ⟨fun e => by rw [e, hd], fun e => UInt8.toNat_inj.1 (e.trans hd.symm)⟩
      have HTN := Lib.hid tn
      clear tn
      by_cases c1 : t[k].toNat = 92
      · rw [if_pos ((HTN.out t[k] 92 92 rfl).2 c1)] at hstep
        rw [decide_eq_true c1] at n1 n2
        obtain ⟨m1, m2⟩ := ne_bool t[k + 1] 110 110 rfl
        obtain ⟨m3, m4⟩ := ne_bool t[k + 1] 34 34 rfl
        obtain ⟨m5, m6⟩ := ne_bool t[k + 1] 92 92 rfl
        have hU' := Lib.hid hU
        by_cases c2 : t[k + 1].toNat = 110
        · simp only [if_pos ((HTN.out t[k + 1] 110 110 rfl).2 c2)] at hstep
          rw [decide_eq_true c2] at m1 m2
          have HN := Lib.hid hstep
          have HSB := Lib.hid (wbyte w.heap.size w.heap.size acc 10 10 rfl wr hU.sb (by omega) hwr)
          clear hstep c1 c2 m3 m4 m5 m6 hU
          go_wp2_with fail
          refine HSB.out.mono ?_
          intro e w1 hp
          obtain ⟨rfl, hU2⟩ := hU'.out.byte HG.out HM.out 10 (k + 2) m' (by omega) (by omega) (by omega) HN.out _ _ _ hp
          clear hp HSB HN hU'
          go_wp2_with fail
          all_goals first | exact ⟨⟨k + 2, _, _, _, _, by go_num, hU2⟩, by simp [intOf]; omega⟩ | (go_roundw; (case rel => exact ⟨k + 2, _, _, _, _, by go_num, hU2⟩); (case measure => simp [intOf]; omega))
        · simp only [if_neg (show ¬ t[k + 1] = 110 from fun e => c2 ((HTN.out t[k + 1] 110 110 rfl).1 e))] at hstep
          rw [decide_eq_false c2] at m1 m2
          by_cases c3 : t[k + 1].toNat = 34
          · simp only [if_pos (show t[k + 1] = 34 ∨ t[k + 1] = 92 from .inl ((HTN.out t[k + 1] 34 34 rfl).2 c3))] at hstep
            rw [decide_eq_true c3] at m3 m4
            have HN := Lib.hid hstep
            have HSB := Lib.hid (wbyte w.heap.size w.heap.size acc t[k + 1] _ rfl wr hU.sb (by omega) hwr)
            clear hstep c1 c2 c3 m5 m6 hU
            go_wp2_with fail
            refine HSB.out.mono ?_
            intro e w1 hp
            obtain ⟨rfl, hU2⟩ := hU'.out.byte HG.out HM.out t[k + 1] (k + 2) m' (by omega) (by omega) (by omega) HN.out _ _ _ hp
            clear hp HSB HN hU'
            go_wp2_with fail
            all_goals first | exact ⟨⟨k + 2, _, _, _, _, by go_num, hU2⟩, by simp [intOf]; omega⟩ | (go_roundw; (case rel => exact ⟨k + 2, _, _, _, _, by go_num, hU2⟩); (case measure => simp [intOf]; omega))
          · rw [decide_eq_false c3] at m3 m4
            by_cases c4 : t[k + 1].toNat = 92
            · simp only [if_pos (show t[k + 1] = 34 ∨ t[k + 1] = 92 from .inr ((HTN.out t[k + 1] 92 92 rfl).2 c4))] at hstep
              rw [decide_eq_true c4] at m5 m6
              have HN := Lib.hid hstep
              have HSB := Lib.hid (wbyte w.heap.size w.heap.size acc t[k + 1] _ rfl wr hU.sb (by omega) hwr)
              clear hstep c1 c2 c3 c4 hU
              go_wp2_with fail
              refine HSB.out.mono ?_
              intro e w1 hp
              obtain ⟨rfl, hU2⟩ := hU'.out.byte HG.out HM.out t[k + 1] (k + 2) m' (by omega) (by omega) (by omega) HN.out _ _ _ hp
              clear hp HSB HN hU'
              go_wp2_with fail
              all_goals first | exact ⟨⟨k + 2, _, _, _, _, by go_num, hU2⟩, by simp [intOf]; omega⟩ | (go_roundw; (case rel => exact ⟨k + 2, _, _, _, _, by go_num, hU2⟩); (case measure => simp [intOf]; omega))
            · simp only [if_neg (show ¬ (t[k + 1] = 34 ∨ t[k + 1] = 92) from fun e => e.elim (fun e => c3 ((HTN.out t[k + 1] 34 34 rfl).1 e)) (fun e => c4 ((HTN.out t[k + 1] 92 92 rfl).1 e)))] at hstep
              rw [decide_eq_false c4] at m5 m6
              have HR := Lib.hid (fun x y hx hy => hU.esc (k + 2) m' t[k + 1] (by omega) (by omega) (by omega) hstep hl x y hx hy)
              clear hstep c1 c2 c3 c4 hU hU'
              go_wp2_with fail
              refine (HR.out _ _ (by omega) (by omega)).mono ?_
              rintro e w1 ⟨rfl, M2, hsb, hU3, hsz⟩
              have HSB := Lib.hid (wbyte w.heap.size w.heap.size acc t[k + 1] _ rfl w1 hsb (by omega) (by omega))
              have HU3 := Lib.hid hU3
              clear hU3 hsb HR
              go_wp2_with fail
              refine HSB.out.mono ?_
              intro e w2 hp
              obtain ⟨rfl, hU2⟩ := HU3.out _ _ _ hp HG.out
              clear hp HSB HU3
              go_wp2_with fail
              all_goals first | exact ⟨⟨k + 2, _, _, _, _, by go_num, hU2⟩, by simp [intOf]; omega⟩ | (go_roundw; (case rel => exact ⟨k + 2, _, _, _, _, by go_num, hU2⟩); (case measure => simp [intOf]; omega))
      · rw [if_neg (fun e => c1 ((HTN.out t[k] 92 92 rfl).1 e))] at hstep
        rw [decide_eq_false c1] at n1 n2
        have HN := Lib.hid hstep
        have HSB := Lib.hid (wbyte w.heap.size w.heap.size acc t[k] _ rfl wr hU.sb (by omega) hwr)
        have hU' := Lib.hid hU
        clear hstep c1 hU
        go_wp2_with fail
        refine HSB.out.mono ?_
        intro e w1 hp
        obtain ⟨rfl, hU2⟩ := hU'.out.byte HG.out HM.out t[k] (k + 1) m' (by omega) (by omega) (by omega) HN.out _ _ _ hp
        clear hp HSB HN hU'
        go_wp2_with fail
        all_goals first | exact ⟨⟨k + 1, _, _, _, _, by go_num, hU2⟩, by simp [intOf]; omega⟩ | (go_roundw; (case rel => exact ⟨k + 1, _, _, _, _, by go_num, hU2⟩); (case measure => simp [intOf]; omega))
    · have hltI : ¬ (k : Int) < (t.size : Int) - 1 := by omega
      have hE := hU.eq
      rw [uqG_end t.data.toList m k (by rw [HL.out]; exact hlt)] at hE
      simp only [List.append_nil] at hE
      have HQ : Hid (∀ e w2, StrPost wr w.heap.size ⟨acc.toArray⟩ e w2 → e = .returned (.string ⟨acc.toArray⟩) ∧ BPost M w p src (unqB t s b) (.string (ofL (unqL t))) (.returned (.string ⟨acc.toArray⟩)) w2) := by
        rintro e w2 ⟨rfl, hb, hk⟩
        have hw := hU.bat
        have e1 : unqB t s b = { b with ds := b.ds ++ escD s es } := by unfold unqB escD; rw [hE]
        have e2 : ofL (unqL t) = ⟨acc.toArray⟩ := by unfold unqL; rw [hE]; rfl
        rw [e1, e2]
        exact ⟨rfl, rfl, M1, hw.kept hk hb.size (fun b h => hb.block b (Nat.lt_of_lt_of_le h HG.out.big)), hU.step.below hb⟩
      have HS := Lib.hid (bld_Str w.heap.size w.heap.size acc wr hU.sb hwr)
      clear hU hE
      go_wp2_with fail
      refine HS.out.mono ?_
      intro e w1 hp
      obtain ⟨rfl, h9⟩ := HQ.out _ _ hp
      clear hp
      go_wp2_with fail
      go_ret
      exact h9
end Go.Proofs.YtpibenilagloaaaGreatDoor
