import Derived.Test.YtpibenilagloaaaGreatDoorMzac
import Derived.Test.YtpibenilagloaaaGreatDoorMzaa
namespace Go.Proofs.YtpibenilagloaaaGreatDoor
open Go.RowKit
set_option linter.unusedVariables false
theorem Post.mono {M M1 : MM} {w w1 : World} {p : Nat} {toks : List Tok} {low : List LowF} {kind : Int} {s : PS} {r : Value} {e : Ending} {w' : World} (hst : Step M w M1 w1) (h : Post M1 w1 p toks low kind s r e w') : Post M w p toks low kind s r e w' :=
  ⟨h.1, h.2.elim fun M2 h2 => ⟨M2, h2.1, hst.trans h2.2⟩⟩
set_option maxRecDepth 100000 in
theorem accept_any (w : World) (p : Nat) (M : MM) (toks : List Tok) (low : List LowF) (kind : Int) (s s' : PS) (h : PAt w p M toks low kind s) (A : Option Addr) (n c : Nat) (ss : List ByteArray) (hA : StrsAt w A ss) (hl : n = ss.length) (hn : n ≤ 1000000)
    (hs : (if atB ss s.rest then s.bump else some s) = some s') :
    Calls Tryz.prog 136 #[.pointer (some ⟨p, 0, none⟩), .slice A n c] w (Post M w p toks low kind s' (.bool (atB ss s.rest))) := by
  have HP := Lib.hid h
  have hcall := Lib.hid (at_any w p M toks low kind s h A n c ss hA hl hn)
  clear h hA hl
  cases ht : atB ss s.rest
  · rw [ht] at hs hcall
    simp only [Bool.false_eq_true, if_false, Option.some.injEq] at hs
    subst hs
    clear ht
    go_enter Tryz.func136, Tryz.ntmps136
    go_wp2_with fail
    refine hcall.out.mono ?_
    rintro e w1 ⟨rfl, hb⟩
    have HB := Lib.hid hb
    clear hb hcall
    go_wp2_with fail
    go_ret
    exact ⟨rfl, M, HP.out.below HB.out, Step.of_below HB.out⟩
  · rw [ht] at hs hcall
    simp only [if_true] at hs
    have HS := Lib.hid hs
    clear ht hs
    go_enter Tryz.func136, Tryz.ntmps136
    go_wp2_with fail
    refine hcall.out.mono ?_
    rintro e w1 ⟨rfl, hb⟩
    have HB := Lib.hid hb
    clear hb hcall
    go_wp2_with fail
    refine (bump_any _ p M toks low kind s s' (HP.out.below HB.out) HS.out).mono ?_
    rintro e w2 ⟨rfl, hq⟩
    have HQ := Lib.hid hq
    clear hq
    go_wp2_with fail
    go_ret
    exact ⟨rfl, HQ.out.elim fun M2 h2 => ⟨M2, h2.1, (Step.of_below HB.out).trans h2.2⟩⟩
theorem leaf_any (w : World) (p : Nat) (M : MM) (toks : List Tok) (low : List LowF) (kind k : Int) (s s' : PS) (h : PAt w p M toks low kind s) (hs : s.add [.mk k .empty []] = some s') :
    Calls Tryz.prog 220 #[.pointer (some ⟨p, 0, none⟩), .agg #[.int .i64 k, .string ⟨#[]⟩, .slice none 0 0]] w (Post M w p toks low kind s' (.tuple #[])) :=
  add_any w p M toks low kind s s' h _ _ _ _ (by unfold TreeV; exact ⟨rfl, rfl, none, 0, rfl, .inl rfl⟩) hs
set_option maxRecDepth 100000 in
theorem missingToken_any (w : World) (p : Nat) (M : MM) (toks : List Tok) (low : List LowF) (kind : Int) (s s' : PS) (h : PAt w p M toks low kind s) (hs : s.add [.mk 108 .empty []] = some s') :
    Calls Tryz.prog 269 #[.pointer (some ⟨p, 0, none⟩)] w (Post M w p toks low kind s' (.tuple #[])) := by
  have hcall := Lib.hid (leaf_any w p M toks low kind 108 s s' h hs)
  clear h hs
  go_enter Tryz.func269, Tryz.ntmps269
  go_wp2_with fail
  refine hcall.out.mono ?_
  rintro e w1 ⟨rfl, hq⟩
  have HQ := Lib.hid hq
  clear hq
  go_wp2_with fail
  go_end0
  exact ⟨rfl, HQ.out⟩
set_option maxRecDepth 100000 in
theorem missingNode_any (w : World) (p : Nat) (M : MM) (toks : List Tok) (low : List LowF) (kind : Int) (s s' : PS) (h : PAt w p M toks low kind s) (hs : s.add [.mk 46 .empty []] = some s') :
    Calls Tryz.prog 276 #[.pointer (some ⟨p, 0, none⟩)] w (Post M w p toks low kind s' (.tuple #[])) := by
  have hcall := Lib.hid (leaf_any w p M toks low kind 46 s s' h hs)
  clear h hs
  go_enter Tryz.func276, Tryz.ntmps276
  go_wp2_with fail
  refine hcall.out.mono ?_
  rintro e w1 ⟨rfl, hq⟩
  have HQ := Lib.hid hq
  clear hq
  go_wp2_with fail
  go_end0
  exact ⟨rfl, HQ.out⟩
set_option maxRecDepth 100000 in
theorem absent_any (w : World) (p : Nat) (M : MM) (toks : List Tok) (low : List LowF) (kind : Int) (s s' : PS) (h : PAt w p M toks low kind s) (hs : s.add [.mk 0 .empty []] = some s') :
    Calls Tryz.prog 262 #[.pointer (some ⟨p, 0, none⟩)] w (Post M w p toks low kind s' (.tuple #[])) := by
  have hcall := Lib.hid (leaf_any w p M toks low kind 0 s s' h hs)
  clear h hs
  go_enter Tryz.func262, Tryz.ntmps262
  go_wp2_with fail
  refine hcall.out.mono ?_
  rintro e w1 ⟨rfl, hq⟩
  have HQ := Lib.hid hq
  clear hq
  go_wp2_with fail
  go_end0
  exact ⟨rfl, HQ.out⟩
set_option maxRecDepth 100000 in
theorem expect_any (w : World) (p : Nat) (M : MM) (toks : List Tok) (low : List LowF) (kind : Int) (s s' : PS) (h : PAt w p M toks low kind s) (t : ByteArray) (hs : (if atB [t] s.rest then s.bump else s.add [.mk 108 .empty []]) = some s') :
    Calls Tryz.prog 216 #[.pointer (some ⟨p, 0, none⟩), .string t] w (Post M w p toks low kind s' (.tuple #[])) := by
  have HB := Lib.hid (show Below w.heap.size w (w.alloc (.cells #[.string t] 9)) from (Below.refl _ _).alloc (Nat.le_refl _) _)
  have HP := Lib.hid (h.below HB.out)
  have HA := Lib.hid (StrsAt.new w [t] 9 _ rfl)
  clear h
  cases ht : atB [t] s.rest
  · rw [ht] at hs
    simp only [Bool.false_eq_true, if_false] at hs
    have HS := Lib.hid hs
    have hcall := Lib.hid (accept_any _ p M toks low kind s s HP.out (some ⟨w.heap.size, 0, none⟩) 1 1 [t] HA.out rfl (by decide) (by rw [ht]; rfl))
    rw [ht] at hcall
    clear ht hs
    go_enter Tryz.func216, Tryz.ntmps216
    go_wp2_with fail
    refine hcall.out.mono ?_
    rintro e w1 ⟨rfl, M1, hp1, hst1⟩
    have hcall2 := Lib.hid (missingToken_any _ p M1 toks low kind s s' hp1 HS.out)
    have HST := Lib.hid ((Step.of_below HB.out).trans hst1)
    clear hp1 hst1 hcall
    go_wp2_with fail
    refine hcall2.out.mono ?_
    rintro e w2 ⟨rfl, hq⟩
    have HQ := Lib.hid hq
    clear hq
    go_wp2_with fail
    go_end0
    exact Post.mono HST.out ⟨rfl, HQ.out⟩
  · rw [ht] at hs
    simp only [if_true] at hs
    have hcall := Lib.hid (accept_any _ p M toks low kind s s' HP.out (some ⟨w.heap.size, 0, none⟩) 1 1 [t] HA.out rfl (by decide) (by rw [ht]; exact hs))
    rw [ht] at hcall
    clear ht hs
    go_enter Tryz.func216, Tryz.ntmps216
    go_wp2_with fail
    refine hcall.out.mono ?_
    rintro e w1 ⟨rfl, hq⟩
    have HQ := Lib.hid hq
    clear hq hcall
    go_wp2_with fail
    go_end0
    exact Post.mono (Step.of_below HB.out) ⟨rfl, HQ.out⟩
set_option maxRecDepth 100000 in
theorem expectIdent_any (w : World) (p : Nat) (M : MM) (toks : List Tok) (low : List LowF) (kind : Int) (s s' : PS) (h : PAt w p M toks low kind s) (hs : (if (peekT s.rest).k == 103 then s.bump else s.add [.mk 108 .empty []]) = some s') :
    Calls Tryz.prog 213 #[.pointer (some ⟨p, 0, none⟩)] w (Post M w p toks low kind s' (.tuple #[])) := by
  have HP := Lib.hid h
  have hcall := Lib.hid (atIdent_any w p M toks low kind s h)
  clear h
  cases ht : (peekT s.rest).k == 103
  · rw [ht] at hs hcall
    simp only [Bool.false_eq_true, if_false] at hs
    have HS := Lib.hid hs
    clear ht hs
    go_enter Tryz.func213, Tryz.ntmps213
    go_wp2_with fail
    refine hcall.out.mono ?_
    rintro e w1 ⟨rfl, hb⟩
    have HB := Lib.hid hb
    clear hb hcall
    go_wp2_with fail
    refine (missingToken_any _ p M toks low kind s s' (HP.out.below HB.out) HS.out).mono ?_
    rintro e w2 ⟨rfl, hq⟩
    have HQ := Lib.hid hq
    clear hq
    go_wp2_with fail
    go_end0
    exact Post.mono (Step.of_below HB.out) ⟨rfl, HQ.out⟩
  · rw [ht] at hs hcall
    simp only [if_true] at hs
    have HS := Lib.hid hs
    clear ht hs
    go_enter Tryz.func213, Tryz.ntmps213
    go_wp2_with fail
    refine hcall.out.mono ?_
    rintro e w1 ⟨rfl, hb⟩
    have HB := Lib.hid hb
    clear hb hcall
    go_wp2_with fail
    refine (bump_any _ p M toks low kind s s' (HP.out.below HB.out) HS.out).mono ?_
    rintro e w2 ⟨rfl, hq⟩
    have HQ := Lib.hid hq
    clear hq
    go_wp2_with fail
    go_end0
    exact Post.mono (Step.of_below HB.out) ⟨rfl, HQ.out⟩

theorem own_truncate {w : World} {base : Nat} {e : TypeId} {size g cap n m : Nat} {xs : List Value} (h : w.ownsRow base e size (.slice (some ⟨g, 0, none⟩) n cap) n xs) (hm : m ≤ n) :
    w.ownsRow base e size (.slice (some ⟨g, 0, none⟩) m cap) m (xs.take (m * size)) := by
  rcases h.2 with ⟨h', _⟩ | ⟨g', cap', cur, h', hb, hg, hnc, hcm, hcs, htake⟩
  · simp at h'
  · simp only [Value.slice.injEq, Option.some.injEq, Addr.mk.injEq, and_true, true_and] at h'
    obtain ⟨rfl, rfl⟩ := h'
    have hle : m * size ≤ n * size := Nat.mul_le_mul_right _ hm
    refine ⟨?_, .inr ⟨g, cap, cur, rfl, hb, hg, by omega, hcm, hcs, ?_⟩⟩
    · rw [List.length_take, h.1]; omega
    · rw [← htake, List.take_take, Nat.min_eq_left hle]
def Less (M : MM) (v : Value) : MM := ⟨fun b => M b ∧ v.ownBlock ≠ some b, M.x⟩
theorem PAtX.pop {w : World} {p : Nat} {M : MM} {toks : List Tok} {low : List LowF} {f : LowF} {kind : Int} {s : PS} {g cap : Nat} {v : Value} {At : Option Addr} {ct : Nat} (h : PAtX w p M toks (low ++ [f]) kind s g cap v At ct) (fl : Bool) (G : Nat) (hgas : f.ch.length + G ≤ 1000000) (hlow : low.length + G ≤ 1000000) :
    PAtX (w.setCell ⟨p, 2, none⟩ (.slice (some ⟨g, 0, none⟩) (low.length + 1) cap)) p (Less M v) toks low f.kind ⟨s.rest, f.ch, fl, G⟩ g cap f.v At ct ∧
      Step M w (Less M v) (w.setCell ⟨p, 2, none⟩ (.slice (some ⟨g, 0, none⟩) (low.length + 1) cap)) ∧
      TreeV (w.setCell ⟨p, 2, none⟩ (.slice (some ⟨g, 0, none⟩) (low.length + 1) cap)) (Fix (w.setCell ⟨p, 2, none⟩ (.slice (some ⟨g, 0, none⟩) (low.length + 1) cap)) (Less M v)) (.mk kind .empty s.ch) (.int .i64 kind) (.string .empty) v := by
  obtain ⟨a1, a2, a3, a4, a5⟩ := h.apart
  obtain ⟨m1, m2, m3, m4⟩ := h.mine
  generalize hwf : w.setCell ⟨p, 2, none⟩ (.slice (some ⟨g, 0, none⟩) (low.length + 1) cap) = wf
  have hne : ∀ b, b ≠ p → wf.heap[b]? = w.heap[b]? := fun b hb => by rw [← hwf]; exact Below.heap_setCell _ _ _ _ hb
  have hsz : wf.heap.size = w.heap.size := by rw [← hwf]; simp
  have hsame0 : ∀ b, ¬ M b → wf.heap[b]? = w.heap[b]? := fun b hf => hne b (fun e => hf (by rw [e]; exact m1))
  have hsame : ∀ b, Fix w M b → wf.heap[b]? = w.heap[b]? := fun b hf => hsame0 b hf.2
  have hfix : ∀ b, Fix w M b → Fix wf (Less M v) b := fun b hf => ⟨by rw [hsz]; exact hf.1, fun hl => hf.2 hl.1, hf.3⟩
  have hmem : ∀ x ∈ low, x ∈ low ++ [f] := fun x hx => List.mem_append_left _ hx
  have hff : f ∈ low ++ [f] := by simp
  have hlen : (low ++ [f]).length = low.length + 1 := by simp
  have hpw := List.pairwise_append.1 a5
  have hkid : ∀ x ∈ low ++ [f], KidsAt wf (Fix wf (Less M v)) x.v x.ch := fun x hx => (h.lows x hx).keep hfix hsame fun k hk => hne k (fun e => by subst e; exact (a4 x hx).1 hk)
  refine ⟨⟨?_, ?_, hkid f hff, fun x hx => hkid x (hmem x hx), h.tok.keep hfix hsame, ⟨a1, (a4 f hff).1, (a4 f hff).2.1, fun x hx => ⟨(a4 x (hmem x hx)).1, (a4 x (hmem x hx)).2.1, hpw.2.2 x hx f (by simp)⟩, hpw.1⟩,
    ⟨⟨m1, a2⟩, ⟨m2, a3⟩, fun b hb => ⟨m4 f hff b hb, fun e => ?_⟩, fun x hx b hb => ⟨m4 x (hmem x hx) b hb, fun e => ?_⟩⟩, h.rest, hgas, hlow, h.btok, h.asc.keep (hsame0 _ h.ascM), fun hl => h.ascM hl.1, ⟨by rw [hsz]; exact h.hole.1, fun hl => h.hole.2 hl.1⟩⟩,
    ⟨by rw [← hwf]; rfl, by rw [← hwf]; rfl, by rw [← hwf]; rfl, by rw [hsz]; exact Nat.le_refl _, fun b hlt hM => hsame0 b hM, fun b hb => .inl hb.1, rfl⟩, ?_⟩
  · rw [← hwf]
    simp [World.setCell, Array.getElem?_modify, h.blk]
  · have hr := ownsRow_below h.row (w' := wf) fun k hk => hne k (fun e => by subst e; simp [Value.ownBlock] at hk; exact a1 hk.symm)
    have ht := own_truncate hr (m := low.length + 1) (by rw [hlen]; omega)
    have hl := lowCells_length low
    have : ((low ++ [f]).flatMap LowF.cells ++ [.int .i64 kind, .string .empty, v]).take ((low.length + 1) * 3) = low.flatMap LowF.cells ++ [.int .i64 f.kind, .string .empty, f.v] := by
      rw [List.take_append_of_le_length (by rw [lowCells_length, hlen]; omega), List.take_of_length_le (by rw [lowCells_length, hlen]; omega)]
      simp [LowF.cells]
    rw [this] at ht
    exact ht
  · rcases (a4 f hff).2.2 with e2 | e2
    · rw [e2] at hb; cases hb
    · exact e2 (by rw [hb, e])
  · rcases (a4 x (hmem x hx)).2.2 with e2 | e2
    · rw [e2] at hb; cases hb
    · exact e2 (by rw [hb, e])
  · obtain ⟨xs, hown, hrow⟩ := h.kids
    have hown' := ownsRow_below hown (w' := wf) fun k hk => hne k (fun e => by subst e; exact a2 hk)
    unfold TreeV
    refine ⟨rfl, rfl, ?_⟩
    rcases hown'.2 with ⟨hv, h0⟩ | ⟨b, c, cur, hv, _, hh, _⟩
    · exact ⟨none, 0, by rw [h0]; exact hv, .inl (List.eq_nil_of_length_eq_zero h0)⟩
    · refine ⟨_, _, hv, .inr ⟨b, rfl, ⟨lt_of_heap hh, fun hl => hl.2 (by rw [hv]; rfl), fun e => h.hole.2 (by have e2 : b = M.x := e; rw [← e2]; exact m3 b (by rw [hv]; rfl))⟩, RowV.trees b xs _ 0 (RowV.keep hfix hsame _ _ hrow) fun j u hu => ?_⟩⟩
      rw [Nat.zero_add, ← addr0]
      exact hown'.cells (by rw [hv]; rfl) j u hu

set_option maxRecDepth 100000 in
set_option maxHeartbeats 1600000 in
theorem finish_any (w : World) (p : Nat) (M : MM) (toks : List Tok) (low : List LowF) (f : LowF) (kind : Int) (s : PS) (h : PAt w p M toks (low ++ [f]) kind s) (fl : Bool) (hg0 : 0 < s.gas) (hgas : f.ch.length + (s.gas + 1) ≤ 1000000) (hlow : low.length + (s.gas + 1) ≤ 1000000) :
    Calls Tryz.prog 209 #[.pointer (some ⟨p, 0, none⟩)] w (Post M w p toks low f.kind ⟨s.rest, f.ch ++ [.mk kind .empty s.ch], fl, s.gas⟩ (.tuple #[])) := by
  obtain ⟨g, cap, v, At, ct, hX⟩ := h
  obtain ⟨Av, cv, rfl⟩ : ∃ Av cv, v = .slice Av s.ch.length cv := by
    obtain ⟨xs, hown, _⟩ := hX.kids
    rcases hown.2 with ⟨h, h0⟩ | ⟨g', cap', cur, h, _⟩
    · exact ⟨none, 0, by rw [h, h0]⟩
    · exact ⟨_, _, h⟩
  obtain ⟨c0, c1, c2⟩ := hX.cells
  obtain ⟨d0, d1, d2⟩ := hX.top
  have hplt := lt_of_heap hX.blk
  have hglt := (hX.row.lt g rfl).2
  have hfz := hX.thaw 2
  have hlen : (low ++ [f]).length = low.length + 1 := by simp
  have hcap : low.length + 1 ≤ cap := by
    rcases hX.row.2 with ⟨h', _⟩ | ⟨g', cap', cur, h', hb, hg, hnc, _⟩
    · simp at h'
    · simp only [Value.slice.injEq, Option.some.injEq, Addr.mk.injEq, and_true, true_and] at h'
      obtain ⟨_, rfl⟩ := h'
      rw [hlen] at hnc
      omega
  rw [hlen] at c2 d0 d1 d2
  obtain ⟨P1, P2, P3⟩ := hX.pop fl (s.gas + 1) hgas hlow
  generalize hW2 : w.setCell ⟨p, 2, none⟩ (.slice (some ⟨g, 0, none⟩) (low.length + 1) cap) = W2 at P1 P2 P3
  have hA := (Below.refl W2.heap.size W2).alloc (Nat.le_refl _) (.cells #[.int .i64 kind, .string .empty, .slice Av s.ch.length cv] 121)
  have P4 := TreeV.keep (w' := W2.alloc (.cells #[.int .i64 kind, .string .empty, .slice Av s.ch.length cv] 121)) (F' := Fix (W2.alloc (.cells #[.int .i64 kind, .string .empty, .slice Av s.ch.length cv] 121)) (Less M (.slice Av s.ch.length cv))) (fun b h => ⟨Nat.lt_of_lt_of_le h.1 hA.size, h.2, h.3⟩) (fun b h => hA.block b h.1) _ _ _ _ P3
  have HS := Lib.hid (P2.trans (Step.of_below hA))
  have hcall := Lib.hid (add_any _ p _ toks low f.kind ⟨s.rest, f.ch, fl, s.gas + 1⟩ ⟨s.rest, f.ch ++ [.mk kind .empty s.ch], fl, s.gas⟩ ⟨_, _, _, _, _, P1.below hA⟩ _ _ _ _ P4 (by unfold PS.add; rw [if_pos (by show 1 < s.gas + 1; omega)]; rfl))
  rw [← hW2] at hcall HS
  clear P1 P2 P3 P4 hA hW2 W2
  clear hX
  generalize s.ch.length = n at *
  generalize low.length = L at *
  have hL0 : (0 : Int) ≤ L := by omega
  have hLc : (L : Int) + 1 ≤ cap := by omega
  have hLc2 : ((L + 1 : Nat) : Int) ≤ cap := by omega
  go_enter Tryz.func209, Tryz.ntmps209
  go_wp2_with fail
  refine hcall.out.mono ?_
  rintro e w1 ⟨rfl, hq⟩
  have HQ := Lib.hid hq
  clear hq hcall
  go_wp2_with fail
  go_end0
  exact Post.mono HS.out ⟨rfl, HQ.out⟩

def Plus (M : MM) (g : Nat) : MM := ⟨fun b => M b ∨ b = g, M.x⟩
theorem PAtX.push {w w2 : World} {p : Nat} {M : MM} {toks : List Tok} {low : List LowF} {kind : Int} {s : PS} {g cap : Nat} {v : Value} {At : Option Addr} {ct : Nat} (h : PAtX w p M toks low kind s g cap v At ct) (k : Int) (fl : Bool) (hgas : 1 < s.gas)
    {gg cap' : Nat} {z0 z1 z2 : Value} (hg : w.grownBy w2 (some g))
    (ho : w2.ownsRow 0 121 3 (.slice (some ⟨gg, 0, none⟩) (low.length + 1 + 1) cap') (low.length + 1 + 1) (low.flatMap LowF.cells ++ [.int .i64 kind, .string .empty, v] ++ [z0, z1, z2])) (hat : gg = g ∨ w.heap.size ≤ gg)
    {v' : Value} {xs : List Value} {ch' : List Tree} (hv : v'.ownBlock = none ∨ ∃ b, v'.ownBlock = some b ∧ b < w2.heap.size ∧ b ≠ p ∧ b ≠ g ∧ b ≠ gg ∧ M b ∧ (∀ f ∈ low, f.v.ownBlock ≠ some b) ∧ v.ownBlock ≠ some b)
    (hk : w2.ownsRow 0 121 3 v' ch'.length xs) (hrow : (∀ b, Fix w M b → Fix w2 (Plus M gg) b) → RowV w2 (Fix w2 (Plus M gg)) xs ch') (hch : ch'.length ≤ 1) :
    PAtX ((((w2.setCell ⟨gg, (low.length + 1) * 3, none⟩ (.int .i64 k)).setCell ⟨gg, (low.length + 1) * 3 + 1, none⟩ (.string .empty)).setCell ⟨gg, (low.length + 1) * 3 + 2, none⟩ v').setCell ⟨p, 2, none⟩ (.slice (some ⟨gg, 0, none⟩) (low.length + 1 + 1) cap')) p (Plus M gg) toks (low ++ [⟨kind, v, s.ch⟩]) k ⟨s.rest, ch', fl, s.gas - 1⟩ gg cap' v' At ct ∧
      Step M w (Plus M gg) ((((w2.setCell ⟨gg, (low.length + 1) * 3, none⟩ (.int .i64 k)).setCell ⟨gg, (low.length + 1) * 3 + 1, none⟩ (.string .empty)).setCell ⟨gg, (low.length + 1) * 3 + 2, none⟩ v').setCell ⟨p, 2, none⟩ (.slice (some ⟨gg, 0, none⟩) (low.length + 1 + 1) cap')) := by
  obtain ⟨a1, a2, a3, a4, a5⟩ := h.apart
  obtain ⟨m1, m2, m3, m4⟩ := h.mine
  have hplt := lt_of_heap h.blk
  have hglt := (h.row.lt g rfl).2
  have hgp : gg ≠ p := by
    rcases hat with e | e
    · rw [e]; exact fun e => a1 e.symm
    · omega
  have hxl : (low.flatMap LowF.cells ++ [.int .i64 kind, .string .empty, v]).length = (low.length + 1) * 3 := by rw [List.length_append, lowCells_length]; simp; omega
  obtain ⟨o1, q1⟩ := ho.stored ((low.length + 1) * 3) (.int .i64 k)
  obtain ⟨o2, q2⟩ := o1.stored ((low.length + 1) * 3 + 1) (.string .empty)
  obtain ⟨o3, q3⟩ := o2.stored ((low.length + 1) * 3 + 2) v'
  rw [set3 _ _ hxl] at o3
  have hb1 := h.bch
  have hb2 := h.blow
  generalize hw3 : ((w2.setCell ⟨gg, (low.length + 1) * 3, none⟩ (.int .i64 k)).setCell ⟨gg, (low.length + 1) * 3 + 1, none⟩ (.string .empty)).setCell ⟨gg, (low.length + 1) * 3 + 2, none⟩ v' = w3 at o3 q3
  have h3 : ∀ b, b ≠ gg → w3.heap[b]? = w2.heap[b]? := fun b hb => by
    rw [← hw3, Below.heap_setCell _ _ _ _ hb, Below.heap_setCell _ _ _ _ hb, Below.heap_setCell _ _ _ _ hb]
  have hs3 : w3.heap.size = w2.heap.size := by rw [← hw3]; simp
  generalize hwf : w3.setCell ⟨p, 2, none⟩ (.slice (some ⟨gg, 0, none⟩) (low.length + 1 + 1) cap') = wf
  have hne : ∀ b, b ≠ p → wf.heap[b]? = w3.heap[b]? := fun b hb => by rw [← hwf]; exact Below.heap_setCell _ _ _ _ hb
  have hsz : wf.heap.size = w2.heap.size := by rw [← hwf, ← hs3]; simp
  have hall : ∀ b, b < w.heap.size → b ≠ p → b ≠ g → wf.heap[b]? = w.heap[b]? := fun b hlt h1 h2 => by
    have hbg : b ≠ gg := by
      rcases hat with e | e
      · rw [e]; exact h2
      · omega
    rw [hne b h1, h3 b hbg]
    exact hg.block b hlt (fun e => h2 (by injection e))
  have hsame0 : ∀ b, b < w.heap.size → ¬ M b → wf.heap[b]? = w.heap[b]? := fun b h1 h2 => hall b h1 (fun e => h2 (by rw [e]; exact m1)) (fun e => h2 (by rw [e]; exact m2))
  have hsame : ∀ b, Fix w M b → wf.heap[b]? = w.heap[b]? := fun b hf => hsame0 b hf.1 hf.2
  have hnm : ∀ b, b < w.heap.size → ¬ M b → ¬ (Plus M gg) b := fun b h1 h2 hp => by
    rcases hp with hp | hp
    · exact h2 hp
    · subst hp
      rcases hat with e | e
      · subst e; exact h2 m2
      · omega
  have hfix2 : ∀ b, Fix w M b → Fix w2 (Plus M gg) b := fun b hf => ⟨Nat.lt_of_lt_of_le hf.1 hg.size, hnm b hf.1 hf.2, hf.3⟩
  have hfix : ∀ b, Fix w M b → Fix wf (Plus M gg) b := fun b hf => ⟨by rw [hsz]; exact (hfix2 b hf).1, (hfix2 b hf).2, hf.3⟩
  have hlow : ∀ f ∈ low, KidsAt wf (Fix wf (Plus M gg)) f.v f.ch := fun f hf => (h.lows f hf).keep hfix hsame fun b hb => hall b ((h.lows f hf).lt b hb) (fun e => (a4 f hf).1 (by rw [hb, e])) (fun e => (a4 f hf).2.1 (by rw [hb, e]))
  have htop : KidsAt wf (Fix wf (Plus M gg)) v s.ch := h.kids.keep hfix hsame fun b hb => hall b (h.kids.lt b hb) (fun e => a2 (by rw [hb, e])) (fun e => a3 (by rw [hb, e]))
  have hlgg : ∀ b, b < w.heap.size → b ≠ g → b ≠ gg := fun b hlt h2 => by
    rcases hat with e | e
    · rw [e]; exact h2
    · omega
  have hvb : ∀ b, v'.ownBlock = some b → b < w2.heap.size ∧ b ≠ p ∧ b ≠ g ∧ b ≠ gg ∧ M b ∧ (∀ f ∈ low, f.v.ownBlock ≠ some b) ∧ v.ownBlock ≠ some b := fun b hb => by
    rcases hv with e | ⟨c, e, hc⟩
    · rw [e] at hb; cases hb
    · rw [e] at hb; injection hb with hb; subst hb; exact hc
  have hwv : ∀ b, v'.ownBlock = some b → wf.heap[b]? = w2.heap[b]? := fun b hb => by
    obtain ⟨r1, r2, r3, r4, _⟩ := hvb b hb
    rw [hne b r2, h3 b r4]
  refine ⟨⟨?_, ?_, ⟨xs, ownsRow_below hk hwv, ?_⟩, ?_, h.tok.keep hfix hsame, ⟨hgp.symm, fun e => (hvb p e).2.1 rfl, fun e => (hvb gg e).2.2.2.1 rfl, ?_, ?_⟩, ⟨.inl m1, .inr rfl, fun b hb => .inl (hvb b hb).2.2.2.2.1, ?_⟩, h.rest, by show ch'.length + (s.gas - 1) ≤ 1000000; omega, by rw [List.length_append]; show low.length + 1 + (s.gas - 1) ≤ 1000000; omega, h.btok, h.asc.keep (hsame0 _ h.asc.lt h.ascM), hnm _ h.asc.lt h.ascM, ⟨by rw [hsz]; exact Nat.lt_of_lt_of_le h.hole.1 hg.size, hnm _ h.hole.1 h.hole.2⟩⟩,
    ⟨by rw [← hwf, ← hw3]; exact hg.os, by rw [← hwf, ← hw3]; exact hg.tape, by rw [← hwf, ← hw3]; exact hg.output, by rw [hsz]; exact hg.size, hsame0, fun b hb => ?_, rfl⟩⟩
  · have e : w3.heap[p]? = w.heap[p]? := (h3 p (fun e => hgp e.symm)).trans (hg.block p hplt (fun e => a1 (by injection e)))
    rw [← hwf]
    simp [World.setCell, Array.getElem?_modify, e, h.blk]
  · have r := ownsRow_below o3 (w' := wf) fun b hb => hne b (fun e => by subst e; simp [Value.ownBlock] at hb; exact hgp hb)
    simp only [List.length_append, List.length_singleton, List.flatMap_append, List.flatMap_cons, List.flatMap_nil, List.append_nil]
    exact r
  · refine RowV.keep (F := Fix w2 (Plus M gg)) (fun b hb => ⟨by rw [hsz]; exact hb.1, hb.2, hb.3⟩) (fun b hb => ?_) _ _ (hrow hfix2)
    rw [hne b (fun e => hb.2 (.inl (by rw [e]; exact m1))), h3 b (fun e => hb.2 (.inr e))]
  · intro f hf
    rcases List.mem_append.1 hf with hf | hf
    · exact hlow f hf
    · rw [List.mem_singleton] at hf; subst hf; exact htop
  · intro f hf
    rcases List.mem_append.1 hf with hf | hf
    · refine ⟨(a4 f hf).1, fun e => hlgg gg ((h.lows f hf).lt gg e) (fun e2 => (a4 f hf).2.1 (by rw [e, e2])) rfl, ?_⟩
      cases hfv : f.v.ownBlock with
      | none => exact .inl rfl
      | some b =>
        right
        intro e
        exact (hvb b e.symm).2.2.2.2.2.1 f hf hfv
    · rw [List.mem_singleton] at hf
      subst hf
      refine ⟨a2, fun e => hlgg gg (h.kids.lt gg e) (fun e2 => a3 (by rw [e, e2])) rfl, ?_⟩
      cases hfv : v.ownBlock with
      | none => exact .inl rfl
      | some b =>
        right
        intro e
        exact (hvb b e.symm).2.2.2.2.2.2 hfv
  · rw [List.pairwise_append]
    refine ⟨a5, List.pairwise_singleton _ _, fun a ha b hb => ?_⟩
    simp only [List.mem_singleton] at hb
    rw [hb]
    exact (a4 a ha).2.2
  · intro f hf b hb
    rcases List.mem_append.1 hf with hf | hf
    · exact .inl (m4 f hf b hb)
    · rw [List.mem_singleton] at hf; subst hf; exact .inl (m3 b hb)
  · rcases hb with hb | hb
    · exact .inl hb
    · subst hb
      rcases hat with e | e
      · subst e; exact .inl m2
      · exact .inr e
end Go.Proofs.YtpibenilagloaaaGreatDoor

namespace Go.Proofs.YtpibenilagloaaaGreatDoor
set_option linter.unusedVariables false
theorem add_gas {s s' : PS} {l : List Tree} (h : s.add l = some s') : s'.gas ≤ s.gas ∧ 0 < s'.gas ∧ s'.rest = s.rest ∧ s'.ch = s.ch ++ l ∧ s'.gas + l.length = s.gas := by
  unfold PS.add at h
  split at h
  · next hg => injection h with h; rw [← h]; refine ⟨Nat.sub_le _ _, ?_, rfl, rfl, ?_⟩ <;> show _ <;> simp only <;> omega
  · cases h
theorem run_gas : ∀ (n : Nat) (c : Cmd) (s s' : PS), run n c s = some s' → 0 < s.gas → s'.gas ≤ s.gas ∧ 0 < s'.gas
  | 0, c, s, s', h, _ => by simp [run] at h
  | n + 1, c, s, s', h, h0 => by
    have ih := run_gas n
    cases c with
    | skip => simp [run] at h; subst h; exact ⟨Nat.le_refl _, h0⟩
    | bump =>
      simp only [run] at h
      obtain ⟨u, hu, rfl⟩ := Option.map_eq_some_iff.1 h
      have := add_gas hu
      exact ⟨this.1, this.2.1⟩
    | trivia =>
      simp only [run] at h
      obtain ⟨u, hu, rfl⟩ := Option.map_eq_some_iff.1 h
      have := add_gas hu
      exact ⟨this.1, this.2.1⟩
    | leaf k =>
      simp only [run] at h
      have := add_gas h
      exact ⟨this.1, this.2.1⟩
    | node k c =>
      simp only [run] at h
      split at h
      · next hg =>
        obtain ⟨u, hu, rfl⟩ := Option.map_eq_some_iff.1 h
        have := ih _ _ _ hu (by show 0 < s.gas - 1; omega)
        exact ⟨Nat.le_trans this.1 (Nat.sub_le _ _), this.2⟩
      · cases h
    | wrap k c =>
      simp only [run] at h
      split at h
      · cases h
      · split at h
        · next hg =>
          obtain ⟨u, hu, rfl⟩ := Option.map_eq_some_iff.1 h
          have := ih _ _ _ hu (by show 0 < s.gas - 1; omega)
          exact ⟨Nat.le_trans this.1 (Nat.sub_le _ _), this.2⟩
        · cases h
    | seq c d =>
      simp only [run] at h
      obtain ⟨u, hu, hd⟩ := Option.bind_eq_some_iff.1 h
      have h1 := ih _ _ _ hu h0
      have h2 := ih _ _ _ hd h1.2
      exact ⟨Nat.le_trans h2.1 h1.1, h2.2⟩
    | ite t c d =>
      simp only [run] at h
      split at h
      · exact ih _ _ _ h h0
      · exact ih _ _ _ h h0
    | loop t c =>
      simp only [run] at h
      split at h
      · obtain ⟨u, hu, hd⟩ := Option.bind_eq_some_iff.1 h
        have h1 := ih _ _ _ hu h0
        have h2 := ih _ _ _ hd h1.2
        exact ⟨Nat.le_trans h2.1 h1.1, h2.2⟩
      · injection h with h; subst h; exact ⟨Nat.le_refl _, h0⟩
    | moved c d e =>
      simp only [run] at h
      obtain ⟨u, hu, hd⟩ := Option.bind_eq_some_iff.1 h
      have h1 := ih _ _ _ hu h0
      split at hd
      · have h2 := ih _ _ _ hd h1.2
        exact ⟨Nat.le_trans h2.1 h1.1, h2.2⟩
      · have h2 := ih _ _ _ hd h1.2
        exact ⟨Nat.le_trans h2.1 h1.1, h2.2⟩
    | dropLast =>
      simp only [run] at h
      split at h
      · cases h
      · injection h with h; subst h; exact ⟨Nat.le_refl _, h0⟩
    | insNone =>
      simp only [run] at h
      split at h
      · cases h
      · split at h
        · next hg =>
          injection h with h
          subst h
          exact ⟨Nat.sub_le _ _, by show 0 < s.gas - 1; omega⟩
        · cases h
    | setFlag b => simp only [run] at h; injection h with h; subst h; exact ⟨Nat.le_refl _, h0⟩
    | call f => simp only [run] at h; exact ih _ _ _ h h0

def R (n : Nat) (c : Cmd) (s s' : PS) : Prop := ∃ m, m < n ∧ run m c s = some s'
theorem R.suc {n : Nat} {c : Cmd} {s s' : PS} (h : R n c s s') : ∃ m, m + 1 < n ∧ run (m + 1) c s = some s' := by
  obtain ⟨m, h1, h2⟩ := h
  cases m with
  | zero => simp [run] at h2
  | succ m => exact ⟨m, h1, h2⟩
theorem R.gas {n : Nat} {c : Cmd} {s s' : PS} (h : R n c s s') (h0 : 0 < s.gas) : s'.gas ≤ s.gas ∧ 0 < s'.gas := by
  obtain ⟨m, h1, h2⟩ := h
  exact run_gas m c s s' h2 h0
theorem R.skip {n : Nat} {s s' : PS} (h : R n .skip s s') : s' = s := by
  obtain ⟨m, h1, h2⟩ := h.suc
  simp only [run, Option.some.injEq] at h2
  exact h2.symm
theorem R.bump {n : Nat} {s s' : PS} (h : R n .bump s s') : s.bump = some s' := by
  obtain ⟨m, h1, h2⟩ := h.suc
  simp only [run] at h2
  exact h2
theorem R.triv {n : Nat} {s s' : PS} (h : R n .trivia s s') : s.triv = some s' := by
  obtain ⟨m, h1, h2⟩ := h.suc
  simp only [run] at h2
  exact h2
theorem R.leaf {n : Nat} {k : Int} {s s' : PS} (h : R n (.leaf k) s s') : s.add [.mk k .empty []] = some s' := by
  obtain ⟨m, h1, h2⟩ := h.suc
  simp only [run] at h2
  exact h2
theorem R.node {n : Nat} {k : Int} {c : Cmd} {s s' : PS} (h : R n (.node k c) s s') : 1 < s.gas ∧ ∃ u, R n c { s with ch := [], gas := s.gas - 1 } u ∧ s' = { u with ch := s.ch ++ [.mk k .empty u.ch] } := by
  obtain ⟨m, h1, h2⟩ := h.suc
  simp only [run] at h2
  split at h2
  · next hg =>
    obtain ⟨u, hu, rfl⟩ := Option.map_eq_some_iff.1 h2
    exact ⟨hg, u, ⟨m, by omega, hu⟩, rfl⟩
  · cases h2
theorem R.wrap {n : Nat} {k : Int} {c : Cmd} {s s' : PS} (h : R n (.wrap k c) s s') : ∃ x, s.ch.getLast? = some x ∧ 1 < s.gas ∧ ∃ u, R n c { s with ch := [x], gas := s.gas - 1 } u ∧ s' = { u with ch := s.ch.dropLast ++ [.mk k .empty u.ch] } := by
  obtain ⟨m, h1, h2⟩ := h.suc
  simp only [run] at h2
  split at h2
  · cases h2
  · next x hx =>
    split at h2
    · next hg =>
      obtain ⟨u, hu, rfl⟩ := Option.map_eq_some_iff.1 h2
      exact ⟨x, hx, hg, u, ⟨m, by omega, hu⟩, rfl⟩
    · cases h2
theorem R.seq {n : Nat} {c d : Cmd} {s s' : PS} (h : R n (.seq c d) s s') : ∃ u, R n c s u ∧ R n d u s' := by
  obtain ⟨m, h1, h2⟩ := h.suc
  simp only [run] at h2
  obtain ⟨u, hu, h3⟩ := Option.bind_eq_some_iff.1 h2
  exact ⟨u, ⟨m, by omega, hu⟩, ⟨m, by omega, h3⟩⟩
theorem R.yes {n : Nat} {t : Test} {c d : Cmd} {s s' : PS} (h : R n (.ite t c d) s s') (ht : t.eval s.flag s.rest = true) : R n c s s' := by
  obtain ⟨m, h1, h2⟩ := h.suc
  simp only [run, ht, if_true] at h2
  exact ⟨m, by omega, h2⟩
theorem R.no {n : Nat} {t : Test} {c d : Cmd} {s s' : PS} (h : R n (.ite t c d) s s') (ht : t.eval s.flag s.rest = false) : R n d s s' := by
  obtain ⟨m, h1, h2⟩ := h.suc
  simp only [run, ht, Bool.false_eq_true, if_false] at h2
  exact ⟨m, by omega, h2⟩
def RL (n m : Nat) (t : Test) (c : Cmd) (s s' : PS) : Prop := m < n ∧ run m (.loop t c) s = some s'
theorem R.loop {n : Nat} {t : Test} {c : Cmd} {s s' : PS} (h : R n (.loop t c) s s') : ∃ m, RL n m t c s s' := by
  obtain ⟨m, h1, h2⟩ := h
  exact ⟨m, h1, h2⟩
theorem RL.yes {n m : Nat} {t : Test} {c : Cmd} {s s' : PS} (h : RL n m t c s s') (ht : t.eval s.flag s.rest = true) : ∃ k u, k < m ∧ R n c s u ∧ RL n k t c u s' := by
  obtain ⟨h1, h2⟩ := h
  cases m with
  | zero => simp [run] at h2
  | succ m =>
    simp only [run, ht, if_true] at h2
    obtain ⟨u, hu, h3⟩ := Option.bind_eq_some_iff.1 h2
    exact ⟨m, u, by omega, ⟨m, by omega, hu⟩, ⟨by omega, h3⟩⟩
theorem RL.no {n m : Nat} {t : Test} {c : Cmd} {s s' : PS} (h : RL n m t c s s') (ht : t.eval s.flag s.rest = false) : s' = s := by
  obtain ⟨h1, h2⟩ := h
  cases m with
  | zero => simp [run] at h2
  | succ m =>
    simp only [run, ht, Bool.false_eq_true, if_false, Option.some.injEq] at h2
    exact h2.symm
theorem R.moved {n : Nat} {c d e : Cmd} {s s' : PS} (h : R n (.moved c d e) s s') : ∃ u, R n c s u ∧ ((u.rest.length = s.rest.length ∧ R n d u s') ∨ (u.rest.length ≠ s.rest.length ∧ R n e u s')) := by
  obtain ⟨m, h1, h2⟩ := h.suc
  simp only [run] at h2
  obtain ⟨u, hu, h3⟩ := Option.bind_eq_some_iff.1 h2
  refine ⟨u, ⟨m, by omega, hu⟩, ?_⟩
  split at h3
  · next hl => exact .inl ⟨hl, m, by omega, h3⟩
  · next hl => exact .inr ⟨hl, m, by omega, h3⟩
theorem R.dropLast {n : Nat} {s s' : PS} (h : R n .dropLast s s') : s.ch ≠ [] ∧ s' = { s with ch := s.ch.dropLast } := by
  obtain ⟨m, h1, h2⟩ := h.suc
  simp only [run] at h2
  split at h2
  · cases h2
  · next a b hx => injection h2 with h2; exact ⟨by rw [hx]; simp, h2.symm⟩
theorem R.insNone {n : Nat} {s s' : PS} (h : R n .insNone s s') : ∃ x, s.ch.getLast? = some x ∧ 1 < s.gas ∧ s' = { s with ch := s.ch.dropLast ++ [.mk 0 .empty [], x], gas := s.gas - 1 } := by
  obtain ⟨m, h1, h2⟩ := h.suc
  simp only [run] at h2
  split at h2
  · cases h2
  · next x hx =>
    split at h2
    · next hg => injection h2 with h2; exact ⟨x, hx, hg, h2.symm⟩
    · cases h2
theorem R.setFlag {n : Nat} {b : Bool} {s s' : PS} (h : R n (.setFlag b) s s') : s' = { s with flag := b } := by
  obtain ⟨m, h1, h2⟩ := h.suc
  simp only [run, Option.some.injEq] at h2
  exact h2.symm
theorem R.call {n : Nat} {f : Fn} {s s' : PS} (h : R (n + 1) (.call f) s s') : R n (body f) s s' := by
  obtain ⟨m, h1, h2⟩ := h.suc
  simp only [run] at h2
  exact ⟨m, by omega, h2⟩
theorem R.accept {n : Nat} {ts : List ByteArray} {s s' : PS} (h : R n (Cmd.accept ts) s s') : (if atB ts s.rest then s.bump else some s) = some s' := by
  unfold Cmd.accept at h
  cases ht : atB ts s.rest
  · rw [(h.no ht).skip]; rfl
  · exact (h.yes ht).bump
theorem R.expect {n : Nat} {t : ByteArray} {s s' : PS} (h : R n (Cmd.expect t) s s') : (if atB [t] s.rest then s.bump else s.add [.mk 108 .empty []]) = some s' := by
  unfold Cmd.expect at h
  cases ht : atB [t] s.rest
  · exact (h.no ht).leaf
  · exact (h.yes ht).bump
theorem R.expectIdent {n : Nat} {s s' : PS} (h : R n Cmd.expectIdent s s') : (if (peekT s.rest).k == 103 then s.bump else s.add [.mk 108 .empty []]) = some s' := by
  unfold Cmd.expectIdent at h
  cases ht : (peekT s.rest).k == 103
  · exact (h.no ht).leaf
  · exact (h.yes ht).bump
theorem R.optional {n : Nat} {t : ByteArray} {c : Cmd} {s s' : PS} (h : R n (Cmd.optional t c) s s') : (atB [t] s.rest = true → ∃ u, s.bump = some u ∧ R n c u s') ∧ (atB [t] s.rest = false → s.add [.mk 0 .empty []] = some s') := by
  unfold Cmd.optional at h
  refine ⟨fun ht => ?_, fun ht => (h.no ht).leaf⟩
  obtain ⟨u, h1, h2⟩ := (h.yes ht).seq
  exact ⟨u, h1.bump, h2⟩
end Go.Proofs.YtpibenilagloaaaGreatDoor
