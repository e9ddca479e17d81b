import Derived.Test.YtpibenilagloaaaGreatDoorMzae
import Derived.Test.YtpibenilagloaaaGreatDoorMzbb
import Derived.Test.YtpibenilagloaaaGreatDoorMzad
import Derived.Test.YtpibenilagloaaaGreatDoorMzac
namespace Go.Proofs.YtpibenilagloaaaGreatDoor
open Go.RowKit
set_option linter.unusedVariables false
theorem ofL_size (l : List UInt8) : (ofL l).size = l.length := rfl
theorem ofL_list (l : List UInt8) : (ofL l).data.toList = l := rfl
theorem data_len (t : ByteArray) : t.data.toList.length = t.size := rfl
theorem info_tok : (Tryz.prog.info? 142).map (fun i => (i.zero, i.size, i.bytes)) = some (some (.agg #[.int .i64 0, .string ⟨#[]⟩]), 2, 24) := by kernel_rfl
def TokPost (w : World) (ts : List Tok) (e : Ending) (w' : World) : Prop := ∃ A c, e = .returned (.tuple #[.slice A ts.length c, .int .i64 0]) ∧ ToksAt w' (fun b => w.heap.size ≤ b ∧ b < w'.heap.size) A ts ∧ Below w.heap.size w w'
set_option maxRecDepth 100000 in
set_option maxHeartbeats 3200000 in
theorem tokenize_any (s : ByteArray) (w : World) (hA : AscAt w) (hs : s.size ≤ 2000) :
    Calls Tryz.prog 59 #[.string s] w (TokPost w (tokensL s.data.toList)) := by
  generalize hT : tokensL s.data.toList = T
  have HT := Lib.hid hT
  clear hT
  have hI : ¬ ((2000 : Int) < s.size) := by omega
  go_enter Tryz.func59, Tryz.ntmps59
  go_wp2_with fail
  go_loopg [0, 4] s.size (fun gk v0 v4 wr => ∃ (t : ByteArray) (acc : List Tok), v0 = .string t ∧ t.size = gk ∧ gk ≤ 2000 ∧ wr.ownsRow w.heap.size 142 2 v4 acc.length (tokCells acc) ∧ Below w.heap.size w wr ∧ Hid (acc ++ tokensL t.data.toList = T) ∧ acc.length + t.size ≤ 2000)
  case atStart => exact ⟨s, [], rfl, rfl, hs, World.ownsRow_nil _ _ _ _, Below.refl _ _, HT, by simpa using hs⟩
  case round =>
    obtain ⟨t, acc, rfl, hgk, hg2, hown, hbel, hr, hacc⟩ := hrel
    by_cases h0 : 0 < t.size
    · have h0I : (0 : Int) < t.size := by omega
      have hl := Lib.hid (data_len t)
      have hne : t.data.toList ≠ [] := by intro e; have := hl.out; rw [e] at this; simp at this; omega
      have hbd := firstL_bd _ hne
      have hcons := tokensL_cons _ hne
      have HC := Lib.hid (first_any t wr (hA.below (hbel.mono (Nat.le_refl _))) (by omega) h0)
      have HX1 := Lib.hid (extract_take t (firstL t.data.toList).1)
      have HX2 := Lib.hid (extract_rest t (firstL t.data.toList).1)
      rw [hl.out] at hbd
      generalize (firstL t.data.toList).1 = n at *
      generalize (firstL t.data.toList).2 = kd at *
      have HR := Lib.hid (show (acc ++ [(⟨kd, ofL (t.data.toList.take n)⟩ : Tok)]) ++ tokensL (t.data.toList.drop n) = T by rw [← hr.out, hcons]; simp)
      obtain ⟨hb1, hb2⟩ := hbd
      have hnI : (n : Int) ≤ t.size := by omega
      have hn0 : (0 : Int) ≤ n := by omega
      have HGK := Lib.hid hgk
      clear hr hcons hne hgk
      go_wp2_with fail
      refine HC.out.mono ?_
      rintro e w2 ⟨rfl, hb⟩
      have hown2 := own_below' hown hb
      have hbel2 := hbel.trans (hb.mono hbel.size)
      clear hown hb HC
      have hB := hbel2.size
      go_wp2_with (at_builtin; refine wpList_append_lit rfl (.tmp 18) (.tmp 24) _ rfl w.heap.size 142 _ 2 24 Tryz.underlying136 info_tok rfl (by decide) _ _ _ rfl hown2 1 1 [.int .i64 kd, .string (t.extract 0 n)] rfl rfl ?c2 ?c3 ?c4 hB ?_)
      case c2 => simp [Value.oneCell']
      case c3 => simp only [maxLen]; omega
      case c4 => omega
      intro v5 w5 hown5 hg5 hat5
      have hb5 := grown_below hbel2 hbel2.size hown2 hg5
      have hown6 : w5.ownsRow w.heap.size 142 2 v5 (acc ++ [(⟨kd, ofL (t.data.toList.take n)⟩ : Tok)]).length (tokCells (acc ++ [(⟨kd, ofL (t.data.toList.take n)⟩ : Tok)])) := by
        rw [tokCells_snoc, List.length_append, ← HX1.out]
        exact hown5
      have hsz : (t.extract n t.size).size = t.size - n := by rw [HX2.out, ofL_size, List.length_drop, hl.out]
      have HSZ := Lib.hid hsz
      have HLS := Lib.hid (show (t.extract n t.size).data.toList = t.data.toList.drop n by rw [HX2.out, ofL_list])
      clear hown5 hg5 hat5 hbel2 hown2 hsz
      go_wp2_with fail
      go_roundg (t.size - n)
      case rel => exact ⟨t.extract n t.size, _, rfl, HSZ.out, by omega, hown6, hb5, by rw [HLS.out]; exact HR, by rw [HSZ.out, List.length_append, List.length_singleton]; omega⟩
      case measure => have := HGK.out; omega
    · have h0I : ¬ ((0 : Int) < t.size) := by omega
      have hl : t.data.toList = [] := List.eq_nil_of_length_eq_zero (by rw [data_len]; omega)
      have HR := Lib.hid (show acc = T by rw [← hr.out, hl]; simp [tokensL, tokensG])
      obtain ⟨A, c, rfl, hto⟩ := toks_of_own hown
      clear hr hl hgk
      go_wp2_with fail
      go_ret2
      rw [← HR.out]
      exact ⟨A, c, rfl, hto, hbel⟩

def PrsPost (w : World) (t : Tree) (e : Ending) (w' : World) : Prop := ∃ v, e = .returned (.tuple #[.agg #[.int .i64 t.k, .string t.t, v], .int .i64 0]) ∧ TreeV w' (fun b => b < w'.heap.size) t (.int .i64 t.k) (.string t.t) v ∧ Below w.heap.size w w'
theorem PAt.tree {w : World} {p : Nat} {M : MM} {toks : List Tok} {kind : Int} {s : PS} (h : PAt w p M toks [] kind s) : ∃ g cap v, w.cell? ⟨p, 2, none⟩ = some (.slice (some ⟨g, 0, none⟩) 1 cap) ∧ w.cell? ⟨g, 0, none⟩ = some (.int .i64 kind) ∧ w.cell? ⟨g, 1, none⟩ = some (.string .empty) ∧ w.cell? ⟨g, 2, none⟩ = some v ∧ g < w.heap.size ∧ p < w.heap.size ∧ 1 ≤ cap ∧ TreeV w (fun b => b < w.heap.size ∧ b ≠ M.x) (.mk kind .empty s.ch) (.int .i64 kind) (.string .empty) v := by
  obtain ⟨g, cap, v, At, ct, hX⟩ := h
  obtain ⟨d0, d1, d2⟩ := hX.top
  simp only [List.length_nil, Nat.zero_mul, Nat.zero_add] at d0 d1 d2
  have hcap : 1 ≤ cap := by
    rcases hX.row.2 with ⟨h', _⟩ | ⟨g', cap', cur, h', hb, hg, hnc, _⟩
    · simp at h'
    · simp only [Value.slice.injEq, Option.some.injEq, Addr.mk.injEq, and_true, true_and] at h'
      obtain ⟨_, rfl⟩ := h'
      exact hnc
  refine ⟨g, cap, v, hX.cells.2.2, d0, d1, d2, (hX.row.lt g rfl).2, lt_of_heap hX.blk, hcap, ?_⟩
  obtain ⟨xs, hown, hrow⟩ := hX.kids
  have hrow2 : RowV w (fun b => b < w.heap.size ∧ b ≠ M.x) xs s.ch := RowV.keep (fun b hb => ⟨hb.1, hb.3⟩) (fun _ _ => rfl) _ _ hrow
  unfold TreeV
  refine ⟨rfl, rfl, ?_⟩
  rcases hown.2 with ⟨hv, h0⟩ | ⟨b, c, cur, hv, _, hh, _⟩
  · exact ⟨none, 0, by rw [h0]; exact hv, .inl (List.eq_nil_of_length_eq_zero h0)⟩
  · refine ⟨_, _, hv, .inr ⟨b, rfl, ⟨lt_of_heap hh, fun e => hX.hole.2 (by rw [← e]; exact hX.mine.2.2.1 b (by rw [hv]; rfl))⟩, RowV.trees b xs _ 0 hrow2 fun j u hu => ?_⟩⟩
    rw [Nat.zero_add, ← addr0]
    exact hown.cells (by rw [hv]; rfl) j u hu
theorem results_cell_slot {P : Program} {fn : Func} {p q : Tmp} {ty : TypeId} (h : fn.results = #[.cell p ty, .tmp q]) (tmps : Array Value) (w : World) (g : Nat) (t : TypeId) (cs : Array Value) (fr : Nat × Nat) (d : TypeDesc) (u : Value)
    (hp : tmps.getD p undef = .pointer (some ⟨g, 0, none⟩)) (hq : tmps.getD q undef = u) (hg : w.heap[g]? = some (.cells cs t fr))
    (hu : P.underlying ty = some d) (hd : (match d with | .struct _ | .array _ _ => true | _ => false) = true) (hi : (P.info? ty).map (·.size) = some cs.size) :
    (results fn tmps).run P w = .ok (.tuple #[.agg cs, u]) w := by
  have hp' : tmps[p]?.getD undef = .pointer (some ⟨g, 0, none⟩) := by simpa using hp
  have hq' : tmps[q]?.getD undef = u := by simpa using hq
  simp [results, h, hp', hq', asAddr, run_loadVar_row w g t ty cs fr d hg hu hd hi]
theorem tokensG_length : ∀ (n : Nat) (l : List UInt8), (tokensG n l).length ≤ n
  | 0, _ => Nat.le_refl _
  | n + 1, l => by
    unfold tokensG
    split
    · simp
    · rw [List.length_cons]; exact Nat.succ_le_succ (tokensG_length n _)
theorem tokensL_length (l : List UInt8) : (tokensL l).length ≤ l.length := tokensG_length _ _
def Hl (b : Nat) (o : Obj) : WE := fun w M => w.heap[b]? = some o ∧ ¬ M b ∧ M.x = b
theorem Hl.stays (b : Nat) (o : Obj) : Stays (Hl b o) := fun w M w' M' h hs => by
  have hlt : b < w.heap.size := (Array.getElem?_eq_some_iff.1 h.1).1
  exact ⟨(hs.block b hlt h.2.1).trans h.1, fun hm => (hs.own b hm).elim h.2.1 (fun h2 => by omega), hs.hx.trans h.2.2⟩
theorem Cx.triv {c : Cx} {w : World} {s s' : PS} (h : c.At w s) (hs : s.triv = some s') : CallsAt c 86 #[.pointer (some ⟨c.p, 0, none⟩)] w (.tuple #[]) s' := by
  obtain ⟨hE, M, h1, h2, h3⟩ := h
  exact (skipTrivia_any w c.p M c.toks c.low c.kind s s' h1 hs).mono fun e w' ⟨k1, k2⟩ => ⟨k1, Cx.At.next hE h2 h3 k2⟩
set_option maxRecDepth 100000 in
set_option maxHeartbeats 1600000 in
theorem parse_any (s : ByteArray) (w : World) (hA : AscAt w) (hs : s.size ≤ 2000) (n : Nat) (u : PS) (hu : run n fileC ⟨tokensL s.data.toList, [], false, 600000⟩ = some u) :
    Calls Tryz.prog 50 #[.string s] w (PrsPost w (.mk 1 .empty u.ch)) := by
  have HB := Lib.hid (show Below w.heap.size w (w.alloc (.cells #[.int .i64 0, .string ⟨#[]⟩, .slice none 0 0] 121)) from (Below.refl _ _).alloc (Nat.le_refl _) _)
  have hR : R (n + 1) fileC ⟨tokensL s.data.toList, [], false, 600000⟩ u := ⟨n, Nat.lt_succ_self _, hu⟩
  obtain ⟨u1, r1, r2⟩ := R.seq hR
  have hl := tokensL_length s.data.toList
  have hsz : s.data.toList.length = s.size := Array.length_toList
  rw [hsz] at hl
  have HU := Lib.hid r2.triv
  have HR := Lib.hid r1
  have hcall := Lib.hid (tokenize_any s (w.alloc (.cells #[.int .i64 0, .string ⟨#[]⟩, .slice none 0 0] 121)) (hA.below HB.out) hs)
  clear hu hR r1 r2
  generalize tokensL s.data.toList = T at *
  have HA := Lib.hid hA
  clear hA
  go_enter Tryz.func50, Tryz.ntmps50
  go_wp2_with fail
  refine hcall.out.mono ?_
  rintro e w1 ⟨A, ct, rfl, htok, hb1⟩
  have HT := Lib.hid htok
  have HB1 := Lib.hid hb1
  have hz1 : w.heap.size < w1.heap.size := by have := hb1.size; simp at this; omega
  clear htok hb1 hcall
  go_wp2_with fail
  generalize hW : ((w1.alloc (.cells #[.int .i64 1, .string ⟨#[]⟩, .slice none 0 0] 121)).alloc (.cells #[.slice A T.length ct, .int .i64 0, .slice (some ⟨w1.heap.size, 0, none⟩) 1 1] 176)) = W
  have hWz : W.heap.size = w1.heap.size + 2 := by rw [← hW]; simp
  have hBW : Below w1.heap.size w1 W := by rw [← hW]; exact ((Below.refl _ _).alloc (Nat.le_refl _) _).alloc (by simp) _
  have n0 : W.heap[w1.heap.size]? = some (.cells #[.int .i64 1, .string ⟨#[]⟩, .slice none 0 0] 121 (0, 0)) := by
    rw [← hW]
    rw [heap_alloc_lt _ _ (by simp)]
    exact heap_alloc_new _ _
  have n1 : W.heap[w1.heap.size + 1]? = some (.cells #[.slice A T.length ct, .int .i64 0, .slice (some ⟨w1.heap.size, 0, none⟩) 1 1] 176 (0, 0)) := by
    rw [← hW]
    have := heap_alloc_new (w1.alloc (.cells #[.int .i64 1, .string ⟨#[]⟩, .slice none 0 0] 121)) (.cells #[.slice A T.length ct, .int .i64 0, .slice (some ⟨w1.heap.size, 0, none⟩) 1 1] 176)
    simp only [World.size_alloc] at this
    exact this
  have hAw : AscAt W := ((HA.out.below HB.out).below HB1.out).below hBW
  have hAlt := HA.out.lt
  have e0 : (w.alloc (.cells #[.int .i64 0, .string ⟨#[]⟩, .slice none 0 0] 121)).heap.size = w.heap.size + 1 := by simp
  have hrb : W.heap[w.heap.size]? = some (.cells #[.int .i64 0, .string ⟨#[]⟩, .slice none 0 0] 121 (0, 0)) := by
    rw [hBW.block _ hz1, HB1.out.block _ (by omega)]
    exact heap_alloc_new _ _
  have hQ := fresh_at T (List.suffix_refl T) 1 n0 (by rw [Nat.sub_self]; exact n1) (by omega) w.heap.size (by omega) (F := fun b => w.heap.size + 1 ≤ b ∧ b < w1.heap.size) (fun b hb => by have := hb.1; have := hb.2; omega)
    (HT.out.keep (fun b hb => ⟨by rw [← e0]; exact hb.1, hb.2⟩) (fun b hb => hBW.block b hb.2)) (by omega) hAw (by omega) (by omega)
  have h0 : (⟨Hl w.heap.size (.cells #[.int .i64 0, .string ⟨#[]⟩, .slice none 0 0] 121 (0, 0)), w1.heap.size + 1, T, [], 1, _, W⟩ : Cx).At W ⟨T, [], false, 600000⟩ :=
    ⟨Hl.stays _ _, _, ⟨_, _, _, _, _, hQ⟩, Step.refl _ _, hrb, hQ.hole.2, rfl⟩
  have HBW := Lib.hid (show Below w.heap.size w W from (HB.out.trans (HB1.out.mono (by omega))).trans (hBW.mono (by omega)))
  clear hW n0 n1 hAw hAlt hrb hQ hBW HT HA
  obtain ⟨m, hloop⟩ := R.loop HR.out
  clear HR
  generalize hc : (⟨Hl w.heap.size (.cells #[.int .i64 0, .string ⟨#[]⟩, .slice none 0 0] 121 (0, 0)), w1.heap.size + 1, T, [], 1, _, W⟩ : Cx) = c at h0
  have hcp : c.p = w1.heap.size + 1 := by rw [← hc]
  have HC := Lib.hid hc
  clear hc
  go_loopg [] m (fun gk wr => ∃ s1, c.At wr s1 ∧ RL (n + 1) gk (.not Cmd.eof) (.call .item) s1 u1)
  case atStart => exact ⟨_, h0, hloop⟩
  case round =>
    clear h0 hloop
    obtain ⟨s1, h1, hl1⟩ := hrel
    go_wp2_with fail
    have q1 := Cx.eof h1
    rw [hcp] at q1
    refine q1.mono ?_
    rintro e w2 ⟨rfl, h2⟩
    clear q1 h1
    cases ht : (peekT s1.rest).k == 100
    · obtain ⟨k, v, hk, hc, hl2⟩ := hl1.yes (by simp only [Test.eval, Cmd.eof, ht]; rfl)
      have HT := Lib.hid ht
      clear ht hl1
      go_wp2_with fail
      have q2 := Cx.fn .item (all_ok _ _ _) h2 hc True.intro
      rw [hcp] at q2
      refine q2.mono ?_
      rintro e w3 ⟨rfl, h3⟩
      clear q2 h2 hc
      go_wp2_with fail
      go_roundg k
      case rel => exact ⟨v, h3, hl2⟩
      case measure => exact hk
    · have hz := Lib.hid (hl1.no (by simp only [Test.eval, Cmd.eof, ht]; rfl))
      have HT := Lib.hid ht
      clear ht hl1
      go_wp2_with fail
      have h3 := h2.eq hz.out
      have q2 := Cx.triv h3 HU.out
      rw [hcp] at q2
      refine q2.mono ?_
      rintro e w3 ⟨rfl, h4⟩
      clear q2 h2 h3 hz HU
      obtain ⟨hE, M, h5, h6, h7⟩ := h4
      have HC2 := HC.out
      clear HC hcp
      subst HC2
      simp only at h5 h6 h7
      obtain ⟨g, cap, v, d, d0, d1, d2, hg, hp, hcap, ht⟩ := h5.tree
      have e1 : M.x = w.heap.size := h7.2.2
      have hr : w3.heap[w.heap.size]? = some (.cells #[.int .i64 0, .string ⟨#[]⟩, .slice none 0 0] 121 (0, 0)) := h7.1
      have hbw : Below w.heap.size w w3 := ⟨h6.os.trans HBW.out.os, h6.tape.trans HBW.out.tape, h6.output.trans HBW.out.output, Nat.le_trans HBW.out.size h6.size, fun b hb =>
        (h6.block b (by omega) (by intro h; rcases h with h | h <;> omega)).trans (HBW.out.block b hb)⟩
      rw [e1] at ht
      obtain ⟨A3, n3, c3, rfl⟩ : ∃ A3 n3 c3, v = .slice A3 n3 c3 := by
        unfold TreeV at ht
        obtain ⟨_, _, A3, c3, h3, _⟩ := ht
        exact ⟨A3, _, c3, h3⟩
      have hne : g ≠ w.heap.size := by
        intro e
        rw [e, Lib.cell_of_heap hr] at d0
        simp at d0
      have HBW3 := Lib.hid hbw
      have HT3 := Lib.hid ht
      have hc0 : w3.cell? ⟨w.heap.size, 0, none⟩ = some (.int .i64 0) := by rw [Lib.cell_of_heap hr]; rfl
      have hc1 : w3.cell? ⟨w.heap.size, 1, none⟩ = some (.string ⟨#[]⟩) := by rw [Lib.cell_of_heap hr]; rfl
      have hc2 : w3.cell? ⟨w.heap.size, 2, none⟩ = some (.slice none 0 0) := by rw [Lib.cell_of_heap hr]; rfl
      have hf0 : w3.frozen? ⟨w.heap.size, 0, none⟩ = false := Lib.frozen_of_heap hr 0
      have hf1 : w3.frozen? ⟨w.heap.size, 1, none⟩ = false := Lib.frozen_of_heap hr 1
      have hf2 : w3.frozen? ⟨w.heap.size, 2, none⟩ = false := Lib.frozen_of_heap hr 2
      have hrlt := lt_of_heap hr
      have HRR := Lib.hid hr
      clear hE h5 h6 h7 ht hbw HBW hr
      go_wp2_with fail
      generalize hWf : ((w3.setCell ⟨w.heap.size, 0, none⟩ (.int .i64 1)).setCell ⟨w.heap.size, 1, none⟩ (.string ByteArray.empty)).setCell ⟨w.heap.size, 2, none⟩ (.slice A3 n3 c3) = Wf
      have hfar : ∀ b, b ≠ w.heap.size → Wf.heap[b]? = w3.heap[b]? := fun b hb => by
        rw [← hWf, Below.heap_setCell _ _ _ _ hb, Below.heap_setCell _ _ _ _ hb, Below.heap_setCell _ _ _ _ hb]
      have hWfz : Wf.heap.size = w3.heap.size := by rw [← hWf]; simp
      have hrf : Wf.heap[w.heap.size]? = some (.cells #[.int .i64 1, .string ByteArray.empty, .slice A3 n3 c3] 121 (0, 0)) := by
        rw [← hWf]
        simp [World.setCell, Array.getElem?_modify, HRR.out]
      refine bodyPost_ret (results_cell_slot (P := Tryz.prog) (ty := 121) rfl _ _ w.heap.size 121 _ _ _ (.int .i64 0) rfl rfl hrf Tryz.underlying121 rfl (by kernel_rfl)) rfl ?_
      refine ⟨_, rfl, ?_, ?_⟩
      · exact TreeV.keep (fun b hb => by rw [hWfz]; exact hb.1) (fun b hb => hfar b hb.2) _ _ _ _ HT3.out
      · have hb := HBW3.out
        exact ⟨by rw [← hWf]; exact hb.os, by rw [← hWf]; exact hb.tape, by rw [← hWf]; exact hb.output, by rw [hWfz]; exact hb.size, fun b hlt => (hfar b (by omega)).trans (hb.block b hlt)⟩
end Go.Proofs.YtpibenilagloaaaGreatDoor

namespace Go.Proofs.YtpibenilagloaaaGreatDoor
set_option linter.unusedVariables false
inductive Fact where
  | any | ne | lb
deriving DecidableEq
def Fact.Holds : Fact → List Tok → Prop
  | .any, _ => True
  | .ne, r => sig r ≠ []
  | .lb, r => atB [pLb] r = true
structure TEnt where
  rank : Nat
  k0 : Option Int
  k1 : Option Int
  needs : Bool
  gives : Bool
structure Res where
  k0 : Option Int
  k1 : Option Int
  nz : Bool
  f0 : Bool
def oadd : Option Int → Option Int → Option Int
  | some a, some b => some (a + b)
  | _, _ => none
def omax : Option Int → Option Int → Option Int
  | some a, some b => some (max a b)
  | some a, none => some a
  | none, b => b
def cA : Int := 200

def stepR (g : Cmd → PS → Option PS) (c : Cmd) (s : PS) : Option PS := match c with
    | .skip => some s
    | .bump => (s.add ((taken s.rest).map Tok.leaf)).map fun u => { u with rest := after s.rest }
    | .trivia => (s.add ((trivs s.rest).map Tok.leaf)).map fun u => { u with rest := sig s.rest }
    | .leaf k => s.add [.mk k .empty []]
    | .node k c => if 1 < s.gas then (g c { s with ch := [], gas := s.gas - 1 }).map fun u => { u with ch := s.ch ++ [.mk k .empty u.ch] } else none
    | .wrap k c => match s.ch.getLast? with
      | none => none
      | some x => if 1 < s.gas then (g c { s with ch := [x], gas := s.gas - 1 }).map fun u => { u with ch := s.ch.dropLast ++ [.mk k .empty u.ch] } else none
    | .seq c d => (g c s).bind fun u => g d u
    | .ite t c d => if t.eval s.flag s.rest then g c s else g d s
    | .loop t c => if t.eval s.flag s.rest then (g c s).bind fun u => g (.loop t c) u else some s
    | .moved c d e => (g c s).bind fun u => if u.rest.length = s.rest.length then g d u else g e u
    | .dropLast => match s.ch with
      | [] => none
      | _ :: _ => some { s with ch := s.ch.dropLast }
    | .insNone => match s.ch.getLast? with
      | none => none
      | some x => if 1 < s.gas then some { s with ch := s.ch.dropLast ++ [.mk 0 .empty [], x], gas := s.gas - 1 } else none
    | .setFlag b => some { s with flag := b }
    | .call f => g (body f) s
theorem run_step (n : Nat) (c : Cmd) (s : PS) : run (n + 1) c s = stepR (run n) c s := by cases c <;> rfl
theorem stepR_mono {g h : Cmd → PS → Option PS} (H : ∀ c s u, g c s = some u → h c s = some u) (c : Cmd) (s u : PS) (e : stepR g c s = some u) : stepR h c s = some u := by
  cases c with
  | node k c =>
    simp only [stepR] at e ⊢
    split at e
    · next hg =>
      rw [if_pos hg]
      obtain ⟨v, hv, rfl⟩ := Option.map_eq_some_iff.1 e
      rw [H _ _ _ hv]; rfl
    · cases e
  | wrap k c =>
    simp only [stepR] at e ⊢
    split at e
    · cases e
    · next x hx =>
      split at e
      · next hg =>
        simp only [if_pos hg]
        obtain ⟨v, hv, rfl⟩ := Option.map_eq_some_iff.1 e
        rw [H _ _ _ hv]; rfl
      · cases e
  | seq c d =>
    simp only [stepR] at e ⊢
    obtain ⟨v, hv, hd⟩ := Option.bind_eq_some_iff.1 e
    rw [H _ _ _ hv]
    exact H _ _ _ hd
  | ite t c d =>
    simp only [stepR] at e ⊢
    split at e
    · next ht => rw [if_pos ht]; exact H _ _ _ e
    · next ht => rw [if_neg ht]; exact H _ _ _ e
  | loop t c =>
    simp only [stepR] at e ⊢
    split at e
    · next ht =>
      rw [if_pos ht]
      obtain ⟨v, hv, hd⟩ := Option.bind_eq_some_iff.1 e
      rw [H _ _ _ hv]
      exact H _ _ _ hd
    · next ht => rw [if_neg ht]; exact e
  | moved c d f =>
    simp only [stepR] at e ⊢
    obtain ⟨v, hv, hd⟩ := Option.bind_eq_some_iff.1 e
    rw [H _ _ _ hv]
    simp only [Option.bind_some]
    split at hd
    · next ht => rw [if_pos ht]; exact H _ _ _ hd
    · next ht => rw [if_neg ht]; exact H _ _ _ hd
  | call f => exact H _ _ _ e
  | _ => exact e
theorem run_suc : ∀ (n : Nat) (c : Cmd) (s u : PS), run n c s = some u → run (n + 1) c s = some u
  | 0, c, s, u, h => by simp [run] at h
  | n + 1, c, s, u, h => by
    rw [run_step] at h ⊢
    exact stepR_mono (run_suc n) c s u h
theorem run_le {n m : Nat} (h : n ≤ m) {c : Cmd} {s u : PS} (e : run n c s = some u) : run m c s = some u := by
  induction h with
  | refl => exact e
  | step _ ih => exact run_suc _ _ _ _ ih
def Runs (c : Cmd) (s u : PS) (k : Nat) : Prop := ∃ n, ∀ g, run n c { s with gas := g + k + 1 } = some { u with gas := g + 1 }
theorem Runs.seq {c d : Cmd} {s u v : PS} {k l : Nat} (h : Runs c s u k) (h2 : Runs d u v l) : Runs (.seq c d) s v (k + l) := by
  obtain ⟨n, h⟩ := h
  obtain ⟨m, h2⟩ := h2
  refine ⟨max n m + 1, fun g => ?_⟩
  have a := run_le (Nat.le_max_left n m) (h (g + l))
  have b := run_le (Nat.le_max_right n m) (h2 g)
  rw [run_step, show g + (k + l) + 1 = g + l + k + 1 by omega]
  simp only [stepR, a, Option.bind_some]
  exact b
theorem Runs.ite {t : Test} {c d : Cmd} {s u : PS} {k : Nat} (h : Runs (if t.eval s.flag s.rest then c else d) s u k) : Runs (.ite t c d) s u k := by
  obtain ⟨n, h⟩ := h
  refine ⟨n + 1, fun g => ?_⟩
  rw [run_step]
  have a := h g
  simp only [stepR]
  split at a
  · next ht => rw [if_pos ht]; exact a
  · next ht => rw [if_neg ht]; exact a
theorem Runs.call {f : Fn} {s u : PS} {k : Nat} (h : Runs (body f) s u k) : Runs (.call f) s u k := by
  obtain ⟨n, h⟩ := h
  exact ⟨n + 1, fun g => by rw [run_step]; exact h g⟩
theorem Runs.node {i : Int} {c : Cmd} {s u : PS} {k : Nat} (h : Runs c { s with ch := [] } u k) : Runs (.node i c) s { u with ch := s.ch ++ [.mk i .empty u.ch] } (k + 1) := by
  obtain ⟨n, h⟩ := h
  refine ⟨n + 1, fun g => ?_⟩
  rw [run_step]
  have a := h g
  simp only [stepR]
  rw [if_pos (by omega), show g + (k + 1) + 1 - 1 = g + k + 1 by omega, a]
  rfl
theorem Runs.wrap {i : Int} {c : Cmd} {s u : PS} {k : Nat} {x : Tree} (hx : s.ch.getLast? = some x) (h : Runs c { s with ch := [x] } u k) : Runs (.wrap i c) s { u with ch := s.ch.dropLast ++ [.mk i .empty u.ch] } (k + 1) := by
  obtain ⟨n, h⟩ := h
  refine ⟨n + 1, fun g => ?_⟩
  rw [run_step]
  have a := h g
  simp only [stepR, hx]
  rw [if_pos (by omega), show g + (k + 1) + 1 - 1 = g + k + 1 by omega, a]
  rfl
theorem Runs.moved {c d e : Cmd} {s u v : PS} {k l : Nat} (h : Runs c s u k) (h2 : Runs (if u.rest.length = s.rest.length then d else e) u v l) : Runs (.moved c d e) s v (k + l) := by
  obtain ⟨n, h⟩ := h
  obtain ⟨m, h2⟩ := h2
  refine ⟨max n m + 1, fun g => ?_⟩
  have a := run_le (Nat.le_max_left n m) (h (g + l))
  have b := run_le (Nat.le_max_right n m) (h2 g)
  rw [run_step, show g + (k + l) + 1 = g + l + k + 1 by omega]
  simp only [stepR, a, Option.bind_some]
  split at b
  · next ht => rw [if_pos ht]; exact b
  · next ht => rw [if_neg ht]; exact b
theorem Runs.yes {t : Test} {c : Cmd} {s u v : PS} {k l : Nat} (ht : t.eval s.flag s.rest = true) (h : Runs c s u k) (h2 : Runs (.loop t c) u v l) : Runs (.loop t c) s v (k + l) := by
  obtain ⟨n, h⟩ := h
  obtain ⟨m, h2⟩ := h2
  refine ⟨max n m + 1, fun g => ?_⟩
  have a := run_le (Nat.le_max_left n m) (h (g + l))
  have b := run_le (Nat.le_max_right n m) (h2 g)
  rw [run_step, show g + (k + l) + 1 = g + l + k + 1 by omega]
  simp only [stepR]
  rw [if_pos ht, a]
  exact b
theorem Runs.no {t : Test} {c : Cmd} {s : PS} (ht : t.eval s.flag s.rest = false) : Runs (.loop t c) s s 0 := by
  refine ⟨1, fun g => ?_⟩
  rw [run_step]
  simp only [stepR]
  rw [if_neg (by rw [ht]; decide)]
theorem add_runs (s : PS) (l : List Tree) (g : Nat) : ({ s with gas := g + l.length + 1 } : PS).add l = some { s with ch := s.ch ++ l, gas := g + 1 } := by
  unfold PS.add
  rw [if_pos (by show l.length < g + l.length + 1; omega)]
  show some _ = some _
  simp only [show g + l.length + 1 - l.length = g + 1 by omega]

theorem sig_suffix : ∀ r : List Tok, sig r <:+ r
  | [] => List.suffix_refl _
  | x :: r => by
    unfold sig
    split
    · exact (sig_suffix r).trans (List.suffix_cons _ _)
    · exact List.suffix_refl _
theorem after_suffix (r : List Tok) : after r <:+ r := (List.drop_suffix 1 _).trans (sig_suffix r)
theorem after_lt {r : List Tok} (h : sig r ≠ []) : (after r).length < r.length := by
  have h1 := (sig_suffix r).length_le
  have h2 : 0 < (sig r).length := List.length_pos_iff.2 h
  unfold after
  rw [List.length_drop]; omega
theorem peek_none {r : List Tok} (h : sig r = []) : peekT r = ⟨100, .empty⟩ := by unfold peekT; rw [h]
theorem at_ne {ts : List ByteArray} {r : List Tok} (h : atB ts r = true) : sig r ≠ [] := by
  intro e
  unfold atB at h
  rw [peek_none e] at h
  simp at h
theorem Fact.ne_any {φ : Fact} {r : List Tok} (h : φ.Holds r) (hn : φ ≠ .any) : sig r ≠ [] := by
  cases φ with
  | any => exact absurd rfl hn
  | ne => exact h
  | lb => exact at_ne h
def Sp (c : Cmd) (k0 k1 : Option Int) (nz f0 : Bool) (s : PS) : Prop := ∃ u k, Runs c s u k ∧ u.rest <:+ s.rest ∧ (nz = true → u.ch ≠ []) ∧
  ((u.rest = s.rest ∧ (∃ a, k0 = some a ∧ (k : Int) ≤ a) ∧ (f0 = true → u.flag = true)) ∨ (u.rest.length < s.rest.length ∧ ∃ a, k1 = some a ∧ (k : Int) + cA * u.rest.length ≤ a + cA * s.rest.length))
theorem omax_l {a b : Option Int} {x : Int} (h : a = some x) : ∃ y, omax a b = some y ∧ x ≤ y := by
  subst h
  cases b with
  | none => exact ⟨x, rfl, Int.le_refl _⟩
  | some b => exact ⟨max x b, rfl, Int.le_max_left _ _⟩
theorem omax_r {a b : Option Int} {x : Int} (h : b = some x) : ∃ y, omax a b = some y ∧ x ≤ y := by
  subst h
  cases a with
  | none => exact ⟨x, rfl, Int.le_refl _⟩
  | some a => exact ⟨max a x, rfl, Int.le_max_right _ _⟩
theorem suffix_eq {a b : List Tok} (h : a <:+ b) (hl : a.length = b.length) : a = b := h.eq_of_length hl
theorem tr_taken_length (r : List Tok) : (taken r).length = r.length - (after r).length := by
  unfold taken
  rw [List.length_take]; omega
theorem trivs_length (r : List Tok) : (trivs r).length = r.length - (sig r).length := by
  unfold trivs
  rw [List.length_take]; omega
theorem Sp.weak {c : Cmd} {k0 k1 k0' k1' : Option Int} {nz nz' f0 f0' : Bool} {s : PS} (h : Sp c k0 k1 nz f0 s) (h0 : ∀ a, k0 = some a → ∃ b, k0' = some b ∧ a ≤ b) (h1 : ∀ a, k1 = some a → ∃ b, k1' = some b ∧ a ≤ b) (hn : nz' = true → nz = true) (hf : k0.isSome = true → f0' = true → f0 = true) : Sp c k0' k1' nz' f0' s := by
  obtain ⟨u, k, hr, hs, hz, h⟩ := h
  refine ⟨u, k, hr, hs, fun e => hz (hn e), ?_⟩
  rcases h with ⟨e, ⟨a, ha, hk⟩, hfl⟩ | ⟨e, a, ha, hk⟩
  · obtain ⟨b, hb, hab⟩ := h0 a ha
    exact .inl ⟨e, ⟨b, hb, Int.le_trans hk hab⟩, fun e => hfl (hf (by rw [ha]; rfl) e)⟩
  · obtain ⟨b, hb, hab⟩ := h1 a ha
    exact .inr ⟨e, b, hb, by omega⟩
theorem Sp.bump {φ : Fact} {s : PS} (h : φ.Holds s.rest) {nz : Bool} (hz : nz = true → s.ch ≠ []) : Sp .bump (if φ = .any then some 0 else none) (some (1 - cA)) (nz || decide (φ ≠ .any)) false s := by
  have hl := (after_suffix s.rest).length_le
  have hk := tr_taken_length s.rest
  refine ⟨{ s with ch := s.ch ++ (taken s.rest).map Tok.leaf, rest := after s.rest }, (taken s.rest).length, ⟨1, fun g => ?_⟩, after_suffix _, fun e => ?_, ?_⟩
  · rw [run_step]
    have := add_runs s ((taken s.rest).map Tok.leaf) g
    rw [List.length_map] at this
    simp only [stepR, this]
    rfl
  · simp only [Bool.or_eq_true, decide_eq_true_eq] at e
    rcases e with e | e
    · simp [hz e]
    · have := after_lt (Fact.ne_any h e)
      intro e2
      have e3 := congrArg List.length e2
      simp only [List.length_append, List.length_map, List.length_nil] at e3
      omega
  · rcases Nat.lt_or_ge (after s.rest).length s.rest.length with h1 | h1
    · refine .inr ⟨h1, _, rfl, ?_⟩
      show ((taken s.rest).length : Int) + cA * (after s.rest).length ≤ _
      rw [hk]
      unfold cA
      omega
    · refine .inl ⟨suffix_eq (after_suffix _) (Nat.le_antisymm hl h1), ⟨0, ?_, ?_⟩, fun h => by cases h⟩
      · rw [if_pos]
        apply Classical.byContradiction
        intro hn
        have := after_lt (Fact.ne_any h hn)
        omega
      · rw [hk]; omega
theorem Sp.trivia {s : PS} {nz : Bool} (hz : nz = true → s.ch ≠ []) : Sp .trivia (some 0) (some (1 - cA)) nz false s := by
  have hl := (sig_suffix s.rest).length_le
  have hk := trivs_length s.rest
  refine ⟨{ s with ch := s.ch ++ (trivs s.rest).map Tok.leaf, rest := sig s.rest }, (trivs s.rest).length, ⟨1, fun g => ?_⟩, sig_suffix _, fun e => ?_, ?_⟩
  · rw [run_step]
    have := add_runs s ((trivs s.rest).map Tok.leaf) g
    rw [List.length_map] at this
    simp only [stepR, this]
    rfl
  · simp [hz e]
  · rcases Nat.lt_or_ge (sig s.rest).length s.rest.length with h1 | h1
    · refine .inr ⟨h1, _, rfl, ?_⟩
      show ((trivs s.rest).length : Int) + cA * (sig s.rest).length ≤ _
      rw [hk]
      unfold cA
      omega
    · refine .inl ⟨suffix_eq (sig_suffix _) (Nat.le_antisymm hl h1), ⟨0, rfl, ?_⟩, fun h => by cases h⟩
      rw [hk]; omega
theorem Sp.then {c e : Cmd} {x : Res} {s : PS} (h : Sp c x.k0 x.k1 x.nz x.f0 s) {y z : Res} (G : Cmd → Cmd → PS → Cmd)
    (hR : ∀ (u v : PS) k l, Runs c s u k → Runs (G e c u) u v l → Runs e s v (k + l))
    (hy : ∀ u, u.rest = s.rest → (∃ a, x.k0 = some a) → (x.nz = true → u.ch ≠ []) → Sp (G e c u) y.k0 y.k1 y.nz false u)
    (hz : ∀ u, u.rest.length < s.rest.length → u.rest <:+ s.rest → (∃ a, x.k1 = some a) → (x.nz = true → u.ch ≠ []) → Sp (G e c u) z.k0 z.k1 z.nz false u) :
    Sp e (oadd x.k0 y.k0) (omax (oadd x.k0 y.k1) (oadd x.k1 (omax z.k0 z.k1))) (y.nz && z.nz) false s := by
  obtain ⟨u, k, hr, hs, hn, h⟩ := h
  rcases h with ⟨e1, ⟨a, ha, hk⟩, hfl⟩ | ⟨e1, a, ha, hk⟩
  · obtain ⟨v, l, hr2, hs2, hn2, h2⟩ := hy u e1 ⟨a, ha⟩ hn
    refine ⟨v, k + l, hR _ _ _ _ hr hr2, hs2.trans hs, fun e => hn2 ((Bool.and_eq_true _ _ ▸ e).1), ?_⟩
    rcases h2 with ⟨e2, ⟨b, hb, hl⟩, _⟩ | ⟨e2, b, hb, hl⟩
    · exact .inl ⟨e2.trans e1, ⟨a + b, by rw [ha, hb]; rfl, by push_cast; omega⟩, fun h => by cases h⟩
    · obtain ⟨m, hm, hle⟩ := omax_l (b := oadd x.k1 (omax z.k0 z.k1)) (a := oadd x.k0 y.k1) (x := a + b) (by rw [ha, hb]; rfl)
      rw [e1] at e2 hl
      exact .inr ⟨e2, m, hm, by push_cast; omega⟩
  · obtain ⟨v, l, hr2, hs2, hn2, h2⟩ := hz u e1 hs ⟨a, ha⟩ hn
    refine ⟨v, k + l, hR _ _ _ _ hr hr2, hs2.trans hs, fun e => hn2 ((Bool.and_eq_true _ _ ▸ e).2), ?_⟩
    have hle2 := hs2.length_le
    rcases h2 with ⟨e2, ⟨b, hb, hl⟩, _⟩ | ⟨e2, b, hb, hl⟩
    · obtain ⟨m, hm, hle⟩ := omax_l (a := z.k0) (b := z.k1) hb
      obtain ⟨m2, hm2, hle2⟩ := omax_r (a := oadd x.k0 y.k1) (b := oadd x.k1 (omax z.k0 z.k1)) (x := a + m) (by rw [ha, hm]; rfl)
      rw [e2]
      exact .inr ⟨e1, m2, hm2, by push_cast; omega⟩
    · obtain ⟨m, hm, hle⟩ := omax_r (a := z.k0) (b := z.k1) hb
      obtain ⟨m2, hm2, hle2⟩ := omax_r (a := oadd x.k0 y.k1) (b := oadd x.k1 (omax z.k0 z.k1)) (x := a + m) (by rw [ha, hm]; rfl)
      exact .inr ⟨by omega, m2, hm2, by push_cast; omega⟩



end Go.Proofs.YtpibenilagloaaaGreatDoor
