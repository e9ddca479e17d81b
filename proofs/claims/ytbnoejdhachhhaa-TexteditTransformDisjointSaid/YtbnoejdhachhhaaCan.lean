/-
  textedit.canonical and its closure: the walks.
-/
import Derived.Test.YtbnoejdhachhhaaTr
import Derived.Laws.BytesString
namespace Go.Proofs.Ytbnoejdhachhhaa
open Go.RowKit

theorem fold_push (l : List UInt8) : ∀ s : ByteArray, ((l.map fun b => (b.toNat : Int)).foldl (fun r n => r.push (UInt8.ofNat n.toNat)) s) = ⟨s.data ++ l.toArray⟩ := by
  induction l with
  | nil => intro s; simp
  | cons x xs ih =>
    intro s
    simp only [List.map_cons, List.foldl_cons, Int.toNat_natCast, UInt8.ofNat_toNat]
    rw [ih]
    simp [ByteArray.push]
theorem run_str_of_row {P : Program} {w : World} {B : Nat} {A : Option Addr} {c : Nat} {l : List UInt8} (src dst e : TypeId) (hs : P.underlying src = some (.slice e)) (he : P.underlying e = some (.int .u8)) (hd : P.underlying dst = some .string)
    (h : RowAt w B A (Lib.byteCells l)) : (convert src dst (.slice A l.length c)).run P w = .ok (.string ⟨l.toArray⟩) w := by
  rw [run_convert_bytes_string w src dst e _ _ _ hs he hd]
  rcases A with _ | a
  · have hl : l = [] := by
      by_cases hl : l = []
      · exact hl
      · obtain ⟨_, _, h, _⟩ := h (by rw [Lib.byteCells_length]; exact List.length_pos_iff.2 hl)
        cases h
    subst hl
    rfl
  · have hc : ∀ j v, (Lib.byteCells l)[j]? = some v → w.cell? (a.add j) = some v := by
      intro j v hv
      have hj : j < (Lib.byteCells l).length := (List.getElem?_eq_some_iff.1 hv).1
      obtain ⟨b, off, h, _, hcc⟩ := h (by omega)
      injection h with h
      subst h
      have : (⟨b, off, none⟩ : Addr).add j = ⟨b, off + j, none⟩ := by unfold Addr.add; split <;> simp_all
      rw [this]
      exact hcc j v hv
    have h1 := run_loadCells_list (P := P) w a (Lib.byteCells l) hc
    rw [Lib.byteCells_length] at h1
    have e1 : Lib.byteCells l = (l.map fun b => (b.toNat : Int)).map (Value.int .u8) := by simp [Lib.byteCells]
    rw [e1] at h1
    rw [run_bytesToString w a l.length c _ h1, fold_push]
    simp

/-- what canonical$1 appends -/
def flushed (st en : Int) (pend : List UInt8) : List Ed := if st < en ∨ pend ≠ [] then [⟨st, en, ⟨pend.toArray⟩⟩] else []

theorem blk_ne {w : World} {b b' : Nat} {c c' : Array Value} {t t' : TypeId} {f f' : Nat × Nat} (h : w.heap[b]? = some (.cells c t f)) (h' : w.heap[b']? = some (.cells c' t' f')) (hne : t ≠ t') : b ≠ b' := by
  rintro rfl
  rw [h] at h'
  injection h' with h'
  injection h' with _ h' _
  exact hne h'
theorem heap_far {w : World} {g b : Nat} {o : Obj} (h : w.heap[g]? = some o) (hne : g ≠ b) (i : Nat) (v : Value) : (w.setCell ⟨b, i, none⟩ v).heap[g]? = some o := by
  rw [Below.heap_setCell _ _ _ _ hne]; exact h
theorem heap_set1 {w : World} {g : Nat} {x : Value} {t : TypeId} {fr : Nat × Nat} (h : w.heap[g]? = some (.cells #[x] t fr)) (u : Value) : (w.setCell ⟨g, 0, none⟩ u).heap[g]? = some (.cells #[u] t fr) := by
  rw [heap_set h]; rfl
theorem own_set {w : World} {B : Nat} {e : TypeId} {size : Nat} {v : Value} {n : Nat} {xs : List Value} {b : Nat} {c : Array Value} {t : TypeId} {f : Nat × Nat} (h : w.ownsRow B e size v n xs) (hb : w.heap[b]? = some (.cells c t f)) (hne : t ≠ e) (i : Nat) (u : Value) : (w.setCell ⟨b, i, none⟩ u).ownsRow B e size v n xs := by
  refine ⟨h.1, ?_⟩
  rcases h.2 with ⟨rfl, hn⟩ | ⟨g, cap, cur, rfl, hg, hh, h3⟩
  · exact .inl ⟨rfl, hn⟩
  · exact .inr ⟨g, cap, cur, rfl, hg, heap_far hh (fun e' => blk_ne hb hh hne e'.symm) _ _, h3⟩

/-- the three captured variables -/
def Caught (w : World) (B bo bs bp : Nat) (vo vp : Value) (out : List Ed) (st : Int) (pend : List UInt8) : Prop :=
  (B ≤ bo ∧ B ≤ bs ∧ B ≤ bp) ∧ w.heap[bo]? = some (.cells #[vo] 22 (0, 0)) ∧ w.heap[bs]? = some (.cells #[.int .i64 st] 3 (0, 0)) ∧ w.heap[bp]? = some (.cells #[vp] 55 (0, 0)) ∧
    w.ownsRow B 31 3 vo out.length (edCells' out) ∧ w.ownsRow B 5 1 vp pend.length (Lib.byteCells pend)

theorem Blk1 {w : World} {b : Nat} {v : Value} {t : TypeId} (h : w.heap[b]? = some (.cells #[v] t (0, 0))) : w.cell? ⟨b, 0, none⟩ = some v ∧ w.frozen? ⟨b, 0, none⟩ = false :=
  ⟨by rw [Lib.cell_of_heap h]; rfl, Lib.frozen_of_heap h 0⟩

set_option maxHeartbeats 1600000 in
theorem flush_any (w : World) (B bo bs bp : Nat) (vo vp : Value) (out : List Ed) (st en : Int) (pend : List UInt8) (h : Caught w B bo bs bp vo vp out st pend) (h0 : 0 ≤ en) (h1 : en ≤ 100000000) (ho : out.length ≤ 100000000) (hp : pend.length ≤ 100000000) (hB : B ≤ w.heap.size) :
    Calls Try.prog 36 #[.int .i64 en, .pointer (some ⟨bs, 0, none⟩), .pointer (some ⟨bp, 0, none⟩), .pointer (some ⟨bo, 0, none⟩)] w fun e w' => e = .returned (.tuple #[]) ∧
      (∃ vo', Caught w' B bo bs bp vo' (.slice none 0 0) (out ++ flushed st en pend) (en + 1) []) ∧ Below B w w' := by
  obtain ⟨⟨hB1, hB2, hB3⟩, hbo, hbs, hbp, hown, hownp⟩ := h
  obtain ⟨c1, f1⟩ := Blk1 hbo
  obtain ⟨c2, f2⟩ := Blk1 hbs
  obtain ⟨c3, f3⟩ := Blk1 hbp
  obtain ⟨Ap, cp, rfl, hcp, hrp⟩ := RowAt.of_own hownp
  have n1 := blk_ne hbs hbp (by decide)
  have n2 := blk_ne hbs hbo (by decide)
  have n3 := blk_ne hbp hbo (by decide)
  by_cases hf : st < en ∨ pend ≠ []
  · have HF : Hid (out ++ flushed st en pend = out ++ [⟨st, en, ⟨pend.toArray⟩⟩]) := by unfold Hid flushed; rw [if_pos hf]
    have hcv := run_str_of_row (P := Try.prog) (c := cp) 55 9 5 Try.underlying55 Try.underlying5 Try.underlying9 hrp
    have hg : st < en ∨ (¬ st < en ∧ (0 : Int) < pend.length) := by
      by_cases g : st < en
      · exact .inl g
      · refine .inr ⟨g, ?_⟩
        rcases hf with hf | hf
        · exact absurd hf g
        · have := List.length_pos_iff.2 hf; omega
    clear hf
    have hin : ∀ u ∈ Ed.cells ⟨st, en, ⟨pend.toArray⟩⟩, u.oneCell' = true := by simp [Ed.cells, Value.oneCell']
    rcases hg with hg | ⟨hg, hg'⟩
    all_goals
      go_enter Try.func36, Try.ntmps36
      go_wp2_with (at_builtin; refine wpList_append_lit rfl (.tmp 13) (.tmp 19) _ rfl B 31 _ 3 32 Try.underlying22 info_ed rfl (by decide) _ _ _ rfl hown 1 1 (Ed.cells ⟨st, en, ⟨pend.toArray⟩⟩) rfl rfl hin ?c3 ?c4 hB ?_)
      case c3 => simp only [maxLen]; omega
      case c4 => omega
      intro vo1 w1 hown1 hg1 hat1
      rw [← edCells_snoc] at hown1
      have kk := Kept.grown (t0 := 31) (t1 := 31) hown hg1 (.inl rfl)
      have kbo := kk bo _ _ _ hbo (by decide) (by decide)
      have kbs := kk bs _ _ _ hbs (by decide) (by decide)
      have kbp := kk bp _ _ _ hbp (by decide) (by decide)
      obtain ⟨d1, e1⟩ := Blk1 kbo
      have kbs1 := heap_far kbs n2 0 vo1
      have kbp1 := heap_far kbp n3 0 vo1
      obtain ⟨d2, e2⟩ := Blk1 kbs1
      have kbp2 := heap_far kbp1 n1.symm 0 (.int .i64 (en + 1))
      obtain ⟨d3, e3⟩ := Blk1 kbp2
      have HC : Hid (Caught (((w1.setCell ⟨bo, 0, none⟩ vo1).setCell ⟨bs, 0, none⟩ (.int .i64 (en + 1))).setCell ⟨bp, 0, none⟩ (.slice none 0 0)) B bo bs bp vo1 (.slice none 0 0) (out ++ [⟨st, en, ⟨pend.toArray⟩⟩]) (en + 1) []) :=
        ⟨⟨hB1, hB2, hB3⟩, heap_far (heap_far (heap_set1 kbo _) n2.symm _ _) n3.symm _ _, heap_far (heap_set1 kbs1 _) n1 _ _, heap_set1 kbp2 _,
          own_set (own_set (own_set (by rw [List.length_append]; exact hown1) kbo (by decide) _ _) kbs1 (by decide) _ _) kbp2 (by decide) _ _, World.ownsRow_nil _ _ _ _⟩
      have HB : Hid (Below B w (((w1.setCell ⟨bo, 0, none⟩ vo1).setCell ⟨bs, 0, none⟩ (.int .i64 (en + 1))).setCell ⟨bp, 0, none⟩ (.slice none 0 0))) :=
        (((grown_below (Below.refl _ _) hB hown hg1).setCell (p := ⟨bo, 0, none⟩) hB1 _).setCell (p := ⟨bs, 0, none⟩) hB2 _).setCell (p := ⟨bp, 0, none⟩) hB3 _
      obtain ⟨Av, nv, cv, rfl⟩ : ∃ Av nv cv, vo1 = .slice Av nv cv := by
        rcases hown1.2 with ⟨h, _⟩ | ⟨g, cap, cur, h, _⟩
        · exact ⟨_, _, _, h⟩
        · exact ⟨_, _, _, h⟩
      clear kk hown hown1 hownp kbo kbs kbp kbs1 kbp1 kbp2 hbo hbs hbp hcv hg1 hat1
      go_wp2
      go_end0
      exact ⟨rfl, ⟨_, by rw [HF.out]; exact HC.out⟩, HB.out⟩
  · obtain ⟨g1, g2⟩ : ¬ st < en ∧ pend = [] := by
      refine ⟨fun h => hf (.inl h), ?_⟩
      by_cases hh : pend = []
      · exact hh
      · exact absurd (.inr hh) hf
    have HF : Hid (out ++ flushed st en pend = out) := by unfold Hid flushed; rw [if_neg hf]; simp
    subst g2
    clear hf
    simp only [List.length_nil] at c3 ⊢
    have hbp1 := heap_far hbp n1.symm 0 (.int .i64 (en + 1))
    obtain ⟨c4, f4⟩ := Blk1 hbp1
    have HC : Hid (Caught ((w.setCell ⟨bs, 0, none⟩ (.int .i64 (en + 1))).setCell ⟨bp, 0, none⟩ (.slice none 0 0)) B bo bs bp vo (.slice none 0 0) out (en + 1) []) :=
      ⟨⟨hB1, hB2, hB3⟩, heap_far (heap_far hbo n2.symm _ _) n3.symm _ _, heap_far (heap_set1 hbs _) n1 _ _, heap_set1 hbp1 _, own_set (own_set hown hbs (by decide) _ _) hbp1 (by decide) _ _, World.ownsRow_nil _ _ _ _⟩
    have HB : Hid (Below B w ((w.setCell ⟨bs, 0, none⟩ (.int .i64 (en + 1))).setCell ⟨bp, 0, none⟩ (.slice none 0 0))) := ((Below.refl _ _).setCell (p := ⟨bs, 0, none⟩) hB2 _).setCell (p := ⟨bp, 0, none⟩) hB3 _
    clear hbp1 hbo hbs hbp hown hownp
    go_enter Try.func36, Try.ntmps36
    go_wp2
    go_end0
    exact ⟨rfl, ⟨_, by rw [HF.out]; exact HC.out⟩, HB.out⟩
end Go.Proofs.Ytbnoejdhachhhaa
