/-
  fuzzy.Rank: the walk.
-/
import Derived.Test.YtbnoejdhachhhabSwo
import Derived.Deep.DeepMust
namespace Go.Proofs.Ytbnoejdhachhhab
open Go.RowKit Go.Shelf
open Go.Sort (PermIn SortedIn SWO)
set_option linter.unusedVariables false

def hit (pat : ByteArray) (names : List ByteArray) (i : Nat) : Bool := (scoreL pat (names.getD i default)).isSome
def scoreOf (pat s : ByteArray) : Int := match scoreL pat s with | some (t, _) => t | none => 0
def scoresL (pat : ByteArray) (names : List ByteArray) : List Int := names.map (scoreOf pat)
def hitsTo (pat : ByteArray) (names : List ByteArray) (k : Nat) : List Nat := (List.range k).filter (hit pat names)
def scTo (pat : ByteArray) (names : List ByteArray) (k : Nat) : List Int := (scoresL pat names).take k ++ List.replicate (names.length - k) 0
def RankPost (w : World) (pat : ByteArray) (names : List ByteArray) (e : Ending) (w' : World) : Prop :=
  Below w.heap.size w w' ∧ if 200 < names.length then e = .returned (.tuple #[.slice none 0 0, .int .i64 2]) else
    ∃ (A : Option Addr) (c : Nat) (idx : List Nat), e = .returned (.tuple #[.slice A idx.length c, .int .i64 0]) ∧ IntsAt w' w'.heap.size A (idx.map fun i : Nat => (i : Int)) ∧ idx.Perm (hitsTo pat names names.length) ∧
      idx.Pairwise (fun x y => ¬ cmpN (scoresL pat names) names y x < 0)

theorem scTo_length (pat : ByteArray) (names : List ByteArray) (k : Nat) (hk : k ≤ names.length) : (scTo pat names k).length = names.length := by
  unfold scTo scoresL; simp; omega
theorem scTo_all (pat : ByteArray) (names : List ByteArray) : scTo pat names names.length = scoresL pat names := by
  unfold scTo; rw [List.take_of_length_le (by simp [scoresL])]; simp
theorem scTo_succ (pat : ByteArray) (names : List ByteArray) (k : Nat) (hk : k < names.length) : scTo pat names (k + 1) = (scTo pat names k).set k (scoreOf pat (names[k])) := by
  have hl : (scoresL pat names).length = names.length := by simp [scoresL]
  have ha : (scoresL pat names)[k]? = some (scoreOf pat names[k]) := by simp [scoresL, hk]
  unfold scTo
  rw [List.set_append_right _ _ (by rw [List.length_take]; omega), List.length_take, Nat.min_eq_left (by omega), Nat.sub_self, List.take_add_one, ha]
  obtain ⟨m, hm⟩ : ∃ m, names.length - k = m + 1 := ⟨names.length - k - 1, by omega⟩
  rw [hm, show names.length - (k + 1) = m by omega, List.replicate_succ, List.set_cons_zero]
  simp
theorem scTo_keep (pat : ByteArray) (names : List ByteArray) (k : Nat) (hk : k < names.length) (h : scoreOf pat names[k] = 0) : scTo pat names (k + 1) = scTo pat names k := by
  rw [scTo_succ pat names k hk, h]
  apply List.ext_getElem?
  intro j
  rw [List.getElem?_set]
  split
  · next hkj =>
    subst hkj
    have hl : (scoresL pat names).length = names.length := by simp [scoresL]
    have : (scTo pat names k)[k]? = some 0 := by
      unfold scTo
      rw [List.getElem?_append_right (by rw [List.length_take]; omega), List.length_take, Nat.min_eq_left (by omega), Nat.sub_self]
      simp [show 0 < names.length - k by omega]
    rw [this]
    have := scTo_length pat names k (by omega)
    simp [this, hk]
  · rfl
theorem hitsTo_yes (pat : ByteArray) (names : List ByteArray) (k : Nat) (h : hit pat names k = true) : hitsTo pat names (k + 1) = hitsTo pat names k ++ [k] := by
  unfold hitsTo; rw [List.range_succ, List.filter_append]; simp [h]
theorem hitsTo_no (pat : ByteArray) (names : List ByteArray) (k : Nat) (h : hit pat names k = false) : hitsTo pat names (k + 1) = hitsTo pat names k := by
  unfold hitsTo; rw [List.range_succ, List.filter_append]; simp [h]
theorem hitsTo_lt (pat : ByteArray) (names : List ByteArray) (k : Nat) : ∀ i ∈ hitsTo pat names k, i < k := by
  intro i hi; unfold hitsTo at hi; simpa using (List.mem_filter.1 hi).1
theorem hitsTo_le (pat : ByteArray) (names : List ByteArray) (k : Nat) : (hitsTo pat names k).length ≤ k := by
  unfold hitsTo; exact Nat.le_trans (List.length_filter_le _ _) (by simp)

/-- what the loop of Rank finds -/
def RInv (w : World) (pat : ByteArray) (names : List ByteArray) (An : Option Addr) (cn k : Nat) (v : Value) (wr : World) : Prop :=
  wr.heap[w.heap.size]? = some (.cells #[.slice An names.length cn] 30 (0, 0)) ∧ wr.heap[w.heap.size + 1]? = some (.cells ((scTo pat names k).map (Value.int .i64)).toArray 3 (0, 0)) ∧
    wr.heap[w.heap.size + 1 + 1]? = some (.cells #[.slice (some ⟨w.heap.size + 1, 0, none⟩) names.length names.length] 22 (0, 0)) ∧
    wr.ownsRow (w.heap.size + 3) 3 1 v (hitsTo pat names k).length ((hitsTo pat names k).map fun i : Nat => Value.int .i64 (i : Int)) ∧ Below w.heap.size w wr ∧ w.heap.size + 3 ≤ wr.heap.size
theorem RInv.below {w : World} {pat : ByteArray} {names : List ByteArray} {An : Option Addr} {cn k : Nat} {v : Value} {wr w' : World} (h : RInv w pat names An cn k v wr) (hb : Below wr.heap.size wr w') : RInv w pat names An cn k v w' := by
  obtain ⟨h1, h2, h3, h4, h5, h6⟩ := h
  exact ⟨(hb.block _ (lt_of_heap h1)).trans h1, (hb.block _ (lt_of_heap h2)).trans h2, (hb.block _ (lt_of_heap h3)).trans h3, own_below h4 hb, h5.trans (hb.mono h5.size), Nat.le_trans h6 hb.size⟩

theorem ins_nil (fv : Value) (w : World) : Calls Try.prog 32 #[.slice none 0 0, .int .i64 0, .int .i64 0, fv] w fun e w' => e = .returned (.tuple #[]) ∧ w' = w := by
  go_enter Try.func32, Try.ntmps32
  go_wp2_with fail
  go_loopw [8] (fun v wr => v = .int .i64 1 ∧ wr = w) (fun _ _ => 0)
  case atStart => exact ⟨rfl, rfl⟩
  case round =>
    obtain ⟨rfl, rfl⟩ := hrel
    go_wp2_with fail
    go_end0
    exact ⟨rfl, rfl⟩
theorem stb_nil (fv : Value) (w : World) : Calls Try.prog 25 #[.slice none 0 0, .int .i64 0, fv] w fun e w' => e = .returned (.tuple #[]) ∧ w' = w := by
  go_enter Try.func25, Try.ntmps25
  go_wp2_with fail
  go_loopw [7, 8] (fun a b wr => a = .int .i64 0 ∧ b = .int .i64 20 ∧ wr = w) (fun _ _ _ => 0)
  case atStart => exact ⟨rfl, rfl, rfl⟩
  case round =>
    obtain ⟨rfl, rfl, rfl⟩ := hrel
    go_wp2_with fail
    refine (ins_nil fv _).mono ?_
    rintro e w1 ⟨rfl, hw⟩
    rw [hw]
    clear hw w1
    go_wp2_with fail
    go_loopw [6] (fun b w1 => b = .int .i64 20 ∧ w1 = wr) (fun _ _ => 0)
    case atStart => exact ⟨rfl, rfl⟩
    case round =>
      obtain ⟨rfl, rfl⟩ := hrel
      go_wp2_with fail
      go_end0
      exact ⟨rfl, rfl⟩
theorem srt_nil (fv : Value) (w : World) : Calls Try.prog 16 #[.slice none 0 0, fv] w fun e w' => e = .returned (.tuple #[]) ∧ w' = w := by
  go_enter Try.func16, Try.ntmps16
  go_wp2_with fail
  refine (stb_nil fv _).mono ?_
  rintro e w1 ⟨rfl, rfl⟩
  go_wp2_with fail
  go_end0
  exact ⟨rfl, rfl⟩

set_option maxRecDepth 100000 in
set_option maxHeartbeats 2000000 in
theorem rank_any (pat : ByteArray) (names : List ByteArray) (An : Option Addr) (cn : Nat) (w : World) (hp : pat.size ≤ maxLen) (hsz : ∀ x ∈ names, x.size ≤ maxLen) (hnm : names.length ≤ maxLen) (hA : StrsAt w w.heap.size An names) :
    Calls Try.prog 11 #[.string pat, .slice An names.length cn] w (RankPost w pat names) := by
  unfold maxLen at hnm
  by_cases hbig : 200 < names.length
  · have i1 : (200 : Int) < names.length := by omega
    go_enter Try.func11, Try.ntmps11
    go_wp2_with fail
    go_ret2
    unfold RankPost
    rw [if_pos hbig]
    exact ⟨(Below.refl _ _).alloc (Nat.le_refl _) _, rfl⟩
  · have i1 : (names.length : Int) ≤ 200 := by omega
    obtain ⟨n, hn⟩ : ∃ n, names.length = n := ⟨_, rfl⟩
    have hmk := fun u => run_make_int n (by omega) u
    have HN := Lib.hid hn
    have HA := Lib.hid hA
    have HSZ := Lib.hid hsz
    rw [hn] at i1 ⊢
    have hn2 : n ≤ 200 := by omega
    clear hA hsz hn hnm hbig
    go_enter Try.func11, Try.ntmps11
    go_wp2_with fail
    rw [show madeCells #[.int .i64 0] n = ((scTo pat names 0).map (Value.int .i64)).toArray by
      unfold scTo
      rw [made_part 0, HN.out]
      simp [part]]
    obtain ⟨W1, hW1⟩ : ∃ W1, (((w.alloc (.cells #[.slice An n cn] 30)).alloc (.cells ((scTo pat names 0).map (Value.int .i64)).toArray 3)).alloc (.cells #[.slice (some ⟨w.heap.size + 1, 0, none⟩) n n] 22)) = W1 := ⟨_, rfl⟩
    have HR0 : Hid (RInv w pat names An cn 0 (.slice none 0 0) W1) := by
      unfold Hid RInv
      rw [← hW1, HN.out]
      have h1 := heap_new (w := w) (.cells #[.slice An n cn] 30) rfl
      have h2 := heap_new (w := w.alloc (.cells #[.slice An n cn] 30)) (.cells ((scTo pat names 0).map (Value.int .i64)).toArray 3) (World.size_alloc _ _)
      exact ⟨heap_old _ (heap_old _ h1), heap_old _ h2, heap_new _ (by simp), World.ownsRow_nil _ _ _ _, (((Below.refl _ w).alloc (Nat.le_refl _) _).alloc (by simp) _).alloc (by simp; omega) _, by simp⟩
    rw [hW1]
    clear hW1 hmk
    go_loopw [7, 21] (fun vo vk wr => ∃ k : Nat, k ≤ n ∧ vk = .int .i64 k ∧ Hid (RInv w pat names An cn k vo wr)) (fun _ vk _ => n - (intOf vk).toNat)
    case atStart => exact ⟨0, by omega, rfl, HR0⟩
    case round =>
      obtain ⟨k, hk, rfl, HY⟩ := hrel
      clear HR0
      by_cases hlt : k < n
      · have hltI : (k : Int) < n := by omega
        have hkn : k < names.length := by have := HN.out; omega
        obtain ⟨y1, y2, y3, y4, y5, y6⟩ := HY.out
        obtain ⟨bn, off, hAn, hbn, hc⟩ := HA.out (by omega)
        have cs := (y5.cell (p := ⟨bn, off + k, none⟩) hbn).trans (hc k names[k] (List.getElem?_eq_getElem hkn))
        have hsz := HSZ.out names[k] (List.getElem_mem hkn)
        obtain ⟨nm, hnm⟩ : ∃ nm, names[k] = nm := ⟨_, rfl⟩
        rw [hnm] at cs hsz
        have hnmD : names.getD k default = nm := by rw [List.getD_eq_getElem?_getD, List.getElem?_eq_getElem hkn, hnm]; rfl
        have hcall := Lib.hid (score_any pat nm wr hp hsz)
        subst hAn
        cases hsc : scoreL pat nm with
        | none =>
          have HK := Lib.hid (show scTo pat names (k + 1) = scTo pat names k ∧ hitsTo pat names (k + 1) = hitsTo pat names k from
            ⟨scTo_keep pat names k hkn (by rw [hnm]; unfold scoreOf; rw [hsc]), hitsTo_no pat names k (by unfold hit; rw [hnmD, hsc]; rfl)⟩)
          rw [hsc] at hcall
          clear y1 y2 y3 y4 y5 y6 hc hnm hnmD hsc hsz
          go_wp2_with fail
          refine hcall.out.mono ?_
          rintro e w1 ⟨hb, rfl⟩
          have HB := Lib.hid hb
          clear hb
          go_wp2_with fail
          go_roundw
          case rel => exact ⟨k + 1, by omega, by go_num, by have := HY.out.below HB.out; unfold RInv at this ⊢; rw [HK.out.1, HK.out.2]; exact this⟩
          case measure => simp [intOf]; omega
        | some ts =>
          obtain ⟨t, offs⟩ := ts
          have HK := Lib.hid (show scTo pat names (k + 1) = (scTo pat names k).set k t ∧ hitsTo pat names (k + 1) = hitsTo pat names k ++ [k] from
            ⟨by rw [scTo_succ pat names k hkn, hnm]; unfold scoreOf; rw [hsc], hitsTo_yes pat names k (by unfold hit; rw [hnmD, hsc]; rfl)⟩)
          rw [hsc] at hcall
          clear y1 y2 y3 y4 y5 y6 hc hnm hnmD hsc hsz
          go_wp2_with fail
          refine hcall.out.mono ?_
          rintro e w1 ⟨hb, A, co, rfl, _⟩
          have HZ := Lib.hid (HY.out.below hb)
          have hsl := scTo_length pat names k (by omega)
          have hkl := hitsTo_le pat names k
          clear HY hb cs hcall
          obtain ⟨y1, y2, y3, y4, y5, y6⟩ := HZ.out
          have c6 : w1.cell? ⟨w.heap.size + 1 + 1, 0, none⟩ = some (.slice (some ⟨w.heap.size + 1, 0, none⟩) names.length names.length) := by rw [Lib.cell_of_heap y3]; rfl
          rw [HN.out] at c6
          obtain ⟨i0, hi0, hz0, hz1, hz2⟩ := info_parts info_int
          have hks : k < ((scTo pat names k).map (Value.int .i64)).length := by rw [List.length_map, hsl]; exact hkn
          have hlt2 := y4.lt
          have hlt3 : w.heap.size + 1 + 1 < w1.heap.size := lt_of_heap y3
          have hlt4 : w.heap.size + 1 < w1.heap.size := lt_of_heap y2
          have hne : ∀ b, b < w.heap.size + 3 → some b ≠ u7.ownBlock := fun b hb e => by have := (hlt2 b e.symm).1; omega
          have hK : ∀ w2 : World, ((w1.alloc (.cells #[.int .i64 (k : Int)] 3)).drew).grownBy w2 u7.ownBlock → w2.cell? ⟨w.heap.size + 1 + 1, 0, none⟩ = some (.slice (some ⟨w.heap.size + 1, 0, none⟩) n n) ∧
              (∃ x, w2.cell? ⟨w.heap.size + 1, k, none⟩ = some x) ∧ w2.frozen? ⟨w.heap.size + 1, k, none⟩ = false ∧ Hid (w1.grownBy w2 u7.ownBlock) := by
            intro w2 hg
            have hg1 : w1.grownBy w2 u7.ownBlock := grown_trans (grown_any (World.grownBy_alloc w1 _ none) _) (grown_trans (grown_drew _ _) hg)
            have z2 := (hg1.block _ (lt_of_heap y2) (hne _ (by omega))).trans y2
            have z3 := (hg1.block _ (lt_of_heap y3) (hne _ (by omega))).trans y3
            refine ⟨by rw [Lib.cell_of_heap z3, ← HN.out]; rfl, ⟨_, by rw [Lib.cell_of_heap z2]; simp only [List.getElem?_toArray]; exact List.getElem?_eq_getElem hks⟩, Lib.frozen_of_heap z2 k, hg1⟩
          have HF : Hid (∀ (w2 : World) (g cap : Nat), w1.grownBy w2 u7.ownBlock → w2.ownsRow (w.heap.size + 3) 3 1 (.slice (some ⟨g, 0, none⟩) ((hitsTo pat names k).length + 1) cap) ((hitsTo pat names k).length + 1) ((hitsTo pat names k).map (fun i : Nat => Value.int .i64 (i : Int)) ++ [.int .i64 (k : Int)]) → RInv w pat names (some ⟨bn, off, none⟩) cn (k + 1) (.slice (some ⟨g, 0, none⟩) ((hitsTo pat names k).length + 1) cap) (w2.setCell ⟨w.heap.size + 1, k, none⟩ (.int .i64 t))) := by
            intro w2 g cap hg1 hown
            have z1 := (hg1.block _ (lt_of_heap y1) (hne _ (by omega))).trans y1
            have z2 := (hg1.block _ (lt_of_heap y2) (hne _ (by omega))).trans y2
            have z3 := (hg1.block _ (lt_of_heap y3) (hne _ (by omega))).trans y3
            have hgs := grown_setCell w2 (w.heap.size + 1) k (.int .i64 t)
            unfold RInv
            rw [HK.out.1, HK.out.2]
            refine ⟨(Below.heap_setCell _ _ _ _ (by simp)).trans z1, by rw [List.map_set]; exact set_block z2 _, (Below.heap_setCell _ _ _ _ (by simp)).trans z3, ?_, ?_, ?_⟩
            · rw [List.length_append, List.map_append]
              exact hown.kept hgs (.inr (fun e => by have := (hown.lt _ e).1; omega))
            · exact (y5.grown hg1 y5.size (fun j e => by have := (hlt2 j e).1; omega)).setCell (by simp) _
            · exact Nat.le_trans y6 (Nat.le_trans hg1.size hgs.size)
          have hown0 := Lib.hid ((y4.alloc (.cells #[.int .i64 (k : Int)] 3)).drew)
          have hH : ((w1.alloc (.cells #[.int .i64 (k : Int)] 3)).drew).heap.size = w1.heap.size + 1 := by simp
          have hbase : w.heap.size + 3 ≤ ((w1.alloc (.cells #[.int .i64 (k : Int)] 3)).drew).heap.size := by rw [hH]; omega
          have hkl1 : (hitsTo pat names k).length + 1 ≤ maxLen := by unfold maxLen; omega
          have hkl2 : ((hitsTo pat names k).length + 1) * 8 ≤ 140737488355328 := by omega
          obtain ⟨hl, hhl⟩ : ∃ hl, (hitsTo pat names k).length = hl := ⟨_, rfl⟩
          have HHL := Lib.hid hhl
          have HH := Lib.hid hH
          have h1c : ∀ u ∈ [Value.int .i64 (k : Int)], u.oneCell' = true := fun u hu => by rw [List.mem_singleton] at hu; rw [hu]; rfl
          have HBASE := Lib.hid hbase
          rw [hhl] at hkl1 hkl2 hown0
          clear y1 y2 y3 y4 y5 y6 hsl hkl hks hne hlt2 hhl hH hbase
          go_wp2_with fail
          go_region_law ((refine step_append_lies _ (by rfl) (.tmp 37) (.tmp 39) _ (by rfl) (w.heap.size + 3) 3 i0 _ 1 8 Try.underlying22 hi0 hz0 hz1 hz2 rfl (by decide) u7 hl _ (by rfl) hown0.out ⟨w1.heap.size, 0, none⟩ 1 1 [.int .i64 (k : Int)] (by rfl) (by rfl) (World.news_of_block (cs := #[_]) (t := 3) (fr := (0, 0)) (heap_alloc_new _ _)) h1c (by decide) hkl1 hkl2 HBASE.out _ HH.out ?_; intro gg cap w2 hown1 hgrow hat hlt; obtain ⟨k1, ⟨x, k2⟩, k3, k4⟩ := hK _ hgrow))
          all_goals
            have HN1 := Lib.hid (HF.out w2 gg cap k4.out (by rw [HHL.out]; exact hown1))
            rw [HHL.out] at HN1
            clear hown1 hgrow hat hlt HF hK
            go_wp2_with fail
            go_roundw
            case rel => exact ⟨k + 1, by omega, by go_num, HN1.out⟩
            case measure => simp [intOf]; omega
      · obtain rfl : k = n := by omega
        obtain ⟨y1, y2, y3, y4, y5, y6⟩ := HY.out
        have hnk := HN.out
        have hkl := hitsTo_le pat names k
        have hmap : ∀ (L : List Nat), L.Perm (hitsTo pat names k) → ∀ i ∈ L, i < k := fun L hL i hi => hitsTo_lt pat names k i (hL.mem_iff.1 hi)
        rcases y4.2 with ⟨rfl, h0⟩ | ⟨g, cap, cur, rfl, hg0, hg, hnc, hcm, hcs, htake⟩
        · have hcall := Lib.hid (srt_nil (.func (.func 17) #[] #[.pointer (some ⟨w.heap.size + 1 + 1, 0, none⟩), .pointer (some ⟨w.heap.size, 0, none⟩)]) wr)
          have HF : Hid (RankPost w pat names (.returned (.tuple #[.slice none 0 0, .int .i64 0])) wr) := by
            refine ⟨y5, ?_⟩
            rw [if_neg (by omega)]
            refine ⟨none, 0, [], rfl, fun hp => absurd hp (by simp), ?_, List.Pairwise.nil⟩
            rw [hnk, List.eq_nil_of_length_eq_zero h0]
          clear y1 y2 y3 y4 y5 y6 hkl hmap HY
          go_wp2_with fail
          refine hcall.out.mono ?_
          rintro e w1 ⟨rfl, rfl⟩
          go_wp2_with fail
          go_ret2
          exact HF.out
        · obtain ⟨m, hm⟩ : ∃ m, (hitsTo pat names k).length = m := ⟨_, rfl⟩
          rw [hm] at hkl hnc htake ⊢
          rw [Nat.mul_one] at htake
          have hcur : cur.toList = (hitsTo pat names k).map (fun i : Nat => Value.int .i64 (i : Int)) ++ cur.toList.drop m := by rw [← htake]; exact (List.take_append_drop _ _).symm
          have hR : RowG wr g (hitsTo pat names k).toArray (cur.toList.drop m) := by
            unfold RowG
            rw [hg]
            congr 2
            apply Array.ext'
            exact hcur
          have hC : CmpOk wr g (.pointer (some ⟨w.heap.size + 1 + 1, 0, none⟩)) (.pointer (some ⟨w.heap.size, 0, none⟩)) k (cmpN (scoresL pat names) names) := by
            intro u a b hu ha hb
            have z1 := (hu.block _ (lt_of_heap y1) (fun e => by injection e with e; omega)).trans y1
            have z2 := (hu.block _ (lt_of_heap y2) (fun e => by injection e with e; omega)).trans y2
            have z3 := (hu.block _ (lt_of_heap y3) (fun e => by injection e with e; omega)).trans y3
            have hl : (scoresL pat names).length = names.length := by simp [scoresL]
            refine rcmp_any (w.heap.size + 1 + 1) w.heap.size (w.heap.size + 1) names.length An cn (scoresL pat names) names a b u (by omega) (by omega) hl (by omega) HSZ.out ?_ ?_ ?_ ?_
            · rw [Lib.cell_of_heap z3, hl]; rfl
            · rw [Lib.cell_of_heap z1]; rfl
            · intro j x hx
              rw [Lib.cell_of_heap z2, ← hnk, scTo_all]
              simp [hx]
            · refine ((HA.out.below y5).keep (fun p hp => World.cell?_of_block (hu.block _ ?_ (fun e => by injection e with e; omega)))).more (Nat.le_trans y5.size hu.size)
              exact Nat.lt_of_lt_of_le hp y5.size
          have hsrt := srt_any wr g _ _ k _ hC (cmpN_law (scoresL pat names) names).swo (cur.toList.drop m) m cap (hitsTo pat names k).toArray wr (by simpa using hm) ⟨rfl, rfl, rfl, Nat.le_refl _, fun _ _ _ => rfl⟩ hR
            (fun i hi => by
              have hi' : i < (hitsTo pat names k).length := by simpa using hi
              rw [get_bang _ i hi]
              simp only [List.getElem_toArray]
              exact hitsTo_lt pat names k _ (List.getElem_mem hi')) (by omega) hnc
          have hcall := Lib.hid hsrt
          have HF : Hid (∀ w', wr.grownBy w' (some g) → ∀ d', Mrg (cmpN (scoresL pat names) names) (hitsTo pat names k).toArray 0 m k d' → RowG w' g d' (cur.toList.drop m) → RankPost w pat names (.returned (.tuple #[.slice (some ⟨g, 0, none⟩) m cap, .int .i64 0])) w') := by
            intro w' hgr d' ⟨m1, m2, m3, m4⟩ hr
            have hs : d'.size = m := by rw [m1]; simpa using hm
            refine ⟨y5.grown hgr y5.size (fun j e => by cases e; omega), ?_⟩
            rw [if_neg (by omega)]
            have hperm : d'.toList.Perm (hitsTo pat names names.length) := by
              have := m2.2.2
              rw [show d'.extract 0 m = d' by rw [← hs]; exact Array.extract_size, show (hitsTo pat names k).toArray.extract 0 m = (hitsTo pat names k).toArray by rw [show m = (hitsTo pat names k).toArray.size by simpa using hm.symm]; exact Array.extract_size] at this
              rw [hnk]; simpa using this
            refine ⟨some ⟨g, 0, none⟩, cap, d'.toList, by rw [Array.length_toList, hs], ?_, hperm, ?_⟩
            · intro _
              refine ⟨g, 0, rfl, lt_of_heap hr, fun j x hx => ?_⟩
              rw [List.getElem?_map] at hx
              obtain ⟨y, hy1, hy2⟩ := Option.map_eq_some_iff.1 hx
              obtain ⟨hj, hy3⟩ := List.getElem?_eq_some_iff.1 hy1
              rw [Array.length_toList] at hj
              rw [Nat.zero_add, hr.cell j hj, get_bang d' j hj, ← hy2, ← hy3]
              simp
            · rw [List.pairwise_iff_getElem]
              intro i j hi hj hij
              rw [Array.length_toList] at hi hj
              have := m4 i j (Nat.zero_le _) hij (by omega)
              rw [get_bang d' i hi, get_bang d' j hj] at this
              unfold ltC at this
              simpa using this
          clear y1 y2 y3 y4 y5 y6 hkl hmap HY hm hg hnc hcm hcs htake hR hC hsrt hcur
          go_wp2_with fail
          refine hcall.out.mono ?_
          rintro e w1 ⟨rfl, g1, d', g2, g3⟩
          have H1 := Lib.hid (HF.out w1 g1 d' g2 g3)
          clear g1 g2 g3
          go_wp2_with fail
          go_ret2
          exact H1.out
end Go.Proofs.Ytbnoejdhachhhab
