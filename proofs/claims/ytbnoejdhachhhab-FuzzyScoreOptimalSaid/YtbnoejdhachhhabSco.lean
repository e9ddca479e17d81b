/-
  fuzzy.Score: the walk.
-/
import Derived.Test.YtbnoejdhachhhabSuf
namespace Go.Proofs.Ytbnoejdhachhhab
open Go.RowKit Go.Shelf
set_option linter.unusedVariables false

/-- the greedy choice of offsets -/
def pickL : List (List Int) → Int → Option (List Int)
  | [], _ => some []
  | row :: rows, prev => if (bestL row prev).1 = -1 then none else (pickL rows (bestL row prev).2).map ((bestL row prev).2 :: ·)
def totalL : List (List Int) → Int
  | [] => 0
  | row :: _ => (bestL row (-1)).1
/-- fuzzy.Score -/
def scoreL (pat s : ByteArray) : Option (Int × List Int) :=
  if 30 < pat.size ∨ 30 < s.size then none else (pickL (tab pat s) (-1)).map fun offs => (totalL (tab pat s), offs)

theorem tab_facts (pat s : ByteArray) : (tab pat s).length = pat.size ∧ tabLe (tab pat s) (9 * pat.size) ∧ tabLen (tab pat s) s.size := by
  have := fold_facts pat s (down pat.size pat.size) (List.replicate pat.size []) 0 (by omega) (fun xs hx => by rw [(List.mem_replicate.1 hx).2]; simp) (fun xs hx => by rw [(List.mem_replicate.1 hx).2]; simp)
  simpa [tab, down] using this
theorem bestLoop_off (prev : Int) : ∀ (ns : List Int) (i sc off : Int), ((bestLoop prev ns i sc off).1 = sc ∧ (bestLoop prev ns i sc off).2 = off) ∨ (i ≤ (bestLoop prev ns i sc off).2 ∧ (bestLoop prev ns i sc off).2 < i + ns.length) := by
  intro ns
  induction ns with
  | nil => intro i sc off; exact .inl ⟨rfl, rfl⟩
  | cons n ns ih =>
    intro i sc off
    unfold bestLoop
    rw [List.length_cons]
    split
    · rcases ih (i + 1) (adj prev i n) i with ⟨h1, h2⟩ | ⟨h1, h2⟩
      · exact .inr ⟨by rw [h2]; omega, by rw [h2]; omega⟩
      · exact .inr ⟨by omega, by omega⟩
    · rcases ih (i + 1) sc off with h | ⟨h1, h2⟩
      · exact .inl h
      · exact .inr ⟨by omega, by omega⟩
theorem bestL_off (row : List Int) (prev : Int) (hp : -1 ≤ prev) (h : (bestL row prev).1 ≠ -1) : prev < (bestL row prev).2 ∧ (bestL row prev).2 < row.length := by
  unfold bestL at *
  rcases bestLoop_off prev (row.drop (prev + 1).toNat) (prev + 1) (-1) (-1) with ⟨h1, _⟩ | ⟨h1, h2⟩
  · exact absurd h1 h
  · rw [List.length_drop] at h2
    by_cases hl : (prev + 1).toNat ≤ row.length
    · exact ⟨by omega, by omega⟩
    · rw [show row.length - (prev + 1).toNat = 0 by omega] at h2
      omega

def ScorePost (w : World) (r : Option (Int × List Int)) (e : Ending) (w' : World) : Prop :=
  Below w.heap.size w w' ∧ match r with
    | none => e = .returned (.tuple #[.int .i64 0, .slice none 0 0, .bool false])
    | some (t, offs) => ∃ A c, e = .returned (.tuple #[.int .i64 t, .slice A offs.length c, .bool true]) ∧ IntsAt w' w'.heap.size A offs

theorem score_long (pat s : ByteArray) (w : World) (h : 30 < pat.size ∨ 30 < s.size) (hp : pat.size ≤ maxLen) (hs : s.size ≤ maxLen) :
    Calls Try.prog 8 #[.string pat, .string s] w (ScorePost w (scoreL pat s)) := by
  unfold maxLen at hp hs
  have HS := Lib.hid (show scoreL pat s = none from if_pos h)
  by_cases h1 : 30 < pat.size
  · have i1 : (30 : Int) < pat.size := by omega
    go_enter Try.func8, Try.ntmps8
    go_wp2_with fail
    go_ret3
    unfold ScorePost
    rw [HS.out]
    exact ⟨Below.refl _ _, rfl⟩
  · have i1 : decide ((30 : Int) < pat.size) = false := by simp; omega
    have i2 : (30 : Int) < s.size := by omega
    go_enter Try.func8, Try.ntmps8
    go_wp2_with fail
    go_ret3
    unfold ScorePost
    rw [HS.out]
    exact ⟨Below.refl _ _, rfl⟩

set_option maxHeartbeats 1000000 in
theorem score_any (pat s : ByteArray) (w : World) (hp : pat.size ≤ maxLen) (hs : s.size ≤ maxLen) :
    Calls Try.prog 8 #[.string pat, .string s] w (ScorePost w (scoreL pat s)) := by
  by_cases hl : 30 < pat.size ∨ 30 < s.size
  · exact score_long pat s w hl hp hs
  have hp1 : pat.size ≤ 30 := by omega
  have hs1 : s.size ≤ 30 := by omega
  have HS := Lib.hid (show scoreL pat s = (pickL (tab pat s) (-1)).map fun offs => (totalL (tab pat s), offs) from if_neg hl)
  obtain ⟨f1, f2, f3⟩ := tab_facts pat s
  obtain ⟨T, hT⟩ : ∃ T, tab pat s = T := ⟨_, rfl⟩
  have HSuf := Lib.hid (fun u => suf_any pat s u (by omega) (by omega))
  rw [hT] at f1 f2 f3 HSuf HS
  clear hT hl hp hs
  have j1 : decide ((30 : Int) < pat.size) = false := by simp; omega
  have j2 : decide ((30 : Int) < s.size) = false := by simp; omega
  go_enter Try.func8, Try.ntmps8
  go_wp2_with fail
  refine (HSuf.out _).mono ?_
  rintro e w1 ⟨rfl, hTab, hB1⟩
  have HTb := Lib.hid hTab
  clear hTab HSuf
  have hnil := World.ownsRow_nil w1 w1.heap.size 3 1
  go_wp2_with fail
  go_loopw [7, 8, 9, 26] (fun vo vt vp vk wr => ∃ (k : Nat) (tot prev : Int) (offs : List Int), k ≤ pat.size ∧ vk = .int .i64 k ∧ vt = .int .i64 tot ∧ vp = .int .i64 prev ∧ -1 ≤ prev ∧ prev ≤ 30 ∧ wr.ownsRow w1.heap.size 3 1 vo k (offs.map (Value.int .i64)) ∧ Below w1.heap.size w1 wr ∧ Hid (offs.length = k ∧ pickL T (-1) = (pickL (T.drop k) prev).map (offs ++ ·) ∧ (k = 0 → prev = -1 ∧ tot = 0) ∧ (0 < k → tot = totalL T))) (fun _ _ _ vk _ => pat.size - (intOf vk).toNat)
  case atStart => exact ⟨0, 0, -1, [], Nat.zero_le _, rfl, rfl, rfl, by omega, by omega, hnil, Below.refl _ _, rfl, by simp, fun _ => ⟨rfl, rfl⟩, fun h => absurd h (by omega)⟩
  case round =>
    obtain ⟨k, tot, prev, offs, hk, rfl, rfl, rfl, hp1, hp2, hown, hbr, HX⟩ := hrel
    clear hnil
    by_cases hlt : k < pat.size
    · obtain ⟨cs, t1, t2, t3⟩ := HTb.out
      have hkI : (k : Int) < pat.size := by omega
      have hkT : k < T.length := by omega
      have hkc : k < cs.length := by omega
      obtain ⟨row, hrow⟩ : ∃ row, T[k] = row := ⟨_, rfl⟩
      have hrT : T[k]? = some row := by rw [List.getElem?_eq_getElem hkT, hrow]
      obtain ⟨A, hA, hin1⟩ := (t3 k cs[k] row (List.getElem?_eq_getElem hkc) hrT).ints
      have hin := (hin1.below hbr).more hbr.size
      have ck : wr.cell? ⟨w.heap.size + 1 + 1, k, none⟩ = some (.slice A row.length row.length) := by
        rw [Lib.cell_of_heap ((hbr.block _ (lt_of_heap t1)).trans t1), ← hA]
        simp [hkc]
      have hmem : row ∈ T := List.mem_of_getElem? hrT
      have hrl := f3 row hmem
      have hre := fun x hx => f2 row hmem x hx
      obtain ⟨r, hr⟩ : ∃ r, (bestL row prev).1 = r := ⟨_, rfl⟩
      obtain ⟨off, hoff⟩ : ∃ off, (bestL row prev).2 = off := ⟨_, rfl⟩
      have hbo := bestL_off row prev hp1
      have hbl := bestL_le row prev 1000 (by omega) (fun x hx => by have := hre x hx; omega)
      have hbest := Lib.hid (best_any A row.length row prev wr hin (by omega) (by omega) (by omega) (fun x hx => by have := hre x hx; omega))
      have hdr := drop_cons T k hkT
      rw [hrow] at hdr
      rw [hr, hoff] at hbo
      rw [hr] at hbl
      obtain ⟨x1, x2, x3, x4⟩ := HX.out
      have hsz : w1.heap.size ≤ wr.heap.size := hbr.size
      by_cases hr1 : r = -1
      · have hrb : ((r : Int) == -1) = true := by simp [hr1]
        have HF := Lib.hid (show pickL T (-1) = none by rw [x2, hdr]; unfold pickL; rw [hr, if_pos hr1]; rfl)
        clear hr1 hbo hbl hre hdr x1 x2 x3 x4 hA hin1 hin t1 t2 t3 hrT hrow hmem hrl f2 f3
        go_wp2_with fail
        refine hbest.out.mono ?_
        rintro e w2 ⟨rfl, rfl⟩
        rw [hr, hoff]
        go_wp2_with fail
        go_ret3
        unfold ScorePost
        rw [HS.out, HF.out]
        exact ⟨hB1.trans (hbr.mono hB1.size), rfl⟩
      · have hrb : ((r : Int) == -1) = false := by simp [hr1]
        obtain ⟨o1, o2⟩ := hbo hr1
        have HP := Lib.hid (show pickL T (-1) = (pickL (T.drop (k + 1)) off).map ((offs ++ [off]) ++ ·) by
          rw [x2, hdr]
          conv => lhs; rw [pickL, hr, if_neg hr1, hoff]
          rw [Option.map_map]
          congr 1
          funext l
          simp)
        have hoff30 : off ≤ 30 := by omega
        by_cases h0 : k = 0
        · have hk0 : ((k : Int) == 0) = true := by simp [h0]
          have HN : Hid ((offs ++ [off]).length = k + 1 ∧ pickL T (-1) = (pickL (T.drop (k + 1)) off).map ((offs ++ [off]) ++ ·) ∧ (k + 1 = 0 → off = -1 ∧ r = 0) ∧ (0 < k + 1 → r = totalL T)) := by
            refine ⟨by simp [x1], HP.out, fun h => absurd h (by omega), fun _ => ?_⟩
            obtain ⟨rfl, _⟩ := x3 h0
            subst h0
            rw [List.drop_zero] at hdr
            rw [hdr, ← hr]; rfl
          clear hr1 hbl hre hdr x1 x2 x3 x4 hA hin1 hin t1 t2 t3 hrT hrow hmem hrl f2 f3 h0 hbo
          go_wp2_with fail
          refine hbest.out.mono ?_
          rintro e w2 ⟨rfl, rfl⟩
          rw [hr, hoff]
          go_wp2_with (at_builtin; refine wpList_append_lit rfl (.tmp 42) (.tmp 44) _ rfl w1.heap.size 3 _ 1 8 Try.underlying22 info_int rfl (by decide) _ _ _ rfl hown 1 1 [.int .i64 off] rfl rfl ?a1 ?a2 ?a3 hsz ?_)
          case a1 => intro u hu; rw [List.mem_singleton] at hu; rw [hu]; rfl
          case a2 => unfold maxLen; omega
          case a3 => omega
          intro v' w2 hown2 hgrow _
          have hb2 := grown_below hbr hsz hown hgrow
          rw [show (offs.map (Value.int .i64) ++ [Value.int .i64 off]) = (offs ++ [off]).map (Value.int .i64) by simp] at hown2
          clear hown hgrow hbr
          go_wp2_with fail
          go_roundw
          case rel => exact ⟨k + 1, r, off, offs ++ [off], by omega, by go_num, rfl, rfl, by omega, by omega, hown2, hb2, HN.out⟩
          case measure => simp [intOf]; omega
        · have hk0 : ((k : Int) == 0) = false := by simp [h0]
          have HN : Hid ((offs ++ [off]).length = k + 1 ∧ pickL T (-1) = (pickL (T.drop (k + 1)) off).map ((offs ++ [off]) ++ ·) ∧ (k + 1 = 0 → off = -1 ∧ tot = 0) ∧ (0 < k + 1 → tot = totalL T)) :=
            ⟨by simp [x1], HP.out, fun h => absurd h (by omega), fun _ => x4 (by omega)⟩
          clear hr1 hbl hre hdr x1 x2 x3 x4 hA hin1 hin t1 t2 t3 hrT hrow hmem hrl f2 f3 h0 hbo
          go_wp2_with fail
          refine hbest.out.mono ?_
          rintro e w2 ⟨rfl, rfl⟩
          rw [hr, hoff]
          go_wp2_with (at_builtin; refine wpList_append_lit rfl (.tmp 42) (.tmp 44) _ rfl w1.heap.size 3 _ 1 8 Try.underlying22 info_int rfl (by decide) _ _ _ rfl hown 1 1 [.int .i64 off] rfl rfl ?b1 ?b2 ?b3 hsz ?_)
          case b1 => intro u hu; rw [List.mem_singleton] at hu; rw [hu]; rfl
          case b2 => unfold maxLen; omega
          case b3 => omega
          intro v' w2 hown2 hgrow _
          have hb2 := grown_below hbr hsz hown hgrow
          rw [show (offs.map (Value.int .i64) ++ [Value.int .i64 off]) = (offs ++ [off]).map (Value.int .i64) by simp] at hown2
          clear hown hgrow hbr
          go_wp2_with fail
          go_roundw
          case rel => exact ⟨k + 1, tot, off, offs ++ [off], by omega, by go_num, rfl, rfl, by omega, by omega, hown2, hb2, HN.out⟩
          case measure => simp [intOf]; omega
    · have HE : Hid (scoreL pat s = some (tot, offs) ∧ offs.length = k) := by
        obtain ⟨x1, x2, x3, x4⟩ := HX.out
        refine ⟨?_, x1⟩
        rw [HS.out, x2, List.drop_of_length_le (by omega)]
        simp only [pickL, Option.map_some, List.append_nil, Option.some.injEq, Prod.mk.injEq, and_true]
        by_cases h0 : k = 0
        · have : T = [] := List.eq_nil_of_length_eq_zero (by omega)
          rw [this, (x3 h0).2]; rfl
        · exact (x4 (by omega)).symm
      obtain ⟨A, c, rfl, hin⟩ := IntsAt.of_own (by rw [HE.out.2]; exact hown)
      clear HX
      go_wp2_with fail
      go_ret3
      unfold ScorePost
      rw [HE.out.1]
      exact ⟨hB1.trans (hbr.mono hB1.size), A, c, rfl, hin⟩
end Go.Proofs.Ytbnoejdhachhhab
