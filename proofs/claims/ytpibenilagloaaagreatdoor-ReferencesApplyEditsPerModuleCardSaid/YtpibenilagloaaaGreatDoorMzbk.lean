import Derived.Test.YtpibenilagloaaaGreatDoorRows
import Derived.Test.YtpibenilagloaaaGreatDoorMzbj
import Derived.ProofKit
import Derived.OpenShut
import Derived.ShutString
import Derived.ChangeOld
import Derived.SizedLaws
import Derived.ChangeSame
import Derived.Lay
import Derived.LaidLaws
import Derived.MakeChecks
import Derived.Lib.LaidU8
import Derived.Lib.LaidTab
import Derived.Deep.Slices
import Derived.Deep.Fields
import Derived.Test.YtpibenilagloaaaGreatDoorMzas
namespace Go.Proofs.YtpibenilagloaaaGreatDoor
open Go.ChangeShapes Go.WideShapes Go.ChangeAt Go.RowKit Go.Deep
open Go.ChangeMaps (open_string shut_string)
set_option linter.unusedVariables false
theorem own : ownKnob Tryz.prog.godebug = none := by kernel_rfl
theorem laidOut : laidOutB Tryz.prog = true := by kernel_rfl
theorem glob_rng : Tryz.prog.globalNamed "strconv.ErrRange" = some 4 := by kernel_rfl
theorem asc_data : (Rows.laid_strings_asciiSpace : DataW Unit) = Lib.tabData .u8 Lib.asciiSpaceTab := by kernel_rfl
theorem gl_of_laid {W : World} {laid : List (String × DataW Unit)} (h : laidMet Tryz.prog laid W) (h1 : ("strings.asciiSpace", (Rows.laid_strings_asciiSpace : DataW Unit)) ∈ laid) (h2 : ("strconv.ErrRange", (Rows.laid_strconv_ErrRange : DataW Unit)) ∈ laid) : Gl W := by
  obtain ⟨g, t, cs, fuel, p, hg, ht, hv, hr⟩ := Lib.laidMet.reads h h1
  obtain rfl := Option.some.inj (glob_asc.symm.trans hg)
  obtain rfl := Option.some.inj ((show (Tryz.prog.globals[1]?).map (·.type) = some 291 by kernel_rfl).symm.trans ht)
  rw [asc_data] at hr
  have hcs := Lib.cells_of_tab (n := 256) Tryz.underlying291 Tryz.underlying5 (by kernel_rfl) (by kernel_rfl) hr
  have hasc : AscAt W := by
    unfold AscAt Lib.TabIs
    rw [hv, ← hcs]
  obtain ⟨g2, t2, cs2, fuel2, p2, hg2, ht2, hv2, hr2⟩ := Lib.laidMet.reads h h2
  obtain rfl := Option.some.inj (glob_rng.symm.trans hg2)
  obtain rfl := Option.some.inj ((show (Tryz.prog.globals[4]?).map (·.type) = some 111 by kernel_rfl).symm.trans ht2)
  obtain ⟨f3, u, v, hcs2, _, _⟩ := iface_of_trod Tryz.underlying111 hr2
  have hrng : W.cell? ⟨4, 0, none⟩ = some (.iface u v) := by
    refine World.var?_cell (cs := cs2) glob_rng hv2 0 |>.trans ?_
    have := congrArg (fun l : List Value => l[0]?) hcs2
    simpa using this
  refine ⟨hasc, ⟨u, v, hrng⟩, ?_⟩
  have l1 : 4 < W.heap.size := World.block_lt_of_cell? W ⟨4, 0, none⟩ hrng
  have l2 : 1 < W.heap.size := World.block_lt_of_cell? W ⟨1, 0, none⟩ (Lib.TabIs.cell hasc glob_asc 0 (by rw [Lib.asciiSpaceTab_length]; decide))
  unfold ng
  exact Nat.succ_le_of_lt (Nat.max_lt.2 ⟨l2, l1⟩)
theorem flatMap_get {α : Type} {enc : α → List Value} {k : Nat} (hk : ∀ x, (enc x).length = k) : ∀ (xs : List α) (j : Nat) (u : Value), (xs.flatMap enc)[j]? = some u → ∃ i x j', xs[i]? = some x ∧ (enc x)[j']? = some u ∧ j = i * k + j'
  | [], j, u, h => by simp at h
  | x :: r, j, u, h => by
    rw [List.flatMap_cons] at h
    by_cases hj : j < (enc x).length
    · rw [List.getElem?_append_left hj] at h
      exact ⟨0, x, j, rfl, h, by omega⟩
    · rw [List.getElem?_append_right (by omega)] at h
      obtain ⟨i, y, j', h1, h2, h3⟩ := flatMap_get hk r _ u h
      rw [hk] at h3 hj
      exact ⟨i + 1, y, j', by simpa using h1, h2, by rw [Nat.add_mul]; omega⟩
theorem flat_at4 {α : Type} {enc : α → List Value} {k : Nat} {hp : 0 < k} {hk : ∀ x, (enc x).length = k} {h1 : ∀ x, ∀ v ∈ enc x, v.oneCell' = true} {w : World} {F : Nat → Prop} (xs : List α) (b off : Nat) (hb : F b)
    (h : ∀ i x, xs[i]? = some x → ∀ j u, (enc x)[j]? = some u → w.cell? ⟨b, off + i * k + j, none⟩ = some u) : (flatD enc k hp hk h1).At w F (some ⟨b, off, none⟩) xs := by
  refine ⟨xs.flatMap enc, flatD_of xs, fun _ => ⟨b, off, rfl, hb, fun j u hu => ?_⟩⟩
  obtain ⟨i, x, j', h2, h3, rfl⟩ := flatMap_get hk xs j u hu
  rw [← Nat.add_assoc]
  exact h i x h2 j' u h3
theorem weights_all {P : Program} {H : Type} {t e : TypeId} (hu : P.underlying t = some (.slice e)) {m n : Nat} {D : Nat → DataW H} {by' : Nat} (hb : P.bytesOf e = by') (hn : n ≤ m)
    (hsz : ((DataW.slice ((List.range n).map D) ((List.range (m - n)).map fun j => D (n + j))).weights P t).all (fun x => decide (x ≤ reachBytes)) = true) : n * by' ≤ reachBytes := by
  have := List.all_eq_true.1 hsz ((((List.range n).map D).length + ((List.range (m - n)).map fun j => D (n + j)).length) * P.bytesOf e) (by simp only [DataW.weights, hu, List.mem_cons, true_or])
  have h2 := of_decide_eq_true this
  rw [hb] at h2
  simp at h2
  exact Nat.le_trans (Nat.mul_le_mul_right _ (by omega)) h2
end Go.Proofs.YtpibenilagloaaaGreatDoor

namespace Go.Proofs.YtpibenilagloaaaGreatDoor
open Go.RowKit
set_option linter.unusedVariables false
def idByB (c : UInt8) : Bool := decide (97 ≤ c.toNat ∧ c.toNat ≤ 122) || decide (65 ≤ c.toNat ∧ c.toNat ≤ 90) || decide (48 ≤ c.toNat ∧ c.toNat ≤ 57) || decide (c.toNat = 95)
set_option maxRecDepth 100000 in
set_option maxHeartbeats 1600000 in
theorem isIdentByte_any (c : UInt8) (w : World) : Calls Tryz.prog 49 #[.int .u8 (c.toNat : Int)] w fun e w' => e = .returned (.bool (idByB c)) ∧ w' = w := by
  have h1 := byte_lt c
  unfold idByB
  generalize c.toNat = n at *
  go_enter Tryz.func49, Tryz.ntmps49
  go_wp2_with fail
  all_goals
    go_ret
    refine ⟨ret_bool ?_, rfl⟩
    rw [Bool.eq_iff_iff]
    simp
    try omega

def idLen (s : ByteArray) (o : Nat) : Nat := ((s.data.toList.drop o).takeWhile idByB).length
theorem takeWhile_len {α : Type} (p : α → Bool) : ∀ (l : List α) (n : Nat), (∀ t (h : t < n), ∃ x, l[t]? = some x ∧ p x = true) → (∀ x, l[n]? = some x → p x = false) → (l.takeWhile p).length = n
  | [], 0, _, _ => rfl
  | [], n + 1, h, _ => by obtain ⟨x, hx, _⟩ := h 0 (Nat.succ_pos _); cases hx
  | y :: r, 0, _, h => by rw [List.takeWhile_cons, if_neg (by rw [h y rfl]; decide)]; rfl
  | y :: r, n + 1, h1, h2 => by
    obtain ⟨x, hx, hp⟩ := h1 0 (Nat.succ_pos _)
    simp at hx; subst hx
    rw [List.takeWhile_cons, if_pos hp, List.length_cons, takeWhile_len p r n (fun t ht => by simpa using h1 (t + 1) (by omega)) (fun x hx => h2 x (by simpa using hx))]
set_option maxRecDepth 100000 in
set_option maxHeartbeats 1600000 in
theorem identLen_any (s : ByteArray) (o : Nat) (w : World) (ho : o ≤ s.size) (hm : s.size ≤ 2000) :
    Calls Tryz.prog 20 #[.string s, .int .i64 (o : Int)] w fun e w' => e = .returned (.int .i64 (idLen s o : Nat)) ∧ w' = w := by
  have h0 : (0 : Int) ≤ o := by omega
  go_enter Tryz.func20, Tryz.ntmps20
  go_wp2_with fail
  go_loopw [5] (fun i wr => ∃ n : Nat, i = .int .i64 (n : Int) ∧ o + n ≤ s.size ∧ (∀ t, t < n → ∃ x, (s.data.toList.drop o)[t]? = some x ∧ idByB x = true) ∧ wr = w) (fun i _ => s.size - (intOf i).toNat)
  case atStart => exact ⟨0, rfl, by omega, fun t ht => by omega, rfl⟩
  case round =>
    obtain ⟨n, rfl, hn, hall, hb⟩ := hrel
    have HA := Lib.hid hall
    have HB := Lib.hid hb
    have hw1 : IntKind.i64.wrap ((o : Int) + n) = ((o + n : Nat) : Int) := by rw [IntWalk.i64_in _ (by omega)]; omega
    clear hall hb
    by_cases hlt : o + n < s.size
    · have hltI : ((o + n : Nat) : Int) < s.size := by omega
      have hg : (s.data.toList.drop o)[n]? = some s[o + n] := by
        rw [List.getElem?_drop, Array.getElem?_toList]
        exact Array.getElem?_eq_getElem (show o + n < s.data.size from hlt)
      have HG := Lib.hid hg
      clear hg
      generalize hcc : s[o + n] = c at *
      have HI := Lib.hid (isIdentByte_any c)
      cases hp : idByB c with
      | true =>
        have HP := Lib.hid hp
        rw [hp] at HI
        clear hp
        go_wp2_with fail
        refine (HI.out _).mono ?_
        rintro r w2 ⟨rfl, rfl⟩
        go_wp2_with fail
        go_roundw
        case rel => exact ⟨n + 1, by go_num, by omega, fun t ht => by
          by_cases k : t < n
          · exact HA.out t k
          · obtain rfl : t = n := by omega
            exact ⟨c, HG.out, HP.out⟩, HB.out⟩
        case measure => simp [intOf]; omega
      | false =>
        have HP := Lib.hid hp
        rw [hp] at HI
        clear hp
        go_wp2_with fail
        refine (HI.out _).mono ?_
        rintro r w2 ⟨rfl, rfl⟩
        go_wp2_with fail
        go_ret
        refine ⟨?_, HB.out⟩
        have e : idLen s o = n := takeWhile_len idByB _ n HA.out (fun x hx => by rw [HG.out] at hx; injection hx with hx; rw [← hx]; exact HP.out)
        rw [e]; rfl
    · have hltI : ¬ ((o + n : Nat) : Int) < s.size := by omega
      go_wp2_with fail
      go_ret
      refine ⟨?_, HB.out⟩
      have e : idLen s o = n := takeWhile_len idByB _ n HA.out (fun x hx => by
        have h1 := (List.getElem?_eq_some_iff.1 hx).1
        rw [List.length_drop, Array.length_toList] at h1
        have h2 : s.data.size = s.size := rfl
        omega)
      rw [e]; rfl
end Go.Proofs.YtpibenilagloaaaGreatDoor
