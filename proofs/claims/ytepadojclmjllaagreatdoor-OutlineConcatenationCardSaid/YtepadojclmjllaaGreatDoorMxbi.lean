import Derived.Test.YtepadojclmjllaaGreatDoorMxbg
import Derived.Test.YtepadojclmjllaaGreatDoorMxbh
import Derived.Test.YtepadojclmjllaaGreatDoorShelf2
/-
  slices.SortFunc at diagnostics.
-/
namespace Go.Proofs.YtepadojclmjllaaGreatDoor
open Go.RowKit
open Go.Sort (grow grow_grow alloc_eq_grow PermIn SortedIn SWO)
set_option linter.unusedVariables false

theorem flat_div {α : Type} [Inhabited α] {enc : α → List Value} {k : Nat} (hk : ∀ x, (enc x).length = k) (ds : List α) (t : Nat) (ht : t < ds.length * k) : (ds.flatMap enc)[t]? = some ((enc ds.toArray[t / k]!)[t % k]!) := by
  have hk0 : 0 < k := by rcases Nat.eq_zero_or_pos k with h | h; (subst h; simp at ht); exact h
  have hd : t / k < ds.length := (Nat.div_lt_iff_lt_mul hk0).2 ht
  have hm : t % k < k := Nat.mod_lt _ hk0
  have e1 : ds.toArray[t / k]! = ds[t / k] := by rw [getElem!_pos _ _ (by simpa using hd)]; simp
  have e2 : (enc ds[t / k])[t % k]? = some ((enc ds[t / k])[t % k]!) := by
    rw [getElem!_pos _ _ (by rw [hk]; exact hm), List.getElem?_eq_getElem (by rw [hk]; exact hm)]
  have := flat_at hk ds (t / k) ds[t / k] (List.getElem?_eq_getElem hd) (t % k) _ e2
  rw [Nat.div_add_mod' t k] at this
  rw [this, e1]
theorem holdsK_own {α : Type} [Inhabited α] {enc : α → List Value} {k : Nat} (hk : ∀ x, (enc x).length = k) {w : World} {g cap n : Nat} {e : TypeId} {ds : List α} (hl : ds.length = n) (row : w.ownsRow 0 e k (.slice (some ⟨g, 0, none⟩) n cap) n (ds.flatMap enc)) :
    Sort.HoldsK enc k w g 0 ds.toArray := by
  intro t ht
  rw [Sort.size_flatK] at ht
  simp only [List.size_toArray] at ht
  refine ⟨?_, row.frozenAt _⟩
  rw [Nat.zero_add, row.cellAt t (by rw [← hl]; exact ht), flat_div hk ds t ht, Sort.get_flatK _ _ _ _ (by simpa using ht)]
  rfl
/-- the row behind the sort -/
theorem own_sorted {α : Type} [Inhabited α] {enc : α → List Value} {k : Nat} (hk : ∀ x, (enc x).length = k) {w : World} {g cap n : Nat} {e : TypeId} {ds ds' : List α} (hl : ds.length = n) (hl' : ds'.length = n) (row : w.ownsRow 0 e k (.slice (some ⟨g, 0, none⟩) n cap) n (ds.flatMap enc)) (m : Nat) (os : Array Obj) {w' : World} (hw : w' = sortWorldK enc k w g 0 m ds'.toArray os) :
    w'.ownsRow 0 e k (.slice (some ⟨g, 0, none⟩) n cap) n (ds'.flatMap enc) ∧ (w'.os = w.os ∧ w'.tape = w.tape ∧ w'.output = w.output) ∧ w.heap.size ≤ w'.heap.size ∧ ∀ b, b < w.heap.size → b ≠ g → w'.heap[b]? = w.heap[b]? := by
  obtain ⟨g', cap', cur, h1, h2, h3, h4, h5, h6, h7⟩ := row.2.resolve_left (by rintro ⟨h, _⟩; cases h)
  injection h1 with h1 _ h1c
  injection h1 with h1
  injection h1 with h1 _ _
  subst h1 h1c
  have hglt := lt_of_heap h3
  have hh : w'.heap = w.heap.modify g (Sort.onCells (Sort.putCells id 0 (Sort.flatK enc k ds'.toArray))) ++ os := by subst hw; rfl
  have hlen : (w.heap.modify g (Sort.onCells (Sort.putCells id 0 (Sort.flatK enc k ds'.toArray)))).size = w.heap.size := by simp
  refine ⟨⟨by rw [flat_length hk, hl'], .inr ⟨g, cap, Sort.putCells id 0 (Sort.flatK enc k ds'.toArray) cur, rfl, Nat.zero_le _, ?_, h4, h5, ?_, ?_⟩⟩, by subst hw; exact ⟨rfl, rfl, rfl⟩, by rw [hh]; simp, fun b hb hne => ?_⟩
  · rw [hh, Array.getElem?_append_left (by rw [hlen]; exact hglt), Array.getElem?_modify, if_pos rfl, h3]
    rfl
  · simp [Sort.putCells, h6]
  · have hnk : n * k ≤ cur.size := by rw [h6]; exact Nat.mul_le_mul_right _ h4
    apply List.ext_getElem?
    intro t
    by_cases ht : t < n * k
    · rw [List.getElem?_take_of_lt ht, flat_div hk ds' t (by rw [hl']; exact ht)]
      have htc : t < cur.size := by omega
      simp only [Sort.putCells, Array.getElem?_toList, Array.getElem?_mapIdx, Array.getElem?_eq_getElem htc, Option.map_some]
      rw [if_pos ⟨Nat.zero_le _, by rw [Sort.size_flatK]; simp only [List.size_toArray, hl']; omega⟩, Nat.sub_zero, Sort.get_flatK _ _ _ _ (by simp only [List.size_toArray, hl']; exact ht)]
      rfl
    · rw [List.getElem?_eq_none (by rw [List.length_take]; omega), List.getElem?_eq_none (by rw [flat_length hk, hl']; omega)]
  · rw [hh, Array.getElem?_append_left (by rw [hlen]; exact hb), Array.getElem?_modify, if_neg (fun e => hne e.symm)]

/- THE ORDER -/
theorem cmpI_eq (x y : Int) : cmpI x y = 0 ↔ x = y := by unfold cmpI; split <;> (try split) <;> constructor <;> intro h <;> omega
theorem cmpI_lt (x y : Int) : cmpI x y < 0 ↔ x < y := by unfold cmpI; split <;> (try split) <;> constructor <;> intro h <;> omega
structure CmpLaw {α : Type} (c : α → α → Int) : Prop where
  anti : ∀ x y, c y x = - c x y
  trans : ∀ x y z, c x y ≤ 0 → c y z ≤ 0 → c x z ≤ 0
theorem CmpLaw.strict {α : Type} {c : α → α → Int} (h : CmpLaw c) {x y z : α} (h1 : c x y ≤ 0) (h2 : c y z ≤ 0) (h3 : c x y < 0 ∨ c y z < 0) : c x z < 0 := by
  have h4 := h.trans x y z h1 h2
  have a1 := h.anti x y
  have a2 := h.anti y z
  have a3 := h.anti x z
  by_cases h0 : c x z = 0
  · rcases h3 with h3 | h3
    · have := h.trans y z x h2 (by omega)
      omega
    · have := h.trans z x y (by omega) h1
      omega
  · omega
theorem CmpLaw.lex {α : Type} {c d : α → α → Int} (h : CmpLaw c) (k : CmpLaw d) : CmpLaw (fun x y => if c x y = 0 then d x y else c x y) where
  anti x y := by
    have a1 := h.anti x y
    have a2 := k.anti x y
    by_cases h0 : c x y = 0
    · rw [if_pos h0, if_pos (by omega), a2]
    · rw [if_neg h0, if_neg (by omega), a1]
  trans x y z h1 h2 := by
    have a1 := h.anti x y
    have a2 := h.anti y z
    have a3 := h.anti x z
    have e1 : c x y ≤ 0 := by
      by_cases h0 : c x y = 0
      · omega
      · rw [if_neg h0] at h1; exact h1
    have e2 : c y z ≤ 0 := by
      by_cases h0 : c y z = 0
      · omega
      · rw [if_neg h0] at h2; exact h2
    by_cases c1 : c x y < 0 ∨ c y z < 0
    · have := h.strict e1 e2 c1
      rw [if_neg (by omega)]; omega
    · rw [if_pos (by omega)] at h1 h2
      have e3 := h.trans x y z e1 e2
      have e4 := h.trans z y x (by omega) (by omega)
      rw [if_pos (by omega)]
      exact k.trans x y z h1 h2
theorem CmpLaw.of {α β : Type} {c : β → β → Int} (h : CmpLaw c) (f : α → β) : CmpLaw (fun x y => c (f x) (f y)) := ⟨fun x y => h.anti _ _, fun x y z => h.trans _ _ _⟩
theorem cmpI_law : CmpLaw cmpI where
  anti x y := by unfold cmpI; split <;> split <;> (try split) <;> omega
  trans x y z := by unfold cmpI; split <;> split <;> (try split) <;> (try split) <;> (try split) <;> (try split) <;> omega
theorem CmpLaw.flip {α : Type} {c : α → α → Int} (h : CmpLaw c) : CmpLaw (fun x y => c y x) := ⟨fun x y => h.anti _ _, fun x y z h1 h2 => h.trans _ _ _ h2 h1⟩
theorem bytes_anti : ∀ (x y : List UInt8), Lib.compareBytes y x = - Lib.compareBytes x y
  | [], [] => rfl
  | [], _ :: _ => rfl
  | _ :: _, [] => rfl
  | a :: xs, b :: bs => by
    unfold Lib.compareBytes
    have ih := bytes_anti xs bs
    by_cases h1 : a < b
    · have h2 : ¬ b < a := fun h => UInt8.lt_irrefl _ (UInt8.lt_trans h1 h)
      rw [if_pos h1, if_neg h2, if_pos h1]; rfl
    · by_cases h2 : b < a
      · rw [if_pos h2, if_neg h1, if_pos h2]
      · rw [if_neg h2, if_neg h1, if_neg h1, if_neg h2, ih]
theorem bytes_trans : ∀ (x y z : List UInt8), Lib.compareBytes x y ≤ 0 → Lib.compareBytes y z ≤ 0 → Lib.compareBytes x z ≤ 0
  | [], _, [], _, _ => by simp [Lib.compareBytes]
  | [], _, _ :: _, _, _ => by simp [Lib.compareBytes]
  | _ :: _, [], _, h, _ => by simp [Lib.compareBytes] at h
  | _ :: _, _ :: _, [], _, h => by simp [Lib.compareBytes] at h
  | a :: xs, b :: bs, c :: cs, h1, h2 => by
    have ih := bytes_trans xs bs cs
    unfold Lib.compareBytes at h1 h2 ⊢
    by_cases ab : a < b
    · by_cases bc : b < c
      · rw [if_pos (UInt8.lt_trans ab bc)]; omega
      · rw [if_neg bc] at h2
        by_cases cb : c < b
        · rw [if_pos cb] at h2; omega
        · obtain rfl : b = c := UInt8.le_antisymm (UInt8.not_lt.1 cb) (UInt8.not_lt.1 bc)
          rw [if_pos ab]; omega
    · rw [if_neg ab] at h1
      by_cases ba : b < a
      · rw [if_pos ba] at h1; omega
      · obtain rfl : a = b := UInt8.le_antisymm (UInt8.not_lt.1 ba) (UInt8.not_lt.1 ab)
        rw [if_neg ba] at h1
        by_cases bc : a < c
        · rw [if_pos bc]; omega
        · rw [if_neg bc] at h2 ⊢
          by_cases cb : c < a
          · rw [if_pos cb] at h2; omega
          · rw [if_neg cb] at h2 ⊢
            exact ih h1 h2
theorem bytes_law : CmpLaw Lib.compareBytes := ⟨bytes_anti, bytes_trans⟩


theorem cmpDg_law : CmpLaw cmpDg := by
  have h1 : CmpLaw (fun a b : Dg => cmpI a.mod b.mod) := cmpI_law.of Dg.mod
  have h2 : CmpLaw (fun a b : Dg => cmpI a.s b.s) := cmpI_law.of Dg.s
  have h3 : CmpLaw (fun a b : Dg => cmpI a.e b.e) := cmpI_law.of Dg.e
  have h4 : CmpLaw (fun a b : Dg => cmpI a.code b.code) := cmpI_law.of Dg.code
  have h5 : CmpLaw (fun a b : Dg => cmpB a.nm b.nm) := bytes_law.of (fun a : Dg => a.nm.data.toList)
  have h := h1.lex (h2.lex (h3.lex (h4.lex h5)))
  have e : cmpDg = fun a b : Dg => if cmpI a.mod b.mod = 0 then (if cmpI a.s b.s = 0 then (if cmpI a.e b.e = 0 then (if cmpI a.code b.code = 0 then cmpB a.nm b.nm else cmpI a.code b.code) else cmpI a.e b.e) else cmpI a.s b.s) else cmpI a.mod b.mod := by
    funext a b
    unfold cmpDg
    simp only [orL]
    by_cases k5 : cmpB a.nm b.nm = 0
    · simp [k5]
    · simp [k5]
  rw [e]
  exact h
theorem cmpB_eq (x y : ByteArray) : cmpB x y = 0 ↔ x = y := by
  unfold cmpB
  rw [compareBytes_zero]
  constructor
  · intro h; cases x; cases y; simp_all
  · intro h; rw [h]
theorem cmpDg_eq (a b : Dg) (h : cmpDg a b = 0) : a = b := by
  unfold cmpDg at h
  simp only [orL] at h
  have g1 : cmpI a.mod b.mod = 0 := by
    by_cases k : cmpI a.mod b.mod = 0
    · exact k
    · rw [if_neg k] at h; exact absurd h k
  rw [if_pos g1] at h
  have g2 : cmpI a.s b.s = 0 := by
    by_cases k : cmpI a.s b.s = 0
    · exact k
    · rw [if_neg k] at h; exact absurd h k
  rw [if_pos g2] at h
  have g3 : cmpI a.e b.e = 0 := by
    by_cases k : cmpI a.e b.e = 0
    · exact k
    · rw [if_neg k] at h; exact absurd h k
  rw [if_pos g3] at h
  have g4 : cmpI a.code b.code = 0 := by
    by_cases k : cmpI a.code b.code = 0
    · exact k
    · rw [if_neg k] at h; exact absurd h k
  rw [if_pos g4] at h
  have g5 : cmpB a.nm b.nm = 0 := by
    by_cases k : cmpB a.nm b.nm = 0
    · exact k
    · rw [if_neg k] at h; exact h
  rw [cmpI_eq] at g1 g2 g3 g4
  rw [cmpB_eq] at g5
  cases a; cases b
  simp_all
/-- a comparison's 'less' is a strict weak order -/
theorem CmpLaw.swo {α : Type} {c : α → α → Int} (h : CmpLaw c) : SWO (ltOf c) where
  irrefl x := by have := h.anti x x; unfold ltOf; rw [decide_eq_false_iff_not]; omega
  trans x y z h1 h2 := by
    unfold ltOf at *
    rw [decide_eq_true_eq] at *
    have a1 := h.anti x y
    have e := h.strict (x := x) (y := y) (z := z) (by omega) (by omega) (.inl h1)
    omega
  ntrans x y z h1 h2 := by
    unfold ltOf at *
    rw [decide_eq_false_iff_not] at *
    have a1 := h.anti x y
    have a2 := h.anti y z
    have a3 := h.anti x z
    have := h.trans z y x (by omega) (by omega)
    omega
/-- sorted diagnostics -/
def sortDg (ds : List Dg) : List Dg := ds.mergeSort fun x y => !(ltOf cmpDg) y x
theorem sortDg_len (ds : List Dg) : (sortDg ds).length = ds.length := List.length_mergeSort _
/-- what the sort leaves: the row anew; nothing else that was there -/
def SrtPost (w : World) (g cap n : Nat) (ds : List Dg) (e : Ending) (w' : World) : Prop :=
  e = .returned (.tuple #[]) ∧ w'.ownsRow 0 62 5 (.slice (some ⟨g, 0, none⟩) n cap) n (ds.flatMap Dg.cells) ∧ (w'.os = w.os ∧ w'.tape = w.tape ∧ w'.output = w.output) ∧ w.heap.size ≤ w'.heap.size ∧ ∀ b, b < w.heap.size → b ≠ g → w'.heap[b]? = w.heap[b]?
theorem sort_any (w : World) (g cap n : Nat) (ds : List Dg) (hl : ds.length = n) (hb : n ≤ 1000000) (row : w.ownsRow 0 62 5 (.slice (some ⟨g, 0, none⟩) n cap) n (ds.flatMap Dg.cells)) :
    Calls Tryz.prog 21 #[.slice (some ⟨g, 0, none⟩) n cap, .func (.func 22) #[] #[]] w (SrtPost w g cap n (sortDg ds)) := by
  have eg : ∀ args w, (callFunc 22 args).run Tryz.prog w = .ok (.enter 22 args) w := enters_of Tryz.func22 (by kernel_rfl) rfl
  have hcmp : CmpLays Tryz.prog 22 #[] Dg.cells 5 cmpDg g 0 ds.toArray.size w := fun _ _ _ _ x y => cmpDg_any x y _
  have hglt := (row.lt g rfl).2
  have hcon := AnyQ.slices_SortFunc_total Tryz.sortDg 5 Tryz.isAgg62 Tryz.sizeOf62 Dg.cells (fun _ => rfl) (fun x v hv => by simp [Dg.cells] at hv; rcases hv with rfl | rfl | rfl | rfl | rfl <;> rfl) cmpDg cmpDg_law.swo 22 #[] g 0 cap ds.toArray w eg hcmp (holdsK_own Dg.cells_len hl row) hglt (by simp only [List.size_toArray, hl]; omega)
    (fun x y h1 h2 => by
      unfold ltOf at h1 h2
      rw [decide_eq_false_iff_not] at h1 h2
      have := cmpDg_law.anti x y
      exact cmpDg_eq x y (by omega))
  simp only [List.size_toArray, hl] at hcon
  refine Calls.mono (show Calls Tryz.prog 21 _ _ _ from hcon) ?_
  rintro e w' ⟨rfl, m, os, hw⟩
  exact ⟨rfl, own_sorted Dg.cells_len hl (by rw [sortDg_len, hl]) row m os hw⟩
theorem sort_none (w : World) (p : Option Addr) (cap : Nat) (fv : Value) :
    Calls Tryz.prog 21 #[.slice p 0 cap, fv] w fun e w' => e = .returned (.tuple #[]) ∧ w' = w :=
  AnyF.slices_SortFunc_none { Tryz.sortDg with } p cap fv w
end Go.Proofs.YtepadojclmjllaaGreatDoor
