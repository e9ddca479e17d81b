/-
  THE PLAIN LAWS of Transform, second part: both orders meet; disjoint lists. No Go.
-/
import Derived.Test.YtbnoejdhachhhaaPTrf
namespace Go.Proofs.Ytbnoejdhachhhaa
open Go.RowKit

theorem trLoop_sides (l L R : List UInt8) : ∀ (d i : Nat) (s : TS), l.length - i = d → i ≤ l.length → Side l L s.el s.ol s.ml i → Side l R s.er s.or_ s.mr i →
    Side2 l L (trLoop (l.drop i) i s).el (trLoop (l.drop i) i s).ol (trLoop (l.drop i) i s).ml l.length ∧ Side2 l R (trLoop (l.drop i) i s).er (trLoop (l.drop i) i s).or_ (trLoop (l.drop i) i s).mr l.length := by
  intro d
  induction d with
  | zero =>
    intro i s hd hi hL hR
    have e : i = l.length := by omega
    subst e
    rw [List.drop_length]
    refine ⟨Side.ins (m' := (trIns s l.length).ml) hL ?_, Side.ins (m' := (trIns s l.length).mr) hR ?_⟩
    · simp only [trLoop, trIns, insL, insR, ret_append, ret_ins, List.append_nil]
    · simp only [trLoop, trIns, insL, insR, ret_append, ret_ins, List.append_nil]
  | succ d ih =>
    intro i s hd hi hL hR
    have hl : i < l.length := by omega
    rw [drop_cons l i hl]
    have hL2 := Side.ins (m' := (trIns s i).ml) hL (by simp only [trIns, insL, insR, ret_append, ret_ins, List.append_nil])
    have hR2 := Side.ins (m' := (trIns s i).mr) hR (by simp only [trIns, insL, insR, ret_append, ret_ins, List.append_nil])
    have hL3 := hL2.keep (m' := (trRound s i l[i]).ml) hl (delRes s.er i) rfl
    have hR3 := hR2.keep (m' := (trRound s i l[i]).mr) hl (delRes s.el i) (by
      show ret (if delRes s.el i = false ∧ delRes s.er i = false then _ else _) = ret (if delRes s.er i = false ∧ delRes s.el i = false then _ else _)
      by_cases h1 : delRes s.el i = false
      · by_cases h2 : delRes s.er i = false
        · rw [if_pos ⟨h1, h2⟩, if_pos ⟨h2, h1⟩]; rfl
        · rw [if_neg (fun q => h2 q.2), if_neg (fun q => h2 q.1)]; rfl
      · rw [if_neg (fun q => h1 q.1), if_neg (fun q => h1 q.2)]; rfl)
    have := ih (i + 1) (trRound s i l[i]) (by omega) (by omega) hL3 hR3
    rw [show ((i + 1 : Nat) : Int) = (i : Int) + 1 from by omega] at this
    exact this

theorem insO_vals (t : List UInt8) : ∀ o : Int, (insO t o).map TB.v = t := by
  induction t with
  | nil => intro o; rfl
  | cons b bs ih => intro o; simp [insO, ih]
/-- the bytes that the rounds emit -/
def emit : List UInt8 → Int → List Ed → List Ed → List UInt8
  | [], i, a, b => hit a i ++ hit b i
  | v :: vs, i, a, b => hit a i ++ hit b i ++ ((if delRes a i = false ∧ delRes b i = false then [v] else []) ++ emit vs (i + 1) (delDrop a i) (delDrop b i))
theorem trLoop_vals (vs : List UInt8) : ∀ (i : Int) (s : TS), (trLoop vs i s).ml.map TB.v = s.ml.map TB.v ++ emit vs i s.el s.er ∧ (trLoop vs i s).mr.map TB.v = s.mr.map TB.v ++ emit vs i s.el s.er := by
  induction vs with
  | nil =>
    intro i s
    simp only [trLoop, trIns, insL, insR, emit, List.map_append, insO_vals, ins_vals, List.append_assoc]
    exact ⟨trivial, trivial⟩
  | cons v vs ih =>
    intro i s
    obtain ⟨h1, h2⟩ := ih (i + 1) (trRound s i v)
    simp only [trLoop, emit]
    rw [h1, h2]
    have e1 : (trRound s i v).el = delDrop s.el i := rfl
    have e2 : (trRound s i v).er = delDrop s.er i := rfl
    rw [e1, e2]
    generalize emit vs (i + 1) (delDrop s.el i) (delDrop s.er i) = E
    simp only [trRound, keepB, delLR, trIns, insL, insR]
    by_cases hd : delRes s.el i = false ∧ delRes s.er i = false
    · rw [if_pos hd, if_pos hd, if_pos hd]
      simp only [List.map_append, insO_vals, ins_vals, List.append_assoc, List.map_cons, List.map_nil]
      exact ⟨trivial, trivial⟩
    · rw [if_neg hd, if_neg hd, if_neg hd]
      simp only [List.map_append, insO_vals, ins_vals, List.append_assoc, List.nil_append]
      exact ⟨trivial, trivial⟩

theorem trfC_zero {src : ByteArray} {a b : List Ed} (h : trfC src a b = 0) : valT src.size a = 0 ∧ valT src.size b = 0 ∧ (trS src a b).ml.length ≤ 2000 ∧ (trL src a b).length ≤ 50 ∧ (trR src a b).length ≤ 50 ∧ trfL src a b = trL src a b ∧ trfR src a b = trR src a b := by
  have hc := h
  unfold trfC at h
  split at h
  · rename_i h1
    split at h
    · rename_i h2
      split at h
      · omega
      · exact ⟨h1, h2, by omega, by omega, by omega, by rw [trfL, if_pos hc], by rw [trfR, if_pos hc]⟩
    · contradiction
  · contradiction

theorem side0 {src : ByteArray} {a : List Ed} (h : valT src.size a = 0) : Side src.data.toList (applyL src.data.toList a 0) a 0 [] 0 := by
  obtain ⟨h1, h2, h3, h4⟩ := valT_ok4 h
  obtain ⟨k1, k2⟩ := rem_ok (l := src.data.toList) (i := 0) h3 (by omega)
  refine ⟨by rw [size_data]; exact k1, 0, rfl, by rw [k2]; rfl, ?_, ?_⟩
  · intro y hy; cases hy
  · exact List.Pairwise.nil
theorem Side2.wf {l R : List UInt8} {es : List Ed} {o : Int} {m : List TB} {i : Nat} (h : Side2 l R es o m i) : WF (traceL R) (traceL R).length 0 m := by
  obtain ⟨_, k, _, _, h1, h2⟩ := h
  refine ⟨fun y hy => ?_, h2⟩
  obtain ⟨g1, g2, g3⟩ := h1 y hy
  have := (List.getElem?_eq_some_iff.1 g3).1
  exact ⟨g1, g1, by omega, g3⟩

theorem trf_law {src : ByteArray} {a b : List Ed} (h : trfC src a b = 0) :
    valT src.size a = 0 ∧ valT src.size b = 0 ∧ valT (applyB src a).size (trfR src a b) = 0 ∧ valT (applyB src b).size (trfL src a b) = 0 ∧
      (applyB (applyB src a) (trfR src a b)).data.toList = emit src.data.toList 0 a b ∧ applyB (applyB src b) (trfL src a b) = applyB (applyB src a) (trfR src a b) := by
  obtain ⟨h1, h2, h3, h4, h5, h6, h7⟩ := trfC_zero h
  rw [h6, h7]
  have hs := trLoop_sides src.data.toList (applyL src.data.toList a 0) (applyL src.data.toList b 0) _ 0 ⟨a, b, 0, 0, [], []⟩ rfl (by omega) (side0 h1) (side0 h2)
  have hv := trLoop_vals src.data.toList 0 ⟨a, b, 0, 0, [], []⟩
  have e : trLoop (src.data.toList.drop 0) ((0 : Nat) : Int) ⟨a, b, 0, 0, [], []⟩ = trS src a b := rfl
  have e' : trLoop src.data.toList 0 ⟨a, b, 0, 0, [], []⟩ = trS src a b := rfl
  rw [e] at hs
  rw [e'] at hv
  simp only [List.map_nil, List.nil_append] at hv
  have hw1 := hs.1.wf
  have hw2 := hs.2.wf
  rw [← applyB_data h1] at hw1
  rw [← applyB_data h2] at hw2
  have hlen : (trS src a b).mr.length = (trS src a b).ml.length := by
    have := congrArg List.length (hv.2.trans hv.1.symm)
    rwa [List.length_map, List.length_map] at this
  obtain ⟨k1, _, k2⟩ := canon_law hw1 (applyB_le src a) h3 h5
  obtain ⟨j1, _, j2⟩ := canon_law hw2 (applyB_le src b) (by omega) h4
  refine ⟨h1, h2, k1, j1, k2.trans hv.1, ?_⟩
  apply ba_ext
  exact (j2.trans hv.2).trans (k2.trans hv.1).symm

/-! ### disjoint lists -/
theorem OkFrom.mem {n : Int} {b : List Ed} : ∀ {p : Int}, OkFrom n b p → ∀ y ∈ b, p < y.s ∧ y.s ≤ y.e := by
  induction b with
  | nil => intro p _ y hy; cases hy
  | cons z zs ih =>
    intro p h y hy
    obtain ⟨h1, h2, h3, h4⟩ := h
    rcases List.mem_cons.1 hy with rfl | hy
    · exact ⟨h1, h2⟩
    · have := ih h4 y hy; exact ⟨by omega, this.2⟩
theorem OkFrom.append {n : Int} {a b : List Ed} : ∀ {p : Int}, OkFrom n (a ++ b) p → (∀ x ∈ a, ∀ y ∈ b, x.e < y.s) ∧ (∀ y ∈ b, p < y.s ∧ y.s ≤ y.e) := by
  induction a with
  | nil =>
    intro p h
    refine ⟨fun x hx => (by cases hx), ?_⟩
    exact OkFrom.mem h
  | cons x xs ih =>
    intro p h
    obtain ⟨h1, h2, h3, h4⟩ := h
    obtain ⟨i1, i2⟩ := ih h4
    refine ⟨fun z hz y hy => ?_, fun y hy => ⟨by have := (i2 y hy).1; omega, (i2 y hy).2⟩⟩
    rcases List.mem_cons.1 hz with rfl | hz
    · exact (i2 y hy).1
    · exact i1 z hz y hy

def Disj (a b : List Ed) : Prop := (∀ x ∈ a, ∀ y ∈ b, x.e < y.s) ∧ (∀ y ∈ b, y.s ≤ y.e)
theorem Disj.drop {a b : List Ed} (h : Disj a b) (i : Int) : Disj (delDrop a i) (delDrop b i) :=
  ⟨fun x hx y hy => h.1 x (delDrop_sub hx) y (delDrop_sub hy), fun y hy => h.2 y (delDrop_sub hy)⟩
theorem disj_round {n : Int} {a b : List Ed} {i : Int} (hd : Disj a b) (hok : OkAt n (a ++ b) i) :
    hit (a ++ b) i = hit a i ++ hit b i ∧ delDrop (a ++ b) i = delDrop a i ++ delDrop b i ∧ (delRes (a ++ b) i = false ↔ delRes a i = false ∧ delRes b i = false) := by
  cases a with
  | nil => exact ⟨rfl, rfl, by simp [delRes, delDrop]⟩
  | cons x xs =>
    cases b with
    | nil =>
      rw [List.append_nil]
      refine ⟨by simp [hit], by simp [delDrop], by simp [delRes, delDrop]⟩
    | cons y ys =>
      have h1 : i ≤ x.e := hok.1
      have h2 := hd.1 x (by simp) y (by simp)
      have h3 := hd.2 y (by simp)
      have hb : delDrop (y :: ys) i = y :: ys := by unfold delDrop; rw [List.dropWhile_cons_of_neg (by simp; omega)]
      have hr : delRes (y :: ys) i = false := by unfold delRes; rw [hb]; simp; omega
      have hh : hit (y :: ys) i = [] := by simp only [hit]; rw [if_neg (by omega)]
      have hdd : delDrop ((x :: xs) ++ (y :: ys)) i = delDrop (x :: xs) i ++ (y :: ys) := by
        unfold delDrop at *
        rw [List.dropWhile_append, hb]
        split
        · rename_i he
          rw [List.isEmpty_iff.1 he]; rfl
        · rfl
      refine ⟨by rw [hh, List.append_nil]; rfl, by rw [hdd, hb], ?_⟩
      rw [hr]
      unfold delRes
      rw [hdd]
      cases hc : delDrop (x :: xs) i with
      | nil => simp; omega
      | cons z zs => simp
theorem emit_disj {l : List UInt8} : ∀ (d i : Nat) (a b : List Ed), l.length - i = d → i ≤ l.length → Disj a b → OkAt l.length (a ++ b) i → emit (l.drop i) i a b = rem l (a ++ b) i := by
  intro d
  induction d with
  | zero =>
    intro i a b hdi hi hd hok
    have e : i = l.length := by omega
    subst e
    obtain ⟨h1, _, _⟩ := disj_round hd hok
    rw [List.drop_length, rem_hit, rem_end hok, List.append_nil, h1]
    rfl
  | succ d ih =>
    intro i a b hdi hi hd hok
    have hl : i < l.length := by omega
    obtain ⟨h1, h2, h3⟩ := disj_round hd hok
    obtain ⟨g1, g2⟩ := rem_round hok hl
    rw [drop_cons l i hl, rem_hit, g2, h1]
    simp only [emit]
    have := ih (i + 1) (delDrop a i) (delDrop b i) (by omega) (by omega) (hd.drop i) (by rw [← h2]; exact g1)
    rw [show ((i + 1 : Nat) : Int) = (i : Int) + 1 from by omega] at this
    rw [this, ← h2]
    congr 2
    by_cases hc : delRes (a ++ b) i = false
    · rw [if_pos hc, if_pos (h3.1 hc)]
    · rw [if_neg hc, if_neg (fun q => hc (h3.2 q))]

theorem disj_law {src : ByteArray} {a b : List Ed} (h : trfC src a b = 0) (hv : valT src.size (a ++ b) = 0) :
    valT src.size a = 0 ∧ valT (applyB src a).size (trfR src a b) = 0 ∧ applyB (applyB src a) (trfR src a b) = applyB src (a ++ b) := by
  obtain ⟨k1, k2, k3, k4, k5, k6⟩ := trf_law h
  obtain ⟨h1, h2, h3, h4⟩ := valT_ok4 hv
  obtain ⟨g1, g2⟩ := h3.append
  obtain ⟨r1, r2⟩ := rem_ok (l := src.data.toList) (i := 0) h3 (by omega)
  refine ⟨k1, k3, ?_⟩
  apply ba_ext
  rw [k5, applyB_data hv, ← r2]
  exact emit_disj _ 0 a b rfl (by omega) ⟨g1, fun y hy => (g2 y hy).2⟩ (by rw [size_data]; exact r1)
end Go.Proofs.Ytbnoejdhachhhaa
