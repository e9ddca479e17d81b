/-
  textedit.Transform: the walk.
-/
import Derived.Test.YtbnoejdhachhhaaDel
namespace Go.Proofs.Ytbnoejdhachhhaa
open Go.RowKit

structure TS where
  el : List Ed
  er : List Ed
  ol : Int
  or_ : Int
  ml : List TB
  mr : List TB
def insL (s : TS) (i : Int) : TS := { s with ol := s.ol + (hit s.el i).length, ml := s.ml ++ insO (hit s.el i) s.ol, mr := s.mr ++ ins (hit s.el i) }
def insR (s : TS) (i : Int) : TS := { s with or_ := s.or_ + (hit s.er i).length, mr := s.mr ++ insO (hit s.er i) s.or_, ml := s.ml ++ ins (hit s.er i) }
def delLR (s : TS) (i : Int) : TS := { s with el := delDrop s.el i, er := delDrop s.er i }
def keepB (s : TS) (v : UInt8) (dl dr : Bool) : TS :=
  { s with ml := if dl = false ∧ dr = false then s.ml ++ [⟨v, s.ol⟩] else s.ml, mr := if dl = false ∧ dr = false then s.mr ++ [⟨v, s.or_⟩] else s.mr, ol := if dl = false then s.ol + 1 else s.ol, or_ := if dr = false then s.or_ + 1 else s.or_ }
def trIns (s : TS) (i : Int) : TS := insR (insL s i) i
def trRound (s : TS) (i : Int) (v : UInt8) : TS := keepB (delLR (trIns s i) i) v (delRes s.el i) (delRes s.er i)
def trLoop : List UInt8 → Int → TS → TS
  | [], i, s => trIns s i
  | v :: vs, i, s => trLoop vs (i + 1) (trRound s i v)

/-- the mergers in memory -/
def TwoS (w : World) (B bl br : Nat) (s : TS) : Prop := ∃ Al Ar cl cr vl vr, Two w B bl br Al Ar cl cr vl vr s.el s.er s.ol s.or_ s.ml s.mr
/-- sizes at the head of round i -/
def Sized (s : TS) (i : Nat) : Prop := (∀ x ∈ s.el, x.t.size ≤ 4001) ∧ (∀ x ∈ s.er, x.t.size ≤ 4001) ∧ 0 ≤ s.ol ∧ s.ol ≤ i * 4002 ∧ 0 ≤ s.or_ ∧ s.or_ ≤ i * 4002 ∧ s.ml.length ≤ i * 8003 ∧ s.mr.length ≤ i * 8003
theorem hit_le {es : List Ed} (h : ∀ x ∈ es, x.t.size ≤ 4001) (i : Int) : (hit es i).length ≤ 4001 := by
  unfold hit
  cases es with
  | nil => simp
  | cons x xs =>
    simp only
    split
    · rw [Array.length_toList]; exact h x (by simp)
    · simp
theorem delDrop_sub {es : List Ed} {i : Int} {x : Ed} (h : x ∈ delDrop es i) : x ∈ es := (List.dropWhile_sublist _).subset h
theorem Sized.round {s : TS} {i : Nat} (h : Sized s i) (j : Int) (v : UInt8) : Sized (trRound s j v) (i + 1) := by
  obtain ⟨h1, h2, h3, h4, h5, h6, h7, h8⟩ := h
  have a := hit_le h1 j
  have b := hit_le h2 j
  simp only [trRound, trIns, keepB, delLR, insL, insR, Sized]
  refine ⟨fun x hx => h1 x (delDrop_sub hx), fun x hx => h2 x (delDrop_sub hx), ?_, ?_, ?_, ?_, ?_, ?_⟩
  · split <;> omega
  · split <;> omega
  · split <;> omega
  · split <;> omega
  · split <;> simp only [List.length_append, insO_length, ins, List.length_map, List.length_singleton] <;> omega
  · split <;> simp only [List.length_append, insO_length, ins, List.length_map, List.length_singleton] <;> omega

theorem Origins.append {a b : List TB} (ha : Origins a) (hb : Origins b) : Origins (a ++ b) := fun x hx => by
  rcases List.mem_append.1 hx with h | h
  · exact ha x h
  · exact hb x h
theorem Origins.ins (l : List UInt8) : Origins (ins l) := fun x hx => by
  simp only [_root_.Go.Proofs.Ytbnoejdhachhhaa.ins, List.mem_map] at hx
  obtain ⟨b, _, rfl⟩ := hx
  exact .inl rfl
theorem Origins.insO (l : List UInt8) : ∀ o : Int, 0 ≤ o → o + l.length ≤ 100000000 → Origins (insO l o) := by
  induction l with
  | nil => intro o _ _ x hx; simp [_root_.Go.Proofs.Ytbnoejdhachhhaa.insO] at hx
  | cons b bs ih =>
    intro o h0 h1 x hx
    rw [List.length_cons] at h1
    simp only [_root_.Go.Proofs.Ytbnoejdhachhhaa.insO, List.mem_cons] at hx
    rcases hx with rfl | hx
    · exact .inr ⟨h0, by simp only; omega⟩
    · exact ih (o + 1) (by omega) (by omega) x hx
theorem trIns_origins {s : TS} {i : Nat} (h : Sized s i) (hi : i ≤ 2000) (ho : Origins s.ml ∧ Origins s.mr) (j : Int) : Origins (trIns s j).ml ∧ Origins (trIns s j).mr := by
  obtain ⟨h1, h2, h3, h4, h5, h6, h7, h8⟩ := h
  have a := hit_le h1 j
  have b := hit_le h2 j
  simp only [trIns, insL, insR]
  exact ⟨(ho.1.append (Origins.insO _ _ h3 (by omega))).append (Origins.ins _), (ho.2.append (Origins.ins _)).append (Origins.insO _ _ h5 (by omega))⟩
theorem trRound_origins {s : TS} {i : Nat} (h : Sized s i) (hi : i ≤ 2000) (ho : Origins s.ml ∧ Origins s.mr) (j : Int) (v : UInt8) : Origins (trRound s j v).ml ∧ Origins (trRound s j v).mr := by
  have hj := trIns_origins h hi ho j
  obtain ⟨h1, h2, h3, h4, h5, h6, h7, h8⟩ := h
  have a := hit_le h1 j
  have b := hit_le h2 j
  have hol : 0 ≤ (trIns s j).ol ∧ (trIns s j).ol ≤ 100000000 := by simp only [trIns, insL, insR]; omega
  have hor : 0 ≤ (trIns s j).or_ ∧ (trIns s j).or_ ≤ 100000000 := by simp only [trIns, insL, insR]; omega
  simp only [trRound, keepB, delLR]
  refine ⟨?_, ?_⟩
  · split
    · refine hj.1.append fun x hx => ?_
      simp at hx; subst hx; exact .inr hol
    · exact hj.1
  · split
    · refine hj.2.append fun x hx => ?_
      simp at hx; subst hx; exact .inr hor
    · exact hj.2

/-- textedit.Transform: the last state, the code -/
def trS (src : ByteArray) (a b : List Ed) : TS := trLoop src.data.toList 0 ⟨a, b, 0, 0, [], []⟩
def trL (src : ByteArray) (a b : List Ed) : List Ed := canonL (applyB src b).size (trS src a b).mr 0 []
def trR (src : ByteArray) (a b : List Ed) : List Ed := canonL (applyB src a).size (trS src a b).ml 0 []
/-- what Transform leaves of two valid lists -/
def TrRes (w : World) (src : ByteArray) (a b : List Ed) (e : Ending) (w' : World) : Prop :=
  (if 2000 < (trS src a b).ml.length ∨ 50 < (trL src a b).length ∨ 50 < (trR src a b).length then e = .returned (.tuple #[.slice none 0 0, .slice none 0 0, .int .i64 2]) else
    ∃ A c D d, e = .returned (.tuple #[.slice A (trL src a b).length c, .slice D (trR src a b).length d, .int .i64 0]) ∧ EdsAt w' w'.heap.size A (trL src a b) ∧ EdsAt w' w'.heap.size D (trR src a b)) ∧ Below w.heap.size w w'

theorem two0 (w : World) (B : Nat) (hB : B ≤ w.heap.size) (A D : Option Addr) (c d : Nat) (a b : List Ed) (ha : EdsAt w B A a) (hb : EdsAt w B D b) (hc : a.length ≤ c) (hd : b.length ≤ d) :
    TwoS ((w.alloc (.cells #[.slice A a.length c, .int .i64 0, .slice none 0 0] 69)).alloc (.cells #[.slice D b.length d, .int .i64 0, .slice none 0 0] 69)) B w.heap.size (w.heap.size + 1) ⟨a, b, 0, 0, [], []⟩ := by
  have hbl : Below B w ((w.alloc (.cells #[.slice A a.length c, .int .i64 0, .slice none 0 0] 69)).alloc (.cells #[.slice D b.length d, .int .i64 0, .slice none 0 0] 69)) := ((Below.refl _ _).alloc hB _).alloc (by simp; omega) _
  refine ⟨A, D, c, d, .slice none 0 0, .slice none 0 0, ⟨by omega, by omega, by omega⟩, ?_, ?_, ⟨hc, hd⟩, ha.below hbl, hb.below hbl, World.ownsRow_nil _ _ _ _, World.ownsRow_nil _ _ _ _, fun g hg => by simp [Value.ownBlock] at hg⟩
  · exact (Below.heap_alloc _ _ _ (by simp)).trans (heap_alloc_new _ _)
  · have := heap_alloc_new (w.alloc (.cells #[.slice A a.length c, .int .i64 0, .slice none 0 0] 69)) (.cells #[.slice D b.length d, .int .i64 0, .slice none 0 0] 69)
    rw [World.size_alloc] at this
    exact this

theorem text_le {n : Int} {es : List Ed} : ∀ {p len : Int}, valTLoop n es p len = 0 → p ≤ n → -1 ≤ p → n ≤ 2000 → -1 - p ≤ len → ∀ x ∈ es, x.t.size ≤ 4001 := by
  induction es with
  | nil => intro p len _ _ _ _ _ x hx; cases hx
  | cons y ys ih =>
    intro p len h hp hp1 hn hl x hx
    obtain ⟨⟨h1, h2, h3⟩, h4⟩ := valTLoop_cons h
    have := valTLoop_len h4 h3
    rcases List.mem_cons.1 hx with rfl | hx
    · omega
    · exact ih h4 h3 (by omega) hn (by omega) x hx

set_option maxHeartbeats 6400000 in
set_option maxRecDepth 100000 in
theorem trf_core (src : ByteArray) (A D : Option Addr) (c d : Nat) (a b : List Ed) (w : World) (ha : EdsAt w w.heap.size A a) (hb : EdsAt w w.heap.size D b) (hc : a.length ≤ c) (hd : b.length ≤ d) (hm : a.length ≤ maxLen) (hm' : b.length ≤ maxLen) (hs : Short a) (hs' : Short b) (hsrc : src.size ≤ maxLen)
    (h1 : valT src.size a = 0) (h2 : valT src.size b = 0) (ht1 : ∀ x ∈ a, x.t.size ≤ 4001) (ht2 : ∀ x ∈ b, x.t.size ≤ 4001) :
    Calls Try.prog 21 #[.string src, .slice A a.length c, .slice D b.length d] w (TrRes w src a b) := by
  have e1 : (valT src.size a != 0) = false := by simp [h1]
  have e2 : (valT src.size b != 0) = false := by simp [h2]
  obtain ⟨hn, _, _⟩ := valT_ok h1
  have HSZ : Hid (Sized ⟨a, b, 0, 0, [], []⟩ 0) := ⟨ht1, ht2, by simp, by simp, by simp, by simp, by simp, by simp⟩
  have HRA := applyB_le src a
  have HRB := applyB_le src b
  clear ht1 ht2
  go_enter Try.func21, Try.ntmps21
  go_wp2_with fail
  refine (apply_any src A c a _ ha hm hs hsrc).mono ?_
  rintro e w1 ⟨rfl, b1⟩
  have d1 := (hb.below b1).more b1.size
  go_wp2_with fail
  refine (apply_any src D d b _ d1 hm' hs' hsrc).mono ?_
  rintro e w2 ⟨rfl, hb2⟩
  have b2 := b1.trans (hb2.mono b1.size)
  have hT0 := two0 w2 w.heap.size b2.size A D c d a b (ha.below b2) (hb.below b2) hc hd
  have hbl0 : Below w.heap.size w ((w2.alloc (.cells #[.slice A a.length c, .int .i64 0, .slice none 0 0] 69)).alloc (.cells #[.slice D b.length d, .int .i64 0, .slice none 0 0] 69)) := (b2.alloc b2.size _).alloc (by have := b2.size; simp; omega) _
  have b2s := b2.size
  clear ha hb d1 b1 hb2 hs hs' b2
  go_wp2_with fail
  go_loopw [14] (fun i wr => ∃ (k : Nat) (s : TS), k ≤ src.size ∧ i = .int .i64 k ∧ TwoS wr w.heap.size w2.heap.size (w2.heap.size + 1) s ∧ Hid (Sized s k) ∧ Hid (Origins s.ml ∧ Origins s.mr) ∧ Hid (trLoop (src.data.toList.drop k) k s = trS src a b) ∧ Below w.heap.size w wr) (fun i _ => src.size + 1 - (intOf i).toNat)
  case atStart => exact ⟨0, _, Nat.zero_le _, rfl, hT0, HSZ, ⟨fun x hx => by simp at hx, fun x hx => by simp at hx⟩, rfl, hbl0⟩
  case round =>
    obtain ⟨k, s, hk, rfl, hTS, HS, HO, HL, hbr⟩ := hrel
    clear hT0 hbl0 HSZ
    obtain ⟨Al, Ar, cl, cr, vl, vr, hT⟩ := hTS
    have hbrs := hbr.size
    obtain ⟨z1, z2, z3, z4, z5, z6, z7, z8⟩ := HS.out
    have ha1 := hit_le z1 k
    have ha2 := hit_le z2 k
    have Z1 : Hid (∀ x ∈ s.el, x.t.size ≤ 10000) := fun x hx => by have := z1 x hx; omega
    have Z2 : Hid (∀ x ∈ s.er, x.t.size ≤ 10000) := fun x hx => by have := z2 x hx; omega
    clear z1 z2
    go_wp2_with fail
    refine (insert_any _ _ _ _ _ _ _ _ _ _ _ _ _ _ _ _ hT (by omega) k z3 (by omega) Z1.out (by omega) (by omega)).mono ?_
    rintro e w3 ⟨rfl, ⟨vl3, vr3, hT3⟩, hb3⟩
    have b3 := hbr.trans hb3
    have b3s := b3.size
    clear hT hb3 hbr
    go_wp2_with fail
    refine (insert_any _ _ _ _ _ _ _ _ _ _ _ _ _ _ _ _ hT3.swap (by omega) k z5 (by omega) Z2.out (by simp only [List.length_append, ins, List.length_map]; omega) (by simp only [List.length_append, insO_length]; omega)).mono ?_
    rintro e w4 ⟨rfl, ⟨vr4, vl4, hT4'⟩, hb4⟩
    have b4 := b3.trans hb4
    have b4s := b4.size
    have hT4 : Two w4 w.heap.size w2.heap.size (w2.heap.size + 1) Al Ar cl cr vl4 vr4 (trIns s k).el (trIns s k).er (trIns s k).ol (trIns s k).or_ (trIns s k).ml (trIns s k).mr := hT4'.swap
    have y1 : (trIns s k).ml.length ≤ 50000000 := by simp only [trIns, insL, insR, List.length_append, insO_length, ins, List.length_map]; omega
    have y2 : (trIns s k).mr.length ≤ 50000000 := by simp only [trIns, insL, insR, List.length_append, insO_length, ins, List.length_map]; omega
    have y3 : 0 ≤ (trIns s k).ol ∧ (trIns s k).ol ≤ 50000000 := by simp only [trIns, insL, insR]; omega
    have y4 : 0 ≤ (trIns s k).or_ ∧ (trIns s k).or_ ≤ 50000000 := by simp only [trIns, insL, insR]; omega
    clear hT4' hT3 hb4 b3 z3 z4 z5 z6 z7 z8 ha1 ha2
    by_cases hlt : k < src.size
    · have hkk : ((k : Int) == src.size) = false := by simp; omega
      have hlt3 : k < src.data.size := hlt
      have HL2 : Hid (trLoop (src.data.toList.drop (k + 1)) ((k : Int) + 1) (trRound s k src.data[k]) = trS src a b) := by
        unfold Hid; rw [← HL.out, drop_cons _ k (by rw [size_data]; exact hlt)]; simp [trLoop]
      have HS2 := Lib.hid (HS.out.round (k : Int) src.data[k])
      have HO2 := Lib.hid (trRound_origins HS.out (by omega) HO.out (k : Int) src.data[k])
      clear HS HO HL
      go_wp2_with fail
      refine (deletes_any _ _ _ _ _ _ _ _ _ _ _ _ _ _ _ _ hT4 k).mono ?_
      rintro e w5 ⟨rfl, ⟨Al5, cl5, hT5⟩, hb5⟩
      have b5 := b4.trans hb5
      go_wp2_with fail
      refine (deletes_any _ _ _ _ _ _ _ _ _ _ _ _ _ _ _ _ hT5.swap k).mono ?_
      rintro e w6 ⟨rfl, ⟨Ar6, cr6, hT6⟩, hb6⟩
      have b6 := b5.trans hb6
      have hT7 := hT6.swap
      clear hT4 hT5 hT6 b4 b4s hb5 hb6 b5
      generalize hdl : delRes (trIns s k).el k = dl at *
      generalize hdr : delRes (trIns s k).er k = dr at *
      have HR : Hid (trRound s k src.data[k] = keepB (delLR (trIns s k) k) src.data[k] dl dr) := by unfold Hid trRound; rw [← hdl, ← hdr]; rfl
      clear hdl hdr
      cases dl <;> cases dr
      · have RR : Hid (trRound s k src.data[k] = ⟨delDrop (trIns s k).el k, delDrop (trIns s k).er k, (trIns s k).ol + 1, (trIns s k).or_ + 1, (trIns s k).ml ++ [⟨src.data[k], (trIns s k).ol⟩], (trIns s k).mr ++ [⟨src.data[k], (trIns s k).or_⟩]⟩) := by unfold Hid; rw [HR.out]; rfl
        clear HR
        generalize trIns s k = si at *
        generalize delDrop si.el k = el at *
        generalize delDrop si.er k = er at *
        generalize si.ml = ml at *
        generalize si.mr = mr at *
        generalize si.ol = ol at *
        generalize si.or_ = or_ at *
        have hub : w.heap.size ≤ w6.heap.size := b6.size
        obtain ⟨⟨hb1, hb2, hb3⟩, t2, _, _, _, _, t7, _, _⟩ := id hT7
        obtain ⟨c0, c1, c2, f0, f1, f2⟩ := cell3 t2
        have hblt := lt_of_heap t2
        obtain ⟨i0, hi0, hz0, hz1, hz2⟩ := info_parts info_tb
        have hin : ∀ (o : Int), ∀ u ∈ TB.cells ⟨src.data[k], o⟩, u.oneCell' = true := by simp [TB.cells, Value.oneCell']
        have hkl : ml.length + 1 ≤ maxLen := by simp only [maxLen]; omega
        have hkb : (ml.length + 1) * 16 ≤ 140737488355328 := by omega
        have hK1 := fun (o : Obj) => cell3 ((Below.heap_alloc w6 o _ hblt).trans t2)
        have hK2 := fun (cs : Array Value) (t : TypeId) (w1 : World) (hg : ((w6.alloc (.cells cs t)).drew).grownBy w1 vl4.ownBlock) => cell3 (Kept.grown (t0 := 73) (t1 := 73) ((t7.alloc (.cells cs t)).drew) hg (.inl rfl) _ _ _ _ ((Below.heap_alloc w6 _ _ hblt).trans t2) (by decide) (by decide))
        go_wp2
        have hfin : ∀ (gg cap : Nat) (w1 : World), w1.ownsRow w.heap.size 73 2 (.slice (some ⟨gg, 0, none⟩) (ml.length + 1) cap) (ml.length + 1) (tbCells ml ++ TB.cells ⟨src.data[k], ol⟩) →
            (w6.alloc (.cells #[.int .u8 (src.data[k]).toNat, .int .i64 ol] 73)).drew.grownBy w1 vl4.ownBlock → (vl4.ownBlock = some gg ∨ gg = (w6.alloc (.cells #[.int .u8 (src.data[k]).toNat, .int .i64 ol] 73)).drew.heap.size) →
            ∃ vl2 : Value, Two (w1.setCell ⟨w2.heap.size, 2, none⟩ (.slice (some ⟨gg, 0, none⟩) (ml.length + 1) cap)) w.heap.size w2.heap.size (w2.heap.size + 1) Al5 Ar6 cl5 cr6 vl2 vr4 el er ol or_ (ml ++ [⟨src.data[k], ol⟩]) mr ∧ Below w.heap.size w (w1.setCell ⟨w2.heap.size, 2, none⟩ (.slice (some ⟨gg, 0, none⟩) (ml.length + 1) cap)) := by
          intro gg cap w1 hown1 hgrow hat
          have hp := hT7.push hub ⟨src.data[k], ol⟩ gg cap w1 hown1 hgrow hat
          exact ⟨_, hp.1.1, b6.trans hp.2⟩
        go_cut [] (fun wx => ∃ vl2 : Value, Two wx w.heap.size w2.heap.size (w2.heap.size + 1) Al5 Ar6 cl5 cr6 vl2 vr4 el er ol or_ (ml ++ [⟨src.data[k], ol⟩]) mr ∧ Below w.heap.size w wx)
        case first =>
          go_region_law
            ((refine step_append_lies _ (by rfl) _ _ _ (by rfl) w.heap.size 73 i0 _ 2 16 Try.underlying64 hi0 hz0 hz1 hz2 rfl (by omega) vl4 ml.length (tbCells ml) (by rfl) ((t7.alloc _).drew)
                ⟨w6.heap.size, 0, none⟩ 1 1 (TB.cells ⟨src.data[k], ol⟩) (by rfl) (by rfl) (World.news_of_block (cs := #[_, _]) (t := 73) (fr := (0, 0)) (heap_alloc_new _ _)) (hin _) (by omega) hkl hkb (by simp; omega) _ rfl ?_; intro gg cap w1 hown1 hgrow hat hlt; obtain ⟨_, k1, k2, _, _, k3⟩ := hK2 _ _ _ hgrow))
          all_goals
            go_wp2_with fail
            go_meet
            exact hfin _ _ _ hown1 hgrow hat
        case rest =>
          clear hfin hK1 hK2 hkl hkb t2 t7 c0 c1 c2 f0 f1 f2 hblt hT7 b6 hub
          obtain ⟨vl7, hT8, b8⟩ := hcut
          have hub : w.heap.size ≤ wc.heap.size := b8.size
          obtain ⟨⟨_, _, _⟩, _, t3, _, _, _, _, t8, _⟩ := id hT8
          obtain ⟨c0, c1, c2, f0, f1, f2⟩ := cell3 t3
          have hblt := lt_of_heap t3
          have hkl : mr.length + 1 ≤ maxLen := by simp only [maxLen]; omega
          have hkb : (mr.length + 1) * 16 ≤ 140737488355328 := by omega
          have hK1 := fun (o : Obj) => cell3 ((Below.heap_alloc wc o _ hblt).trans t3)
          have hK2 := fun (cs : Array Value) (t : TypeId) (w1 : World) (hg : ((wc.alloc (.cells cs t)).drew).grownBy w1 vr4.ownBlock) => cell3 (Kept.grown (t0 := 73) (t1 := 73) ((t8.alloc (.cells cs t)).drew) hg (.inl rfl) _ _ _ _ ((Below.heap_alloc wc _ _ hblt).trans t3) (by decide) (by decide))
          go_wp2
          have hfin : ∀ (gg cap : Nat) (w1 : World), w1.ownsRow w.heap.size 73 2 (.slice (some ⟨gg, 0, none⟩) (mr.length + 1) cap) (mr.length + 1) (tbCells mr ++ TB.cells ⟨src.data[k], or_⟩) →
              (wc.alloc (.cells #[.int .u8 (src.data[k]).toNat, .int .i64 or_] 73)).drew.grownBy w1 vr4.ownBlock → (vr4.ownBlock = some gg ∨ gg = (wc.alloc (.cells #[.int .u8 (src.data[k]).toNat, .int .i64 or_] 73)).drew.heap.size) →
              ∃ vr2 : Value, Two (w1.setCell ⟨w2.heap.size + 1, 2, none⟩ (.slice (some ⟨gg, 0, none⟩) (mr.length + 1) cap)) w.heap.size w2.heap.size (w2.heap.size + 1) Al5 Ar6 cl5 cr6 vl7 vr2 el er ol or_ (ml ++ [⟨src.data[k], ol⟩]) (mr ++ [⟨src.data[k], or_⟩]) ∧ Below w.heap.size w (w1.setCell ⟨w2.heap.size + 1, 2, none⟩ (.slice (some ⟨gg, 0, none⟩) (mr.length + 1) cap)) := by
            intro gg cap w1 hown1 hgrow hat
            have hp := hT8.swap.push hub ⟨src.data[k], or_⟩ gg cap w1 hown1 hgrow hat
            exact ⟨_, hp.1.1.swap, b8.trans hp.2⟩
          go_cut [] (fun wx => ∃ vr2 : Value, Two wx w.heap.size w2.heap.size (w2.heap.size + 1) Al5 Ar6 cl5 cr6 vl7 vr2 el er ol or_ (ml ++ [⟨src.data[k], ol⟩]) (mr ++ [⟨src.data[k], or_⟩]) ∧ Below w.heap.size w wx)
          case first =>
            go_region_law
              ((refine step_append_lies _ (by rfl) _ _ _ (by rfl) w.heap.size 73 i0 _ 2 16 Try.underlying64 hi0 hz0 hz1 hz2 rfl (by omega) vr4 mr.length (tbCells mr) (by rfl) ((t8.alloc _).drew)
                  ⟨wc.heap.size, 0, none⟩ 1 1 (TB.cells ⟨src.data[k], or_⟩) (by rfl) (by rfl) (World.news_of_block (cs := #[_, _]) (t := 73) (fr := (0, 0)) (heap_alloc_new _ _)) (hin _) (by omega) hkl hkb (by simp; omega) _ rfl ?_; intro gg cap w1 hown1 hgrow hat hlt; obtain ⟨_, k1, k2, _, _, k3⟩ := hK2 _ _ _ hgrow))
            all_goals
              go_wp2_with fail
              go_meet
              exact hfin _ _ _ hown1 hgrow hat
          case rest =>
            clear hfin hK1 hK2 hkl hkb t3 t8 c0 c1 c2 f0 f1 f2 hblt hT8 b8 hub
            obtain ⟨vr7, hT9, b9⟩ := hcut
            obtain ⟨_, t2, t3, _⟩ := id hT9
            obtain ⟨c0, c1, c2, f0, f1, f2⟩ := cell3 t2
            obtain ⟨d0, d1, d2, g0, g1, g2⟩ := cell3 t3
            have hT10 := Lib.hid ((hT9.setOff (ol + 1)).swap.setOff (or_ + 1)).swap
            have hb10 := Lib.hid ((b9.setCell (p := ⟨w2.heap.size, 1, none⟩) (by show w.heap.size ≤ w2.heap.size; omega) (.int .i64 (ol + 1))).setCell (p := ⟨w2.heap.size + 1, 1, none⟩) (by show w.heap.size ≤ w2.heap.size + 1; omega) (.int .i64 (or_ + 1)))
            clear hT9 t2 t3 b9
            go_wp2
            go_roundw
            case rel => exact ⟨k + 1, trRound s k src.data[k], by omega, by go_num, by rw [RR.out]; exact ⟨_, _, _, _, _, _, hT10.out⟩, HS2, HO2, by rw [show (((k + 1 : Nat)) : Int) = (k : Int) + 1 from by omega]; exact HL2, hb10.out⟩
            case measure => simp [intOf]; omega
      · have RR : Hid (trRound s k src.data[k] = { delLR (trIns s k) k with ol := (trIns s k).ol + 1 }) := by unfold Hid; rw [HR.out]; rfl
        clear HR
        obtain ⟨_, t2, t3, _, _, _, t7, t8, _⟩ := id hT7
        obtain ⟨c0, c1, c2, f0, f1, f2⟩ := cell3 t2
        obtain ⟨d0, d1, d2, g0, g1, g2⟩ := cell3 t3
        have hT8 := Lib.hid (hT7.setOff ((trIns s k).ol + 1))
        have hb8 := Lib.hid (b6.setCell (p := ⟨w2.heap.size, 1, none⟩) (by show w.heap.size ≤ w2.heap.size; omega) (.int .i64 ((trIns s k).ol + 1)))
        clear hT7 t7 t8 b6
        go_wp2
        go_roundw
        case rel => exact ⟨k + 1, trRound s k src.data[k], by omega, by go_num, by rw [RR.out]; exact ⟨_, _, _, _, _, _, hT8.out⟩, HS2, HO2, by rw [show (((k + 1 : Nat)) : Int) = (k : Int) + 1 from by omega]; exact HL2, hb8.out⟩
        case measure => simp [intOf]; omega
      · have RR : Hid (trRound s k src.data[k] = { delLR (trIns s k) k with or_ := (trIns s k).or_ + 1 }) := by unfold Hid; rw [HR.out]; rfl
        clear HR
        obtain ⟨_, t2, t3, _, _, _, t7, t8, _⟩ := id hT7
        obtain ⟨c0, c1, c2, f0, f1, f2⟩ := cell3 t2
        obtain ⟨d0, d1, d2, g0, g1, g2⟩ := cell3 t3
        have hT8 := Lib.hid (hT7.swap.setOff ((trIns s k).or_ + 1)).swap
        have hb8 := Lib.hid (b6.setCell (p := ⟨w2.heap.size + 1, 1, none⟩) (by show w.heap.size ≤ w2.heap.size + 1; omega) (.int .i64 ((trIns s k).or_ + 1)))
        clear hT7 t7 t8 b6
        go_wp2
        go_roundw
        case rel => exact ⟨k + 1, trRound s k src.data[k], by omega, by go_num, by rw [RR.out]; exact ⟨_, _, _, _, _, _, hT8.out⟩, HS2, HO2, by rw [show (((k + 1 : Nat)) : Int) = (k : Int) + 1 from by omega]; exact HL2, hb8.out⟩
        case measure => simp [intOf]; omega
      · have RR : Hid (trRound s k src.data[k] = delLR (trIns s k) k) := by unfold Hid; rw [HR.out]; rfl
        clear HR
        have hT8 := Lib.hid hT7
        have hb8 := Lib.hid b6
        clear hT7 b6
        go_wp2
        go_roundw
        case rel => exact ⟨k + 1, trRound s k src.data[k], by omega, by go_num, by rw [RR.out]; exact ⟨_, _, _, _, _, _, hT8.out⟩, HS2, HO2, by rw [show (((k + 1 : Nat)) : Int) = (k : Int) + 1 from by omega]; exact HL2, hb8.out⟩
        case measure => simp [intOf]; omega
    · have HF : Hid (trIns s k = trS src a b) := by
        unfold Hid; rw [← HL.out, List.drop_of_length_le (by rw [size_data]; omega)]; rfl
      have HO2 := Lib.hid (trIns_origins HS.out (by omega) HO.out (k : Int))
      have hkk : ((k : Int) == src.size) = true := by simp; omega
      clear HS HO HL
      rw [HF.out] at hT4 y1 y2 HO2
      clear HF y3 y4
      have H1 : Hid (trL src a b = canonL (applyB src b).size (trS src a b).mr 0 []) := rfl
      have H2 : Hid (trR src a b = canonL (applyB src a).size (trS src a b).ml 0 []) := rfl
      generalize hst : trS src a b = st at *
      have HST := Lib.hid hst
      clear hst
      obtain ⟨_, t2, t3, _, _, _, t7, t8, _⟩ := id hT4
      obtain ⟨Ax, cx, rfl, hcx, hrx⟩ := RowAt.of_own t7
      obtain ⟨Ay, cy, rfl, hcy, hry⟩ := RowAt.of_own t8
      obtain ⟨c0, c1, c2, _⟩ := cell3 t2
      obtain ⟨d0, d1, d2, _⟩ := cell3 t3
      clear t7 t8
      by_cases h2000 : 2000 < st.ml.length
      · clear hT4 hrx hry t2 t3
        go_wp2_with fail
        go_ret3
        exact ⟨by rw [if_pos (.inl (by rw [HST.out]; exact h2000))]; rfl, b4⟩
      · go_wp2_with fail
        refine (canon_any _ _ _ _ _ hry HO2.out.2 (by omega) (by omega) (by omega)).mono ?_
        rintro e w5 ⟨A5, c5, rfl, hE5, hb5⟩
        have b5 := b4.trans (hb5.mono b4.size)
        rw [← H1.out] at hE5
        by_cases g1 : 50 < (trL src a b).length
        · have q1 : (canE (canonL (applyB src b).size st.mr 0 []) != 0) = true := by rw [← H1.out]; unfold canE; rw [if_pos g1]; rfl
          have q2 := Lib.hid (show canE (canonL (applyB src b).size st.mr 0 []) = 2 by rw [← H1.out]; unfold canE; rw [if_pos g1])
          clear hT4 hrx hry t2 t3 hE5
          go_wp2_with fail
          go_ret3
          exact ⟨by rw [if_pos (.inr (.inl g1)), q2.out]; rfl, b5⟩
        · have q1 : (canE (canonL (applyB src b).size st.mr 0 []) != 0) = false := by rw [← H1.out]; unfold canE; rw [if_neg g1]; rfl
          have q2 := Lib.hid (show canR (canonL (applyB src b).size st.mr 0 []) = trL src a b by rw [← H1.out]; unfold canR; rw [if_neg g1])
          rw [show canR (trL src a b) = trL src a b by unfold canR; rw [if_neg g1]] at hE5
          have t2' := (hb5.block _ (lt_of_heap t2)).trans t2
          obtain ⟨c0', c1', c2', _⟩ := cell3 t2'
          have hrx' := (hrx.below hb5).more hb5.size
          clear hT4 hrx hry t2 t3 t2' c0 c1 c2 d0 d1 d2
          go_wp2_with fail
          refine (canon_any _ _ _ _ _ hrx' HO2.out.1 (by omega) (by omega) (by omega)).mono ?_
          rintro e w6 ⟨A6, c6, rfl, hE6, hb6⟩
          have b6 := b5.trans (hb6.mono b5.size)
          have hE5' := (hE5.below hb6).more hb6.size
          by_cases g2 : 50 < (trR src a b).length
          · have r1 : (canE (canonL (applyB src a).size st.ml 0 []) != 0) = true := by rw [← H2.out]; unfold canE; rw [if_pos g2]; rfl
            have r2 := Lib.hid (show canE (canonL (applyB src a).size st.ml 0 []) = 2 by rw [← H2.out]; unfold canE; rw [if_pos g2])
            clear hE5 hE5' hE6
            go_wp2_with fail
            go_ret3
            exact ⟨by rw [if_pos (.inr (.inr g2)), r2.out]; rfl, b6⟩
          · have r1 : (canE (canonL (applyB src a).size st.ml 0 []) != 0) = false := by rw [← H2.out]; unfold canE; rw [if_neg g2]; rfl
            have r2 := Lib.hid (show canR (canonL (applyB src a).size st.ml 0 []) = trR src a b by rw [← H2.out]; unfold canR; rw [if_neg g2])
            rw [← H2.out, show canR (trR src a b) = trR src a b by unfold canR; rw [if_neg g2]] at hE6
            have HE5 := Lib.hid hE5'
            have HE6 := Lib.hid hE6
            clear hE5 hE5' hE6
            go_wp2_with fail
            go_ret3
            exact ⟨by rw [if_neg (by rw [HST.out]; omega)]; exact ⟨A5, c5, A6, c6, by rw [← q2.out, ← r2.out]; rfl, HE5.out, HE6.out⟩, b6⟩
end Go.Proofs.Ytbnoejdhachhhaa
