/-
  WORDS: traced bytes; append of a slice that came in, nil included.
-/
import Derived.Test.YtbnoejdhachhhaaTxtA
namespace Go.Proofs.Ytbnoejdhachhhaa
open Go.RowKit

structure TB where
  v : UInt8
  o : Int
def TB.cells (x : TB) : List Value := [.int .u8 x.v.toNat, .int .i64 x.o]
def tbCells (bs : List TB) : List Value := bs.flatMap TB.cells
theorem tbCells_length (es : List TB) : (tbCells es).length = es.length * 2 := by
  unfold tbCells; induction es with
  | nil => rfl
  | cons x xs ih => simp only [List.flatMap_cons, List.length_append, ih, List.length_cons]; simp [TB.cells]; omega
theorem tbCells_append (a b : List TB) : tbCells (a ++ b) = tbCells a ++ tbCells b := by simp [tbCells]
theorem tbCells_one (x : TB) : tbCells [x] = x.cells := by simp [tbCells]
theorem tbCells_cell (bs : List TB) : ∀ u ∈ tbCells bs, u.oneCell' = true := by
  intro u hu
  simp only [tbCells, List.mem_flatMap] at hu
  obtain ⟨x, _, hx⟩ := hu
  simp [TB.cells] at hx
  rcases hx with rfl | rfl <;> rfl
theorem tbCells_at (es : List TB) (k : Nat) (x : TB) (h : es[k]? = some x) : (tbCells es)[k * 2]? = some (.int .u8 x.v.toNat) ∧ (tbCells es)[k * 2 + 1]? = some (.int .i64 x.o) := by
  unfold tbCells
  induction es generalizing k with
  | nil => simp at h
  | cons y ys ih =>
    cases k with
    | zero => simp at h; subst h; simp [TB.cells]
    | succ k =>
      obtain ⟨h1, h2⟩ := ih k (by simpa using h)
      have e : ∀ j, (List.flatMap TB.cells (y :: ys))[(k + 1) * 2 + j]? = (List.flatMap TB.cells ys)[k * 2 + j]? := by
        intro j
        rw [List.flatMap_cons, List.getElem?_append_right (by simp [TB.cells]; omega)]
        congr 1; simp [TB.cells]; omega
      exact ⟨(e 0).trans h1, (e 1).trans h2⟩
theorem tbCells_drop (bs : List TB) (k : Nat) : tbCells (bs.drop k) = (tbCells bs).drop (k * 2) := by
  induction bs generalizing k with
  | nil => simp [tbCells]
  | cons x xs ih =>
    cases k with
    | zero => simp
    | succ k =>
      rw [List.drop_succ_cons, ih, show (k + 1) * 2 = 2 + k * 2 from by omega, ← List.drop_drop]
      simp [tbCells, TB.cells]
theorem tbCells_take (bs : List TB) (k : Nat) : tbCells (bs.take k) = (tbCells bs).take (k * 2) := by
  induction bs generalizing k with
  | nil => simp [tbCells]
  | cons x xs ih =>
    cases k with
    | zero => simp [tbCells]
    | succ k =>
      rw [List.take_succ_cons]
      have := ih k
      simp only [tbCells] at this
      simp only [tbCells, List.flatMap_cons, this]
      simp [TB.cells, show (k + 1) * 2 = k * 2 + 1 + 1 from by omega]

/-- cells xs lie from A on, in a block below B (nothing is asked where there are none) -/
def RowAt (w : World) (B : Nat) (A : Option Addr) (xs : List Value) : Prop :=
  0 < xs.length → ∃ b off, A = some ⟨b, off, none⟩ ∧ b < B ∧ ∀ j u, xs[j]? = some u → w.cell? ⟨b, off + j, none⟩ = some u
theorem RowAt.keep {w w' : World} {B : Nat} {A : Option Addr} {xs : List Value} (h : RowAt w B A xs) (hk : ∀ p : Addr, p.block < B → w'.cell? p = w.cell? p) : RowAt w' B A xs := by
  intro hn
  obtain ⟨b, off, rfl, hb, hc⟩ := h hn
  exact ⟨b, off, rfl, hb, fun j u hu => (hk _ hb).trans (hc j u hu)⟩
theorem RowAt.below {w w' : World} {B : Nat} {A : Option Addr} {xs : List Value} (h : RowAt w B A xs) (hb : Below B w w') : RowAt w' B A xs := h.keep fun _ hp => hb.cell hp
theorem RowAt.more {w : World} {B B' : Nat} {A : Option Addr} {xs : List Value} (h : RowAt w B A xs) (hB : B ≤ B') : RowAt w B' A xs := by
  intro hn
  obtain ⟨b, off, rfl, hb, hc⟩ := h hn
  exact ⟨b, off, rfl, by omega, hc⟩
theorem RowAt.of_own {w : World} {base : Nat} {e : TypeId} {size n : Nat} {v : Value} {xs : List Value} (h : w.ownsRow base e size v n xs) :
    ∃ A c, v = .slice A n c ∧ n ≤ c ∧ RowAt w w.heap.size A xs := by
  rcases h.2 with ⟨rfl, rfl⟩ | ⟨g, cap, cur, rfl, hb, hh, hc, _⟩
  · exact ⟨none, 0, rfl, Nat.le_refl _, fun hp => by have := h.1; omega⟩
  · exact ⟨some ⟨g, 0, none⟩, cap, rfl, hc, fun _ => ⟨g, 0, rfl, lt_of_heap hh, fun k x hx => by
      have := h.cells (g := g) rfl k x hx
      rw [Nat.zero_add, ← addr0]
      exact this⟩⟩
theorem _root_.Go.World.ownsRow.cap_le {w : World} {base : Nat} {e : TypeId} {size n c : Nat} {A : Option Addr} {xs : List Value} (h : w.ownsRow base e size (.slice A n c) n xs) : c ≤ maxLen := by
  rcases h.2 with ⟨h, _⟩ | ⟨g, cap, cur, h, _, _, _, hc, _⟩
  · injection h with _ _ h; subst h; exact Nat.zero_le _
  · injection h with _ _ h; subst h; exact hc
theorem RowAt.drop {w : World} {B : Nat} {A : Option Addr} {xs : List Value} (h : RowAt w B A xs) (k : Nat) : RowAt w B (A.map fun a => a.add k) (xs.drop k) := by
  intro hn
  rw [List.length_drop] at hn
  obtain ⟨b, off, rfl, hb, hc⟩ := h (by omega)
  refine ⟨b, off + k, ?_, hb, fun j u hu => ?_⟩
  · simp only [Option.map_some, Addr.add]
    split
    · subst k; rfl
    · rfl
  · rw [List.getElem?_drop] at hu
    rw [Nat.add_assoc]
    exact hc _ u hu
theorem RowAt.take {w : World} {B : Nat} {A : Option Addr} {xs : List Value} (h : RowAt w B A xs) (k : Nat) : RowAt w B A (xs.take k) := by
  intro hn
  rw [List.length_take] at hn
  obtain ⟨b, off, rfl, hb, hc⟩ := h (by omega)
  refine ⟨b, off, rfl, hb, fun j u hu => ?_⟩
  rw [List.getElem?_take] at hu
  split at hu
  · exact hc j u hu
  · cases hu

theorem RowAt.cut {w : World} {B : Nat} {A : Option Addr} {xs : List Value} (h : RowAt w B A xs) {c k sz : Nat} (hc : xs.length ≤ c * sz) : RowAt w B (if c = k then A else A.map fun a => a.add (k * sz)) (xs.drop (k * sz)) := by
  split
  · subst c
    intro hn
    rw [List.length_drop] at hn
    omega
  · exact h.drop _
theorem tb_cut {w : World} {B : Nat} {A : Option Addr} {bs : List TB} (h : RowAt w B A (tbCells bs)) {c lo : Nat} (m : Nat) (hc : bs.length ≤ c) : RowAt w B (if c = lo then A else A.map fun a => a.add (lo * 2)) (tbCells ((bs.drop lo).take m)) := by
  rw [tbCells_take, tbCells_drop]
  exact (h.cut (by rw [tbCells_length]; omega)).take _
theorem run_append_src {P : Program} {w : World} (base : Nat) (t ty e : TypeId) (z : Value) (size bytes : Nat) (ht : P.underlying t = some (.slice e)) (hinfo : (P.info? e).map (fun i => (i.zero, i.size, i.bytes)) = some (some z, size, bytes))
    (hzs : z.cells.size = size) (hsz : 0 < size) (v : Value) (n : Nat) (xs : List Value) (hown : w.ownsRow base e size v n xs)
    (B : Nat) (A : Option Addr) (m c : Nat) (news : List Value) (hr : RowAt w B A news) (hl : news.length = m * size) (h1 : ∀ u ∈ news, u.oneCell' = true)
    (h63 : n + m ≤ maxLen) (hbytes : (n + m) * bytes ≤ 140737488355328) (hbase : base ≤ w.heap.size) :
    ∃ v' w', (Builtin.append_ #[t, t] ty #[v, .slice A m c]).run P w = .ok v' w' ∧ w'.ownsRow base e size v' (n + m) (xs ++ news) ∧ w.grownBy w' v.ownBlock ∧
      (v'.ownBlock = v.ownBlock ∨ ∃ g, v'.ownBlock = some g ∧ w.heap.size ≤ g) := by
  obtain ⟨i, hi, hz, hsize, hby⟩ := info_parts hinfo
  rcases A with _ | ad
  · have hm : m = 0 := by
      rcases Nat.eq_zero_or_pos m with h0 | h0
      · exact h0
      · obtain ⟨_, _, h, _⟩ := hr (by rw [hl]; exact Nat.mul_pos h0 hsz)
        cases h
    subst hm
    have hn : news = [] := List.eq_nil_of_length_eq_zero (by simpa using hl)
    subst hn
    refine ⟨v, w, ?_, by simpa using hown, World.grownBy.refl w _, .inl rfl⟩
    rcases hown.2 with ⟨rfl, rfl⟩ | ⟨g, cap, cur, rfl, _, _, hnc, _⟩
    · simp [Builtin.append_, run_underlying ht, sizeOf, typeInfo, hi, Builtin.lenOf, Builtin.firstCells]
    · simp [Builtin.append_, run_underlying ht, sizeOf, typeInfo, hi, Builtin.lenOf, Builtin.firstCells, hnc, storeCells]
  · have hcells : ∀ j u, news[j]? = some u → w.cell? (ad.add j) = some u := by
      intro j u hu
      have hj : j < news.length := (List.getElem?_eq_some_iff.1 hu).1
      obtain ⟨b, off, h, _, hc⟩ := hr (by omega)
      injection h with h
      subst h
      have : (⟨b, off, none⟩ : Addr).add j = ⟨b, off + j, none⟩ := by unfold Addr.add; split <;> simp_all
      rw [this]
      exact hc j u hu
    obtain ⟨v', w', hrun, h2, h3, _, h5⟩ := run_append_own_at (P := P) w base t ty e i z size bytes ht hi hz hsize hby hzs hsz v n xs hown ad m c news hl hcells h1 h63 hbytes hbase
    exact ⟨v', w', hrun, h2, h3, h5.imp_right fun h => ⟨_, h, Nat.le_refl _⟩⟩

/-- 'append(v, s...)', s a slice whose cells are known -/
theorem wpList_append_src {P : Program} {w : World} {ops : Array Oper} {rest : List Oper} {o : Oper} {a : Act} {Q : Exit → Act → World → Prop} (hgd : o.guard = none) (s x : Operand) (t : TypeId)
    (ho : o.op = .call { callee := .builtin .append, args := #[s, x], argTypes := #[t, t] })
    (base : Nat) (e : TypeId) (z : Value) (size bytes : Nat) (ht : P.underlying t = some (.slice e)) (hinfo : (P.info? e).map (fun i => (i.zero, i.size, i.bytes)) = some (some z, size, bytes))
    (hzs : z.cells.size = size) (hsz : 0 < size) (v : Value) (n : Nat) (xs : List Value) (hs : a.eval s = v) (hown : w.ownsRow base e size v n xs)
    (B : Nat) (A : Option Addr) (m c : Nat) (news : List Value) (hx : a.eval x = .slice A m c) (hr : RowAt w B A news) (hl : news.length = m * size) (h1 : ∀ u ∈ news, u.oneCell' = true)
    (h63 : n + m ≤ maxLen) (hbytes : (n + m) * bytes ≤ 140737488355328) (hbase : base ≤ w.heap.size)
    (h : ∀ v' w', w'.ownsRow base e size v' (n + m) (xs ++ news) → w.grownBy w' v.ownBlock → (v'.ownBlock = v.ownBlock ∨ ∃ g, v'.ownBlock = some g ∧ w.heap.size ≤ g) → wpList P ops Q rest (a.put o.dst v') w') :
    wpList P ops Q (o :: rest) a w := by
  refine wpList_plain hgd fun K hK => ?_
  obtain ⟨v', w', hr', h2, h3, h4⟩ := run_append_src (P := P) base t o.type e z size bytes ht hinfo hzs hsz v n xs hown B A m c news hr hl h1 h63 hbytes hbase
  unfold Oper.wp execOp
  simp only [ho, resolve, invoke, builtin, Sem.run_bind, Sem.run_pure, Result.andThen_ok, List.map_toArray, List.map_cons, List.map_nil, hs, hx, hr']
  exact hK _ _ (h v' w' h2 h3 h4)

theorem info_tb : (Try.prog.info? 73).map (fun i => (i.zero, i.size, i.bytes)) = some (some (.agg #[.int .u8 0, .int .i64 0]), 2, 16) := by kernel_rfl

theorem tb_slice {w : World} {B : Nat} {D : Option Addr} {bs : List TB} {d : Nat} (h : RowAt w B D (tbCells bs)) (hd : bs.length ≤ d) (lo : Nat) (hi : Int) (h1 : (lo : Int) ≤ hi) (h2 : hi ≤ d) :
    ∃ D2, (∀ u : World, (Instr.slice 64 (.slice D bs.length d) (some (.int .i64 lo)) (some (.int .i64 hi)) none).run Try.prog u = .ok (.slice D2 (hi.toNat - lo) (d - lo)) u) ∧ RowAt w B D2 (tbCells ((bs.drop lo).take (hi.toNat - lo))) := by
  refine ⟨_, fun u => ?_, tb_cut h (hi.toNat - lo) hd⟩
  rw [run_slice_lh u 64 D bs.length d (by kernel_rfl) .i64 .i64 lo hi (by omega) h1 h2]
  have : (sizeOf (Try.prog.elem 64)).run Try.prog u = .ok 2 u := Try.sizeOf73 u
  rw [this]
  simp [Result.andThen, sliced]
theorem tb_slice_from {w : World} {B : Nat} {D : Option Addr} {bs : List TB} {d : Nat} (h : RowAt w B D (tbCells bs)) (hd : bs.length ≤ d) (lo : Nat) (h1 : lo ≤ bs.length) :
    ∃ D2, (∀ u : World, (Instr.slice 64 (.slice D bs.length d) (some (.int .i64 lo)) none none).run Try.prog u = .ok (.slice D2 (bs.length - lo) (d - lo)) u) ∧ RowAt w B D2 (tbCells (bs.drop lo)) := by
  refine ⟨_, fun u => ?_, by have := tb_cut (lo := lo) h (bs.length - lo) hd; rwa [List.take_of_length_le (by rw [List.length_drop]; omega)] at this⟩
  rw [run_slice_l u 64 D bs.length d (by kernel_rfl) .i64 lo (by omega) (by omega)]
  have : (sizeOf (Try.prog.elem 64)).run Try.prog u = .ok 2 u := Try.sizeOf73 u
  rw [this]
  simp [Result.andThen, sliced]

/-- bytes that have no origin -/
def ins (l : List UInt8) : List TB := l.map fun b => ⟨b, -1⟩
theorem ins_take (l : List UInt8) (k : Nat) (h : k < l.length) : ins (l.take (k + 1)) = ins (l.take k) ++ [⟨l[k], -1⟩] := by unfold ins; rw [take_snoc l k h, List.map_append]; rfl

/-- textedit.applyTraced -/
def applyT (bs : List TB) : List Ed → Nat → List TB
  | [], off => bs.drop off
  | x :: xs, off => (bs.drop off).take (x.s.toNat - off) ++ ins x.t.data.toList ++ applyT bs xs x.e.toNat

set_option maxHeartbeats 1600000 in
theorem applyT_any (A D : Option Addr) (c d : Nat) (bs : List TB) (es : List Ed) (len0 : Int) (w : World) (hbs : RowAt w w.heap.size D (tbCells bs)) (hd : bs.length ≤ d) (_hdm : d ≤ maxLen) (h : EdsAt w w.heap.size A es) (hm : es.length ≤ 50) (hs : Short es) (hn : bs.length ≤ 2000)
    (hl0 : len0 = bs.length) (hv : valTLoop bs.length es (-1) len0 = 0) :
    Calls Try.prog 31 #[.slice D bs.length d, .slice A es.length c] w fun e w' => ∃ D' d', e = .returned (.slice D' (applyT bs es 0).length d') ∧ (applyT bs es 0).length ≤ d' ∧ d' ≤ maxLen ∧ RowAt w' w'.heap.size D' (tbCells (applyT bs es 0)) ∧ Below w.heap.size w w' := by
  have HV0 := Lib.hid hv
  have HL0 := Lib.hid hl0
  clear hv hl0
  unfold maxLen at _hdm
  go_enter Try.func31, Try.ntmps31
  go_wp2
  go_loopw [5, 6, 13] (fun v o i wr => ∃ (k : Nat) (off : Nat) (pe len : Int) (acc : List TB), k ≤ es.length ∧ i = .int .i64 k ∧ o = .int .i64 off ∧ (off : Int) ≤ pe + 1 ∧ -1 ≤ pe ∧ off ≤ bs.length ∧ pe ≤ bs.length ∧ Hid ((acc.length : Int) + (bs.length - off) = len) ∧
    wr.ownsRow w.heap.size 73 2 v acc.length (tbCells acc) ∧ Hid (valTLoop bs.length (es.drop k) pe len = 0) ∧ Hid (acc ++ applyT bs (es.drop k) off = applyT bs es 0) ∧ Below w.heap.size w wr) (fun _ _ i _ => es.length - (intOf i).toNat)
  case atStart => exact ⟨0, 0, -1, len0, [], Nat.zero_le _, rfl, rfl, by omega, by omega, by omega, by omega, by unfold Hid; simp [HL0.out], World.ownsRow_nil _ _ _ _, HV0, rfl, Below.refl _ _⟩
  case round =>
    obtain ⟨k, off, pe, len, acc, hk, rfl, rfl, q1, q2, q3, q4, q5, hown, HV, HI, hb⟩ := hrel
    obtain ⟨wo, rfl⟩ : ∃ wo : World, wo = wr := ⟨_, rfl⟩
    by_cases hlt : k < es.length
    · obtain ⟨b, off', rfl, hbb, hc⟩ := (h.below hb) (by omega)
      obtain ⟨c1, c2, c3⟩ := hc k es[k] (List.getElem?_eq_getElem hlt)
      have HD := Lib.hid (drop_cons es k hlt)
      have hsx := hs es[k] (List.getElem_mem hlt)
      clear hc h hs HV0
      generalize es[k] = x at *
      obtain ⟨⟨p1, p2, p3⟩, HV'⟩ := valTLoop_cons (by rw [← HD.out]; exact HV.out)
      have HV2 := Lib.hid HV'
      clear HV'
      have z3 : x.s ≤ bs.length := by omega
      have z1 : 0 ≤ x.s := by omega
      have z2 : (off : Int) ≤ x.s := by omega
      have hbw := hb.alloc hb.size (.cells #[.int .i64 x.s, .int .i64 x.e, .string x.t] 31)
      have hown1 := hown.alloc (.cells #[.int .i64 x.s, .int .i64 x.e, .string x.t] 31)
      obtain ⟨D2, hsl, hsrc⟩ := tb_slice (hbs.below hbw) hd off x.s z2 (by omega)
      have hla : acc.length ≤ 4001 := by have := valTLoop_len HV.out (by omega); have := q5.out; omega
      have hlt : ((bs.drop off).take (x.s.toNat - off)).length = x.s.toNat - off := by rw [List.length_take, List.length_drop]; omega
      have hll : (tbCells ((bs.drop off).take (x.s.toNat - off))).length = (x.s.toNat - off) * 2 := by rw [tbCells_length, hlt]
      have hc2 := tbCells_cell ((bs.drop off).take (x.s.toNat - off))
      have HLL := Lib.hid hll
      have HLT := Lib.hid hlt
      have HC2 := Lib.hid hc2
      clear hll hlt hc2
      go_wp2_with (at_builtin; refine wpList_append_src rfl (.tmp 17) (.tmp 22) _ rfl w.heap.size 73 _ 2 16 Try.underlying64 info_tb rfl (by decide) _ _ _ rfl hown1 _ _ _ _ _ rfl hsrc HLL.out HC2.out ?c3 ?c4 ?c5 ?_)
      case c3 => simp only [maxLen]; omega
      case c4 => omega
      case c5 => exact hbw.size
      intro v1 w2 hown2 hg2 hat2
      clear hsl
      have hek := (Kept.grown (t0 := 73) (t1 := 73) hown1 hg2 (.inl rfl)) wo.heap.size _ _ _ (heap_alloc_new wo _) (by decide) (by decide)
      have hb2 := grown_below hbw hbw.size hown1 hg2
      have d1 : w2.cell? ⟨wo.heap.size, 1, none⟩ = some (.int .i64 x.e) := by rw [Lib.cell_of_heap hek]; rfl
      have d2 : w2.cell? ⟨wo.heap.size, 2, none⟩ = some (.string x.t) := by rw [Lib.cell_of_heap hek]; rfl
      have HA1 := Lib.hid (show (acc ++ (bs.drop off).take (x.s.toNat - off)).length = acc.length + (x.s.toNat - off) by rw [List.length_append, HLT.out])
      rw [← tbCells_append, ← HA1.out] at hown2
      have kc := fun (u : World) => run_bytes_of_string (P := Try.prog) u 9 55 5 x.t Try.underlying9 Try.underlying55 Try.underlying5
      go_wp2
      clear kc d2
      have hb3 : Below w.heap.size w (w2.alloc (.cells (bytesRow x.t (grownCap w2 x.t.size 0 5)) 5 ((bytesRow x.t (grownCap w2 x.t.size 0 5)).size, (bytesRow x.t (grownCap w2 x.t.size 0 5)).size + 1))).drew := (hb2.alloc hb2.size _).drew
      have hown3 := hown2.alloc (.cells (bytesRow x.t (grownCap w2 x.t.size 0 5)) 5 ((bytesRow x.t (grownCap w2 x.t.size 0 5)).size, (bytesRow x.t (grownCap w2 x.t.size 0 5)).size + 1))
      have hg3 := heap_alloc_new w2 (.cells (bytesRow x.t (grownCap w2 x.t.size 0 5)) 5 ((bytesRow x.t (grownCap w2 x.t.size 0 5)).size, (bytesRow x.t (grownCap w2 x.t.size 0 5)).size + 1))
      have hek3 := (Below.heap_alloc w2 (.cells (bytesRow x.t (grownCap w2 x.t.size 0 5)) 5 ((bytesRow x.t (grownCap w2 x.t.size 0 5)).size, (bytesRow x.t (grownCap w2 x.t.size 0 5)).size + 1)) wo.heap.size (lt_of_heap hek)).trans hek
      generalize ((bytesRow x.t (grownCap w2 x.t.size 0 5)).size, (bytesRow x.t (grownCap w2 x.t.size 0 5)).size + 1) = fr at *
      generalize grownCap w2 x.t.size 0 5 = gc at *
      generalize hacc1 : acc ++ (bs.drop off).take (x.s.toNat - off) = acc1 at *
      have HACC1 := Lib.hid hacc1
      clear hacc1
      have hl1 : acc1.length ≤ 6001 := by have := HA1.out; omega
      have hl2 : x.t.size ≤ 6001 := by
        have g1 := valTLoop_len HV2.out (by omega)
        have := q5.out
        omega
      go_loopw [5, 28] (fun v j wq => ∃ i : Nat, i ≤ x.t.size ∧ j = .int .i64 i ∧ wq.ownsRow w.heap.size 73 2 v (acc1 ++ ins (x.t.data.toList.take i)).length (tbCells (acc1 ++ ins (x.t.data.toList.take i))) ∧
        wq.heap[w2.heap.size]? = some (.cells (bytesRow x.t gc) 5 fr) ∧ wq.heap[wo.heap.size]? = some (.cells #[.int .i64 x.s, .int .i64 x.e, .string x.t] 31 (0, 0)) ∧ Below w.heap.size w wq) (fun _ j _ => x.t.size - (intOf j).toNat)
      case atStart => exact ⟨0, Nat.zero_le _, rfl, by simpa [ins] using hown3.drew, hg3, hek3, hb3⟩
      case round =>
        obtain ⟨i, hi, rfl, hown4, hg4, hek4, hb4⟩ := hrel
        by_cases hlt2 : i < x.t.size
        · have hlt3 : i < x.t.data.size := hlt2
          have e1 : wr.cell? ⟨w2.heap.size, i, none⟩ = some (.int .u8 (x.t.data[i].toNat : Int)) := by rw [Lib.cell_of_heap hg4, bytesRow_at x.t gc i hlt3]
          have HT := Lib.hid (ins_take x.t.data.toList i (by rw [Array.length_toList]; exact hlt3))
          simp only [Array.getElem_toList] at HT
          have hl5 : (acc1 ++ ins (x.t.data.toList.take i)).length ≤ 12002 := by
            simp only [List.length_append, ins, List.length_map, List.length_take]; omega
          generalize x.t.data[i] = bt at *
          have hbt : 0 ≤ (bt.toNat : Int) ∧ (bt.toNat : Int) ≤ 255 := by have := bt.toNat_lt; omega
          generalize hacc2 : acc1 ++ ins (x.t.data.toList.take i) = acc2 at *
          have HACC2 := Lib.hid hacc2
          clear hacc2
          go_wp2_with (at_builtin; refine wpList_append_lit rfl (.tmp 32) (.tmp 35) _ rfl w.heap.size 73 _ 2 16 Try.underlying64 info_tb rfl (by decide) _ _ _ rfl hown4 1 1 (TB.cells ⟨bt, -1⟩) rfl rfl ?c2 ?c3 ?c4 ?c5 ?_)
          case c2 => simp [TB.cells, Value.oneCell']
          case c3 => simp only [maxLen]; omega
          case c4 => omega
          case c5 => exact hb4.size
          intro v5 w5 hown5 hg5 hat5
          have hb5 := grown_below hb4 hb4.size hown4 hg5
          have hek5 := Kept.grown (t0 := 73) (t1 := 73) hown4 hg5 (.inl rfl) wo.heap.size _ _ _ hek4 (by decide) (by decide)
          have hg6 := Kept.grown (t0 := 73) (t1 := 73) hown4 hg5 (.inl rfl) w2.heap.size _ _ _ hg4 (by decide) (by decide)
          have hown6 : w5.ownsRow w.heap.size 73 2 v5 (acc1 ++ ins (x.t.data.toList.take (i + 1))).length (tbCells (acc1 ++ ins (x.t.data.toList.take (i + 1)))) := by
            have e : acc1 ++ ins (x.t.data.toList.take (i + 1)) = acc2 ++ [⟨bt, -1⟩] := by rw [HT.out, ← List.append_assoc, HACC2.out]
            rw [e, tbCells_append, tbCells_one, List.length_append]
            exact hown5
          go_wp2
          go_roundw
          case rel => exact ⟨i + 1, by omega, by go_num, hown6, hg6, hek5, hb5⟩
          case measure => simp [intOf]; omega
        · have hown6 : wr.ownsRow w.heap.size 73 2 u5 (acc1 ++ ins x.t.data.toList).length (tbCells (acc1 ++ ins x.t.data.toList)) := by
            have e : x.t.data.toList.take i = x.t.data.toList := List.take_of_length_le (by rw [Array.length_toList]; show x.t.size ≤ i; omega)
            rw [e] at hown4
            exact hown4
          clear hown4
          obtain ⟨en, hen⟩ : ∃ en : Nat, x.e = en := ⟨x.e.toNat, by omega⟩
          have hen2 : x.e.toNat = en := by omega
          have f1 : wr.cell? ⟨wo.heap.size, 1, none⟩ = some (.int .i64 en) := by rw [Lib.cell_of_heap hek4, hen]; rfl
          have he3 : (en : Int) ≤ bs.length := by omega
          have HI2 : Hid ((acc1 ++ ins x.t.data.toList) ++ applyT bs (es.drop (k + 1)) en = applyT bs es 0) := by
            unfold Hid; rw [← HI.out, HD.out, ← HACC1.out, ← hen2]; simp [applyT, List.append_assoc]
          have q6 : Hid (((acc1 ++ ins x.t.data.toList).length : Int) + (bs.length - en) = len + (x.t.size - (x.e - x.s))) := by
            have h2 : x.t.data.toList.length = x.t.size := by rw [Array.length_toList]; rfl
            have h3 := HA1.out
            have h4 := q5.out
            unfold Hid
            rw [List.length_append, ins, List.length_map, h2, ← HACC1.out]
            rw [HACC1.out]
            omega
          have HE := Lib.hid hen
          clear hen hen2
          go_wp2
          go_roundw
          case rel => exact ⟨k + 1, en, x.e, _, _, by omega, by go_num, rfl, by have := HE.out; omega, by omega, by omega, by omega, q6, hown6, HV2, HI2, hb4⟩
          case measure => simp [intOf]; omega
    · have hacc : applyT bs es 0 = acc ++ bs.drop off := by rw [← HI.out, List.drop_of_length_le (by omega)]; rfl
      have HA := Lib.hid hacc
      have hla : acc.length ≤ 4001 := by have := valTLoop_len HV.out (by omega); have := q5.out; omega
      clear hacc h hs HV0
      obtain ⟨D2, hsl, hsrc⟩ := tb_slice_from (hbs.below hb) hd off q3
      have HLL := Lib.hid (show (tbCells (bs.drop off)).length = (bs.length - off) * 2 by rw [tbCells_length, List.length_drop])
      have HC2 := Lib.hid (tbCells_cell (bs.drop off))
      go_wp2_with (at_builtin; refine wpList_append_src rfl (.tmp 41) (.tmp 44) _ rfl w.heap.size 73 _ 2 16 Try.underlying64 info_tb rfl (by decide) _ _ _ rfl hown _ _ _ _ _ rfl hsrc HLL.out HC2.out ?c3 ?c4 ?c5 ?_)
      case c3 => simp only [maxLen]; omega
      case c4 => omega
      case c5 => exact hb.size
      intro v1 w2 hown2 hg2 hat2
      clear hsl
      have hb2 := grown_below hb hb.size hown hg2
      rw [← tbCells_append, ← HA.out] at hown2
      have HLE := Lib.hid (show acc.length + (bs.length - off) = (applyT bs es 0).length by rw [HA.out, List.length_append, List.length_drop])
      rw [HLE.out] at hown2
      obtain ⟨D', d', rfl, hd', hr'⟩ := RowAt.of_own hown2
      go_wp2
      go_ret
      exact ⟨D', d', rfl, hd', hown2.cap_le, hr', hb2⟩
end Go.Proofs.Ytbnoejdhachhhaa
