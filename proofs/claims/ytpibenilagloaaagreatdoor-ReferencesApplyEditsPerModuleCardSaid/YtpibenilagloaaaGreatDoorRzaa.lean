import Derived.Test.YtpibenilagloaaaGreatDoorProg
import Derived.WalkKit
import Derived.WalkSpells
import Derived.WalkLawsBesides
import Derived.Outline
import Derived.Below
import Derived.Lib.Hide
import Derived.OwnWalk
import Derived.Deep.LoopGhost
import Derived.Deep.QuietTactic
import Derived.BigQuiet
import Derived.Laws.OwnMore
import Derived.Deep.AppendLies
import Derived.Deep.Draws
import Derived.Maps.AppendAt
import Derived.Laws.AppendOwnNone
import Derived.Deep.RegionHeld3
import Derived.StillTailTactics
import Derived.Deep.DeepCutAuto
namespace Go.Proofs.YtpibenilagloaaaGreatDoor.tx
open Go.RowKit
structure Ed where
  s : Int
  e : Int
  t : ByteArray
instance : Inhabited Ed := ⟨⟨0, 0, .empty⟩⟩
def Short (es : List Ed) : Prop := ∀ x ∈ es, x.t.size ≤ 140737488351232
def Ed.cells (x : Ed) : List Value := [.int .i64 x.s, .int .i64 x.e, .string x.t]
def EdsAt (w : World) (B : Nat) (A : Option Addr) (es : List Ed) : Prop :=
  0 < es.length → ∃ b off, A = some ⟨b, off, none⟩ ∧ b < B ∧ ∀ k x, es[k]? = some x →
    w.cell? ⟨b, off + k * 3, none⟩ = some (.int .i64 x.s) ∧ w.cell? ⟨b, off + k * 3 + 1, none⟩ = some (.int .i64 x.e) ∧ w.cell? ⟨b, off + k * 3 + 2, none⟩ = some (.string x.t)
theorem EdsAt.keep {w w' : World} {B : Nat} {A : Option Addr} {es : List Ed} (h : EdsAt w B A es) (hk : ∀ p : Addr, p.block < B → w'.cell? p = w.cell? p) : EdsAt w' B A es := by
  intro hn
  obtain ⟨b, off, rfl, hb, hc⟩ := h hn
  exact ⟨b, off, rfl, hb, fun k x hx => by
    obtain ⟨h1, h2, h3⟩ := hc k x hx
    exact ⟨(hk _ hb).trans h1, (hk _ hb).trans h2, (hk _ hb).trans h3⟩⟩
theorem EdsAt.below {w w' : World} {B : Nat} {A : Option Addr} {es : List Ed} (h : EdsAt w B A es) (hb : Below B w w') : EdsAt w' B A es := h.keep fun _ hp => hb.cell hp
theorem EdsAt.more {w : World} {B B' : Nat} {A : Option Addr} {es : List Ed} (h : EdsAt w B A es) (hB : B ≤ B') : EdsAt w B' A es := by
  intro hn
  obtain ⟨b, off, rfl, hb, hc⟩ := h hn
  exact ⟨b, off, rfl, by omega, hc⟩
def IntsAt (w : World) (B : Nat) (A : Option Addr) (xs : List Int) : Prop :=
  0 < xs.length → ∃ b off, A = some ⟨b, off, none⟩ ∧ b < B ∧ ∀ k x, xs[k]? = some x → w.cell? ⟨b, off + k, none⟩ = some (.int .i64 x)
theorem IntsAt.keep {w w' : World} {B : Nat} {A : Option Addr} {es : List Int} (h : IntsAt w B A es) (hk : ∀ p : Addr, p.block < B → w'.cell? p = w.cell? p) : IntsAt w' B A es := by
  intro hn
  obtain ⟨b, off, rfl, hb, hc⟩ := h hn
  exact ⟨b, off, rfl, hb, fun k x hx => (hk _ hb).trans (hc k x hx)⟩
theorem IntsAt.below {w w' : World} {B : Nat} {A : Option Addr} {es : List Int} (h : IntsAt w B A es) (hb : Below B w w') : IntsAt w' B A es := h.keep fun _ hp => hb.cell hp
theorem IntsAt.more {w : World} {B B' : Nat} {A : Option Addr} {es : List Int} (h : IntsAt w B A es) (hB : B ≤ B') : IntsAt w B' A es := by
  intro hn
  obtain ⟨b, off, rfl, hb, hc⟩ := h hn
  exact ⟨b, off, rfl, by omega, hc⟩
theorem addr0 (g k : Nat) : (⟨g, 0, none⟩ : Addr).add k = ⟨g, k, none⟩ := by
  unfold Addr.add; split <;> simp_all
theorem IntsAt.of_own {w : World} {base : Nat} {e : TypeId} {v : Value} {xs : List Int} (h : w.ownsRow base e 1 v xs.length (xs.map (Value.int .i64))) :
    ∃ A c, v = .slice A xs.length c ∧ IntsAt w w.heap.size A xs := by
  rcases h.2 with ⟨rfl, hn⟩ | ⟨g, cap, cur, rfl, hb, hh, _⟩
  · exact ⟨none, 0, by rw [hn], fun hp => by omega⟩
  · refine ⟨some ⟨g, 0, none⟩, cap, rfl, fun _ => ⟨g, 0, rfl, ?_, fun k x hx => ?_⟩⟩
    · rcases Nat.lt_or_ge g w.heap.size with h | h
      · exact h
      · rw [Array.getElem?_eq_none h] at hh; cases hh
    · have := h.cells (g := g) rfl k (.int .i64 x) (by simp [hx])
      rw [Nat.zero_add, ← addr0]
      exact this
def edCells' (es : List Ed) : List Value := es.flatMap Ed.cells
theorem edCells_at (es : List Ed) (k : Nat) (x : Ed) (h : es[k]? = some x) : (edCells' es)[k * 3]? = some (.int .i64 x.s) ∧ (edCells' es)[k * 3 + 1]? = some (.int .i64 x.e) ∧ (edCells' es)[k * 3 + 2]? = some (.string x.t) := by
  unfold edCells'
  induction es generalizing k with
  | nil => simp at h
  | cons y ys ih =>
    cases k with
    | zero => simp at h; subst h; simp [Ed.cells]
    | succ k =>
      obtain ⟨h1, h2, h3⟩ := ih k (by simpa using h)
      have e : ∀ j, (List.flatMap Ed.cells (y :: ys))[(k + 1) * 3 + j]? = (List.flatMap Ed.cells ys)[k * 3 + j]? := by
        intro j
        rw [List.flatMap_cons, List.getElem?_append_right (by simp [Ed.cells]; omega)]
        congr 1; simp [Ed.cells]; omega
      exact ⟨(e 0).trans h1, (e 1).trans h2, (e 2).trans h3⟩
theorem EdsAt.of_own {w : World} {base : Nat} {e : TypeId} {v : Value} {es : List Ed} (h : w.ownsRow base e 3 v es.length (edCells' es)) :
    ∃ A c, v = .slice A es.length c ∧ EdsAt w w.heap.size A es := by
  rcases h.2 with ⟨rfl, hn⟩ | ⟨g, cap, cur, rfl, hb, hh, _⟩
  · exact ⟨none, 0, by rw [hn], fun hp => by omega⟩
  · refine ⟨some ⟨g, 0, none⟩, cap, rfl, fun _ => ⟨g, 0, rfl, ?_, fun k x hx => ?_⟩⟩
    · rcases Nat.lt_or_ge g w.heap.size with h | h
      · exact h
      · rw [Array.getElem?_eq_none h] at hh; cases hh
    · obtain ⟨h1, h2, h3⟩ := edCells_at es k x hx
      have c1 := h.cells (g := g) rfl _ _ h1
      have c2 := h.cells (g := g) rfl _ _ h2
      have c3 := h.cells (g := g) rfl _ _ h3
      rw [addr0] at c1 c2 c3
      simp only [Nat.zero_add]
      exact ⟨c1, c2, c3⟩
theorem info_ed : (Tryz.prog.info? 93).map (fun i => (i.zero, i.size, i.bytes)) = some (some (.agg #[.int .i64 0, .int .i64 0, .string .empty]), 3, 32) := by kernel_rfl
theorem below_drewN {B : Nat} {a w : World} (h : Below B a w) (n : Nat) : Below B a (w.drewN n) := ⟨h.os, h.tape, h.output, h.size, h.block⟩
theorem own_below {w w' : World} {base : Nat} {e : TypeId} {size : Nat} {v : Value} {n : Nat} {xs : List Value} (h : w.ownsRow base e size v n xs) (hb : Below w.heap.size w w') : w'.ownsRow base e size v n xs := by
  rcases h.2 with ⟨rfl, hn⟩ | ⟨g, cap, cur, rfl, hb', hh, h3⟩
  · exact ⟨h.1, .inl ⟨rfl, hn⟩⟩
  · refine ⟨h.1, .inr ⟨g, cap, cur, rfl, hb', ?_, h3⟩⟩
    have hlt : g < w.heap.size := by
      rcases Nat.lt_or_ge g w.heap.size with h | h
      · exact h
      · rw [Array.getElem?_eq_none h] at hh; cases hh
    exact (hb.block g hlt).trans hh
theorem grown_below {B : Nat} {e : TypeId} {size n : Nat} {v : Value} {xs : List Value} {w0 w w' : World} (hb : Below B w0 w) (hB : B ≤ w.heap.size) (ho : w.ownsRow B e size v n xs) (hg : w.grownBy w' v.ownBlock) : Below B w0 w' :=
  hb.grown hg hB (fun k hk => (ho.lt k hk).1)
theorem grown_of_alloc {u w' : World} {o : Obj} {row : Option Nat} (hg : (u.alloc o).grownBy w' row) : u.grownBy w' row :=
  ⟨hg.os, hg.tape, hg.output, Nat.le_trans (by simp) hg.size, fun k hk hne => (hg.block k (by simp; omega) hne).trans (Below.heap_alloc u o k hk)⟩
theorem wpList_append_litH {P : Program} {u : World} {ops : Array Oper} {rest : List Oper} {o : Oper} {a : Act} {Q : Exit → Act → World → Prop} (hgd : o.guard = none) (s x : Operand) (t : TypeId)
    (ho : o.op = .call { callee := .builtin .append, args := #[s, x], argTypes := #[t, t] })
    (base : Nat) (e : TypeId) (z : Value) (size bytes : Nat) (ht : P.underlying t = some (.slice e)) (hinfo : (P.info? e).map (fun i => (i.zero, i.size, i.bytes)) = some (some z, size, bytes))
    (hzs : z.cells.size = size) (hsz : 0 < size)
    (v : Value) (n : Nat) (xs : List Value) (hs : a.eval s = v) (hown : u.ownsRow base e size v n xs)
    (m c H : Nat) (hH : u.heap.size = H) (news : List Value) (hx : a.eval x = .slice (some ⟨H, 0, none⟩) m c) (hl : news.length = m * size) (h1 : ∀ u ∈ news, u.oneCell' = true)
    (h63 : n + m ≤ maxLen) (hbytes : (n + m) * bytes ≤ 140737488355328) (hbase : base ≤ u.heap.size)
    (h : ∀ v' w', w'.ownsRow base e size v' (n + m) (xs ++ news) → u.grownBy w' v.ownBlock → (v'.ownBlock = v.ownBlock ∨ ∃ g, v'.ownBlock = some g ∧ u.heap.size ≤ g) → wpList P ops Q rest (a.put o.dst v') w') :
    wpList P ops Q (o :: rest) a (u.alloc (.cells news.toArray e)) := by
  subst hH
  refine wpList_plain hgd fun K hK => ?_
  obtain ⟨i, hi, hz, hsize, hby⟩ := info_parts hinfo
  obtain ⟨v', w', hr, h2, h3, _, h5⟩ := run_append_own_at (P := P) (u.alloc (.cells news.toArray e)) base t o.type e i z size bytes ht hi hz hsize hby hzs hsz v n xs (hown.alloc _) ⟨u.heap.size, 0, none⟩ m c news hl
    (fun j w hw => by rw [addr0, World.cell?_alloc_new]; simpa using hw) h1 h63 hbytes (by simp; omega)
  unfold Oper.wp execOp
  simp only [ho, resolve, invoke, builtin, Sem.run_bind, Sem.run_pure, Result.andThen_ok, List.map_toArray, List.map_cons, List.map_nil, hs, hx, hr]
  exact hK _ _ (h v' w' h2 (grown_of_alloc h3) (h5.imp_right fun h => ⟨_, h, by simp⟩))
theorem wpList_append_lit {P : Program} {u : World} {ops : Array Oper} {rest : List Oper} {o : Oper} {a : Act} {Q : Exit → Act → World → Prop} (hgd : o.guard = none) (s x : Operand) (t : TypeId)
    (ho : o.op = .call { callee := .builtin .append, args := #[s, x], argTypes := #[t, t] })
    (base : Nat) (e : TypeId) (z : Value) (size bytes : Nat) (ht : P.underlying t = some (.slice e)) (hinfo : (P.info? e).map (fun i => (i.zero, i.size, i.bytes)) = some (some z, size, bytes))
    (hzs : z.cells.size = size) (hsz : 0 < size)
    (v : Value) (n : Nat) (xs : List Value) (hs : a.eval s = v) (hown : u.ownsRow base e size v n xs)
    (m c : Nat) (news : List Value) (hx : a.eval x = .slice (some ⟨u.heap.size, 0, none⟩) m c) (hl : news.length = m * size) (h1 : ∀ u ∈ news, u.oneCell' = true)
    (h63 : n + m ≤ maxLen) (hbytes : (n + m) * bytes ≤ 140737488355328) (hbase : base ≤ u.heap.size)
    (h : ∀ v' w', w'.ownsRow base e size v' (n + m) (xs ++ news) → u.grownBy w' v.ownBlock → (v'.ownBlock = v.ownBlock ∨ ∃ g, v'.ownBlock = some g ∧ u.heap.size ≤ g) → wpList P ops Q rest (a.put o.dst v') w') :
    wpList P ops Q (o :: rest) a (u.alloc (.cells news.toArray e)) :=
  wpList_append_litH hgd s x t ho base e z size bytes ht hinfo hzs hsz v n xs hs hown m c _ rfl news hx hl h1 h63 hbytes hbase h
def Kept (t0 t1 : TypeId) (w w' : World) : Prop := ∀ (g : Nat) (cs : Array Value) (t : TypeId) (fr : Nat × Nat), w.heap[g]? = some (.cells cs t fr) → t ≠ t0 → t ≠ t1 → w'.heap[g]? = some (.cells cs t fr)
theorem Kept.trans {t0 t1 : TypeId} {a b c : World} (h : Kept t0 t1 a b) (k : Kept t0 t1 b c) : Kept t0 t1 a c := fun g cs t fr hg h0 h1 => k g cs t fr (h g cs t fr hg h0 h1) h0 h1
theorem Kept.refl (t0 t1 : TypeId) (w : World) : Kept t0 t1 w w := fun _ _ _ _ h _ _ => h
theorem lt_of_heap {w : World} {g : Nat} {o : Obj} (h : w.heap[g]? = some o) : g < w.heap.size := by
  rcases Nat.lt_or_ge g w.heap.size with h' | h'
  · exact h'
  · rw [Array.getElem?_eq_none h'] at h; cases h
theorem Kept.setCell {t0 t1 t : TypeId} {w : World} {b : Nat} {cs : Array Value} {fr : Nat × Nat} (hb : w.heap[b]? = some (.cells cs t fr)) (ht : t = t0 ∨ t = t1) (i : Nat) (v : Value) : Kept t0 t1 w (w.setCell ⟨b, i, none⟩ v) := by
  intro g cs' t' fr' hg h0 h1
  rw [Below.heap_setCell _ _ _ _ (fun e => ?_)]
  · exact hg
  · simp only at e
    subst e
    rw [hb] at hg
    injection hg with hg
    injection hg with _ hg _
    rcases ht with ht | ht
    · exact h0 (by rw [← hg, ht])
    · exact h1 (by rw [← hg, ht])
theorem Kept.grown {t0 t1 e : TypeId} {w w' : World} {base size n : Nat} {v : Value} {xs : List Value} (ho : w.ownsRow base e size v n xs) (hg : w.grownBy w' v.ownBlock) (he : e = t0 ∨ e = t1) : Kept t0 t1 w w' := by
  intro g cs' t' fr' hh h0 h1
  rw [hg.block g (lt_of_heap hh) (fun e' => ?_)]
  · exact hh
  · rcases ho.2 with ⟨rfl, _⟩ | ⟨g', cap, cur, rfl, _, hc, _⟩
    · simp [Value.ownBlock] at e'
    · simp [Value.ownBlock] at e'
      subst e'
      rw [hc] at hh
      injection hh with hh
      injection hh with _ hh _
      rcases he with ht | ht
      · exact h0 (by rw [← hh, ht])
      · exact h1 (by rw [← hh, ht])
theorem drop_cons {α : Type} (es : List α) (k : Nat) (h : k < es.length) : es.drop k = es[k] :: es.drop (k + 1) := List.drop_eq_getElem_cons h

def valLoop : List Ed → Int → Int
  | [], _ => 0
  | x :: xs, p => if x.s ≤ p ∨ x.e < x.s then 3 else valLoop xs x.e
def valA (es : List Ed) : Int := if 50 < es.length then 2 else valLoop es (-1)
set_option maxHeartbeats 400000 in
theorem valA_any (A : Option Addr) (c : Nat) (es : List Ed) (w : World) (h : EdsAt w w.heap.size A es) (hm : es.length ≤ maxLen) :
    Calls Tryz.prog 202 #[.slice A es.length c] w fun e w' => e = .returned (.int .i64 (valA es)) ∧ Below w.heap.size w w' := by
  unfold maxLen at hm
  by_cases h50 : 50 < es.length
  · go_enter Tryz.func202, Tryz.ntmps202
    go_wp2
    go_ret
    exact ⟨by simp [valA, h50], Below.refl _ _⟩
  · have HA : Hid (valA es = valLoop es (-1)) := by unfold Hid; simp [valA, h50]
    go_enter Tryz.func202, Tryz.ntmps202
    go_wp2
    go_loopw [3, 11] (fun p i wr => ∃ (k : Nat) (pe : Int), k ≤ es.length ∧ i = .int .i64 k ∧ p = .int .i64 pe ∧ Hid (valLoop (es.drop k) pe = valLoop es (-1)) ∧ Below w.heap.size w wr) (fun _ i _ => es.length - (intOf i).toNat)
    case atStart => exact ⟨0, -1, Nat.zero_le _, rfl, rfl, rfl, Below.refl _ _⟩
    case round =>
      obtain ⟨k, pe, hk, rfl, rfl, HV, hb⟩ := hrel
      by_cases hlt : k < es.length
      · obtain ⟨b, off, rfl, hbb, hc⟩ := (h.below hb) (by omega)
        obtain ⟨c1, c2, c3⟩ := hc k es[k] (List.getElem?_eq_getElem hlt)
        have HD := Lib.hid (drop_cons es k hlt)
        clear hc h
        generalize es[k] = x at *
        have hbw := hb.alloc hb.size (.cells #[.int .i64 x.s, .int .i64 x.e, .string x.t] 93)
        by_cases hbad : x.s ≤ pe ∨ x.e < x.s
        · have HF : Hid (valA es = 3) := by unfold Hid; rw [HA.out, ← HV.out, HD.out, valLoop, if_pos hbad]
          go_wp2
          all_goals
            go_ret
            exact ⟨by rw [HF.out]; rfl, hbw⟩
        · have HF : Hid (valLoop (es.drop (k + 1)) x.e = valLoop es (-1)) := by unfold Hid; rw [← HV.out, HD.out, valLoop, if_neg hbad]
          have hb1 : pe < x.s := by omega
          have hb2 : x.s ≤ x.e := by omega
          clear hbad
          go_wp2
          go_roundw
          case rel => exact ⟨k + 1, x.e, by omega, by go_num, rfl, HF, hbw⟩
          case measure => simp [intOf]; omega
      · have HF : Hid (valA es = 0) := by unfold Hid; rw [HA.out, ← HV.out, List.drop_of_length_le (by omega)]; rfl
        go_wp2
        go_ret
        exact ⟨by rw [HF.out]; rfl, hb⟩
def mapOffW : List Ed → Int → Bool → Int → Int
  | [], off, _, sh => wrap64 (off + sh)
  | x :: xs, off, r, sh =>
    if x.e < off ∨ (x.e = off ∧ (x.s < off ∨ r = true)) then mapOffW xs off r (wrap64 (sh + wrap64 (x.t.size - wrap64 (x.e - x.s))))
    else if x.s < off ∧ r = true then wrap64 (wrap64 (x.s + sh) + x.t.size)
    else if x.s < off then wrap64 (x.s + sh)
    else wrap64 (off + sh)
set_option maxHeartbeats 1000000 in
theorem mapOff_any (A : Option Addr) (c : Nat) (es : List Ed) (off : Int) (r : Bool) (w : World) (h : EdsAt w w.heap.size A es) (hm : es.length ≤ 50) :
    Calls Tryz.prog 203 #[.slice A es.length c, .int .i64 off, .bool r] w fun e w' => e = .returned (.int .i64 (mapOffW es off r 0)) ∧ Below w.heap.size w w' := by
  go_enter Tryz.func203, Tryz.ntmps203
  go_wp2
  go_loopw [7, 12] (fun p i wr => ∃ (k : Nat) (sh : Int), k ≤ es.length ∧ i = .int .i64 k ∧ p = .int .i64 sh ∧ Hid (mapOffW (es.drop k) off r sh = mapOffW es off r 0) ∧ Below w.heap.size w wr) (fun _ i _ => es.length - (intOf i).toNat)
  case atStart => exact ⟨0, 0, Nat.zero_le _, rfl, rfl, rfl, Below.refl _ _⟩
  case round =>
    obtain ⟨k, sh, hk, rfl, rfl, HV, hb⟩ := hrel
    by_cases hlt : k < es.length
    · obtain ⟨b, off', rfl, hbb, hc⟩ := (h.below hb) (by omega)
      obtain ⟨c1, c2, c3⟩ := hc k es[k] (List.getElem?_eq_getElem hlt)
      have HD := Lib.hid (drop_cons es k hlt)
      clear hc h
      generalize es[k] = x at *
      have hbw := hb.alloc hb.size (.cells #[.int .i64 x.s, .int .i64 x.e, .string x.t] 93)
      by_cases hp : x.e < off ∨ (x.e = off ∧ (x.s < off ∨ r = true))
      · have HF : Hid (mapOffW (es.drop (k + 1)) off r (wrap64 (sh + wrap64 (x.t.size - wrap64 (x.e - x.s)))) = mapOffW es off r 0) := by unfold Hid; rw [← HV.out, HD.out, mapOffW, if_pos hp]
        by_cases h1 : x.e < off
        · clear hp
          go_wp2
          go_roundw
          case rel => exact ⟨k + 1, _, by omega, by go_num, rfl, HF, hbw⟩
          case measure => simp [intOf]; omega
        · have h2 : (x.e == off) = true := by simp; omega
          by_cases h3 : x.s < off
          · clear hp
            go_wp2
            go_roundw
            case rel => exact ⟨k + 1, _, by omega, by go_num, rfl, HF, hbw⟩
            case measure => simp [intOf]; omega
          · obtain rfl : r = true := by
              rcases hp with hp | ⟨_, hp | hp⟩
              · omega
              · omega
              · exact hp
            clear hp
            go_wp2
            go_roundw
            case rel => exact ⟨k + 1, _, by omega, by go_num, rfl, HF, hbw⟩
            case measure => simp [intOf]; omega
      · have HG : Hid (mapOffW es off r 0 = if x.s < off ∧ r = true then wrap64 (wrap64 (x.s + sh) + x.t.size) else if x.s < off then wrap64 (x.s + sh) else wrap64 (off + sh)) := by
          unfold Hid; rw [← HV.out, HD.out, mapOffW, if_neg hp]
        have h1 : ¬ x.e < off := fun h => hp (.inl h)
        by_cases h2 : (x.e == off) = true
        · have h3 : ¬ x.s < off := fun h => hp (.inr ⟨by simpa using h2, .inl h⟩)
          obtain rfl : r = false := by
            cases r
            · rfl
            · exact absurd (.inr ⟨by simpa using h2, .inr rfl⟩) hp
          clear hp
          have HF : Hid (mapOffW es off false 0 = wrap64 (off + sh)) := by unfold Hid; rw [HG.out]; simp [h3]
          go_wp2
          go_ret
          exact ⟨by rw [HF.out]; rfl, hbw⟩
        · have h2' : (x.e == off) = false := by simpa using h2
          clear h2 hp
          by_cases h3 : x.s < off
          · cases r
            · have HF : Hid (mapOffW es off false 0 = wrap64 (x.s + sh)) := by unfold Hid; rw [HG.out]; simp [h3]
              go_wp2
              go_ret
              exact ⟨by rw [HF.out]; rfl, hbw⟩
            · have HF : Hid (mapOffW es off true 0 = wrap64 (wrap64 (x.s + sh) + x.t.size)) := by unfold Hid; rw [HG.out]; simp [h3]
              go_wp2
              go_ret
              exact ⟨by rw [HF.out]; rfl, hbw⟩
          · have HF : Hid (mapOffW es off r 0 = wrap64 (off + sh)) := by unfold Hid; rw [HG.out]; simp [h3]
            go_wp2
            go_ret
            exact ⟨by rw [HF.out]; rfl, hbw⟩
    · have HF : Hid (mapOffW es off r 0 = wrap64 (off + sh)) := by unfold Hid; rw [← HV.out, List.drop_of_length_le (by omega)]; rfl
      go_wp2
      go_ret
      exact ⟨by rw [HF.out]; rfl, hb⟩

def mapP (es : List Ed) (off : Int) (r : Bool) : Int := if valA es = 0 then (if off < 0 then 0 else mapOffW es off r 0) else 0
def mapE (es : List Ed) (off : Int) : Int := if valA es = 0 then (if off < 0 then 1 else 0) else valA es
theorem valA_len {es : List Ed} (h : valA es = 0) : es.length ≤ 50 := by
  unfold valA at h; split at h <;> omega
set_option maxHeartbeats 400000 in
theorem map_any (A : Option Addr) (c : Nat) (es : List Ed) (off : Int) (r : Bool) (w : World) (h : EdsAt w w.heap.size A es) (hm : es.length ≤ maxLen) :
    Calls Tryz.prog 122 #[.slice A es.length c, .int .i64 off, .bool r] w fun e w' => e = .returned (.tuple #[.int .i64 (mapP es off r), .int .i64 (mapE es off)]) ∧ Below w.heap.size w w' := by
  by_cases hv : valA es = 0
  · have h1 : (valA es == 0) = true := by simp [hv]
    have h2 : (valA es != 0) = false := by simp [hv]
    have hl := valA_len hv
    by_cases ho : off < 0
    · have HP : Hid (mapP es off r = 0 ∧ mapE es off = 1) := by unfold Hid; simp [mapP, mapE, hv, ho]
      clear hv
      go_enter Tryz.func122, Tryz.ntmps122
      go_wp2_with (go_at_call 202; refine (valA_any _ _ _ _ h hm).mono ?_; rintro e w1 ⟨rfl, hb1⟩)
      go_ret2
      exact ⟨by rw [HP.out.1, HP.out.2]; rfl, hb1⟩
    · have HP : Hid (mapP es off r = mapOffW es off r 0 ∧ mapE es off = 0) := by unfold Hid; simp [mapP, mapE, hv, ho]
      have HV := Lib.hid hv
      clear hv
      go_enter Tryz.func122, Tryz.ntmps122
      go_wp2_with (first | (go_at_call 202; refine (valA_any _ _ _ _ h hm).mono ?_; rintro e w1 ⟨rfl, hb1⟩) | (go_at_call 203; refine (mapOff_any _ _ _ _ _ _ ((h.below hb1).more hb1.size) hl).mono ?_; rintro e w2 ⟨rfl, hb2⟩))
      go_ret2
      exact ⟨by rw [HP.out.1, HP.out.2]; rfl, hb1.trans (hb2.mono hb1.size)⟩
  · have h1 : (valA es == 0) = false := by simp [hv]
    have h2 : (valA es != 0) = true := by simp [hv]
    have HP : Hid (mapP es off r = 0 ∧ mapE es off = valA es) := by unfold Hid; simp [mapP, mapE, hv]
    clear hv
    go_enter Tryz.func122, Tryz.ntmps122
    go_wp2_with (go_at_call 202; refine (valA_any _ _ _ _ h hm).mono ?_; rintro e w1 ⟨rfl, hb1⟩)
    go_ret2
    exact ⟨by rw [HP.out.1, HP.out.2]; rfl, hb1⟩

def valTLoop (n : Int) : List Ed → Int → Int → Int
  | [], _, len => if 2000 < len then 2 else 0
  | x :: xs, p, len => if x.s ≤ p ∨ x.e < x.s ∨ n < x.e then 3 else valTLoop n xs x.e (len + (x.t.size - (x.e - x.s)))
def valT (n : Int) (es : List Ed) : Int := if 2000 < n ∨ 50 < es.length then 2 else valTLoop n es (-1) n
set_option maxHeartbeats 800000 in
theorem valT_any (src : ByteArray) (A : Option Addr) (c : Nat) (es : List Ed) (w : World) (h : EdsAt w w.heap.size A es) (hm : es.length ≤ maxLen) (hs : Short es) (hsrc : src.size ≤ maxLen) :
    Calls Tryz.prog 45 #[.string src, .slice A es.length c] w fun e w' => e = .returned (.int .i64 (valT src.size es)) ∧ Below w.heap.size w w' := by
  unfold maxLen at hm hsrc
  by_cases h2000 : 2000 < src.size
  · have HF : Hid (valT src.size es = 2) := by unfold Hid valT; rw [if_pos (.inl (by omega))]
    go_enter Tryz.func45, Tryz.ntmps45
    go_wp2
    go_ret
    exact ⟨by rw [HF.out]; rfl, Below.refl _ _⟩
  by_cases h50 : 50 < es.length
  · have HF : Hid (valT src.size es = 2) := by unfold Hid valT; rw [if_pos (.inr h50)]
    go_enter Tryz.func45, Tryz.ntmps45
    go_wp2
    go_ret
    exact ⟨by rw [HF.out]; rfl, Below.refl _ _⟩
  have HA : Hid (valT src.size es = valTLoop src.size es (-1) src.size) := by unfold Hid valT; rw [if_neg (by omega)]
  go_enter Tryz.func45, Tryz.ntmps45
  go_wp2
  go_loopw [5, 6, 21] (fun p l i wr => ∃ (k : Nat) (pe len : Int), k ≤ es.length ∧ i = .int .i64 k ∧ p = .int .i64 pe ∧ l = .int .i64 len ∧ -1 ≤ pe ∧ pe ≤ 2000 ∧ -1 - pe ≤ len ∧ len ≤ 2000 + k * 140737488351232 ∧
    Hid (valTLoop src.size (es.drop k) pe len = valTLoop src.size es (-1) src.size) ∧ Below w.heap.size w wr) (fun _ _ i _ => es.length - (intOf i).toNat)
  case atStart => exact ⟨0, -1, src.size, Nat.zero_le _, rfl, rfl, rfl, by omega, by omega, by omega, by omega, rfl, Below.refl _ _⟩
  case round =>
    obtain ⟨k, pe, len, hk, rfl, rfl, rfl, q1, q2, q3, q4, HV, hb⟩ := hrel
    by_cases hlt : k < es.length
    · obtain ⟨b, off, rfl, hbb, hc⟩ := (h.below hb) (by omega)
      obtain ⟨c1, c2, c3⟩ := hc k es[k] (List.getElem?_eq_getElem hlt)
      have HD := Lib.hid (drop_cons es k hlt)
      have hsx := hs es[k] (List.getElem_mem hlt)
      clear hc h hs
      generalize es[k] = x at *
      have hbw := hb.alloc hb.size (.cells #[.int .i64 x.s, .int .i64 x.e, .string x.t] 93)
      by_cases hbad : x.s ≤ pe ∨ x.e < x.s ∨ src.size < x.e
      · have HF : Hid (valT src.size es = 3) := by unfold Hid; rw [HA.out, ← HV.out, HD.out, valTLoop, if_pos hbad]
        by_cases g1 : x.s ≤ pe
        · clear hbad
          go_wp2
          go_ret
          exact ⟨by rw [HF.out]; rfl, hbw⟩
        · by_cases g2 : x.e < x.s
          · clear hbad
            go_wp2
            go_ret
            exact ⟨by rw [HF.out]; rfl, hbw⟩
          · have g3 : (src.size : Int) < x.e := by omega
            clear hbad
            go_wp2
            go_ret
            exact ⟨by rw [HF.out]; rfl, hbw⟩
      · have HF : Hid (valTLoop src.size (es.drop (k + 1)) x.e (len + (x.t.size - (x.e - x.s))) = valTLoop src.size es (-1) src.size) := by unfold Hid; rw [← HV.out, HD.out, valTLoop, if_neg hbad]
        have hb1 : pe < x.s := by omega
        have hb2 : x.s ≤ x.e := by omega
        have hb3 : x.e ≤ src.size := by omega
        clear hbad
        go_wp2
        go_roundw
        case rel => exact ⟨k + 1, x.e, _, by omega, by go_num, rfl, rfl, by omega, by omega, by omega, by omega, HF, hbw⟩
        case measure => simp [intOf]; omega
    · have HF : Hid (valT src.size es = if 2000 < len then 2 else 0) := by unfold Hid; rw [HA.out, ← HV.out, List.drop_of_length_le (by omega)]; rfl
      by_cases g : 2000 < len
      · have HG : Hid (valT src.size es = 2) := by unfold Hid; rw [HF.out, if_pos g]
        go_wp2
        go_ret
        exact ⟨by rw [HG.out]; rfl, hb⟩
      · have HG : Hid (valT src.size es = 0) := by unfold Hid; rw [HF.out, if_neg g]
        go_wp2
        go_ret
        exact ⟨by rw [HG.out]; rfl, hb⟩

theorem valTLoop_cons {n : Int} {x : Ed} {xs : List Ed} {p len : Int} (h : valTLoop n (x :: xs) p len = 0) : (p < x.s ∧ x.s ≤ x.e ∧ x.e ≤ n) ∧ valTLoop n xs x.e (len + (x.t.size - (x.e - x.s))) = 0 := by
  unfold valTLoop at h
  split at h
  · omega
  · rename_i g; exact ⟨by omega, h⟩
theorem valT_ok {n : Int} {es : List Ed} (h : valT n es = 0) : n ≤ 2000 ∧ es.length ≤ 50 ∧ valTLoop n es (-1) n = 0 := by
  unfold valT at h
  split at h
  · omega
  · rename_i g; exact ⟨by omega, by omega, h⟩
end Go.Proofs.YtpibenilagloaaaGreatDoor.tx
