import Derived.Test.YtpibenilagloaaaGreatDoorMzaf
import Derived.Deep.RegionHeld3
namespace Go.Proofs.YtpibenilagloaaaGreatDoor
open Go.RowKit
set_option linter.unusedVariables false
def mdC (x : Mdl) : List Value := [.string x.nm, .string x.src]
def mdD : Dat Mdl := flatD mdC 2 (by decide) (fun _ => rfl) (fun x v hv => by simp [mdC] at hv; rcases hv with rfl | rfl <;> rfl)
def syC (x : Sym) : List Value := [.int .i64 x.kind, .int .i64 x.mod, .int .i64 x.st, .int .i64 x.par, .string x.nm, .bool x.pub]
def syD : Dat Sym := flatD syC 6 (by decide) (fun _ => rfl) (fun x v hv => by simp [syC] at hv; rcases hv with rfl | rfl | rfl | rfl | rfl | rfl <;> rfl)
def xpC (x : Xpt) : List Value := [.int .i64 x.mod, .string x.nm, .int .i64 x.sym, .bool x.pub]
def xpD : Dat Xpt := flatD xpC 4 (by decide) (fun _ => rfl) (fun x v hv => by simp [xpC] at hv; rcases hv with rfl | rfl | rfl | rfl <;> rfl)
def rfC (x : Rfn) : List Value := [.int .i64 x.mod, .int .i64 x.st, .int .i64 x.sym]
def rfD : Dat Rfn := flatD rfC 3 (by decide) (fun _ => rfl) (fun x v hv => by simp [rfC] at hv; rcases hv with rfl | rfl | rfl <;> rfl)
def inC (x : Int) : List Value := [.int .i64 x]
def inD : Dat Int := flatD inC 1 (by decide) (fun _ => rfl) (fun x v hv => by simp [inC] at hv; rcases hv with rfl; rfl)
theorem info_sy : (Tryz.prog.info? 89).map (fun i => (i.zero, i.size, i.bytes)) = some (some (.agg #[.int .i64 0, .int .i64 0, .int .i64 0, .int .i64 0, .string .empty, .bool false]), 6, 56) := by kernel_rfl
theorem info_xp : (Tryz.prog.info? 208).map (fun i => (i.zero, i.size, i.bytes)) = some (some (.agg #[.int .i64 0, .string .empty, .int .i64 0, .bool false]), 4, 40) := by kernel_rfl
theorem info_rf : (Tryz.prog.info? 117).map (fun i => (i.zero, i.size, i.bytes)) = some (some (.agg #[.int .i64 0, .int .i64 0, .int .i64 0]), 3, 24) := by kernel_rfl
theorem info_in : (Tryz.prog.info? 3).map (fun i => (i.zero, i.size, i.bytes)) = some (some (.int .i64 0), 1, 8) := by kernel_rfl
theorem ba_inj {a b : ByteArray} (h : a.toList = b.toList) : a = b := by
  rw [ByteArray.toList_eq, ByteArray.toList_eq] at h
  cases a; cases b
  simp_all
structure PgV (w : World) (p : Nat) (ss : List Sym) (xs : List Xpt) : Prop where
  sy : ∃ A c, w.cell? ⟨p, 2, none⟩ = some (.slice A ss.length c) ∧ syD.At w (Lt w) A ss
  xp : ∃ A c, w.cell? ⟨p, 3, none⟩ = some (.slice A xs.length c) ∧ xpD.At w (Lt w) A xs
  lt : p < w.heap.size
theorem PgV.below {w w' : World} {p : Nat} {ss : List Sym} {xs : List Xpt} (h : PgV w p ss xs) (hb : Below w.heap.size w w') : PgV w' p ss xs := by
  obtain ⟨⟨A, c, h1, h2⟩, ⟨D, d, h3, h4⟩, h5⟩ := h
  exact ⟨⟨A, c, (hb.cell (p := ⟨p, 2, none⟩) h5).trans h1, h2.keep (fun b hb' => Nat.lt_of_lt_of_le hb' hb.size) (fun b hb' => hb.block b hb')⟩,
    ⟨D, d, (hb.cell (p := ⟨p, 3, none⟩) h5).trans h3, h4.keep (fun b hb' => Nat.lt_of_lt_of_le hb' hb.size) (fun b hb' => hb.block b hb')⟩, Nat.lt_of_lt_of_le h5 hb.size⟩
set_option maxRecDepth 100000 in
set_option maxHeartbeats 1600000 in
theorem lookup_any (p : Nat) (ss : List Sym) (xs : List Xpt) (m fr : Int) (nm : ByteArray) (w : World) (h : PgV w p ss xs) (hm : xs.length ≤ 1000000) :
    Calls Tryz.prog 288 #[.pointer (some ⟨p, 0, none⟩), .int .i64 m, .string nm, .int .i64 fr] w fun e w' => ∃ A c, e = .returned (.slice A (lookupL xs m nm fr).length c) ∧ xpD.At w' (Nw w w') A (lookupL xs m nm fr) ∧ Below w.heap.size w w' := by
  obtain ⟨A, c, hc3, hat⟩ := h.xp
  have hpl := h.lt
  obtain ⟨n, hn⟩ : ∃ n, xs.length = n := ⟨_, rfl⟩
  have HN := Lib.hid hn
  have HA := Lib.hid hat
  rw [hn] at hc3 hm
  have HLL := Lib.hid (show ∀ ys, lookupL ys m nm fr = ys.filter fun e => decide (e.mod = m) && (decide (e.nm = nm) && (e.pub || decide (m = fr))) from fun _ => rfl)
  clear hn hat h
  go_enter Tryz.func288, Tryz.ntmps288
  go_wp2_with fail
  have hq0 : xpD.Own w w.heap.size 208 (OF w.heap.size (.slice none 0 0) w) (.slice none 0 0) [] [] := Dat.Own.nil
  go_loopw [9, 17] (fun v i wr => ∃ (j : Nat) (vs : List Value), i = .int .i64 (j : Int) ∧ j ≤ n ∧ xpD.Own wr w.heap.size 208 (OF w.heap.size v wr) v (lookupL (xs.take j) m nm fr) vs ∧ Below w.heap.size w wr) (fun _ i _ => n - (intOf i).toNat)
  case atStart => exact ⟨0, [], rfl, Nat.zero_le _, by simpa [lookupL] using hq0, Below.refl _ _⟩
  case round =>
    clear hq0
    obtain ⟨j, vs, rfl, hj, hown, hb⟩ := hrel
    by_cases hlt : j < n
    · have hjI : (j : Int) < n := by omega
      have hjl : j < xs.length := by rw [HN.out]; exact hlt
      obtain ⟨tb, off, rfl, htb, hxc⟩ := flat_get HA.out j xs[j] (List.getElem?_eq_getElem hjl)
      have htk : lookupL (xs.take (j + 1)) m nm fr = lookupL (xs.take j) m nm fr ++ (if (decide (xs[j].mod = m) && (decide (xs[j].nm = nm) && (xs[j].pub || decide (m = fr)))) then [xs[j]] else []) := by
        rw [HLL.out, HLL.out]; exact filter_take_succ _ xs j xs[j] (List.getElem?_eq_getElem hjl)
      have hlen : (lookupL (xs.take j) m nm fr).length ≤ j := by
        rw [HLL.out]; refine Nat.le_trans (List.length_filter_le _ _) ?_; rw [List.length_take]; omega
      generalize xs[j] = x at *
      obtain ⟨x0, x1, x2, x3⟩ := x
      simp only at htk
      have hbs := hb.size
      have htl : tb < w.heap.size := htb
      have cc : ∀ i u, ([.int .i64 x0, .string x1, .int .i64 x2, .bool x3] : List Value)[i]? = some u → wr.cell? ⟨tb, off + j * 4 + i, none⟩ = some u := fun i u hu => (hb.cell (p := ⟨tb, _, none⟩) htl).trans (hxc i u hu)
      have d0 := cc 0 _ rfl
      have d1 := cc 1 _ rfl
      have d2 := cc 2 _ rfl
      have d3 := cc 3 _ rfl
      rw [Nat.add_zero] at d0
      have htl2 : tb < wr.heap.size := Nat.lt_of_lt_of_le htl hbs
      have HTK := Lib.hid htk
      have HOW := Lib.hid hown
      have HB := Lib.hid hb
      have HLE := Lib.hid hlen
      clear cc hxc htk hown hb hlen hc3
      by_cases g1 : m = x0
      · subst g1
        by_cases g2 : nm = x1
        · subst g2
          cases x3 with
          | true =>
            have HF := Lib.hid (show lookupL (xs.take (j + 1)) m nm fr = lookupL (xs.take j) m nm fr ++ [⟨m, nm, x2, true⟩] by rw [HTK.out, if_pos (by simp)])
            clear HTK
            have hbl : Below wr.heap.size wr (wr.alloc (.cells #[.int .i64 m, .string nm, .int .i64 x2, .bool true] 208)) := (Below.refl _ _).alloc (Nat.le_refl _) _
            have hown1 := HOW.out.below hbl
            obtain ⟨n0, hn0⟩ : ∃ n0, (lookupL (xs.take j) m nm fr).length = n0 := ⟨_, rfl⟩
            have ho1 := hown1.1
            have hn0b : n0 ≤ j := by rw [← hn0]; exact HLE.out
            rw [hn0] at ho1
            have ho1' : (wr.alloc (.cells #[.int .i64 m, .string nm, .int .i64 x2, .bool true] 208)).ownsRow w.heap.size 208 4 u9 n0 vs := ho1
            have HO1 := Lib.hid hown1
            have HBL := Lib.hid hbl
            have HN0 := Lib.hid hn0
            have hbB : w.heap.size ≤ (wr.alloc (.cells #[.int .i64 m, .string nm, .int .i64 x2, .bool true] 208)).heap.size := by simp; omega
            clear hn0 hown1 hbl ho1
            go_wp2_with (at_builtin; refine wpList_append_litH rfl (.tmp 40) (.tmp 42) _ rfl w.heap.size 208 _ 4 40 Tryz.underlying152 info_xp rfl (by decide) _ _ _ rfl ho1' 1 1 (wr.heap.size + 1) (by simp) [.int .i64 m, .string nm, .int .i64 x2, .bool true] rfl rfl ?a1 ?a2 ?a3 hbB ?_)
            case a1 => simp [Value.oneCell']
            case a2 => simp only [maxLen]; omega
            case a3 => omega
            intro v2 w2 hown2 hg2 hat2
            have h2 : xpD.Own w2 w.heap.size 208 (OF w.heap.size v2 w2) v2 (lookupL (xs.take (j + 1)) m nm fr) (vs ++ [.int .i64 m, .string nm, .int .i64 x2, .bool true]) := by
              rw [HF.out]
              exact HO1.out.grow (ys := [⟨m, nm, x2, true⟩]) (Dat.Row.single (D := xpD) rfl) hg2 (by rw [HN0.out]; exact hown2) (hat2.imp_right fun ⟨g, h1, h2⟩ => ⟨g, h1, by simp; exact h2⟩)
            have hb2 : Below w.heap.size w w2 := (HB.out.trans (HBL.out.mono hbs)).grown hg2 hbB (fun q hq => (HO1.out.1.lt q hq).1)
            have H2 := Lib.hid h2
            have HB2 := Lib.hid hb2
            clear h2 hb2 hown2 hg2 hat2
            go_wp2_with fail
            go_roundw
            case rel => exact ⟨j + 1, _, by go_num, by omega, H2.out, HB2.out⟩
            case measure => simp [intOf]; omega
          | false =>
            by_cases g4 : m = fr
            · subst g4
              have HF := Lib.hid (show lookupL (xs.take (j + 1)) m nm m = lookupL (xs.take j) m nm m ++ [⟨m, nm, x2, false⟩] by rw [HTK.out, if_pos (by simp)])
              clear HTK
              have hbl : Below wr.heap.size wr (wr.alloc (.cells #[.int .i64 m, .string nm, .int .i64 x2, .bool false] 208)) := (Below.refl _ _).alloc (Nat.le_refl _) _
              have hown1 := HOW.out.below hbl
              obtain ⟨n0, hn0⟩ : ∃ n0, (lookupL (xs.take j) m nm m).length = n0 := ⟨_, rfl⟩
              have ho1 := hown1.1
              have hn0b : n0 ≤ j := by rw [← hn0]; exact HLE.out
              rw [hn0] at ho1
              have ho1' : (wr.alloc (.cells #[.int .i64 m, .string nm, .int .i64 x2, .bool false] 208)).ownsRow w.heap.size 208 4 u9 n0 vs := ho1
              have HO1 := Lib.hid hown1
              have HBL := Lib.hid hbl
              have HN0 := Lib.hid hn0
              have hbB : w.heap.size ≤ (wr.alloc (.cells #[.int .i64 m, .string nm, .int .i64 x2, .bool false] 208)).heap.size := by simp; omega
              clear hn0 hown1 hbl ho1
              go_wp2_with (at_builtin; refine wpList_append_litH rfl (.tmp 40) (.tmp 42) _ rfl w.heap.size 208 _ 4 40 Tryz.underlying152 info_xp rfl (by decide) _ _ _ rfl ho1' 1 1 (wr.heap.size + 1) (by simp) [.int .i64 m, .string nm, .int .i64 x2, .bool false] rfl rfl ?b1 ?b2 ?b3 hbB ?_)
              case b1 => simp [Value.oneCell']
              case b2 => simp only [maxLen]; omega
              case b3 => omega
              intro v2 w2 hown2 hg2 hat2
              have h2 : xpD.Own w2 w.heap.size 208 (OF w.heap.size v2 w2) v2 (lookupL (xs.take (j + 1)) m nm m) (vs ++ [.int .i64 m, .string nm, .int .i64 x2, .bool false]) := by
                rw [HF.out]
                exact HO1.out.grow (ys := [⟨m, nm, x2, false⟩]) (Dat.Row.single (D := xpD) rfl) hg2 (by rw [HN0.out]; exact hown2) (hat2.imp_right fun ⟨g, h1, h2⟩ => ⟨g, h1, by simp; exact h2⟩)
              have hb2 : Below w.heap.size w w2 := (HB.out.trans (HBL.out.mono hbs)).grown hg2 hbB (fun q hq => (HO1.out.1.lt q hq).1)
              have H2 := Lib.hid h2
              have HB2 := Lib.hid hb2
              clear h2 hb2 hown2 hg2 hat2
              go_wp2_with fail
              go_roundw
              case rel => exact ⟨j + 1, _, by go_num, by omega, H2.out, HB2.out⟩
              case measure => simp [intOf]; omega
            · have HF := Lib.hid (show lookupL (xs.take (j + 1)) m nm fr = lookupL (xs.take j) m nm fr by rw [HTK.out, if_neg (by simp [g4]), List.append_nil])
              clear HTK
              go_wp2_with fail
              go_roundw
              case rel => exact ⟨j + 1, vs, by go_num, by omega, by rw [HF.out]; exact HOW.out.below ((Below.refl _ _).alloc (Nat.le_refl _) _), HB.out.alloc hbs _⟩
              case measure => simp [intOf]; omega
        · have gs : ¬ x1.toList = nm.toList := fun e => g2 (ba_inj e).symm
          have g2' : ¬ x1 = nm := fun e => g2 e.symm
          have HF := Lib.hid (show lookupL (xs.take (j + 1)) m nm fr = lookupL (xs.take j) m nm fr by rw [HTK.out, if_neg (by simp [g2']), List.append_nil])
          clear HTK
          go_wp2_with fail
          go_roundw
          case rel => exact ⟨j + 1, vs, by go_num, by omega, by rw [HF.out]; exact HOW.out.below ((Below.refl _ _).alloc (Nat.le_refl _) _), HB.out.alloc hbs _⟩
          case measure => simp [intOf]; omega
      · have g1' : ¬ x0 = m := fun e => g1 e.symm
        have HF := Lib.hid (show lookupL (xs.take (j + 1)) m nm fr = lookupL (xs.take j) m nm fr by rw [HTK.out, if_neg (by simp [g1']), List.append_nil])
        clear HTK
        go_wp2_with fail
        go_roundw
        case rel => exact ⟨j + 1, vs, by go_num, by omega, by rw [HF.out]; exact HOW.out.below ((Below.refl _ _).alloc (Nat.le_refl _) _), HB.out.alloc hbs _⟩
        case measure => simp [intOf]; omega
    · have hjI : ¬ (j : Int) < n := by omega
      have htk : xs.take j = xs := List.take_of_length_le (by rw [HN.out]; omega)
      rw [htk] at hown
      have HB := Lib.hid hb
      obtain ⟨A3, c3, hv, hAt, _⟩ := hown.at (F' := Nw w wr) (fun c hc => ⟨hc.1, hc.2.1⟩) (fun c hc => hown.1.lt c hc)
      subst hv
      have HAt := Lib.hid hAt
      obtain ⟨q, hq⟩ : ∃ q, (lookupL xs m nm fr).length = q := ⟨_, rfl⟩
      have HQ := Lib.hid hq
      rw [hq]
      clear hb hAt hown htk hq
      go_wp2_with fail
      go_ret
      first
        | exact ⟨A3, c3, by rw [HQ.out]; rfl, HAt.out, HB.out⟩
        | exact ⟨A3, ⟨c3, by rw [HQ.out]; rfl⟩, HAt.out, HB.out⟩

theorem NodeV.one {w : World} {F : Nat → Prop} {x : Node} {vs : List Value} (h : NodeV w F x vs) : ∀ u ∈ vs, u.oneCell' = true := by
  obtain ⟨A, c, rfl, _⟩ := h.vals
  intro u hu
  simp [Hd.vals] at hu
  rcases hu with rfl | rfl | rfl | rfl | rfl | rfl | rfl <;> rfl
def nodeD : Dat Node := ⟨NodeV, 7, by decide, fun h => h.len, fun hF hw h => NodeV.keep hF hw _ _ h, fun h => h.one⟩
theorem nodes_row {w : World} {F : Nat → Prop} : ∀ (xs : List Node) (b i : Nat), NodesV w F xs b i → ∃ vs, nodeD.Row w F xs vs ∧ ∀ j u, vs[j]? = some u → w.cell? ⟨b, i + j, none⟩ = some u
  | [], _, _, _ => ⟨[], rfl, fun j u h => by simp at h⟩
  | x :: r, b, i, h => by
    unfold NodesV at h
    obtain ⟨⟨us, h0, h1⟩, h4⟩ := h
    obtain ⟨vs, h5, h6⟩ := nodes_row r b (i + 7) h4
    have hl := h0.len
    refine ⟨us ++ vs, ⟨us, vs, rfl, h0, h5⟩, fun j u hu => ?_⟩
    by_cases hj : j < 7
    · rw [List.getElem?_append_left (by omega)] at hu; exact h1 j u hu
    · rw [List.getElem?_append_right (by omega), hl] at hu
      have := h6 (j - 7) u hu
      rwa [show i + 7 + (j - 7) = i + j by omega] at this
theorem NodeV.kids {w : World} {F : Nat → Prop} {n : Node} {vs : List Value} (h : NodeV w F n vs) : ∃ A c, vs = n.h.vals (.slice A n.ch.length c) ∧ nodeD.At w F A n.ch := by
  obtain ⟨A, c, rfl, h2⟩ := h.vals
  refine ⟨A, c, rfl, ?_⟩
  rcases h2 with h2 | ⟨b, off, rfl, hb, h3⟩
  · rw [h2]; exact Dat.At.nil
  · obtain ⟨vs, h4, h5⟩ := nodes_row _ _ _ h3
    exact ⟨vs, h4, fun _ => ⟨b, off, rfl, hb, h5⟩⟩

theorem step_append_src {P : Program} {w : World} {ops : Array Oper} {o : Oper} {a : Act} {K : Act → World → Prop} {Q : Exit → Act → World → Prop} {E : Prop} (hgd : o.guard = none) (s x : Operand) (t : TypeId)
    (ho : o.op = .call { callee := .builtin .append, args := #[s, x], argTypes := #[t, t] })
    (base : Nat) (e : TypeId) (z : Value) (size bytes : Nat) (ht : P.underlying t = some (.slice e)) (hinfo : (P.info? e).map (fun i => (i.zero, i.size, i.bytes)) = some (some z, size, bytes))
    (hzs : z.cells.size = size) (hsz : 0 < size) (v : Value) (n : Nat) (xs : List Value) (hs : a.eval s = v) (hown : w.ownsRow base e size v n xs)
    (F : Nat → Prop) (A : Option Addr) (m c : Nat) (news : List Value) (hx : a.eval x = .slice A m c) (hr : RowAt w F A news) (hl : news.length = m * size) (h1 : ∀ u ∈ news, u.oneCell' = true)
    (h63 : n + m ≤ maxLen) (hbytes : (n + m) * bytes ≤ 140737488355328) (hbase : base ≤ w.heap.size)
    (h : ∀ v' w', w'.ownsRow base e size v' (n + m) (xs ++ news) → w.grownBy w' v.ownBlock → (v'.ownBlock = v.ownBlock ∨ ∃ g, v'.ownBlock = some g ∧ w.heap.size ≤ g) → K (a.put o.dst v') w') :
    if Region.wanted o (yielded ops a.tmps) = true then Oper.wp P o a w K Q else E := by
  have hw : Region.wanted o (yielded ops a.tmps) = true := by simp [Region.wanted, hgd]
  rw [if_pos hw]
  obtain ⟨v', w', hr', h2, h3, h4⟩ := run_append_src (P := P) base t o.type e z size bytes ht hinfo hzs hsz v n xs hown F A m c news hr hl h1 h63 hbytes hbase
  unfold Oper.wp execOp
  simp only [ho, resolve, invoke, builtin, Sem.run_bind, Sem.run_pure, Result.andThen_ok, List.map_toArray, List.map_cons, List.map_nil, hs, hx, hr']
  exact h v' w' h2 h3 h4

section
variable {P : Program} {ops : Array Oper} {Q : Exit → Act → World → Prop} {md : Region.Mode} {S : World → Prop} {T : Nat}
def wpAnyS (P : Program) (md : Region.Mode) (ops : Array Oper) (Q : Exit → Act → World → Prop) (S : World → Prop) (T : Nat) : Nat → Array Bool → Act → World → Prop
  | 0, l, a, w => Region.ready md ops l = [] ∧ Q .normal a w
  | n + 1, l, a, w => (Region.ready md ops l = [] → Q .normal a w) ∧
    ∀ i ∈ Region.ready md ops l, wpOp P ops Q i (fun a' w' => ((l.setIfInBounds i true).getD T true = false → S w') ∧ wpAnyS P md ops Q S T n (l.setIfInBounds i true) a' w') a w
theorem wpAny_of_S : ∀ (n : Nat) (l : Array Bool) (a : Act) (w : World), wpAnyS P md ops Q S T n l a w → wpAny P md ops Q n l a w
  | 0, _, _, _, h => h
  | n + 1, _, _, _, h => ⟨h.1, fun i hi => wpOp_mono (fun a' w' h' => wpAny_of_S n _ a' w' h'.2) (h.2 i hi)⟩
def waitsB (md : Region.Mode) (ops : Array Oper) (T i : Nat) : Bool := match ops[T]? with
  | some o => o.after.toList.any fun e => Region.binds md e && e.on == i
  | none => false
theorem takeS {i : Nat} {oi : Oper} {v : Value} {n : Nat} {l : Array Bool} {a : Act} {w : World} (hi : ops[i]? = some oi)
    (hs : Region.noSelect ops = true) (hf : Region.free md ops l i = true) (hr : (Region.ready md ops l).contains i = true)
    (hT : (l.getD T true == false && (waitsB md ops T i && !(i == T))) = true)
    (hQ : ∀ c a w, Q (.panic c) (a.put oi.dst v) w → Q (.panic c) a w) (hy : YieldsIf P ops S oi v a) (hS : S w)
    (h : wpAnyS P md ops Q S T n (l.setIfInBounds i true) (a.put oi.dst v) w) : wpAnyS P md ops Q S T (n + 1) l a w := by
  have hsel := Region.noSelect_spec hs
  have hfree := Region.free_spec hi hf
  have hrd : i ∈ Region.ready md ops l := by simpa using hr
  simp only [Bool.and_eq_true, beq_iff_eq, Bool.not_eq_true', beq_eq_false_iff_ne] at hT
  obtain ⟨hT1, hT2, hT3⟩ := hT
  clear hs hf hr
  induction n generalizing l a w with
  | zero =>
    refine ⟨fun h0 => (by rw [h0] at hrd; cases hrd), fun j hj => ?_⟩
    by_cases hji : j = i
    · subst hji; exact hy.wpOp hi hS ⟨fun _ => hS, h⟩
    · have := ready_mono hj hji
      rw [h.1] at this
      cases this
  | succ n ih =>
    refine ⟨fun h0 => (by rw [h0] at hrd; cases hrd), fun j hj => ?_⟩
    by_cases hji : j = i
    · subst hji; exact hy.wpOp hi hS ⟨fun _ => hS, h⟩
    · have h1 := h.2 j (ready_mono hj hji)
      obtain ⟨hjun, oj, hoj, hall⟩ := mem_ready.1 hj
      have hnot : ∀ e ∈ oj.after, Region.binds md e = true → e.on ≠ i := fun e he hb heq => by
        have a1 := hall e he hb
        have a0 := (mem_ready.1 hrd).1
        rw [heq] at a1
        rcases Nat.lt_or_ge i l.size with h' | h'
        · simp [h'] at a0 a1; rw [a0] at a1; cases a1
        · simp [Array.getElem?_eq_none h'] at a1
      have hjT : j ≠ T := by
        rintro rfl
        unfold waitsB at hT2
        rw [hoj] at hT2
        obtain ⟨e, he, hb⟩ := List.any_eq_true.1 hT2
        simp only [Bool.and_eq_true, beq_iff_eq] at hb
        exact hnot e (by simpa using he) hb.1 hb.2
      have g1 : (l.setIfInBounds j true).getD T true = false := (getD_set_ne true hjT).trans hT1
      have g2 : ((l.setIfInBounds i true).setIfInBounds j true).getD T true = false := (getD_set_ne true hjT).trans ((getD_set_ne true hT3).trans hT1)
      have h2 := wpOp_putIf hoj (hfree j oj hoj hji hjun hnot) (fun cs b => hsel i oi cs b hi) (fun cs b => hsel j oj cs b hoj) hQ hy h1
      refine wpOp_mono (fun a' w' h3 => ⟨fun _ => h3.2.1 g2, ih h3.1 (h3.2.1 g2) ?_ ?_ (ready_mono hrd (Ne.symm hji)) g1⟩) h2
      · rw [Array.setIfInBounds_comm _ _ hji]
        exact h3.2.2
      · intro k ok hk hki hun hno
        refine hfree k ok hk hki ?_ hno
        by_cases hjk : j = k
        · subst hjk; exact hjun
        · rw [getD_set_ne true hjk] at hun; exact hun
theorem stepS {i : Nat} {o : Oper} {n : Nat} {l : Array Bool} {a : Act} {w : World} (hr : Region.ready md ops l = [i]) (ho : ops[i]? = some o)
    (h : ∀ K' : Act → World → Prop, Shut (∀ a w, S w → (S w → wpAnyS P md ops Q S T n (l.setIfInBounds i true) a w) → K' a w) → if Region.wanted o (yielded ops a.tmps) = true then Oper.wp P o a w K' Q else K' (a.put o.dst undef) w) :
    wpAnyS P md ops Q S T (n + 1) l a w :=
  ⟨fun h0 => absurd (hr ▸ h0) (by simp), fun j hj => by
    rw [hr] at hj
    obtain rfl : j = i := by simpa using hj
    exact wpOp_step ho (fun K' hK => h K' (fun a w hS hW => hK a w ⟨fun _ => hS, hW hS⟩))⟩
theorem tailZ {i : Nat} {o : Oper} {n : Nat} {l : Array Bool} {a : Act} {w : World} (hr : Region.ready md ops l = [i]) (ho : ops[i]? = some o) (hT : (l.setIfInBounds i true).getD T true = true)
    (h : ∀ K' : Act → World → Prop, Shut (∀ a w, wpAnyS P md ops Q S T n (l.setIfInBounds i true) a w → K' a w) → if Region.wanted o (yielded ops a.tmps) = true then Oper.wp P o a w K' Q else K' (a.put o.dst undef) w) :
    wpAnyS P md ops Q S T (n + 1) l a w :=
  ⟨fun h0 => absurd (hr ▸ h0) (by simp), fun j hj => by
    rw [hr] at hj
    obtain rfl : j = i := by simpa using hj
    exact wpOp_step ho (fun K' hK => h K' (fun a w hW => hK a w ⟨fun h0 => absurd (hT.symm.trans h0) (by decide), hW⟩))⟩
theorem doneS {l : Array Bool} {a : Act} {w : World} (hr : Region.ready md ops l = []) (h : Q .normal a w) : ∀ n, wpAnyS P md ops Q S T n l a w
  | 0 => ⟨hr, h⟩
  | _ + 1 => ⟨fun _ => h, by rw [hr]; simp⟩
theorem regionS (S : World → Prop) (T : Nat) {id : Nat} {a : Act} {w : World} (hm : P.follows .mixedOrders = true) (hS : S w.drew)
    (h : S w.drew → wpAnyS P .any ops Q S T ops.size (Array.replicate ops.size false) a w.drew) : (Code.region id ops true).wp P Q a w :=
  wp_region_any hm (wpAny_of_S _ _ _ _ (h hS))
theorem at_zero {o : Oper} {l : List Oper} : (o :: l).toArray[0]? = some o := by simp
theorem at_succ {o x : Oper} {l : List Oper} {i : Nat} (h : l.toArray[i]? = some o) : (x :: l).toArray[i + 1]? = some o := by simpa using h
end
end Go.Proofs.YtpibenilagloaaaGreatDoor
