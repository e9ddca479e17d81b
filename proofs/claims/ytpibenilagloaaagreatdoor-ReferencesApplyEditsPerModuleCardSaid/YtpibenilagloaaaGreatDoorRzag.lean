import Derived.Test.YtpibenilagloaaaGreatDoorRzac
import Derived.Test.YtpibenilagloaaaGreatDoorRzad
import Derived.Test.YtpibenilagloaaaGreatDoorSyc
import Derived.Test.YtpibenilagloaaaGreatDoorMzaa
namespace Go.Proofs.YtpibenilagloaaaGreatDoor
open Go.RowKit
set_option linter.unusedVariables false
theorem info_md : (Tryz.prog.info? 48).map (fun i => (i.zero, i.size, i.bytes)) = some (some (.agg #[.string .empty, .string .empty]), 2, 32) := by kernel_rfl
set_option maxRecDepth 100000 in
set_option maxHeartbeats 1600000 in
theorem clone_md (xs : List Mdl) (A : Option Addr) (c : Nat) (w : World) (F : Nat → Prop) (h : mdD.At w F A xs) (hF : ∀ b, F b → b < w.heap.size) (hm : xs.length * 32 ≤ 140737488355328) :
    Calls Tryz.prog 44 #[.slice A xs.length c] w fun e w' => ∃ v, e = .returned v ∧ w'.ownsRow w.heap.size 48 2 v xs.length (xs.flatMap mdC) ∧ Below w.heap.size w w' := by
  rcases A with _ | ad
  · have hx : xs = [] := by
      cases xs with
      | nil => rfl
      | cons x r => obtain ⟨b, off, h, _⟩ := flat_get h 0 x rfl; cases h
    subst hx
    have hc := AnyE.slices_Clone_nil Tryz.cloneMd ([] : List Mdl).length c w
    change Calls Tryz.prog 44 _ _ _ at hc
    refine hc.mono ?_
    rintro e w' ⟨rfl, rfl⟩
    exact ⟨_, rfl, World.ownsRow_nil _ _ _ _, Below.refl _ _⟩
  · have hr := flat_row h
    have hl : (xs.flatMap mdC).length = xs.length * 2 := flat_len (enc := mdC) (k := 2) (fun _ => rfl) xs
    have h1 : ∀ u ∈ xs.flatMap mdC, u.oneCell' = true := fun u hu => by
      obtain ⟨x, _, hx⟩ := List.mem_flatMap.1 hu
      simp [mdC] at hx; rcases hx with rfl | rfl <;> rfl
    have hal : RowAt (w.alloc (.cells #[] 48)) F (some ad) (xs.flatMap mdC) := hr.keep (fun _ h => h) (fun b hb => Below.heap_alloc w _ b (hF b hb))
    obtain ⟨n, hn⟩ : ∃ n, xs.length = n := ⟨_, rfl⟩
    have HN := Lib.hid hn
    rw [hn] at hl hm ⊢
    generalize xs.flatMap mdC = news at *
    have he : ∀ w : World, (binOp .eql 41 (.slice (some ad) n c) (.slice none 0 0)).run Tryz.prog w = .ok (.bool false) w := fun _ => rfl
    clear hn h hr
    go_enter Tryz.func44, Tryz.ntmps44
    go_wp2_with (at_builtin; refine wpList_append_src rfl (.tmp 5) (.tmp 6) _ rfl w.heap.size 48 _ 2 32 Tryz.underlying41 info_md rfl (by decide) _ _ _ rfl (World.ownsRow_made w #[] 0 (Nat.le_refl _) (Nat.zero_le _) (by simp)) F (some ad) n c news rfl hal hl h1 ?c4 ?c5 ?c6 ?_)
    case c4 => simp only [maxLen]; omega
    case c5 => omega
    case c6 => simp
    intro v' w1 hown hgrow hat
    have hown2 : w1.ownsRow w.heap.size 48 2 v' n news := by simpa using hown
    have hb : Below w.heap.size w w1 := ((Below.refl _ w).alloc (Nat.le_refl _) _).grown hgrow (by simp) (by intro k hk; simp [Value.ownBlock] at hk; omega)
    have HO := Lib.hid hown2
    have HB := Lib.hid hb
    obtain ⟨A9, c9, rfl⟩ := own_slice hown2
    clear hown hgrow hat hown2 hb
    go_wp2_with fail
    go_ret
    exact ⟨_, rfl, HO.out, HB.out⟩
def OutAt (w : World) (B g : Nat) (ys : List Mdl) : Prop :=
  B ≤ g ∧ ∃ cs : Array Value, w.heap[g]? = some (.cells cs 48 (0, 0)) ∧ ∀ i x, ys[i]? = some x → cs[i * 2]? = some (.string x.nm) ∧ cs[i * 2 + 1]? = some (.string x.src)
theorem OutAt.at {w : World} {B g : Nat} {ys : List Mdl} (h : OutAt w B g ys) {F : Nat → Prop} (hF : ∀ b, B ≤ b → b < w.heap.size → F b) : mdD.At w F (some ⟨g, 0, none⟩) ys := by
  obtain ⟨h1, cs, h2, h3⟩ := h
  refine flat_at5 ys g 0 (hF g h1 (lt_of_heap h2)) fun i x hi j u hu => ?_
  obtain ⟨c0, c1⟩ := h3 i x hi
  rw [Nat.zero_add]
  match j, hu with
  | 0, hu => simp [mdC] at hu; subst hu; exact cell_of h2 _ _ c0
  | 1, hu => simp [mdC] at hu; subst hu; exact cell_of h2 _ _ c1
  | j + 2, hu => simp [mdC] at hu
theorem OutAt.below {w w' : World} {B g : Nat} {ys : List Mdl} (h : OutAt w B g ys) (hb : Below w.heap.size w w') : OutAt w' B g ys := by
  obtain ⟨h1, cs, h2, h3⟩ := h
  exact ⟨h1, cs, (hb.block _ (lt_of_heap h2)).trans h2, h3⟩
theorem OutAt.set {w : World} {B g : Nat} {ys : List Mdl} (h : OutAt w B g ys) (j : Nat) (x : Mdl) (hj : ys[j]? = some x) (s : ByteArray) : OutAt (w.setCell ⟨g, j * 2 + 1, none⟩ (.string s)) B g (ys.set j ⟨x.nm, s⟩) := by
  obtain ⟨h1, cs, h2, h3⟩ := h
  refine ⟨h1, _, heap_set h2 _ _, fun i y hi => ?_⟩
  have hjl := (List.getElem?_eq_some_iff.1 hj).1
  by_cases hij : i = j
  · subst hij
    rw [List.getElem?_set_self hjl] at hi
    injection hi with hi
    subst hi
    obtain ⟨c0, c1⟩ := h3 i x hj
    have hl := (Array.getElem?_eq_some_iff.1 c1).1
    refine ⟨by rw [Array.getElem?_setIfInBounds, if_neg (by omega)]; exact c0, by rw [Array.getElem?_setIfInBounds, if_pos rfl, if_pos hl]⟩
  · rw [List.getElem?_set_ne (fun e => hij e.symm)] at hi
    obtain ⟨c0, c1⟩ := h3 i y hi
    exact ⟨by rw [Array.getElem?_setIfInBounds, if_neg (by omega)]; exact c0, by rw [Array.getElem?_setIfInBounds, if_neg (by omega)]; exact c1⟩
theorem OutAt.of_own {w : World} {B : Nat} {v : Value} {ys : List Mdl} (h : w.ownsRow B 48 2 v ys.length (ys.flatMap mdC)) (hp : 0 < ys.length) : ∃ g c, v = .slice (some ⟨g, 0, none⟩) ys.length c ∧ ys.length ≤ c ∧ OutAt w B g ys := by
  have hD : mdD.Own w B 48 (Lt w) v ys (ys.flatMap mdC) := ⟨h, flatD_of ys⟩
  obtain ⟨A, c, hv, hat, hc⟩ := hD.at (F' := Lt w) (fun _ h => h) (fun g hg => (h.lt g hg).2)
  rcases h.2 with ⟨rfl, hn⟩ | ⟨g, cap, cur, rfl, hb, hh, _⟩
  · omega
  · injection hv with hv1 hv2 hv3
    subst hv1
    refine ⟨g, cap, rfl, by omega, hb, cur, hh, fun i x hi => ?_⟩
    obtain ⟨b2, o2, e, _, hcc⟩ := flat_get hat i x hi
    injection e with e
    injection e with e1 e2 _
    subst e1 e2
    have c0 := hcc 0 _ rfl
    have c1 := hcc 1 _ rfl
    rw [Lib.cell_of_heap hh] at c0 c1
    simp only [Nat.zero_add, Nat.add_zero] at c0 c1
    exact ⟨c0, c1⟩
def newM (es : List FEd) (i : Nat) (x : Mdl) : Mdl := ⟨x.nm, ⟨(tx.applyL x.src.data.toList (edsOf es i) 0).toArray⟩⟩
def outM (es : List FEd) (xs : List Mdl) : List Mdl := xs.mapIdx (newM es)
def okAt (es : List FEd) (xs : List Mdl) (i : Nat) : Bool := match xs[i]? with
  | some x => decide (tx.valT x.src.size (edsOf es i) = 0)
  | none => true
def okM (es : List FEd) (xs : List Mdl) : Bool := decide (valM xs = 0) && (sortedM xs.length 0 es && ((List.range xs.length).all (okAt es xs) && decide (valM (outM es xs) = 0)))
def midM (es : List FEd) (xs : List Mdl) (j : Nat) : List Mdl := (outM es xs).take j ++ xs.drop j
theorem midM_succ (es : List FEd) (xs : List Mdl) (j : Nat) (x : Mdl) (h : xs[j]? = some x) : midM es xs (j + 1) = (midM es xs j).set j (newM es j x) := by
  have hjl := (List.getElem?_eq_some_iff.1 h).1
  have hol : (outM es xs).length = xs.length := by simp [outM]
  apply List.ext_getElem?
  intro i
  unfold midM
  rw [List.getElem?_set]
  by_cases hij : j = i
  · subst hij
    rw [if_pos rfl, List.getElem?_append_left (by simp [hol]; omega), List.getElem?_take, if_pos (by omega), if_pos (by simp [hol]; omega)]
    unfold outM
    rw [List.getElem?_mapIdx, h]
    rfl
  · rw [if_neg hij]
    by_cases hlt : i < j
    · rw [List.getElem?_append_left (by simp [hol]; omega), List.getElem?_append_left (by simp [hol]; omega), List.getElem?_take, List.getElem?_take, if_pos (by omega), if_pos hlt]
    · rw [List.getElem?_append_right (by simp [hol]; omega), List.getElem?_append_right (by simp [hol]; omega), List.getElem?_drop, List.getElem?_drop]
      simp only [List.length_take, hol]
      congr 1
      omega
theorem midM_get (es : List FEd) (xs : List Mdl) (j : Nat) (x : Mdl) (h : xs[j]? = some x) : (midM es xs j)[j]? = some x := by
  have hjl := (List.getElem?_eq_some_iff.1 h).1
  have hol : (outM es xs).length = xs.length := by simp [outM]
  unfold midM
  rw [List.getElem?_append_right (by simp [hol]; omega), List.getElem?_drop]
  simp only [List.length_take, hol]
  rw [show j + (j - min j xs.length) = j by omega]
  exact h
theorem valM_ok {xs : List Mdl} (h : valM xs = 0) : xs.length ≤ 8 ∧ ∀ x ∈ xs, x.src.size ≤ 2000 := by
  unfold valM at h
  split at h
  · cases h
  · split at h
    · cases h
    · rename_i h1 h2
      refine ⟨by omega, fun x hx => ?_⟩
      have := List.any_eq_false.1 (Bool.not_eq_true _ ▸ h2) x hx
      simp [bigM] at this
      exact this

def AeePost (es : List FEd) (xs : List Mdl) (w : World) (e : Ending) (w' : World) : Prop :=
  ((okM es xs = false ∧ ∃ err : Int, err ≠ 0 ∧ e = .returned (.tuple #[.slice none 0 0, .int .i64 err])) ∨
    (okM es xs = true ∧ ∃ A c, e = .returned (.tuple #[.slice A xs.length c, .int .i64 0]) ∧ mdD.At w' (Nw w w') A (outM es xs) ∧ xs.length ≤ c)) ∧ Below w.heap.size w w'
theorem okM_f1 {es : List FEd} {xs : List Mdl} (h : valM xs ≠ 0) : okM es xs = false := by unfold okM; rw [decide_eq_false h]; rfl
theorem okM_f2 {es : List FEd} {xs : List Mdl} (h : sortedM xs.length 0 es = false) : okM es xs = false := by unfold okM; rw [h]; simp
theorem okM_f3 {es : List FEd} {xs : List Mdl} {i : Nat} (hi : i < xs.length) (h : okAt es xs i = false) : okM es xs = false := by
  have : (List.range xs.length).all (okAt es xs) = false := by
    rw [List.all_eq_false]
    exact ⟨i, List.mem_range.2 hi, by rw [h]; decide⟩
  unfold okM; rw [this]; simp
theorem okM_f4 {es : List FEd} {xs : List Mdl} (h : valM (outM es xs) ≠ 0) : okM es xs = false := by unfold okM; rw [decide_eq_false h]; simp
theorem okM_t {es : List FEd} {xs : List Mdl} (h1 : valM xs = 0) (h2 : sortedM xs.length 0 es = true) (h3 : ∀ i, i < xs.length → okAt es xs i = true) (h4 : valM (outM es xs) = 0) : okM es xs = true := by
  unfold okM
  rw [decide_eq_true h1, h2, decide_eq_true h4]
  have : (List.range xs.length).all (okAt es xs) = true := List.all_eq_true.2 fun i hi => h3 i (List.mem_range.1 hi)
  rw [this]; rfl
set_option maxRecDepth 100000 in
set_option maxHeartbeats 12800000 in
theorem applyEdits_any (es : List FEd) (xs : List Mdl) (M A : Option Addr) (mc c : Nat) (w : World) (hA : AscAt w) (h : mdD.At w (Lt w) M xs) (hcap : xs.length ≤ mc) (hm : xs.length * 32 ≤ 140737488355328) (he : feD.At w (Lt w) A es) (hl : es.length * 40 ≤ 140737488351232) (hsh : FShort es) :
    Calls Tryz.prog 16 #[.slice M xs.length mc, .slice A es.length c] w (AeePost es xs w) := by
  have HW := Lib.hid (show ∀ e w', AeePost es xs w e w' = (((okM es xs = false ∧ ∃ err : Int, err ≠ 0 ∧ e = .returned (.tuple #[.slice none 0 0, .int .i64 err])) ∨
    (okM es xs = true ∧ ∃ A c, e = .returned (.tuple #[.slice A xs.length c, .int .i64 0]) ∧ mdD.At w' (Nw w w') A (outM es xs) ∧ xs.length ≤ c)) ∧ Below w.heap.size w w') from fun _ _ => rfl)
  have hv1 := val_any xs M mc w hA h hcap (by unfold maxLen; omega)
  obtain ⟨e1, hee1⟩ : ∃ e1, valM xs = e1 := ⟨_, rfl⟩
  rw [hee1] at hv1
  have HV1 := Lib.hid hv1
  have HE1 := Lib.hid hee1
  by_cases g1 : e1 = 0
  · subst g1
    obtain ⟨hx8, hx2⟩ := valM_ok hee1
    have HX2 := Lib.hid hx2
    have HBY := Lib.hid (fun w' (hb : Below w.heap.size w w') => byModule_any es A M c xs.length mc w' (he.keep (fun b hb' => Nat.lt_of_lt_of_le hb' hb.size) (fun b hb' => hb.block b hb')) hl (by omega))
    have HCL := Lib.hid (fun w' (hb : Below w.heap.size w w') => clone_md xs M mc w' (Lt w') (h.keep (fun b hb' => Nat.lt_of_lt_of_le hb' hb.size) (fun b hb' => hb.block b hb')) (fun _ h => h) hm)
    have HA := Lib.hid hA
    have HH := Lib.hid h
    have HS := Lib.hid hsh
    have HEL := Lib.hid (show ∀ m : Int, (edsOf es m).length ≤ 140737488351232 from fun m => by have := edsOf_len es m; omega)
    have hol : (outM es xs).length = xs.length := by simp [outM]
    have HOL := Lib.hid hol
    have HBP := Lib.hid (show ∀ (w1 : World) e w', BymPost es xs.length w1 e w' → ((sortedM xs.length 0 es = false ∧ e = .returned (.tuple #[.slice none 0 0, .bool false])) ∨ (sortedM xs.length 0 es = true ∧ ∃ cs, e = .returned (.tuple #[.slice (some ⟨w1.heap.size, 0, none⟩) xs.length xs.length, .bool true]) ∧ GrpC w' w1.heap.size w1.heap.size xs.length cs (fun m => edsOf es m))) ∧ Below w1.heap.size w1 w' from fun _ _ _ h => h)
    obtain ⟨n, hn⟩ : ∃ n, xs.length = n := ⟨_, rfl⟩
    have HN := Lib.hid hn
    rw [hn] at HBY HCL HBP HV1 HW hcap hx8
    rw [hn]
    clear hee1 hv1 hx2 h hA he hsh hol hn hm
    go_enter Tryz.func16, Tryz.ntmps16
    go_wp2_with fail
    refine HV1.out.mono ?_
    rintro e w1 ⟨rfl, hb1⟩
    have HB1 := Lib.hid hb1
    have H2 := Lib.hid (HBY.out w1 hb1)
    clear hb1 HV1
    go_wp2_with fail
    refine H2.out.mono ?_
    intro e w2 hbp
    obtain ⟨hbp, hb2⟩ := HBP.out _ _ _ hbp
    have HB2 := Lib.hid (HB1.out.trans (hb2.mono HB1.out.size))
    rcases hbp with ⟨hs1, rfl⟩ | ⟨hs1, cs, rfl, hgr⟩
    · have HS1 := Lib.hid hs1
      clear hs1 hb2 H2
      go_wp2_with fail
      go_ret2
      exact (HW.out _ _).mpr ⟨.inl ⟨okM_f2 (by rw [HN.out]; exact HS1.out), 3, by decide, rfl⟩, HB2.out⟩
    · have HS1 := Lib.hid hs1
      have HGR := Lib.hid hgr
      have h12 := hb2.size
      have H3 := Lib.hid (HCL.out w2 HB2.out)
      have hGl := lt_of_heap hgr.1
      clear hs1 hb2 H2 hgr
      go_wp2_with fail
      refine H3.out.mono ?_
      rintro e w3 ⟨v, rfl, hown, hb3⟩
      have HB3 := Lib.hid hb3
      have HB23 := Lib.hid (HB2.out.trans (hb3.mono HB2.out.size))
      rcases Nat.eq_zero_or_pos n with hn0 | hn0
      · subst hn0
        have hx : xs = [] := List.length_eq_zero_iff.1 HN.out
        obtain ⟨A9, c9, rfl⟩ := own_slice hown
        have hout : outM es xs = [] := by rw [hx]; rfl
        have HO := Lib.hid hout
        have HXE := Lib.hid hx
        have H5 := Lib.hid (fun w' (hb : Below w.heap.size w w') => val_any [] A9 c9 w' (AscAt.below HA.out hb) Dat.At.nil (Nat.zero_le _) (Nat.zero_le _))
        have hz : valM [] = 0 := by rfl
        simp only [hz, List.length_nil] at H5
        clear hown hb3 H3 hx hout hz
        go_wp2_with fail
        go_loopw [32] (fun i wr => i = .int .i64 0 ∧ wr = w3) (fun _ _ => 0)
        case atStart => exact ⟨rfl, rfl⟩
        case round =>
          obtain ⟨rfl, rfl⟩ := hrel
          have H6 := Lib.hid (H5.out wr HB23.out)
          clear H5
          go_wp2_with fail
          refine H6.out.mono ?_
          rintro e w5 ⟨rfl, hb5⟩
          have HB5 := Lib.hid (HB23.out.trans (hb5.mono HB23.out.size))
          clear hb5 H6
          go_wp2_with fail
          go_ret2
          exact (HW.out _ _).mpr ⟨.inr ⟨okM_t HE1.out (by rw [HN.out]; exact HS1.out) (fun i hi => by rw [HN.out] at hi; omega) (by rw [HO.out]; rfl), A9, c9, rfl, by rw [HO.out]; exact Dat.At.nil, Nat.zero_le _⟩, HB5.out⟩
      · obtain ⟨g, c9, hv, hc9, hout⟩ := OutAt.of_own (ys := xs) (by rw [HN.out]; exact hown) (by rw [HN.out]; exact hn0)
        rw [HN.out] at hv hc9
        subst hv
        have HOUT := Lib.hid (show OutAt w3 w2.heap.size g (midM es xs 0) from by unfold midM; simpa using hout)
        have hgg := hout.1
        have HMS := Lib.hid (show ∀ j x, xs[j]? = some x → midM es xs (j + 1) = (midM es xs j).set j (newM es j x) from fun j x hx => midM_succ es xs j x hx)
        have HMG := Lib.hid (show ∀ j x, xs[j]? = some x → (midM es xs j)[j]? = some x from fun j x hx => midM_get es xs j x hx)
        have HME := Lib.hid (show midM es xs n = outM es xs from by
          unfold midM
          rw [List.drop_of_length_le (by rw [HN.out]; exact Nat.le_refl _), List.append_nil]
          exact List.take_of_length_le (by rw [HOL.out, HN.out]; exact Nat.le_refl _))
        clear hown hb3 H3 hout
        go_wp2_with fail
        go_loopw [32] (fun i wr => ∃ j : Nat, i = .int .i64 (j : Int) ∧ j ≤ n ∧ (∀ t, t < j → okAt es xs t = true) ∧ OutAt wr w2.heap.size g (midM es xs j) ∧ Below w2.heap.size w2 wr) (fun i _ => n - (intOf i).toNat)
        case atStart => exact ⟨0, rfl, Nat.zero_le _, fun t ht => absurd ht (Nat.not_lt_zero _), HOUT.out, HB3.out⟩
        case round =>
          obtain ⟨j, rfl, hj, hall, hoj, hb⟩ := hrel
          have HALL := Lib.hid hall
          have HOJ := Lib.hid hoj
          have HB := Lib.hid hb
          have hbs := hb.size
          clear hall
          by_cases hlt : j < n
          · have hjI : (j : Int) < n := by omega
            have hjl : j < xs.length := by rw [HN.out]; exact hlt
            have hxj : xs[j]? = some xs[j] := List.getElem?_eq_getElem hjl
            obtain ⟨tb, off, rfl, htb, hxc⟩ := flat_get HH.out j xs[j] hxj
            have hsz2 := HX2.out xs[j] (List.getElem_mem hjl)
            have hoa : okAt es xs j = decide (tx.valT xs[j].src.size (edsOf es j) = 0) := by unfold okAt; rw [hxj]
            have hms := HMS.out j _ hxj
            have hmg := HMG.out j _ hxj
            have hnm : newM es j xs[j] = ⟨xs[j].nm, ⟨(tx.applyL xs[j].src.data.toList (edsOf es j) 0).toArray⟩⟩ := rfl
            rw [hnm] at hms
            clear hnm
            generalize xs[j] = x at *
            obtain ⟨nm, src⟩ := x
            simp only at hsz2 hoa hms
            have htb' : tb < w.heap.size := htb
            have htw : tb < wr.heap.size := by have := HB2.out.size; omega
            have hbw : Below w.heap.size w wr := HB2.out.trans (hb.mono HB2.out.size)
            have d0 : wr.cell? ⟨tb, off + j * 2, none⟩ = some (.string nm) := (hbw.cell (p := ⟨tb, _, none⟩) htb').trans (hxc 0 _ rfl)
            have d1 : wr.cell? ⟨tb, off + j * 2 + 1, none⟩ = some (.string src) := (hbw.cell (p := ⟨tb, _, none⟩) htb').trans (hxc 1 _ rfl)
            obtain ⟨W4, hW4⟩ : ∃ W4, wr.alloc (.cells #[.string nm, .string src] 48) = W4 := ⟨_, rfl⟩
            have hb4 : Below wr.heap.size wr W4 := by rw [← hW4]; exact (Below.refl _ _).alloc (Nat.le_refl _) _
            have hx4 : W4.heap[wr.heap.size]? = some (.cells #[.string nm, .string src] 48 (0, 0)) := by rw [← hW4]; exact heap_alloc_new wr _
            have hl4 := lt_of_heap hx4
            have f1 := cell_of hx4 1 _ rfl
            have hb24 := hb.trans (hb4.mono hbs)
            have hgr4 := HGR.out.below hb24
            obtain ⟨vi, hvi, hvo, _⟩ := hgr4.2.2.2 j hlt
            have hq := cell_of hgr4.1 j _ hvi
            have hGl4 := lt_of_heap hgr4.1
            have hD : edD.Own W4 w1.heap.size 93 (Lt W4) vi (edsOf es j) ((edsOf es j).flatMap edC) := ⟨hvo, flatD_of _⟩
            obtain ⟨Ai, ci, hvi2, hati, _⟩ := hD.at (F' := Lt W4) (fun _ h => h) (fun g hg => (hvo.lt g hg).2)
            subst hvi2
            have hoj4 := hoj.below hb4
            have HAP := Lib.hid (fun w' (hb' : Below W4.heap.size W4 w') (hv : tx.valT src.size (edsOf es j) = 0) => tx.apply_ok src Ai ci (edsOf es j) w' (eds_of (hati.keep (F' := Lt w') (fun b hb'' => Nat.lt_of_lt_of_le hb'' hb'.size) (fun b hb'' => hb'.block b hb'')) (fun _ h => h)) (by have := HEL.out j; unfold maxLen; omega) (edsOf_short HS.out j) (by unfold maxLen; omega) hv)
            have HAE := Lib.hid (fun w' (hb' : Below W4.heap.size W4 w') (hv : tx.valT src.size (edsOf es j) ≠ 0) => tx.apply_err src Ai ci (edsOf es j) w' (eds_of (hati.keep (F' := Lt w') (fun b hb'' => Nat.lt_of_lt_of_le hb'' hb'.size) (fun b hb'' => hb'.block b hb'')) (fun _ h => h)) (by have := HEL.out j; unfold maxLen; omega) (edsOf_short HS.out j) (by unfold maxLen; omega) hv)
            obtain ⟨er, her⟩ : ∃ er, tx.valT src.size (edsOf es j) = er := ⟨_, rfl⟩
            obtain ⟨ns, hns⟩ : ∃ ns : ByteArray, (⟨(tx.applyL src.data.toList (edsOf es j) 0).toArray⟩ : ByteArray) = ns := ⟨_, rfl⟩
            rw [hns] at hms HAP
            rw [her] at hoa HAP HAE
            obtain ⟨ln, hln⟩ : ∃ ln, (edsOf es j).length = ln := ⟨_, rfl⟩
            rw [hln] at hq HAP HAE
            have HOA := Lib.hid hoa
            have HMS2 := Lib.hid hms
            have HMG2 := Lib.hid hmg
            have HO4 := Lib.hid hoj4
            have HB24 := Lib.hid hb24
            have h24s := hb4.size
            clear hxc hoj hb hoa hms hmg hbw hb4 hx4 hb24 hgr4 hvi hvo hD hati hoj4 hns her hln hxj
            by_cases her0 : er = 0
            · subst her0
              have HF := Lib.hid (show okAt es xs j = true from by rw [HOA.out]; rfl)
              have HAP0 := Lib.hid (HAP.out W4.drew (Below.refl _ _).drew rfl)
              clear HAP HAE
              go_wp2_with fail
              go_region_with (go_at_call 17; refine HAP0.out.mono ?_; rintro e w5 ⟨rfl, hb5⟩)
              all_goals
                have hb45 : Below W4.heap.size W4 w5 := (Below.refl _ _).drew.trans hb5
                have HB25 := Lib.hid (HB24.out.trans (hb45.mono (by omega)))
                have ho5 := HO4.out.below hb45
                obtain ⟨hog, cso, hoh, hocs⟩ := ho5
                have hc1 := (hocs j _ HMG2.out).2
                have hcc := cell_of hoh _ _ hc1
                have hff := Lib.frozen_of_heap hoh (j * 2 + 1)
                have hgl := lt_of_heap hoh
                have hset := OutAt.set (w := w5) (B := w2.heap.size) (g := g) (ys := midM es xs j) ⟨hog, cso, hoh, hocs⟩ j _ HMG2.out ns
                simp only at hset
                rw [← HMS2.out] at hset
                have HSET := Lib.hid hset
                have hjc : (j : Int) < n := hjI
                clear hb5 hb45 hocs hoh hset HAP0 hc1
                go_wp2_with fail
                go_roundw
                case rel => exact ⟨j + 1, by go_num, by omega, fun t ht => by
                  by_cases e : t < j
                  · exact HALL.out t e
                  · obtain rfl : t = j := by omega
                    exact HF.out, HSET.out, HB25.out.setCell (p := ⟨g, j * 2 + 1, none⟩) hog _⟩
                case measure => simp [intOf]; omega
            · have HF := Lib.hid (show okM es xs = false from okM_f3 (i := j) hjl (by rw [HOA.out]; exact decide_eq_false her0))
              have HAE0 := Lib.hid (HAE.out W4.drew (Below.refl _ _).drew her0)
              have k1 : (er != 0) = true := by simpa using her0
              have HER := Lib.hid her0
              clear HAP HAE her0
              go_wp2_with fail
              go_region_with (go_at_call 17; refine HAE0.out.mono ?_; rintro e w5 ⟨rfl, hb5⟩)
              all_goals
                have HB25 := Lib.hid (HB2.out.trans ((HB24.out.trans (((Below.refl _ _).drew.trans hb5).mono HB24.out.size)).mono HB2.out.size))
                clear hb5 HAE0
                go_wp2_with fail
                go_ret2
                exact (HW.out _ _).mpr ⟨.inl ⟨HF.out, er, HER.out, rfl⟩, HB25.out⟩
          · have hjI : ¬ (j : Int) < n := by omega
            obtain rfl : j = n := by omega
            rw [HME.out] at hoj
            have hat := hoj.at (F := Lt wr) (fun b _ h => h)
            have hlo : (outM es xs).length = j := by rw [HOL.out]; exact HN.out
            have HAT := Lib.hid (hoj.at (F := fun b => w2.heap.size ≤ b ∧ b < wr.heap.size) (fun b h1 h2 => ⟨h1, h2⟩))
            have HV := Lib.hid (val_any (outM es xs) (some ⟨g, 0, none⟩) c9 wr (AscAt.below HA.out (HB2.out.trans (hb.mono HB2.out.size))) hat (by rw [hlo]; exact hc9) (by rw [hlo]; unfold maxLen; omega))
            rw [hlo] at HV
            have HBR := Lib.hid (HB2.out.trans (hb.mono HB2.out.size))
            have HALL2 := Lib.hid (show ∀ i, i < xs.length → okAt es xs i = true from fun i hi => HALL.out i (by rw [HN.out] at hi; exact hi))
            obtain ⟨ev, hev⟩ : ∃ ev, valM (outM es xs) = ev := ⟨_, rfl⟩
            rw [hev] at HV
            have HEV := Lib.hid hev
            clear hoj hb hat hlo hev HOJ
            go_wp2_with fail
            refine HV.out.mono ?_
            rintro e w6 ⟨rfl, hb6⟩
            have HB6 := Lib.hid (HBR.out.trans (hb6.mono HBR.out.size))
            have HAT6 := Lib.hid (HAT.out.keep (F' := Nw w w6) (fun b hb' => ⟨by have := HB2.out.size; omega, Nat.lt_of_lt_of_le hb'.2 hb6.size⟩) (fun b hb' => hb6.block b hb'.2))
            clear hb6 HV
            by_cases hev0 : ev = 0
            · subst hev0
              go_wp2_with fail
              go_ret2
              exact (HW.out _ _).mpr ⟨.inr ⟨okM_t HE1.out (by rw [HN.out]; exact HS1.out) HALL2.out HEV.out, some ⟨g, 0, none⟩, c9, rfl, HAT6.out, hc9⟩, HB6.out⟩
            · have k1 : (ev != 0) = true := by simpa using hev0
              have HEV0 := Lib.hid hev0
              have HF := Lib.hid (show okM es xs = false from okM_f4 (by rw [HEV.out]; exact hev0))
              clear hev0
              go_wp2_with fail
              go_ret2
              exact (HW.out _ _).mpr ⟨.inl ⟨HF.out, ev, HEV0.out, rfl⟩, HB6.out⟩
  · have g1' : (e1 == 0) = false := by simpa using g1
    have g2' : (e1 != 0) = true := by simpa using g1
    have HF := Lib.hid (show okM es xs = false from okM_f1 (by rw [hee1]; exact g1))
    have HG1 := Lib.hid g1
    obtain ⟨n, hn⟩ : ∃ n, xs.length = n := ⟨_, rfl⟩
    rw [hn] at HV1
    rw [hn]
    clear hee1 hv1 h hA he hsh hn g1 hcap hm
    go_enter Tryz.func16, Tryz.ntmps16
    go_wp2_with fail
    refine HV1.out.mono ?_
    rintro e w1 ⟨rfl, hb1⟩
    have HB1 := Lib.hid hb1
    clear hb1 HV1
    go_wp2_with fail
    go_ret2
    exact (HW.out _ _).mpr ⟨.inl ⟨HF.out, e1, HG1.out, rfl⟩, HB1.out⟩
end Go.Proofs.YtpibenilagloaaaGreatDoor
