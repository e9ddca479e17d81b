import Derived.Test.YtpibenilagloaaaGreatDoorMxar
import Derived.Test.YtpibenilagloaaaGreatDoorMxad
/-
  The lexer's tests of a byte, and scan: the walk.
-/
namespace Go.Proofs.YtpibenilagloaaaGreatDoor
open Go.RowKit
set_option linter.unusedVariables false

theorem index_ge (l : List UInt8) (c : UInt8) : decide (0 ≤ Lib.indexByte l c) = decide (c ∈ l) := by
  induction l with
  | nil => rfl
  | cons x r ih =>
    have hge := Lib.indexByte_ge r c
    unfold Lib.indexByte
    by_cases h : x = c
    · subst h; simp
    · have h' : ¬ c = x := fun e => h e.symm
      have e1 : decide (c ∈ x :: r) = decide (c ∈ r) := by simp [h']
      rw [e1, ← ih]
      have hx : (x == c) = false := by simpa using h
      simp only [hx, Bool.false_eq_true, if_false]
      split
      · next hm =>
        have : Lib.indexByte r c = -1 := by simpa using hm
        rw [this]
      · next hm =>
        have : Lib.indexByte r c ≠ -1 := by simpa using hm
        rw [decide_eq_true (by omega), decide_eq_true (by omega)]
def PredOk (fid : FuncId) (pred : UInt8 → Bool) : Prop := Ent fid ∧ ∀ (c : UInt8) (w : World), Calls Tryz.prog fid #[.int .u8 (c.toNat : Int)] w fun e w' => e = .returned (.bool (pred c)) ∧ w' = w
theorem byte_lt (c : UInt8) : c.toNat < 256 := c.toNat_lt
set_option maxRecDepth 100000 in
theorem isSpace_any (c : UInt8) (w : World) : Calls Tryz.prog 160 #[.int .u8 (c.toNat : Int)] w fun e w' => e = .returned (.bool (isSpaceB c)) ∧ w' = w := by
  have hcall := Tryz.strings_IndexByte ⟨#[32, 9, 10, 13]⟩ (c.toNat : Int) w
  have he : isSpaceB c = decide (0 ≤ Lib.indexByte [32, 9, 10, 13] c) := by rw [index_ge]; rfl
  have hc : ((c.toNat : Int)).toNat.toUInt8 = c := by simp
  rw [hc] at hcall
  rw [he]
  have HC := Lib.hid hcall
  clear hcall he hc
  go_enter Tryz.func160, Tryz.ntmps160
  go_wp2_with fail
  refine HC.out.mono ?_
  rintro e w1 ⟨rfl, rfl⟩
  go_wp2_with fail
  go_ret
  exact ⟨rfl, rfl⟩
theorem ret_bool {a b : Bool} (h : a = b) : Ending.returned (.bool a) = .returned (.bool b) := by rw [h]
set_option maxRecDepth 100000 in
set_option maxHeartbeats 1600000 in
theorem isDigit_any (c : UInt8) (w : World) : Calls Tryz.prog 165 #[.int .u8 (c.toNat : Int)] w fun e w' => e = .returned (.bool (isDigitB c)) ∧ w' = w := by
  have h1 := byte_lt c
  unfold isDigitB
  generalize c.toNat = n at *
  go_enter Tryz.func165, Tryz.ntmps165
  go_wp2_with fail
  all_goals
    go_ret
    refine ⟨ret_bool ?_, rfl⟩
    rw [Bool.eq_iff_iff]
    simp
    try omega
set_option maxRecDepth 100000 in
set_option maxHeartbeats 1600000 in
theorem isLetter_any (c : UInt8) (w : World) : Calls Tryz.prog 163 #[.int .u8 (c.toNat : Int)] w fun e w' => e = .returned (.bool (isLetterB c)) ∧ w' = w := by
  have h1 := byte_lt c
  unfold isLetterB
  generalize c.toNat = n at *
  go_enter Tryz.func163, Tryz.ntmps163
  go_wp2_with fail
  all_goals
    go_ret
    refine ⟨ret_bool ?_, rfl⟩
    rw [Bool.eq_iff_iff]
    simp
    try omega
set_option maxRecDepth 100000 in
set_option maxHeartbeats 1600000 in
theorem first1_any (c : UInt8) (w : World) : Calls Tryz.prog 162 #[.int .u8 (c.toNat : Int)] w fun e w' => e = .returned (.bool (notNlB c)) ∧ w' = w := by
  have h1 := byte_lt c
  unfold notNlB
  generalize c.toNat = n at *
  go_enter Tryz.func162, Tryz.ntmps162
  go_wp2_with fail
  all_goals
    go_ret
    refine ⟨ret_bool ?_, rfl⟩
    rw [Bool.eq_iff_iff]
    simp
    try omega
set_option maxRecDepth 100000 in
set_option maxHeartbeats 1600000 in
theorem scanStr1_any (c : UInt8) (w : World) : Calls Tryz.prog 228 #[.int .u8 (c.toNat : Int)] w fun e w' => e = .returned (.bool (notNlB c)) ∧ w' = w := by
  have h1 := byte_lt c
  unfold notNlB
  generalize c.toNat = n at *
  go_enter Tryz.func228, Tryz.ntmps228
  go_wp2_with fail
  all_goals
    go_ret
    refine ⟨ret_bool ?_, rfl⟩
    rw [Bool.eq_iff_iff]
    simp
    try omega
set_option maxRecDepth 100000 in
theorem first2_any (c : UInt8) (w : World) : Calls Tryz.prog 164 #[.int .u8 (c.toNat : Int)] w fun e w' => e = .returned (.bool (isWordB c)) ∧ w' = w := by
  have H1 := Lib.hid (isLetter_any c w)
  have H2 := Lib.hid (isDigit_any c w)
  unfold isWordB
  cases hl : isLetterB c
  · rw [hl] at H1
    clear hl
    go_enter Tryz.func164, Tryz.ntmps164
    go_wp2_with fail
    refine H1.out.mono ?_
    rintro e w1 ⟨rfl, rfl⟩
    go_wp2_with fail
    refine H2.out.mono ?_
    rintro e w1 ⟨rfl, rfl⟩
    go_wp2_with fail
    go_ret
    exact ⟨by simp, rfl⟩
  · rw [hl] at H1
    clear hl
    go_enter Tryz.func164, Tryz.ntmps164
    go_wp2_with fail
    refine H1.out.mono ?_
    rintro e w1 ⟨rfl, rfl⟩
    go_wp2_with fail
    go_ret
    exact ⟨by simp, rfl⟩
theorem ent_ex {f : FuncId} {fn : Func} (hf : Tryz.prog.funcs[f]? = some fn) (hn : (fn.name == "runtime.NumGoroutine") = false) (hb : fn.body.isNone = false) {pred : UInt8 → Bool} (h : ∀ (c : UInt8) (w : World), Calls Tryz.prog f #[.int .u8 (c.toNat : Int)] w fun e w' => e = .returned (.bool (pred c)) ∧ w' = w) : PredOk f pred := ⟨ent_of hf hn hb, h⟩
theorem ok_space : PredOk 160 isSpaceB := ent_ex Tryz.func160 (by kernel_rfl) (by kernel_rfl) isSpace_any
theorem ok_digit : PredOk 165 isDigitB := ent_ex Tryz.func165 (by kernel_rfl) (by kernel_rfl) isDigit_any
theorem ok_line : PredOk 162 notNlB := ent_ex Tryz.func162 (by kernel_rfl) (by kernel_rfl) first1_any
theorem ok_line2 : PredOk 228 notNlB := ent_ex Tryz.func228 (by kernel_rfl) (by kernel_rfl) scanStr1_any
theorem ok_word : PredOk 164 isWordB := ent_ex Tryz.func164 (by kernel_rfl) (by kernel_rfl) first2_any

theorem scan_step (l : List UInt8) (p : UInt8 → Bool) (k : Nat) (hk : k < l.length) : ((l.drop k).takeWhile p).length = if p l[k] then ((l.drop (k + 1)).takeWhile p).length + 1 else 0 := by
  rw [List.drop_eq_getElem_cons hk, List.takeWhile_cons]
  split <;> simp
theorem byte_at (s : ByteArray) (k : Nat) (hk : k < s.size) : s.data.toList[k]'(by simpa using hk) = s[k] := by
  simp only [Array.getElem_toList]
  rfl
set_option maxRecDepth 100000 in
set_option maxHeartbeats 1600000 in
theorem scan_any (s : ByteArray) (start : Nat) (fid : FuncId) (pred : UInt8 → Bool) (hp : PredOk fid pred) (w : World) (hs : s.size ≤ 2000) (hst : start ≤ s.size) :
    Calls Tryz.prog 161 #[.string s, .int .i64 (start : Int), .func (.func fid) #[] #[]] w fun e w' => e = .returned (.int .i64 ((start + ((s.data.toList.drop start).takeWhile pred).length : Nat) : Int)) ∧ w' = w := by
  generalize hN : start + ((s.data.toList.drop start).takeWhile pred).length = N
  have HN := Lib.hid hN
  clear hN
  have HP := Lib.hid hp.2
  have hent2 : ∀ (args : Array Value) (w0 : World), Sem.run Tryz.prog (callFunc fid args) w0 = .ok (.enter fid args) w0 := fun args w0 => hp.1 _ _
  clear hp
  go_enter Tryz.func161, Tryz.ntmps161
  go_wp2_with fail
  go_loop [1] (fun v => ∃ k : Nat, k ≤ s.size ∧ v = .int .i64 (k : Int) ∧ Hid (k + ((s.data.toList.drop k).takeWhile pred).length = N)) (fun v => s.size - (intOf v).toNat)
  case atStart => exact ⟨start, hst, rfl, HN⟩
  case round =>
    obtain ⟨k, hk, rfl, hr⟩ := hrel
    by_cases hlt : k < s.size
    · have hstep := scan_step s.data.toList pred k (by simpa using hlt)
      rw [byte_at s k hlt] at hstep
      cases hpk : pred s[k]
      · rw [hpk] at hstep
        have HE := Lib.hid (show k = N by have := hr.out; rw [hstep] at this; simpa using this)
        have HC := HP.out s[k] w
        rw [hpk] at HC
        have HC := Lib.hid HC
        clear hstep hpk hr
        go_wp2_with fail
        refine HC.out.mono ?_
        rintro e w1 ⟨rfl, rfl⟩
        go_wp2_with fail
        go_ret
        exact ⟨by rw [← HE.out]; rfl, rfl⟩
      · rw [hpk, if_pos rfl] at hstep
        have HE := Lib.hid (show (k + 1) + ((s.data.toList.drop (k + 1)).takeWhile pred).length = N by have := hr.out; rw [hstep] at this; omega)
        have HC := HP.out s[k] w
        rw [hpk] at HC
        have HC := Lib.hid HC
        clear hstep hpk hr
        go_wp2_with fail
        refine HC.out.mono ?_
        rintro e w1 ⟨rfl, rfl⟩
        go_wp2_with fail
        go_round
        case rel => exact ⟨k + 1, by omega, by go_num, HE⟩
        case measure => simp [intOf]; omega
    · have hk2 : k = s.size := by omega
      have hd : s.data.toList.drop k = [] := List.drop_eq_nil_of_le (by rw [hk2]; simp)
      have HE := Lib.hid (show k = N by have := hr.out; rw [hd] at this; simpa using this)
      clear hd hr hk2
      go_wp2_with fail
      go_ret
      exact ⟨by rw [← HE.out]; rfl, rfl⟩
end Go.Proofs.YtpibenilagloaaaGreatDoor

/-
  scanString: the walk.
-/
namespace Go.Proofs.YtpibenilagloaaaGreatDoor
open Go.RowKit
set_option linter.unusedVariables false

theorem strEnd_drop (l : List UInt8) (k : Nat) (hk : k < l.length) : strEnd (l.drop k) k = if l[k].toNat = 10 then none else if l[k].toNat = 34 then some (k + 1) else if l[k].toNat = 92 then (if h : k + 1 < l.length then (if l[k + 1].toNat = 10 then strEnd (l.drop (k + 1)) (k + 1) else strEnd (l.drop (k + 2)) (k + 2)) else none) else strEnd (l.drop (k + 1)) (k + 1) := by
  rw [List.drop_eq_getElem_cons hk]
  conv => lhs; unfold strEnd
  split
  · rfl
  · split
    · rfl
    · split
      · by_cases h : k + 1 < l.length
        · rw [dif_pos h, List.drop_eq_getElem_cons h]
        · rw [dif_neg h, List.drop_eq_nil_of_le (by omega)]
      · rfl
theorem ne_bool (x : UInt8) (n : Nat) (m : Int) (h : m = n) : (((x.toNat : Int) == m) = decide (x.toNat = n)) ∧ (((x.toNat : Int) != m) = !decide (x.toNat = n)) := by
  subst h
  have : ((x.toNat : Int) == (n : Int)) = decide (x.toNat = n) := by
    rw [Bool.eq_iff_iff]; simp; omega
  exact ⟨this, by rw [bne, this]⟩
theorem ret_two {a b c d : Int} (h1 : a = c) (h2 : b = d) : Ending.returned (.tuple #[.int .i64 a, .int .i64 b]) = .returned (.tuple #[.int .i64 c, .int .i64 d]) := by rw [h1, h2]
def strR (m : Nat) : Option Nat → Nat × Int
  | some n => (n, 106)
  | none => (m, 108)
theorem strL_eq (l : List UInt8) : strL l = strR (1 + ((l.drop 1).takeWhile notNlB).length) (strEnd (l.drop 1) 1) := by
  unfold strL strR scanL
  rfl
set_option maxRecDepth 100000 in
set_option maxHeartbeats 3200000 in
theorem scanString_any (s : ByteArray) (w : World) (hs : s.size ≤ 2000) (h0 : 0 < s.size) :
    Calls Tryz.prog 168 #[.string s] w fun e w' => e = .returned (.tuple #[.int .i64 ((strL s.data.toList).1 : Nat), .int .i64 (strL s.data.toList).2]) ∧ w' = w := by
  have HSC := Lib.hid (scan_any s 1 _ _ ok_line2 w hs h0)
  have HL := Lib.hid (show s.data.toList.length = s.size by simp)
  rw [strL_eq]
  generalize hZ : strEnd (s.data.toList.drop 1) 1 = Z
  generalize 1 + ((s.data.toList.drop 1).takeWhile notNlB).length = N at *
  have HZ := Lib.hid hZ
  clear hZ
  go_enter Tryz.func168, Tryz.ntmps168
  go_wp2_with fail
  go_loop [4] (fun v => ∃ k : Nat, k ≤ s.size ∧ v = .int .i64 (k : Int) ∧ Hid (strEnd (s.data.toList.drop k) k = Z)) (fun v => s.size - (intOf v).toNat)
  case atStart => exact ⟨1, h0, rfl, HZ⟩
  case round =>
    obtain ⟨k, hk, rfl, hr⟩ := hrel
    by_cases hlt : k < s.size
    · have hstep := strEnd_drop s.data.toList k (by rw [HL.out]; exact hlt)
      rw [byte_at s k hlt, hr.out] at hstep
      obtain ⟨n1, n2⟩ := ne_bool s[k] 10 10 rfl
      obtain ⟨n3, n4⟩ := ne_bool s[k] 34 34 rfl
      obtain ⟨n5, n6⟩ := ne_bool s[k] 92 92 rfl
      by_cases c1 : s[k].toNat = 10
      · rw [if_pos c1] at hstep
        rw [decide_eq_true c1] at n1 n2
        have HN := Lib.hid hstep
        clear hstep c1 n3 n4 n5 n6 hr
        go_wp2_with fail
        refine HSC.out.mono ?_
        rintro e w1 ⟨rfl, rfl⟩
        go_wp2_with fail
        go_ret2
        rw [HN.out]
        exact ⟨rfl, rfl⟩
      · rw [if_neg c1] at hstep
        rw [decide_eq_false c1] at n1 n2
        by_cases c2 : s[k].toNat = 34
        · rw [if_pos c2] at hstep
          rw [decide_eq_true c2] at n3 n4
          have HN := Lib.hid hstep
          clear hstep c1 c2 n5 n6 hr
          go_wp2_with fail
          go_ret2
          rw [HN.out]
          exact ⟨rfl, rfl⟩
        · rw [if_neg c2] at hstep
          rw [decide_eq_false c2] at n3 n4
          by_cases c3 : s[k].toNat = 92
          · rw [if_pos c3] at hstep
            rw [decide_eq_true c3] at n5 n6
            by_cases hl2 : k + 1 < s.size
            · rw [dif_pos (by rw [HL.out]; exact hl2), byte_at s (k + 1) hl2] at hstep
              obtain ⟨m1, m2⟩ := ne_bool s[k + 1] 10 10 rfl
              have hlI : (k : Int) + 1 < s.size := by omega
              by_cases c4 : s[k + 1].toNat = 10
              · rw [if_pos c4] at hstep
                rw [decide_eq_true c4] at m1 m2
                have HN := Lib.hid hstep.symm
                clear hstep c1 c2 c3 c4 hr
                go_wp2_with fail
                all_goals first | exact ⟨⟨k + 1, by omega, by go_num, HN⟩, by simp [intOf]; omega⟩ | (go_round; (case rel => exact ⟨k + 1, by omega, by go_num, HN⟩); (case measure => simp [intOf]; omega))
              · rw [if_neg c4] at hstep
                rw [decide_eq_false c4] at m1 m2
                have HN := Lib.hid hstep.symm
                clear hstep c1 c2 c3 c4 hr
                go_wp2_with fail
                all_goals first | exact ⟨⟨k + 2, by omega, by go_num, HN⟩, by simp [intOf]; omega⟩ | (go_round; (case rel => exact ⟨k + 2, by omega, by go_num, HN⟩); (case measure => simp [intOf]; omega))
            · rw [dif_neg (by rw [HL.out]; exact hl2)] at hstep
              have hlI : ¬ ((k : Int) + 1 < s.size) := by omega
              have hd : strEnd (s.data.toList.drop (k + 1)) (k + 1) = none := by
                rw [List.drop_eq_nil_of_le (by rw [HL.out]; omega)]; rfl
              have HN := Lib.hid (hd.trans hstep.symm)
              clear hstep c1 c2 c3 hr hd
              go_wp2_with fail
              all_goals first | exact ⟨⟨k + 1, by omega, by go_num, HN⟩, by simp [intOf]; omega⟩ | (go_round; (case rel => exact ⟨k + 1, by omega, by go_num, HN⟩); (case measure => simp [intOf]; omega))
          · rw [if_neg c3] at hstep
            rw [decide_eq_false c3] at n5 n6
            have HN := Lib.hid hstep.symm
            clear hstep c1 c2 c3 hr
            go_wp2_with fail
            all_goals first | exact ⟨⟨k + 1, by omega, by go_num, HN⟩, by simp [intOf]; omega⟩ | (go_round; (case rel => exact ⟨k + 1, by omega, by go_num, HN⟩); (case measure => simp [intOf]; omega))
    · have hd : strEnd (s.data.toList.drop k) k = none := by
        rw [List.drop_eq_nil_of_le (by rw [HL.out]; omega)]; rfl
      have HN := Lib.hid (hr.out.symm.trans hd)
      clear hd hr
      go_wp2_with fail
      refine HSC.out.mono ?_
      rintro e w1 ⟨rfl, rfl⟩
      go_wp2_with fail
      go_ret2
      rw [HN.out]
      exact ⟨rfl, rfl⟩
end Go.Proofs.YtpibenilagloaaaGreatDoor

/-
  semtokens.lineStarts: the walk.
-/
namespace Go.Proofs.YtpibenilagloaaaGreatDoor
open Go.RowKit
set_option linter.unusedVariables false

theorem lsFrom_snoc : ∀ (l : List UInt8) (i : Nat) (c : UInt8), lsFrom i (l ++ [c]) = lsFrom i l ++ (if c = 10 then [i + l.length + 1] else [])
  | [], i, c => by simp [lsFrom]
  | x :: l, i, c => by
    rw [List.cons_append, lsFrom, lsFrom, lsFrom_snoc l (i + 1) c, List.length_cons, show i + 1 + l.length + 1 = i + (l.length + 1) + 1 by omega]
    split
    · rw [List.cons_append]
    · rfl
/-- the line starts as Go's ints -/
def lsI (l : List UInt8) : List Int := (lineStartsL l).map Int.ofNat
theorem lsI_snoc (l : List UInt8) (c : UInt8) : lsI (l ++ [c]) = lsI l ++ (if c = 10 then [((l.length + 1 : Nat) : Int)] else []) := by
  unfold lsI lineStartsL
  rw [lsFrom_snoc, Nat.zero_add]
  split <;> simp
theorem lsI_len (l : List UInt8) : (lsI l).length ≤ l.length + 1 := by
  unfold lsI lineStartsL
  rw [List.length_map, List.length_cons, lsFrom_len]
  have : nlC l ≤ l.length := List.count_le_length
  omega
set_option maxRecDepth 100000 in
set_option maxHeartbeats 1600000 in
theorem lines_any (s : ByteArray) (w : World) (hs : s.size ≤ 2000) :
    Calls Tryz.prog 34 #[.string s] w fun e w' => ∃ A c, e = .returned (.slice A (lsI s.data.toList).length c) ∧ inD.At w' (Nw w w') A (lsI s.data.toList) ∧ Below w.heap.size w w' := by
  have HL := Lib.hid (show s.data.toList.length = s.size by simp)
  have hq0 : inD.Own (w.alloc (.cells #[.int .i64 0] 3)) w.heap.size 3 (OF w.heap.size (.slice (some ⟨w.heap.size, 0, none⟩) 1 1) (w.alloc (.cells #[.int .i64 0] 3))) (.slice (some ⟨w.heap.size, 0, none⟩) 1 1) [(0 : Int)] [.int .i64 0] :=
    ⟨⟨rfl, .inr ⟨w.heap.size, 1, #[.int .i64 0], rfl, Nat.le_refl _, heap_alloc_new w _, Nat.le_refl _, by decide, rfl, rfl⟩⟩, Dat.Row.single (D := inD) rfl⟩
  have hb0 : Below w.heap.size w (w.alloc (.cells #[.int .i64 0] 3)) := (Below.refl _ _).alloc (Nat.le_refl _) _
  have hz : w.heap.size ≤ (w.alloc (.cells #[.int .i64 0] 3)).heap.size := by simp
  go_enter Tryz.func34, Tryz.ntmps34
  go_wp2_with fail
  generalize w.alloc _ = W at *
  go_loopw [3, 8] (fun v i wr => ∃ (k : Nat) (vs : List Value), k ≤ s.size ∧ i = .int .i64 (k : Int) ∧ inD.Own wr w.heap.size 3 (OF w.heap.size v wr) v (lsI (s.data.toList.take k)) vs ∧ Below w.heap.size w wr) (fun _ i _ => s.size - (intOf i).toNat)
  case atStart => exact ⟨0, _, Nat.zero_le _, rfl, (by rw [List.take_zero]; exact hq0), hb0⟩
  case round =>
    clear hq0 hb0 hz
    obtain ⟨k, vs, hk, rfl, hown, hb⟩ := hrel
    by_cases hlt : k < s.size
    · have hkI : (k : Int) < s.size := by omega
      have hkl : k < s.data.toList.length := by rw [HL.out]; exact hlt
      have hba := byte_at s k hlt
      have hsn : lsI (s.data.toList.take (k + 1)) = lsI (s.data.toList.take k) ++ (if s[k] = 10 then [((k + 1 : Nat) : Int)] else []) := by
        rw [List.take_succ_eq_append_getElem hkl, lsI_snoc, List.length_take, Nat.min_eq_left (Nat.le_of_lt hkl)]
        rfl
      have hle := lsI_len (s.data.toList.take k)
      rw [List.length_take, Nat.min_eq_left (Nat.le_of_lt hkl)] at hle
      obtain ⟨n1, n2⟩ := ne_bool s[k] 10 10 rfl
      have HSN := Lib.hid hsn
      have HB := Lib.hid hb
      clear hba hsn
      by_cases c1 : s[k].toNat = 10
      · rw [decide_eq_true c1] at n1 n2
        have c2 : s[k] = 10 := UInt8.toNat_inj.1 c1
        have HS2 := Lib.hid (HSN.out.trans (by rw [if_pos c2]))
        obtain ⟨n0, hn0⟩ : ∃ n0, (lsI (s.data.toList.take k)).length = n0 := ⟨_, rfl⟩
        obtain ⟨A, c, rfl⟩ := own_slice hown.1
        have ho1 := hown.1
        rw [hn0] at ho1 hle hown ⊢
        have HO := Lib.hid hown
        have HN0 := Lib.hid hn0
        have hbB := hb.size
        clear c1 c2 HSN hown hb hn0
        go_wp2_with (at_builtin; refine wpList_append_litH rfl (.tmp 15) (.tmp 18) _ rfl w.heap.size 3 _ 1 8 Tryz.underlying76 info_in rfl (by decide) _ _ _ rfl ho1 1 1 wr.heap.size (by simp) [.int .i64 ((k : Int) + 1)] rfl rfl ?a1 ?a2 ?a3 hbB ?_)
        case a1 => simp [Value.oneCell']
        case a2 => simp only [maxLen]; omega
        case a3 => omega
        intro v2 w2 hown2 hg2 hat2
        have h2 : inD.Own w2 w.heap.size 3 (OF w.heap.size v2 w2) v2 (lsI (s.data.toList.take (k + 1))) (vs ++ [.int .i64 ((k : Int) + 1)]) := by
          rw [HS2.out]
          exact HO.out.grow (ys := [((k + 1 : Nat) : Int)]) (Dat.Row.single (D := inD) rfl) hg2 (by rw [HN0.out]; exact hown2) (hat2.imp_right fun ⟨g, h1, h2⟩ => ⟨g, h1, h2⟩)
        have hb2 : Below w.heap.size w w2 := HB.out.grown hg2 hbB (fun q hq => (HO.out.1.lt q hq).1)
        have H2 := Lib.hid h2
        have HB2 := Lib.hid hb2
        clear h2 hb2 hown2 hg2 hat2 ho1
        go_wp2_with fail
        go_roundw
        case rel => exact ⟨k + 1, _, by omega, by go_num, H2.out, HB2.out⟩
        case measure => simp [intOf]; omega
      · rw [decide_eq_false c1] at n1 n2
        have c2 : ¬ s[k] = 10 := fun e => c1 (by rw [e]; rfl)
        have HS2 := Lib.hid (HSN.out.trans (by rw [if_neg c2, List.append_nil]))
        have HO := Lib.hid hown
        clear c1 c2 HSN hown hb
        go_wp2_with fail
        go_roundw
        case rel => exact ⟨k + 1, vs, by omega, by go_num, by rw [HS2.out]; exact HO.out, HB.out⟩
        case measure => simp [intOf]; omega
    · have hkI : ¬ (k : Int) < s.size := by omega
      have HT := Lib.hid (show s.data.toList.take k = s.data.toList from List.take_of_length_le (by rw [HL.out]; omega))
      have HO := Lib.hid hown
      have HB := Lib.hid hb
      clear hown hb
      go_wp2_with fail
      go_ret
      have ho := HO.out
      rw [HT.out] at ho
      obtain ⟨A, c, hv, hat, _⟩ := ho.at (F' := Nw w wr) (fun b hb => ⟨hb.1, hb.2.1⟩) (fun g hg => ho.1.lt g hg)
      exact ⟨A, ⟨c, congrArg Ending.returned hv⟩, hat, HB.out⟩
end Go.Proofs.YtpibenilagloaaaGreatDoor
