/-
  TexteditTransformDisjoint: the walk, the last case.
-/
import Derived.Test.YtbnoejdhachhhaaTds
namespace Go.Proofs.Ytbnoejdhachhhaa.tdis
open Go.RowKit
set_option linter.unusedVariables false

set_option maxHeartbeats 2000000 in
theorem td6 (src : ByteArray) (p1 o1 : Nat) (c : Nat) (a : List Ed) (p2 o2 : Nat) (d : Nat) (b : List Ed) (w : World) (na nb : Nat) (ea : a.length = na) (eb : b.length = nb) (hsrc : src.size ≤ maxLen)
    (ha : EdsAt w w.heap.size (some ⟨p1, o1, none⟩) a) (hm : a.length ≤ maxLen) (hs : Short a) (hc : a.length ≤ c) (hb : EdsAt w w.heap.size (some ⟨p2, o2, none⟩) b) (hm' : b.length ≤ maxLen) (hs' : Short b) (hd : b.length ≤ d) (k1 : valT src.size a = 0) (k2 : valT src.size b = 0) (k3 : ((na : Int) == 0) = false) (k4 : ((nb : Int) == 0) = false) (l50 : na ≤ 50) (l50' : nb ≤ 50) (m : Nat) (hml : na = m + 1) (hnb : 0 < nb) (x y : Ed) (s2 : w.cell? ⟨p1, o1 + m * 3 + 1, none⟩ = some (.int .i64 x.e)) (t1 : w.cell? ⟨p2, o2, none⟩ = some (.int .i64 y.s)) (hp1 : p1 < w.heap.size) (hp2 : p2 < w.heap.size) (g5 : ¬ y.s ≤ x.e) :
    Calls Try.prog 11 #[.string src, .slice (some ⟨p1, o1, none⟩) na c, .slice (some ⟨p2, o2, none⟩) nb d] w fun e w' => e = .returned (.bool true) ∧ Below w.heap.size w w' := by
  have VA : ∀ u, Cls w (some ⟨p1, o1, none⟩) (some ⟨p2, o2, none⟩) a b [(⟨p1, o1 + m * 3 + 1, none⟩, .int .i64 x.e), (⟨p2, o2, none⟩, .int .i64 y.s)] u → Calls Try.prog 22 #[.string src, .slice (some ⟨p1, o1, none⟩) na c] u fun e w' => e = .returned (.int .i64 0) ∧ Cls w (some ⟨p1, o1, none⟩) (some ⟨p2, o2, none⟩) a b [(⟨p1, o1 + m * 3 + 1, none⟩, .int .i64 x.e), (⟨p2, o2, none⟩, .int .i64 y.s)] w' := fun u hu => by
    rw [← ea, ← k1]; exact (valT_any src (some ⟨p1, o1, none⟩) c a u hu.1 hm hs hsrc).mono fun e w' ⟨he, hb⟩ => ⟨he, hu.step hb⟩
  have VB : ∀ u, Cls w (some ⟨p1, o1, none⟩) (some ⟨p2, o2, none⟩) a b [(⟨p1, o1 + m * 3 + 1, none⟩, .int .i64 x.e), (⟨p2, o2, none⟩, .int .i64 y.s)] u → Calls Try.prog 22 #[.string src, .slice (some ⟨p2, o2, none⟩) nb d] u fun e w' => e = .returned (.int .i64 0) ∧ Cls w (some ⟨p1, o1, none⟩) (some ⟨p2, o2, none⟩) a b [(⟨p1, o1 + m * 3 + 1, none⟩, .int .i64 x.e), (⟨p2, o2, none⟩, .int .i64 y.s)] w' := fun u hu => by
    rw [← eb, ← k2]; exact (valT_any src (some ⟨p2, o2, none⟩) d b u hu.2.1 hm' hs' hsrc).mono fun e w' ⟨he, hb⟩ => ⟨he, hu.step hb⟩
  have K1 := Lib.hid k1
  have K2 := Lib.hid k2
  clear k1 k2
  have hw : IntKind.i64.wrap ((na : Int) - 1) = (m : Int) := by rw [IntWalk.i64_in _ (by omega)]; omega
  have hml1 : (m : Int) < (na : Int) := by omega
  have hnb1 : (0 : Int) < (nb : Int) := by omega
  have HML := Lib.hid hml
  clear hml
  go_enter Try.func11, Try.ntmps11
  go_wp2_with fail
  refine (txEx _).mono ?_
  rintro e w1 ⟨rfl, b1⟩
  have a1 := (ha.below b1).more b1.size
  have d1 := (hb.below b1).more b1.size
  go_wp2_with fail
  refine region_class (Cls w (some ⟨p1, o1, none⟩) (some ⟨p2, o2, none⟩) a b [(⟨p1, o1 + m * 3 + 1, none⟩, .int .i64 x.e), (⟨p2, o2, none⟩, .int .i64 y.s)]) (by kernel_rfl) (by kernel_rfl) ⟨a1, d1, b1.drew, by intro z hz; simp only [List.mem_cons, List.not_mem_nil, or_false] at hz; rcases hz with rfl | rfl; exact ⟨hp1, (b1.cell (p := ⟨p1, o1 + m * 3 + 1, none⟩) hp1).trans s2⟩; exact ⟨hp2, (b1.cell (p := ⟨p2, o2, none⟩) hp2).trans t1⟩⟩ ?_
  clear ha hb a1 d1
  repeat (first
    | go_big_quiet_skip
    | (go_big_quiet_want; go_big_quiet_op; go_big_quiet_on)
    | (go_big_quiet_want; refine' quiet_value _ (fun u hu => _) _; rotate_left; (focus ((try have q1 := Cls.c1 hu); (try have q2 := Cls.c2 hu); clear hu; go_simp; try with_reducible rfl)); (simp only [Act.put, List.setIfInBounds_toArray, List.set_cons_zero, List.set_cons_succ]); go_big_quiet_on))
  go_big_quiet_want
  refine quiet_enter (.int .i64 0) 22 #[.string src, .slice (some ⟨p1, o1, none⟩) na c] (fun u _ => by first | rfl | (go_simp; done)) VA ?_
  simp only [Act.put, List.setIfInBounds_toArray, List.set_cons_zero, List.set_cons_succ]
  go_big_quiet_on
  repeat (first
    | go_big_quiet_skip
    | (go_big_quiet_want; go_big_quiet_op; go_big_quiet_on)
    | (go_big_quiet_want; refine' quiet_value _ (fun u hu => _) _; rotate_left; (focus ((try have q1 := Cls.c1 hu); (try have q2 := Cls.c2 hu); clear hu; go_simp; try with_reducible rfl)); (simp only [Act.put, List.setIfInBounds_toArray, List.set_cons_zero, List.set_cons_succ]); go_big_quiet_on))
  go_big_quiet_want
  refine quiet_enter (.int .i64 0) 22 #[.string src, .slice (some ⟨p2, o2, none⟩) nb d] (fun u _ => by first | rfl | (go_simp; done)) VB ?_
  simp only [Act.put, List.setIfInBounds_toArray, List.set_cons_zero, List.set_cons_succ]
  go_big_quiet_on
  repeat (first
    | go_big_quiet_skip
    | (go_big_quiet_want; go_big_quiet_op; go_big_quiet_on)
    | (go_big_quiet_want; refine' quiet_value _ (fun u hu => _) _; rotate_left; (focus ((try have q1 := Cls.c1 hu); (try have q2 := Cls.c2 hu); clear hu; go_simp; try with_reducible rfl)); (simp only [Act.put, List.setIfInBounds_toArray, List.set_cons_zero, List.set_cons_succ]); go_big_quiet_on))
  refine wpQuiet_nil ?_
  intro wq hq
  obtain ⟨aq, dq, bq, _⟩ := hq
  clear hw hml1 hnb1 s2 t1 VA VB k3 k4
  subst ea eb
  have hS : Short (a ++ b) := fun x hx => by rcases List.mem_append.1 hx with h | h; exact hs x h; exact hs' x h
  have hL : (a ++ b).length ≤ maxLen := by rw [List.length_append]; simp only [maxLen]; omega
  have own0 : (wq.alloc (.cells #[] 31)).ownsRow wq.heap.size 31 3 (.slice (some ⟨wq.heap.size, 0, none⟩) 0 0) 0 [] := World.ownsRow_lit wq #[] 0 (Nat.le_refl _) (by decide) (by decide)
  have hbq : Below wq.heap.size wq (wq.alloc (.cells #[] 31)) := (Below.refl _ _).alloc (Nat.le_refl _) _
  have ra := eds_row (aq.below hbq)
  have ca := edCells_one a
  have cb := edCells_one b
  go_wp2_with (at_builtin; refine wpList_append_src rfl (.tmp 54) (.tmp 55) _ rfl wq.heap.size 31 _ 3 32 Try.underlying22 info_ed rfl (by decide) _ _ _ rfl own0 _ _ _ _ _ rfl ra (edCells_length a) ca ?c3 ?c4 ?c5 ?_)
  case c3 => simp only [maxLen]; omega
  case c4 => omega
  case c5 => exact hbq.size
  intro v1 w2 hown2 hg2 hat2
  have hb2 := grown_below hbq hbq.size own0 hg2
  have rb := eds_row (dq.below hb2)
  clear own0 hg2 ra hbq
  go_wp2_with (at_builtin; refine wpList_append_src rfl (.tmp 56) (.tmp 57) _ rfl wq.heap.size 31 _ 3 32 Try.underlying22 info_ed rfl (by decide) _ _ _ rfl hown2 _ _ _ _ _ rfl rb (edCells_length b) cb ?d3 ?d4 ?d5 ?_)
  case d3 => simp only [maxLen]; omega
  case d4 => omega
  case d5 => exact hb2.size
  intro v3 w3 hown3 hg3 hat3
  have hb3 := grown_below hb2 hb2.size hown2 hg3
  have hown4 : w3.ownsRow wq.heap.size 31 3 v3 (a ++ b).length (edCells' (a ++ b)) := by
    rw [List.length_append, show edCells' (a ++ b) = edCells' a ++ edCells' b by simp [edCells']]
    simpa using hown3
  generalize hall : a ++ b = all at hown4 hS hL
  have HALL := Lib.hid hall
  clear hall
  obtain ⟨A4, c4, rfl, i3⟩ := EdsAt.of_own hown4
  have a3 := (aq.below hb3).more hb3.size
  have d3 := (dq.below hb3).more hb3.size
  have b3 := bq.trans (hb3.mono bq.size)
  clear aq dq bq hown2 hg3 hown3 hown4 hb2 hb3 rb ca cb hat2 hat3
  go_wp2_with fail
  refine (apply_any _ _ _ _ _ i3 hL hS hsrc).mono ?_
  rintro e w4 ⟨rfl, hb4⟩
  have a4 := (a3.below hb4).more hb4.size
  have d4 := (d3.below hb4).more hb4.size
  have b4 := b3.trans (hb4.mono b3.size)
  clear i3 a3 d3 b3 hb4
  go_wp2_with fail
  refine (trf_any _ _ _ _ _ _ _ _ a4 d4 hc hd hm hm' hs hs' hsrc).mono ?_
  rintro e w5 ⟨A5, c5, D5, d5', rfl, i5, j5, hb5⟩
  have a5 := (a4.below hb5).more hb5.size
  have b5 := b4.trans (hb5.mono b4.size)
  clear a4 d4 b4 hb5 i5
  have fin : ∀ u : World, Below w.heap.size w u → Calls Try.prog 19 #[] u fun e w' => e = .returned (.bool true) ∧ Below w.heap.size w w' := fun u hu => (txEx u).mono fun e w' ⟨he, hw⟩ => ⟨he, hu.trans (hw.mono hu.size)⟩
  by_cases g1 : valT src.size all = 0
  · have k1 : (valT src.size all != 0) = false := by simp [g1]
    by_cases g2 : trfC src a b = 0
    · have k2 : (trfC src a b != 0) = false := by simp [g2]
      obtain ⟨q1, q2, q3⟩ := disj_law g2 (by rw [HALL.out]; exact g1)
      rw [HALL.out] at q3
      have Q1 := Lib.hid q1
      have Q2 := Lib.hid q2
      have Q3 := Lib.hid q3
      obtain ⟨m2, n2⟩ := (Go.Proofs.Ytbnoejdhachhhaa.tcon.trf_fits src a b).2
      have hR := applyB_max src a
      clear q1 q2 q3 g1 g2
      go_wp2_with fail
      refine (apply_any _ _ _ _ _ a5 hm hs hsrc).mono ?_
      rintro e w6 ⟨rfl, hb6⟩
      have j6 := (j5.below hb6).more hb6.size
      have b6 := b5.trans (hb6.mono b5.size)
      rw [Q1.out]
      clear a5 j5 b5 hb6
      go_wp2_with fail
      refine (apply_any _ _ _ _ _ j6 m2 n2 hR).mono ?_
      rintro e w7 ⟨rfl, hb7⟩
      have b7 := b6.trans (hb7.mono b6.size)
      rw [Q2.out, Q3.out]
      go_wp2_with fail
      refine (fin _ b7).mono ?_
      rintro e w8 ⟨rfl, b8⟩
      go_wp2_with fail
      go_ret
      exact ⟨rfl, b8⟩
    · have k2 : (trfC src a b != 0) = true := by simp [g2]
      clear g1 g2
      go_wp2_with fail
      refine (fin _ b5).mono ?_
      rintro e w8 ⟨rfl, b8⟩
      go_wp2_with fail
      go_ret
      exact ⟨rfl, b8⟩
  · have k1 : (valT src.size all != 0) = true := by simp [g1]
    clear g1
    go_wp2_with fail
    refine (fin _ b5).mono ?_
    rintro e w8 ⟨rfl, b8⟩
    go_wp2_with fail
    go_ret
    exact ⟨rfl, b8⟩

end Go.Proofs.Ytbnoejdhachhhaa.tdis
