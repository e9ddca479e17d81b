import Derived.Test.YtpibenilagloaaaGreatDoorProg
import Derived.WalkKit
import Derived.WalkSpells
import Derived.WalkLawsBesides
import Derived.Outline
import Derived.Below
import Derived.Lib.Hide
import Derived.OwnWalk
import Derived.Deep.LoopGhost
import Derived.Deep.QuietTactic
import Derived.BigQuiet
import Derived.Laws.OwnMore
import Derived.Deep.AppendLies
import Derived.Deep.Draws
import Derived.Maps.AppendAt
import Derived.Laws.AppendOwnNone
namespace Go.Proofs.YtpibenilagloaaaGreatDoor
structure Tok where
  k : Int
  t : ByteArray
instance : Inhabited Tok := ⟨⟨0, .empty⟩⟩
inductive Tree where
  | mk (k : Int) (t : ByteArray) (ch : List Tree)
instance : Inhabited Tree := ⟨.mk 0 .empty []⟩
def Tree.k : Tree → Int | .mk k _ _ => k
def Tree.t : Tree → ByteArray | .mk _ t _ => t
def Tree.ch : Tree → List Tree | .mk _ _ c => c
def Tok.leaf (x : Tok) : Tree := .mk x.k x.t []
def kUse : ByteArray := ⟨#[117, 115, 101]⟩
def kPub : ByteArray := ⟨#[112, 117, 98]⟩
def kAs : ByteArray := ⟨#[97, 115]⟩
def kFn : ByteArray := ⟨#[102, 110]⟩
def kStruct : ByteArray := ⟨#[115, 116, 114, 117, 99, 116]⟩
def kEnum : ByteArray := ⟨#[101, 110, 117, 109]⟩
def kTrait : ByteArray := ⟨#[116, 114, 97, 105, 116]⟩
def kImpl : ByteArray := ⟨#[105, 109, 112, 108]⟩
def kFor : ByteArray := ⟨#[102, 111, 114]⟩
def kConst : ByteArray := ⟨#[99, 111, 110, 115, 116]⟩
def kMacro : ByteArray := ⟨#[109, 97, 99, 114, 111]⟩
def kLet : ByteArray := ⟨#[108, 101, 116]⟩
def kMut : ByteArray := ⟨#[109, 117, 116]⟩
def kWhile : ByteArray := ⟨#[119, 104, 105, 108, 101]⟩
def kReturn : ByteArray := ⟨#[114, 101, 116, 117, 114, 110]⟩
def kMatch : ByteArray := ⟨#[109, 97, 116, 99, 104]⟩
def kIf : ByteArray := ⟨#[105, 102]⟩
def kElse : ByteArray := ⟨#[101, 108, 115, 101]⟩
def kNew : ByteArray := ⟨#[110, 101, 119]⟩
def kTrue : ByteArray := ⟨#[116, 114, 117, 101]⟩
def kFalse : ByteArray := ⟨#[102, 97, 108, 115, 101]⟩
def kType : ByteArray := ⟨#[116, 121, 112, 101]⟩
def pCC : ByteArray := ⟨#[58, 58]⟩
def pFat : ByteArray := ⟨#[61, 62]⟩
def pArr : ByteArray := ⟨#[45, 62]⟩
def pEqEq : ByteArray := ⟨#[61, 61]⟩
def pAnd2 : ByteArray := ⟨#[38, 38]⟩
def pOr2 : ByteArray := ⟨#[124, 124]⟩
def pLp : ByteArray := ⟨#[40]⟩
def pRp : ByteArray := ⟨#[41]⟩
def pLb : ByteArray := ⟨#[123]⟩
def pRb : ByteArray := ⟨#[125]⟩
def pLt : ByteArray := ⟨#[60]⟩
def pGt : ByteArray := ⟨#[62]⟩
def pComma : ByteArray := ⟨#[44]⟩
def pSemi : ByteArray := ⟨#[59]⟩
def pColon : ByteArray := ⟨#[58]⟩
def pDot : ByteArray := ⟨#[46]⟩
def pEq : ByteArray := ⟨#[61]⟩
def pPlus : ByteArray := ⟨#[43]⟩
def pMinus : ByteArray := ⟨#[45]⟩
def pStar : ByteArray := ⟨#[42]⟩
def pSlash : ByteArray := ⟨#[47]⟩
def pBang : ByteArray := ⟨#[33]⟩
def pAmp : ByteArray := ⟨#[38]⟩
def pBar : ByteArray := ⟨#[124]⟩
def pUnd : ByteArray := ⟨#[95]⟩
def isTriv (x : Tok) : Bool := x.k == 101 || x.k == 102
def sig : List Tok → List Tok
  | [] => []
  | x :: r => if isTriv x then sig r else x :: r
def peekT (r : List Tok) : Tok := match sig r with
  | [] => ⟨100, .empty⟩
  | x :: _ => x
def after (r : List Tok) : List Tok := (sig r).drop 1
def taken (r : List Tok) : List Tok := r.take (r.length - (after r).length)
def trivs (r : List Tok) : List Tok := r.take (r.length - (sig r).length)
inductive Test where
  | at (texts : List ByteArray)
  | kind (k : Int)
  | text (t : ByteArray)
  | ahead (n : Nat) (t : Test)
  | flag
  | not (a : Test)
  | and (a b : Test)
  | or (a b : Test)
def skipN : Nat → List Tok → List Tok
  | 0, r => r
  | n + 1, r => skipN n (after r)
def atB (texts : List ByteArray) (r : List Tok) : Bool := ((peekT r).k == 104 || (peekT r).k == 107) && texts.any fun t => decide (t = (peekT r).t)
def Test.eval : Test → Bool → List Tok → Bool
  | .at texts, _, r => atB texts r
  | .kind k, _, r => (peekT r).k == k
  | .text t, _, r => decide ((peekT r).t = t)
  | .ahead n t, f, r => t.eval f (skipN n r)
  | .flag, f, _ => f
  | .not a, f, r => !a.eval f r
  | .and a b, f, r => a.eval f r && b.eval f r
  | .or a b, f, r => a.eval f r || b.eval f r
inductive Fn where
  | typeExpr | path (inType : Bool) | typeParams | typeParam | params (closing : ByteArray) | pattern | block | statement | letS | returnS | expr | binary (level : Nat) | unary | arguments | postfixS | primary | ifExpr | matchS | structLit | lambda
  | item | skipToItem | itemBody (k : Int) | useS | function (needsBody : Bool) | dataType (k : Int) | members | implS
inductive Cmd where
  | skip | bump | trivia
  | leaf (k : Int)
  | node (k : Int) (c : Cmd)
  | wrap (k : Int) (c : Cmd)
  | seq (c d : Cmd)
  | ite (t : Test) (c d : Cmd)
  | loop (t : Test) (c : Cmd)
  | moved (c d e : Cmd)
  | dropLast | insNone
  | setFlag (b : Bool)
  | call (f : Fn)
namespace Cmd
def expect (t : ByteArray) : Cmd := ite (.at [t]) bump (leaf 108)
def accept (ts : List ByteArray) : Cmd := ite (.at ts) bump skip
def expectIdent : Cmd := ite (.kind 103) bump (leaf 108)
def optional (t : ByteArray) (c : Cmd) : Cmd := ite (.at [t]) (seq bump c) (leaf 0)
def unexpected : Cmd := node 46 bump
def eof : Test := .kind 100
def ident : Test := .kind 103
def items : List ByteArray := [kUse, kPub, kFn, kStruct, kEnum, kTrait, kImpl, kConst, kMacro]
def atItem : Test := .and (.at items) (.not (.at [kFn]))
def list (closing : ByteArray) (c : Cmd) : Cmd :=
  seq (loop (.and (.not (.at [closing])) (.and (.not eof) (.not atItem))) (moved c unexpected (ite (.not (.at [closing])) (expect pComma) skip))) (expect closing)
end Cmd
def opsOf : Nat → List ByteArray
  | 0 => [pOr2]
  | 1 => [pAnd2]
  | 2 => [pEqEq, pLt]
  | 3 => [pPlus, pMinus]
  | _ => [pStar, pSlash]
open Cmd in
def itemOf (n : Nat) : Cmd :=
  let kw (s : ByteArray) : Test := .ahead n (.and (.kind 104) (.text s))
  let it (k : Int) : Cmd := node k (seq (accept [kPub]) (seq bump (call (.itemBody k))))
  ite (kw kUse) (it 2) (ite (kw kFn) (it 3) (ite (kw kStruct) (it 4) (ite (kw kEnum) (it 5) (ite (kw kTrait) (it 6) (ite (kw kImpl) (it 7) (ite (kw kConst) (it 8) (ite (kw kMacro) (it 9) (call .skipToItem))))))))
open Cmd in
def segment (b : Bool) : Cmd := node 18 (seq expectIdent (if b then ite (.at [pLt]) (seq bump (list pGt (call .typeExpr))) skip else skip))
open Cmd in
def stmtTail (c : Cmd) (bl : Bool) : Cmd :=
  moved c (seq dropLast (seq unexpected (setFlag false)))
    (ite (.at [pRb]) (setFlag true)
      (ite (.at [pEq]) (seq (wrap 23 (seq bump (seq (call .expr) (expect pSemi)))) (setFlag false))
        (seq (wrap 26 (ite (.at [pSemi]) bump (if bl then skip else leaf 108))) (setFlag false))))
open Cmd in
def body : Fn → Cmd
  | .typeExpr => ite (.at [pAmp]) (node 19 (seq bump (seq (accept [kMut]) (call .typeExpr))))
      (ite (.at [kFn]) (node 20 (seq bump (seq (expect pLp) (seq (list pRp (call .typeExpr)) (optional pArr (call .typeExpr))))))
        (ite ident (call (.path true)) (leaf 46)))
  | .path b => node 17 (seq (segment b) (loop (.at [pCC]) (seq bump (segment b))))
  | .typeParams => node 10 (ite (.at [pLt]) (seq bump (list pGt (call .typeParam))) skip)
  | .typeParam => ite ident (node 11 (seq bump (ite (.at [pColon]) (seq bump (seq (call (.path true)) (loop (.at [pPlus]) (seq bump (call (.path true)))))) skip))) skip
  | .params closing => node 12 (list closing (ite ident (node 13 (seq bump (optional pColon (call .typeExpr)))) skip))
  | .pattern => ite (.at [kMut]) (node 44 (seq bump expectIdent))
      (ite (.and ident (.text pUnd)) (node 43 bump)
        (ite (.and ident (.not (.ahead 1 (.at [pLp, pCC])))) (node 44 bump)
          (ite ident (node 45 (seq (call (.path false)) (ite (.at [pLp]) (seq bump (list pRp (call .pattern))) skip)))
            (ite (.kind 105) (node 27 bump)
              (ite (.at [kTrue, kFalse]) (node 28 bump) (leaf 46))))))
  | .block => node 21 (seq (expect pLb) (seq (setFlag false) (seq (loop (.and (.not .flag) (.and (.not (.at [pRb])) (.and (.not eof) (.not (.at items))))) (call .statement)) (seq (ite .flag skip (leaf 0)) (expect pRb)))))
  | .statement => ite (.at [kLet]) (seq (node 22 (call .letS)) (setFlag false))
      (ite (.at [kWhile]) (seq (node 24 (seq bump (seq (call .expr) (call .block)))) (setFlag false))
        (ite (.at [kReturn]) (seq (node 25 (call .returnS)) (setFlag false))
          (ite (.at [kIf, kMatch, pLb]) (stmtTail (call .primary) true) (stmtTail (call .expr) false))))
  | .letS => seq bump (seq (call .pattern) (seq (optional pColon (call .typeExpr)) (seq (expect pEq) (seq (call .expr) (expect pSemi)))))
  | .returnS => seq bump (seq (ite (.at [pSemi]) (leaf 0) (call .expr)) (expect pSemi))
  | .expr => call (.binary 0)
  | .binary l => if l = 5 then call .unary else
      seq (call (.binary (l + 1))) (if l = 2 then ite (.at (opsOf l)) (wrap 39 (seq bump (call (.binary (l + 1))))) skip else loop (.at (opsOf l)) (wrap 39 (seq bump (call (.binary (l + 1))))))
  | .unary => ite (.at [pMinus, pBang, pStar]) (node 40 (seq bump (call .unary)))
      (ite (.at [pAmp]) (node 41 (seq bump (seq (accept [kMut]) (call .unary)))) (seq (call .primary) (call .postfixS)))
  | .arguments => seq bump (list pRp (call .expr))
  | .postfixS => loop (.at [pLp, pDot]) (ite (.at [pLp]) (wrap 30 (call .arguments))
      (ite (.and (.ahead 1 ident) (.ahead 2 (.at [pLp]))) (wrap 31 (seq bump (seq bump (call .arguments)))) (wrap 32 (seq bump expectIdent))))
  | .primary => ite (.kind 105) (node 27 bump) (ite (.kind 106) (node 29 bump) (ite (.at [kTrue, kFalse]) (node 28 bump)
      (ite ident (seq (call (.path false)) (ite (.and (.at [pBang]) (.ahead 1 (.at [pLp]))) (wrap 42 (seq bump (call .arguments))) skip))
        (ite (.at [pLp]) (node 60 (seq bump (seq (call .expr) (expect pRp))))
          (ite (.at [pLb]) (call .block) (ite (.at [kIf]) (call .ifExpr) (ite (.at [kMatch]) (node 35 (call .matchS)) (ite (.at [kNew]) (node 33 (call .structLit)) (ite (.at [pBar, pOr2]) (node 38 (call .lambda)) (leaf 46))))))))))
  | .ifExpr => node 37 (seq bump (seq (call .expr) (seq (call .block) (optional kElse (ite (.at [kIf]) (call .ifExpr) (call .block))))))
  | .matchS => seq bump (seq (call .expr) (seq (expect pLb) (list pRb (ite (.or ident (.or (.kind 105) (.at [kTrue, kFalse, kMut]))) (node 36 (seq (call .pattern) (seq (expect pFat) (call .expr)))) skip))))
  | .structLit => seq bump (seq (call (.path false)) (seq (expect pLb) (list pRb (ite ident (node 34 (seq bump (seq (expect pColon) (call .expr)))) skip))))
  | .lambda => seq (ite (.at [pOr2]) (seq bump (node 12 skip)) (seq bump (call (.params pBar)))) (call .expr)
  | .item => ite (.at [kPub]) (itemOf 1) (itemOf 0)
  | .skipToItem => node 46 (seq bump (loop (.and (.not eof) (.not (.at items))) bump))
  | .itemBody k => if k = 2 then call .useS else if k = 3 then call (.function true) else if k = 4 ∨ k = 5 then call (.dataType k) else if k = 6 then seq expectIdent (call .members) else if k = 7 then call .implS
      else if k = 8 then seq expectIdent (seq (expect pColon) (seq (call .typeExpr) (seq (expect pEq) (seq (call .expr) (expect pSemi)))))
      else seq expectIdent (seq (expect pLp) (seq (call (.params pRp)) (seq (expect pEq) (seq (call .expr) (expect pSemi)))))
  | .useS => seq (setFlag false) (seq (node 17 (seq (segment false) (loop (.and (.at [pCC]) (.not .flag)) (ite (.ahead 1 (.at [pStar])) (setFlag true) (seq (setFlag false) (seq bump (segment false)))))))
      (seq (ite .flag (seq bump bump) (ite (.at [kAs]) (seq bump expectIdent) skip)) (expect pSemi)))
  | .function nb => seq expectIdent (seq (call .typeParams) (seq (expect pLp) (seq (call (.params pRp)) (seq (optional pArr (call .typeExpr)) (if nb then call .block else ite (.at [pSemi]) (seq bump (leaf 0)) (call .block))))))
  | .dataType k => seq expectIdent (seq (call .typeParams) (seq (expect pLb) (list pRb (ite ident (if k = 4 then node 14 (seq bump (seq (expect pColon) (call .typeExpr))) else node 15 (seq bump (ite (.at [pLp]) (seq bump (list pRp (call .typeExpr))) skip))) skip))))
  | .members => seq (expect pLb) (seq (loop (.at [kType, kFn]) (ite (.at [kFn]) (node 3 (seq bump (call (.function false)))) (node 16 (seq bump (seq expectIdent (seq (optional pEq (call .typeExpr)) (expect pSemi))))))) (expect pRb))
  | .implS => seq (call .typeParams) (seq (call .typeExpr) (seq (ite (.at [kFor]) (seq bump (call .typeExpr)) insNone) (call .members)))
structure PS where
  rest : List Tok
  ch : List Tree
  flag : Bool
  gas : Nat
def PS.add (s : PS) (ts : List Tree) : Option PS := if ts.length < s.gas then some { s with ch := s.ch ++ ts, gas := s.gas - ts.length } else none
def run : Nat → Cmd → PS → Option PS
  | 0, _, _ => none
  | n + 1, c, s => match c with
    | .skip => some s
    | .bump => (s.add ((taken s.rest).map Tok.leaf)).map fun u => { u with rest := after s.rest }
    | .trivia => (s.add ((trivs s.rest).map Tok.leaf)).map fun u => { u with rest := sig s.rest }
    | .leaf k => s.add [.mk k .empty []]
    | .node k c => if 1 < s.gas then (run n c { s with ch := [], gas := s.gas - 1 }).map fun u => { u with ch := s.ch ++ [.mk k .empty u.ch] } else none
    | .wrap k c => match s.ch.getLast? with
      | none => none
      | some x => if 1 < s.gas then (run n c { s with ch := [x], gas := s.gas - 1 }).map fun u => { u with ch := s.ch.dropLast ++ [.mk k .empty u.ch] } else none
    | .seq c d => (run n c s).bind fun u => run n d u
    | .ite t c d => if t.eval s.flag s.rest then run n c s else run n d s
    | .loop t c => if t.eval s.flag s.rest then (run n c s).bind fun u => run n (.loop t c) u else some s
    | .moved c d e => (run n c s).bind fun u => if u.rest.length = s.rest.length then run n d u else run n e u
    | .dropLast => match s.ch with
      | [] => none
      | _ :: _ => some { s with ch := s.ch.dropLast }
    | .insNone => match s.ch.getLast? with
      | none => none
      | some x => if 1 < s.gas then some { s with ch := s.ch.dropLast ++ [.mk 0 .empty [], x], gas := s.gas - 1 } else none
    | .setFlag b => some { s with flag := b }
    | .call f => run n (body f) s
def fileC : Cmd := .seq (.loop (.not Cmd.eof) (.call .item)) .trivia

def keywordsL : List (List UInt8) := [[117, 115, 101], [112, 117, 98], [97, 115], [102, 110], [115, 116, 114, 117, 99, 116], [101, 110, 117, 109], [116, 114, 97, 105, 116], [105, 109, 112, 108], [102, 111, 114], [99, 111, 110, 115, 116], [109, 97, 99, 114, 111], [108, 101, 116], [109, 117, 116], [119, 104, 105, 108, 101], [114, 101, 116, 117, 114, 110], [109, 97, 116, 99, 104], [105, 102], [101, 108, 115, 101], [110, 101, 119], [116, 114, 117, 101], [102, 97, 108, 115, 101], [116, 121, 112, 101]]
def twoL : List (List UInt8) := [[58, 58], [61, 62], [45, 62], [61, 61], [38, 38], [124, 124]]
def punctL : List UInt8 := [40, 41, 123, 125, 91, 93, 60, 62, 44, 59, 58, 46, 61, 43, 45, 42, 47, 33, 38, 124]
def isLetterB (c : UInt8) : Bool := decide (97 ≤ c.toNat) && decide (c.toNat ≤ 122) || (decide (65 ≤ c.toNat) && decide (c.toNat ≤ 90) || decide (c.toNat = 95))
def isDigitB (c : UInt8) : Bool := decide (48 ≤ c.toNat) && decide (c.toNat ≤ 57)
def isSpaceB (c : UInt8) : Bool := decide (c ∈ [(32 : UInt8), 9, 10, 13])
def isWordB (c : UInt8) : Bool := isLetterB c || isDigitB c
def notNlB (c : UInt8) : Bool := !decide (c.toNat = 10)
def scanL (p : UInt8 → Bool) (s : List UInt8) : Nat := (s.takeWhile p).length
def strEnd : List UInt8 → Nat → Option Nat
  | [], _ => none
  | c :: r, i => if c.toNat = 10 then none else if c.toNat = 34 then some (i + 1) else if c.toNat = 92 then
      match r with
      | [] => none
      | d :: r' => if d.toNat = 10 then strEnd (d :: r') (i + 1) else strEnd r' (i + 2)
    else strEnd r (i + 1)
def strL (s : List UInt8) : Nat × Int := match strEnd (s.drop 1) 1 with
  | some n => (n, 106)
  | none => (1 + scanL notNlB (s.drop 1), 108)
def firstL (s : List UInt8) : Nat × Int := match s with
  | [] => (0, 0)
  | c :: _ =>
    if isSpaceB c then (scanL isSpaceB s, 101)
    else if s.take 2 = [47, 47] then (scanL notNlB s, 102)
    else if isLetterB c then (scanL isWordB s, if s.take (scanL isWordB s) ∈ keywordsL then 104 else 103)
    else if isDigitB c then (scanL isDigitB s, 105)
    else if c.toNat = 34 then strL s
    else if 1 < s.length ∧ s.take 2 ∈ twoL then (2, 107)
    else if c ∈ punctL then (1, 107) else (1, 108)
def ofL (l : List UInt8) : ByteArray := ⟨l.toArray⟩
def tokensG : Nat → List UInt8 → List Tok
  | 0, _ => []
  | n + 1, s => if s = [] then [] else ⟨(firstL s).2, ofL (s.take (firstL s).1)⟩ :: tokensG n (s.drop (firstL s).1)
def tokensL (s : List UInt8) : List Tok := tokensG s.length s
end Go.Proofs.YtpibenilagloaaaGreatDoor

namespace Go.Proofs.YtpibenilagloaaaGreatDoor
open Go.RowKit
set_option linter.unusedVariables false
theorem addr0 (g k : Nat) : (⟨g, 0, none⟩ : Addr).add k = ⟨g, k, none⟩ := by
  unfold Addr.add; split <;> simp_all
theorem lt_of_heap {w : World} {g : Nat} {o : Obj} (h : w.heap[g]? = some o) : g < w.heap.size := by
  rcases Nat.lt_or_ge g w.heap.size with h' | h'
  · exact h'
  · rw [Array.getElem?_eq_none h'] at h; cases h
theorem ownsRow_below {w w' : World} {base : Nat} {e : TypeId} {size : Nat} {v : Value} {n : Nat} {xs : List Value} (h : w.ownsRow base e size v n xs) (hb : ∀ g, v.ownBlock = some g → w'.heap[g]? = w.heap[g]?) : w'.ownsRow base e size v n xs := by
  rcases h.2 with ⟨rfl, hn⟩ | ⟨g, cap, cur, rfl, hb', hh, h3⟩
  · exact ⟨h.1, .inl ⟨rfl, hn⟩⟩
  · exact ⟨h.1, .inr ⟨g, cap, cur, rfl, hb', (hb g rfl).trans hh, h3⟩⟩
theorem below_drewN {B : Nat} {a w : World} (h : Below B a w) (n : Nat) : Below B a (w.drewN n) := ⟨h.os, h.tape, h.output, h.size, h.block⟩
theorem grown_below {B : Nat} {e : TypeId} {size n : Nat} {v : Value} {xs : List Value} {w0 w w' : World} (hb : Below B w0 w) (hB : B ≤ w.heap.size) (ho : w.ownsRow B e size v n xs) (hg : w.grownBy w' v.ownBlock) : Below B w0 w' :=
  hb.grown hg hB (fun k hk => (ho.lt k hk).1)
theorem grown_of_alloc {u w' : World} {o : Obj} {row : Option Nat} (hg : (u.alloc o).grownBy w' row) : u.grownBy w' row :=
  ⟨hg.os, hg.tape, hg.output, Nat.le_trans (by simp) hg.size, fun k hk hne => (hg.block k (by simp; omega) hne).trans (Below.heap_alloc u o k hk)⟩
theorem wpList_append_litH {P : Program} {u : World} {ops : Array Oper} {rest : List Oper} {o : Oper} {a : Act} {Q : Exit → Act → World → Prop} (hgd : o.guard = none) (s x : Operand) (t : TypeId)
    (ho : o.op = .call { callee := .builtin .append, args := #[s, x], argTypes := #[t, t] })
    (base : Nat) (e : TypeId) (z : Value) (size bytes : Nat) (ht : P.underlying t = some (.slice e)) (hinfo : (P.info? e).map (fun i => (i.zero, i.size, i.bytes)) = some (some z, size, bytes))
    (hzs : z.cells.size = size) (hsz : 0 < size)
    (v : Value) (n : Nat) (xs : List Value) (hs : a.eval s = v) (hown : u.ownsRow base e size v n xs)
    (m c H : Nat) (hH : u.heap.size = H) (news : List Value) (hx : a.eval x = .slice (some ⟨H, 0, none⟩) m c) (hl : news.length = m * size) (h1 : ∀ u ∈ news, u.oneCell' = true)
    (h63 : n + m ≤ maxLen) (hbytes : (n + m) * bytes ≤ 140737488355328) (hbase : base ≤ u.heap.size)
    (h : ∀ v' w', w'.ownsRow base e size v' (n + m) (xs ++ news) → u.grownBy w' v.ownBlock → (v'.ownBlock = v.ownBlock ∨ ∃ g, v'.ownBlock = some g ∧ u.heap.size ≤ g) → wpList P ops Q rest (a.put o.dst v') w') :
    wpList P ops Q (o :: rest) a (u.alloc (.cells news.toArray e)) := by
  subst hH
  refine wpList_plain hgd fun K hK => ?_
  obtain ⟨i, hi, hz, hsize, hby⟩ := info_parts hinfo
  obtain ⟨v', w', hr, h2, h3, _, h5⟩ := run_append_own_at (P := P) (u.alloc (.cells news.toArray e)) base t o.type e i z size bytes ht hi hz hsize hby hzs hsz v n xs (hown.alloc _) ⟨u.heap.size, 0, none⟩ m c news hl
    (fun j w hw => by rw [addr0, World.cell?_alloc_new]; simpa using hw) h1 h63 hbytes (by simp; omega)
  unfold Oper.wp execOp
  simp only [ho, resolve, invoke, builtin, Sem.run_bind, Sem.run_pure, Result.andThen_ok, List.map_toArray, List.map_cons, List.map_nil, hs, hx, hr]
  exact hK _ _ (h v' w' h2 (grown_of_alloc h3) (h5.imp_right fun h => ⟨_, h, by simp⟩))
theorem wpList_append_lit {P : Program} {u : World} {ops : Array Oper} {rest : List Oper} {o : Oper} {a : Act} {Q : Exit → Act → World → Prop} (hgd : o.guard = none) (s x : Operand) (t : TypeId)
    (ho : o.op = .call { callee := .builtin .append, args := #[s, x], argTypes := #[t, t] })
    (base : Nat) (e : TypeId) (z : Value) (size bytes : Nat) (ht : P.underlying t = some (.slice e)) (hinfo : (P.info? e).map (fun i => (i.zero, i.size, i.bytes)) = some (some z, size, bytes))
    (hzs : z.cells.size = size) (hsz : 0 < size)
    (v : Value) (n : Nat) (xs : List Value) (hs : a.eval s = v) (hown : u.ownsRow base e size v n xs)
    (m c : Nat) (news : List Value) (hx : a.eval x = .slice (some ⟨u.heap.size, 0, none⟩) m c) (hl : news.length = m * size) (h1 : ∀ u ∈ news, u.oneCell' = true)
    (h63 : n + m ≤ maxLen) (hbytes : (n + m) * bytes ≤ 140737488355328) (hbase : base ≤ u.heap.size)
    (h : ∀ v' w', w'.ownsRow base e size v' (n + m) (xs ++ news) → u.grownBy w' v.ownBlock → (v'.ownBlock = v.ownBlock ∨ ∃ g, v'.ownBlock = some g ∧ u.heap.size ≤ g) → wpList P ops Q rest (a.put o.dst v') w') :
    wpList P ops Q (o :: rest) a (u.alloc (.cells news.toArray e)) :=
  wpList_append_litH hgd s x t ho base e z size bytes ht hinfo hzs hsz v n xs hs hown m c _ rfl news hx hl h1 h63 hbytes hbase h
theorem heap_set {w : World} {b : Nat} {cs : Array Value} {t : TypeId} {fr : Nat × Nat} (h : w.heap[b]? = some (.cells cs t fr)) (i : Nat) (v : Value) : (w.setCell ⟨b, i, none⟩ v).heap[b]? = some (.cells (cs.setIfInBounds i v) t fr) := by
  simp [World.setCell, Array.getElem?_modify, h]
theorem cell_of {w : World} {b : Nat} {cs : Array Value} {t : TypeId} {fr : Nat × Nat} (h : w.heap[b]? = some (.cells cs t fr)) (i : Nat) (v : Value) (hv : cs[i]? = some v) : w.cell? ⟨b, i, none⟩ = some v := by
  rw [Lib.cell_of_heap h]; exact hv
theorem own_slice {w : World} {base : Nat} {e : TypeId} {size : Nat} {v : Value} {n : Nat} {xs : List Value} (h : w.ownsRow base e size v n xs) : ∃ A c, v = .slice A n c := by
  rcases h.2 with ⟨h, h0⟩ | ⟨g, cap, cur, h, _⟩
  · exact ⟨none, 0, by rw [h, h0]⟩
  · exact ⟨_, _, h⟩
def RowAt (w : World) (F : Nat → Prop) (A : Option Addr) (xs : List Value) : Prop :=
  0 < xs.length → ∃ b off, A = some ⟨b, off, none⟩ ∧ F b ∧ ∀ j u, xs[j]? = some u → w.cell? ⟨b, off + j, none⟩ = some u
theorem RowAt.keep {w w' : World} {F F' : Nat → Prop} {A : Option Addr} {xs : List Value} (h : RowAt w F A xs) (hF : ∀ b, F b → F' b) (hw : ∀ b, F b → w'.heap[b]? = w.heap[b]?) : RowAt w' F' A xs := by
  intro hp
  obtain ⟨b, off, rfl, hb, hc⟩ := h hp
  exact ⟨b, off, rfl, hF _ hb, fun j u hu => (World.cell?_of_block (w := w) (w' := w') (a := ⟨b, _, none⟩) (hw b hb)).trans (hc j u hu)⟩
theorem run_append_src {P : Program} {w : World} (base : Nat) (t ty e : TypeId) (z : Value) (size bytes : Nat) (ht : P.underlying t = some (.slice e)) (hinfo : (P.info? e).map (fun i => (i.zero, i.size, i.bytes)) = some (some z, size, bytes))
    (hzs : z.cells.size = size) (hsz : 0 < size) (v : Value) (n : Nat) (xs : List Value) (hown : w.ownsRow base e size v n xs)
    (F : Nat → Prop) (A : Option Addr) (m c : Nat) (news : List Value) (hr : RowAt w F A news) (hl : news.length = m * size) (h1 : ∀ u ∈ news, u.oneCell' = true)
    (h63 : n + m ≤ maxLen) (hbytes : (n + m) * bytes ≤ 140737488355328) (hbase : base ≤ w.heap.size) :
    ∃ v' w', (Builtin.append_ #[t, t] ty #[v, .slice A m c]).run P w = .ok v' w' ∧ w'.ownsRow base e size v' (n + m) (xs ++ news) ∧ w.grownBy w' v.ownBlock ∧
      (v'.ownBlock = v.ownBlock ∨ ∃ g, v'.ownBlock = some g ∧ w.heap.size ≤ g) := by
  obtain ⟨i, hi, hz, hsize, hby⟩ := info_parts hinfo
  rcases A with _ | ad
  · have hm : m = 0 := by
      rcases Nat.eq_zero_or_pos m with h0 | h0
      · exact h0
      · obtain ⟨_, _, h, _⟩ := hr (by rw [hl]; exact Nat.mul_pos h0 hsz)
        cases h
    subst hm
    have hn : news = [] := List.eq_nil_of_length_eq_zero (by simpa using hl)
    subst hn
    refine ⟨v, w, ?_, by simpa using hown, World.grownBy.refl w _, .inl rfl⟩
    rcases hown.2 with ⟨rfl, rfl⟩ | ⟨g, cap, cur, rfl, _, _, hnc, _⟩
    · simp [Builtin.append_, run_underlying ht, sizeOf, typeInfo, hi, Builtin.lenOf, Builtin.firstCells]
    · simp [Builtin.append_, run_underlying ht, sizeOf, typeInfo, hi, Builtin.lenOf, Builtin.firstCells, hnc, storeCells]
  · have hcells : ∀ j u, news[j]? = some u → w.cell? (ad.add j) = some u := by
      intro j u hu
      have hj : j < news.length := (List.getElem?_eq_some_iff.1 hu).1
      obtain ⟨b, off, h, _, hc⟩ := hr (by omega)
      injection h with h
      subst h
      have : (⟨b, off, none⟩ : Addr).add j = ⟨b, off + j, none⟩ := by unfold Addr.add; split <;> simp_all
      rw [this]
      exact hc j u hu
    obtain ⟨v', w', hrun, h2, h3, _, h5⟩ := run_append_own_at (P := P) w base t ty e i z size bytes ht hi hz hsize hby hzs hsz v n xs hown ad m c news hl hcells h1 h63 hbytes hbase
    exact ⟨v', w', hrun, h2, h3, h5.imp_right fun h => ⟨_, h, Nat.le_refl _⟩⟩
theorem wpList_append_src {P : Program} {w : World} {ops : Array Oper} {rest : List Oper} {o : Oper} {a : Act} {Q : Exit → Act → World → Prop} (hgd : o.guard = none) (s x : Operand) (t : TypeId)
    (ho : o.op = .call { callee := .builtin .append, args := #[s, x], argTypes := #[t, t] })
    (base : Nat) (e : TypeId) (z : Value) (size bytes : Nat) (ht : P.underlying t = some (.slice e)) (hinfo : (P.info? e).map (fun i => (i.zero, i.size, i.bytes)) = some (some z, size, bytes))
    (hzs : z.cells.size = size) (hsz : 0 < size) (v : Value) (n : Nat) (xs : List Value) (hs : a.eval s = v) (hown : w.ownsRow base e size v n xs)
    (F : Nat → Prop) (A : Option Addr) (m c : Nat) (news : List Value) (hx : a.eval x = .slice A m c) (hr : RowAt w F A news) (hl : news.length = m * size) (h1 : ∀ u ∈ news, u.oneCell' = true)
    (h63 : n + m ≤ maxLen) (hbytes : (n + m) * bytes ≤ 140737488355328) (hbase : base ≤ w.heap.size)
    (h : ∀ v' w', w'.ownsRow base e size v' (n + m) (xs ++ news) → w.grownBy w' v.ownBlock → (v'.ownBlock = v.ownBlock ∨ ∃ g, v'.ownBlock = some g ∧ w.heap.size ≤ g) → wpList P ops Q rest (a.put o.dst v') w') :
    wpList P ops Q (o :: rest) a w := by
  refine wpList_plain hgd fun K hK => ?_
  obtain ⟨v', w', hr', h2, h3, h4⟩ := run_append_src (P := P) base t o.type e z size bytes ht hinfo hzs hsz v n xs hown F A m c news hr hl h1 h63 hbytes hbase
  unfold Oper.wp execOp
  simp only [ho, resolve, invoke, builtin, Sem.run_bind, Sem.run_pure, Result.andThen_ok, List.map_toArray, List.map_cons, List.map_nil, hs, hx, hr']
  exact hK _ _ (h v' w' h2 h3 h4)
structure Dat (α : Type) where
  V : World → (Nat → Prop) → α → List Value → Prop
  k : Nat
  pos : 0 < k
  len : ∀ {w F x vs}, V w F x vs → vs.length = k
  keep : ∀ {w w' F F' x vs}, (∀ b, F b → F' b) → (∀ b, F b → w'.heap[b]? = w.heap[b]?) → V w F x vs → V w' F' x vs
  one : ∀ {w F x vs}, V w F x vs → ∀ u ∈ vs, u.oneCell' = true
def Dat.Row {α : Type} (D : Dat α) (w : World) (F : Nat → Prop) : List α → List Value → Prop
  | [], vs => vs = []
  | x :: r, vs => ∃ us ws, vs = us ++ ws ∧ D.V w F x us ∧ D.Row w F r ws
theorem Dat.Row.keep {α : Type} {D : Dat α} {w w' : World} {F F' : Nat → Prop} (hF : ∀ b, F b → F' b) (hw : ∀ b, F b → w'.heap[b]? = w.heap[b]?) : ∀ (xs : List α) (vs : List Value), D.Row w F xs vs → D.Row w' F' xs vs
  | [], vs, h => h
  | x :: r, vs, h => by
    obtain ⟨us, ws, e, h1, h2⟩ := h
    exact ⟨us, ws, e, D.keep hF hw h1, Dat.Row.keep hF hw r ws h2⟩
theorem Dat.Row.length {α : Type} {D : Dat α} {w : World} {F : Nat → Prop} : ∀ (xs : List α) (vs : List Value), D.Row w F xs vs → vs.length = xs.length * D.k
  | [], vs, h => by unfold Dat.Row at h; subst h; simp
  | x :: r, vs, h => by
    obtain ⟨us, ws, rfl, h1, h2⟩ := h
    rw [List.length_append, D.len h1, Dat.Row.length r ws h2, List.length_cons, Nat.add_mul]; omega
theorem Dat.Row.one {α : Type} {D : Dat α} {w : World} {F : Nat → Prop} : ∀ (xs : List α) (vs : List Value), D.Row w F xs vs → ∀ u ∈ vs, u.oneCell' = true
  | [], vs, h => by unfold Dat.Row at h; subst h; simp
  | x :: r, vs, h => by
    obtain ⟨us, ws, rfl, h1, h2⟩ := h
    intro u hu
    rcases List.mem_append.1 hu with hu | hu
    · exact D.one h1 u hu
    · exact Dat.Row.one r ws h2 u hu
theorem Dat.Row.append {α : Type} {D : Dat α} {w : World} {F : Nat → Prop} {ys : List α} {ws : List Value} (hy : D.Row w F ys ws) : ∀ (xs : List α) (vs : List Value), D.Row w F xs vs → D.Row w F (xs ++ ys) (vs ++ ws)
  | [], vs, h => by unfold Dat.Row at h; subst h; simpa using hy
  | x :: r, vs, h => by
    obtain ⟨us, zs, rfl, h1, h2⟩ := h
    exact ⟨us, zs ++ ws, by simp, h1, Dat.Row.append hy r zs h2⟩
theorem Dat.Row.single {α : Type} {D : Dat α} {w : World} {F : Nat → Prop} {x : α} {us : List Value} (h : D.V w F x us) : D.Row w F [x] us := ⟨us, [], by simp, h, rfl⟩
theorem Dat.Row.get {α : Type} {D : Dat α} {w : World} {F : Nat → Prop} : ∀ (xs : List α) (vs : List Value) (i : Nat) (x : α), D.Row w F xs vs → xs[i]? = some x → ∃ us, D.V w F x us ∧ ∀ j u, us[j]? = some u → vs[i * D.k + j]? = some u
  | [], _, _, _, _, h => by simp at h
  | y :: r, vs, 0, x, h, hi => by
    simp at hi; subst hi
    obtain ⟨us, zs, rfl, h1, h2⟩ := h
    refine ⟨us, h1, fun j u hu => ?_⟩
    rw [Nat.zero_mul, Nat.zero_add, List.getElem?_append_left (List.getElem?_eq_some_iff.1 hu).1]; exact hu
  | y :: r, vs, i + 1, x, h, hi => by
    obtain ⟨us, zs, rfl, h1, h2⟩ := h
    obtain ⟨ws, h3, h4⟩ := Dat.Row.get r zs i x h2 (by simpa using hi)
    refine ⟨ws, h3, fun j u hu => ?_⟩
    have hl := D.len h1
    rw [List.getElem?_append_right (by rw [hl, Nat.add_mul]; omega), hl, show (i + 1) * D.k + j - D.k = i * D.k + j by rw [Nat.add_mul]; omega]
    exact h4 j u hu
def Dat.At {α : Type} (D : Dat α) (w : World) (F : Nat → Prop) (A : Option Addr) (xs : List α) : Prop := ∃ vs, D.Row w F xs vs ∧ RowAt w F A vs
theorem Dat.At.keep {α : Type} {D : Dat α} {w w' : World} {F F' : Nat → Prop} {A : Option Addr} {xs : List α} (h : D.At w F A xs) (hF : ∀ b, F b → F' b) (hw : ∀ b, F b → w'.heap[b]? = w.heap[b]?) : D.At w' F' A xs := by
  obtain ⟨vs, h1, h2⟩ := h
  exact ⟨vs, h1.keep hF hw, h2.keep hF hw⟩
theorem Dat.At.nil {α : Type} {D : Dat α} {w : World} {F : Nat → Prop} {A : Option Addr} : D.At w F A [] := ⟨[], rfl, fun h => absurd h (by simp)⟩
theorem Dat.At.get {α : Type} {D : Dat α} {w : World} {F : Nat → Prop} {A : Option Addr} {xs : List α} (h : D.At w F A xs) (i : Nat) (x : α) (hi : xs[i]? = some x) : ∃ b off us, A = some ⟨b, off, none⟩ ∧ F b ∧ D.V w F x us ∧ ∀ j u, us[j]? = some u → w.cell? ⟨b, off + i * D.k + j, none⟩ = some u := by
  obtain ⟨vs, h1, h2⟩ := h
  obtain ⟨us, h3, h4⟩ := Dat.Row.get xs vs i x h1 hi
  have hp : 0 < vs.length := by
    rw [h1.length]
    have := (List.getElem?_eq_some_iff.1 hi).1
    exact Nat.mul_pos (by omega) D.pos
  obtain ⟨b, off, rfl, hb, hc⟩ := h2 hp
  refine ⟨b, off, us, rfl, hb, h3, fun j u hu => ?_⟩
  rw [Nat.add_assoc]
  exact hc _ u (h4 j u hu)
def Dat.Own {α : Type} (D : Dat α) (w : World) (base : Nat) (e : TypeId) (F : Nat → Prop) (v : Value) (xs : List α) (vs : List Value) : Prop := w.ownsRow base e D.k v xs.length vs ∧ D.Row w F xs vs
theorem Dat.Own.nil {α : Type} {D : Dat α} {w : World} {base : Nat} {e : TypeId} {F : Nat → Prop} : D.Own w base e F (.slice none 0 0) [] [] := ⟨World.ownsRow_nil _ _ _ _, rfl⟩
theorem Dat.Own.keep {α : Type} {D : Dat α} {w w' : World} {base : Nat} {e : TypeId} {F F' : Nat → Prop} {v : Value} {xs : List α} {vs : List Value} (h : D.Own w base e F v xs vs) (hF : ∀ b, F b → F' b) (hw : ∀ b, F b → w'.heap[b]? = w.heap[b]?) (hv : ∀ g, v.ownBlock = some g → w'.heap[g]? = w.heap[g]?) : D.Own w' base e F' v xs vs :=
  ⟨ownsRow_below h.1 hv, h.2.keep hF hw⟩
theorem Dat.Own.at {α : Type} {D : Dat α} {w : World} {base : Nat} {e : TypeId} {F F' : Nat → Prop} {v : Value} {xs : List α} {vs : List Value} (h : D.Own w base e F v xs vs) (hF : ∀ b, F b → F' b) (hv : ∀ b, v.ownBlock = some b → F' b) : ∃ A c, v = .slice A xs.length c ∧ D.At w F' A xs ∧ xs.length ≤ c := by
  rcases h.1.2 with ⟨rfl, hn⟩ | ⟨g, cap, cur, rfl, hb, hh, h3, h4, h5, h6⟩
  · refine ⟨none, 0, by rw [hn], ⟨vs, h.2.keep hF (fun _ _ => rfl), fun hp => ?_⟩, by omega⟩
    rw [h.1.1, hn, Nat.zero_mul] at hp; omega
  · refine ⟨some ⟨g, 0, none⟩, cap, rfl, ⟨vs, h.2.keep hF (fun _ _ => rfl), fun _ => ⟨g, 0, rfl, hv g rfl, fun j u hu => ?_⟩⟩, h3⟩
    have := h.1.cells (g := g) rfl j u hu
    rw [addr0] at this
    rw [Nat.zero_add]
    exact this
def flatD {α : Type} (enc : α → List Value) (k : Nat) (hp : 0 < k) (hk : ∀ x, (enc x).length = k) (h1 : ∀ x, ∀ v ∈ enc x, v.oneCell' = true) : Dat α :=
  ⟨fun _ _ x vs => vs = enc x, k, hp, fun h => by rw [h]; exact hk _, fun _ _ h => h, fun h => by rw [h]; exact h1 _⟩
theorem flatD_row {α : Type} {enc : α → List Value} {k : Nat} {hp : 0 < k} {hk : ∀ x, (enc x).length = k} {h1 : ∀ x, ∀ v ∈ enc x, v.oneCell' = true} {w : World} {F : Nat → Prop} : ∀ (xs : List α) (vs : List Value), (flatD enc k hp hk h1).Row w F xs vs → vs = xs.flatMap enc
  | [], vs, h => h
  | x :: r, vs, h => by
    obtain ⟨us, ws, rfl, h1, h2⟩ := h
    have e : us = enc x := h1
    rw [e, flatD_row r ws h2]; simp
theorem flatD_of {α : Type} {enc : α → List Value} {k : Nat} {hp : 0 < k} {hk : ∀ x, (enc x).length = k} {h1 : ∀ x, ∀ v ∈ enc x, v.oneCell' = true} {w : World} {F : Nat → Prop} : ∀ (xs : List α), (flatD enc k hp hk h1).Row w F xs (xs.flatMap enc)
  | [] => rfl
  | x :: r => ⟨enc x, r.flatMap enc, by simp, rfl, flatD_of r⟩
end Go.Proofs.YtpibenilagloaaaGreatDoor
