import Derived.Test.YtpibenilagloaaaGreatDoorProg
import Derived.Lib.AtoiAll
import Derived.Test.YtpibenilagloaaaGreatDoorMxab
/-
  The parser as plain data: a small language of parser programs and its interpreter.
-/
namespace Go.Proofs.YtpibenilagloaaaGreatDoor

/-- a token -/
structure Tok where
  k : Int
  t : ByteArray
instance : Inhabited Tok := ⟨⟨0, .empty⟩⟩
/-- a lossless syntax tree -/
inductive Tree where
  | mk (k : Int) (t : ByteArray) (ch : List Tree)
instance : Inhabited Tree := ⟨.mk 0 .empty []⟩
def Tree.k : Tree → Int | .mk k _ _ => k
def Tree.t : Tree → ByteArray | .mk _ t _ => t
def Tree.ch : Tree → List Tree | .mk _ _ c => c
/-- a token's leaf -/
def Tok.leaf (x : Tok) : Tree := .mk x.k x.t []

def kUse : ByteArray := ⟨#[117, 115, 101]⟩
def kPub : ByteArray := ⟨#[112, 117, 98]⟩
def kAs : ByteArray := ⟨#[97, 115]⟩
def kFn : ByteArray := ⟨#[102, 110]⟩
def kStruct : ByteArray := ⟨#[115, 116, 114, 117, 99, 116]⟩
def kEnum : ByteArray := ⟨#[101, 110, 117, 109]⟩
def kTrait : ByteArray := ⟨#[116, 114, 97, 105, 116]⟩
def kImpl : ByteArray := ⟨#[105, 109, 112, 108]⟩
def kFor : ByteArray := ⟨#[102, 111, 114]⟩
def kConst : ByteArray := ⟨#[99, 111, 110, 115, 116]⟩
def kMacro : ByteArray := ⟨#[109, 97, 99, 114, 111]⟩
def kLet : ByteArray := ⟨#[108, 101, 116]⟩
def kMut : ByteArray := ⟨#[109, 117, 116]⟩
def kWhile : ByteArray := ⟨#[119, 104, 105, 108, 101]⟩
def kReturn : ByteArray := ⟨#[114, 101, 116, 117, 114, 110]⟩
def kMatch : ByteArray := ⟨#[109, 97, 116, 99, 104]⟩
def kIf : ByteArray := ⟨#[105, 102]⟩
def kElse : ByteArray := ⟨#[101, 108, 115, 101]⟩
def kNew : ByteArray := ⟨#[110, 101, 119]⟩
def kTrue : ByteArray := ⟨#[116, 114, 117, 101]⟩
def kFalse : ByteArray := ⟨#[102, 97, 108, 115, 101]⟩
def kType : ByteArray := ⟨#[116, 121, 112, 101]⟩
def pCC : ByteArray := ⟨#[58, 58]⟩
def pFat : ByteArray := ⟨#[61, 62]⟩
def pArr : ByteArray := ⟨#[45, 62]⟩
def pEqEq : ByteArray := ⟨#[61, 61]⟩
def pAnd2 : ByteArray := ⟨#[38, 38]⟩
def pOr2 : ByteArray := ⟨#[124, 124]⟩
def pLp : ByteArray := ⟨#[40]⟩
def pRp : ByteArray := ⟨#[41]⟩
def pLb : ByteArray := ⟨#[123]⟩
def pRb : ByteArray := ⟨#[125]⟩
def pLt : ByteArray := ⟨#[60]⟩
def pGt : ByteArray := ⟨#[62]⟩
def pComma : ByteArray := ⟨#[44]⟩
def pSemi : ByteArray := ⟨#[59]⟩
def pColon : ByteArray := ⟨#[58]⟩
def pDot : ByteArray := ⟨#[46]⟩
def pEq : ByteArray := ⟨#[61]⟩
def pPlus : ByteArray := ⟨#[43]⟩
def pMinus : ByteArray := ⟨#[45]⟩
def pStar : ByteArray := ⟨#[42]⟩
def pSlash : ByteArray := ⟨#[47]⟩
def pBang : ByteArray := ⟨#[33]⟩
def pAmp : ByteArray := ⟨#[38]⟩
def pBar : ByteArray := ⟨#[124]⟩
def pUnd : ByteArray := ⟨#[95]⟩

def isTriv (x : Tok) : Bool := x.k == 101 || x.k == 102
/-- the tokens from the next significant one on -/
def sig : List Tok → List Tok
  | [] => []
  | x :: r => if isTriv x then sig r else x :: r
/-- the next significant token -/
def peekT (r : List Tok) : Tok := match sig r with
  | [] => ⟨100, .empty⟩
  | x :: _ => x
/-- the tokens after the next significant one -/
def after (r : List Tok) : List Tok := (sig r).drop 1
/-- the tokens up to the next significant one, this one with them -/
def taken (r : List Tok) : List Tok := r.take (r.length - (after r).length)
/-- the white space and comments ahead of the next significant token -/
def trivs (r : List Tok) : List Tok := r.take (r.length - (sig r).length)

/-- what the parser asks -/
inductive Test where
  | at (texts : List ByteArray)
  | kind (k : Int)
  | text (t : ByteArray)
  | ahead (n : Nat) (t : Test)
  | flag
  | not (a : Test)
  | and (a b : Test)
  | or (a b : Test)
def skipN : Nat → List Tok → List Tok
  | 0, r => r
  | n + 1, r => skipN n (after r)
def atB (texts : List ByteArray) (r : List Tok) : Bool := ((peekT r).k == 104 || (peekT r).k == 107) && texts.any fun t => decide (t = (peekT r).t)
def Test.eval : Test → Bool → List Tok → Bool
  | .at texts, _, r => atB texts r
  | .kind k, _, r => (peekT r).k == k
  | .text t, _, r => decide ((peekT r).t = t)
  | .ahead n t, f, r => t.eval f (skipN n r)
  | .flag, f, _ => f
  | .not a, f, r => !a.eval f r
  | .and a b, f, r => a.eval f r && b.eval f r
  | .or a b, f, r => a.eval f r || b.eval f r

inductive Fn where
  | typeExpr | path (inType : Bool) | typeParams | typeParam | params (closing : ByteArray) | pattern | block | statement | letS | returnS | expr | binary (level : Nat) | unary | arguments | postfixS | primary | ifExpr | matchS | structLit | lambda
  | item | skipToItem | itemBody (k : Int) | useS | function (needsBody : Bool) | dataType (k : Int) | members | implS

inductive Cmd where
  | skip | bump | trivia
  | leaf (k : Int)
  | node (k : Int) (c : Cmd)
  | wrap (k : Int) (c : Cmd)
  | seq (c d : Cmd)
  | ite (t : Test) (c d : Cmd)
  | loop (t : Test) (c : Cmd)
  | moved (c d e : Cmd)
  | dropLast | insNone
  | setFlag (b : Bool)
  | call (f : Fn)

namespace Cmd
def expect (t : ByteArray) : Cmd := ite (.at [t]) bump (leaf 108)
def accept (ts : List ByteArray) : Cmd := ite (.at ts) bump skip
def expectIdent : Cmd := ite (.kind 103) bump (leaf 108)
def optional (t : ByteArray) (c : Cmd) : Cmd := ite (.at [t]) (seq bump c) (leaf 0)
def unexpected : Cmd := node 46 bump
def eof : Test := .kind 100
def ident : Test := .kind 103
def items : List ByteArray := [kUse, kPub, kFn, kStruct, kEnum, kTrait, kImpl, kConst, kMacro]
def atItem : Test := .and (.at items) (.not (.at [kFn]))
def list (closing : ByteArray) (c : Cmd) : Cmd :=
  seq (loop (.and (.not (.at [closing])) (.and (.not eof) (.not atItem))) (moved c unexpected (ite (.not (.at [closing])) (expect pComma) skip))) (expect closing)
end Cmd

def opsOf : Nat → List ByteArray
  | 0 => [pOr2]
  | 1 => [pAnd2]
  | 2 => [pEqEq, pLt]
  | 3 => [pPlus, pMinus]
  | _ => [pStar, pSlash]
open Cmd in
def itemOf (n : Nat) : Cmd :=
  let kw (s : ByteArray) : Test := .ahead n (.and (.kind 104) (.text s))
  let it (k : Int) : Cmd := node k (seq (accept [kPub]) (seq bump (call (.itemBody k))))
  ite (kw kUse) (it 2) (ite (kw kFn) (it 3) (ite (kw kStruct) (it 4) (ite (kw kEnum) (it 5) (ite (kw kTrait) (it 6) (ite (kw kImpl) (it 7) (ite (kw kConst) (it 8) (ite (kw kMacro) (it 9) (call .skipToItem))))))))
open Cmd in
def segment (b : Bool) : Cmd := node 18 (seq expectIdent (if b then ite (.at [pLt]) (seq bump (list pGt (call .typeExpr))) skip else skip))
open Cmd in
def stmtTail (c : Cmd) (bl : Bool) : Cmd :=
  moved c (seq dropLast (seq unexpected (setFlag false)))
    (ite (.at [pRb]) (setFlag true)
      (ite (.at [pEq]) (seq (wrap 23 (seq bump (seq (call .expr) (expect pSemi)))) (setFlag false))
        (seq (wrap 26 (ite (.at [pSemi]) bump (if bl then skip else leaf 108))) (setFlag false))))
open Cmd in
/-- the parser's functions -/
def body : Fn → Cmd
  | .typeExpr => ite (.at [pAmp]) (node 19 (seq bump (seq (accept [kMut]) (call .typeExpr))))
      (ite (.at [kFn]) (node 20 (seq bump (seq (expect pLp) (seq (list pRp (call .typeExpr)) (optional pArr (call .typeExpr))))))
        (ite ident (call (.path true)) (leaf 46)))
  | .path b => node 17 (seq (segment b) (loop (.at [pCC]) (seq bump (segment b))))
  | .typeParams => node 10 (ite (.at [pLt]) (seq bump (list pGt (call .typeParam))) skip)
  | .typeParam => ite ident (node 11 (seq bump (ite (.at [pColon]) (seq bump (seq (call (.path true)) (loop (.at [pPlus]) (seq bump (call (.path true)))))) skip))) skip
  | .params closing => node 12 (list closing (ite ident (node 13 (seq bump (optional pColon (call .typeExpr)))) skip))
  | .pattern => ite (.at [kMut]) (node 44 (seq bump expectIdent))
      (ite (.and ident (.text pUnd)) (node 43 bump)
        (ite (.and ident (.not (.ahead 1 (.at [pLp, pCC])))) (node 44 bump)
          (ite ident (node 45 (seq (call (.path false)) (ite (.at [pLp]) (seq bump (list pRp (call .pattern))) skip)))
            (ite (.kind 105) (node 27 bump)
              (ite (.at [kTrue, kFalse]) (node 28 bump) (leaf 46))))))
  | .block => node 21 (seq (expect pLb) (seq (setFlag false) (seq (loop (.and (.not .flag) (.and (.not (.at [pRb])) (.and (.not eof) (.not (.at items))))) (call .statement)) (seq (ite .flag skip (leaf 0)) (expect pRb)))))
  | .statement => ite (.at [kLet]) (seq (node 22 (call .letS)) (setFlag false))
      (ite (.at [kWhile]) (seq (node 24 (seq bump (seq (call .expr) (call .block)))) (setFlag false))
        (ite (.at [kReturn]) (seq (node 25 (call .returnS)) (setFlag false))
          (ite (.at [kIf, kMatch, pLb]) (stmtTail (call .primary) true) (stmtTail (call .expr) false))))
  | .letS => seq bump (seq (call .pattern) (seq (optional pColon (call .typeExpr)) (seq (expect pEq) (seq (call .expr) (expect pSemi)))))
  | .returnS => seq bump (seq (ite (.at [pSemi]) (leaf 0) (call .expr)) (expect pSemi))
  | .expr => call (.binary 0)
  | .binary l => if l = 5 then call .unary else
      seq (call (.binary (l + 1))) (if l = 2 then ite (.at (opsOf l)) (wrap 39 (seq bump (call (.binary (l + 1))))) skip else loop (.at (opsOf l)) (wrap 39 (seq bump (call (.binary (l + 1))))))
  | .unary => ite (.at [pMinus, pBang, pStar]) (node 40 (seq bump (call .unary)))
      (ite (.at [pAmp]) (node 41 (seq bump (seq (accept [kMut]) (call .unary)))) (seq (call .primary) (call .postfixS)))
  | .arguments => seq bump (list pRp (call .expr))
  | .postfixS => loop (.at [pLp, pDot]) (ite (.at [pLp]) (wrap 30 (call .arguments))
      (ite (.and (.ahead 1 ident) (.ahead 2 (.at [pLp]))) (wrap 31 (seq bump (seq bump (call .arguments)))) (wrap 32 (seq bump expectIdent))))
  | .primary => ite (.kind 105) (node 27 bump) (ite (.kind 106) (node 29 bump) (ite (.at [kTrue, kFalse]) (node 28 bump)
      (ite ident (seq (call (.path false)) (ite (.and (.at [pBang]) (.ahead 1 (.at [pLp]))) (wrap 42 (seq bump (call .arguments))) skip))
        (ite (.at [pLp]) (node 60 (seq bump (seq (call .expr) (expect pRp))))
          (ite (.at [pLb]) (call .block) (ite (.at [kIf]) (call .ifExpr) (ite (.at [kMatch]) (node 35 (call .matchS)) (ite (.at [kNew]) (node 33 (call .structLit)) (ite (.at [pBar, pOr2]) (node 38 (call .lambda)) (leaf 46))))))))))
  | .ifExpr => node 37 (seq bump (seq (call .expr) (seq (call .block) (optional kElse (ite (.at [kIf]) (call .ifExpr) (call .block))))))
  | .matchS => seq bump (seq (call .expr) (seq (expect pLb) (list pRb (ite (.or ident (.or (.kind 105) (.at [kTrue, kFalse, kMut]))) (node 36 (seq (call .pattern) (seq (expect pFat) (call .expr)))) skip))))
  | .structLit => seq bump (seq (call (.path false)) (seq (expect pLb) (list pRb (ite ident (node 34 (seq bump (seq (expect pColon) (call .expr)))) skip))))
  | .lambda => seq (ite (.at [pOr2]) (seq bump (node 12 skip)) (seq bump (call (.params pBar)))) (call .expr)
  | .item => ite (.at [kPub]) (itemOf 1) (itemOf 0)
  | .skipToItem => node 46 (seq bump (loop (.and (.not eof) (.not (.at items))) bump))
  | .itemBody k => if k = 2 then call .useS else if k = 3 then call (.function true) else if k = 4 ∨ k = 5 then call (.dataType k) else if k = 6 then seq expectIdent (call .members) else if k = 7 then call .implS
      else if k = 8 then seq expectIdent (seq (expect pColon) (seq (call .typeExpr) (seq (expect pEq) (seq (call .expr) (expect pSemi)))))
      else seq expectIdent (seq (expect pLp) (seq (call (.params pRp)) (seq (expect pEq) (seq (call .expr) (expect pSemi)))))
  | .useS => seq (setFlag false) (seq (node 17 (seq (segment false) (loop (.and (.at [pCC]) (.not .flag)) (ite (.ahead 1 (.at [pStar])) (setFlag true) (seq (setFlag false) (seq bump (segment false)))))))
      (seq (ite .flag (seq bump bump) (ite (.at [kAs]) (seq bump expectIdent) skip)) (expect pSemi)))
  | .function nb => seq expectIdent (seq (call .typeParams) (seq (expect pLp) (seq (call (.params pRp)) (seq (optional pArr (call .typeExpr)) (if nb then call .block else ite (.at [pSemi]) (seq bump (leaf 0)) (call .block))))))
  | .dataType k => seq expectIdent (seq (call .typeParams) (seq (expect pLb) (list pRb (ite ident (if k = 4 then node 14 (seq bump (seq (expect pColon) (call .typeExpr))) else node 15 (seq bump (ite (.at [pLp]) (seq bump (list pRp (call .typeExpr))) skip))) skip))))
  | .members => seq (expect pLb) (seq (loop (.at [kType, kFn]) (ite (.at [kFn]) (node 3 (seq bump (call (.function false)))) (node 16 (seq bump (seq expectIdent (seq (optional pEq (call .typeExpr)) (expect pSemi))))))) (expect pRb))
  | .implS => seq (call .typeParams) (seq (call .typeExpr) (seq (ite (.at [kFor]) (seq bump (call .typeExpr)) insNone) (call .members)))

/-- the parser's state: the tokens to come, the children of the innermost unfinished node, the flag of the running function, the nodes that may still be made -/
structure PS where
  rest : List Tok
  ch : List Tree
  flag : Bool
  gas : Nat
def PS.add (s : PS) (ts : List Tree) : Option PS := if ts.length < s.gas then some { s with ch := s.ch ++ ts, gas := s.gas - ts.length } else none
/-- the interpreter -/
def run : Nat → Cmd → PS → Option PS
  | 0, _, _ => none
  | n + 1, c, s => match c with
    | .skip => some s
    | .bump => (s.add ((taken s.rest).map Tok.leaf)).map fun u => { u with rest := after s.rest }
    | .trivia => (s.add ((trivs s.rest).map Tok.leaf)).map fun u => { u with rest := sig s.rest }
    | .leaf k => s.add [.mk k .empty []]
    | .node k c => if 1 < s.gas then (run n c { s with ch := [], gas := s.gas - 1 }).map fun u => { u with ch := s.ch ++ [.mk k .empty u.ch] } else none
    | .wrap k c => match s.ch.getLast? with
      | none => none
      | some x => if 1 < s.gas then (run n c { s with ch := [x], gas := s.gas - 1 }).map fun u => { u with ch := s.ch.dropLast ++ [.mk k .empty u.ch] } else none
    | .seq c d => (run n c s).bind fun u => run n d u
    | .ite t c d => if t.eval s.flag s.rest then run n c s else run n d s
    | .loop t c => if t.eval s.flag s.rest then (run n c s).bind fun u => run n (.loop t c) u else some s
    | .moved c d e => (run n c s).bind fun u => if u.rest.length = s.rest.length then run n d u else run n e u
    | .dropLast => match s.ch with
      | [] => none
      | _ :: _ => some { s with ch := s.ch.dropLast }
    | .insNone => match s.ch.getLast? with
      | none => none
      | some x => if 1 < s.gas then some { s with ch := s.ch.dropLast ++ [.mk 0 .empty [], x], gas := s.gas - 1 } else none
    | .setFlag b => some { s with flag := b }
    | .call f => run n (body f) s
/-- the whole file -/
def fileC : Cmd := .seq (.loop (.not Cmd.eof) (.call .item)) .trivia
end Go.Proofs.YtpibenilagloaaaGreatDoor

/-
  The lexer as plain data.
-/
namespace Go.Proofs.YtpibenilagloaaaGreatDoor

def keywordsL : List (List UInt8) := [[117, 115, 101], [112, 117, 98], [97, 115], [102, 110], [115, 116, 114, 117, 99, 116], [101, 110, 117, 109], [116, 114, 97, 105, 116], [105, 109, 112, 108], [102, 111, 114], [99, 111, 110, 115, 116], [109, 97, 99, 114, 111], [108, 101, 116], [109, 117, 116], [119, 104, 105, 108, 101], [114, 101, 116, 117, 114, 110], [109, 97, 116, 99, 104], [105, 102], [101, 108, 115, 101], [110, 101, 119], [116, 114, 117, 101], [102, 97, 108, 115, 101], [116, 121, 112, 101]]
def twoL : List (List UInt8) := [[58, 58], [61, 62], [45, 62], [61, 61], [38, 38], [124, 124]]
def punctL : List UInt8 := [40, 41, 123, 125, 91, 93, 60, 62, 44, 59, 58, 46, 61, 43, 45, 42, 47, 33, 38, 124]
def isLetterB (c : UInt8) : Bool := decide (97 ≤ c.toNat) && decide (c.toNat ≤ 122) || (decide (65 ≤ c.toNat) && decide (c.toNat ≤ 90) || decide (c.toNat = 95))
def isDigitB (c : UInt8) : Bool := decide (48 ≤ c.toNat) && decide (c.toNat ≤ 57)
def isSpaceB (c : UInt8) : Bool := decide (c ∈ [(32 : UInt8), 9, 10, 13])
def isWordB (c : UInt8) : Bool := isLetterB c || isDigitB c
def notNlB (c : UInt8) : Bool := !decide (c.toNat = 10)
/-- the length of the longest run of bytes that satisfy p -/
def scanL (p : UInt8 → Bool) (s : List UInt8) : Nat := (s.takeWhile p).length
/-- the end of a string literal, from its byte i on -/
def strEnd : List UInt8 → Nat → Option Nat
  | [], _ => none
  | c :: r, i => if c.toNat = 10 then none else if c.toNat = 34 then some (i + 1) else if c.toNat = 92 then
      match r with
      | [] => none
      | d :: r' => if d.toNat = 10 then strEnd (d :: r') (i + 1) else strEnd r' (i + 2)
    else strEnd r (i + 1)
def strL (s : List UInt8) : Nat × Int := match strEnd (s.drop 1) 1 with
  | some n => (n, 106)
  | none => (1 + scanL notNlB (s.drop 1), 108)
/-- the length and the kind of the first token -/
def firstL (s : List UInt8) : Nat × Int := match s with
  | [] => (0, 0)
  | c :: _ =>
    if isSpaceB c then (scanL isSpaceB s, 101)
    else if s.take 2 = [47, 47] then (scanL notNlB s, 102)
    else if isLetterB c then (scanL isWordB s, if s.take (scanL isWordB s) ∈ keywordsL then 104 else 103)
    else if isDigitB c then (scanL isDigitB s, 105)
    else if c.toNat = 34 then strL s
    else if 1 < s.length ∧ s.take 2 ∈ twoL then (2, 107)
    else if c ∈ punctL then (1, 107) else (1, 108)
def ofL (l : List UInt8) : ByteArray := ⟨l.toArray⟩
def tokensG : Nat → List UInt8 → List Tok
  | 0, _ => []
  | n + 1, s => if s = [] then [] else ⟨(firstL s).2, ofL (s.take (firstL s).1)⟩ :: tokensG n (s.drop (firstL s).1)
/-- the tokens of a source -/
def tokensL (s : List UInt8) : List Tok := tokensG s.length s
/-- the syntax tree of a source -/
def parseL (n gas : Nat) (s : List UInt8) : Option Tree := (run n fileC ⟨tokensL s, [], false, gas⟩).map fun u => .mk 1 .empty u.ch
end Go.Proofs.YtpibenilagloaaaGreatDoor

/-
  The abstract syntax tree as plain data: what the builder makes of a syntax tree.
-/
namespace Go.Proofs.YtpibenilagloaaaGreatDoor
set_option linter.unusedVariables false

/-- a node's own fields -/
structure Hd where
  k : Int
  v : Int
  t : ByteArray
  s : Int
  e : Int
  nm : Int
instance : Inhabited Hd := ⟨⟨0, 0, .empty, 0, 0, 0⟩⟩
/-- a node of the abstract syntax tree -/
inductive Node where
  | mk (h : Hd) (ch : List Node)
instance : Inhabited Node := ⟨.mk default []⟩
def Node.h : Node → Hd | .mk h _ => h
def Node.ch : Node → List Node | .mk _ c => c
theorem Node.eta (n : Node) : Node.mk n.h n.ch = n := by cases n; rfl
/-- a diagnostic -/
structure Dg where
  code : Int
  mod : Int
  s : Int
  e : Int
  nm : ByteArray
instance : Inhabited Dg := ⟨⟨0, 0, 0, 0, .empty⟩⟩
deriving instance DecidableEq for Dg
/-- the builder's state: the start of the next token, the diagnostics -/
structure BS where
  off : Int
  ds : List Dg
def BS.rep (b : BS) (c s e : Int) : BS := { b with ds := b.ds ++ [⟨c, 0, s, e, .empty⟩] }

def orI (a b : Int) : Int := IntKind.i64.wrap ((BitVec.ofInt 64 a ||| BitVec.ofInt 64 b).toNat : Int)
def nameKinds : List Int := [2, 3, 4, 5, 6, 8, 9, 11, 13, 14, 15, 16, 18, 31, 32, 34, 44]
def hasNameB (k : Int) : Bool := nameKinds.contains k
/-- a node covers the bytes from s to e -/
def extendH (h : Hd) (s e : Int) : Hd := { h with s := if h.e < 0 then s else h.s, e := e }
def setFlagH (h : Hd) (t : ByteArray) : Hd :=
  if t = kPub then { h with v := orI h.v 1 }
  else if t = kMut then { h with v := orI h.v 1 }
  else if t = pStar ∧ h.k = 2 then { h with v := orI h.v 2 }
  else if t = kTrue ∧ h.k = 28 then { h with v := 1 }
  else if (h.k = 39 ∨ h.k = 40) ∧ h.t = .empty then { h with t := t } else h
def identB (t : ByteArray) (s : Int) (b : BS) : BS := if 30 < t.size then b.rep 5 s b.off else b
def identH (h : Hd) (t : ByteArray) (s : Int) : Hd := if hasNameB h.k = true ∧ h.nm < 0 then { h with t := t, nm := s } else h
/-- the value of an integer literal; none: it is too great -/
def intOfL (t : ByteArray) : Option Int := match Lib.atoiAll t.data.toList with
  | .ok v => if 2147483647 < v then none else some v
  | _ => none
def intV (t : ByteArray) : Int := (intOfL t).getD 2147483647
def intB (t : ByteArray) (s : Int) (b : BS) : BS := if (intOfL t).isNone then b.rep 4 s b.off else b
/-- a string literal from byte i on: what it stands for, the places of its unknown escapes -/
def uqG (l : List UInt8) : Nat → Nat → List UInt8 × List Int
  | 0, _ => ([], [])
  | n + 1, i => if i + 1 < l.length then
      (if l.getD i 0 = 92 then
        let d := l.getD (i + 1) 0
        let r := uqG l n (i + 2)
        (if d = 110 then (10 :: r.1, r.2) else if d = 34 ∨ d = 92 then (d :: r.1, r.2) else (d :: r.1, (i : Int) :: r.2))
      else let r := uqG l n (i + 1); (l.getD i 0 :: r.1, r.2))
    else ([], [])
def unqL (t : ByteArray) : List UInt8 := (uqG t.data.toList t.size 1).1
def unqB (t : ByteArray) (s : Int) (b : BS) : BS := { b with ds := b.ds ++ (uqG t.data.toList t.size 1).2.map fun i => ⟨6, 0, s + i, s + i + 2, .empty⟩ }
/-- a token that is a child of a node -/
def tokH (h : Hd) (k : Int) (t : ByteArray) (s e : Int) : Hd :=
  if k = 101 ∨ k = 102 then h
  else if k = 108 then (if t = .empty then h else extendH h s e)
  else if k = 103 then extendH (identH h t s) s e
  else if k = 105 then extendH { h with v := intV t } s e
  else if k = 106 then extendH { h with t := ofL (unqL t) } s e
  else extendH (setFlagH h t) s e
def tokB (k : Int) (t : ByteArray) (b : BS) : BS :=
  let s := b.off
  let b1 : BS := { b with off := b.off + t.size }
  if k = 108 then (if t = .empty then b1.rep 1 s s else b1.rep 3 s b1.off)
  else if k = 103 then identB t s b1
  else if k = 105 then intB t s b1
  else if k = 106 then unqB t s b1
  else b1
/-- what stands for a node at last -/
def finN (src : ByteArray) (h : Hd) (ch : List Node) : Node :=
  if h.k = 60 then .mk { (ch.headD default).h with s := h.s, e := h.e } (ch.headD default).ch
  else if h.k = 46 then .mk ⟨46, 0, src.extract h.s.toNat h.e.toNat, h.s, h.e, -1⟩ []
  else .mk h ch
def finB (h : Hd) (b : BS) : BS := if h.k = 60 then b else if h.k = 46 then b.rep (if h.s = h.e then 1 else 2) h.s h.e else b
/-- a node under construction -/
structure NS where
  h : Hd
  ch : List Node
  b : BS
def newH (k s : Int) : Hd := ⟨k, 0, .empty, s, -1, -1⟩
def maxH (h : Hd) : Hd := { h with e := max h.e h.s }
mutual
def nodeL (src : ByteArray) : Tree → BS → Node × BS
  | .mk k t ch, b =>
    let r := kidsL src ch ⟨newH k b.off, [], b⟩
    (finN src (maxH r.h) r.ch, finB (maxH r.h) r.b)
def kidsL (src : ByteArray) : List Tree → NS → NS
  | [], s => s
  | x :: r, s =>
    if 100 ≤ x.k then kidsL src r ⟨tokH s.h x.k x.t s.b.off (s.b.off + x.t.size), s.ch, tokB x.k x.t s.b⟩
    else kidsL src r ⟨extendH s.h (nodeL src x s.b).1.h.s (nodeL src x s.b).1.h.e, s.ch ++ [(nodeL src x s.b).1], (nodeL src x s.b).2⟩
end
theorem kidsL_tok {src : ByteArray} {x : Tree} {r : List Tree} {s : NS} (h : 100 ≤ x.k) : kidsL src (x :: r) s = kidsL src r ⟨tokH s.h x.k x.t s.b.off (s.b.off + x.t.size), s.ch, tokB x.k x.t s.b⟩ := by
  rw [kidsL, if_pos h]
theorem kidsL_node {src : ByteArray} {x : Tree} {r : List Tree} {s : NS} (h : ¬ 100 ≤ x.k) : kidsL src (x :: r) s = kidsL src r ⟨extendH s.h (nodeL src x s.b).1.h.s (nodeL src x s.b).1.h.e, s.ch ++ [(nodeL src x s.b).1], (nodeL src x s.b).2⟩ := by
  rw [kidsL, if_neg h]
mutual
/-- a bound on what is in a tree -/
def Tree.wt : Tree → Nat
  | .mk _ t ch => t.size + 1 + wts ch
def wts : List Tree → Nat
  | [] => 0
  | x :: r => x.wt + wts r
end
end Go.Proofs.YtpibenilagloaaaGreatDoor
