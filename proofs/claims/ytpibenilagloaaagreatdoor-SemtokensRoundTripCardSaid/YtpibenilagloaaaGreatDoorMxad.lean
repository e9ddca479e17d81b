import Derived.Test.YtpibenilagloaaaGreatDoorMxac
import Derived.Lib.SlBy
import Derived.Test.YtpibenilagloaaaGreatDoorMxaa
import Derived.Test.YtpibenilagloaaaGreatDoorMxab
/-
  Workspaces, symbols, exports and the resolver as plain data.
-/
namespace Go.Proofs.YtpibenilagloaaaGreatDoor
set_option linter.unusedVariables false

/-- a module -/
structure Mdl where
  nm : ByteArray
  src : ByteArray
instance : Inhabited Mdl := ⟨⟨.empty, .empty⟩⟩
/-- a symbol -/
structure Sym where
  kind : Int
  mod : Int
  st : Int
  par : Int
  nm : ByteArray
  pub : Bool
instance : Inhabited Sym := ⟨⟨0, 0, 0, 0, .empty, false⟩⟩
/-- an export -/
structure Xpt where
  mod : Int
  nm : ByteArray
  sym : Int
  pub : Bool
instance : Inhabited Xpt := ⟨⟨0, .empty, 0, false⟩⟩
/-- a reference -/
structure Rfn where
  mod : Int
  st : Int
  sym : Int
instance : Inhabited Rfn := ⟨⟨0, 0, 0⟩⟩

/- WORKSPACE -/
def isIdentL (s : ByteArray) : Bool := decide (s.size ≠ 0) && decide (s.size ≤ 30) && (decide ((firstL s.data.toList).1 = s.size) && decide ((firstL s.data.toList).2 = 103))
def idxOf (ms : List Mdl) (nm : ByteArray) : Int := Lib.idxBy (fun _ (y : Mdl) => decide (y.nm = nm)) ms default
def dupFrom (ms : List Mdl) : Nat → Nat → Bool
  | 0, _ => false
  | n + 1, i => if 0 ≤ idxOf (ms.take i) (ms.getD i default).nm then true else dupFrom ms n (i + 1)
def validL (ms : List Mdl) : Int :=
  if 8 < ms.length ∨ (ms.any fun m => decide (2000 < m.src.size)) = true then 2
  else if (ms.any fun m => !isIdentL m.nm) = true then 3
  else if dupFrom ms ms.length 0 = true then 6 else 0

/- SYMBOLS -/
def andI (a b : Int) : Int := IntKind.i64.wrap ((BitVec.ofInt 64 a &&& BitVec.ofInt 64 b).toNat : Int)
def symKindOf (h : Hd) (lp : Bool) : Int :=
  if h.k = 7 then 6
  else if h.nm < 0 then 0
  else if (h.k = 13 ∧ lp = true) ∨ h.k = 44 then 14
  else if 3 ≤ h.k ∧ h.k ≤ 9 then h.k - 3 + 2
  else if h.k = 11 then 9 else if h.k = 13 then 10 else if h.k = 14 then 11 else if h.k = 15 then 12 else if h.k = 16 then 13 else 0
def isCont (k : Int) : Bool := decide (2 ≤ k) && decide (k ≤ 8)
def declStart (h : Hd) : Int := if h.k = 7 then h.s else h.nm
def flagB (v f : Int) : Bool := !decide (andI v f = 0)
mutual
def symV (m : Int) : Node → Int → Bool → List Sym → List Sym
  | .mk h ch, par, lp, acc =>
    let k := symKindOf h lp
    let loc := (decide (h.k = 12) && lp) || (decide (h.k = 9) || decide (h.k = 38))
    if k = 0 then symVs m ch par loc acc
    else symVs m ch (if isCont k = true then (acc.length : Int) else par) loc (acc ++ [⟨k, m, declStart h, par, h.t, decide (h.k ≤ 9) && flagB h.v 1⟩])
def symVs (m : Int) : List Node → Int → Bool → List Sym → List Sym
  | [], _, _, acc => acc
  | x :: r, par, lp, acc => symVs m r par lp (symV m x par lp acc)
end
def nInt : ByteArray := ⟨#[105, 110, 116]⟩
def nBool : ByteArray := ⟨#[98, 111, 111, 108]⟩
def nString : ByteArray := ⟨#[115, 116, 114, 105, 110, 103]⟩
def nSelf : ByteArray := ⟨#[83, 101, 108, 102]⟩
def builtinsL : List Sym := [nInt, nBool, nString, nSelf].map fun n => ⟨15, -1, -1, -1, n, false⟩
def listFrom (i : Nat) : List (Mdl × Node) → List Sym → List Sym
  | [], acc => acc
  | x :: r, acc => listFrom (i + 1) r (symV i x.2 (acc.length : Int) false (acc ++ [⟨1, i, -1, -1, x.1.nm, true⟩]))
def symsL (ms : List Mdl) (ts : List Node) : List Sym := listFrom 0 (ms.zip ts) builtinsL
def findAtL (ss : List Sym) (m st : Int) : Int := Lib.idxBy (fun _ (y : Sym) => decide (y.mod = m) && decide (y.st = st)) ss default

/- EXPORTS -/
def lookupL (xs : List Xpt) (m : Int) (nm : ByteArray) (fr : Int) : List Xpt := xs.filter fun e => decide (e.mod = m) && (decide (e.nm = nm) && (e.pub || decide (m = fr)))
def modSym (ss : List Sym) (m : Int) : Int := Lib.idxBy (fun _ (y : Sym) => decide (y.kind = 1) && decide (y.mod = m)) ss default
def idxsFrom (p : Sym → Bool) : Nat → List Sym → List Int
  | _, [] => []
  | i, y :: r => if p y then (i : Int) :: idxsFrom p (i + 1) r else idxsFrom p (i + 1) r
def membersL (ss : List Sym) (par : Int) (nm : ByteArray) (kinds : List Int) : List Int := idxsFrom (fun y => decide (y.par = par) && (decide (y.nm = nm) && kinds.contains y.kind)) 0 ss
def symAt (ss : List Sym) (i : Int) : Sym := ss.getD i.toNat default
def memberL (ss : List Sym) (xs : List Xpt) (s m : Int) (nm : ByteArray) : List Int :=
  if (symAt ss s).kind = 1 then (lookupL xs (symAt ss s).mod nm m).map Xpt.sym
  else if (symAt ss s).kind = 4 then membersL ss s nm [12] else []
def pathStep (ms : List Mdl) (ss : List Sym) (xs : List Xpt) (m : Int) (i : Nat) (nm : ByteArray) (cur : List Int) : List Int :=
  (if i = 0 then (if 0 ≤ idxOf ms nm then [modSym ss (idxOf ms nm)] else (lookupL xs m nm m).map Xpt.sym) else []) ++ cur.flatMap fun s => memberL ss xs s m nm
def usePathFrom (ms : List Mdl) (ss : List Sym) (xs : List Xpt) (m : Int) : Nat → List Node → List Int → List Int
  | _, [], cur => cur
  | i, x :: r, cur => usePathFrom ms ss xs m (i + 1) r (pathStep ms ss xs m i x.h.t cur)
def usePathL (ms : List Mdl) (ss : List Sym) (xs : List Xpt) (m : Int) (path : Node) : List Int := usePathFrom ms ss xs m 0 path.ch []
def addFrom (e : Xpt) : List Xpt → Option (List Xpt × Bool)
  | [] => none
  | x :: r => if x.mod = e.mod ∧ x.nm = e.nm ∧ x.sym = e.sym then some ({ x with pub := x.pub || e.pub } :: r, !x.pub && e.pub)
    else (addFrom e r).map fun p => (x :: p.1, p.2)
def addL (xs : List Xpt) (e : Xpt) : List Xpt × Bool := match addFrom e xs with
  | some p => p
  | none => (xs ++ [e], true)
def isGlobB (h : Hd) : Bool := flagB h.v 2
def kidAt (x : Node) (i : Nat) : Node := x.ch.getD i default
def lastSeg (path : Node) : Node := path.ch.getLastD default
def importedL (x : Node) : ByteArray := if x.h.t ≠ .empty ∨ isGlobB x.h = true then x.h.t else (lastSeg (kidAt x 0)).h.t
def declaresL (ss : List Sym) (m : Int) (nm : ByteArray) : Bool := !(membersL ss (modSym ss m) nm [2, 3, 4, 5, 7, 8]).isEmpty
def shadowsL (ss : List Sym) (tree : Node) (m : Int) (nm : ByteArray) : Bool := declaresL ss m nm || tree.ch.any fun n => decide (n.h.k = 2) && (!isGlobB n.h && decide (importedL n = nm))
/-- what one target of a glob import gives: names and symbols -/
def globOf (ss : List Sym) (xs : List Xpt) (m : Int) (target : Int) : List (ByteArray × Int) :=
  (if (symAt ss target).kind = 1 then ((xs.filter fun e => decide (e.mod = (symAt ss target).mod) && (e.pub || decide (e.mod = m))).map fun e => (e.nm, e.sym)) else [])
  ++ (if (symAt ss target).kind = 4 then ((idxsFrom (fun y => decide (y.par = target) && decide (y.kind = 12)) 0 ss).map fun i => ((symAt ss i).nm, i)) else [])
def globL (ms : List Mdl) (ss : List Sym) (tree : Node) (xs : List Xpt) (m : Int) (use : Node) : List Xpt :=
  (((usePathL ms ss xs m (kidAt use 0)).flatMap fun t => globOf ss xs m t).filter fun p => !shadowsL ss tree m p.1).map fun p => ⟨m, p.1, p.2, flagB use.h.v 1⟩
def useL (ms : List Mdl) (ss : List Sym) (tree : Node) (xs : List Xpt) (m : Int) (use : Node) : List Xpt :=
  if isGlobB use.h = true then globL ms ss tree xs m use
  else if importedL use ≠ .empty ∧ declaresL ss m (importedL use) = false then (usePathL ms ss xs m (kidAt use 0)).map fun t => ⟨m, importedL use, t, flagB use.h.v 1⟩ else []
def addAll : List Xpt → List Xpt × Bool → List Xpt × Bool
  | [], s => s
  | e :: r, s => addAll r ((addL s.1 e).1, (addL s.1 e).2 || s.2)
def addUses (ms : List Mdl) (ss : List Sym) (tree : Node) (m : Int) : List Node → List Xpt × Bool → List Xpt × Bool
  | [], s => s
  | n :: r, s => addUses ms ss tree m r (if n.h.k = 2 then addAll (useL ms ss tree s.1 m n) s else s)
def addTrees (ms : List Mdl) (ss : List Sym) : Nat → List Node → List Xpt × Bool → List Xpt × Bool
  | _, [], s => s
  | i, t :: r, s => addTrees ms ss (i + 1) r (addUses ms ss t i t.ch s)
def importsOnce (ms : List Mdl) (ss : List Sym) (ts : List Node) (xs : List Xpt) : List Xpt × Bool := addTrees ms ss 0 ts (xs, false)
def declFrom (ss : List Sym) : Nat → List Sym → List Xpt → List Xpt
  | _, [], xs => xs
  | i, y :: r, xs => declFrom ss (i + 1) r (if 0 ≤ y.par ∧ (symAt ss y.par).kind = 1 ∧ isCont y.kind = true ∧ y.kind ≠ 6 then (addL xs ⟨y.mod, y.nm, i, y.pub⟩).1 else xs)
def fixL (ms : List Mdl) (ss : List Sym) (ts : List Node) : Nat → List Xpt → Option (List Xpt)
  | 0, _ => none
  | n + 1, xs => if (importsOnce ms ss ts xs).2 = true then fixL ms ss ts n (importsOnce ms ss ts xs).1 else some (importsOnce ms ss ts xs).1

/- THE RESOLVER -/
def cUnres : Int := 11
def cDup : Int := 12
def cPriv : Int := 13
def cAmb : Int := 14
def cMac : Int := 15
def cGlob : Int := 16
structure REnv where
  ms : List Mdl
  ss : List Sym
  xs : List Xpt
/-- the resolver's state -/
structure RS where
  mod : Int
  scope : List Int
  cont : Int
  impl : Int
  bounds : List (List Int)
  refs : List Rfn
  ds : List Dg
def RS.report (s : RS) (code st : Int) (nm : ByteArray) : RS := { s with ds := s.ds ++ [⟨code, s.mod, st, st + nm.size, nm⟩] }
def uniqueL (c : List Int) : Int × Int := match c with
  | [] => (-1, cUnres)
  | [x] => (x, 0)
  | _ => (-1, cAmb)
def exportedL (E : REnv) (s : RS) (m : Int) (nm : ByteArray) : Int × Int :=
  let u := uniqueL ((lookupL E.xs m nm s.mod).map Xpt.sym)
  if u.2 = cUnres ∧ (lookupL E.xs m nm m).isEmpty = false then (u.1, cPriv) else u
/-- the innermost local declaration of a name -/
def localL (E : REnv) (nm : ByteArray) : List Int → Option Int
  | [] => none
  | i :: r => match localL E nm r with
    | some j => some j
    | none => if (symAt E.ss i).nm = nm then some i else none
def firstSegL (E : REnv) (s : RS) (nm : ByteArray) (inUse : Bool) : Int × Int := match localL E nm s.scope with
  | some i => (i, 0)
  | none =>
    let m := idxOf E.ms nm
    if inUse = true ∧ 0 ≤ m then (modSym E.ss m, 0)
    else
      let u := exportedL E s s.mod nm
      if u.2 ≠ cUnres then u
      else if 0 ≤ m then (modSym E.ss m, 0)
      else uniqueL (membersL E.ss (-1) nm [15])
def assocL (E : REnv) (nm : ByteArray) : List Int → Int × Int
  | [] => (-1, cUnres)
  | c :: r => if 0 ≤ c ∧ (membersL E.ss c nm [13, 2]).isEmpty = false then ((membersL E.ss c nm [13, 2]).headD 0, 0) else assocL E nm r
def nextSegL (E : REnv) (s : RS) (sym : Int) (nm : ByteArray) : Int × Int :=
  let y := symAt E.ss sym
  if y.kind = 1 then exportedL E s y.mod nm
  else if y.kind = 4 then uniqueL ((membersL E.ss sym nm [12]).take 1)
  else if y.kind = 5 then assocL E nm [sym]
  else if y.kind = 9 then assocL E nm (s.bounds.getD sym.toNat [])
  else if sym = 3 then assocL E nm [s.cont, s.impl]
  else (-1, cUnres)
def visitAllW (v : Node → RS → RS) : List Node → RS → RS
  | [], s => s
  | x :: r, s => visitAllW v r (v x s)
/-- one segment: the symbol and whether it is known, ahead and behind -/
def segL (E : REnv) (v : Node → RS → RS) (inUse : Bool) (i : Nat) (g : Node) (sym : Int) (ok : Bool) (s : RS) : Int × Bool × RS :=
  if g.h.nm < 0 then (-1, false, s)
  else
    let q := if i = 0 then firstSegL E s g.h.t inUse else if ok = true then nextSegL E s sym g.h.t else (sym, 0)
    let s1 := if q.2 ≠ 0 then s.report q.2 g.h.nm g.h.t else s
    let s2 : RS := { s1 with refs := s1.refs ++ [⟨s1.mod, g.h.nm, q.1⟩] }
    (q.1, ok && decide (q.2 = 0), visitAllW v g.ch s2)
def pathFrom (E : REnv) (v : Node → RS → RS) (inUse : Bool) : Nat → List Node → Int → Bool → RS → Int × RS
  | _, [], sym, _, s => (sym, s)
  | i, g :: r, sym, ok, s =>
    let q := segL E v inUse i g sym ok s
    pathFrom E v inUse (i + 1) r q.1 q.2.1 q.2.2
def pathW (E : REnv) (v : Node → RS → RS) (x : Node) (inUse : Bool) (s : RS) : Int × RS := pathFrom E v inUse 0 x.ch (-1) true s
def declareL (E : REnv) (x : Node) (s : RS) : RS := if 0 ≤ x.h.nm then { s with scope := s.scope ++ [findAtL E.ss s.mod x.h.nm] } else s
mutual
def declPat (E : REnv) : Node → RS → RS
  | .mk h ch, s => declPats E ch (if h.k = 44 then declareL E (.mk h []) s else s)
def declPats (E : REnv) : List Node → RS → RS
  | [], s => s
  | x :: r, s => declPats E r (declPat E x s)
end
def unscope (n : Nat) (s : RS) : RS := { s with scope := s.scope.take n }
def scopedW (f : RS → RS) (s : RS) : RS := unscope s.scope.length (f s)
def boundTraitL (E : REnv) (v : Node → RS → RS) (b : Node) (s : RS) : Int :=
  let q : RS := { s with refs := [], ds := [] }
  let f := firstSegL E q (kidAt b 0).h.t false
  if f.1 < 0 ∨ (symAt E.ss f.1).kind = 9 then -1
  else
    let p := (pathW E v b false q).1
    if p < 0 ∨ (symAt E.ss p).kind ≠ 5 then -1 else p
def boundsOne (E : REnv) (v : Node → RS → RS) (p : Node) : List Node → RS → RS
  | [], s => s
  | b :: r, s =>
    let i := findAtL E.ss s.mod p.h.nm
    let t := boundTraitL E v b s
    boundsOne E v p r (if 0 ≤ t then { s with bounds := s.bounds.modify i.toNat (· ++ [t]) } else s)
def boundsAll (E : REnv) (v : Node → RS → RS) : List Node → RS → RS
  | [], s => s
  | p :: r, s => boundsAll E v r (boundsOne E v p p.ch s)
def declKind (E : REnv) (k : Int) : List Node → RS → RS
  | [], s => s
  | p :: r, s => declKind E k r (if p.h.k = k then declareL E p s else s)
def visitKids (v : Node → RS → RS) : List Node → RS → RS
  | [], s => s
  | p :: r, s => visitKids v r (visitAllW v p.ch s)
def typeParamsW (E : REnv) (v : Node → RS → RS) (x : Node) (s : RS) : RS := visitKids v x.ch (boundsAll E v x.ch (declKind E 11 x.ch s))
def paramsW (E : REnv) (v : Node → RS → RS) (x : Node) (s : RS) : RS := declKind E 13 x.ch (visitKids v x.ch s)
def traitW (E : REnv) (v : Node → RS → RS) (x : Node) (s : RS) : RS :=
  { visitAllW v x.ch { s with cont := if x.h.nm < 0 then -1 else findAtL E.ss s.mod x.h.nm, impl := -1 } with cont := s.cont, impl := s.impl }
def implIn (E : REnv) (v : Node → RS → RS) (x : Node) (s : RS) : RS :=
  let s1 := typeParamsW E v (kidAt x 0) s
  let s2 := if (kidAt x 1).h.k = 17 then
      (let p := pathW E v (kidAt x 1) false s1
       if 0 ≤ p.1 ∧ (symAt E.ss p.1).kind = 5 then { p.2 with impl := p.1 } else p.2)
    else v (kidAt x 1) s1
  visitAllW v (x.ch.drop 2) s2
def implW (E : REnv) (v : Node → RS → RS) (x : Node) (s : RS) : RS :=
  { scopedW (implIn E v x) { s with cont := findAtL E.ss s.mod x.h.s, impl := -1 } with cont := s.cont, impl := s.impl }
def useW (E : REnv) (v : Node → RS → RS) (x : Node) (s : RS) : RS :=
  let p := pathW E v (kidAt x 0) true s
  let last := lastSeg (kidAt x 0)
  if isGlobB x.h = true then
    (if 0 ≤ p.1 ∧ (symAt E.ss p.1).kind ≠ 1 ∧ (symAt E.ss p.1).kind ≠ 4 then p.2.report cGlob last.h.nm last.h.t else p.2)
  else
    let st := if x.h.nm < 0 then last.h.nm else x.h.nm
    if 0 ≤ st ∧ declaresL E.ss p.2.mod (importedL x) = true then p.2.report cDup st (importedL x) else p.2
def macroW (E : REnv) (v : Node → RS → RS) (x : Node) (s : RS) : RS :=
  let p := pathW E v (kidAt x 0) false s
  let last := lastSeg (kidAt x 0)
  visitAllW v (x.ch.drop 1) (if 0 ≤ p.1 ∧ (symAt E.ss p.1).kind ≠ 8 then p.2.report cMac last.h.nm last.h.t else p.2)
def scopeKinds : List Int := [3, 4, 5, 8, 9, 21, 38]
def visitF (E : REnv) : Nat → Node → RS → RS
  | 0, _, s => s
  | n + 1, x, s =>
    let v := visitF E n
    if x.h.k = 2 then useW E v x s
    else if x.h.k = 17 then (pathW E v x false s).2
    else if x.h.k = 6 then traitW E v x s
    else if x.h.k = 7 then implW E v x s
    else if x.h.k = 10 then typeParamsW E v x s
    else if x.h.k = 12 then paramsW E v x s
    else if x.h.k = 22 then declPat E (kidAt x 0) (visitAllW v x.ch s)
    else if x.h.k = 36 then scopedW (fun s => v (kidAt x 1) (declPat E (kidAt x 0) (v (kidAt x 0) s))) s
    else if x.h.k = 42 then macroW E v x s
    else if scopeKinds.contains x.h.k = true then scopedW (visitAllW v x.ch) s
    else visitAllW v x.ch s
def namedB (y : Sym) : Bool := decide (0 ≤ y.par) && (decide (y.kind ≠ 14) && decide (y.kind ≠ 6))
def dupsFrom (ss : List Sym) : Nat → List Sym → RS → RS
  | _, [], s => s
  | i, y :: r, s => dupsFrom ss (i + 1) r
      (if (namedB y && (ss.take i).any fun t => namedB t && (decide (t.par = y.par) && decide (t.nm = y.nm))) = true then RS.report { s with mod := y.mod } cDup y.st y.nm else s)
def resTrees (E : REnv) (fuel : Node → Nat) : Nat → List Node → RS → RS
  | _, [], s => s
  | i, t :: r, s => resTrees E fuel (i + 1) r (visitAllW (visitF E (fuel t)) t.ch { s with mod := i })
end Go.Proofs.YtpibenilagloaaaGreatDoor

/-
  The resolver's data in memory; Lookup.
-/
namespace Go.Proofs.YtpibenilagloaaaGreatDoor
open Go.RowKit
set_option linter.unusedVariables false

def mdC (x : Mdl) : List Value := [.string x.nm, .string x.src]
def mdD : Dat Mdl := flatD mdC 2 (by decide) (fun _ => rfl) (fun x v hv => by simp [mdC] at hv; rcases hv with rfl | rfl <;> rfl)
def syC (x : Sym) : List Value := [.int .i64 x.kind, .int .i64 x.mod, .int .i64 x.st, .int .i64 x.par, .string x.nm, .bool x.pub]
def syD : Dat Sym := flatD syC 6 (by decide) (fun _ => rfl) (fun x v hv => by simp [syC] at hv; rcases hv with rfl | rfl | rfl | rfl | rfl | rfl <;> rfl)
def xpC (x : Xpt) : List Value := [.int .i64 x.mod, .string x.nm, .int .i64 x.sym, .bool x.pub]
def xpD : Dat Xpt := flatD xpC 4 (by decide) (fun _ => rfl) (fun x v hv => by simp [xpC] at hv; rcases hv with rfl | rfl | rfl | rfl <;> rfl)
def rfC (x : Rfn) : List Value := [.int .i64 x.mod, .int .i64 x.st, .int .i64 x.sym]
def rfD : Dat Rfn := flatD rfC 3 (by decide) (fun _ => rfl) (fun x v hv => by simp [rfC] at hv; rcases hv with rfl | rfl | rfl <;> rfl)
def inC (x : Int) : List Value := [.int .i64 x]
def inD : Dat Int := flatD inC 1 (by decide) (fun _ => rfl) (fun x v hv => by simp [inC] at hv; rcases hv with rfl; rfl)
theorem info_sy : (Tryz.prog.info? 89).map (fun i => (i.zero, i.size, i.bytes)) = some (some (.agg #[.int .i64 0, .int .i64 0, .int .i64 0, .int .i64 0, .string .empty, .bool false]), 6, 56) := by kernel_rfl
theorem info_xp : (Tryz.prog.info? 208).map (fun i => (i.zero, i.size, i.bytes)) = some (some (.agg #[.int .i64 0, .string .empty, .int .i64 0, .bool false]), 4, 40) := by kernel_rfl
theorem info_rf : (Tryz.prog.info? 117).map (fun i => (i.zero, i.size, i.bytes)) = some (some (.agg #[.int .i64 0, .int .i64 0, .int .i64 0]), 3, 24) := by kernel_rfl
theorem info_in : (Tryz.prog.info? 3).map (fun i => (i.zero, i.size, i.bytes)) = some (some (.int .i64 0), 1, 8) := by kernel_rfl
theorem ba_inj {a b : ByteArray} (h : a.toList = b.toList) : a = b := by
  rw [ByteArray.toList_eq, ByteArray.toList_eq] at h
  cases a; cases b
  simp_all
/-- a Program that is read only -/
structure PgV (w : World) (p : Nat) (ss : List Sym) (xs : List Xpt) : Prop where
  sy : ∃ A c, w.cell? ⟨p, 2, none⟩ = some (.slice A ss.length c) ∧ syD.At w (Lt w) A ss
  xp : ∃ A c, w.cell? ⟨p, 3, none⟩ = some (.slice A xs.length c) ∧ xpD.At w (Lt w) A xs
  lt : p < w.heap.size
theorem PgV.below {w w' : World} {p : Nat} {ss : List Sym} {xs : List Xpt} (h : PgV w p ss xs) (hb : Below w.heap.size w w') : PgV w' p ss xs := by
  obtain ⟨⟨A, c, h1, h2⟩, ⟨D, d, h3, h4⟩, h5⟩ := h
  exact ⟨⟨A, c, (hb.cell (p := ⟨p, 2, none⟩) h5).trans h1, h2.keep (fun b hb' => Nat.lt_of_lt_of_le hb' hb.size) (fun b hb' => hb.block b hb')⟩,
    ⟨D, d, (hb.cell (p := ⟨p, 3, none⟩) h5).trans h3, h4.keep (fun b hb' => Nat.lt_of_lt_of_le hb' hb.size) (fun b hb' => hb.block b hb')⟩, Nat.lt_of_lt_of_le h5 hb.size⟩
set_option maxRecDepth 100000 in
set_option maxHeartbeats 1600000 in
theorem lookup_any (p : Nat) (ss : List Sym) (xs : List Xpt) (m fr : Int) (nm : ByteArray) (w : World) (h : PgV w p ss xs) (hm : xs.length ≤ 1000000) :
    Calls Tryz.prog 288 #[.pointer (some ⟨p, 0, none⟩), .int .i64 m, .string nm, .int .i64 fr] w fun e w' => ∃ A c, e = .returned (.slice A (lookupL xs m nm fr).length c) ∧ xpD.At w' (Nw w w') A (lookupL xs m nm fr) ∧ Below w.heap.size w w' := by
  obtain ⟨A, c, hc3, hat⟩ := h.xp
  have hpl := h.lt
  obtain ⟨n, hn⟩ : ∃ n, xs.length = n := ⟨_, rfl⟩
  have HN := Lib.hid hn
  have HA := Lib.hid hat
  rw [hn] at hc3 hm
  have HLL := Lib.hid (show ∀ ys, lookupL ys m nm fr = ys.filter fun e => decide (e.mod = m) && (decide (e.nm = nm) && (e.pub || decide (m = fr))) from fun _ => rfl)
  clear hn hat h
  go_enter Tryz.func288, Tryz.ntmps288
  go_wp2_with fail
  have hq0 : xpD.Own w w.heap.size 208 (OF w.heap.size (.slice none 0 0) w) (.slice none 0 0) [] [] := Dat.Own.nil
  go_loopw [9, 17] (fun v i wr => ∃ (j : Nat) (vs : List Value), i = .int .i64 (j : Int) ∧ j ≤ n ∧ xpD.Own wr w.heap.size 208 (OF w.heap.size v wr) v (lookupL (xs.take j) m nm fr) vs ∧ Below w.heap.size w wr) (fun _ i _ => n - (intOf i).toNat)
  case atStart => exact ⟨0, [], rfl, Nat.zero_le _, by simpa [lookupL] using hq0, Below.refl _ _⟩
  case round =>
    clear hq0
    obtain ⟨j, vs, rfl, hj, hown, hb⟩ := hrel
    by_cases hlt : j < n
    · have hjI : (j : Int) < n := by omega
      have hjl : j < xs.length := by rw [HN.out]; exact hlt
      obtain ⟨tb, off, rfl, htb, hxc⟩ := flat_get HA.out j xs[j] (List.getElem?_eq_getElem hjl)
      have htk : lookupL (xs.take (j + 1)) m nm fr = lookupL (xs.take j) m nm fr ++ (if (decide (xs[j].mod = m) && (decide (xs[j].nm = nm) && (xs[j].pub || decide (m = fr)))) then [xs[j]] else []) := by
        rw [HLL.out, HLL.out]; exact filter_take_succ _ xs j xs[j] (List.getElem?_eq_getElem hjl)
      have hlen : (lookupL (xs.take j) m nm fr).length ≤ j := by
        rw [HLL.out]; refine Nat.le_trans (List.length_filter_le _ _) ?_; rw [List.length_take]; omega
      generalize xs[j] = x at *
      obtain ⟨x0, x1, x2, x3⟩ := x
      simp only at htk
      have hbs := hb.size
      have htl : tb < w.heap.size := htb
      have cc : ∀ i u, ([.int .i64 x0, .string x1, .int .i64 x2, .bool x3] : List Value)[i]? = some u → wr.cell? ⟨tb, off + j * 4 + i, none⟩ = some u := fun i u hu => (hb.cell (p := ⟨tb, _, none⟩) htl).trans (hxc i u hu)
      have d0 := cc 0 _ rfl
      have d1 := cc 1 _ rfl
      have d2 := cc 2 _ rfl
      have d3 := cc 3 _ rfl
      rw [Nat.add_zero] at d0
      have htl2 : tb < wr.heap.size := Nat.lt_of_lt_of_le htl hbs
      have HTK := Lib.hid htk
      have HOW := Lib.hid hown
      have HB := Lib.hid hb
      have HLE := Lib.hid hlen
      clear cc hxc htk hown hb hlen hc3
      by_cases g1 : m = x0
      · subst g1
        by_cases g2 : nm = x1
        · subst g2
          cases x3 with
          | true =>
            have HF := Lib.hid (show lookupL (xs.take (j + 1)) m nm fr = lookupL (xs.take j) m nm fr ++ [⟨m, nm, x2, true⟩] by rw [HTK.out, if_pos (by simp)])
            clear HTK
            have hbl : Below wr.heap.size wr (wr.alloc (.cells #[.int .i64 m, .string nm, .int .i64 x2, .bool true] 208)) := (Below.refl _ _).alloc (Nat.le_refl _) _
            have hown1 := HOW.out.below hbl
            obtain ⟨n0, hn0⟩ : ∃ n0, (lookupL (xs.take j) m nm fr).length = n0 := ⟨_, rfl⟩
            have ho1 := hown1.1
            have hn0b : n0 ≤ j := by rw [← hn0]; exact HLE.out
            rw [hn0] at ho1
            have ho1' : (wr.alloc (.cells #[.int .i64 m, .string nm, .int .i64 x2, .bool true] 208)).ownsRow w.heap.size 208 4 u9 n0 vs := ho1
            have HO1 := Lib.hid hown1
            have HBL := Lib.hid hbl
            have HN0 := Lib.hid hn0
            have hbB : w.heap.size ≤ (wr.alloc (.cells #[.int .i64 m, .string nm, .int .i64 x2, .bool true] 208)).heap.size := by simp; omega
            clear hn0 hown1 hbl ho1
            go_wp2_with (at_builtin; refine wpList_append_litH rfl (.tmp 40) (.tmp 42) _ rfl w.heap.size 208 _ 4 40 Tryz.underlying152 info_xp rfl (by decide) _ _ _ rfl ho1' 1 1 (wr.heap.size + 1) (by simp) [.int .i64 m, .string nm, .int .i64 x2, .bool true] rfl rfl ?a1 ?a2 ?a3 hbB ?_)
            case a1 => simp [Value.oneCell']
            case a2 => simp only [maxLen]; omega
            case a3 => omega
            intro v2 w2 hown2 hg2 hat2
            have h2 : xpD.Own w2 w.heap.size 208 (OF w.heap.size v2 w2) v2 (lookupL (xs.take (j + 1)) m nm fr) (vs ++ [.int .i64 m, .string nm, .int .i64 x2, .bool true]) := by
              rw [HF.out]
              exact HO1.out.grow (ys := [⟨m, nm, x2, true⟩]) (Dat.Row.single (D := xpD) rfl) hg2 (by rw [HN0.out]; exact hown2) (hat2.imp_right fun ⟨g, h1, h2⟩ => ⟨g, h1, by simp; exact h2⟩)
            have hb2 : Below w.heap.size w w2 := (HB.out.trans (HBL.out.mono hbs)).grown hg2 hbB (fun q hq => (HO1.out.1.lt q hq).1)
            have H2 := Lib.hid h2
            have HB2 := Lib.hid hb2
            clear h2 hb2 hown2 hg2 hat2
            go_wp2_with fail
            go_roundw
            case rel => exact ⟨j + 1, _, by go_num, by omega, H2.out, HB2.out⟩
            case measure => simp [intOf]; omega
          | false =>
            by_cases g4 : m = fr
            · subst g4
              have HF := Lib.hid (show lookupL (xs.take (j + 1)) m nm m = lookupL (xs.take j) m nm m ++ [⟨m, nm, x2, false⟩] by rw [HTK.out, if_pos (by simp)])
              clear HTK
              have hbl : Below wr.heap.size wr (wr.alloc (.cells #[.int .i64 m, .string nm, .int .i64 x2, .bool false] 208)) := (Below.refl _ _).alloc (Nat.le_refl _) _
              have hown1 := HOW.out.below hbl
              obtain ⟨n0, hn0⟩ : ∃ n0, (lookupL (xs.take j) m nm m).length = n0 := ⟨_, rfl⟩
              have ho1 := hown1.1
              have hn0b : n0 ≤ j := by rw [← hn0]; exact HLE.out
              rw [hn0] at ho1
              have ho1' : (wr.alloc (.cells #[.int .i64 m, .string nm, .int .i64 x2, .bool false] 208)).ownsRow w.heap.size 208 4 u9 n0 vs := ho1
              have HO1 := Lib.hid hown1
              have HBL := Lib.hid hbl
              have HN0 := Lib.hid hn0
              have hbB : w.heap.size ≤ (wr.alloc (.cells #[.int .i64 m, .string nm, .int .i64 x2, .bool false] 208)).heap.size := by simp; omega
              clear hn0 hown1 hbl ho1
              go_wp2_with (at_builtin; refine wpList_append_litH rfl (.tmp 40) (.tmp 42) _ rfl w.heap.size 208 _ 4 40 Tryz.underlying152 info_xp rfl (by decide) _ _ _ rfl ho1' 1 1 (wr.heap.size + 1) (by simp) [.int .i64 m, .string nm, .int .i64 x2, .bool false] rfl rfl ?b1 ?b2 ?b3 hbB ?_)
              case b1 => simp [Value.oneCell']
              case b2 => simp only [maxLen]; omega
              case b3 => omega
              intro v2 w2 hown2 hg2 hat2
              have h2 : xpD.Own w2 w.heap.size 208 (OF w.heap.size v2 w2) v2 (lookupL (xs.take (j + 1)) m nm m) (vs ++ [.int .i64 m, .string nm, .int .i64 x2, .bool false]) := by
                rw [HF.out]
                exact HO1.out.grow (ys := [⟨m, nm, x2, false⟩]) (Dat.Row.single (D := xpD) rfl) hg2 (by rw [HN0.out]; exact hown2) (hat2.imp_right fun ⟨g, h1, h2⟩ => ⟨g, h1, by simp; exact h2⟩)
              have hb2 : Below w.heap.size w w2 := (HB.out.trans (HBL.out.mono hbs)).grown hg2 hbB (fun q hq => (HO1.out.1.lt q hq).1)
              have H2 := Lib.hid h2
              have HB2 := Lib.hid hb2
              clear h2 hb2 hown2 hg2 hat2
              go_wp2_with fail
              go_roundw
              case rel => exact ⟨j + 1, _, by go_num, by omega, H2.out, HB2.out⟩
              case measure => simp [intOf]; omega
            · have HF := Lib.hid (show lookupL (xs.take (j + 1)) m nm fr = lookupL (xs.take j) m nm fr by rw [HTK.out, if_neg (by simp [g4]), List.append_nil])
              clear HTK
              go_wp2_with fail
              go_roundw
              case rel => exact ⟨j + 1, vs, by go_num, by omega, by rw [HF.out]; exact HOW.out.below ((Below.refl _ _).alloc (Nat.le_refl _) _), HB.out.alloc hbs _⟩
              case measure => simp [intOf]; omega
        · have gs : ¬ x1.toList = nm.toList := fun e => g2 (ba_inj e).symm
          have g2' : ¬ x1 = nm := fun e => g2 e.symm
          have HF := Lib.hid (show lookupL (xs.take (j + 1)) m nm fr = lookupL (xs.take j) m nm fr by rw [HTK.out, if_neg (by simp [g2']), List.append_nil])
          clear HTK
          go_wp2_with fail
          go_roundw
          case rel => exact ⟨j + 1, vs, by go_num, by omega, by rw [HF.out]; exact HOW.out.below ((Below.refl _ _).alloc (Nat.le_refl _) _), HB.out.alloc hbs _⟩
          case measure => simp [intOf]; omega
      · have g1' : ¬ x0 = m := fun e => g1 e.symm
        have HF := Lib.hid (show lookupL (xs.take (j + 1)) m nm fr = lookupL (xs.take j) m nm fr by rw [HTK.out, if_neg (by simp [g1']), List.append_nil])
        clear HTK
        go_wp2_with fail
        go_roundw
        case rel => exact ⟨j + 1, vs, by go_num, by omega, by rw [HF.out]; exact HOW.out.below ((Below.refl _ _).alloc (Nat.le_refl _) _), HB.out.alloc hbs _⟩
        case measure => simp [intOf]; omega
    · have hjI : ¬ (j : Int) < n := by omega
      have htk : xs.take j = xs := List.take_of_length_le (by rw [HN.out]; omega)
      rw [htk] at hown
      have HB := Lib.hid hb
      obtain ⟨A3, c3, hv, hAt, _⟩ := hown.at (F' := Nw w wr) (fun c hc => ⟨hc.1, hc.2.1⟩) (fun c hc => hown.1.lt c hc)
      subst hv
      have HAt := Lib.hid hAt
      obtain ⟨q, hq⟩ : ∃ q, (lookupL xs m nm fr).length = q := ⟨_, rfl⟩
      have HQ := Lib.hid hq
      rw [hq]
      clear hb hAt hown htk hq
      go_wp2_with fail
      go_ret
      first
        | exact ⟨A3, c3, by rw [HQ.out]; rfl, HAt.out, HB.out⟩
        | exact ⟨A3, ⟨c3, by rw [HQ.out]; rfl⟩, HAt.out, HB.out⟩
end Go.Proofs.YtpibenilagloaaaGreatDoor

/-
  semtokens.validTokens, lineStarts: the walks.
-/
namespace Go.Proofs.YtpibenilagloaaaGreatDoor
open Go.RowKit
set_option linter.unusedVariables false

theorem valL_drop (n e : Int) (ts : List TokS) (k : Nat) (x : TokS) (h : ts[k]? = some x) : valL n e (ts.drop k) = if x.s < e ∨ n < x.s ∨ x.l < 1 ∨ n - x.s < x.l then false else valL n (x.s + x.l) (ts.drop (k + 1)) := by
  obtain ⟨hk, rfl⟩ := List.getElem?_eq_some_iff.1 h
  rw [List.drop_eq_getElem_cons hk, valL]
set_option maxRecDepth 100000 in
set_option maxHeartbeats 1600000 in
theorem val_any (s : ByteArray) (ts : List TokS) (A : Option Addr) (c : Nat) (w : World) (F : Nat → Prop) (h : tkD.At w F A ts) (hF : ∀ b, F b → b < w.heap.size) (hm : ts.length ≤ maxLen) (hs : s.size ≤ 2000) :
    Calls Tryz.prog 31 #[.string s, .slice A ts.length c] w fun e w' => e = .returned (.bool (valL s.size 0 ts)) ∧ Below w.heap.size w w' := by
  unfold maxLen at hm
  obtain ⟨n, hn⟩ : ∃ n, ts.length = n := ⟨_, rfl⟩
  have HN := Lib.hid hn
  have HA := Lib.hid h
  have HF := Lib.hid hF
  rw [hn] at hm ⊢
  clear hn h hF
  go_enter Tryz.func31, Tryz.ntmps31
  go_wp2_with fail
  go_loopw [5, 10] (fun v i wr => ∃ (k : Nat) (ev : Int), k ≤ n ∧ i = .int .i64 k ∧ v = .int .i64 ev ∧ 0 ≤ ev ∧ ev ≤ s.size ∧ Hid (valL s.size 0 ts = valL s.size ev (ts.drop k)) ∧ Below w.heap.size w wr) (fun _ i _ => n - (intOf i).toNat)
  case atStart => exact ⟨0, 0, Nat.zero_le _, rfl, rfl, by omega, by omega, Lib.hid (by rw [List.drop_zero]), Below.refl _ _⟩
  case round =>
    obtain ⟨k, ev, hk, rfl, rfl, he0, he1, hv, hb⟩ := hrel
    by_cases hlt : k < n
    · have hkI : (k : Int) < n := by omega
      have hkl : k < ts.length := by rw [HN.out]; exact hlt
      obtain ⟨b, off, rfl, hbb, hc⟩ := flat_get HA.out k ts[k] (List.getElem?_eq_getElem hkl)
      have HV := Lib.hid (hv.out.trans (valL_drop _ _ ts k _ (List.getElem?_eq_getElem hkl)))
      generalize ts[k] = x at *
      obtain ⟨x0, x1, x2⟩ := x
      have hbl := HF.out b hbb
      have cc : ∀ j u, ([.int .i64 x0, .int .i64 x1, .int .i64 x2] : List Value)[j]? = some u → wr.cell? ⟨b, off + k * 3 + j, none⟩ = some u := fun j u hu => (hb.cell (p := ⟨b, _, none⟩) hbl).trans (hc j u hu)
      have c0 := cc 0 _ rfl
      have c1 := cc 1 _ rfl
      have c2 := cc 2 _ rfl
      rw [Nat.add_zero] at c0
      have HB := Lib.hid hb
      have hb2 := hb.size
      clear cc hc hbb hv hb
      by_cases g0 : x0 < ev
      · have hR : valL s.size 0 ts = false := by rw [HV.out, if_pos (Or.inl g0)]
        have HR := Lib.hid hR
        clear hR
        go_wp2_with fail
        go_ret
        exact ⟨by rw [HR.out]; rfl, HB.out.alloc HB.out.size _⟩
      · by_cases g1 : (s.size : Int) < x0
        · have hR : valL s.size 0 ts = false := by rw [HV.out, if_pos (Or.inr (Or.inl g1))]
          have HR := Lib.hid hR
          clear hR
          go_wp2_with fail
          go_ret
          exact ⟨by rw [HR.out]; rfl, HB.out.alloc HB.out.size _⟩
        · by_cases g2 : x1 < 1
          · have hR : valL s.size 0 ts = false := by rw [HV.out, if_pos (Or.inr (Or.inr (Or.inl g2)))]
            have HR := Lib.hid hR
            clear hR
            go_wp2_with fail
            go_ret
            exact ⟨by rw [HR.out]; rfl, HB.out.alloc HB.out.size _⟩
          · have h0 : 0 ≤ x0 := by omega
            have h1 : x0 ≤ s.size := by omega
            by_cases g3 : (s.size : Int) - x0 < x1
            · have hR : valL s.size 0 ts = false := by rw [HV.out, if_pos (Or.inr (Or.inr (Or.inr g3)))]
              have HR := Lib.hid hR
              clear hR
              go_wp2_with fail
              go_ret
              exact ⟨by rw [HR.out]; rfl, HB.out.alloc HB.out.size _⟩
            · have hR : valL s.size 0 ts = valL s.size (x0 + x1) (ts.drop (k + 1)) := by rw [HV.out, if_neg (by simp only; omega)]
              have HR := Lib.hid hR
              clear hR
              go_wp2_with fail
              go_roundw
              case rel => exact ⟨k + 1, x0 + x1, by omega, by go_num, by go_num, by omega, by omega, HR, HB.out.alloc HB.out.size _⟩
              case measure => simp [intOf]; omega
    · have hkI : ¬ (k : Int) < n := by omega
      have hR : valL s.size 0 ts = true := by rw [hv.out, List.drop_of_length_le (by rw [HN.out]; omega)]; rfl
      have HR := Lib.hid hR
      clear hR hv
      go_wp2_with fail
      go_ret
      exact ⟨by rw [HR.out]; rfl, hb⟩
end Go.Proofs.YtpibenilagloaaaGreatDoor
