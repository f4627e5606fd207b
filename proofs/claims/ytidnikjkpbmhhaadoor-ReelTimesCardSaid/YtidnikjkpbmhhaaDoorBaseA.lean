/- What every proof of this seat leans on, part 1. -/
import Derived.Orders
import Derived.LoopN
import Derived.Below
import Derived.Still
import Derived.KernelRfl
import Derived.Laws.World
import Derived.Laws.Cells
import Derived.Laws.Rows
import Derived.Calls
import Derived.CallsIn
import Derived.RangeFuncSeq
import Derived.Laws.Entries
import Derived.Laws.Sem
import Derived.Laws.CopyRow
import Derived.Laws.Append
import Derived.Laws.AppendOwn
import Derived.Maps.AppendAt
import Derived.Deep.Upon
import Derived.Laws.Tables
import Derived.Great.BuildSlice
import Derived.Laws.MakeOwn
import Derived.Laws.StructEq
import Derived.Laws.NewFold
import Derived.OrdersIn
/- The evaluator: what a function of the program answers, on abstract values; definitions alone. Its soundness: the texts behind this one. -/
namespace Go.Proofs.YtidnikjkpbmhhaaDoor
namespace Ev

/-- The kinds of data. -/
inductive Ty where
  | int | bool | last (a : Ty) | cons (a b : Ty) | slice (t : Ty) | arr (n : Nat) (t : Ty)
  deriving DecidableEq

@[reducible] def Ty.den : Ty → Type
  | .int => Int
  | .bool => Bool
  | .last a => a.den
  | .cons a b => a.den × b.den
  | .slice t => List t.den
  | .arr _ t => List t.den

def Ty.dflt : (t : Ty) → t.den
  | .int => (0 : Int)
  | .bool => false
  | .last a => a.dflt
  | .cons a b => (a.dflt, b.dflt)
  | .slice _ => []
  | .arr n t => List.replicate n t.dflt

def Ty.size : Ty → Nat
  | .int => 1
  | .bool => 1
  | .last a => a.size
  | .cons a b => a.size + b.size
  | .slice _ => 1
  | .arr n t => n * t.size

/-- A slice's marks: nil if empty; full (no room); the lineage that may grow in place. -/
structure Fl where
  z : Bool
  tg : Bool
  ow : Option (Nat × Nat)

inductive Stp where
  | fld (i off : Nat)
  | idx (i : Int) (sz n : Nat)

inductive AV where
  | poison
  | undef
  | int (n : Int)
  | bool (b : Bool)
  | agg (l : List AV)
  | arr (t : Ty) (n : Nat) (xs : List t.den)
  | sl (t : Ty) (f : Fl) (l : List t.den)
  | tup (l : List AV)
  | ref (k : Nat) (p : List Stp)
  | cref (v : AV) (p : List Stp)
  | fn (f : Nat) (fst cap : List AV)
  | map (k : Nat)
  | tok (i : Nat) (t : Ty) (d : t.den)

mutual
def enc : (t : Ty) → t.den → AV
  | .int, n => .int n
  | .bool, b => .bool b
  | .last a, x => .agg [enc a x]
  | .cons a b, x => .agg (enc a x.1 :: encT b x.2)
  | .slice t, l => .sl t ⟨false, false, none⟩ l
  | .arr n t, xs => .arr t n xs
def encT : (t : Ty) → t.den → List AV
  | .int, n => [.int n]
  | .bool, b => [.bool b]
  | .last a, x => [enc a x]
  | .cons a b, x => enc a x.1 :: encT b x.2
  | .slice t, l => [.sl t ⟨false, false, none⟩ l]
  | .arr n t, xs => [.arr t n xs]
end

mutual
def dec : (t : Ty) → AV → Option t.den
  | .int, .int n => some n
  | .bool, .bool b => some b
  | .last a, .agg [x] => dec a x
  | .cons a b, .agg (x :: r) =>
    match dec a x, decT b r with
    | some u, some v => some (u, v)
    | _, _ => none
  | .slice t, .sl t' _ l => if h : t' = t then some (h ▸ l) else none
  | .arr n t, .arr t' n' xs => if h : t' = t then (if n' = n then some (h ▸ xs) else none) else none
  | _, _ => none
def decT : (t : Ty) → List AV → Option t.den
  | .last a, [x] => dec a x
  | .cons a b, x :: r =>
    match dec a x, decT b r with
    | some u, some v => some (u, v)
    | _, _ => none
  | _, _ => none
end

mutual
/-- How many cells a value has. -/
def AV.size : AV → Nat
  | .agg l => sizeL l
  | .arr t n _ => n * t.size

  | _ => 1
def sizeL : List AV → Nat
  | [] => 0
  | v :: r => v.size + sizeL r
end

def getP : AV → List Stp → Option AV
  | v, [] => some v
  | .agg l, .fld i off :: p =>
    match l[i]? with
    | some x => if off = sizeL (l.take i) then getP x p else none
    | none => none
  | .agg l, .idx i sz _ :: p =>
    match l[i.toNat]? with
    | some x => if sizeL (l.take i.toNat) = i.toNat * sz then getP x p else none
    | none => none
  | .arr t n xs, .idx i sz m :: p => if sz = t.size ∧ m = n then getP (enc t (xs.getD i.toNat t.dflt)) p else none
  | _, _ => none
termination_by structural _ p => p

def setP : AV → List Stp → AV → Option AV
  | v, [], u => if u.size = v.size then some u else none
  | .agg l, .fld i off :: p, u =>
    match l[i]? with
    | some x => if off = sizeL (l.take i) then (match setP x p u with | some y => some (.agg (l.set i y)) | none => none) else none
    | none => none
  | .arr t n xs, .idx i sz m :: p, u =>
    if sz = t.size ∧ m = n then
      match setP (enc t (xs.getD i.toNat t.dflt)) p u with
      | some y => (match dec t y with | some d => some (.arr t n (xs.set i.toNat d)) | none => none)
      | none => none
    else none
  | _, _, _ => none
termination_by structural _ p => p

inductive Ob where
  | none
  | box (v : AV)
  | lin (v : Nat) (alive : Bool)
  | map (a b : Nat) (m : List AV)      -- what has been told to others, one behind the other

structure St where
  tmps : List AV
  objs : List Ob

/-- What is known of a type. -/
structure Ti where
  sz : Nat
  ag : Bool
  zero : Option AV
  flds : List (Nat × Nat)         -- a struct: each field's offset and type
  el : Option (Ty × Nat × Nat)   -- a slice: its element's kind, type, bytes
  ar : Option (Nat × Ty × Nat)
  bl : Bool                        -- truths
  eq : List Bool                   -- a struct or array of scalars that is compared: which cells are truths

abbrev Tbl := List (Nat × Ti)

def look : Tbl → Nat → Option Ti
  | [], _ => none
  | (j, i) :: r, t => if j = t then some i else look r t

def findA {α : Type} : List (Nat × α) → Nat → Option α
  | [], _ => none
  | (j, i) :: r, t => if j = t then some i else findA r t

inductive Ex where
  | norm | exit (id : Nat) | ret

/-- A function that tells what is ranged over: kind, and (by what it captures) a test and what is told. -/
structure It where
  t : Ty
  f : List AV → Option (Bool × List t.den)

/-- What an evaluation leans on: types, package-level variables, callees, which slots a loop keeps. -/
structure Ctx where
  T : Tbl
  G : List (Nat × AV)
  C : List (Nat × (List AV → Option (Bool × AV)))
  L : List (Nat × List Nat × List Nat)
  K : List (Nat × (List AV → (t : Ty) → t.den → List AV → Option (Bool × AV × List AV))) := []   -- values that are called and tell others something: by what has been told
  I : List (Nat × It) := []
  mkm : Option ((t : Ty) × t.den) := none   -- what a new map is a memo of
  up : Option (Nat × ((t : Ty) → t.den → AV → AV → Bool)) := none   -- what may be noted in a memo
  R : List (Nat × Bool) := []   -- a range over a function: do all rounds go on, or does the first one stop?

def elOf (T : Tbl) (t : Nat) : Option (Ty × Nat × Nat) :=
  match look T t with
  | some i => i.el
  | none => none

def constAV (T : Tbl) (t : Nat) : Value → AV
  | .int .i64 n => .int n
  | .bool b => .bool b
  | .slice none 0 0 =>
    match elOf T t with
    | some (e, _, _) => .sl e ⟨true, true, none⟩ []
    | none => .poison
  | _ => .poison

def trOf (s : St) : Option (List AV) := match s.objs.getD (s.objs.length - 1) .none with | .map _ _ l => some l | _ => none

def St.get (s : St) (t : Nat) : AV := s.tmps.getD t .undef
def St.put (s : St) (d : Option Nat) (v : AV) : St :=
  match d with
  | some d => { s with tmps := s.tmps.set d v }
  | none => s

def evO (X : Ctx) (s : St) (t : Nat) : Operand → AV
  | .tmp k => s.get k
  | .const v => constAV X.T t v
  | .global g =>
    match findA X.G g with
    | some v => .cref v []
    | none => .poison
  | .func f => .fn f [] []

def argsO (X : Ctx) (s : St) : List Nat → List Operand → List AV
  | t :: ts, o :: os => evO X s t o :: argsO X s ts os
  | [], o :: os => evO X s 0 o :: argsO X s [] os
  | _, [] => []

def w64 (n : Int) : Int := IntKind.wrap .i64 n

def bitsOf (op : BinOp) (x y : Int) : Option Int :=
  let a := BitVec.ofInt 64 x
  let b := BitVec.ofInt 64 y
  match op with
  | .and => some (w64 (a &&& b).toNat)
  | .or => some (w64 (a ||| b).toNat)
  | .xor => some (w64 (a ^^^ b).toNat)
  | .andNot => some (w64 (a &&& ~~~b).toNat)
  | _ => none

mutual
/-- Equality of scalars and structs of scalars. -/
def eqAV : AV → AV → Option Bool
  | .int a, .int b => some (decide (a = b))
  | .bool a, .bool b => some (a == b)
  | .agg l, .agg m => eqAL l m
  | _, _ => none
def eqAL : List AV → List AV → Option Bool
  | [], [] => some true
  | x :: l, y :: m =>
    match eqAV x y, eqAL l m with
    | some a, some b => some (a && b)
    | _, _ => none
  | _, _ => none
end

/-- The elements of an array, as numbers or truths alone, compared. -/
def eqArr : (t : Ty) → List t.den → List t.den → Option Bool
  | .int, xs, ys => some (decide (xs = ys))
  | .bool, xs, ys => some (decide (xs = ys))
  | _, _, _ => none

def eqRes : BinOp → Option Bool → Option (Bool × AV)
  | .eql, some r => some (true, .bool r)
  | .neq, some r => some (true, .bool (!r))
  | _, _ => none

/-- An operator: a test that must hold, and the value. -/
def binAV (op : BinOp) (a b : AV) : Option (Bool × AV) :=
  match a, b with
  | .int x, .int y =>
    match op with
    | .add => some (true, .int (w64 (x + y)))
    | .sub => some (true, .int (w64 (x - y)))
    | .mul => some (true, .int (w64 (x * y)))
    | .quo => some (!decide (y = 0), .int (w64 (x.tdiv y)))
    | .rem => some (!decide (y = 0), .int (x.tmod y))
    | .eql => some (true, .bool (decide (x = y)))
    | .neq => some (true, .bool (!decide (x = y)))
    | .lss => some (true, .bool (decide (x < y)))
    | .leq => some (true, .bool (decide (x ≤ y)))
    | .gtr => some (true, .bool (decide (y < x)))
    | .geq => some (true, .bool (decide (y ≤ x)))
    | .shl => some (decide (0 ≤ y), .int (w64 (x * 2 ^ (min y.toNat 64))))
    | .shr => some (decide (0 ≤ y), .int (x.fdiv (2 ^ (min y.toNat 64))))
    | op => match bitsOf op x y with | some r => some (true, .int r) | none => none
  | .sl _ f l, .sl _ g [] =>
    match op with
    | .eql => some ((f.z || !decide (l.length = 0)) && g.z, .bool (decide (l.length = 0)))
    | .neq => some ((f.z || !decide (l.length = 0)) && g.z, .bool (!decide (l.length = 0)))
    | _ => none
  | .arr t n xs, .arr t' n' ys =>
    if h : t' = t then
      match op, eqArr t xs (h ▸ ys) with
      | .eql, some r => some (decide (n = n'), .bool r)
      | .neq, some r => some (decide (n = n'), .bool (!r))
      | _, _ => none
    else none
  | a, b => eqRes op (eqAV a b)

mutual
/-- Which cells are truths, of numbers and truths alone. -/
def kindsAV : AV → Option (List Bool)
  | .int _ => some [false]
  | .bool _ => some [true]
  | .agg l => kindsL l
  | .arr .int n _ => some (List.replicate n false)
  | .arr .bool n _ => some (List.replicate n true)
  | _ => none
def kindsL : List AV → Option (List Bool)
  | [] => some []
  | v :: l =>
    match kindsAV v, kindsL l with
    | some a, some b => some (a ++ b)
    | _, _ => none
end

/-- The operands fit the type that is named. -/
def binT (T : Tbl) (t : Nat) : AV → Bool
  | .int _ => true
  | .sl .. => (elOf T t).isSome
  | .bool _ => match look T t with | some i => i.bl | none => false
  | v => match look T t with | some i => decide (i.eq ≠ [] ∧ kindsAV v = some i.eq) | none => false

def ldAV (s : St) : AV → Option AV
  | .ref k p => match s.objs.getD k .none with | .box v => getP v p | _ => none
  | .cref v p => getP v p
  | _ => none

def isAg : AV → Bool
  | .agg _ | .arr .. => true
  | _ => false

/-- A loaded value fits its type. -/
def fits (T : Tbl) (t : Nat) (v : AV) : Bool :=
  match look T t with
  | some i => decide (i.sz = v.size) && (i.ag == isAg v)
  | none => false

mutual
/-- Each cell holds one cell's value. -/
def clean : AV → Bool
  | .poison => false
  | .undef => false
  | .tup _ => false
  | .map _ => false
  | .agg l => cleanL l
  | _ => true
def cleanL : List AV → Bool
  | [] => true
  | v :: l => clean v && cleanL l
end

def addStp : AV → Stp → Option AV
  | .ref k p, x => some (.ref k (p ++ [x]))
  | .cref v p, x => some (.cref v (p ++ [x]))
  | _, _ => none

def setAll (T : Tbl) (fl : List (Nat × Nat)) (l : List AV) : List (Nat × AV) → Option (List AV)
  | [] => some l
  | (i, v) :: r =>
    match l[i]?, fl[i]? with
    | some u, some (off, ft) =>
      match look T ft with
      | some fi => if u.size = v.size ∧ fi.sz = v.size ∧ off = sizeL (l.take i) ∧ clean v = true then setAll T fl (l.set i v) r else none
      | none => none
    | _, _ => none

def fieldT (fl : List (Nat × Nat)) (i : Nat) : Nat := match fl[i]? with | some (_, t) => t | none => 0

/-- The parts of a slice literal: all places in their order. -/
def decAll (t : Ty) : Nat → List (Nat × AV) → Option (List t.den)
  | _, [] => some []
  | k, (i, v) :: r =>
    if i = k then
      match dec t v, decAll t (k + 1) r with
      | some d, some l => some (d :: l)
      | _, _ => none
    else none

def maxAV : AV → List AV → Option AV
  | .int a, .int b :: r => maxAV (.int (if a < b then b else a)) r
  | .int a, [] => some (.int a)
  | _, _ => none
termination_by structural _ l => l

def minAV : AV → List AV → Option AV
  | .int a, .int b :: r => minAV (.int (if b < a then b else a)) r
  | .int a, [] => some (.int a)
  | _, _ => none
termination_by structural _ l => l

def roomFor : Int := 70368744177664
/-- Elements that have room, so many bytes each. -/
def roomy (n m b : Nat) : Bool := Nat.ble ((n + m) * b) 70368744177664

mutual
/-- What is handed to a callee, or back: no growing in place, no box. -/
def stAV : AV → AV
  | .sl t f l => .sl t ⟨f.z, f.tg, none⟩ l
  | .ref _ _ => .poison
  | .map _ => .poison
  | .agg l => .agg (stL l)
  | .tup l => .tup (stL l)
  | .fn f a b => .fn f (stL a) (stL b)
  | .cref v p => .cref (stAV v) p
  | v => v
def stL : List AV → List AV
  | [] => []
  | v :: l => stAV v :: stL l
end

def linOf (o : Ob) : Nat :=
  match o with
  | .lin v _ => v + 1
  | _ => 0

/-- append(x, y...): the test, the slice, the objects. -/
def appAV (T : Tbl) (s : St) (ty : Nat) (d : Nat) (x y : AV) : Option (Bool × AV × List Ob) :=
  match x, y with
  | .sl t f l, .sl t' _ m =>
    if h : t' = t then
      match elOf T ty with
      | some (e, _, by_) =>
        if e = t then
          match s.objs.getD d .none with
          | .box _ => none
          | .map .. => none
          | ob =>
            let ok := roomy l.length m.length by_
            let v := linOf ob
            let r := AV.sl t ⟨f.z, false, some (d, v)⟩ (l ++ h ▸ m)
            match f.ow with
            | some (k, u) =>
              match s.objs.getD k .none with
              | .lin cu true => if u = cu then some (ok, r, (s.objs.set k (.lin cu false)).set d (.lin v true)) else none
              | _ => none
            | none => some (f.tg && ok, r, s.objs.set d (.lin v true))
        else none
      | none => none
    else none
  | _, _ => none

def mkSl (T : Tbl) (s : St) (ty : Nat) (d : Nat) (n c : AV) : Option (Bool × AV × List Ob) :=
  match n, c, elOf T ty with
  | .int n, .int c, some (e, _, by_) =>
    match s.objs.getD d .none with
    | .box _ => none
    | .map .. => none
    | ob =>
      some (decide (0 ≤ n) && (decide (n ≤ c) && decide (c * (by_ : Int) ≤ roomFor)), .sl e ⟨false, false, some (d, linOf ob)⟩ (List.replicate n.toNat e.dflt), s.objs.set d (.lin (linOf ob) true))
  | _, _, _ => none

def slAV (x : AV) (lo hi mx : Option AV) : Option (Bool × AV) :=
  match x with
  | .sl t f l =>
    match lo, hi, mx with
    | none, none, none => some (true, .sl t f l)
    | none, some (.int h), none => some (decide (0 ≤ h) && decide (h ≤ l.length), .sl t ⟨false, false, none⟩ (l.take h.toNat))
    | some (.int a), none, none => some (decide (0 ≤ a) && decide (a ≤ l.length), .sl t ⟨false, false, none⟩ (l.drop a.toNat))
    | some (.int a), some (.int h), none => some (decide (0 ≤ a) && (decide (a ≤ h) && decide (h ≤ l.length)), .sl t ⟨false, false, none⟩ ((l.take h.toNat).drop a.toNat))
    | none, some (.int h), some (.int m) => some (decide (h = m) && (decide (0 ≤ h) && decide (h ≤ l.length)), .sl t ⟨f.z && decide (h = l.length), true, none⟩ (l.take h.toNat))
    | some (.int a), some (.int h), some (.int m) => some (decide (h = m) && (decide (0 ≤ a) && (decide (a ≤ h) && decide (h ≤ l.length))), .sl t ⟨f.z && (decide (a = 0) && decide (h = l.length)), true, none⟩ ((l.take h.toNat).drop a.toNat))
    | _, _, _ => none
  | _ => none

/-- The value of an operation (but for a choice): a test that must hold, the value, the objects behind. -/
def evVal (X : Ctx) (s : St) (o : Oper) : Option (Bool × AV × List Ob) :=
  let T := X.T
  let p (v : Option AV) : Option (Bool × AV × List Ob) := match v with | some v => some (true, v, s.objs) | none => none
  let q (r : Option (Bool × AV)) : Option (Bool × AV × List Ob) := match r with | some (b, v) => some (b, v, s.objs) | none => none
  match o.op with
  | .move x | .assign x => some (true, evO X s o.type x, s.objs)
  | .alloc e =>
    match o.dst, look T e with
    | some d, some i =>
      match i.zero, s.objs.getD d .none with
      | some z, .none => if d < s.objs.length then some (true, .ref d [], s.objs.set d (.box z)) else none
      | _, _ => none
    | _, _ => none
  | .box e x =>
    match o.dst with
    | some d =>
      match s.objs.getD d .none with
      | .none => if fits T e (evO X s e x) = true ∧ clean (evO X s e x) = true ∧ d < s.objs.length then some (true, .ref d [], s.objs.set d (.box (evO X s e x))) else none
      | _ => none
    | none => none
  | .build t parts =>
    match look T t with
    | some i =>
      match i.zero, i.ar with
      | some (.agg z), none => if i.flds.isEmpty = true then none else p (match setAll T i.flds z (parts.toList.map fun y => (y.1, evO X s (fieldT i.flds y.1) y.2)) with | some l => some (.agg l) | none => none)
      | some (.arr _ _ _), some (n, te, eid) => p (match decAll te 0 (parts.toList.map fun y => (y.1, evO X s eid y.2)) with | some l => (if l.length = n ∧ i.sz = n * te.size then some (.arr te n l) else none) | none => none)
      | _, _ => none
    | none => none
  | .buildSlice t len parts =>
    match elOf T t with
    | some (e, eid, by_) =>
      match decAll e 0 (parts.toList.map fun y => (y.1, evO X s eid y.2)) with
      | some l => if l.length = len ∧ len ≤ 1000 ∧ e.size ≤ 1000 ∧ (len : Int) * (by_ : Int) ≤ 1048576 then some (true, .sl e ⟨!decide (len = 0), true, none⟩ l, s.objs) else none
      | none => none
    | none => none
  | .load t a => p (match ldAV s (evO X s 0 a) with | some v => (if fits T t v then some v else none) | none => none)
  | .store t a x =>
    match evO X s 0 a with
    | .ref k pth =>
      match s.objs.getD k .none with
      | .box v =>
        match fits T t (evO X s t x) && clean (evO X s t x), setP v pth (evO X s t x) with
        | true, some u => some (true, .undef, s.objs.set k (.box u))
        | _, _ => none
      | _ => none
    | _ => none
  | .binOp op t x y _ => if binT T t (evO X s t x) = true ∧ binT T t (evO X s t y) = true then q (binAV op (evO X s t x) (evO X s t y)) else none
  | .unOp .not _ x => p (match evO X s 0 x with | .bool b => some (.bool (!b)) | _ => none)
  | .unOp .neg _ x => p (match evO X s 0 x with | .int n => some (.int (w64 (0 - n))) | _ => none)
  | .extract x i => p (match evO X s 0 x with | .tup l => l[i]? | _ => none)
  | .fieldAddr t x f =>
    match look T t with
    | some i => p (match i.flds[f]? with | some (off, _) => addStp (evO X s 0 x) (.fld f off) | none => none)
    | none => none
  | .field t x f =>
    match look T t with
    | some i =>
      p (match evO X s 0 x, i.flds[f]? with
        | .agg l, some (off, ft) =>
          match l[f]? with
          | some v => if off = sizeL (l.take f) ∧ fits T ft v = true then some v else none
          | none => none
        | _, _ => none)
    | none => none
  | .indexAddr t x i =>
    match evO X s t x, evO X s 0 i with
    | .sl te _ l, .int n =>
      match elOf T t with
      | some (te', _, _) => if te' = te then some (decide (0 ≤ n) && decide (n < l.length), .cref (enc te (l.getD n.toNat te.dflt)) [], s.objs) else none
      | none => none
    | v, .int n =>
      match look T t with
      | some ti =>
        match ti.ar with
        | some (m, te, _) => (match addStp v (.idx n te.size m) with | some r => some (decide (0 ≤ n) && decide (n < m), r, s.objs) | none => none)
        | none => none
      | none => none
    | _, _ => none
  | .index t x i =>
    match evO X s t x, evO X s 0 i, look T t with
    | .arr te m xs, .int n, some ti =>
      (match ti.ar with
        | some (m', te', _) => if m' = m ∧ te' = te then some (decide (0 ≤ n) && decide (n < m), enc te (xs.getD n.toNat te.dflt), s.objs) else none
        | none => none)
    | _, _, _ => none
  | .slice t x lo hi mx =>
    match evO X s t x, elOf T t with
    | .sl te f l, some (te', _, _) => if te' = te then q (slAV (.sl te f l) (lo.map (evO X s 0)) (hi.map (evO X s 0)) (mx.map (evO X s 0))) else none
    | _, _ => none
  | .makeFunc (.func f) first cap => p (some (.fn f (first.toList.map (evO X s 0)) (cap.toList.map (evO X s 0))))
  | .makeMap _ none =>
    match X.mkm with
    | some d => some (true, .tok 0 d.1 d.2, s.objs)
    | none => none
  | .mapUpdate t m k v =>
    match X.up, evO X s 0 m with
    | some u, .tok 0 mt d => if u.1 = t then some (u.2 mt d (stAV (evO X s 0 k)) (stAV (evO X s 0 v)), .undef, s.objs) else none
    | _, _ => none
  | .makeSlice t n c => match o.dst with | some d => if d < s.objs.length then mkSl T s t d (evO X s 0 n) (evO X s 0 c) else none | none => none
  | .call { callee := .builtin .len, args, argTypes } =>
    match args.toList, argTypes.toList with
    | [x], [t] =>
      match evO X s t x with
      | .sl _ _ l => p (match elOf T t with | some _ => some (.int l.length) | none => none)
      | .arr _ n _ => p (match look T t with | some i => (match i.ar with | some (m, _, _) => (if m = n then some (.int n) else none) | none => none) | none => none)
      | _ => none
    | _, _ => none
  | .call { callee := .builtin .max, args, .. } =>
    match args.toList with
    | x :: r => p (maxAV (evO X s 0 x) (r.map (evO X s 0)))
    | _ => none
  | .call { callee := .builtin .min, args, .. } =>
    match args.toList with
    | x :: r => p (minAV (evO X s 0 x) (r.map (evO X s 0)))
    | _ => none
  | .call { callee := .builtin .append, args, argTypes } =>
    match o.dst, args.toList, argTypes.toList with
    | some d, [x, y], [t, t'] => if t = t' ∧ d < s.objs.length then appAV T s t d (evO X s t x) (evO X s t y) else none
    | _, _, _ => none
  | .call { callee := .value f, args, argTypes } =>
    match evO X s 0 f with
    | .fn f first cap =>
      match findA X.C f with
      | some g => q (g (stL first ++ (stL (argsO X s argTypes.toList args.toList) ++ stL cap)))
      | none => none
    | .tok i t d =>
      match findA X.K i, s.objs.getD (s.objs.length - 1) .none with
      | some g, .map a b l =>
        match g l t d (stL (argsO X s argTypes.toList args.toList)) with
        | some (tt, v, m) => some (tt, v, s.objs.set (s.objs.length - 1) (.map a b (l ++ m)))
        | none => none
      | _, _ => none
    | _ => none
  | _ => none

/-- One operation. -/
def evOp {ρ : Type} (X : Ctx) (s : St) (o : Oper) (K : St → Option ρ) : Option ρ :=
  match o.op with
  | .pick c a b =>
    match evO X s 0 c with
    | .bool t =>
      let s1 (t : Bool) : St := match c with | .tmp k => { s with tmps := s.tmps.set k (.bool t) } | _ => s
      bif t then K ((s1 true).put o.dst (evO X s o.type a)) else K ((s1 false).put o.dst (evO X s o.type b))
    | _ => none
  | _ =>
    match evVal X s o with
    | some (t, v, obs) => bif t then K { tmps := (s.put o.dst v).tmps, objs := obs } else none
    | none => none

/-- An operation, if its guard wants it. -/
def evG {ρ : Type} (X : Ctx) (ops : List Oper) (s : St) (o : Oper) (K : St → Option ρ) : Option ρ :=
  match o.guard with
  | none => evOp X s o K
  | some (j, want) =>
    match ops[j]? with
    | some oj =>
      match oj.dst with
      | some k =>
        match s.get k with
        | .bool t =>
          bif t then
            (if want = true then evOp X { s with tmps := s.tmps.set k (.bool true) } o K else K ({ s with tmps := s.tmps.set k (.bool true) }.put o.dst .undef))
          else
            (if want = false then evOp X { s with tmps := s.tmps.set k (.bool false) } o K else K ({ s with tmps := s.tmps.set k (.bool false) }.put o.dst .undef))
        | .undef => K (s.put o.dst .undef)
        | _ => none
      | none => none
    | none => none

def evOps {ρ : Type} (X : Ctx) (ops : List Oper) : List Oper → St → (St → Option ρ) → Option ρ
  | [], s, K => K s
  | o :: r, s, K => evG X ops s o fun s => evOps X ops r s K

/-! Regions that draw their order. -/

def looksL (ops : List Oper) (o : Oper) : List Nat :=
  (o.op.operands.toList.filterMap fun | .tmp t => some t | _ => none) ++
  (match o.guard with
   | some (g, _) => (match ops[g]? with | some og => (match og.dst with | some d => [d] | none => []) | none => [])
   | none => [])

def elemN (l : List Nat) (k : Nat) : Bool :=
  match l with
  | [] => false
  | x :: r => if x = k then true else elemN r k

def apartL (ops : List Oper) (x y : Oper) : Bool :=
  (match x.dst with
   | some d => !(elemN (looksL ops y) d) && (match y.dst with | some e => !decide (e = d) | none => true)
   | none => true) &&
  (match y.dst with
   | some d => !(elemN (looksL ops x) d)
   | none => true)

/-- 0: no object; 1: reads one; 2: a new box; 3: a store; 4: a slice that may grow; 5: a value is called that may tell others something. -/
def clsO (tk : Bool) : Op → Nat
  | .load _ _ => 1
  | .alloc _ => 2
  | .box _ _ => 2
  | .store _ _ _ => 3
  | .makeSlice _ _ _ => 4
  | .call { callee := .builtin .append, .. } => 4
  | .call { callee := .value f, .. } => (match f with | .func _ => 0 | _ => if tk = true then 5 else 0)
  | _ => 0

def compatN : Nat → Nat → Bool
  | 0, _ => true
  | _, 0 => true
  | 1, 1 => true
  | 1, 2 => true
  | 2, 1 => true
  | 2, 2 => true
  | 1, 4 => true
  | 4, 1 => true
  | 2, 3 => true
  | 3, 2 => true
  | 2, 4 => true
  | 4, 2 => true
  | 3, 4 => true
  | 4, 3 => true
  | 5, 1 => true
  | 1, 5 => true
  | 5, 2 => true
  | 2, 5 => true
  | 5, 3 => true
  | 3, 5 => true
  | 5, 4 => true
  | 4, 5 => true
  | _, _ => false

def edgeL (o : Oper) (k : Nat) : Bool := o.after.toList.any fun e => Region.binds .any e && decide (e.on = k)

/-- The address that an operation reads or writes. -/
def adrO : Op → Option Operand
  | .load _ a => some a
  | .store _ a _ => some a
  | _ => none

/-- Which box an operand points into, as far as a region leaves it; none: no box. -/
def boxOf (s : St) (ops : List Oper) : Operand → Option (Option Nat)
  | .tmp t =>
    if elemN (ops.filterMap (·.dst)) t then none else
    match s.get t with
    | .ref k _ => some (some k)
    | .cref _ _ => some none
    | _ => none
  | .global _ => some none
  | _ => none

/-- A load and a store of different boxes. -/
def farL (s : St) (ops : List Oper) (a b : Op) : Bool :=
  match adrO a, adrO b with
  | some x, some y =>
    match boxOf s ops x, boxOf s ops y with
    | some (some k), some (some j) => !decide (k = j)
    | some none, some _ => true
    | some _, some none => true
    | _, _ => false
  | _, _ => false

def freeL (s : St) (tk : Bool) (ops : List Oper) (k : Nat) (ok : Oper) : List Oper → Bool
  | [] => true
  | oj :: r => (edgeL oj k || (apartL ops ok oj && (compatN (clsO tk ok.op) (clsO tk oj.op) || farL s ops ok.op oj.op))) && freeL s tk ops k ok r

/-- The order of the text is one that may be drawn, and any other comes to the same. -/
def lexC (s : St) (tk : Bool) (ops : List Oper) : List Oper → Nat → Bool
  | [], _ => true
  | o :: r, k => (o.after.toList.all fun e => !(Region.binds .any e) || decide (e.on < k)) && (freeL s tk ops k o r && lexC s tk ops r (k + 1))

def Ctx.tk (X : Ctx) : Bool := match X.K with | [] => false | _ => true

/-! Loops: what a round forgets. -/

def dstsOps (ops : Array Oper) : List Nat := ops.toList.filterMap (·.dst)
def dsts : Code → List Nat
  | .region _ ops _ => dstsOps ops
  | .seq a b => dsts a ++ dsts b
  | .cond _ a b => dsts a ++ dsts b
  | .block _ b => dsts b
  | .loop b => dsts b
  | .scope b => dsts b
  | .rangeFunc _ ps a b => ps.toList ++ (dsts a ++ dsts b)
  | _ => []
def firstReg : Code → Nat
  | .region id _ _ => id
  | .seq a _ => firstReg a
  | .cond _ a _ => firstReg a
  | .block _ b => firstReg b
  | .loop b => firstReg b
  | .scope b => firstReg b
  | _ => 0

def memN (l : List Nat) (k : Nat) : Bool :=
  match l with
  | [] => false
  | x :: r => if x = k then true else memN r k

mutual
def swAV (w : List Nat) (objs : List Ob) : AV → AV
  | .ref k p => bif memN w k then .poison else .ref k p
  | .map k => bif memN w k then .poison else .map k
  | .sl t f l =>
    match f.ow with
    | none => .sl t f l
    | some (k, v) =>
      match objs.getD k .none with
      | .lin cv true => .sl t ⟨f.z, f.tg, if v = cv then some (k, 0) else none⟩ l
      | _ => .sl t ⟨f.z, f.tg, none⟩ l
  | .agg l => .agg (swL w objs l)
  | .tup l => .tup (swL w objs l)
  | .fn f a b => .fn f (swL w objs a) (swL w objs b)
  | .cref v p => .cref (swAV w objs v) p
  | v => v
def swL (w : List Nat) (objs : List Ob) : List AV → List AV
  | [] => []
  | v :: r => swAV w objs v :: swL w objs r
end

def swOb (w : List Nat) (objs : List Ob) (i : Nat) : Ob → Ob
  | .box v => bif memN w i then .none else .box (swAV w objs v)
  | .map a b m => .map a b m
  | .lin _ a => .lin 0 a
  | .none => .none

def swTs (w : List Nat) (objs : List Ob) : Nat → List AV → List AV
  | _, [] => []
  | i, v :: r => (bif memN w i then .poison else swAV w objs v) :: swTs w objs (i + 1) r
def swObs (w : List Nat) (objs : List Ob) : Nat → List Ob → List Ob
  | _, [] => []
  | i, o :: r => swOb w objs i o :: swObs w objs (i + 1) r

def St.mask1 (w : List Nat) (s : St) : St := ⟨swTs w s.objs 0 s.tmps, swObs w s.objs 0 s.objs⟩

mutual
/-- No marks at all. -/
def wkAV : AV → AV
  | .sl t _ l => .sl t ⟨false, false, none⟩ l
  | .agg l => .agg (wkL l)
  | .tup l => .tup (wkL l)
  | .fn f a b => .fn f (wkL a) (wkL b)
  | .cref v p => .cref (wkAV v) p
  | v => v
def wkL : List AV → List AV
  | [] => []
  | v :: r => wkAV v :: wkL r
end
def softTs (u : List Nat) : Nat → List AV → List AV
  | _, [] => []
  | i, v :: r => (bif memN u i then wkAV v else v) :: softTs u (i + 1) r
def St.soft (u : List Nat) (s : St) : St := ⟨softTs u 0 s.tmps, s.objs⟩
def St.mask (w : List Nat × List Nat) (s : St) : St := (s.soft w.2).mask1 w.1

def loopN {ρ : Type} (B : St → (Ex → St → Option ρ) → Option ρ) (w : List Nat × List Nat) : Nat → St → (Ex → St → Option ρ) → Option ρ
  | 0, _, _ => none
  | n + 1, s, K => B s fun e s' =>
    match e with
    | .norm => loopN B w n (s'.mask w) K
    | .exit j => K (.exit j) s'
    | .ret => K .ret s'

def keepOf (L : List (Nat × List Nat × List Nat)) (c : Code) : List Nat × List Nat := match findA L (firstReg c) with | some l => l | none => ([], [])

def seqK {ρ : Type} (B : St → (Ex → St → Option ρ) → Option ρ) (K : Ex → St → Option ρ) : Ex → St → Option ρ
  | .norm, s => B s K
  | .exit j, s => K (.exit j) s
  | .ret, s => K .ret s
def blockK {ρ : Type} (id : Nat) (K : Ex → St → Option ρ) : Ex → St → Option ρ
  | .norm, s => K .norm s
  | .exit j, s => if j = id then K .norm s else K (.exit j) s
  | .ret, s => K .ret s

/-! A range over a function. -/
def quietOb : Ob → Ob
  | .lin v _ => .lin v false
  | o => o
/-- No slice grows where it stands any more. -/
def St.quiet (s : St) : St := ⟨s.tmps, s.objs.map quietOb⟩
def asgK {ρ : Type} (B : St → (Ex → St → Option ρ) → Option ρ) (K : Ex → St → Option ρ) : Ex → St → Option ρ
  | .norm, s => B s K
  | _, _ => none
def rangeT {δ ρ : Type} (B : δ → St → (Ex → St → Option ρ) → Option ρ) (w : List Nat × List Nat) : List δ → St → (Ex → St → Option ρ) → Option ρ
  | [], s, K => K .norm s
  | x :: xs, s, K => B x s fun e s' =>
    match e with
    | .norm => rangeT B w xs (s'.quiet.mask w) K
    | _ => none
def lcase {δ ρ : Type} (xs : List δ) (z : Option ρ) (f : δ → Option ρ) : Option ρ := match xs with | [] => z | x :: _ => f x
def stopK {ρ : Type} (w : List Nat × List Nat) (K : Ex → St → Option ρ) : Ex → St → Option ρ
  | .norm, _ => none
  | .exit j, s => K (.exit j) (s.quiet.mask w)
  | .ret, s => K .ret (s.quiet.mask w)
def rangeF {δ ρ : Type} (B : δ → St → (Ex → St → Option ρ) → Option ρ) (w : List Nat × List Nat) (xs : List δ) (s : St) (K : Ex → St → Option ρ) : Option ρ :=
  lcase xs (K .norm s) fun x => B x s (stopK w K)
def noRange : Code → Bool
  | .seq a b => noRange a && noRange b
  | .cond _ a b => noRange a && noRange b
  | .block _ b => noRange b
  | .loop b => noRange b
  | .scope b => noRange b
  | .rangeFunc .. => false
  | _ => true
def allMem (l w : List Nat) : Bool :=
  match l with
  | [] => true
  | x :: r => memN w x && allMem r w

def evC {ρ : Type} (X : Ctx) (N : Nat) : Code → St → (Ex → St → Option ρ) → Option ρ
  | .skip, s, K => K .norm s
  | .label _, s, K => K .norm s
  | .region _ ops dr, s, K =>
    if dr = false ∨ lexC s X.tk ops.toList ops.toList 0 = true then evOps X ops.toList ops.toList s (K .norm) else none
  | .seq a b, s, K => evC X N a s (seqK (evC X N b) K)
  | .cond c a b, s, K =>
    match evO X s 0 c with
    | .bool t =>
      let s1 (t : Bool) : St := match c with | .tmp k => { s with tmps := s.tmps.set k (.bool t) } | _ => s
      bif t then evC X N a (s1 true) K else evC X N b (s1 false) K
    | _ => none
  | .block id b, s, K => evC X N b s (blockK id K)
  | .loop b, s, K => loopN (evC X N b) (keepOf X.L b) N (s.mask (keepOf X.L b)) K
  | .scope b, s, K => evC X N b s K
  | .exit j, s, K => K (.exit j) s
  | .ret, s, K => K .ret s
  | .rangeFunc g ps assign body, s, K =>
    match evO X s 0 g, ps.toList with
    | .fn f [] cap, [p] =>
      match findA X.I f, findA X.R (firstReg body) with
      | some it, some b =>
        match it.f (stL cap) with
        | some (t, xs) =>
          bif noRange assign && (noRange body && allMem (p :: (dsts assign ++ dsts body)) (keepOf X.L body).1) then
            bif t then
              bif b then rangeT (fun x s K => evC X N assign (s.put (some p) (enc it.t x)) (asgK (evC X N body) K)) (keepOf X.L body) xs (s.quiet.mask (keepOf X.L body)) K
              else rangeF (fun x s K => evC X N assign (s.put (some p) (enc it.t x)) (asgK (evC X N body) K)) (keepOf X.L body) xs (s.quiet.mask (keepOf X.L body)) K
            else none
          else none
        | none => none
      | _, _ => none
    | _, _ => none
  | _, _, _ => none

/-! Parts of the code, and what stands behind them. -/
def bodyOf (fn : Func) : Code := match fn.body with | some c => c | none => .skip
def sub : List (Nat × Nat) → Code → Code
  | [], c => c
  | (0, _) :: p, .seq a _ => sub p a
  | _ :: p, .seq _ b => sub p b
  | (0, _) :: p, .cond _ a _ => sub p a
  | _ :: p, .cond _ _ b => sub p b
  | _ :: p, .block _ b => sub p b
  | _ :: p, .loop b => sub p b
  | _ :: p, .scope b => sub p b
  | _ :: _, c => c
def loopK {ρ : Type} (B : St → (Ex → St → Option ρ) → Option ρ) (w : List Nat × List Nat) (n : Nat) (K : Ex → St → Option ρ) : Ex → St → Option ρ
  | .norm, s => loopN B w n (s.mask w) K
  | .exit j, s => K (.exit j) s
  | .ret, s => K .ret s
def ctxK {ρ : Type} (X : Ctx) (N : Nat) : List (Nat × Nat) → Code → (Ex → St → Option ρ) → Ex → St → Option ρ
  | [], _, K => K
  | (0, _) :: p, .seq a b, K => ctxK X N p a (seqK (evC X N b) K)
  | _ :: p, .seq _ b, K => ctxK X N p b K
  | (0, _) :: p, .cond _ a _, K => ctxK X N p a K
  | _ :: p, .cond _ _ b, K => ctxK X N p b K
  | _ :: p, .block id b, K => ctxK X N p b (blockK id K)
  | (_, m) :: p, .loop b, K => ctxK X N p b (loopK (evC X N b) (keepOf X.L b) m K)
  | _ :: p, .scope b, K => ctxK X N p b K
  | _ :: _, _, K => K

/-! What is handed back: a box that nobody turns any more is memory like any other. -/
mutual
def frAV (obs : List Ob) : AV → AV
  | .sl t f l => .sl t ⟨f.z, f.tg, none⟩ l
  | .ref k p => match obs.getD k .none with | .box v => .cref (stAV v) p | _ => .poison
  | .map _ => .poison
  | .agg l => .agg (frL obs l)
  | .tup l => .tup (frL obs l)
  | .fn f a b => .fn f (frL obs a) (frL obs b)
  | .cref v p => .cref (stAV v) p
  | v => v
def frL (obs : List Ob) : List AV → List AV
  | [] => []
  | v :: l => frAV obs v :: frL obs l
end

def resV (X : Ctx) (s : St) : ResultVar → Option AV
  | .tmp t => some (s.get t)
  | .cell a t => match ldAV s (s.get a) with | some v => (if fits X.T t v then some v else none) | none => none
def resVs (X : Ctx) (s : St) : List ResultVar → Option (List AV)
  | [] => some []
  | r :: l =>
    match resV X s r, resVs X s l with
    | some v, some m => some (v :: m)
    | _, _ => none
def resAV (X : Ctx) (fn : Func) (s : St) : Option AV :=
  match resVs X s fn.results.toList with
  | some [v] => some (frAV s.objs v)
  | some l => some (.tup (frL s.objs l))
  | none => none

def st0 (fn : Func) (args : List AV) : St := ⟨args ++ List.replicate (fn.ntmps - args.length) .undef, List.replicate fn.ntmps .none⟩

def finK (X : Ctx) (fn : Func) : Ex → St → Option AV
  | .norm, s => resAV X fn s
  | .ret, s => resAV X fn s
  | .exit _, _ => none

/-- What a function answers. -/
def evF (X : Ctx) (N : Nat) (fn : Func) (args : List AV) : Option AV :=
  match fn.body with
  | some c => evC X N c (st0 fn args) (finK X fn)
  | none => none

/-- A function that tells others: the last object is what has been told. -/
def st1T (fn : Func) (args : List AV) : St := ⟨args ++ List.replicate (fn.ntmps - args.length) .undef, List.replicate fn.ntmps .none ++ [.map 0 0 []]⟩

def finT (X : Ctx) (fn : Func) : Ex → St → Option (AV × List AV)
  | .norm, s => match resAV X fn s, trOf s with | some v, some l => some (v, l) | _, _ => none
  | .ret, s => match resAV X fn s, trOf s with | some v, some l => some (v, l) | _, _ => none
  | .exit _, _ => none

def evT (X : Ctx) (N : Nat) (fn : Func) (args : List AV) : Option (AV × List AV) :=
  match fn.body with
  | some c => evC X N c (st1T fn args) (finT X fn)
  | none => none

/-! Boxes that nobody turns any more become memory; a closure that names itself becomes a token. -/
structure Frz where
  ks : List Nat
  k : Nat          -- the box of the closure that names itself
  j : Nat          -- where it does
  f : Nat
  i : Nat
  t : Ty
  d : List AV → Option t.den

mutual
def fzAV (c : Nat → Option AV) : AV → AV
  | .ref k p => match c k with | some v => .cref v p | none => .ref k p
  | .agg l => .agg (fzL c l)
  | .tup l => .tup (fzL c l)
  | .fn f a b => .fn f (fzL c a) (fzL c b)
  | .cref v p => .cref (fzAV c v) p
  | v => v
def fzL (c : Nat → Option AV) : List AV → List AV
  | [] => []
  | v :: r => fzAV c v :: fzL c r
end

def contOf (s : St) (z : Frz) (self : AV) (k : Nat) : Option AV :=
  bif memN z.ks k then (if k = z.k then some self else match s.objs.getD k .none with | .box v => some (stAV v) | _ => none) else none

def fzOb (c : Nat → Option AV) (ks : List Nat) (i : Nat) : Ob → Ob
  | .box v => bif memN ks i then .none else .box (fzAV c v)
  | o => o
def fzObs (c : Nat → Option AV) (ks : List Nat) : Nat → List Ob → List Ob
  | _, [] => []
  | i, o :: r => fzOb c ks i o :: fzObs c ks (i + 1) r

def freeze (z : Frz) (s : St) : Option St :=
  match s.objs.getD z.k .none with
  | .box (.fn f [] caps) =>
    if f = z.f ∧ memN z.ks z.k = true then
      match caps[z.j]? with
      | some (.ref k []) =>
        if k = z.k then
          match z.d (stL (fzL (contOf s z .poison) caps)) with
          | some d => some ⟨fzL (contOf s z (.tok z.i z.t d)) s.tmps, fzObs (contOf s z (.tok z.i z.t d)) z.ks 0 s.objs⟩
          | none => none
        else none
      | _ => none
    else none
  | _ => none

/-- The code, but that boxes are frozen behind n pieces. -/
def evZ {ρ : Type} (X : Ctx) (N : Nat) (z : Frz) : Nat → Code → St → (Ex → St → Option ρ) → Option ρ
  | 0, c, s, K => match freeze z s with | some s' => evC X N c s' K | none => none
  | n + 1, .seq a b, s, K => evC X N a s (seqK (evZ X N z n b) K)
  | _ + 1, _, _, _ => none

def evFz (X : Ctx) (N : Nat) (z : Frz) (n : Nat) (fn : Func) (args : List AV) : Option AV :=
  match fn.body with
  | some c => evZ X N z n c (st0 fn args) (finK X fn)
  | none => none
def evTz (X : Ctx) (N : Nat) (z : Frz) (n : Nat) (fn : Func) (args : List AV) : Option (AV × List AV) :=
  match fn.body with
  | some c => evZ X N z n c (st1T fn args) (finT X fn)
  | none => none

end Ev
end Go.Proofs.YtidnikjkpbmhhaaDoor
/- What an abstract value says of the machine's values and cells, and that it goes on saying so while other cells turn. -/
set_option linter.unusedVariables false
namespace Go.Proofs.YtidnikjkpbmhhaaDoor
namespace Ev

/-- Elements in cells, one behind the other. -/
def Flat {α : Type} (R : α → List Value → Prop) : List α → List Value → Prop
  | [], cs => cs = []
  | x :: xs, cs => ∃ c d, cs = c ++ d ∧ R x c ∧ Flat R xs d

/-- The cells from an address on hold these, and are none of those that may turn. -/
def Cells (V : Nat → Nat → Prop) (W : World) (a : Addr) (cs : List Value) : Prop :=
  ∀ i v, cs[i]? = some v → W.cell? (a.add i) = some v ∧ ¬ V a.block (a.off + i)

def Row {α : Type} (V : Nat → Nat → Prop) (W : World) (R : α → List Value → Prop) (sz : Nat) (A : Option Addr) (l : List α) : Prop :=
  ∀ j x, l[j]? = some x → ∃ a c, A = some a ∧ R x c ∧ c.length = sz ∧ Cells V W (a.add (j * sz)) c

def CRel (V : Nat → Nat → Prop) (W : World) : (t : Ty) → t.den → List Value → Prop
  | .int, n, cs => cs = [.int .i64 n]
  | .bool, b, cs => cs = [.bool b]
  | .last a, x, cs => CRel V W a x cs
  | .cons a b, x, cs => ∃ c d, cs = c ++ d ∧ CRel V W a x.1 c ∧ CRel V W b x.2 d
  | .slice t, l, cs => ∃ A c, cs = [.slice A l.length c] ∧ l.length ≤ c ∧ Row V W (fun x c => CRel V W t x c) t.size A l
  | .arr n t, xs, cs => xs.length = n ∧ Flat (fun x c => CRel V W t x c) xs cs

theorem Flat.length {α : Type} {R : α → List Value → Prop} {sz : Nat} (hR : ∀ x c, R x c → c.length = sz) : ∀ {xs : List α} {cs : List Value}, Flat R xs cs → cs.length = xs.length * sz
  | [], cs, h => by simp [show cs = [] from h]
  | x :: xs, cs, h => by
    obtain ⟨c, d, rfl, h1, h2⟩ := h
    simp [hR _ _ h1, Flat.length hR h2, Nat.add_mul, Nat.add_comm]

theorem CRel.length {V W} : ∀ {t : Ty} {x : t.den} {cs : List Value}, CRel V W t x cs → cs.length = t.size
  | .int, n, cs, h => by simp [show cs = _ from h, Ty.size]
  | .bool, n, cs, h => by simp [show cs = _ from h, Ty.size]
  | .last a, x, cs, h => CRel.length (t := a) h
  | .cons a b, x, cs, h => by
    obtain ⟨c, d, rfl, h1, h2⟩ := h
    simp [CRel.length h1, CRel.length h2, Ty.size]
  | .slice t, l, cs, h => by
    obtain ⟨A, c, rfl, _⟩ := h
    simp [Ty.size]
  | .arr n t, xs, cs, h => by
    rw [Flat.length (fun x c h => CRel.length (t := t) h) h.2, h.1]; rfl

/-- One world's cells stand in another, but for those that may turn. -/
structure Stab (V V' : Nat → Nat → Prop) (W W' : World) : Prop where
  cell : ∀ a v, W.cell? a = some v → ¬ V a.block a.off → W'.cell? a = some v
  vol : ∀ b o, b < W.heap.size → V' b o → V b o

theorem add_block (a : Addr) (n : Nat) : (a.add n).block = a.block := by unfold Addr.add; split <;> rfl
theorem add_off (a : Addr) (n : Nat) : (a.add n).off = a.off + n := by unfold Addr.add; split <;> simp_all
theorem add_add (a : Addr) (n m : Nat) : (a.add n).add m = a.add (n + m) := by
  unfold Addr.add
  by_cases h1 : n = 0 <;> by_cases h2 : m = 0 <;> simp [h1, h2, Nat.add_assoc]
theorem add_zero (a : Addr) : a.add 0 = a := by simp [Addr.add]

theorem Cells.mono {V V' W W' a cs} (hs : Stab V V' W W') (h : Cells V W a cs) : Cells V' W' a cs := by
  intro i v hi
  obtain ⟨h1, h2⟩ := h i v hi
  have hb := World.block_lt_of_cell? W (a.add i) h1
  rw [add_block] at hb
  exact ⟨hs.cell _ _ h1 (by rwa [add_block, add_off]), fun hv => h2 (hs.vol _ _ hb hv)⟩

theorem Flat.imp {α : Type} {R R' : α → List Value → Prop} (hR : ∀ x c, R x c → R' x c) : ∀ {xs : List α} {cs : List Value}, Flat R xs cs → Flat R' xs cs
  | [], _, h => h
  | _ :: _, _, ⟨c, d, e, h1, h2⟩ => ⟨c, d, e, hR _ _ h1, Flat.imp hR h2⟩

theorem CRel.mono {V V' W W'} (hs : Stab V V' W W') : ∀ {t : Ty} {x : t.den} {cs : List Value}, CRel V W t x cs → CRel V' W' t x cs
  | .int, _, _, h => h
  | .bool, _, _, h => h
  | .last a, x, cs, h => CRel.mono hs (t := a) h
  | .cons a b, x, cs, ⟨c, d, e, h1, h2⟩ => ⟨c, d, e, CRel.mono hs h1, CRel.mono hs h2⟩
  | .slice t, l, cs, ⟨A, c, e, h1, h2⟩ => ⟨A, c, e, h1, fun j x hj => by
      obtain ⟨a, c, h3, h4, h5, h6⟩ := h2 j x hj
      exact ⟨a, c, h3, CRel.mono hs (t := t) h4, h5, h6.mono hs⟩⟩
  | .arr n t, xs, cs, ⟨h1, h2⟩ => ⟨h1, Flat.imp (fun x c h => CRel.mono hs (t := t) h) h2⟩

/-- Where a memo's data stand: what a block that holds a map is a memo of. -/
abbrev Io := Nat → Option (Σ t : Ty, t.den)

/-- What a relation leans on: which cells may turn, where boxes lie, lineages (version, alive; block, from, to), memos; what tokens say. -/
structure Cx where
  V : Nat → Nat → Prop
  box : Nat → Option Nat
  lv : Nat → Option (Nat × Bool)
  tl : Nat → Nat × Nat × Nat
  io : Io

def Stp.off : Stp → Nat
  | .fld _ o => o
  | .idx i sz _ => i.toNat * sz
def offP : List Stp → Nat
  | [] => 0
  | x :: p => x.off + offP p
def Stp.ok : Stp → Prop
  | .fld _ _ => True
  | .idx i _ n => 0 ≤ i ∧ i < n
def okP (p : List Stp) : Prop := ∀ x ∈ p, x.ok

/-- What a token says of a value: 'TR token kind data volatile memos world value'. -/
abbrev TokRel := Nat → (t : Ty) → t.den → (Nat → Nat → Prop) → Io → World → Value → Prop

def ioLe (n : Nat) (io io' : Io) : Prop := ∀ b, b < n → io' b = io b
structure TokOK (TR : TokRel) : Prop where
  mono : ∀ i t d V V' io io' W W' v, Stab V V' W W' → ioLe W.heap.size io io' → W.heap.size ≤ W'.heap.size → TR i t d V io W v → TR i t d V' io' W' v
  one : ∀ i t d V io W v, TR i t d V io W v → v.oneCell' = true ∧ v.cells = #[v]

def mkV (v : AV) (cs : List Value) : Value := if isAg v = true then .agg cs.toArray else cs.headD undef

mutual
def Rel (TR : TokRel) (C : Cx) (W : World) : AV → List Value → Prop
  | .poison, cs => ∃ v, cs = [v]
  | .undef, cs => cs = [undef]
  | .int n, cs => cs = [.int .i64 n]
  | .bool b, cs => cs = [.bool b]
  | .agg l, cs => RelL TR C W l cs
  | .arr t n xs, cs => xs.length = n ∧ Flat (CRel C.V W t) xs cs
  | .sl t f l, cs => ∃ A c, cs = [.slice A l.length c] ∧ l.length ≤ c ∧ Row C.V W (CRel C.V W t) t.size A l ∧ (f.z = true → l = [] → A = none ∧ c = 0) ∧ (f.tg = true → c = l.length) ∧
      (∀ k v, f.ow = some (k, v) → ∃ cu al, C.lv k = some (cu, al) ∧ v ≤ cu ∧
        (al = true → v = cu → c = l.length ∨ ∃ b, A = some ⟨b, 0, none⟩ ∧ C.tl k = (b, l.length * t.size, c * t.size)))
  | .tup l, cs => ∃ vs, cs = [.tuple vs.toArray] ∧ RelV TR C W l vs
  | .ref k p, cs => ∃ b, C.box k = some b ∧ okP p ∧ cs = [.pointer (some ⟨b, offP p, none⟩)]
  | .cref v p, cs => ∃ a ds, Rel TR C W v ds ∧ Cells C.V W a ds ∧ okP p ∧ cs = [.pointer (some (a.add (offP p)))]
  | .fn f fst cap, cs => ∃ xs ys, cs = [.func (.func f) xs.toArray ys.toArray] ∧ RelV TR C W fst xs ∧ RelV TR C W cap ys
  | .map _, _ => False
  | .tok i t d, cs => ∃ v, cs = [v] ∧ TR i t d C.V C.io W v
def RelL (TR : TokRel) (C : Cx) (W : World) : List AV → List Value → Prop
  | [], cs => cs = []
  | v :: l, cs => ∃ c d, cs = c ++ d ∧ c.length = v.size ∧ Rel TR C W v c ∧ RelL TR C W l d
def RelV (TR : TokRel) (C : Cx) (W : World) : List AV → List Value → Prop
  | [], vs => vs = []
  | v :: l, vs => ∃ x r, vs = x :: r ∧ (v = .poison ∨ ∃ cs, cs.length = v.size ∧ Rel TR C W v cs ∧ x = mkV v cs) ∧ RelV TR C W l r
end

/-- A value in a slot. -/
def VR (TR : TokRel) (C : Cx) (W : World) (v : AV) (x : Value) : Prop := v = .poison ∨ ∃ cs, cs.length = v.size ∧ Rel TR C W v cs ∧ x = mkV v cs

/-- One context's words hold in another. -/
structure CxLe (C C' : Cx) (W W' : World) : Prop where
  st : Stab C.V C'.V W W'
  box : ∀ k b, C.box k = some b → C'.box k = some b
  lv : ∀ k cu al, C.lv k = some (cu, al) → ∃ cu' al', C'.lv k = some (cu', al') ∧ cu ≤ cu' ∧ (al' = true → cu' = cu → al = true ∧ C'.tl k = C.tl k)
  io : ioLe W.heap.size C.io C'.io
  size : W.heap.size ≤ W'.heap.size

mutual
theorem Rel.mono {TR} (hT : TokOK TR) {C C' W W'} (hc : CxLe C C' W W') : ∀ {v : AV} {cs : List Value}, Rel TR C W v cs → Rel TR C' W' v cs
  | .poison, cs, h => by simpa only [Rel] using h
  | .undef, cs, h => by simpa only [Rel] using h
  | .int n, cs, h => by simpa only [Rel] using h
  | .bool b, cs, h => by simpa only [Rel] using h
  | .agg l, cs, h => by
    simp only [Rel] at h ⊢
    exact RelL.mono hT hc h
  | .arr t n xs, cs, h => by
    simp only [Rel] at h ⊢
    exact ⟨h.1, Flat.imp (fun x c h => CRel.mono hc.st h) h.2⟩
  | .sl t f l, cs, h => by
    simp only [Rel] at h ⊢
    obtain ⟨A, c, e, h1, h2, h3, h4, h5⟩ := h
    refine ⟨A, c, e, h1, fun j x hj => ?_, h3, h4, fun k v hk => ?_⟩
    · obtain ⟨a, c, g1, g2, g3, g4⟩ := h2 j x hj
      exact ⟨a, c, g1, CRel.mono hc.st g2, g3, g4.mono hc.st⟩
    · obtain ⟨cu, al, g1, g2, g3⟩ := h5 k v hk
      obtain ⟨cu', al', g4, g5, g6⟩ := hc.lv k cu al g1
      refine ⟨cu', al', g4, Nat.le_trans g2 g5, fun ha hv => ?_⟩
      have : cu' = cu := by omega
      obtain ⟨ha', ht⟩ := g6 ha this
      rw [ht]
      exact g3 ha' (by omega)
  | .tup l, cs, h => by
    simp only [Rel] at h ⊢
    obtain ⟨vs, e, h⟩ := h
    exact ⟨vs, e, RelV.mono hT hc h⟩
  | .ref k p, cs, h => by
    simp only [Rel] at h ⊢
    obtain ⟨b, h1, h2, h3⟩ := h
    exact ⟨b, hc.box _ _ h1, h2, h3⟩
  | .cref v p, cs, h => by
    simp only [Rel] at h ⊢
    obtain ⟨a, ds, h1, h2, h3⟩ := h
    exact ⟨a, ds, Rel.mono hT hc h1, h2.mono hc.st, h3⟩
  | .fn f a b, cs, h => by
    simp only [Rel] at h ⊢
    obtain ⟨xs, ys, e, h1, h2⟩ := h
    exact ⟨xs, ys, e, RelV.mono hT hc h1, RelV.mono hT hc h2⟩
  | .map k, cs, h => by simp only [Rel] at h
  | .tok i t d, cs, h => by
    simp only [Rel] at h ⊢
    obtain ⟨v, e, h⟩ := h
    exact ⟨v, e, hT.mono _ _ _ _ _ _ _ _ _ _ hc.st hc.io hc.size h⟩
theorem RelL.mono {TR} (hT : TokOK TR) {C C' W W'} (hc : CxLe C C' W W') : ∀ {l : List AV} {cs : List Value}, RelL TR C W l cs → RelL TR C' W' l cs
  | [], cs, h => by simpa only [RelL] using h
  | v :: l, cs, h => by
    simp only [RelL] at h ⊢
    obtain ⟨c, d, e, hl, h1, h2⟩ := h
    exact ⟨c, d, e, hl, Rel.mono hT hc h1, RelL.mono hT hc h2⟩
theorem RelV.mono {TR} (hT : TokOK TR) {C C' W W'} (hc : CxLe C C' W W') : ∀ {l : List AV} {vs : List Value}, RelV TR C W l vs → RelV TR C' W' l vs
  | [], cs, h => by simpa only [RelV] using h
  | v :: l, cs, h => by
    simp only [RelV] at h ⊢
    obtain ⟨x, r, e, h1, h2⟩ := h
    exact ⟨x, r, e, h1.imp id (fun ⟨cs, g0, g1, g2⟩ => ⟨cs, g0, Rel.mono hT hc g1, g2⟩), RelV.mono hT hc h2⟩
end

theorem VR.mono {TR} (hT : TokOK TR) {C C' W W'} (hc : CxLe C C' W W') {v x} (h : VR TR C W v x) : VR TR C' W' v x :=
  h.imp id fun ⟨cs, g0, g1, g2⟩ => ⟨cs, g0, Rel.mono hT hc g1, g2⟩

theorem CxLe.refl (C : Cx) (W : World) : CxLe C C W W :=
  ⟨⟨fun _ _ h _ => h, fun _ _ _ h => h⟩, fun _ _ h => h, fun k cu al h => ⟨cu, al, h, Nat.le_refl _, fun h _ => ⟨h, rfl⟩⟩, fun _ _ => rfl, Nat.le_refl _⟩

end Ev
end Go.Proofs.YtidnikjkpbmhhaaDoor
/- The bond between an abstract state and the machine's. -/
set_option linter.unusedVariables false
namespace Go.Proofs.YtidnikjkpbmhhaaDoor
namespace Ev

/-- Old blocks stand, but for memos, and for those that others may turn. -/
structure Keep (M : Nat → Prop) (io io' : Io) (W W' : World) : Prop where
  os : W'.os = W.os
  tape : W'.tape = W.tape
  output : W'.output = W.output
  size : W.heap.size ≤ W'.heap.size
  block : ∀ b, b < W.heap.size → io b = none → ¬ M b → W'.heap[b]? = W.heap[b]?
  io : ioLe W.heap.size io io'

def noM : Nat → Prop := fun _ => False

theorem Keep.refl (M : Nat → Prop) (io : Io) (W : World) : Keep M io io W W := ⟨rfl, rfl, rfl, Nat.le_refl _, fun _ _ _ _ => rfl, fun _ _ => rfl⟩
theorem Keep.trans {M : Nat → Prop} {io io1 io2 : Io} {W W1 W2 : World} (h : Keep M io io1 W W1) (k : Keep M io1 io2 W1 W2) : Keep M io io2 W W2 :=
  ⟨k.os.trans h.os, k.tape.trans h.tape, k.output.trans h.output, Nat.le_trans h.size k.size,
    fun b hb hi hm => (k.block b (Nat.lt_of_lt_of_le hb h.size) ((h.io b hb).trans hi) hm).trans (h.block b hb hi hm),
    fun b hb => (k.io b (Nat.lt_of_lt_of_le hb h.size)).trans (h.io b hb)⟩
theorem Keep.of_noM {M : Nat → Prop} {io io' : Io} {W W' : World} (h : Keep noM io io' W W') : Keep M io io' W W' :=
  ⟨h.os, h.tape, h.output, h.size, fun b hb hi _ => h.block b hb hi fun e => e, h.io⟩

def IoOK (MI : (t : Ty) → t.den → Array MapEntry → Prop) (io : Io) (W : World) : Prop := ∀ b t d, io b = some ⟨t, d⟩ → ∃ es ck, W.heap[b]? = some (.map es ck) ∧ MI t d es

/-- A step of ours, seen by others: blocks below n stand, but for memos. -/
structure Ab (n : Nat) (V V' : Nat → Nat → Prop) (io io' : Io) (W W' : World) : Prop where
  os : W'.os = W.os
  tape : W'.tape = W.tape
  output : W'.output = W.output
  size : W.heap.size ≤ W'.heap.size
  old : ∀ b, b < n → io b = none → W'.heap[b]? = W.heap[b]?
  st : Stab V V' W W'
  io : ioLe W.heap.size io io'
  more : ∀ b o, b < n → V b o → V' b o
  lt : ∀ b o, V' b o → b < W'.heap.size

structure Base where
  P : Program
  TR : TokRel
  hT : TokOK TR
  MI : (t : Ty) → t.den → Array MapEntry → Prop
  GL : List (Nat × AV)

/-- The blocks that others may turn, and what they say of the world once they have been told some things. -/
structure Env extends Base where
  M : Nat → Prop
  n0 : Nat
  J : List AV → (Nat → Nat → Prop) → Io → World → Prop
  hJ : ∀ tr V V' io io' W W', J tr V io W → Ab n0 V V' io io' W W' → IoOK MI io' W' → J tr V' io' W'

/-- Nobody else is told anything. -/
def Base.env (B : Base) : Env := { B with M := noM, n0 := 0, J := fun _ _ _ _ => True, hJ := fun _ _ _ _ _ _ _ _ _ _ => trivial }

def baseCx (V : Nat → Nat → Prop) (io : Io) : Cx := ⟨V, fun _ => none, fun _ => none, fun _ => (0, 0, 0), io⟩

structure BaseOK (E : Base) (V : Nat → Nat → Prop) (io : Io) (W : World) : Prop where
  old : ∀ b o, V b o → b < W.heap.size
  iok : IoOK E.MI io W
  gl : ∀ g v, findA E.GL g = some v → Rel E.TR (baseCx V io) W (.cref v []) [.pointer (some ⟨g, 0, none⟩)]

/-- A callee's word: for arguments that read so, it returns what the function says; no cell that lay has turned. -/
def Ctr (E : Base) (f : Nat) (g : List AV → Option (Bool × AV)) : Prop :=
  ∀ V io W args vs r, BaseOK E V io W → RelV E.TR (baseCx V io) W args vs → g args = some (true, r) →
    Calls E.P f vs.toArray W fun e W' => ∃ v io', e = .returned v ∧ VR E.TR (baseCx V io') W' r v ∧ Keep noM io io' W W' ∧ IoOK E.MI io' W'

/-- The marks that an activation leaves with. -/
def markOf (r : Nat) : Deferred := { target := .collected r, args := #[] }
def DfOK (W0 W : World) (ds : List Deferred) : Prop := ∃ rs : List Nat, ds = rs.map markOf ∧ rs.Nodup ∧ ∀ r ∈ rs, W.heap[r]? = some (.deferred (some [])) ∧ W0.heap.size ≤ r
theorem DfOK.nil (W0 W : World) : DfOK W0 W [] := ⟨[], rfl, List.nodup_nil, fun _ h => nomatch h⟩
theorem DfOK.imp {W0 W W' : World} {ds : List Deferred} (h : DfOK W0 W ds) (hi : ∀ r, W0.heap.size ≤ r → W.heap[r]? = some (.deferred (some [])) → W'.heap[r]? = some (.deferred (some []))) : DfOK W0 W' ds := by
  obtain ⟨rs, h1, h2, h3⟩ := h
  exact ⟨rs, h1, h2, fun r hr => ⟨hi r (h3 r hr).2 (h3 r hr).1, (h3 r hr).2⟩⟩

structure Sim (E : Env) (V0 : Nat → Nat → Prop) (io0 : Io) (W0 : World) (C : Cx) (s : St) (a : Act) (W : World) : Prop where
  len : a.tmps.size = s.tmps.length
  tm : ∀ (t : Nat) (x : AV), s.tmps[t]? = some x → ∃ v, a.tmps[t]? = some v ∧ VR E.TR C W x v
  df : DfOK W0 W a.defers
  bx : ∀ (k : Nat) (v : AV), s.objs[k]? = some (.box v) → ∃ b cs ty, C.box k = some b ∧ W.heap[b]? = some (.cells cs ty (0, 0)) ∧ cs.toList.length = v.size ∧ Rel E.TR C W v cs.toList ∧ W0.heap.size ≤ b
  bxn : ∀ (k b : Nat), C.box k = some b → ∃ v, s.objs[k]? = some (.box v)
  inj : ∀ k k' b, C.box k = some b → C.box k' = some b → k = k'
  bxV : ∀ k b o, C.box k = some b → C.V b o
  ln : ∀ (k v : Nat) (al : Bool), C.lv k = some (v, al) ↔ s.objs[k]? = some (.lin v al)
  tl : ∀ k v b lo hi o, C.lv k = some (v, true) → C.tl k = (b, lo, hi) → lo ≤ o → o < hi →
    C.V b o ∧ W0.heap.size ≤ b ∧ (∀ k', C.box k' ≠ some b) ∧ ∃ cs ty, W.heap[b]? = some (.cells cs ty (0, 0)) ∧ hi ≤ cs.size
  tld : ∀ k k' v v' b lo hi lo' hi' o, C.lv k = some (v, true) → C.lv k' = some (v', true) → k ≠ k' → C.tl k = (b, lo, hi) → C.tl k' = (b, lo', hi') →
    lo ≤ o → o < hi → lo' ≤ o → o < hi' → False
  Vn : ∀ b o, C.V b o → V0 b o ∨ (W0.heap.size ≤ b ∧ b < W.heap.size)
  V0V : ∀ b o, V0 b o → C.V b o
  iok : IoOK E.MI C.io W
  gl : ∀ g v, findA E.GL g = some v → Rel E.TR (baseCx C.V C.io) W (.cref v []) [.pointer (some ⟨g, 0, none⟩)]
  kp : Keep E.M io0 C.io W0 W
  old0 : ∀ b o, V0 b o → b < W0.heap.size
  n0 : E.n0 ≤ W0.heap.size
  hM : ∀ b, E.M b → b < E.n0 ∧ ∀ o, V0 b o
  gh : ∀ (k x y : Nat) (tr : List AV), k + 1 = s.objs.length → s.objs[k]? = some (.map x y tr) → E.J tr C.V C.io W

variable {E : Env} {V0 : Nat → Nat → Prop} {io0 : Io} {W0 : World} {C : Cx} {s : St} {a : Act} {W : World}

theorem Sim.base (S : Sim E V0 io0 W0 C s a W) : BaseOK E.toBase C.V C.io W :=
  ⟨fun b o h => by
    rcases S.Vn b o h with h | h
    · exact Nat.lt_of_lt_of_le (S.old0 b o h) S.kp.size
    · exact h.2, S.iok, S.gl⟩

/-- A base context's words hold in any that has its cells and memos. -/
theorem CxLe.ofBase {V : Nat → Nat → Prop} {io : Io} {W : World} (C : Cx) (hV : C.V = V) (hio : C.io = io) : CxLe (baseCx V io) C W W := by
  subst hV hio
  exact ⟨⟨fun _ _ h _ => h, fun _ _ _ h => h⟩, (fun _ _ h => by cases h), (fun _ _ _ h => by cases h), fun _ _ => rfl, Nat.le_refl _⟩

theorem mkV_one {v : AV} {x : Value} (h : isAg v = false) : mkV v [x] = x := by simp [mkV, h]
theorem mkV_agg {v : AV} {cs : List Value} (h : isAg v = true) : mkV v cs = .agg cs.toArray := by simp [mkV, h]

theorem Sim.get (S : Sim E V0 io0 W0 C s a W) (k : Nat) : VR E.TR C W (s.get k) (a.tmps.getD k undef) := by
  unfold St.get
  by_cases h : k < s.tmps.length
  · obtain ⟨v, hv, hr⟩ := S.tm k _ (List.getElem?_eq_getElem h)
    have h1 : s.tmps.getD k .undef = s.tmps[k] := by simp [List.getD, List.getElem?_eq_getElem h]
    have h2 : a.tmps.getD k undef = v := by simp [Array.getD_eq_getD_getElem?, hv]
    rw [h1, h2]
    exact hr
  · have h1 : s.tmps.getD k .undef = .undef := by simp [List.getD, List.getElem?_eq_none (Nat.le_of_not_lt h)]
    have h2 : a.tmps.getD k undef = undef := by simp [Array.getD_eq_getD_getElem?, Array.getElem?_eq_none (by rw [S.len]; exact Nat.le_of_not_lt h)]
    rw [h1, h2]
    exact .inr ⟨[undef], by simp [AV.size], by simp [Rel], by simp [mkV, isAg]⟩

/-- A slot is written. -/
theorem Sim.put (S : Sim E V0 io0 W0 C s a W) (d : Option Nat) {x : AV} {v : Value} (h : VR E.TR C W x v) : Sim E V0 io0 W0 C (s.put d x) (a.put d v) W := by
  cases d with
  | none => exact S
  | some d =>
    refine { S with len := ?_, tm := ?_, df := ?_, bx := S.bx, bxn := S.bxn, ln := S.ln, gh := S.gh }
    · simpa [Act.put, St.put] using S.len
    · intro t y hy
      simp only [St.put, List.getElem?_set] at hy
      simp only [Act.put, Array.getElem?_setIfInBounds]
      by_cases e : d = t
      · subst e
        simp only [if_true] at hy ⊢
        by_cases hd : d < s.tmps.length
        · rw [if_pos hd] at hy
          cases hy
          exact ⟨v, by rw [if_pos (by rw [S.len]; exact hd)], h⟩
        · rw [if_neg hd] at hy
          cases hy
      · rw [if_neg e] at hy ⊢
        exact S.tm t y hy
    · exact S.df

theorem Cell.io_none {MI : (t : Ty) → t.den → Array MapEntry → Prop} {io : Io} {W : World} (h : IoOK MI io W) {b : Nat} {x : Obj} (hb : W.heap[b]? = some x) (hx : ∀ es ck, x ≠ .map es ck) : io b = none := by
  cases hi : io b with
  | none => rfl
  | some x =>
    obtain ⟨t, d⟩ := x
    obtain ⟨es, ck, h1, _⟩ := h b t d hi
    rw [hb] at h1
    cases h1
    exact absurd rfl (hx _ _)

theorem cells_of_cell {W : World} {a : Addr} {v : Value} (h : W.cell? a = some v) : ∃ cs ty fr, W.heap[a.block]? = some (.cells cs ty fr) ∧ a.spot.isSome = false ∧ cs[a.off]? = some v := by
  unfold World.cell? at h
  split at h
  · rename_i cs ty fr heq
    split at h
    · cases h
    · rename_i hs
      exact ⟨cs, ty, fr, heq, by simpa using hs, h⟩
  · cases h

theorem cell_of_block {W W' : World} {a : Addr} (h : W'.heap[a.block]? = W.heap[a.block]?) : W'.cell? a = W.cell? a := by
  unfold World.cell?
  rw [h]

/-- A step of ours: blocks below n stand, and so does what defers are taken from. -/
structure Wst (n : Nat) (W W' : World) : Prop where
  os : W'.os = W.os
  tape : W'.tape = W.tape
  output : W'.output = W.output
  size : W.heap.size ≤ W'.heap.size
  old : ∀ b, b < n → b < W.heap.size → W'.heap[b]? = W.heap[b]?
  dfr : ∀ (r : Nat) (x : Option (List Deferred)), W.heap[r]? = some (Obj.deferred x) → W'.heap[r]? = some (Obj.deferred x)

theorem Wst.refl (n : Nat) (W : World) : Wst n W W := ⟨rfl, rfl, rfl, Nat.le_refl _, fun _ _ _ => rfl, fun _ _ h => h⟩
theorem Wst.trans {n : Nat} {W W1 W2 : World} (h : Wst n W W1) (k : Wst n W1 W2) : Wst n W W2 :=
  ⟨k.os.trans h.os, k.tape.trans h.tape, k.output.trans h.output, Nat.le_trans h.size k.size,
    fun b hb hs => (k.old b hb (Nat.lt_of_lt_of_le hs h.size)).trans (h.old b hb hs), fun r x hr => k.dfr r x (h.dfr r x hr)⟩
theorem Wst.drew (n : Nat) (W : World) : Wst n W W.drew := ⟨rfl, rfl, rfl, Nat.le_refl _, fun _ _ _ => rfl, fun _ _ h => h⟩

theorem heap_alloc_old' (W : World) (o : Obj) {b : Nat} {x : Obj} (h : W.heap[b]? = some x) : (W.alloc o).heap[b]? = some x := by
  have hb := (Array.getElem?_eq_some_iff.1 h).1
  show (W.heap.push o)[b]? = _
  rw [Array.getElem?_push, if_neg (by omega)]
  exact h
theorem heap_alloc_new' (W : World) (o : Obj) : (W.alloc o).heap[W.heap.size]? = some o := by
  show (W.heap.push o)[W.heap.size]? = _
  simp
theorem Wst.alloc (n : Nat) (W : World) (o : Obj) : Wst n W (W.alloc o) :=
  ⟨rfl, rfl, rfl, by simp, fun b hb hs => by
    show (W.heap.push o)[b]? = _
    rw [Array.getElem?_push, if_neg (by omega)], fun r x h => heap_alloc_old' W o h⟩
theorem Wst.of_block {n : Nat} {W W' : World} {b : Nat} (hb : n ≤ b) (hd : ∀ x, W.heap[b]? ≠ some (Obj.deferred x)) (h1 : W'.os = W.os) (h2 : W'.tape = W.tape) (h3 : W'.output = W.output) (h4 : W'.heap.size = W.heap.size)
    (h5 : ∀ j : Nat, j ≠ b → W'.heap[j]? = W.heap[j]?) : Wst n W W' :=
  ⟨h1, h2, h3, by omega, fun j hj _ => h5 j (by omega), fun r x hr => (h5 r (fun e => by subst e; exact hd x hr)).trans hr⟩

theorem Keep.step {M : Nat → Prop} {io0 io : Io} {W0 W W' : World} (h : Keep M io0 io W0 W) (k : Wst W0.heap.size W W') : Keep M io0 io W0 W' :=
  ⟨k.os.trans h.os, k.tape.trans h.tape, k.output.trans h.output, Nat.le_trans h.size k.size, fun b hb hi hm => (k.old b hb (Nat.lt_of_lt_of_le hb h.size)).trans (h.block b hb hi hm), h.io⟩

theorem Sim.dfs (S : Sim E V0 io0 W0 C s a W) {n : Nat} {W' : World} (k : Wst n W W') : DfOK W0 W' a.defers := by
  exact S.df.imp fun r _ h => k.dfr r _ h

theorem Sim.ghs (S : Sim E V0 io0 W0 C s a W) {W' : World} {V' : Nat → Nat → Prop} (k : Wst W0.heap.size W W') (hst : Stab C.V V' W W') (hVn : ∀ b o, V' b o → V0 b o ∨ (W0.heap.size ≤ b ∧ b < W'.heap.size)) (hV0 : ∀ b o, V0 b o → V' b o) (hio : IoOK E.MI C.io W') {tr : List AV} (h : E.J tr C.V C.io W) : E.J tr V' C.io W' :=
  E.hJ _ _ _ _ _ _ _ h ⟨k.os, k.tape, k.output, k.size, fun b hb _ => k.old b (Nat.lt_of_lt_of_le hb S.n0) (Nat.lt_of_lt_of_le hb (Nat.le_trans S.n0 S.kp.size)), hst, fun _ _ => rfl,
    fun b o hb h => hV0 b o ((S.Vn b o h).resolve_right fun h => absurd h.1 (Nat.not_le_of_lt (Nat.lt_of_lt_of_le hb S.n0))),
    fun b o h => (hVn b o h).elim (fun h => Nat.lt_of_lt_of_le (S.old0 b o h) (Nat.le_trans S.kp.size k.size)) fun h => h.2⟩ hio

/-- Blocks that an activation may turn: others', its boxes', its slices' room. -/
def mine (M : Nat → Prop) (C : Cx) (b : Nat) : Prop := M b ∨ (∃ k, C.box k = some b) ∨ ∃ k v lo hi, C.lv k = some (v, true) ∧ C.tl k = (b, lo, hi) ∧ lo < hi

structure Kx (M : Nat → Prop) (C C' : Cx) (W W' : World) : Prop where
  kp : Keep (mine M C) C.io C'.io W W'
  bx : ∀ k b, C'.box k = some b → C.box k = some b ∨ W.heap.size ≤ b
  tl : ∀ k v b lo hi, C'.lv k = some (v, true) → C'.tl k = (b, lo, hi) → lo < hi → (∃ k0 v0 lo0 hi0, C.lv k0 = some (v0, true) ∧ C.tl k0 = (b, lo0, hi0) ∧ lo0 < hi0) ∨ W.heap.size ≤ b
  vo : ∀ b o, b < W.heap.size → C.V b o → C'.V b o ∨ ∃ k0 v0 lo0 hi0, C.lv k0 = some (v0, true) ∧ C.tl k0 = (b, lo0, hi0) ∧ lo0 < hi0

theorem Kx.refl (M : Nat → Prop) (C : Cx) (W : World) : Kx M C C W W := ⟨Keep.refl _ _ _, fun _ _ h => .inl h, fun k v b lo hi h1 h2 h3 => .inl ⟨k, v, lo, hi, h1, h2, h3⟩, fun _ _ _ h => .inl h⟩
theorem Keep.weak {M M' : Nat → Prop} {io io' : Io} {W W' : World} (h : Keep M io io' W W') (hM : ∀ b, b < W.heap.size → M b → M' b) : Keep M' io io' W W' := ⟨h.os, h.tape, h.output, h.size, fun b hb hi hm => h.block b hb hi fun e => hm (hM b hb e), h.io⟩
theorem Keep.trans' {M M' : Nat → Prop} {io io1 io2 : Io} {W W1 W2 : World} (h : Keep M io io1 W W1) (k : Keep M' io1 io2 W1 W2) (hM : ∀ b, b < W.heap.size → M' b → M b) : Keep M io io2 W W2 :=
  ⟨k.os.trans h.os, k.tape.trans h.tape, k.output.trans h.output, Nat.le_trans h.size k.size,
    fun b hb hi hm => (k.block b (Nat.lt_of_lt_of_le hb h.size) ((h.io b hb).trans hi) fun e => hm (hM b hb e)).trans (h.block b hb hi hm),
    fun b hb => (k.io b (Nat.lt_of_lt_of_le hb h.size)).trans (h.io b hb)⟩
theorem Kx.mine {M : Nat → Prop} {C C' : Cx} {W W' : World} (h : Kx M C C' W W') (b : Nat) (hb : b < W.heap.size) (hm : mine M C' b) : Ev.mine M C b := by
  rcases hm with hm | ⟨k, hk⟩ | ⟨k, v, lo, hi, h1, h2, h3⟩
  · exact .inl hm
  · exact .inr (.inl ⟨k, (h.bx k b hk).resolve_right (by omega)⟩)
  · exact .inr (.inr (by
      obtain ⟨k0, v0, lo0, hi0, g⟩ := (h.tl k v b lo hi h1 h2 h3).resolve_right (by omega)
      exact ⟨k0, v0, lo0, hi0, g⟩))
theorem Kx.trans {M : Nat → Prop} {C C1 C2 : Cx} {W W1 W2 : World} (h : Kx M C C1 W W1) (k : Kx M C1 C2 W1 W2) : Kx M C C2 W W2 :=
  ⟨h.kp.trans' k.kp h.mine, fun j b hj => by
    rcases k.bx j b hj with g | g
    · exact h.bx j b g
    · exact .inr (Nat.le_trans h.kp.size g), fun j v b lo hi h1 h2 h3 => by
    rcases k.tl j v b lo hi h1 h2 h3 with ⟨k0, v0, lo0, hi0, g1, g2, g3⟩ | g
    · exact h.tl k0 v0 b lo0 hi0 g1 g2 g3
    · exact .inr (Nat.le_trans h.kp.size g), fun b o hb hv => by
    rcases h.vo b o hb hv with g | g
    · rcases k.vo b o (Nat.lt_of_lt_of_le hb h.kp.size) g with g | ⟨k0, v0, lo0, hi0, g1, g2, g3⟩
      · exact .inl g
      · exact .inr ((h.tl k0 v0 b lo0 hi0 g1 g2 g3).resolve_right (by omega))
    · exact .inr g⟩

/-- What an activation has turned: of its own slots, no other than these; of blocks, its own. -/
structure Fm (M D : Nat → Prop) (a a' : Act) (C C' : Cx) (W W' : World) : Prop where
  sz : a'.tmps.size = a.tmps.size
  tm : ∀ k, ¬ D k → a'.tmps[k]? = a.tmps[k]?
  bx : ∀ k b, ¬ D k → C'.box k = some b → C.box k = some b
  lv : ∀ k v, ¬ D k → C'.lv k = some (v, true) → ∃ v0, C.lv k = some (v0, true) ∧ C'.tl k = C.tl k
  kx : Kx M C C' W W'

theorem Fm.refl (M D : Nat → Prop) (a : Act) (C : Cx) (W : World) : Fm M D a a C C W W := ⟨rfl, fun _ _ => rfl, fun _ _ _ h => h, fun _ v _ h => ⟨v, h, rfl⟩, Kx.refl _ _ _⟩
theorem Fm.trans {M D : Nat → Prop} {a a1 a2 : Act} {C C1 C2 : Cx} {W W1 W2 : World} (h : Fm M D a a1 C C1 W W1) (k : Fm M D a1 a2 C1 C2 W1 W2) : Fm M D a a2 C C2 W W2 :=
  ⟨k.sz.trans h.sz, fun j hj => (k.tm j hj).trans (h.tm j hj), fun j b hj hb => h.bx j b hj (k.bx j b hj hb), fun j v hj hv => by
    obtain ⟨v1, g1, g2⟩ := k.lv j v hj hv
    obtain ⟨v0, g3, g4⟩ := h.lv j v1 hj g1
    exact ⟨v0, g3, g2.trans g4⟩, h.kx.trans k.kx⟩
theorem Fm.mono {M D D' : Nat → Prop} {a a' : Act} {C C' : Cx} {W W' : World} (h : Fm M D a a' C C' W W') (hd : ∀ k, D k → D' k) : Fm M D' a a' C C' W W' :=
  ⟨h.sz, fun j hj => h.tm j fun e => hj (hd j e), fun j b hj => h.bx j b fun e => hj (hd j e), fun j v hj => h.lv j v fun e => hj (hd j e), h.kx⟩

/-- Objects but for one slot's: boxes were boxes, what is alive was alive. -/
def ObLe (d : Option Nat) (l l' : List Ob) : Prop := ∀ k, d ≠ some k → (∀ v, l'[k]? = some (Ob.box v) → ∃ u, l[k]? = some (Ob.box u)) ∧ ∀ v, l'[k]? = some (Ob.lin v true) → l[k]? = some (Ob.lin v true)

/-- What one operation turns: its own slot. -/
def FmA (d : Option Nat) (a a' : Act) : Prop := a'.tmps.size = a.tmps.size ∧ (∀ k, d ≠ some k → a'.tmps[k]? = a.tmps[k]?) ∧ a'.defers = a.defers

theorem fmA_put (d : Option Nat) (a : Act) (v : Value) : FmA d a (a.put d v) := by
  cases d with
  | none => exact ⟨rfl, fun _ _ => rfl, rfl⟩
  | some d =>
    refine ⟨by simp [Act.put], fun k hk => ?_, rfl⟩
    simp only [Act.put, Array.getElem?_setIfInBounds]
    rw [if_neg (fun e => hk (by rw [e]))]

theorem Fm.of (S : Sim E V0 io0 W0 C s a W) {C' : Cx} {s' : St} {a' : Act} {W' : World} (S' : Sim E V0 io0 W0 C' s' a' W') (hle : CxLe C C' W W') {d : Option Nat} (ho : ObLe d s.objs s'.objs) (ha : FmA d a a') (hk : Kx E.M C C' W W') : Fm E.M (fun k => d = some k) a a' C C' W W' :=
  ⟨ha.1, ha.2.1, fun k b hk hb => by
    obtain ⟨v, hv⟩ := S'.bxn k b hb
    obtain ⟨u, hu⟩ := (ho k hk).1 v hv
    obtain ⟨b0, _, _, h0, _⟩ := S.bx k u hu
    have := hle.box k b0 h0
    rw [hb] at this
    cases this
    exact h0, fun k v hk hv => by
    have h1 := (S.ln k v true).2 ((ho k hk).2 v ((S'.ln k v true).1 hv))
    obtain ⟨cu, al, g1, g2, g3⟩ := hle.lv k v true h1
    rw [hv] at g1
    cases g1
    exact ⟨v, h1, (g3 rfl rfl).2⟩, hk⟩

/-- The world goes on: others' blocks may have turned, and others may have been told something. -/
theorem Sim.keepM (S : Sim E V0 io0 W0 C s a W) {io' : Io} {W' : World} {objs' : List Ob} (hk : Keep E.M C.io io' W W') (hio : IoOK E.MI io' W') (hb : ∀ (k : Nat) (v : AV), objs'[k]? = some (Ob.box v) ↔ s.objs[k]? = some (Ob.box v))
    (hl : ∀ (k v : Nat) (al : Bool), objs'[k]? = some (Ob.lin v al) ↔ s.objs[k]? = some (Ob.lin v al)) (hg : ∀ (k x y : Nat) (tr : List AV), k + 1 = objs'.length → objs'[k]? = some (Ob.map x y tr) → E.J tr C.V io' W') :
    CxLe C { C with io := io' } W W' ∧ Sim E V0 io0 W0 { C with io := io' } ⟨s.tmps, objs'⟩ a W' := by
  have hnm : ∀ b, W0.heap.size ≤ b → ¬ E.M b := fun b hb hm => by
    have := (S.hM b hm).1
    have := S.n0
    omega
  have hst : Stab C.V C.V W W' := ⟨fun x v hx hv => by
    obtain ⟨cs, ty, fr, h1, _⟩ := cells_of_cell hx
    exact (cell_of_block (hk.block _ (Array.getElem?_eq_some_iff.1 h1).1 (Cell.io_none S.iok h1 (fun _ _ h => nomatch h)) fun hm => hv (S.V0V _ _ ((S.hM _ hm).2 _)))).trans hx, fun _ _ _ h => h⟩
  have hle : CxLe C { C with io := io' } W W' := ⟨hst, fun _ _ h => h, fun k cu al h => ⟨cu, al, h, Nat.le_refl _, fun h _ => ⟨h, rfl⟩⟩, hk.io, hk.size⟩
  refine ⟨hle, { S with tm := ?_, df := ?_, bx := ?_, bxn := ?_, ln := ?_, tl := ?_, Vn := ?_, iok := hio, gl := ?_, kp := S.kp.trans hk, gh := hg }⟩
  · intro t x hx
    obtain ⟨v, h1, h2⟩ := S.tm t x hx
    exact ⟨v, h1, h2.mono E.hT hle⟩
  · exact S.df.imp fun r h3 h2 => (hk.block r (Array.getElem?_eq_some_iff.1 h2).1 (Cell.io_none S.iok h2 (fun _ _ h => nomatch h)) (hnm r h3)).trans h2
  · intro k v hv
    obtain ⟨b, cs, ty, h1, h2, h3, h4, h5⟩ := S.bx k v ((hb k v).1 hv)
    exact ⟨b, cs, ty, h1, (hk.block b (Array.getElem?_eq_some_iff.1 h2).1 (Cell.io_none S.iok h2 (fun _ _ h => nomatch h)) (hnm b h5)).trans h2, h3, Rel.mono E.hT hle h4, h5⟩
  · intro k b h
    obtain ⟨v, hv⟩ := S.bxn k b h
    exact ⟨v, (hb k v).2 hv⟩
  · intro k v al
    exact (S.ln k v al).trans (hl k v al).symm
  · intro k v b lo hi o h1 h2 h3 h4
    obtain ⟨g1, g2, g3, cs, ty, g4, g5⟩ := S.tl k v b lo hi o h1 h2 h3 h4
    exact ⟨g1, g2, g3, cs, ty, (hk.block b (Array.getElem?_eq_some_iff.1 g4).1 (Cell.io_none S.iok g4 (fun _ _ h => nomatch h)) (hnm b g2)).trans g4, g5⟩
  · intro b o h
    exact (S.Vn b o h).imp id fun h => ⟨h.1, Nat.lt_of_lt_of_le h.2 hk.size⟩
  · intro g v h
    have := S.gl g v h
    exact Rel.mono E.hT (C := baseCx C.V C.io) (C' := baseCx C.V io') ⟨hst, (fun _ _ h => by cases h), (fun _ _ _ h => by cases h), hk.io, hk.size⟩ this

/-- The world goes on, and no block of this call's turns. -/
theorem Sim.keep (S : Sim E V0 io0 W0 C s a W) {io' : Io} {W' : World} (hk : Keep noM C.io io' W W') (hio : IoOK E.MI io' W') :
    CxLe C { C with io := io' } W W' ∧ Sim E V0 io0 W0 { C with io := io' } s a W' := by
  refine S.keepM (objs' := s.objs) hk.of_noM hio (fun _ _ => Iff.rfl) (fun _ _ _ => Iff.rfl) fun k x y tr hl h => ?_
  refine E.hJ _ _ _ _ _ _ _ (S.gh k x y tr hl h) ⟨hk.os, hk.tape, hk.output, hk.size, fun b hb hi => hk.block b (Nat.lt_of_lt_of_le hb (Nat.le_trans S.n0 S.kp.size)) hi fun e => e, ⟨fun x v hx _ => ?_, fun _ _ _ h => h⟩, hk.io, fun _ _ _ h => h, fun b o h => Nat.lt_of_lt_of_le (S.base.old b o h) hk.size⟩ hio
  obtain ⟨cs, ty, fr, h1, _⟩ := cells_of_cell hx
  exact (cell_of_block (hk.block _ (Array.getElem?_eq_some_iff.1 h1).1 (Cell.io_none S.iok h1 (fun _ _ h => nomatch h)) fun e => e)).trans hx

theorem Keep.drew (io : Io) (W : World) : Keep noM io io W W.drew := ⟨rfl, rfl, rfl, Nat.le_refl _, fun _ _ _ _ => rfl, fun _ _ => rfl⟩
theorem Keep.alloc (io : Io) (W : World) (o : Obj) : Keep noM io io W (W.alloc o) :=
  ⟨rfl, rfl, rfl, by simp, fun b hb _ _ => by
    show (W.heap.push o)[b]? = _
    rw [Array.getElem?_push, if_neg (by omega)], fun _ _ => rfl⟩

theorem IoOK.alloc {MI : (t : Ty) → t.den → Array MapEntry → Prop} {io : Io} {W : World} (h : IoOK MI io W) (o : Obj) : IoOK MI io (W.alloc o) := fun b t d hb => by
  obtain ⟨es, ck, h1, h2⟩ := h b t d hb
  exact ⟨es, ck, heap_alloc_old' W o h1, h2⟩
theorem IoOK.drew {MI : (t : Ty) → t.den → Array MapEntry → Prop} {io : Io} {W : World} (h : IoOK MI io W) : IoOK MI io W.drew := h

end Ev
end Go.Proofs.YtidnikjkpbmhhaaDoor
/- What is known of the types is so; what an operand reads as. -/
set_option linter.unusedVariables false
namespace Go.Proofs.YtidnikjkpbmhhaaDoor
namespace Ev

def isAggD : TypeDesc → Bool
  | .struct _ => true
  | .array _ _ => true
  | _ => false
def isAgT : Ty → Bool
  | .last _ => true
  | .cons _ _ => true
  | .arr _ _ => true
  | _ => false

structure ElOK (E : Base) (e : Ty) (te by_ : Nat) : Prop where
  pos : 0 < e.size
  bpos : 0 < by_
  ex : ∃ inf zv, E.P.info? te = some inf ∧ inf.size = e.size ∧ inf.bytes = by_ ∧ inf.zero = some zv ∧ zv.cells.size = e.size ∧ ∀ V W, CRel V W e e.dflt zv.cells.toList

/-- Cells of scalars, compared. -/
def eqVals : List Value → List Value → Option Bool
  | [], [] => some true
  | .int .i64 a :: xs, .int .i64 b :: ys => (eqVals xs ys).map (decide (a = b) && ·)
  | .bool a :: xs, .bool b :: ys => (eqVals xs ys).map ((a == b) && ·)
  | _, _ => none

def kindsV : List Value → Option (List Bool)
  | [] => some []
  | .int .i64 _ :: xs => (kindsV xs).map (false :: ·)
  | .bool _ :: xs => (kindsV xs).map (true :: ·)
  | _ => none

structure TiOK (E : Base) (t : Nat) (i : Ti) : Prop where
  sz : ∃ inf, E.P.info? t = some inf ∧ inf.size = i.sz
  ag : ∃ d, E.P.underlying t = some d ∧ isAggD d = i.ag
  zero : ∀ z, i.zero = some z → ∃ inf v, E.P.info? t = some inf ∧ inf.zero = some v ∧ z.size = i.sz ∧ isAg z = i.ag ∧ clean z = true ∧ ∀ C W, ∃ cs, cs.length = z.size ∧ Rel E.TR C W z cs ∧ v = mkV z cs
  flds : ∀ (f off ft : Nat), i.flds[f]? = some (off, ft) → ∃ fs fd, E.P.underlying t = some (.struct fs) ∧ fs[f]? = some fd ∧ fd.offset = off ∧ fd.type = ft ∧ ∃ inf, E.P.info? ft = some inf ∧ inf.size ≠ 0
  el : ∀ e te by_, i.el = some (e, te, by_) → E.P.underlying t = some (.slice te) ∧ ElOK E e te by_
  ar : ∀ n te tid, i.ar = some (n, te, tid) → ∃ inf d, E.P.underlying t = some (.array n tid) ∧ E.P.info? tid = some inf ∧ inf.size = te.size ∧ E.P.underlying tid = some d ∧ isAggD d = isAgT te
  bl : i.bl = true → E.P.underlying t = some .bool
  eq : i.eq ≠ [] → E.P.eqGuardType E.P.depth t = false ∧ ∀ xs ys r W, kindsV xs = some i.eq → kindsV ys = some i.eq → eqVals xs ys = some r → (Op.equal t (.agg xs.toArray) (.agg ys.toArray)).run E.P W = .ok r W
  bld : i.ar = none → i.flds ≠ [] → ∃ fs pl, E.P.underlying t = some (.struct fs) ∧ fs.toList.mapM (fun f => (E.P.info? f.type).map fun i => (f.offset, i.size)) = some pl ∧
    ∀ (f off ft : Nat), i.flds[f]? = some (off, ft) → ∃ inf, E.P.info? ft = some inf ∧ pl[f]? = some (off, inf.size)

def TblOK (E : Base) (T : Tbl) : Prop := ∀ t i, look T t = some i → TiOK E t i

/-- The fence of a frame: of a function, or of a round of loop l. -/
abbrev Fr (ro : Option Nat) : Fence := { Fence.wide with round := ro }

/-- A value is called: a function, or the word that a loop's body is told by. -/
def Goes (E : Base) (x : Value) (vs : List Value) (W : World) (R : Value → World → Prop) : Prop :=
  (∃ (f : Nat) (xs ys : List Value) (fn : Func), x = .func (.func f) xs.toArray ys.toArray ∧ E.P.funcs[f]? = some fn ∧ fn.body.isNone = false ∧ (fn.name == "runtime.NumGoroutine") = false ∧
    Calls E.P f (xs ++ (vs ++ ys)).toArray W fun e W' => ∃ r, e = .returned r ∧ R r W') ∨
  (∃ l : Nat, x = .func (.yield l) #[] #[] ∧ YieldAt Fence.wide 0 E.P l vs.toArray W fun e W' => ∃ r, e = .returned r ∧ R r W')

/-- The word of a value that is called and tells others something. -/
def TCtr (E : Env) (i : Nat) (g : List AV → (t : Ty) → t.den → List AV → Option (Bool × AV × List AV)) : Prop :=
  ∀ V io W tr t d x args vs r items, BaseOK E.toBase V io W → E.n0 ≤ W.heap.size → (∀ b, E.M b → b < E.n0 ∧ ∀ o, V b o) → E.J tr V io W → E.TR i t d V io W x → RelV E.TR (baseCx V io) W args vs → g tr t d args = some (true, r, items) →
    Goes E.toBase x vs W fun y W' => ∃ io', VR E.TR (baseCx V io') W' r y ∧ Keep E.M io io' W W' ∧ IoOK E.MI io' W' ∧ E.J (tr ++ items) V io' W'

/-- What a loop's body promises: of each that is told in its turn it says b. -/
def YCtr (E : Env) (b : Bool) (t : Ty) (xs : List t.den) (x : Value) : Prop :=
  ∀ (pre : List t.den) (d : t.den) (rest : List t.den), xs = pre ++ d :: rest → (b = false → pre = []) → ∀ V io W vs, BaseOK E.toBase V io W → E.n0 ≤ W.heap.size → (∀ b, E.M b → b < E.n0 ∧ ∀ o, V b o) → E.J (pre.map (enc t)) V io W → RelV E.TR (baseCx V io) W [enc t d] vs →
    Goes E.toBase x vs W fun y W' => ∃ io', y = .bool b ∧ Keep E.M io io' W W' ∧ IoOK E.MI io' W' ∧ E.J ((pre ++ [d]).map (enc t)) V io' W'

def told (t : Ty) (b : Bool) (xs : List t.den) : List AV := if b = true then xs.map (enc t) else (xs.take 1).map (enc t)

/-- The word of a function that tells what is ranged over. -/
def ICtr (B : Base) (f : Nat) (it : It) : Prop :=
  ∀ (E : Env), E.toBase = B → ∀ (b : Bool) V io W (l : Nat) cap caps xs, BaseOK B V io W → E.n0 ≤ W.heap.size → (∀ b, E.M b → b < E.n0 ∧ ∀ o, V b o) → E.J [] V io W → RelV B.TR (baseCx V io) W cap caps → it.f cap = some (true, xs) →
    YCtr E b it.t xs (.func (.yield l) #[] #[]) →
    Calls B.P f (Value.func (.yield l) #[] #[] :: caps).toArray W fun e W' => ∃ v, e = .returned v ∧ ∃ io', Keep E.M io io' W W' ∧ IoOK B.MI io' W' ∧ E.J (told it.t b xs) V io' W'

structure CtxOK (E : Env) (X : Ctx) : Prop where
  T : TblOK E.toBase X.T
  G : X.G = E.GL
  C : ∀ f g, findA X.C f = some g → Ctr E.toBase f g ∧ ∃ fn, E.P.funcs[f]? = some fn ∧ fn.body.isNone = false ∧ (fn.name == "runtime.NumGoroutine") = false
  M : E.P.follows .mixedOrders = true
  K : ∀ i g, findA X.K i = some g → TCtr E i g
  mkm : ∀ d, X.mkm = some d → E.MI d.1 d.2 #[] ∧ ∀ V io (W : World) b, io b = some d → b < W.heap.size → E.TR 0 d.1 d.2 V io W (.map (some b))
  up : ∀ u, X.up = some u → ∀ V io W t d mv k v kv vv, BaseOK E.toBase V io W → E.TR 0 t d V io W mv → VR E.TR (baseCx V io) W k kv → VR E.TR (baseCx V io) W v vv → u.2 t d k v = true →
    ∃ W', (Instr.mapUpdate u.1 mv kv vv).run E.P W = .ok () W' ∧ Keep noM io io W W' ∧ IoOK E.MI io W'
  I : ∀ f it, findA X.I f = some it → ICtr E.toBase f it ∧ ∃ fn, E.P.funcs[f]? = some fn ∧ fn.body.isNone = false ∧ (fn.name == "runtime.NumGoroutine") = false

variable {E : Env} {V0 : Nat → Nat → Prop} {io0 : Io} {W0 : World} {C : Cx} {s : St} {a : Act} {W : World} {X : Ctx}

theorem vr_int (n : Int) : VR E.TR C W (.int n) (.int .i64 n) := .inr ⟨[.int .i64 n], rfl, by simp [Rel], rfl⟩
theorem vr_bool (n : Bool) : VR E.TR C W (.bool n) (.bool n) := .inr ⟨[.bool n], rfl, by simp [Rel], rfl⟩
theorem vr_poison (v : Value) : VR E.TR C W .poison v := .inl rfl
theorem vr_undef : VR E.TR C W .undef undef := .inr ⟨[undef], rfl, by simp [Rel], rfl⟩
theorem VR.int_inv {n : Int} {v : Value} (h : VR E.TR C W (.int n) v) : v = .int .i64 n := by
  rcases h with h | ⟨cs, _, h, rfl⟩
  · cases h
  · simp only [Rel] at h
    subst h
    rfl
theorem VR.bool_inv {n : Bool} {v : Value} (h : VR E.TR C W (.bool n) v) : v = .bool n := by
  rcases h with h | ⟨cs, _, h, rfl⟩
  · cases h
  · simp only [Rel] at h
    subst h
    rfl
theorem VR.undef_inv {v : Value} (h : VR E.TR C W .undef v) : v = undef := by
  rcases h with h | ⟨cs, _, h, rfl⟩
  · cases h
  · simp only [Rel] at h
    subst h
    rfl

theorem rel_nil (t : Ty) (f : Fl) (hf : f.ow = none) : Rel E.TR C W (.sl t f []) [.slice none 0 0] := by
  simp only [Rel]
  refine ⟨none, 0, rfl, Nat.le_refl _, fun j x h => by simp at h, fun _ _ => ⟨rfl, rfl⟩, fun _ => rfl, fun k v h => by rw [hf] at h; cases h⟩
theorem vr_nil (t : Ty) (f : Fl) (hf : f.ow = none) : VR E.TR C W (.sl t f []) (.slice none 0 0) := .inr ⟨_, rfl, rel_nil t f hf, rfl⟩

theorem VR.sl_inv {t : Ty} {f : Fl} {l : List t.den} {v : Value} (h : VR E.TR C W (.sl t f l) v) : ∃ A c, v = .slice A l.length c ∧ Rel E.TR C W (.sl t f l) [.slice A l.length c] := by
  rcases h with h | ⟨cs, _, h, rfl⟩
  · cases h
  · have h' := h
    simp only [Rel] at h
    obtain ⟨A, c, rfl, _⟩ := h
    exact ⟨A, c, rfl, h'⟩

theorem look_el (hT : TblOK E.toBase X.T) {t : Nat} {e : Ty} {te by_ : Nat} (h : elOf X.T t = some (e, te, by_)) : E.P.underlying t = some (.slice te) ∧ ElOK E.toBase e te by_ := by
  unfold elOf at h
  split at h
  · rename_i i hi
    exact (hT t i hi).el _ _ _ h
  · cases h

theorem constAV_ok (t : Nat) (v : Value) : VR E.TR C W (constAV X.T t v) v := by
  unfold constAV
  split
  · exact vr_int _
  · exact vr_bool _
  · split
    · exact vr_nil _ _ rfl
    · exact vr_poison _
  · exact vr_poison _

theorem Sim.evO (S : Sim E V0 io0 W0 C s a W) (hX : CtxOK E X) (t : Nat) (x : Operand) : VR E.TR C W (evO X s t x) (a.eval x) := by
  cases x with
  | tmp k => exact S.get k
  | const v => exact constAV_ok t v
  | global g =>
    simp only [Ev.evO, Act.eval]
    split
    · rename_i v hv
      rw [hX.G] at hv
      exact .inr ⟨_, rfl, Rel.mono E.hT (CxLe.ofBase C rfl rfl) (S.gl g v hv), rfl⟩
    · exact vr_poison _
  | func f =>
    refine .inr ⟨[.func (.func f) #[] #[]], rfl, ?_, rfl⟩
    simp only [Ev.evO, Rel]
    exact ⟨[], [], rfl, by simp [RelV], by simp [RelV]⟩

theorem callsIn_fr {ro : Option Nat} {P : Program} {f : FuncId} {args : Array Value} {w : World} {R : Ending → World → Prop} (h : Calls P f args w R) : CallsIn (Fr ro) 0 P f args w R := (callsIn_wide (n := 0)).2 h
theorem calls_of_fr {ro : Option Nat} {P : Program} {f : FuncId} {args : Array Value} {w : World} {R : Ending → World → Prop} (h : CallsIn (Fr ro) 0 P f args w R) : Calls P f args w R := (callsIn_wide (n := 0)).1 h

theorem semAt_fr {ρ : Operand → Value} {o : Oper} {P : Program} {W W' : World} {x : Next} (ro : Option Nat) (h : (execOp ρ o).run P W = .ok x W') (hx : ∀ d, x ≠ .defer d) : o.semAt ro ρ = execOp ρ o := by
  refine Oper.semAt_eq ro ρ o fun c ho => ?_
  unfold execOp at h
  rw [ho] at h
  simp only [Sem.run_bind] at h
  cases hr : (resolve ρ c o.type).run P W with
  | ok d w' =>
    rw [hr] at h
    simp only [Result.andThen_ok, Sem.run_pure, Result.ok.injEq] at h
    exact hx d h.1.symm
  | halt y w' =>
    rw [hr] at h
    cases h

/-- An operation goes through, and what it leaves. -/
def OpOK (E : Env) (V0 : Nat → Nat → Prop) (io0 : Io) (W0 : World) (C : Cx) (o : Oper) (s : St) (a : Act) (W : World) (v : AV) (obs : List Ob) : Prop :=
  ∀ (ro : Option Nat) (next : Act → World → Prop) (Q : Exit → Act → World → Prop), (∀ C' a' W', Sim E V0 io0 W0 C' ⟨(s.put o.dst v).tmps, obs⟩ a' W' → CxLe C C' W W' → FmA o.dst a a' → Kx E.M C C' W W' → next a' W') → o.wpIn (Fr ro) 0 E.P a W next Q

theorem put_objs (s : St) (d : Option Nat) (v : AV) (obs : List Ob) : (⟨(s.put d v).tmps, obs⟩ : St) = (⟨s.tmps, obs⟩ : St).put d v := by cases d <;> rfl

theorem OpOK.value {o : Oper} {v : AV} {obs : List Ob} {x : Value} {C' : Cx} {W' : World} (hr : (execOp a.eval o).run E.P W = .ok (.value x) W') (hS : Sim E V0 io0 W0 C' ⟨s.tmps, obs⟩ a W') (hle : CxLe C C' W W') (hkx : Kx E.M C C' W W') (hv : VR E.TR C' W' v x) :
    OpOK E V0 io0 W0 C o s a W v obs := by
  intro ro next Q hn
  refine ⟨fun _ _ => trivial, ?_⟩
  rw [semAt_fr _ hr (fun _ h => nomatch h), hr, Oper.uponIn_value]
  exact hn C' _ _ (by rw [put_objs]; exact hS.put o.dst hv) hle (fmA_put _ _ _) hkx
theorem OpOK.skip {o : Oper} {obs : List Ob} {C' : Cx} {W' : World} (hr : (execOp a.eval o).run E.P W = .ok .skip W') (hS : Sim E V0 io0 W0 C' ⟨s.tmps, obs⟩ a W') (hle : CxLe C C' W W') (hkx : Kx E.M C C' W W') :
    OpOK E V0 io0 W0 C o s a W .undef obs := by
  intro ro next Q hn
  refine ⟨fun _ _ => trivial, ?_⟩
  rw [semAt_fr _ hr (fun _ h => nomatch h), hr, Oper.uponIn_skip]
  exact hn C' _ _ (by rw [put_objs]; exact hS.put o.dst vr_undef) hle (fmA_put _ _ _) hkx

/-- Runs of the shape 'v (..)'. -/
theorem run_v {S : Sem Value} {x : Value} {W W' : World} {P : Program} (h : S.run P W = .ok x W') : (do pure (Next.value (← S)) : Sem Next).run P W = .ok (.value x) W' := by
  simp [h]

theorem run_isAgg {t : Nat} {d : TypeDesc} (h : E.P.underlying t = some d) (W : World) : (isAgg t).run E.P W = .ok (isAggD d) W := by
  simp only [isAgg, Sem.run_bind, run_underlying h, Result.andThen_ok]
  cases d <;> rfl
theorem run_sizeOf' {t : Nat} {i : TypeInfo} (h : E.P.info? t = some i) (W : World) : (sizeOf t).run E.P W = .ok i.size W := by
  simp [sizeOf, typeInfo, h]
theorem run_typeInfo' {t : Nat} {i : TypeInfo} (h : E.P.info? t = some i) (W : World) : (typeInfo t).run E.P W = .ok i W := by
  simp [typeInfo, h]
theorem run_zeroValue' {t : Nat} {i : TypeInfo} {v : Value} (h : E.P.info? t = some i) (hz : i.zero = some v) (W : World) : (zeroValue t).run E.P W = .ok v W := by
  simp [zeroValue, typeInfo, h, hz]

/-- A loaded variable. -/
theorem run_loadVar' {t : Nat} {i : Ti} (hi : TiOK E.toBase t i) {v : AV} {cs : List Value} {ad : Addr} (h1 : i.sz = v.size) (h2 : i.ag = isAg v) (hl : cs.length = v.size)
    (hc : ∀ j u, cs[j]? = some u → W.cell? (ad.add j) = some u) (hz : isAg v = false → v.size = 1) : (loadVar t ad).run E.P W = .ok (mkV v cs) W := by
  obtain ⟨d, hd, hd2⟩ := hi.ag
  obtain ⟨inf, hinf, hsz⟩ := hi.sz
  simp only [loadVar, Sem.run_bind, run_isAgg hd, Result.andThen_ok, hd2, h2]
  cases hv : isAg v with
  | true =>
    simp only [if_true, Sem.run_bind, run_sizeOf' hinf, Result.andThen_ok]
    have := run_loadCells_list (P := E.P) W ad cs hc
    rw [hsz, h1, ← hl, this]
    simp [mkV, hv]
  | false =>
    have h1 := hz hv
    match cs, hl, hc with
    | [u], _, hc =>
      have := hc 0 u rfl
      rw [add_zero] at this
      simp [mkV, hv, this]
    | [], hl, _ => simp [h1] at hl
    | _ :: _ :: _, hl, _ => simp [h1] at hl

theorem size_one {v : AV} (h : isAg v = false) : v.size = 1 := by
  cases v <;> first | rfl | (simp [isAg] at h)

theorem fits_inv {T : Tbl} {t : Nat} {v : AV} (h : fits T t v = true) : ∃ i, look T t = some i ∧ i.sz = v.size ∧ i.ag = isAg v := by
  unfold fits at h
  split at h
  · rename_i i hi
    simp only [Bool.and_eq_true, decide_eq_true_eq, beq_iff_eq] at h
    exact ⟨i, hi, h.1, h.2⟩
  · cases h

/-! Paths. -/

theorem flat_at {α : Type} {R : α → List Value → Prop} {sz : Nat} (hR : ∀ x c, R x c → c.length = sz) : ∀ {xs : List α} {cs : List Value}, Flat R xs cs → ∀ j x, xs[j]? = some x → R x ((cs.drop (j * sz)).take sz) ∧ j * sz + sz ≤ cs.length
  | [], _, _, j, x, h => by simp at h
  | y :: xs, cs, ⟨c, d, e, h1, h2⟩, 0, x, h => by
    simp at h
    subst h
    subst e
    have := hR _ _ h1
    subst this
    exact ⟨by simpa using h1, by simp⟩
  | y :: xs, cs, ⟨c, d, e, h1, h2⟩, j + 1, x, h => by
    obtain ⟨g1, g2⟩ := flat_at hR h2 j x (by simpa using h)
    have hl := hR _ _ h1
    subst e
    have e1 : (j + 1) * sz = c.length + j * sz := by rw [Nat.add_mul, Nat.one_mul, hl, Nat.add_comm]
    have e2 : (j + 1) * sz + sz = c.length + (j * sz + sz) := by omega
    rw [e2, e1, List.drop_length_add_append]
    refine ⟨g1, by simp; omega⟩

mutual
theorem enc_rel {V : Nat → Nat → Prop} {io : Io} {W : World} {TR : TokRel} : ∀ {t : Ty} {x : t.den} {cs : List Value}, CRel V W t x cs → ∀ C : Cx, C.V = V → Rel TR C W (enc t x) cs ∧ (enc t x).size = t.size
  | .int, x, cs, h, C, hC => by
    simp only [enc, Rel, AV.size, Ty.size]
    exact ⟨h, trivial⟩
  | .bool, x, cs, h, C, hC => by
    simp only [enc, Rel, AV.size, Ty.size]
    exact ⟨h, trivial⟩
  | .last a, x, cs, h, C, hC => by
    have h' : CRel V W a x cs := h
    obtain ⟨g1, g2⟩ := enc_rel (io := io) (TR := TR) h' C hC
    simp only [enc, Rel, RelL, AV.size, sizeL, Ty.size]
    exact ⟨⟨cs, [], by simp, by rw [CRel.length h', g2], g1, rfl⟩, by omega⟩
  | .cons a b, x, cs, h, C, hC => by
    obtain ⟨c, d, e, h1, h2⟩ := h
    obtain ⟨g1, g2⟩ := enc_rel (io := io) (TR := TR) h1 C hC
    obtain ⟨g3, g4⟩ := encT_rel (io := io) (TR := TR) h2 C hC
    simp only [enc, Rel, RelL, AV.size, sizeL, Ty.size]
    exact ⟨⟨c, d, e, by rw [CRel.length h1, g2], g1, g3⟩, by omega⟩
  | .slice t, l, cs, h, C, hC => by
    obtain ⟨A, c, e, h1, h2⟩ := h
    simp only [enc, Rel, AV.size, Ty.size]
    subst hC
    exact ⟨⟨A, c, e, h1, h2, by simp, by simp, by simp⟩, trivial⟩
  | .arr n t, xs, cs, h, C, hC => by
    obtain ⟨h1, h2⟩ := h
    simp only [enc, Rel, AV.size, Ty.size]
    subst hC
    exact ⟨⟨h1, h2⟩, trivial⟩
theorem encT_rel {V : Nat → Nat → Prop} {io : Io} {W : World} {TR : TokRel} : ∀ {t : Ty} {x : t.den} {cs : List Value}, CRel V W t x cs → ∀ C : Cx, C.V = V → RelL TR C W (encT t x) cs ∧ sizeL (encT t x) = t.size
  | .int, x, cs, h, C, hC => by
    have h' : cs = [.int .i64 x] := h
    simp only [encT, RelL, Rel, AV.size, sizeL, Ty.size]
    exact ⟨⟨cs, [], by simp, by simp [h'], h', rfl⟩, trivial⟩
  | .bool, x, cs, h, C, hC => by
    have h' : cs = [.bool x] := h
    simp only [encT, RelL, Rel, AV.size, sizeL, Ty.size]
    exact ⟨⟨cs, [], by simp, by simp [h'], h', rfl⟩, trivial⟩
  | .last a, x, cs, h, C, hC => by
    have h' : CRel V W a x cs := h
    obtain ⟨g1, g2⟩ := enc_rel (io := io) (TR := TR) h' C hC
    simp only [encT, RelL, sizeL, Ty.size]
    exact ⟨⟨cs, [], by simp, by rw [CRel.length h', g2], g1, rfl⟩, by omega⟩
  | .cons a b, x, cs, h, C, hC => by
    obtain ⟨c, d, e, h1, h2⟩ := h
    obtain ⟨g1, g2⟩ := enc_rel (io := io) (TR := TR) h1 C hC
    obtain ⟨g3, g4⟩ := encT_rel (io := io) (TR := TR) h2 C hC
    simp only [encT, RelL, sizeL, Ty.size]
    exact ⟨⟨c, d, e, by rw [CRel.length h1, g2], g1, g3⟩, by omega⟩
  | .slice t, l, cs, h, C, hC => by
    obtain ⟨A, c, e, h1, h2⟩ := h
    simp only [encT, RelL, Rel, AV.size, sizeL, Ty.size]
    subst hC
    exact ⟨⟨cs, [], by simp, by simp [e], ⟨A, c, e, h1, h2, by simp, by simp, by simp⟩, rfl⟩, trivial⟩
  | .arr n t, xs, cs, h, C, hC => by
    have hl := CRel.length (t := .arr n t) h
    obtain ⟨h1, h2⟩ := h
    simp only [encT, RelL, Rel, AV.size, sizeL, Ty.size] at hl ⊢
    subst hC
    exact ⟨⟨cs, [], by simp, hl, ⟨h1, h2⟩, rfl⟩, by omega⟩
end

theorem isAg_enc (t : Ty) (x : t.den) : isAg (enc t x) = isAgT t := by cases t <;> rfl

theorem relL_at {TR : TokRel} : ∀ {l : List AV} {cs : List Value}, RelL TR C W l cs → ∀ (i : Nat) (x : AV), l[i]? = some x → Rel TR C W x ((cs.drop (sizeL (l.take i))).take x.size) ∧ sizeL (l.take i) + x.size ≤ cs.length
  | [], _, _, i, x, h => by simp at h
  | v :: l, cs, hr, 0, x, h => by
    simp only [RelL] at hr
    obtain ⟨c, d, rfl, hl, h1, h2⟩ := hr
    simp at h
    subst h
    simp only [List.take_zero, sizeL, List.drop_zero]
    refine ⟨by rw [← hl]; simpa using h1, by simp; omega⟩
  | v :: l, cs, hr, i + 1, x, h => by
    simp only [RelL] at hr
    obtain ⟨c, d, rfl, hl, h1, h2⟩ := hr
    obtain ⟨g1, g2⟩ := relL_at h2 i x (by simpa using h)
    simp only [List.take_succ_cons, sizeL]
    rw [← hl, List.drop_length_add_append]
    refine ⟨g1, by simp; omega⟩

theorem relL_length {TR : TokRel} : ∀ {l : List AV} {cs : List Value}, RelL TR C W l cs → cs.length = sizeL l
  | [], _, h => by simp only [RelL] at h; simp [h, sizeL]
  | v :: l, cs, h => by
    simp only [RelL] at h
    obtain ⟨c, d, rfl, hl, h1, h2⟩ := h
    simp [sizeL, hl, relL_length h2]

theorem Rel.len {TR : TokRel} {v : AV} {cs : List Value} (h : Rel TR C W v cs) : cs.length = v.size := by
  cases v with
  | agg l =>
    simp only [Rel] at h
    exact relL_length h
  | arr t n xs =>
    simp only [Rel] at h
    obtain ⟨h1, h2⟩ := h
    rw [Flat.length (fun x c h => CRel.length h) h2, h1]
    rfl
  | poison => simp only [Rel] at h; obtain ⟨v, rfl⟩ := h; rfl
  | undef => simp only [Rel] at h; subst h; rfl
  | int n => simp only [Rel] at h; subst h; rfl
  | bool n => simp only [Rel] at h; subst h; rfl
  | sl t f l => simp only [Rel] at h; obtain ⟨A, c, rfl, _⟩ := h; rfl
  | tup l => simp only [Rel] at h; obtain ⟨vs, rfl, _⟩ := h; rfl
  | ref k p => simp only [Rel] at h; obtain ⟨b, _, _, rfl⟩ := h; rfl
  | cref v p => simp only [Rel] at h; obtain ⟨b, _, _, _, _, rfl⟩ := h; rfl
  | fn f x y => simp only [Rel] at h; obtain ⟨b, _, rfl, _⟩ := h; rfl
  | map k => simp only [Rel] at h
  | tok i t d => simp only [Rel] at h; obtain ⟨b, rfl, _⟩ := h; rfl

theorem VR.mk {v : AV} {cs : List Value} (h : Rel E.TR C W v cs) : VR E.TR C W v (mkV v cs) := .inr ⟨cs, h.len, h, rfl⟩

/-- A part behind a path reads in its place. -/
theorem getP_rel {TR : TokRel} : ∀ {p : List Stp} {v u : AV} {cs : List Value}, Rel TR C W v cs → getP v p = some u → okP p → Rel TR C W u ((cs.drop (offP p)).take u.size) ∧ offP p + u.size ≤ cs.length
  | [], v, u, cs, h, hg, _ => by
    simp only [getP] at hg
    have e := Option.some.inj hg
    subst e
    have := h.len
    simp only [offP, List.drop_zero]
    exact ⟨by rw [← this, List.take_length]; exact h, by omega⟩
  | x :: p, v, u, cs, h, hg, hp => by
    have hp' : okP p := fun y hy => hp y (by simp [hy])
    cases v with
    | agg l =>
      cases x with
      | fld i off =>
        simp only [getP] at hg
        split at hg
        · rename_i w hw
          split at hg
          · rename_i ho
            simp only [Rel] at h
            obtain ⟨g1, g2⟩ := relL_at h i w hw
            obtain ⟨g3, g4⟩ := getP_rel g1 hg hp'
            simp only [List.length_take, List.length_drop] at g4
            simp only [offP, Stp.off]
            subst ho
            refine ⟨?_, by omega⟩
            rw [List.drop_take, List.take_take, List.drop_drop] at g3
            have e : min u.size (w.size - offP p) = u.size := by omega
            rw [e] at g3
            exact g3
          · cases hg
        · cases hg
      | idx i sz n =>
        simp only [getP] at hg
        split at hg
        · rename_i w hw
          split at hg
          · rename_i ho
            simp only [Rel] at h
            obtain ⟨g1, g2⟩ := relL_at h i.toNat w hw
            obtain ⟨g3, g4⟩ := getP_rel g1 hg hp'
            simp only [List.length_take, List.length_drop] at g4
            simp only [offP, Stp.off]
            rw [ho] at g3 g2
            refine ⟨?_, by omega⟩
            rw [List.drop_take, List.take_take, List.drop_drop] at g3
            have e : min u.size (w.size - offP p) = u.size := by omega
            rw [e] at g3
            exact g3
          · cases hg
        · cases hg
    | arr t n xs =>
      cases x with
      | fld i off => simp [getP] at hg
      | idx i sz m =>
        simp only [getP] at hg
        split at hg
        · rename_i hc
          obtain ⟨rfl, rfl⟩ := hc
          simp only [Rel] at h
          obtain ⟨h1, h2⟩ := h
          have hx := hp (.idx i t.size m) (by simp)
          simp only [Stp.ok] at hx
          have hi : i.toNat < xs.length := by omega
          have he : xs.getD i.toNat t.dflt = xs[i.toNat] := by simp [List.getD, List.getElem?_eq_getElem hi]
          rw [he] at hg
          obtain ⟨g1, g2⟩ := flat_at (fun x c h => CRel.length h) h2 i.toNat _ (List.getElem?_eq_getElem hi)
          obtain ⟨g3, g4⟩ := enc_rel (io := C.io) (TR := TR) g1 C rfl
          obtain ⟨g5, g6⟩ := getP_rel g3 hg hp'
          simp only [List.length_take, List.length_drop] at g6
          simp only [offP, Stp.off]
          refine ⟨?_, by omega⟩
          rw [List.drop_take, List.take_take, List.drop_drop] at g5
          have e : min u.size (t.size - offP p) = u.size := by omega
          rw [e] at g5
          exact g5
        · cases hg
    | _ => simp [getP] at hg

end Ev
end Go.Proofs.YtidnikjkpbmhhaaDoor
/- Parts written in a tree; the bond behind a store, a new box, a slice that grows. -/
set_option linter.unusedVariables false
namespace Go.Proofs.YtidnikjkpbmhhaaDoor
namespace Ev

variable {E : Env} {V0 : Nat → Nat → Prop} {io0 : Io} {W0 : World} {C : Cx} {s : St} {a : Act} {W : World} {X : Ctx}

mutual
theorem dec_rel {TR : TokRel} : ∀ {t : Ty} {v : AV} {d : t.den} {cs : List Value}, dec t v = some d → Rel TR C W v cs → CRel C.V W t d cs
  | .int, v, d, cs, h, hr => by
    cases v <;> simp only [dec] at h <;> first | (cases h; done) | skip
    rename_i n
    have e := Option.some.inj h
    subst e
    simp only [Rel] at hr
    exact hr
  | .bool, v, d, cs, h, hr => by
    cases v <;> simp only [dec] at h <;> first | (cases h; done) | skip
    rename_i n
    have e := Option.some.inj h
    subst e
    simp only [Rel] at hr
    exact hr
  | .last a, v, d, cs, h, hr => by
    cases v with
    | agg l =>
      match l, h with
      | [x], h =>
        simp only [dec] at h
        simp only [Rel, RelL] at hr
        obtain ⟨c, e, rfl, hl, h1, rfl⟩ := hr
        rw [List.append_nil]
        exact dec_rel (t := a) h h1
      | [], h => simp [dec] at h
      | _ :: _ :: _, h => simp [dec] at h
    | _ => simp [dec] at h
  | .cons a b, v, d, cs, h, hr => by
    cases v with
    | agg l =>
      match l, h with
      | x :: r, h =>
        simp only [dec] at h
        split at h
        · rename_i u w hu hw
          have e := Option.some.inj h
          subst e
          simp only [Rel, RelL] at hr
          obtain ⟨c, e, rfl, hl, h1, h2⟩ := hr
          exact ⟨c, e, rfl, dec_rel hu h1, decT_rel hw h2⟩
        · cases h
      | [], h => simp [dec] at h
    | _ => simp [dec] at h
  | .slice t, v, d, cs, h, hr => by
    cases v with
    | sl t' f l =>
      simp only [dec] at h
      split at h
      · rename_i e
        subst e
        have e := Option.some.inj h
        subst e
        simp only [Rel] at hr
        obtain ⟨A, c, e, h1, h2, _⟩ := hr
        exact ⟨A, c, e, h1, h2⟩
      · cases h
    | _ => simp [dec] at h
  | .arr n t, v, d, cs, h, hr => by
    cases v with
    | arr t' n' xs =>
      simp only [dec] at h
      split at h
      · rename_i e
        subst e
        split at h
        · rename_i e
          subst e
          have e := Option.some.inj h
          subst e
          simp only [Rel] at hr
          exact hr
        · cases h
      · cases h
    | _ => simp [dec] at h
theorem decT_rel {TR : TokRel} : ∀ {t : Ty} {l : List AV} {d : t.den} {cs : List Value}, decT t l = some d → RelL TR C W l cs → CRel C.V W t d cs
  | .int, l, d, cs, h, hr => by simp [decT] at h
  | .bool, l, d, cs, h, hr => by simp [decT] at h
  | .slice t, l, d, cs, h, hr => by simp [decT] at h
  | .arr n t, l, d, cs, h, hr => by simp [decT] at h
  | .last a, l, d, cs, h, hr => by
    match l, h with
    | [x], h =>
      simp only [decT] at h
      simp only [RelL] at hr
      obtain ⟨c, e, rfl, hl, h1, rfl⟩ := hr
      rw [List.append_nil]
      exact dec_rel (t := a) h h1
    | [], h => simp [decT] at h
    | _ :: _ :: _, h => simp [decT] at h
  | .cons a b, l, d, cs, h, hr => by
    match l, h with
    | x :: r, h =>
      simp only [decT] at h
      split at h
      · rename_i u w hu hw
        have e := Option.some.inj h
        subst e
        simp only [RelL] at hr
        obtain ⟨c, e, rfl, hl, h1, h2⟩ := hr
        exact ⟨c, e, rfl, dec_rel hu h1, decT_rel hw h2⟩
      · cases h
    | [], h => simp [decT] at h
end

theorem relL_split {TR : TokRel} : ∀ {l : List AV} {cs : List Value}, RelL TR C W l cs → ∀ (i : Nat) (x : AV), l[i]? = some x →
    ∃ A c B, cs = A ++ c ++ B ∧ A.length = sizeL (l.take i) ∧ Rel TR C W x c ∧ ∀ y d, y.size = x.size → Rel TR C W y d → RelL TR C W (l.set i y) (A ++ d ++ B) ∧ sizeL (l.set i y) = sizeL l
  | [], _, _, i, x, h => by simp at h
  | v :: l, cs, hr, 0, x, h => by
    simp only [RelL] at hr
    obtain ⟨c, d, rfl, hl, h1, h2⟩ := hr
    simp at h
    subst h
    refine ⟨[], c, d, by simp, by simp [sizeL], h1, fun y e hy he => ?_⟩
    simp only [List.set_cons_zero, RelL, sizeL, List.nil_append]
    exact ⟨⟨e, d, rfl, he.len, he, h2⟩, by omega⟩
  | v :: l, cs, hr, i + 1, x, h => by
    simp only [RelL] at hr
    obtain ⟨c, d, rfl, hl, h1, h2⟩ := hr
    obtain ⟨A, e, B, rfl, g1, g2, g3⟩ := relL_split h2 i x (by simpa using h)
    refine ⟨c ++ A, e, B, by simp, by simp [sizeL, g1, hl], g2, fun y f hy hf => ?_⟩
    obtain ⟨g4, g5⟩ := g3 y f hy hf
    simp only [List.set_cons_succ, RelL, sizeL]
    exact ⟨⟨c, A ++ f ++ B, by simp, hl, h1, g4⟩, by omega⟩

theorem flat_split {α : Type} {R : α → List Value → Prop} {sz : Nat} (hR : ∀ x c, R x c → c.length = sz) : ∀ {xs : List α} {cs : List Value}, Flat R xs cs → ∀ (i : Nat) (x : α), xs[i]? = some x →
    ∃ A c B, cs = A ++ c ++ B ∧ A.length = i * sz ∧ R x c ∧ ∀ y d, R y d → Flat R (xs.set i y) (A ++ d ++ B)
  | [], _, _, i, x, h => by simp at h
  | v :: l, cs, hr, 0, x, h => by
    obtain ⟨c, d, rfl, h1, h2⟩ := hr
    simp at h
    subst h
    exact ⟨[], c, d, by simp, by simp, h1, fun y e he => ⟨e, d, by simp, he, h2⟩⟩
  | v :: l, cs, hr, i + 1, x, h => by
    obtain ⟨c, d, rfl, h1, h2⟩ := hr
    obtain ⟨A, e, B, rfl, g1, g2, g3⟩ := flat_split hR h2 i x (by simpa using h)
    exact ⟨c ++ A, e, B, by simp, by simp [g1, hR _ _ h1, Nat.add_mul, Nat.add_comm], g2, fun y f hf => ⟨c, A ++ f ++ B, by simp, h1, g3 y f hf⟩⟩

theorem setP_rel {TR : TokRel} : ∀ {p : List Stp} {v u v' : AV} {cs ds : List Value}, Rel TR C W v cs → setP v p u = some v' → okP p → Rel TR C W u ds →
    ∃ A c B, cs = A ++ c ++ B ∧ A.length = offP p ∧ c.length = u.size ∧ Rel TR C W v' (A ++ ds ++ B) ∧ v'.size = v.size
  | [], v, u, v', cs, ds, h, hg, _, hu => by
    simp only [setP] at hg
    split at hg
    · rename_i hs
      have e := Option.some.inj hg
      subst e
      exact ⟨[], cs, [], by simp, rfl, by rw [h.len, hs], by simpa using hu, hs⟩
    · cases hg
  | x :: p, v, u, v', cs, ds, h, hg, hp, hu => by
    have hp' : okP p := fun y hy => hp y (by simp [hy])
    cases v with
    | agg l =>
      cases x with
      | fld i off =>
        simp only [setP] at hg
        split at hg
        · rename_i w hw
          split at hg
          · rename_i ho
            split at hg
            · rename_i y hy
              have e := Option.some.inj hg
              subst e
              simp only [Rel] at h
              obtain ⟨A, c, B, rfl, g1, g2, g3⟩ := relL_split h i w hw
              obtain ⟨A', c', B', rfl, g4, g5, g6, g7⟩ := setP_rel g2 hy hp' hu
              obtain ⟨g8, g9⟩ := g3 y _ g7 g6
              refine ⟨A ++ A', c', B' ++ B, by simp, by simp [offP, Stp.off, g1, g4, ho], g5, ?_, ?_⟩
              · simp only [Rel]
                simpa using g8
              · simp only [AV.size]
                exact g9
            · cases hg
          · cases hg
        · cases hg
      | idx i sz n => simp [setP] at hg
    | arr t n xs =>
      cases x with
      | fld i off => simp [setP] at hg
      | idx i sz m =>
        simp only [setP] at hg
        split at hg
        · rename_i hc
          obtain ⟨rfl, rfl⟩ := hc
          split at hg
          · rename_i y hy
            split at hg
            · rename_i d hd
              have e := Option.some.inj hg
              subst e
              simp only [Rel] at h
              obtain ⟨h1, h2⟩ := h
              have hx := hp (.idx i t.size m) (by simp)
              simp only [Stp.ok] at hx
              have hi : i.toNat < xs.length := by omega
              have he : xs.getD i.toNat t.dflt = xs[i.toNat] := by simp [List.getD, List.getElem?_eq_getElem hi]
              rw [he] at hy
              obtain ⟨A, c, B, rfl, g1, g2, g3⟩ := flat_split (fun x c h => CRel.length h) h2 i.toNat _ (List.getElem?_eq_getElem hi)
              obtain ⟨k1, k2⟩ := enc_rel (io := C.io) (TR := TR) g2 C rfl
              obtain ⟨A', c', B', rfl, g4, g5, g6, g7⟩ := setP_rel k1 hy hp' hu
              have g8 := g3 d _ (dec_rel hd g6)
              refine ⟨A ++ A', c', B' ++ B, by simp, by simp [offP, Stp.off, g1, g4], g5, ?_, rfl⟩
              simp only [Rel]
              exact ⟨by simpa using h1, by simpa using g8⟩
            · cases hg
          · cases hg
        · cases hg
    | _ => simp [setP] at hg

mutual
theorem crel_one {V W} : ∀ {t : Ty} {x : t.den} {cs : List Value}, CRel V W t x cs → ∀ u ∈ cs, u.oneCell' = true
  | .int, n, cs, h => by
    have h' : cs = [.int .i64 n] := h
    subst h'
    simp [Value.oneCell']
  | .bool, n, cs, h => by
    have h' : cs = [.bool n] := h
    subst h'
    simp [Value.oneCell']
  | .last a, x, cs, h => crel_one (t := a) h
  | .cons a b, x, cs, h => by
    obtain ⟨c, d, rfl, h1, h2⟩ := h
    intro u hu
    rcases List.mem_append.1 hu with hu | hu
    · exact crel_one h1 u hu
    · exact crel_one h2 u hu
  | .slice t, l, cs, h => by
    obtain ⟨A, c, rfl, _⟩ := h
    simp [Value.oneCell']
  | .arr n t, xs, cs, h => flat_one (t := t) h.2
theorem flat_one {V W} {t : Ty} : ∀ {xs : List t.den} {cs : List Value}, Flat (fun x c => CRel V W t x c) xs cs → ∀ u ∈ cs, u.oneCell' = true
  | [], cs, h => by
    have h' : cs = [] := h
    subst h'
    simp
  | x :: xs, cs, h => by
    obtain ⟨c, d, rfl, h1, h2⟩ := h
    intro u hu
    rcases List.mem_append.1 hu with hu | hu
    · exact crel_one h1 u hu
    · exact flat_one (xs := xs) h2 u hu
end

mutual
theorem clean_one {TR : TokRel} (hT : TokOK TR) : ∀ {v : AV} {cs : List Value}, clean v = true → Rel TR C W v cs → ∀ u ∈ cs, u.oneCell' = true
  | .poison, cs, h, hr => by simp [clean] at h
  | .undef, cs, h, hr => by simp [clean] at h
  | .tup _, cs, h, hr => by simp [clean] at h
  | .map _, cs, h, hr => by simp [clean] at h
  | .int n, cs, h, hr => by simp only [Rel] at hr; subst hr; simp [Value.oneCell']
  | .bool n, cs, h, hr => by simp only [Rel] at hr; subst hr; simp [Value.oneCell']
  | .agg l, cs, h, hr => by
    simp only [Rel] at hr
    simp only [clean] at h
    exact cleanL_one hT h hr
  | .arr t n xs, cs, h, hr => by
    simp only [Rel] at hr
    exact flat_one hr.2
  | .sl t f l, cs, h, hr => by simp only [Rel] at hr; obtain ⟨A, c, rfl, _⟩ := hr; simp [Value.oneCell']
  | .ref k p, cs, h, hr => by simp only [Rel] at hr; obtain ⟨b, _, _, rfl⟩ := hr; simp [Value.oneCell']
  | .cref v p, cs, h, hr => by simp only [Rel] at hr; obtain ⟨b, _, _, _, _, rfl⟩ := hr; simp [Value.oneCell']
  | .fn f x y, cs, h, hr => by simp only [Rel] at hr; obtain ⟨b, _, rfl, _⟩ := hr; simp [Value.oneCell']
  | .tok i t d, cs, h, hr => by simp only [Rel] at hr; obtain ⟨b, rfl, h⟩ := hr; simp [(hT.one _ _ _ _ _ _ _ h).1]
theorem cleanL_one {TR : TokRel} (hT : TokOK TR) : ∀ {l : List AV} {cs : List Value}, cleanL l = true → RelL TR C W l cs → ∀ u ∈ cs, u.oneCell' = true
  | [], cs, h, hr => by simp only [RelL] at hr; subst hr; simp
  | v :: l, cs, h, hr => by
    simp only [RelL] at hr
    obtain ⟨c, d, rfl, hl, h1, h2⟩ := hr
    simp only [cleanL, Bool.and_eq_true] at h
    intro u hu
    rcases List.mem_append.1 hu with hu | hu
    · exact clean_one hT h.1 h1 u hu
    · exact cleanL_one hT h.2 h2 u hu
end

/-- What a value's cells are. -/
theorem mkV_cells {TR : TokRel} (hT : TokOK TR) {v : AV} {cs : List Value} (hc : clean v = true) (h : Rel TR C W v cs) : (mkV v cs).cells = cs.toArray := by
  unfold mkV
  cases ha : isAg v with
  | true => simp [Value.cells]
  | false =>
    have hl := h.len
    rw [size_one ha] at hl
    match cs, hl with
    | [u], _ =>
      have := clean_one hT hc h u (by simp)
      cases u <;> simp_all [Value.cells, Value.oneCell']

theorem St.objs_lt {s : St} {k : Nat} {o : Ob} (h : s.objs.getD k .none = o) (ho : o ≠ .none) : s.objs[k]? = some o := by
  unfold List.getD at h
  cases hk : s.objs[k]? with
  | none => rw [hk] at h; exact absurd h.symm ho
  | some x => rw [hk] at h; simpa using h

/-- A box is written. -/
theorem Sim.write (S : Sim E V0 io0 W0 C s a W) {k b : Nat} {v v' : AV} {cs : Array Value} {ds : List Value} {ty : TypeId} (hb : C.box k = some b) (hcs : W.heap[b]? = some (.cells cs ty (0, 0)))
    (hk : s.objs[k]? = some (.box v)) (hr : Rel E.TR C W v' ds) (hsz : v'.size = v.size) :
    (CxLe C C W (W.setRow b ds.toArray) ∧ Kx E.M C C W (W.setRow b ds.toArray)) ∧ Sim E V0 io0 W0 C ⟨s.tmps, s.objs.set k (.box v')⟩ a (W.setRow b ds.toArray) := by
  have hbb := S.bx k v hk
  obtain ⟨b', cs', ty', h1, h2, h3, h4, h5⟩ := hbb
  obtain rfl : b = b' := by rw [hb] at h1; exact Option.some.inj h1
  have hnew : (W.setRow b ds.toArray).heap[b]? = some (.cells ds.toArray ty (0, 0)) := setRow_heap W b cs _ ty _ hcs
  have hoth : ∀ j, j ≠ b → (W.setRow b ds.toArray).heap[j]? = W.heap[j]? := fun j hj => setRow_other W b j _ hj
  have hsize : (W.setRow b ds.toArray).heap.size = W.heap.size := by simp [World.setRow]
  have hst : Stab C.V C.V W (W.setRow b ds.toArray) := ⟨fun x u hx hv => by
    have : x.block ≠ b := fun e => hv (by rw [e]; exact S.bxV k b _ hb)
    exact (cell_of_block (hoth _ this)).trans hx, fun _ _ _ h => h⟩
  have hle : CxLe C C W (W.setRow b ds.toArray) := ⟨hst, fun _ _ h => h, fun k cu al h => ⟨cu, al, h, Nat.le_refl _, fun h _ => ⟨h, rfl⟩⟩, fun _ _ => rfl, by rw [hsize]; exact Nat.le_refl _⟩
  have hset : ∀ (j : Nat) (o : Ob), (s.objs.set k (.box v'))[j]? = some o → (j = k ∧ o = .box v') ∨ (j ≠ k ∧ s.objs[j]? = some o) := fun j o hj => by
    rw [List.getElem?_set] at hj
    by_cases e : k = j
    · subst e
      simp only [if_true] at hj
      split at hj
      · exact .inl ⟨rfl, by simpa using hj.symm⟩
      · cases hj
    · rw [if_neg e] at hj
      exact .inr ⟨fun h => e h.symm, hj⟩
  have hws : Wst W0.heap.size W (W.setRow b ds.toArray) := Wst.of_block h5 (fun x e => by rw [hcs] at e; cases e) rfl rfl rfl hsize hoth
  have hio' : IoOK E.MI C.io (W.setRow b ds.toArray) := fun b1 t d h => by
    obtain ⟨es, ck, g1, g2⟩ := S.iok b1 t d h
    have : b1 ≠ b := fun e => by subst e; rw [hcs] at g1; cases g1
    exact ⟨es, ck, (hoth _ this).trans g1, g2⟩
  have hkx : Kx E.M C C W (W.setRow b ds.toArray) := ⟨⟨rfl, rfl, rfl, by rw [hsize]; exact Nat.le_refl _, fun j _ _ hm => hoth j fun e => hm (.inr (.inl ⟨k, by rw [e]; exact hb⟩)), fun _ _ => rfl⟩, fun _ _ h => .inl h, fun k v b lo hi h1 h2 h3 => .inl ⟨k, v, lo, hi, h1, h2, h3⟩, fun _ _ _ h => .inl h⟩
  refine ⟨⟨hle, hkx⟩, ?_⟩
  refine { S with tm := ?_, df := S.dfs hws, bx := ?_, bxn := ?_, ln := ?_, tl := ?_, Vn := ?_, iok := hio', gl := ?_, kp := S.kp.step hws, gh := fun j x y tr hjl hj => S.ghs hws hst (fun b o h => (S.Vn b o h).imp id fun h => ⟨h.1, Nat.lt_of_lt_of_le h.2 hws.size⟩) S.V0V hio' (S.gh j x y tr (by simpa using hjl) ?_) }
  · intro t x hx
    obtain ⟨u, g1, g2⟩ := S.tm t x hx
    exact ⟨u, g1, g2.mono E.hT hle⟩
  · intro j u hj
    rcases hset j _ hj with ⟨rfl, e⟩ | ⟨hne, hj⟩
    · cases e
      exact ⟨b, ds.toArray, ty, hb, hnew, by simpa using hr.len, by simpa using Rel.mono E.hT hle hr, h5⟩
    · obtain ⟨b1, c1, t1, g1, g2, g3, g4, g5⟩ := S.bx j u hj
      have : b1 ≠ b := fun e => hne (S.inj j k b (by rw [g1, e]) hb)
      exact ⟨b1, c1, t1, g1, (hoth _ this).trans g2, g3, Rel.mono E.hT hle g4, g5⟩
  · intro j b1 hj
    obtain ⟨u, hu⟩ := S.bxn j b1 hj
    by_cases e : k = j
    · subst e
      refine ⟨v', ?_⟩
      rw [List.getElem?_set, if_pos rfl, if_pos (List.getElem?_eq_some_iff.1 hk).1]
    · exact ⟨u, by rw [List.getElem?_set, if_neg e]; exact hu⟩
  · intro j v1 al
    rw [S.ln j v1 al]
    constructor
    · intro h
      have e : k ≠ j := fun e => by subst e; rw [hk] at h; cases h
      rw [List.getElem?_set, if_neg e]
      exact h
    · intro h
      rcases hset j _ h with ⟨_, e⟩ | ⟨_, h⟩
      · cases e
      · exact h
  · intro j v1 b1 lo hi o g1 g2 g3 g4
    obtain ⟨k1, k2, k3, c1, t1, k4, k5⟩ := S.tl j v1 b1 lo hi o g1 g2 g3 g4
    have : b1 ≠ b := fun e => k3 k (by rw [hb, e])
    exact ⟨k1, k2, k3, c1, t1, (hoth _ this).trans k4, k5⟩
  · intro b1 o h
    rw [hsize]
    exact S.Vn b1 o h
  · intro g u h
    exact Rel.mono E.hT (C := baseCx C.V C.io) (C' := baseCx C.V C.io) ⟨hst, (fun _ _ h => by cases h), (fun _ _ _ h => by cases h), fun _ _ => rfl, by rw [hsize]; exact Nat.le_refl _⟩ (S.gl g u h)
  · rcases hset j _ hj with ⟨_, e⟩ | ⟨_, h⟩
    · cases e
    · exact h

/-- A new box. -/
theorem Sim.newBox (S : Sim E V0 io0 W0 C s a W) {d : Nat} {v : AV} {cs : Array Value} {ty : TypeId} (hd : s.objs[d]? = some .none) (hr : Rel E.TR C W v cs.toList) :
    ∃ C', (CxLe C C' W (W.alloc (.cells cs ty)) ∧ Kx E.M C C' W (W.alloc (.cells cs ty))) ∧ C'.box d = some W.heap.size ∧ Sim E V0 io0 W0 C' ⟨s.tmps, s.objs.set d (.box v)⟩ a (W.alloc (.cells cs ty)) := by
  let C' : Cx := { C with box := fun k => if k = d then some W.heap.size else C.box k, V := fun b o => C.V b o ∨ b = W.heap.size }
  have hbd : C.box d = none := by
    cases h : C.box d with
    | none => rfl
    | some b =>
      obtain ⟨u, hu⟩ := S.bxn d b h
      rw [hd] at hu
      cases hu
  have hst : Stab C.V C'.V W (W.alloc (.cells cs ty)) := ⟨fun x u hx hv => by
    obtain ⟨c1, t1, f1, g1, _⟩ := cells_of_cell hx
    exact (cell_of_block ((heap_alloc_old' W _ g1).trans g1.symm)).trans hx, fun b o hb h => by
      rcases h with h | h
      · exact h
      · omega⟩
  have hle : CxLe C C' W (W.alloc (.cells cs ty)) := ⟨hst, fun k b h => by
      have : k ≠ d := fun e => by subst e; rw [hbd] at h; cases h
      simp only [C', if_neg this]; exact h, fun k cu al h => ⟨cu, al, h, Nat.le_refl _, fun h _ => ⟨h, rfl⟩⟩, fun _ _ => rfl, by simp⟩
  have hlt : ∀ {k b : Nat}, C.box k = some b → b < W.heap.size := fun {k b} h => by
    obtain ⟨u, hu⟩ := S.bxn k b h
    obtain ⟨b1, c1, t1, g1, g2, _⟩ := S.bx k u hu
    rw [h] at g1
    cases g1
    exact (Array.getElem?_eq_some_iff.1 g2).1
  have hsz := S.kp.size
  have hset : ∀ (j : Nat) (o : Ob), (s.objs.set d (.box v))[j]? = some o → (j = d ∧ o = .box v) ∨ (j ≠ d ∧ s.objs[j]? = some o) := fun j o hj => by
    rw [List.getElem?_set] at hj
    by_cases e : d = j
    · subst e
      simp only [if_true] at hj
      split at hj
      · exact .inl ⟨rfl, by simpa using hj.symm⟩
      · cases hj
    · rw [if_neg e] at hj
      exact .inr ⟨fun h => e h.symm, hj⟩
  have hvn : ∀ b o, C'.V b o → V0 b o ∨ (W0.heap.size ≤ b ∧ b < (W.alloc (.cells cs ty)).heap.size) := fun b o h => by
    rcases h with h | h
    · exact (S.Vn b o h).imp id fun h => ⟨h.1, Nat.lt_trans h.2 (by simp)⟩
    · subst h
      exact .inr ⟨S.kp.size, by simp⟩
  have hkx : Kx E.M C C' W (W.alloc (.cells cs ty)) := ⟨(Keep.alloc C.io W _).of_noM, fun k b h => by
    simp only [C'] at h
    split at h
    · cases h; exact .inr (Nat.le_refl _)
    · exact .inl h, fun k v b lo hi h1 h2 h3 => .inl ⟨k, v, lo, hi, h1, h2, h3⟩, fun _ _ _ h => .inl (.inl h)⟩
  refine ⟨C', ⟨hle, hkx⟩, by simp [C'], { S with tm := ?_, bx := ?_, bxn := ?_, inj := ?_, bxV := ?_, ln := ?_, tl := ?_, Vn := ?_, V0V := ?_, df := S.dfs (Wst.alloc 0 W _), iok := S.iok.alloc _, gl := ?_, kp := S.kp.step (Wst.alloc _ _ _), gh := fun j x y tr hjl hj => S.ghs (Wst.alloc _ _ _) hst hvn (fun b o h => .inl (S.V0V b o h)) (S.iok.alloc _) (S.gh j x y tr (by simpa using hjl) (by
    rcases hset j _ hj with ⟨_, e⟩ | ⟨_, h⟩
    · cases e
    · exact h)) }⟩
  · intro t x hx
    obtain ⟨u, g1, g2⟩ := S.tm t x hx
    exact ⟨u, g1, g2.mono E.hT hle⟩
  · intro j u hj
    rcases hset j _ hj with ⟨rfl, e⟩ | ⟨hne, hj⟩
    · cases e
      exact ⟨W.heap.size, cs, ty, by simp [C'], heap_alloc_new' W _, hr.len, Rel.mono E.hT hle hr, hsz⟩
    · obtain ⟨b1, c1, t1, g1, g2, g3, g4, g5⟩ := S.bx j u hj
      exact ⟨b1, c1, t1, hle.box _ _ g1, heap_alloc_old' W _ g2, g3, Rel.mono E.hT hle g4, g5⟩
  · intro j b1 hj
    by_cases e : j = d
    · subst e
      exact ⟨v, by rw [List.getElem?_set, if_pos rfl, if_pos (List.getElem?_eq_some_iff.1 hd).1]⟩
    · simp only [C', if_neg e] at hj
      obtain ⟨u, hu⟩ := S.bxn j b1 hj
      exact ⟨u, by rw [List.getElem?_set, if_neg (fun h => e h.symm)]; exact hu⟩
  · intro j j' b1 h1 h2
    by_cases e : j = d <;> by_cases e' : j' = d
    · rw [e, e']
    · simp only [C', if_pos e, if_neg e'] at h1 h2
      have := hlt h2
      cases h1
      omega
    · simp only [C', if_neg e, if_pos e'] at h1 h2
      have := hlt h1
      cases h2
      omega
    · simp only [C', if_neg e, if_neg e'] at h1 h2
      exact S.inj _ _ _ h1 h2
  · intro j b1 o h
    by_cases e : j = d
    · simp only [C', if_pos e] at h
      cases h
      exact .inr rfl
    · simp only [C', if_neg e] at h
      exact .inl (S.bxV j b1 o h)
  · intro j v1 al
    show C.lv j = _ ↔ _
    rw [S.ln j v1 al]
    constructor
    · intro h
      have e : d ≠ j := fun e => by subst e; rw [hd] at h; cases h
      rw [List.getElem?_set, if_neg e]
      exact h
    · intro h
      rcases hset j _ h with ⟨_, e⟩ | ⟨_, h⟩
      · cases e
      · exact h
  · intro j v1 b1 lo hi o g1 g2 g3 g4
    obtain ⟨k1, k2, k3, c1, t1, k4, k5⟩ := S.tl j v1 b1 lo hi o g1 g2 g3 g4
    refine ⟨.inl k1, k2, fun k' h => ?_, c1, t1, heap_alloc_old' W _ k4, k5⟩
    by_cases e : k' = d
    · simp only [C', if_pos e] at h
      cases h
      have := (Array.getElem?_eq_some_iff.1 k4).1
      omega
    · simp only [C', if_neg e] at h
      exact k3 k' h
  · intro b1 o h
    rcases h with h | h
    · exact (S.Vn b1 o h).imp id fun h => ⟨h.1, by simp; omega⟩
    · exact .inr ⟨by omega, by simp; omega⟩
  · exact fun b o h => .inl (S.V0V b o h)
  · intro g u h
    exact Rel.mono E.hT (C := baseCx C.V C.io) (C' := baseCx C'.V C'.io) ⟨hst, (fun _ _ h => by cases h), (fun _ _ _ h => by cases h), fun _ _ => rfl, by simp⟩ (S.gl g u h)

end Ev
end Go.Proofs.YtidnikjkpbmhhaaDoor
/- The bond behind an append: lineages. -/
set_option linter.unusedVariables false
namespace Go.Proofs.YtidnikjkpbmhhaaDoor
namespace Ev

variable {E : Env} {V0 : Nat → Nat → Prop} {io0 : Io} {W0 : World} {C : Cx} {s : St} {a : Act} {W : World} {X : Ctx}

/-- Objects behind an append at d: lineage k (if any) is dead, d is alive at a new version. -/
structure Relin (objs objs' : List Ob) (d ver : Nat) (k : Option Nat) : Prop where
  len : objs'.length = objs.length
  at_d : objs'[d]? = some (.lin ver true)
  was_d : ∀ o, objs[d]? = some o → o = .none ∨ ∃ v al, o = .lin v al ∧ v < ver
  other : ∀ j, j ≠ d → k ≠ some j → objs'[j]? = objs[j]?
  at_k : ∀ j, k = some j → j ≠ d → ∃ cu, objs[j]? = some (.lin cu true) ∧ objs'[j]? = some (.lin cu false)

theorem relin_mk {objs : List Ob} {d : Nat} {ob : Ob} (hd : d < objs.length) (ho : objs.getD d .none = ob) (h1 : ∀ v, ob ≠ .box v) (h2 : ∀ a b m, ob ≠ .map a b m) :
    Relin objs (objs.set d (.lin (linOf ob) true)) d (linOf ob) none := by
  have hod : objs[d]? = some ob := by rw [List.getElem?_eq_getElem hd]; rw [← ho]; simp [List.getD, List.getElem?_eq_getElem hd]
  refine ⟨by simp, by simp [hd], fun o h => ?_, fun j hj _ => by rw [List.getElem?_set, if_neg (fun e => hj e.symm)], fun j h => by cases h⟩
  rw [hod] at h
  cases h
  cases ob with
  | none => exact .inl rfl
  | box v => exact absurd rfl (h1 v)
  | lin v al => exact .inr ⟨v, al, rfl, by simp [linOf]⟩
  | map a b m => exact absurd rfl (h2 a b m)

theorem relin_mk2 {objs : List Ob} {d k cu : Nat} {ob : Ob} (hd : d < objs.length) (ho : objs.getD d .none = ob) (h1 : ∀ v, ob ≠ .box v) (h2 : ∀ a b m, ob ≠ .map a b m) (hk : objs[k]? = some (.lin cu true)) :
    Relin objs ((objs.set k (.lin cu false)).set d (.lin (linOf ob) true)) d (linOf ob) (some k) := by
  have hod : objs[d]? = some ob := by rw [List.getElem?_eq_getElem hd]; rw [← ho]; simp [List.getD, List.getElem?_eq_getElem hd]
  refine ⟨by simp, by simp [hd], fun o h => ?_, fun j hj hk' => ?_, fun j h hj => ?_⟩
  · rw [hod] at h
    cases h
    cases ob with
    | none => exact .inl rfl
    | box v => exact absurd rfl (h1 v)
    | lin v al => exact .inr ⟨v, al, rfl, by simp [linOf]⟩
    | map a b m => exact absurd rfl (h2 a b m)
  · rw [List.getElem?_set, if_neg (fun e => hj e.symm), List.getElem?_set, if_neg (fun e => hk' (by rw [e]))]
  · cases h
    refine ⟨cu, hk, ?_⟩
    rw [List.getElem?_set, if_neg (fun e => hj e.symm), List.getElem?_set, if_pos rfl, if_pos (List.getElem?_eq_some_iff.1 hk).1]

/-- The bond behind an append (or a make): W' the world, V' what may turn now, (b, lo, hi) the room of the new slice. -/
theorem Sim.relin (S : Sim E V0 io0 W0 C s a W) {objs' : List Ob} {d ver : Nat} {k : Option Nat} (hR : Relin s.objs objs' d ver k) {W' : World} {V' : Nat → Nat → Prop} {b lo hi : Nat}
    (hst : Stab C.V V' W W') (hws : Wst W0.heap.size W W') (hsz : W.heap.size ≤ W'.heap.size) (hio : IoOK E.MI C.io W')
    (hbox : ∀ k b, C.box k = some b → W'.heap[b]? = W.heap[b]?) (hbV : ∀ k b o, C.box k = some b → V' b o)
    (htl : ∀ j v b1 lo1 hi1 o, C.lv j = some (v, true) → j ≠ d → k ≠ some j → C.tl j = (b1, lo1, hi1) → lo1 ≤ o → o < hi1 → V' b1 o ∧ (∃ cs ty, W'.heap[b1]? = some (.cells cs ty (0, 0)) ∧ hi1 ≤ cs.size) ∧ ¬ (b1 = b ∧ lo ≤ o ∧ o < hi))
    (hnew : ∀ o, lo ≤ o → o < hi → V' b o ∧ W0.heap.size ≤ b ∧ (∀ k', C.box k' ≠ some b) ∧ ∃ cs ty, W'.heap[b]? = some (.cells cs ty (0, 0)) ∧ hi ≤ cs.size)
    (hVn : ∀ b o, V' b o → V0 b o ∨ (W0.heap.size ≤ b ∧ b < W'.heap.size)) (hV0 : ∀ b o, V0 b o → V' b o) :
    ∃ C', (CxLe C C' W W' ∧ C'.box = C.box ∧ ∀ j v, C'.lv j = some (v, true) → j ≠ d → C.lv j = some (v, true) ∧ C'.tl j = C.tl j) ∧ C'.V = V' ∧ C'.io = C.io ∧ C'.lv d = some (ver, true) ∧ C'.tl d = (b, lo, hi) ∧ Sim E V0 io0 W0 C' ⟨s.tmps, objs'⟩ a W' := by
  let lv' : Nat → Option (Nat × Bool) := fun j => match objs'[j]? with | some (.lin v al) => some (v, al) | _ => none
  let C' : Cx := { C with V := V', lv := lv', tl := fun j => if j = d then (b, lo, hi) else C.tl j }
  have hlvd : lv' d = some (ver, true) := by simp [lv', hR.at_d]
  have hln : ∀ (j v : Nat) (al : Bool), lv' j = some (v, al) ↔ objs'[j]? = some (.lin v al) := fun j v al => by
    simp only [lv']
    split
    · rename_i v1 al1 h
      rw [h]
      constructor
      · intro h
        cases h
        rfl
      · intro h
        cases h
        rfl
    · rename_i h
      constructor
      · intro h'
        cases h'
      · intro h'
        exact absurd h' (h v al)
  have hle : CxLe C C' W W' := by
    refine ⟨hst, fun _ _ h => h, fun j cu al h => ?_, fun _ _ => rfl, hsz⟩
    rw [S.ln] at h
    by_cases e : j = d
    · subst e
      rcases hR.was_d _ h with h' | ⟨v, al', h', hv⟩
      · cases h'
      · cases h'
        exact ⟨ver, true, hlvd, by omega, fun _ he => by omega⟩
    · by_cases ek : k = some j
      · obtain ⟨cu', h1, h2⟩ := hR.at_k j ek e
        rw [h] at h1
        cases h1
        exact ⟨cu, false, (hln j cu false).2 h2, Nat.le_refl _, fun h => by cases h⟩
      · have h2 := (hR.other j e ek).trans h
        exact ⟨cu, al, (hln j cu al).2 h2, Nat.le_refl _, fun h _ => ⟨h, by simp [C', e]⟩⟩
  have alive : ∀ j v, lv' j = some (v, true) → j = d ∨ (j ≠ d ∧ k ≠ some j ∧ C.lv j = some (v, true)) := fun j v h => by
    by_cases e : j = d
    · exact .inl e
    · refine .inr ⟨e, fun ek => ?_, ?_⟩
      · obtain ⟨cu, h1, h2⟩ := hR.at_k j ek e
        rw [hln, h2] at h
        cases h
      · rw [hln] at h
        have ek : k ≠ some j := fun ek => by
          obtain ⟨cu, h1, h2⟩ := hR.at_k j ek e
          rw [h2] at h
          cases h
        rw [S.ln, ← hR.other j e ek]
        exact h
  have boxes : ∀ (j : Nat) (v : AV), objs'[j]? = some (.box v) ↔ s.objs[j]? = some (.box v) := fun j v => by
    by_cases e : j = d
    · subst e
      rw [hR.at_d]
      constructor
      · intro h
        cases h
      · intro h
        rcases hR.was_d _ h with h' | ⟨_, _, h', _⟩ <;> cases h'
    · by_cases ek : k = some j
      · obtain ⟨cu, h1, h2⟩ := hR.at_k j ek e
        rw [h1, h2]
        constructor <;> (intro h; cases h)
      · rw [hR.other j e ek]
  have others : ∀ (j x y : Nat) (tr : List AV), objs'[j]? = some (.map x y tr) ↔ s.objs[j]? = some (.map x y tr) := fun j x y tr => by
    by_cases e : j = d
    · subst e
      rw [hR.at_d]
      constructor
      · intro h
        cases h
      · intro h
        rcases hR.was_d _ h with h' | ⟨_, _, h', _⟩ <;> cases h'
    · by_cases ek : k = some j
      · obtain ⟨cu, h1, h2⟩ := hR.at_k j ek e
        rw [h1, h2]
        constructor <;> (intro h; cases h)
      · rw [hR.other j e ek]
  refine ⟨C', ⟨hle, rfl, fun j v hj hd => by
    rcases alive j v hj with e | ⟨e, ek, g⟩
    · exact absurd e hd
    · exact ⟨g, by simp only [C', if_neg e]⟩⟩, rfl, rfl, hlvd, by simp [C'], { S with tm := ?_, bx := ?_, bxn := ?_, bxV := hbV, ln := hln, tl := ?_, tld := ?_, Vn := hVn, V0V := hV0, df := S.dfs hws, iok := hio, gl := ?_, kp := S.kp.step hws, gh := fun j x y tr hjl hj => S.ghs hws hst hVn hV0 hio (S.gh j x y tr (by rw [← hR.len]; exact hjl) ((others j x y tr).1 hj)) }⟩
  · intro t x hx
    obtain ⟨u, g1, g2⟩ := S.tm t x hx
    exact ⟨u, g1, g2.mono E.hT hle⟩
  · intro j u hj
    obtain ⟨b1, c1, t1, g1, g2, g3, g4, g5⟩ := S.bx j u ((boxes j u).1 hj)
    exact ⟨b1, c1, t1, g1, (hbox j b1 g1).trans g2, g3, Rel.mono E.hT hle g4, g5⟩
  · intro j b1 hj
    obtain ⟨u, hu⟩ := S.bxn j b1 hj
    exact ⟨u, (boxes j u).2 hu⟩
  · intro j v1 b1 lo1 hi1 o g1 g2 g3 g4
    rcases alive j v1 g1 with rfl | ⟨e, ek, g1⟩
    · simp only [C', if_true] at g2
      cases g2
      exact hnew o g3 g4
    · simp only [C', if_neg e] at g2
      obtain ⟨k1, k2, k3, _⟩ := S.tl j v1 b1 lo1 hi1 o g1 g2 g3 g4
      obtain ⟨k4, k5, _⟩ := htl j v1 b1 lo1 hi1 o g1 e ek g2 g3 g4
      exact ⟨k4, k2, k3, k5⟩
  · intro j j' v v' b1 lo1 hi1 lo2 hi2 o g1 g2 hne g3 g4 h1 h2 h3 h4
    rcases alive j v g1 with ej | ⟨e, ek, q1⟩
    · rcases alive j' v' g2 with ej' | ⟨e', ek', q2⟩
      · exact hne (ej.trans ej'.symm)
      · simp only [C', if_pos ej] at g3
        simp only [C', if_neg e'] at g4
        cases g3
        exact (htl j' v' b lo2 hi2 o q2 e' ek' g4 h3 h4).2.2 ⟨rfl, h1, h2⟩
    · simp only [C', if_neg e] at g3
      rcases alive j' v' g2 with ej' | ⟨e', ek', q2⟩
      · simp only [C', if_pos ej'] at g4
        cases g4
        exact (htl j v b lo1 hi1 o q1 e ek g3 h1 h2).2.2 ⟨rfl, h3, h4⟩
      · simp only [C', if_neg e'] at g4
        exact S.tld j j' v v' b1 lo1 hi1 lo2 hi2 o q1 q2 hne g3 g4 h1 h2 h3 h4
  · intro g u h
    exact Rel.mono E.hT (C := baseCx C.V C.io) (C' := baseCx V' C.io) ⟨hst, (fun _ _ h => by cases h), (fun _ _ _ h => by cases h), fun _ _ => rfl, hsz⟩ (S.gl g u h)

/-- A new block with room behind 'lo'. -/
theorem Sim.grow (S : Sim E V0 io0 W0 C s a W) {objs' : List Ob} {d ver : Nat} {k : Option Nat} (hR : Relin s.objs objs' d ver k) {W1 : World} (h1 : W1 = W ∨ W1 = W.drew) {cs : Array Value} {ty : TypeId} {lo hi : Nat} (hhi : hi ≤ cs.size) :
    ∃ C', (CxLe C C' W (W1.alloc (.cells cs ty)) ∧ Kx E.M C C' W (W1.alloc (.cells cs ty))) ∧ C'.io = C.io ∧ C'.lv d = some (ver, true) ∧ C'.tl d = (W.heap.size, lo, hi) ∧ (∀ o, C'.V W.heap.size o → lo ≤ o) ∧ Sim E V0 io0 W0 C' ⟨s.tmps, objs'⟩ a (W1.alloc (.cells cs ty)) := by
  have hh : W1.heap = W.heap := by rcases h1 with rfl | rfl <;> rfl
  have hs1 : W1.heap.size = W.heap.size := by rw [hh]
  have hold : ∀ {b : Nat} {x : Obj}, W.heap[b]? = some x → (W1.alloc (.cells cs ty)).heap[b]? = some x := fun {b x} h => heap_alloc_old' W1 _ (by rw [hh]; exact h)
  have hnw : (W1.alloc (.cells cs ty)).heap[W.heap.size]? = some (.cells cs ty (0, 0)) := by rw [← hs1]; exact heap_alloc_new' W1 _
  have hks : Wst W0.heap.size W (W1.alloc (.cells cs ty)) := by
    rcases h1 with rfl | rfl
    · exact Wst.alloc _ _ _
    · exact (Wst.drew _ _).trans (Wst.alloc _ _ _)
  have hlt : ∀ {k b : Nat}, C.box k = some b → b < W.heap.size := fun {k b} h => by
    obtain ⟨u, hu⟩ := S.bxn k b h
    obtain ⟨b1, c1, t1, g1, g2, _⟩ := S.bx k u hu
    rw [h] at g1
    cases g1
    exact (Array.getElem?_eq_some_iff.1 g2).1
  have hsz : (W1.alloc (.cells cs ty)).heap.size = W.heap.size + 1 := by simp [hs1]
  have hk := S.kp.size
  obtain ⟨C', ⟨g1, gb, ga⟩, g2, g3, g4, g5, g6⟩ := S.relin hR (W' := W1.alloc (.cells cs ty)) (V' := fun b o => C.V b o ∨ (b = W.heap.size ∧ lo ≤ o ∧ o < hi)) (b := W.heap.size) (lo := lo) (hi := hi)
    ⟨fun x u hx hv => by
      obtain ⟨c1, t1, f1, g1, _⟩ := cells_of_cell hx
      exact (cell_of_block ((hold g1).trans g1.symm)).trans hx, fun b o hb h => by
      rcases h with h | h
      · exact h
      · omega⟩ hks (by omega)
    (fun b t d hb => by
      obtain ⟨es, ck, h1, h2⟩ := S.iok b t d hb
      exact ⟨es, ck, hold h1, h2⟩)
    (fun k b h => by
      have := hlt h
      obtain ⟨u, hu⟩ := S.bxn k b h
      obtain ⟨b1, c1, t1, g1, g2, _⟩ := S.bx k u hu
      rw [h] at g1
      cases g1
      rw [hold g2, g2])
    (fun k b o h => .inl (S.bxV k b o h))
    (fun j v b1 lo1 hi1 o q1 _ _ q2 q3 q4 => by
      obtain ⟨k1, k2, k3, c1, t1, k4, k5⟩ := S.tl j v b1 lo1 hi1 o q1 q2 q3 q4
      refine ⟨.inl k1, ⟨c1, t1, hold k4, k5⟩, fun h => ?_⟩
      have := (Array.getElem?_eq_some_iff.1 k4).1
      omega)
    (fun o q1 q2 => ⟨.inr ⟨rfl, q1, q2⟩, hk, fun k' h => by have := hlt h; omega, cs, ty, hnw, hhi⟩)
    (fun b o h => by
      rcases h with h | h
      · exact (S.Vn b o h).imp id fun h => ⟨h.1, by omega⟩
      · exact .inr ⟨by omega, by omega⟩)
    (fun b o h => .inl (S.V0V b o h))
  have hkx : Kx E.M C C' W (W1.alloc (.cells cs ty)) := ⟨by
    rw [g3]
    have h0 : Keep noM C.io C.io W W1 := by
      rcases h1 with rfl | rfl
      · exact Keep.refl _ _ _
      · exact Keep.drew _ _
    exact (h0.trans (Keep.alloc C.io W1 _)).of_noM, fun k b h => .inl (by rw [← gb]; exact h), fun j v b lo' hi' h1 h2 h3 => by
    by_cases e : j = d
    · subst e
      rw [g5] at h2
      cases h2
      exact .inr (Nat.le_refl _)
    · obtain ⟨q1, q2⟩ := ga j v h1 e
      exact .inl ⟨j, v, lo', hi', q1, by rw [← q2]; exact h2, h3⟩, fun _ _ _ h => .inl (by rw [g2]; exact .inl h)⟩
  refine ⟨C', ⟨g1, hkx⟩, g3, g4, g5, fun o h => ?_, g6⟩
  rw [g2] at h
  rcases h with h | h
  · rcases S.Vn _ _ h with h | h
    · have := S.old0 _ _ h
      omega
    · omega
  · exact h.2.1

/-- A slice that grows where it stands. -/
theorem Sim.inPlace (S : Sim E V0 io0 W0 C s a W) {objs' : List Ob} {d ver k cu : Nat} (hR : Relin s.objs objs' d ver (some k)) (hk : C.lv k = some (cu, true)) {b lo hi mid : Nat} (ht : C.tl k = (b, lo, hi)) (hm : lo ≤ mid) (hmh : mid ≤ hi)
    {cs cs' : Array Value} {ty : TypeId} (hcs : W.heap[b]? = some (.cells cs ty (0, 0))) (hs : cs'.size = cs.size) (hb0 : W0.heap.size ≤ b) (hsame : ∀ o, ¬ (lo ≤ o ∧ o < mid) → cs'[o]? = cs[o]?) (hhi : hi ≤ cs.size) (hnb : lo < hi → ∀ k', C.box k' ≠ some b)
    (hbV : lo < mid → ∀ o, lo ≤ o → o < hi → C.V b o) :
    ∃ C', (CxLe C C' W (W.setRow b cs') ∧ Kx E.M C C' W (W.setRow b cs')) ∧ C'.io = C.io ∧ C'.lv d = some (ver, true) ∧ C'.tl d = (b, mid, hi) ∧ (∀ o, lo ≤ o → o < mid → ¬ C'.V b o) ∧ Sim E V0 io0 W0 C' ⟨s.tmps, objs'⟩ a (W.setRow b cs') := by
  have hnew : (W.setRow b cs').heap[b]? = some (.cells cs' ty (0, 0)) := setRow_heap W b cs _ ty _ hcs
  have hoth : ∀ j, j ≠ b → (W.setRow b cs').heap[j]? = W.heap[j]? := fun j hj => setRow_other W b j _ hj
  have hsize : (W.setRow b cs').heap.size = W.heap.size := by simp
  have htail : ∀ o, lo ≤ o → o < hi → C.V b o ∧ W0.heap.size ≤ b ∧ (∀ k', C.box k' ≠ some b) ∧ ∃ cs ty, W.heap[b]? = some (.cells cs ty (0, 0)) ∧ hi ≤ cs.size := fun o h1 h2 => S.tl k cu b lo hi o hk ht h1 h2
  obtain ⟨C', ⟨g1, gb, ga⟩, g2, g3, g4, g5, g6⟩ := S.relin hR (W' := W.setRow b cs') (V' := fun b1 o => C.V b1 o ∧ ¬ (b1 = b ∧ lo ≤ o ∧ o < mid)) (b := b) (lo := mid) (hi := hi)
    ⟨fun x u hx hv => by
      by_cases e : x.block = b
      · have hn : ¬ (lo ≤ x.off ∧ x.off < mid) := fun h => hv (by rw [e]; exact hbV (by omega) _ h.1 (by omega))
        obtain ⟨c1, t1, f1, q1, q2, q3⟩ := cells_of_cell hx
        rw [e, hcs] at q1
        cases q1
        have h1 : (W.setRow b cs').heap[x.block]? = some (.cells cs' ty (0, 0)) := by rw [e]; exact hnew
        unfold World.cell?
        rw [h1]
        simp only [q2]
        rw [hsame _ hn]
        exact q3
      · exact (cell_of_block (hoth _ e)).trans hx, fun _ _ _ h => h.1⟩
    (Wst.of_block hb0 (fun x e => by rw [hcs] at e; cases e) rfl rfl rfl hsize hoth) (by omega)
    (fun b1 t d hb => by
      obtain ⟨es, ck, h1, h2⟩ := S.iok b1 t d hb
      have : b1 ≠ b := fun e => by subst e; rw [hcs] at h1; cases h1
      exact ⟨es, ck, (hoth _ this).trans h1, h2⟩)
    (fun k1 b1 h => by
      by_cases e : b1 = b
      · subst e
        by_cases hlt : lo < hi
        · exact absurd h (hnb hlt k1)
        · have : cs' = cs := by
            apply Array.ext_getElem?
            intro o
            exact hsame o (by omega)
          rw [hnew, hcs, this]
      · exact hoth _ e)
    (fun k1 b1 o h => ⟨S.bxV k1 b1 o h, fun h' => hnb (by omega) k1 (by rw [h, h'.1])⟩)
    (fun j v b1 lo1 hi1 o q1 hjd hjk q2 q3 q4 => by
      obtain ⟨k1, k2, k3, c1, t1, k4, k5⟩ := S.tl j v b1 lo1 hi1 o q1 q2 q3 q4
      have hjk' : k ≠ j := fun e => hjk (by rw [e])
      have hdis : b1 = b → ¬ (lo ≤ o ∧ o < hi) := fun e h => by
        subst e
        exact S.tld k j cu v b1 lo hi lo1 hi1 o hk q1 hjk' ht q2 h.1 h.2 q3 q4
      refine ⟨⟨k1, fun h => hdis h.1 ⟨h.2.1, by omega⟩⟩, ?_, fun h => hdis h.1 ⟨by omega, h.2.2⟩⟩
      by_cases e : b1 = b
      · subst e
        rw [hcs] at k4
        cases k4
        exact ⟨cs', _, hnew, by omega⟩
      · exact ⟨c1, t1, (hoth _ e).trans k4, k5⟩)
    (fun o q1 q2 => by
      obtain ⟨k1, k2, k3, _⟩ := htail o (by omega) q2
      exact ⟨⟨k1, fun h => by omega⟩, k2, k3, cs', ty, hnew, by omega⟩)
    (fun b1 o h => by
      rw [hsize]
      exact S.Vn b1 o h.1)
    (fun b1 o h => ⟨S.V0V b1 o h, fun h' => by have := S.old0 b1 o h; omega⟩)
  have hkx : Kx E.M C C' W (W.setRow b cs') := ⟨by
    rw [g3]
    refine ⟨rfl, rfl, rfl, by rw [hsize]; exact Nat.le_refl _, fun j hj hi' hm => ?_, fun _ _ => rfl⟩
    by_cases e : j = b
    · subst e
      by_cases hlt : lo < hi
      · exact absurd (.inr (.inr ⟨k, cu, lo, hi, hk, ht, hlt⟩)) hm
      · have : cs' = cs := by
          apply Array.ext_getElem?
          intro o
          exact hsame o (by omega)
        rw [hnew, hcs, this]
    · exact hoth j e, fun k b h => .inl (by rw [← gb]; exact h), fun j v b' lo' hi' h1 h2 h3 => by
    by_cases e : j = d
    · subst e
      rw [g5] at h2
      cases h2
      exact .inl ⟨k, cu, lo, hi, hk, ht, by omega⟩
    · obtain ⟨q1, q2⟩ := ga j v h1 e
      exact .inl ⟨j, v, lo', hi', q1, by rw [← q2]; exact h2, h3⟩, fun b1 o _ h => by
    by_cases e : b1 = b ∧ lo ≤ o ∧ o < mid
    · obtain ⟨rfl, e1, e2⟩ := e
      exact .inr ⟨k, cu, lo, hi, hk, ht, by omega⟩
    · exact .inl (by rw [g2]; exact ⟨h, e⟩)⟩
  refine ⟨C', ⟨g1, hkx⟩, g3, g4, g5, fun o h1 h2 h => ?_, g6⟩
  rw [g2] at h
  exact h.2 ⟨rfl, h1, h2⟩

/-- Nothing turns but the lineages: the new slice is full. -/
theorem Sim.relinFull (S : Sim E V0 io0 W0 C s a W) {objs' : List Ob} {d ver : Nat} {k : Option Nat} (hR : Relin s.objs objs' d ver k) :
    ∃ C', (CxLe C C' W W ∧ Kx E.M C C' W W) ∧ C'.io = C.io ∧ C'.lv d = some (ver, true) ∧ C'.V = C.V ∧ Sim E V0 io0 W0 C' ⟨s.tmps, objs'⟩ a W := by
  obtain ⟨C', ⟨g1, gb, ga⟩, g2, g3, g4, g5, g6⟩ := S.relin hR (W' := W) (V' := C.V) (b := 0) (lo := 0) (hi := 0) ⟨fun _ _ h _ => h, fun _ _ _ h => h⟩ (Wst.refl _ _) (Nat.le_refl _) S.iok (fun _ _ _ => rfl) S.bxV
    (fun j v b1 lo1 hi1 o q1 _ _ q2 q3 q4 => by
      obtain ⟨k1, k2, k3, k4⟩ := S.tl j v b1 lo1 hi1 o q1 q2 q3 q4
      exact ⟨k1, k4, fun h => by omega⟩)
    (fun o h1 h2 => by omega) S.Vn S.V0V
  have hkx : Kx E.M C C' W W := ⟨by rw [g3]; exact Keep.refl _ _ _, fun k b h => .inl (by rw [← gb]; exact h), fun j v b' lo' hi' h1 h2 h3 => by
    by_cases e : j = d
    · subst e
      rw [g5] at h2
      cases h2
      omega
    · obtain ⟨q1, q2⟩ := ga j v h1 e
      exact .inl ⟨j, v, lo', hi', q1, by rw [← q2]; exact h2, h3⟩, fun _ _ _ h => .inl (by rw [g2]; exact h)⟩
  exact ⟨C', ⟨g1, hkx⟩, g3, g4, g2, g6⟩

end Ev
end Go.Proofs.YtidnikjkpbmhhaaDoor
/- Each operation that the evaluator lets by goes through in the machine, and leaves what it says. -/
set_option linter.unusedVariables false
namespace Go.Proofs.YtidnikjkpbmhhaaDoor
namespace Ev

variable {E : Env} {V0 : Nat → Nat → Prop} {io0 : Io} {W0 : World} {C : Cx} {s : St} {a : Act} {W : World} {X : Ctx} {o : Oper}

/-- The world stays. -/
theorem OpOK.pure {v : AV} {x : Value} (S : Sim E V0 io0 W0 C s a W) (hr : (execOp a.eval o).run E.P W = .ok (.value x) W) (hv : VR E.TR C W v x) : OpOK E V0 io0 W0 C o s a W v s.objs :=
  OpOK.value hr S (CxLe.refl C W) (Kx.refl _ C W) hv

theorem VR.agg_inv {l : List AV} {v : Value} (h : VR E.TR C W (.agg l) v) : ∃ cs, v = .agg cs.toArray ∧ RelL E.TR C W l cs := by
  rcases h with h | ⟨cs, _, h, rfl⟩
  · cases h
  · simp only [Rel] at h
    exact ⟨cs, rfl, h⟩
theorem VR.arr_inv {t : Ty} {n : Nat} {xs : List t.den} {v : Value} (h : VR E.TR C W (.arr t n xs) v) : ∃ cs, v = .agg cs.toArray ∧ xs.length = n ∧ Flat (CRel C.V W t) xs cs := by
  rcases h with h | ⟨cs, _, h, rfl⟩
  · cases h
  · simp only [Rel] at h
    exact ⟨cs, rfl, h⟩
theorem VR.tup_inv {l : List AV} {v : Value} (h : VR E.TR C W (.tup l) v) : ∃ vs, v = .tuple vs.toArray ∧ RelV E.TR C W l vs := by
  rcases h with h | ⟨cs, _, h, rfl⟩
  · cases h
  · simp only [Rel] at h
    obtain ⟨vs, rfl, h⟩ := h
    exact ⟨vs, rfl, h⟩
theorem VR.ref_inv {k : Nat} {p : List Stp} {v : Value} (h : VR E.TR C W (.ref k p) v) : ∃ b, C.box k = some b ∧ okP p ∧ v = .pointer (some ⟨b, offP p, none⟩) := by
  rcases h with h | ⟨cs, _, h, rfl⟩
  · cases h
  · simp only [Rel] at h
    obtain ⟨b, h1, h2, rfl⟩ := h
    exact ⟨b, h1, h2, rfl⟩
theorem VR.cref_inv {u : AV} {p : List Stp} {v : Value} (h : VR E.TR C W (.cref u p) v) : ∃ ad ds, Rel E.TR C W u ds ∧ Cells C.V W ad ds ∧ okP p ∧ v = .pointer (some (ad.add (offP p))) := by
  rcases h with h | ⟨cs, _, h, rfl⟩
  · cases h
  · simp only [Rel] at h
    obtain ⟨b, ds, h1, h2, h3, rfl⟩ := h
    exact ⟨b, ds, h1, h2, h3, rfl⟩
theorem VR.fn_inv {f : Nat} {x y : List AV} {v : Value} (h : VR E.TR C W (.fn f x y) v) : ∃ xs ys, v = .func (.func f) xs.toArray ys.toArray ∧ RelV E.TR C W x xs ∧ RelV E.TR C W y ys := by
  rcases h with h | ⟨cs, _, h, rfl⟩
  · cases h
  · simp only [Rel] at h
    obtain ⟨b, ds, rfl, h⟩ := h
    exact ⟨b, ds, rfl, h⟩

theorem relV_get {TR : TokRel} : ∀ {l : List AV} {vs : List Value}, RelV TR C W l vs → ∀ (i : Nat) (x : AV), l[i]? = some x → ∃ v, vs[i]? = some v ∧ VR TR C W x v
  | [], _, _, i, x, h => by simp at h
  | u :: l, vs, hr, 0, x, h => by
    simp only [RelV] at hr
    obtain ⟨v, r, rfl, h1, h2⟩ := hr
    simp at h
    subst h
    exact ⟨v, rfl, h1⟩
  | u :: l, vs, hr, i + 1, x, h => by
    simp only [RelV] at hr
    obtain ⟨v, r, rfl, h1, h2⟩ := hr
    exact relV_get h2 i x (by simpa using h)

/-! Loads. -/

theorem offP_append (p q : List Stp) : offP (p ++ q) = offP p + offP q := by
  induction p with
  | nil => simp [offP]
  | cons x p ih => simp [offP, ih, Nat.add_assoc]

theorem Sim.ld (S : Sim E V0 io0 W0 C s a W) {p u : AV} {v : Value} (hp : VR E.TR C W p v) (hl : ldAV s p = some u) :
    ∃ ad cs, v = .pointer (some ad) ∧ Rel E.TR C W u cs ∧ ∀ j x, cs[j]? = some x → W.cell? (ad.add j) = some x := by
  cases p with
  | ref k q =>
    obtain ⟨b, h1, h2, rfl⟩ := hp.ref_inv
    simp only [ldAV] at hl
    split at hl
    · rename_i w hw
      obtain ⟨b', cs, ty, g1, g2, g3, g4, g5⟩ := S.bx k w (St.objs_lt hw (by simp))
      rw [h1] at g1
      cases g1
      obtain ⟨k1, k2⟩ := getP_rel g4 hl h2
      refine ⟨_, _, rfl, k1, fun j x hj => ?_⟩
      have ha : (⟨b, offP q, none⟩ : Addr).add j = ⟨b, offP q + j, none⟩ := by unfold Addr.add; split <;> simp_all
      rw [ha]
      rw [List.getElem?_take] at hj
      split at hj
      · rw [List.getElem?_drop] at hj
        simp only [World.cell?, g2]
        simpa using hj
      · cases hj
    · cases hl
  | cref w q =>
    obtain ⟨ad, ds, h1, h2, h3, rfl⟩ := hp.cref_inv
    simp only [ldAV] at hl
    obtain ⟨k1, k2⟩ := getP_rel h1 hl h3
    refine ⟨_, _, rfl, k1, fun j x hj => ?_⟩
    rw [List.getElem?_take] at hj
    split at hj
    · rw [List.getElem?_drop] at hj
      rw [add_add]
      exact (h2 _ _ hj).1
    · cases hj
  | _ => simp [ldAV] at hl

theorem op_load (hX : CtxOK E X) (S : Sim E V0 io0 W0 C s a W) {t : Nat} {x : Operand} {u : AV} (ho : o.op = .load t x) (h : ldAV s (evO X s 0 x) = some u) (hf : fits X.T t u = true) : OpOK E V0 io0 W0 C o s a W u s.objs := by
  obtain ⟨ad, cs, e, h1, h2⟩ := S.ld (S.evO hX 0 x) h
  obtain ⟨i, hi, hs, hg⟩ := fits_inv hf
  refine OpOK.pure S (x := mkV u cs) ?_ (VR.mk h1)
  unfold execOp
  rw [ho]
  refine run_v ?_
  rw [e]
  simp only [Instr.loadAt, Instr.sureAddr, Sem.run_bind, Sem.run_pure, Result.andThen_ok]
  exact run_loadVar' (hX.T t i hi) hs hg h1.len h2 size_one

theorem run_storeVar' {t : Nat} {i : Ti} (hi : TiOK E.toBase t i) {u : AV} {ds : List Value} {b off : Nat} {cs : Array Value} {ty : TypeId} (hc : clean u = true) (hr : Rel E.TR C W u ds) (hs : i.sz = u.size)
    (hcs : W.heap[b]? = some (.cells cs ty (0, 0))) (hfit : off + ds.length ≤ cs.size) :
    (storeVar t ⟨b, off, none⟩ (mkV u ds)).run E.P W = .ok () (W.setRow b (cs.toList.take off ++ ds ++ cs.toList.drop (off + ds.length)).toArray) := by
  obtain ⟨inf, hinf, hsz⟩ := hi.sz
  have hcl := mkV_cells E.hT hc hr
  have := run_storeCells_at E.P b off ty ds 0 cs W hcs (by simpa using hfit) (clean_one E.hT hc hr)
  simp only [Nat.add_zero] at this
  simp only [storeVar, Sem.run_bind, run_sizeOf' hinf, Result.andThen_ok, hcl]
  rw [hsz, hs, ← hr.len]
  simp [this]

theorem op_store (hX : CtxOK E X) (S : Sim E V0 io0 W0 C s a W) {t k : Nat} {x y : Operand} {p : List Stp} {v v' : AV} (ho : o.op = .store t x y) (hx : evO X s 0 x = .ref k p) (hk : s.objs.getD k .none = .box v)
    (hf : fits X.T t (evO X s t y) = true) (hc : clean (evO X s t y) = true) (hs : setP v p (evO X s t y) = some v') : OpOK E V0 io0 W0 C o s a W .undef (s.objs.set k (.box v')) := by
  have hp := S.evO hX 0 x
  rw [hx] at hp
  obtain ⟨b, h1, h2, e⟩ := hp.ref_inv
  obtain ⟨i, hi, hs1, hg⟩ := fits_inv hf
  have hk' := St.objs_lt hk (by simp)
  obtain ⟨b', cs, ty, g1, g2, g3, g4, g5⟩ := S.bx k v hk'
  rw [h1] at g1
  cases g1
  have hy := S.evO hX t y
  rcases hy with hy | ⟨ds, hl, hr, ey⟩
  · rw [hy] at hc
    simp [clean] at hc
  · obtain ⟨A, c, B, q1, q2, q3, q4, q5⟩ := setP_rel g4 hs h2 hr
    have hcA : cs.toList.take (offP p) = A := by rw [q1, ← q2]; simp
    have hcB : cs.toList.drop (offP p + ds.length) = B := by
      rw [q1, ← q2, hl, ← q3]
      simp [List.drop_append]
    have hfit : offP p + ds.length ≤ cs.size := by
      have : cs.toList.length = _ := congrArg List.length q1
      simp at this
      omega
    refine OpOK.skip (C' := C) (W' := W.setRow b (A ++ ds ++ B).toArray) ?_ (S.write h1 g2 hk' q4 q5).2 (S.write h1 g2 hk' q4 q5).1.1 (S.write h1 g2 hk' q4 q5).1.2
    unfold execOp
    rw [ho]
    simp only [Instr.storeAt, e, ey, Instr.sureAddr, Sem.run_bind, Sem.run_pure, Result.andThen_ok]
    have := run_storeVar' (hX.T t i hi) hc hr hs1 g2 hfit
    rw [hcA, hcB] at this
    rw [this]
    rfl

theorem vr_ref {C' : Cx} {W' : World} {d b : Nat} (h : C'.box d = some b) : VR E.TR C' W' (.ref d []) (.pointer (some ⟨b, 0, none⟩)) := by
  refine .inr ⟨[.pointer (some ⟨b, 0, none⟩)], rfl, ?_, rfl⟩
  simp only [Rel]
  exact ⟨b, h, fun x hx => by simp at hx, rfl⟩

theorem op_alloc (hX : CtxOK E X) (S : Sim E V0 io0 W0 C s a W) {t d : Nat} {i : Ti} {z : AV} (ho : o.op = .alloc t) (hi : look X.T t = some i) (hz : i.zero = some z) (hd : s.objs.getD d .none = .none) (hl : d < s.objs.length) :
    OpOK E V0 io0 W0 C o s a W (.ref d []) (s.objs.set d (.box z)) := by
  have hd' : s.objs[d]? = some .none := by rw [List.getElem?_eq_getElem hl]; rw [← hd]; simp [List.getD, List.getElem?_eq_getElem hl]
  obtain ⟨inf, v, h1, h2, h3, h4, hcz, h5⟩ := (hX.T t i hi).zero z hz
  obtain ⟨cs, q1, q2, q3⟩ := h5 C W
  have hcl : v.cells = cs.toArray := by rw [q3]; exact mkV_cells E.hT hcz q2
  obtain ⟨C', ⟨c1, cx⟩, c2, c3⟩ := S.newBox (cs := cs.toArray) (ty := t) hd' (by simpa using q2)
  refine OpOK.value (C' := C') (W' := W.alloc (.cells cs.toArray t)) (x := .pointer (some ⟨W.heap.size, 0, none⟩)) ?_ c3 c1 cx ?_
  · unfold execOp
    rw [ho]
    refine run_v ?_
    simp only [Instr.alloc, Sem.run_bind, run_zeroValue' h1 h2, Result.andThen_ok]
    simp [newVar, newRow, hcl]
  · exact vr_ref c2

theorem op_box (hX : CtxOK E X) (S : Sim E V0 io0 W0 C s a W) {t d : Nat} {x : Operand} (ho : o.op = .box t x) (hf : fits X.T t (evO X s t x) = true) (hc : clean (evO X s t x) = true) (hd : s.objs.getD d .none = .none) (hl : d < s.objs.length) :
    OpOK E V0 io0 W0 C o s a W (.ref d []) (s.objs.set d (.box (evO X s t x))) := by
  have hd' : s.objs[d]? = some .none := by rw [List.getElem?_eq_getElem hl]; rw [← hd]; simp [List.getD, List.getElem?_eq_getElem hl]
  have hy := S.evO hX t x
  rcases hy with hy | ⟨ds, hl, hr, ey⟩
  · rw [hy] at hc
    simp [clean] at hc
  · have hcl := mkV_cells E.hT hc hr
    obtain ⟨C', ⟨c1, cx⟩, c2, c3⟩ := S.newBox (cs := ds.toArray) (ty := t) hd' (by simpa using hr)
    refine OpOK.value (C' := C') (W' := W.alloc (.cells ds.toArray t)) (x := .pointer (some ⟨W.heap.size, 0, none⟩)) ?_ c3 c1 cx (vr_ref c2)
    unfold execOp
    rw [ho]
    refine run_v ?_
    rw [ey]
    simp [Instr.box, newVar, newRow, hcl]

/-! Numbers, truths. -/

theorem run_vr {S : Sem Value} {x : Value} {W' : World} (f : (Operand → Value) → Sem Value) (hS : f a.eval = S) (h : S.run E.P W = .ok x W') : (do pure (Next.value (← f a.eval)) : Sem Next).run E.P W = .ok (.value x) W' := by
  rw [hS]
  exact run_v h

theorem op_move (hX : CtxOK E X) (S : Sim E V0 io0 W0 C s a W) {x : Operand} (t : Nat) (ho : o.op = .move x ∨ o.op = .assign x) : OpOK E V0 io0 W0 C o s a W (evO X s t x) s.objs := by
  refine OpOK.pure S ?_ (S.evO hX t x)
  unfold execOp
  rcases ho with ho | ho <;> rw [ho] <;> rfl

theorem op_not (hX : CtxOK E X) (S : Sim E V0 io0 W0 C s a W) {x : Operand} {t : Nat} {b : Bool} (ho : o.op = .unOp .not t x) (hx : evO X s 0 x = .bool b) : OpOK E V0 io0 W0 C o s a W (.bool (!b)) s.objs := by
  have h := S.evO hX 0 x
  rw [hx] at h
  refine OpOK.pure S (x := .bool (!b)) ?_ (vr_bool _)
  unfold execOp
  rw [ho]
  refine run_v ?_
  rw [h.bool_inv]
  rfl
theorem op_neg (hX : CtxOK E X) (S : Sim E V0 io0 W0 C s a W) {x : Operand} {t : Nat} {n : Int} (ho : o.op = .unOp .neg t x) (hx : evO X s 0 x = .int n) : OpOK E V0 io0 W0 C o s a W (.int (w64 (0 - n))) s.objs := by
  have h := S.evO hX 0 x
  rw [hx] at h
  refine OpOK.pure S (x := .int .i64 (w64 (0 - n))) ?_ (vr_int _)
  unfold execOp
  rw [ho]
  refine run_v ?_
  rw [h.int_inv]
  rfl

theorem op_extract (hX : CtxOK E X) (S : Sim E V0 io0 W0 C s a W) {x : Operand} {i : Nat} {l : List AV} {v : AV} (ho : o.op = .extract x i) (hx : evO X s 0 x = .tup l) (hv : l[i]? = some v) : OpOK E V0 io0 W0 C o s a W v s.objs := by
  have h := S.evO hX 0 x
  rw [hx] at h
  obtain ⟨vs, e, hr⟩ := h.tup_inv
  obtain ⟨u, hu, hw⟩ := relV_get hr i v hv
  refine OpOK.pure S (x := u) ?_ hw
  unfold execOp
  rw [ho]
  refine run_v ?_
  rw [e]
  simp [Instr.extract, hu]

theorem addStp_vr {p q : AV} {x : Stp} {v : Value} (h : VR E.TR C W p v) (ha : addStp p x = some q) (hx : x.ok) : ∃ ad, v = .pointer (some ad) ∧ VR E.TR C W q (.pointer (some (ad.add x.off))) := by
  cases p with
  | ref k p =>
    obtain ⟨b, h1, h2, rfl⟩ := h.ref_inv
    simp only [addStp] at ha
    cases ha
    refine ⟨_, rfl, .inr ⟨[.pointer (some ⟨b, offP p + x.off, none⟩)], rfl, ?_, ?_⟩⟩
    · simp only [Rel]
      refine ⟨b, h1, fun y hy => ?_, by simp [offP_append, offP]⟩
      rcases List.mem_append.1 hy with hy | hy
      · exact h2 y hy
      · simp at hy
        subst hy
        exact hx
    · have : (⟨b, offP p, none⟩ : Addr).add x.off = ⟨b, offP p + x.off, none⟩ := by unfold Addr.add; split <;> simp_all
      rw [this]
      rfl
  | cref u p =>
    obtain ⟨ad, ds, h1, h2, h3, rfl⟩ := h.cref_inv
    simp only [addStp] at ha
    cases ha
    refine ⟨_, rfl, .inr ⟨[.pointer (some (ad.add (offP p + x.off)))], rfl, ?_, ?_⟩⟩
    · simp only [Rel]
      refine ⟨ad, ds, h1, h2, fun y hy => ?_, by simp [offP_append, offP]⟩
      rcases List.mem_append.1 hy with hy | hy
      · exact h3 y hy
      · simp at hy
        subst hy
        exact hx
    · rw [add_add]
      rfl
  | _ => simp [addStp] at ha

theorem op_fieldAddr (hX : CtxOK E X) (S : Sim E V0 io0 W0 C s a W) {t f off ft : Nat} {x : Operand} {i : Ti} {v : AV} (ho : o.op = .fieldAddr t x f) (hi : look X.T t = some i) (hf : i.flds[f]? = some (off, ft)) (hv : addStp (evO X s 0 x) (.fld f off) = some v) :
    OpOK E V0 io0 W0 C o s a W v s.objs := by
  obtain ⟨fs, fd, h1, h2, h3, h4, inf, h5, h6⟩ := (hX.T t i hi).flds f off ft hf
  obtain ⟨ad, e, hw⟩ := addStp_vr (S.evO hX 0 x) hv trivial
  refine OpOK.pure S ?_ hw
  unfold execOp
  rw [ho]
  refine run_v ?_
  rw [e]
  subst h3
  subst h4
  simp only [Instr.fieldAt, Sem.run_bind, run_underlying h1, Result.andThen_ok, h2, Instr.sureAddr, Sem.run_pure, fieldPlace, run_sizeOf' h5, if_neg h6, Stp.off]

theorem op_len (hX : CtxOK E X) (S : Sim E V0 io0 W0 C s a W) {x : Operand} {ts : Array TypeId} {t : Nat} {te : Ty} {f : Fl} {l : List te.den} {e : Nat} (ho : o.op = .call { callee := .builtin .len, args := #[x], argTypes := #[t] }) (hx : evO X s 0 x = .sl te f l)
    (hu : E.P.underlying t = some (.slice e)) : OpOK E V0 io0 W0 C o s a W (.int l.length) s.objs := by
  have h := S.evO hX 0 x
  rw [hx] at h
  obtain ⟨A, c, ev, _⟩ := h.sl_inv
  refine OpOK.pure S (x := .int .i64 l.length) ?_ (vr_int _)
  unfold execOp
  rw [ho]
  simp only [Sem.run_bind, resolve, Sem.run_pure, Result.andThen_ok, invoke, builtin]
  simp [Builtin.len_, run_underlying hu, ev, goInt]

end Ev
end Go.Proofs.YtidnikjkpbmhhaaDoor
/- Further operations: indexing, slicing, operators, literals. -/
set_option linter.unusedVariables false
namespace Go.Proofs.YtidnikjkpbmhhaaDoor
namespace Ev

variable {E : Env} {V0 : Nat → Nat → Prop} {io0 : Io} {W0 : World} {C : Cx} {s : St} {a : Act} {W : World} {X : Ctx} {o : Oper}

theorem head_at {ds : List Value} {off : Nat} (h : off < ds.length) (d : Value) : (List.take 1 (List.drop off ds)).head?.getD d = ds[off] := by
  rw [List.drop_eq_getElem_cons h]
  rfl

theorem run_part' {t : Nat} {i : Ti} (hi : TiOK E.toBase t i) {v : AV} {ds : List Value} {off : Nat} (h1 : i.sz = v.size) (h2 : i.ag = isAg v) (hr : Rel E.TR C W v ((ds.drop off).take v.size)) (hl : off + v.size ≤ ds.length) :
    (part t ds.toArray off).run E.P W = .ok (mkV v ((ds.drop off).take v.size)) W := by
  obtain ⟨d, hd, hd2⟩ := hi.ag
  obtain ⟨inf, hinf, hsz⟩ := hi.sz
  simp only [part, Sem.run_bind, run_isAgg hd, Result.andThen_ok, hd2, h2]
  cases hv : isAg v with
  | true =>
    simp only [if_true, Sem.run_bind, run_sizeOf' hinf, Result.andThen_ok, Sem.run_pure, hsz, h1, mkV, hv]
    congr 2
    apply Array.ext'
    simp [List.drop_take]
  | false =>
    have h1 := size_one hv
    have : off < ds.length := by omega
    simp [mkV, hv, h1, List.getElem?_eq_getElem this, head_at this]

theorem op_field (hX : CtxOK E X) (S : Sim E V0 io0 W0 C s a W) {t f off ft : Nat} {x : Operand} {i : Ti} {v : AV} {l : List AV} (ho : o.op = .field t x f) (hi : look X.T t = some i) (hx : evO X s 0 x = .agg l) (hf : i.flds[f]? = some (off, ft))
    (hv : l[f]? = some v) (hoff : off = sizeL (l.take f)) (hfit : fits X.T ft v = true) : OpOK E V0 io0 W0 C o s a W v s.objs := by
  obtain ⟨fs, fd, h1, h2, h3, h4, inf, h5, h6⟩ := (hX.T t i hi).flds f off ft hf
  obtain ⟨j, hj, hj1, hj2⟩ := fits_inv hfit
  have h := S.evO hX 0 x
  rw [hx] at h
  obtain ⟨cs, e, hr⟩ := h.agg_inv
  obtain ⟨g1, g2⟩ := relL_at hr f v hv
  rw [← hoff] at g1 g2
  refine OpOK.pure S ?_ (VR.mk g1)
  unfold execOp
  rw [ho]
  refine run_v ?_
  rw [e]
  subst h3
  subst h4
  simp only [Instr.field, Sem.run_bind, run_underlying h1, Result.andThen_ok, h2, asAgg, Sem.run_pure]
  exact run_part' (hX.T _ j hj) hj1 hj2 g1 g2

theorem rel_row {t : Ty} {f : Fl} {l : List t.den} {A : Option Addr} {c : Nat} (h : Rel E.TR C W (.sl t f l) [.slice A l.length c]) : l.length ≤ c ∧ Row C.V W (CRel C.V W t) t.size A l ∧ (f.z = true → l = [] → A = none ∧ c = 0) ∧ (f.tg = true → c = l.length) ∧
    (∀ k v, f.ow = some (k, v) → ∃ cu al, C.lv k = some (cu, al) ∧ v ≤ cu ∧ (al = true → v = cu → c = l.length ∨ ∃ b, A = some ⟨b, 0, none⟩ ∧ C.tl k = (b, l.length * t.size, c * t.size))) := by
  simp only [Rel] at h
  obtain ⟨A', c', e, h⟩ := h
  cases e
  exact h

theorem op_indexAddr (hX : CtxOK E X) (S : Sim E V0 io0 W0 C s a W) {t : Nat} {x y : Operand} {te : Ty} {f : Fl} {l : List te.den} {n : Int} {e b : Nat} (ho : o.op = .indexAddr t x y) (hx : evO X s t x = .sl te f l) (hy : evO X s 0 y = .int n)
    (he : elOf X.T t = some (te, e, b)) (h0 : 0 ≤ n) (h1 : n < l.length) : OpOK E V0 io0 W0 C o s a W (.cref (enc te (l.getD n.toNat te.dflt)) []) s.objs := by
  obtain ⟨hu, hel⟩ := look_el hX.T he
  obtain ⟨inf, zv, g1, g2, _⟩ := hel.ex
  have hxv := S.evO hX t x
  have hyv := S.evO hX 0 y
  rw [hx] at hxv
  rw [hy] at hyv
  obtain ⟨A, c, ev, hr⟩ := hxv.sl_inv
  obtain ⟨q1, q2, _⟩ := rel_row hr
  have hn : n.toNat < l.length := by omega
  have hg : l.getD n.toNat te.dflt = l[n.toNat] := by simp [List.getD, List.getElem?_eq_getElem hn]
  obtain ⟨ad, ds, e1, e2, e3, e4⟩ := q2 n.toNat _ (List.getElem?_eq_getElem hn)
  obtain ⟨k1, k2⟩ := enc_rel (io := C.io) (TR := E.TR) e2 C rfl
  rw [hg]
  refine OpOK.pure S (x := .pointer (some (ad.add (n.toNat * te.size)))) ?_ (.inr ⟨[.pointer (some (ad.add (n.toNat * te.size)))], rfl, ?_, rfl⟩)
  · unfold execOp
    rw [ho]
    refine run_v ?_
    rw [ev, hyv.int_inv, e1]
    simp [Instr.indexAt, asIntOf, run_underlying hu, h0, h1, run_sizeOf' g1, g2]
  · simp only [Rel]
    exact ⟨_, ds, k1, e4, fun x hx => by simp at hx, by simp [offP, add_zero]⟩

theorem op_indexAddrA (hX : CtxOK E X) (S : Sim E V0 io0 W0 C s a W) {t m tid : Nat} {x y : Operand} {te : Ty} {ti : Ti} {n : Int} {v : AV} (ho : o.op = .indexAddr t x y) (hi : look X.T t = some ti) (ha : ti.ar = some (m, te, tid)) (hy : evO X s 0 y = .int n)
    (hv : addStp (evO X s t x) (.idx n te.size m) = some v) (h0 : 0 ≤ n) (h1 : n < m) : OpOK E V0 io0 W0 C o s a W v s.objs := by
  obtain ⟨inf, d, g1, g2, g3, _⟩ := (hX.T t ti hi).ar m te tid ha
  have hyv := S.evO hX 0 y
  rw [hy] at hyv
  obtain ⟨ad, e, hw⟩ := addStp_vr (S.evO hX t x) hv ⟨h0, h1⟩
  refine OpOK.pure S ?_ hw
  unfold execOp
  rw [ho]
  refine run_v ?_
  rw [e, hyv.int_inv]
  simp [Instr.indexAt, asIntOf, run_underlying g1, Instr.sureAddr, h0, h1, run_sizeOf' g2, g3, Stp.off]

theorem op_index (hX : CtxOK E X) (S : Sim E V0 io0 W0 C s a W) {t m tid : Nat} {x y : Operand} {te : Ty} {xs : List te.den} {ti : Ti} {n : Int} (ho : o.op = .index t x y) (hi : look X.T t = some ti) (ha : ti.ar = some (m, te, tid)) (hx : evO X s t x = .arr te m xs) (hy : evO X s 0 y = .int n)
    (h0 : 0 ≤ n) (h1 : n < m) : OpOK E V0 io0 W0 C o s a W (enc te (xs.getD n.toNat te.dflt)) s.objs := by
  obtain ⟨inf, d, g1, g2, g3, g4, g5⟩ := (hX.T t ti hi).ar m te tid ha
  have hxv := S.evO hX t x
  have hyv := S.evO hX 0 y
  rw [hx] at hxv
  rw [hy] at hyv
  obtain ⟨cs, ev, hl, hf⟩ := hxv.arr_inv
  have hn : n.toNat < xs.length := by omega
  have hg : xs.getD n.toNat te.dflt = xs[n.toNat] := by simp [List.getD, List.getElem?_eq_getElem hn]
  obtain ⟨q1, q2⟩ := flat_at (fun x c h => CRel.length h) hf n.toNat _ (List.getElem?_eq_getElem hn)
  obtain ⟨k1, k2⟩ := enc_rel (io := C.io) (TR := E.TR) q1 C rfl
  rw [hg]
  refine OpOK.pure S ?_ (VR.mk k1)
  unfold execOp
  rw [ho]
  refine run_v ?_
  rw [ev, hyv.int_inv]
  have hp : (part tid cs.toArray (n.toNat * te.size)).run E.P W = .ok (mkV (enc te xs[n.toNat]) ((cs.drop (n.toNat * te.size)).take te.size)) W := by
    simp only [part, Sem.run_bind, run_isAgg g4, Result.andThen_ok, g5]
    cases hv : isAgT te with
    | true =>
      simp only [if_true, Sem.run_bind, run_sizeOf' g2, Result.andThen_ok, Sem.run_pure, g3, mkV, isAg_enc, hv]
      congr 2
      apply Array.ext'
      simp [List.drop_take]
    | false =>
      have h1 : te.size = 1 := by cases te <;> first | rfl | simp [isAgT] at hv
      have : n.toNat * te.size < cs.length := by omega
      simp [mkV, isAg_enc, hv, h1] at this ⊢
      simp [List.getElem?_eq_getElem this, head_at this]
  simp only [Instr.index, asIntOf, Sem.run_bind, Sem.run_pure, Result.andThen_ok, run_underlying g1]
  rw [if_pos ⟨h0, by omega⟩]
  simp only [Sem.run_bind, run_sizeOf' g2, Result.andThen_ok, g3]
  exact hp

/-! Slicing. -/

theorem row_take {t : Ty} {A : Option Addr} {l : List t.den} (h : Row C.V W (CRel C.V W t) t.size A l) (n : Nat) : Row C.V W (CRel C.V W t) t.size A (l.take n) := fun j x hj => by
  rw [List.getElem?_take] at hj
  split at hj
  · exact h j x hj
  · cases hj
theorem row_drop {t : Ty} {A : Option Addr} {l : List t.den} (h : Row C.V W (CRel C.V W t) t.size A l) (n : Nat) : Row C.V W (CRel C.V W t) t.size (A.map (·.add (n * t.size))) (l.drop n) := fun j x hj => by
  rw [List.getElem?_drop] at hj
  obtain ⟨ad, c, h1, h2, h3, h4⟩ := h _ x hj
  refine ⟨ad.add (n * t.size), c, by rw [h1]; rfl, h2, h3, ?_⟩
  rw [add_add, ← Nat.add_mul]
  exact h4
theorem row_nil {t : Ty} {A : Option Addr} : Row C.V W (CRel C.V W t) t.size A [] := fun j x hj => by simp at hj

theorem run_bound {n : Int} {y : Nat} {code : BoundsCode} (h0 : 0 ≤ n) (h1 : n ≤ y) (W : World) : (Instr.sliceBound (.int .i64 n) y code).run E.P W = .ok n.toNat W := by
  simp [Instr.sliceBound, asIntOf, h0, h1]

theorem vr_sl {t : Ty} {f : Fl} {l : List t.den} {A : Option Addr} {c n : Nat} (hn : n = l.length) (h1 : l.length ≤ c) (h2 : Row C.V W (CRel C.V W t) t.size A l) (h3 : f.z = true → l = [] → A = none ∧ c = 0) (h4 : f.tg = true → c = l.length) (h5 : f.ow = none) :
    VR E.TR C W (.sl t f l) (.slice A n c) := by
  subst hn
  refine .inr ⟨[.slice A l.length c], rfl, ?_, rfl⟩
  simp only [Rel]
  exact ⟨A, c, rfl, h1, h2, h3, h4, fun k v h => by rw [h5] at h; cases h⟩

theorem op_slice (hX : CtxOK E X) (S : Sim E V0 io0 W0 C s a W) {t : Nat} {x : Operand} {lo hi mx : Option Operand} {te : Ty} {f : Fl} {l : List te.den} {e b : Nat} {v : AV} (ho : o.op = .slice t x lo hi mx) (hx : evO X s t x = .sl te f l)
    (he : elOf X.T t = some (te, e, b)) (h : slAV (.sl te f l) (lo.map (evO X s 0)) (hi.map (evO X s 0)) (mx.map (evO X s 0)) = some (true, v)) : OpOK E V0 io0 W0 C o s a W v s.objs := by
  obtain ⟨hu, hel⟩ := look_el hX.T he
  obtain ⟨inf, zv, g1, g2, _⟩ := hel.ex
  have hxv := S.evO hX t x
  rw [hx] at hxv
  obtain ⟨A, c, ev, hr⟩ := hxv.sl_inv
  obtain ⟨q1, q2, q3, q4, _⟩ := rel_row hr
  -- the run, whatever the bounds
  have key : ∀ (lo' hi' mx' : Option Value) (L H M : Nat) (u : Value), lo.map a.eval = lo' → hi.map a.eval = hi' → mx.map a.eval = mx' →
      (Instr.sliceBounds true l.length c lo' hi' mx').run E.P W = .ok (L, H, M) W → u = .slice (if M = L then A else A.map (·.add (L * te.size))) (H - L) (M - L) → VR E.TR C W v u → OpOK E V0 io0 W0 C o s a W v s.objs := by
    intro lo' hi' mx' L H M u e1 e2 e3 hb hue hv
    refine OpOK.pure S (x := u) ?_ hv
    unfold execOp
    rw [ho]
    refine run_v ?_
    subst hue
    simp only [Instr.sliceAt, Sem.run_bind, run_underlying hu, Result.andThen_ok, Instr.slice, ev, e1, e2, e3, hb, run_sizeOf' g1, g2, Sem.run_pure]
  have hlen : ∀ (h : Int), 0 ≤ h → h ≤ l.length → (l.take h.toNat).length = h.toNat := fun h h0 h1 => by rw [List.length_take]; omega
  unfold slAV at h
  simp only at h
  split at h
  · -- x[:]
    rename_i e1 e2 e3
    obtain ⟨rfl⟩ : lo = none := by cases lo <;> simp_all
    obtain ⟨rfl⟩ : hi = none := by cases hi <;> simp_all
    obtain ⟨rfl⟩ : mx = none := by cases mx <;> simp_all
    simp only [Option.some.injEq, Prod.mk.injEq] at h
    obtain ⟨_, rfl⟩ := h
    refine key none none none 0 l.length c (.slice A l.length c) rfl rfl rfl (by simp [Instr.sliceBounds]) ?_ (by rw [← ev]; exact hxv)
    by_cases hc : c = 0
    · simp [hc]
    · simp only [if_neg hc, Nat.zero_mul, Nat.sub_zero]
      cases A <;> simp [add_zero]
  · -- x[:h]
    rename_i h' e1 e2 e3
    obtain ⟨rfl⟩ : lo = none := by cases lo <;> simp_all
    obtain ⟨rfl⟩ : mx = none := by cases mx <;> simp_all
    obtain ⟨y, rfl, hy⟩ : ∃ y, hi = some y ∧ evO X s 0 y = .int h' := by cases hi <;> simp_all
    simp only [Option.some.injEq, Prod.mk.injEq, Bool.and_eq_true, decide_eq_true_eq] at h
    obtain ⟨⟨h0, h1⟩, rfl⟩ := h
    have hyv := S.evO hX 0 y
    rw [hy] at hyv
    refine key none (some (.int .i64 h')) none 0 h'.toNat c (.slice A h'.toNat c) rfl (by simp [hyv.int_inv]) rfl (by simp [Instr.sliceBounds, run_bound h0 (show h' ≤ (c : Int) by omega)]) ?_ ?_
    · by_cases hc : c = 0
      · simp [hc]
      · simp only [if_neg hc, Nat.zero_mul, Nat.sub_zero]
        cases A <;> simp [add_zero]
    · exact vr_sl (hlen h' h0 h1).symm (by rw [hlen h' h0 h1]; omega) (row_take q2 _) (by simp) (by simp) rfl
  · -- x[a:]
    rename_i a' e1 e2 e3
    obtain ⟨rfl⟩ : hi = none := by cases hi <;> simp_all
    obtain ⟨rfl⟩ : mx = none := by cases mx <;> simp_all
    obtain ⟨y, rfl, hy⟩ : ∃ y, lo = some y ∧ evO X s 0 y = .int a' := by cases lo <;> simp_all
    simp only [Option.some.injEq, Prod.mk.injEq, Bool.and_eq_true, decide_eq_true_eq] at h
    obtain ⟨⟨h0, h1⟩, rfl⟩ := h
    have hyv := S.evO hX 0 y
    rw [hy] at hyv
    refine key (some (.int .i64 a')) none none a'.toNat l.length c _ (by simp [hyv.int_inv]) rfl rfl (by simp [Instr.sliceBounds, run_bound h0 (show a' ≤ (l.length : Int) by omega)]) rfl ?_
    refine vr_sl (by simp) (by simp; omega) ?_ (by simp) (by simp) rfl
    by_cases hc : c = a'.toNat
    · have : l.drop a'.toNat = [] := List.drop_of_length_le (by omega)
      rw [this]
      exact row_nil
    · rw [if_neg hc]
      exact row_drop q2 _
  · -- x[a:h]
    rename_i a' h' e1 e2 e3
    obtain ⟨rfl⟩ : mx = none := by cases mx <;> simp_all
    obtain ⟨y, rfl, hy⟩ : ∃ y, lo = some y ∧ evO X s 0 y = .int a' := by cases lo <;> simp_all
    obtain ⟨z, rfl, hz⟩ : ∃ y, hi = some y ∧ evO X s 0 y = .int h' := by cases hi <;> simp_all
    simp only [Option.some.injEq, Prod.mk.injEq, Bool.and_eq_true, decide_eq_true_eq] at h
    obtain ⟨⟨h0, h1, h2⟩, rfl⟩ := h
    have hyv := S.evO hX 0 y
    rw [hy] at hyv
    have hzv := S.evO hX 0 z
    rw [hz] at hzv
    refine key (some (.int .i64 a')) (some (.int .i64 h')) none a'.toNat h'.toNat c _ (by simp [hyv.int_inv]) (by simp [hzv.int_inv]) rfl
      (by simp [Instr.sliceBounds, run_bound (show 0 ≤ h' by omega) (show h' ≤ (c : Int) by omega), run_bound h0 (show a' ≤ (h'.toNat : Int) by omega)]) rfl ?_
    refine vr_sl (by simp; omega) (by simp; omega) ?_ (by simp) (by simp) rfl
    by_cases hc : c = a'.toNat
    · have : (l.take h'.toNat).drop a'.toNat = [] := List.drop_of_length_le (by simp; omega)
      rw [this]
      exact row_nil
    · rw [if_neg hc]
      exact row_drop (row_take q2 _) _
  · -- x[:h:m]
    rename_i h' m' e1 e2 e3
    obtain ⟨rfl⟩ : lo = none := by cases lo <;> simp_all
    obtain ⟨y, rfl, hy⟩ : ∃ y, hi = some y ∧ evO X s 0 y = .int h' := by cases hi <;> simp_all
    obtain ⟨z, rfl, hz⟩ : ∃ y, mx = some y ∧ evO X s 0 y = .int m' := by cases mx <;> simp_all
    simp only [Option.some.injEq, Prod.mk.injEq, Bool.and_eq_true, decide_eq_true_eq] at h
    obtain ⟨⟨rfl, h0, h1⟩, rfl⟩ := h
    have hyv := S.evO hX 0 y
    rw [hy] at hyv
    have hzv := S.evO hX 0 z
    rw [hz] at hzv
    refine key none (some (.int .i64 h')) (some (.int .i64 h')) 0 h'.toNat h'.toNat _ rfl (by simp [hyv.int_inv]) (by simp [hzv.int_inv])
      (by simp [Instr.sliceBounds, run_bound h0 (show h' ≤ (c : Int) by omega), run_bound h0 (show h' ≤ (h'.toNat : Int) by omega)]) rfl ?_
    have hA : (if h'.toNat = 0 then A else A.map (·.add (0 * te.size))) = A := by
      split
      · rfl
      · cases A <;> simp [add_zero]
    rw [hA]
    refine vr_sl (by rw [hlen h' h0 h1]; omega) (by rw [hlen h' h0 h1]; omega) (row_take q2 _) ?_ (fun _ => by rw [hlen h' h0 h1]; omega) rfl
    intro hz hn
    simp only [Bool.and_eq_true, decide_eq_true_eq] at hz
    have : l = [] := by
      have := congrArg List.length hn
      rw [hlen h' h0 h1] at this
      simp at this
      exact List.eq_nil_of_length_eq_zero (by omega)
    obtain ⟨k1, k2⟩ := q3 hz.1 this
    subst this
    refine ⟨k1, ?_⟩
    simp at h1
    omega
  · -- x[a:h:m]
    rename_i a' h' m' e1 e2 e3
    obtain ⟨w, rfl, hw⟩ : ∃ y, lo = some y ∧ evO X s 0 y = .int a' := by cases lo <;> simp_all
    obtain ⟨y, rfl, hy⟩ : ∃ y, hi = some y ∧ evO X s 0 y = .int h' := by cases hi <;> simp_all
    obtain ⟨z, rfl, hz⟩ : ∃ y, mx = some y ∧ evO X s 0 y = .int m' := by cases mx <;> simp_all
    simp only [Option.some.injEq, Prod.mk.injEq, Bool.and_eq_true, decide_eq_true_eq] at h
    obtain ⟨⟨rfl, h0, h1, h2⟩, rfl⟩ := h
    have hwv := S.evO hX 0 w
    rw [hw] at hwv
    have hyv := S.evO hX 0 y
    rw [hy] at hyv
    have hzv := S.evO hX 0 z
    rw [hz] at hzv
    refine key (some (.int .i64 a')) (some (.int .i64 h')) (some (.int .i64 h')) a'.toNat h'.toNat h'.toNat _ (by simp [hwv.int_inv]) (by simp [hyv.int_inv]) (by simp [hzv.int_inv])
      (by simp [Instr.sliceBounds, run_bound (show 0 ≤ h' by omega) (show h' ≤ (c : Int) by omega), run_bound (show 0 ≤ h' by omega) (show h' ≤ (h'.toNat : Int) by omega), run_bound h0 (show a' ≤ (h'.toNat : Int) by omega)]) rfl ?_
    refine vr_sl (by simp; omega) (by simp; omega) ?_ ?_ (fun _ => by simp; omega) rfl
    · by_cases hc : h'.toNat = a'.toNat
      · have : (l.take h'.toNat).drop a'.toNat = [] := List.drop_of_length_le (by simp; omega)
        rw [this]
        exact row_nil
      · rw [if_neg hc]
        exact row_drop (row_take q2 _) _
    · intro hz hn
      simp only [Bool.and_eq_true, decide_eq_true_eq] at hz
      obtain ⟨hz1, rfl, hz3⟩ := hz
      have : l = [] := by
        have hl := congrArg List.length hn
        rw [List.length_drop, List.length_take] at hl
        simp only [List.length_nil] at hl
        exact List.eq_nil_of_length_eq_zero (by omega)
      obtain ⟨k1, k2⟩ := q3 hz1 this
      subst this
      simp at hz3
      subst hz3
      exact ⟨by simpa using k1, by simp⟩
  · cases h

end Ev
end Go.Proofs.YtidnikjkpbmhhaaDoor
/- append, make. -/
set_option linter.unusedVariables false
namespace Go.Proofs.YtidnikjkpbmhhaaDoor
namespace Ev

variable {E : Env} {V0 : Nat → Nat → Prop} {io0 : Io} {W0 : World} {C : Cx} {s : St} {a : Act} {W : World} {X : Ctx} {o : Oper}

theorem row_flat {V : Nat → Nat → Prop} {t : Ty} : ∀ {l : List t.den} {A : Option Addr}, Row V W (CRel V W t) t.size A l →
    ∃ cs, Flat (fun x c => CRel V W t x c) l cs ∧ cs.length = l.length * t.size ∧ ∀ ad, A = some ad → ∀ (i : Nat) (v : Value), cs[i]? = some v → W.cell? (ad.add i) = some v ∧ ¬ V ad.block (ad.off + i)
  | [], A, h => ⟨[], rfl, by simp, fun ad _ i v hv => by simp at hv⟩
  | x :: l, A, h => by
    obtain ⟨ad, c, h1, h2, h3, h4⟩ := h 0 x rfl
    have hd : Row V W (CRel V W t) t.size (A.map (·.add t.size)) l := fun j y hj => by
      obtain ⟨ad', c', g1, g2, g3, g4⟩ := h (j + 1) y (by simpa using hj)
      refine ⟨ad'.add t.size, c', by rw [g1]; rfl, g2, g3, ?_⟩
      rw [add_add, show t.size + j * t.size = (j + 1) * t.size by rw [Nat.add_mul, Nat.one_mul, Nat.add_comm]]
      exact g4
    obtain ⟨ds, k1, k2, k3⟩ := row_flat hd
    refine ⟨c ++ ds, ⟨c, ds, rfl, h2, k1⟩, by simp [h3, k2, Nat.add_mul, Nat.add_comm], fun ad' e i v hv => ?_⟩
    rw [h1] at e
    cases e
    rw [List.getElem?_append] at hv
    split at hv
    · have := h4 i v hv
      simp only [Nat.zero_mul, add_zero] at this
      exact this
    · rename_i hi
      have := k3 (ad.add t.size) (by rw [h1]; rfl) (i - c.length) v hv
      rw [add_add, add_block, add_off, show t.size + (i - c.length) = i by omega, show ad.off + t.size + (i - c.length) = ad.off + i by omega] at this
      exact this

theorem row_of_flat {V : Nat → Nat → Prop} {W' : World} {t : Ty} {b : Nat} {xs : List t.den} {ds : List Value} {cs : Array Value} {ty : TypeId} (hf : Flat (fun x c => CRel V W' t x c) xs ds) (hb : W'.heap[b]? = some (.cells cs ty (0, 0)))
    (hp : ∀ (i : Nat) (v : Value), ds[i]? = some v → cs[i]? = some v) (hV : ∀ o, o < ds.length → ¬ V b o) : Row V W' (CRel V W' t) t.size (some ⟨b, 0, none⟩) xs := fun j x hj => by
  obtain ⟨g1, g2⟩ := flat_at (fun x c h => CRel.length h) hf j x hj
  refine ⟨_, _, rfl, g1, by rw [List.length_take, List.length_drop]; omega, fun i v hv => ?_⟩
  rw [List.getElem?_take] at hv
  split at hv
  · rename_i hi
    rw [List.getElem?_drop] at hv
    rw [add_add, add_block, add_off]
    have ha : (⟨b, 0, none⟩ : Addr).add (j * t.size + i) = ⟨b, j * t.size + i, none⟩ := by unfold Addr.add; split <;> simp_all
    rw [ha]
    refine ⟨?_, ?_⟩
    · simp only [World.cell?, hb]
      simpa using hp _ _ hv
    · have := (List.getElem?_eq_some_iff.1 hv).1
      have h2 := hV (j * t.size + i) this
      simpa using h2
  · cases hv

theorem flat_append {α : Type} {R : α → List Value → Prop} : ∀ {xs ys : List α} {cs ds : List Value}, Flat R xs cs → Flat R ys ds → Flat R (xs ++ ys) (cs ++ ds)
  | [], ys, cs, ds, h, k => by
    have h' : cs = [] := h
    subst h'
    simpa using k
  | x :: xs, ys, cs, ds, ⟨c, d, e, h1, h2⟩, k => ⟨c, d ++ ds, by simp [e], h1, flat_append h2 k⟩

theorem run_append_room' {P : Program} (w : World) (t ty e : TypeId) (i : TypeInfo) (ht : P.underlying t = some (.slice e)) (hi : P.info? e = some i)
    (g sLen sCap : Nat) (cur : Array Value) (bt : TypeId) (hg : w.heap[g]? = some (.cells cur bt (0, 0)))
    (a : Addr) (m c : Nat) (news : List Value) (hl : news.length = m * i.size) (hnews : ∀ j u, news[j]? = some u → w.cell? (a.add j) = some u) (h1 : ∀ u ∈ news, u.oneCell' = true)
    (hroom : sLen + m ≤ sCap) (hfit : sLen * i.size + news.length ≤ cur.size) :
    (Builtin.append_ #[t, t] ty #[.slice (some ⟨g, 0, none⟩) sLen sCap, .slice (some a) m c]).run P w =
      .ok (.slice (some ⟨g, 0, none⟩) (sLen + m) sCap) (w.setRow g (cur.toList.take (sLen * i.size) ++ news ++ cur.toList.drop (sLen * i.size + news.length)).toArray) := by
  have hf := run_firstCells_some (P := P) w i.size m a m c news hl hnews
  have hst := run_storeCells_at P g (sLen * i.size) bt news 0 cur w hg (by simpa using hfit) h1
  simp only [Nat.add_zero] at hst
  simp [Builtin.append_, run_underlying ht, sizeOf, typeInfo, hi, Builtin.lenOf, hroom, hf, Addr.add_lit, hst]

theorem run_append_zero {P : Program} (w : World) (t ty e : TypeId) (i : TypeInfo) (ht : P.underlying t = some (.slice e)) (hi : P.info? e = some i) (A B : Option Addr) (n c c' : Nat) (h : n ≤ c) :
    (Builtin.append_ #[t, t] ty #[.slice A n c, .slice B 0 c']).run P w = .ok (.slice A n c) w := by
  cases A <;> cases B <;> simp [Builtin.append_, run_underlying ht, sizeOf, typeInfo, hi, Builtin.lenOf, h, Builtin.firstCells, loadCells, loadCellsFrom, storeCells]

theorem run_append_call {P : Program} {x y : Operand} {t d : Nat} {W W' : World} {r : Value} (ho : o.op = .call { callee := .builtin .append, args := #[x, y], argTypes := #[t, t] })
    (h : (Builtin.append_ #[t, t] o.type #[a.eval x, a.eval y]).run P W = .ok r W') : (execOp a.eval o).run P W = .ok (.value r) W' := by
  unfold execOp
  rw [ho]
  simp only [Sem.run_bind, resolve, Sem.run_pure, Result.andThen_ok, invoke, builtin, List.map_toArray, List.map_cons, List.map_nil, h]

theorem VR.sl_mk {C' : Cx} {W' : World} {t : Ty} {f : Fl} {l : List t.den} {A : Option Addr} {c n d ver : Nat} (hn : n = l.length) (h1 : l.length ≤ c) (h2 : Row C'.V W' (CRel C'.V W' t) t.size A l) (h3 : f.z = true → l = [] → A = none ∧ c = 0) (h4 : f.tg = true → c = l.length)
    (h5 : f.ow = some (d, ver)) (hlv : C'.lv d = some (ver, true)) (h6 : c = l.length ∨ ∃ b, A = some ⟨b, 0, none⟩ ∧ C'.tl d = (b, l.length * t.size, c * t.size)) : VR E.TR C' W' (.sl t f l) (.slice A n c) := by
  subst hn
  refine .inr ⟨[.slice A l.length c], rfl, ?_, rfl⟩
  simp only [Rel]
  exact ⟨A, c, rfl, h1, h2, h3, h4, fun k v h => by rw [h5] at h; cases h; exact ⟨ver, true, hlv, Nat.le_refl _, fun _ _ => h6⟩⟩

theorem row_mono {C' : Cx} {W' : World} {t : Ty} {A : Option Addr} {l : List t.den} (hle : CxLe C C' W W') (h : Row C.V W (CRel C.V W t) t.size A l) : Row C'.V W' (CRel C'.V W' t) t.size A l := fun j x hj => by
  obtain ⟨a, c, g1, g2, g3, g4⟩ := h j x hj
  exact ⟨a, c, g1, CRel.mono hle.st g2, g3, g4.mono hle.st⟩

/-- The slice that an append makes anew. -/
theorem app_grow (S : Sim E V0 io0 W0 C s a W) {objs' : List Ob} {d ver : Nat} {k : Option Nat} (hR : Relin s.objs objs' d ver k) {t e by_ : Nat} {te : Ty} (hu : E.P.underlying t = some (.slice e)) (hel : ElOK E.toBase te e by_)
    {x y : Operand} (ho : o.op = .call { callee := .builtin .append, args := #[x, y], argTypes := #[t, t] }) {A B : Option Addr} {l m : List te.den} {c c' : Nat} (hx : a.eval x = .slice A l.length c) (hy : a.eval y = .slice B m.length c')
    (hA : Row C.V W (CRel C.V W te) te.size A l) (hB : Row C.V W (CRel C.V W te) te.size B m) (hAn : A = none → c = 0) (hc : c < l.length + m.length) (hlc : l.length ≤ c) (hb : (l.length + m.length) * by_ ≤ 70368744177664) (z : Bool) :
    OpOK E V0 io0 W0 C o s a W (.sl te ⟨z, false, some (d, ver)⟩ (l ++ m)) objs' := by
  obtain ⟨inf, zv, g1, g2, g3, g4, g5, g6⟩ := hel.ex
  obtain ⟨olds, f1, f2, f3⟩ := row_flat hA
  obtain ⟨news, k1, k2, k3⟩ := row_flat hB
  have hpos := hel.pos
  have hbp := hel.bpos
  have hn : l.length + m.length ≤ 70368744177664 := Nat.le_trans (Nat.le_mul_of_pos_right _ hbp) hb
  have hm0 : m ≠ [] := fun h => by subst h; simp at hc; omega
  obtain ⟨ad, hBa⟩ : ∃ ad, B = some ad := by
    cases m with
    | nil => exact absurd rfl hm0
    | cons y0 m =>
      obtain ⟨ad, _, h, _⟩ := hB 0 y0 rfl
      exact ⟨ad, h⟩
  -- the run
  have hrun : ∃ W1 cap, (W1 = W ∨ W1 = W.drew) ∧ l.length + m.length ≤ cap ∧ (execOp a.eval o).run E.P W = .ok (.value (.slice (some ⟨W.heap.size, 0, none⟩) (l.length + m.length) cap)) (W1.alloc (.cells (olds.toArray ++ news.toArray ++ Builtin.zeroCells zv.cells (cap - (l.length + m.length))) e)) := by
    cases A with
    | none =>
      have hl : l = [] := by
        cases l with
        | nil => rfl
        | cons x0 l => obtain ⟨_, _, h, _⟩ := hA 0 x0 rfl; cases h
      subst hl
      have hc0 := hAn rfl
      subst hc0
      have ho0 : olds = [] := List.eq_nil_of_length_eq_zero (by simpa using f2)
      subst ho0
      refine ⟨W.drew, grownCap W m.length 0 e, .inr rfl, by simpa using grownCap_ge W m.length 0 e, ?_⟩
      have := run_append_nil (P := E.P) W t o.type e inf zv hu g1 g4 ad m.length c' news (by rw [k2, g2]) (fun j v hv => (k3 ad hBa j v hv).1) (by simpa using hc) (by simp at hn; omega)
        (by rw [g3]; simp at hb; omega)
      refine run_append_call (d := d) ho ?_
      rw [hx, hy, hBa]
      simpa using this
    | some b0 =>
      refine ⟨W.drew, grownCap W (l.length + m.length) c e, .inr rfl, grownCap_ge W _ c e, ?_⟩
      have := run_append_grow (P := E.P) W t o.type e inf zv hu g1 g4 b0 l.length c olds (by rw [f2, g2]) (fun j v hv => (f3 b0 rfl j v hv).1) ad m.length c' news (by rw [k2, g2]) (fun j v hv => (k3 ad hBa j v hv).1) hc (by omega)
        (growslice_fits hc (by rw [g3]; omega))
      refine run_append_call (d := d) ho ?_
      rw [hx, hy, hBa]
      exact this
  obtain ⟨W1, cap, hW1, hcap, hr⟩ := hrun
  have hsize : (olds.toArray ++ news.toArray ++ Builtin.zeroCells zv.cells (cap - (l.length + m.length))).size = cap * te.size := by
    simp only [Array.size_append, List.size_toArray, size_zeroCells, g5, f2, k2, ← Nat.add_mul]
    congr 1
    omega
  obtain ⟨C', ⟨c1, cx⟩, c2, c3, c4, c5, c6⟩ := S.grow hR hW1 (cs := olds.toArray ++ news.toArray ++ Builtin.zeroCells zv.cells (cap - (l.length + m.length))) (ty := e) (lo := (l.length + m.length) * te.size) (hi := cap * te.size) (by rw [hsize]; exact Nat.le_refl _)
  refine OpOK.value hr c6 c1 cx ?_
  have hh : W1.heap.size = W.heap.size := by rcases hW1 with rfl | rfl <;> rfl
  refine VR.sl_mk (by simp) (by simpa using hcap) ?_ (fun _ h => by simp at h; exact absurd h.2 hm0) (by simp) rfl c3 (.inr ⟨W.heap.size, rfl, by rw [c4]; simp⟩)
  refine row_of_flat (flat_append (Flat.imp (fun x c h => CRel.mono c1.st h) f1) (Flat.imp (fun x c h => CRel.mono c1.st h) k1)) (by rw [← hh]; exact heap_alloc_new' W1 _) (fun i v hv => ?_) (fun o ho hV => ?_)
  · have := (List.getElem?_eq_some_iff.1 hv).1
    rw [Array.getElem?_append_left (by simpa using this)]
    simpa using hv
  · have := c5 o hV
    simp only [List.length_append, f2, k2, ← Nat.add_mul] at ho
    omega

theorem app_zero (S : Sim E V0 io0 W0 C s a W) {objs' : List Ob} {d ver : Nat} {k : Option Nat} (hR : Relin s.objs objs' d ver k) {t e by_ : Nat} {te : Ty} (hu : E.P.underlying t = some (.slice e)) (hel : ElOK E.toBase te e by_)
    {x y : Operand} (ho : o.op = .call { callee := .builtin .append, args := #[x, y], argTypes := #[t, t] }) {A B : Option Addr} {l : List te.den} {c c' : Nat} (hx : a.eval x = .slice A l.length c) (hy : a.eval y = .slice B 0 c')
    (hA : Row C.V W (CRel C.V W te) te.size A l) (hc : c = l.length) {z : Bool} (hz : z = true → l = [] → A = none ∧ c = 0) : OpOK E V0 io0 W0 C o s a W (.sl te ⟨z, false, some (d, ver)⟩ l) objs' := by
  obtain ⟨inf, zv, g1, _⟩ := hel.ex
  obtain ⟨C', ⟨c1, cx⟩, c2, c3, c4, c5⟩ := S.relinFull hR
  refine OpOK.value (W' := W) (x := .slice A l.length c) (run_append_call (d := d) ho ?_) c5 c1 cx ?_
  · rw [hx, hy]
    exact run_append_zero W t o.type e inf hu g1 A B l.length c c' (by omega)
  · exact VR.sl_mk rfl (by omega) (row_mono c1 hA) hz (by simp) rfl c3 (.inl hc)

theorem room_nat {n m b : Nat} (h : roomy n m b = true) : (n + m) * b ≤ 70368744177664 := by
  unfold roomy at h
  exact Nat.le_of_ble_eq_true h

theorem op_append (hX : CtxOK E X) (S : Sim E V0 io0 W0 C s a W) {x y : Operand} {t d : Nat} {v : AV} {obs : List Ob} (ho : o.op = .call { callee := .builtin .append, args := #[x, y], argTypes := #[t, t] }) (hd : d < s.objs.length)
    (h : appAV X.T s t d (evO X s t x) (evO X s t y) = some (true, v, obs)) : OpOK E V0 io0 W0 C o s a W v obs := by
  have hxv := S.evO hX t x
  have hyv := S.evO hX t y
  unfold appAV at h
  split at h
  · rename_i te f l te' f' m hx hy
    split at h
    · rename_i e
      subst e
      split at h
      · rename_i e te0 by_ he
        split at h
        · rename_i e0
          subst e0
          obtain ⟨hu, hel⟩ := look_el hX.T he
          rw [hx] at hxv
          rw [hy] at hyv
          obtain ⟨A, c, ev, hr⟩ := hxv.sl_inv
          obtain ⟨B, c', ev', hr'⟩ := hyv.sl_inv
          obtain ⟨q1, q2, q3, q4, q5⟩ := rel_row hr
          obtain ⟨p1, p2, p3, p4, p5⟩ := rel_row hr'
          have hpos := hel.pos
          split at h
          · cases h
          · cases h
          · rename_i hob1 hob2
            split at h
            · rename_i k u hfo
              split at h
              · rename_i cu hk
                split at h
                · rename_i hu'
                  subst hu'
                  simp only [Option.some.injEq, Prod.mk.injEq] at h
                  obtain ⟨hroom, rfl, rfl⟩ := h
                  have hk' := St.objs_lt hk (by simp)
                  have hR := relin_mk2 hd rfl (fun v => hob1 v) (fun a b m => hob2 a b m) hk'
                  have hlv : C.lv k = some (u, true) := (S.ln k u true).2 hk'
                  obtain ⟨cu', al, w1, w2, w3⟩ := q5 k u hfo
                  rw [hlv] at w1
                  cases w1
                  have w3 := w3 rfl rfl
                  have hb : (l.length + m.length) * by_ ≤ 70368744177664 := room_nat hroom
                  have hAn : A = none → c = 0 := fun hA => by
                    rcases w3 with w3 | ⟨b, w3, _⟩
                    · rw [w3]
                      cases l with
                      | nil => rfl
                      | cons x0 l => obtain ⟨_, _, h, _⟩ := q2 0 x0 rfl; rw [hA] at h; cases h
                    · rw [hA] at w3; cases w3
                  by_cases hc : c < l.length + m.length
                  · exact app_grow S hR hu hel ho ev ev' q2 p2 hAn hc q1 hb _
                  · by_cases hm : m = []
                    · subst hm
                      by_cases hcl : c = l.length
                      · have := app_zero S hR hu hel ho ev ev' q2 hcl q3
                        simpa using this
                      · rcases w3 with w3 | ⟨b, w3, w4⟩
                        · exact absurd w3 hcl
                        · -- nothing is written; the room stays
                          have hlt : l.length * e.size < c * e.size := Nat.mul_lt_mul_of_pos_right (by omega) hpos
                          obtain ⟨k1, k2, k3, cs, ty, k4, k5⟩ := S.tl k u b _ _ _ hlv w4 (Nat.le_refl _) hlt
                          obtain ⟨C', ⟨c1, cx⟩, c2, c3, c4, c5, c6⟩ := S.inPlace hR hlv w4 (Nat.le_refl _) (Nat.le_of_lt hlt) (cs' := cs) k4 rfl k2 (fun _ _ => rfl) k5 (fun _ => k3) (fun h => absurd h (Nat.lt_irrefl _))
                          rw [setRow_self W b cs ty (0, 0) k4] at c1 c6 cx
                          obtain ⟨inf, zv, g1, _⟩ := hel.ex
                          refine OpOK.value (W' := W) (x := .slice A l.length c) (run_append_call (d := d) ho ?_) c6 c1 cx ?_
                          · rw [ev, ev']
                            exact run_append_zero W t o.type te0 inf hu g1 A B l.length c c' (by omega)
                          · simp only [List.append_nil]
                            exact VR.sl_mk rfl (by omega) (row_mono c1 q2) q3 (by simp) rfl c3 (.inr ⟨b, w3, c4⟩)
                    · have hml : 0 < m.length := List.length_pos_iff.2 hm
                      rcases w3 with w3 | ⟨b, w3, w4⟩
                      · omega
                      · have hlt : l.length * e.size < c * e.size := Nat.mul_lt_mul_of_pos_right (by omega) hpos
                        obtain ⟨k1, k2, k3, cs, ty, k4, k5⟩ := S.tl k u b _ _ _ hlv w4 (Nat.le_refl _) hlt
                        obtain ⟨olds, f1, f2, f3⟩ := row_flat q2
                        obtain ⟨news, r1, r2, r3⟩ := row_flat p2
                        obtain ⟨ad, hBa⟩ : ∃ ad, B = some ad := by
                          cases m with
                          | nil => exact absurd rfl hm
                          | cons y0 m =>
                            obtain ⟨ad, _, h, _⟩ := p2 0 y0 rfl
                            exact ⟨ad, h⟩
                        obtain ⟨inf, zv, g1, g2, _⟩ := hel.ex
                        have hmid : (l.length + m.length) * e.size ≤ c * e.size := Nat.mul_le_mul_right _ (by omega)
                        have hlen : l.length * e.size + news.length = (l.length + m.length) * e.size := by rw [r2, Nat.add_mul]
                        have hfit : l.length * e.size + news.length ≤ cs.size := by omega
                        have hrun := run_append_room' (P := E.P) W t o.type te0 inf hu g1 b l.length c cs ty k4 ad m.length c' news (by rw [r2, g2]) (fun j v hv => (r3 ad hBa j v hv).1) (flat_one r1) (by omega) (by rw [g2]; exact hfit)
                        rw [g2] at hrun
                        have hsz : (cs.toList.take (l.length * e.size) ++ news ++ cs.toList.drop (l.length * e.size + news.length)).toArray.size = cs.size := by
                          simp
                          omega
                        have hget : ∀ o : Nat, (cs.toList.take (l.length * e.size) ++ news ++ cs.toList.drop (l.length * e.size + news.length)).toArray[o]? =
                            if o < l.length * e.size then cs[o]? else if o < l.length * e.size + news.length then news[o - l.length * e.size]? else cs[o]? := fun o => by
                          have hA1 : (cs.toList.take (l.length * e.size)).length = l.length * e.size := by simp; omega
                          simp only [List.getElem?_toArray]
                          by_cases h1 : o < l.length * e.size
                          · rw [if_pos h1, List.append_assoc, List.getElem?_append_left (by rw [hA1]; exact h1), List.getElem?_take, if_pos h1]
                            simp
                          · rw [if_neg h1]
                            by_cases h2 : o < l.length * e.size + news.length
                            · rw [if_pos h2, List.append_assoc, List.getElem?_append_right (by rw [hA1]; omega), hA1, List.getElem?_append_left (by omega)]
                            · rw [if_neg h2, List.getElem?_append_right (by simp [hA1]; omega), List.getElem?_drop]
                              simp only [List.length_append, hA1]
                              rw [show l.length * e.size + news.length + (o - (l.length * e.size + news.length)) = o by omega]
                              simp
                        obtain ⟨C', ⟨c1, cx⟩, c2, c3, c4, c5, c6⟩ := S.inPlace hR hlv w4 (mid := (l.length + m.length) * e.size) (Nat.mul_le_mul_right _ (by omega)) hmid k4 hsz k2
                          (fun o ho => by
                            rw [hget]
                            by_cases h1 : o < l.length * e.size
                            · rw [if_pos h1]
                            · rw [if_neg h1, if_neg (by omega)]) k5 (fun _ => k3) (fun _ o h1 h2 => (S.tl k u b _ _ o hlv w4 h1 h2).1)
                        refine OpOK.value (x := .slice (some ⟨b, 0, none⟩) (l.length + m.length) c) (run_append_call (d := d) ho ?_) c6 c1 cx ?_
                        · rw [ev, ev', w3, hBa]
                          exact hrun
                        · refine VR.sl_mk (by simp) (by simp; omega) ?_ (fun _ h => by simp at h; exact absurd h.2 hm) (by simp) rfl c3 (.inr ⟨b, rfl, by rw [c4]; simp⟩)
                          refine row_of_flat (flat_append (Flat.imp (fun x c h => CRel.mono c1.st h) f1) (Flat.imp (fun x c h => CRel.mono c1.st h) r1)) (setRow_heap W b cs _ ty _ k4) (fun i v hv => ?_) (fun o ho hV => ?_)
                          · rw [hget]
                            rw [List.getElem?_append] at hv
                            split at hv
                            · rename_i h1
                              rw [if_pos (by omega)]
                              have := (f3 _ w3 i v hv).1
                              have ha : (⟨b, 0, none⟩ : Addr).add i = ⟨b, i, none⟩ := by unfold Addr.add; split <;> simp_all
                              rw [ha] at this
                              simpa [World.cell?, k4] using this
                            · rename_i h1
                              have h2 := (List.getElem?_eq_some_iff.1 hv).1
                              rw [if_neg (by omega), if_pos (by omega), ← f2]
                              exact hv
                          · simp only [List.length_append, f2, r2, ← Nat.add_mul] at ho
                            by_cases h1 : o < l.length * e.size
                            · have h2 : o < olds.length := by omega
                              have := (f3 _ w3 o _ (List.getElem?_eq_getElem h2)).2
                              simp only [Nat.zero_add] at this
                              have hlt := (Array.getElem?_eq_some_iff.1 k4).1
                              exact this (c1.st.vol b o hlt hV)
                            · exact c5 o (by omega) ho hV
                · cases h
              · cases h
            · rename_i hfo
              simp only [Option.some.injEq, Prod.mk.injEq, Bool.and_eq_true] at h
              obtain ⟨⟨htg, hroom⟩, rfl, rfl⟩ := h
              have hR := relin_mk hd rfl (fun v => hob1 v) (fun a b m => hob2 a b m)
              have hc := q4 htg
              have hb : (l.length + m.length) * by_ ≤ 70368744177664 := room_nat hroom
              by_cases hm : m = []
              · subst hm
                have := app_zero S hR hu hel ho ev ev' q2 hc q3
                simpa using this
              · have hml : 0 < m.length := List.length_pos_iff.2 hm
                refine app_grow S hR hu hel ho ev ev' q2 p2 (fun hA => ?_) (by omega) q1 hb _
                rw [hc]
                cases l with
                | nil => rfl
                | cons x0 l => obtain ⟨_, _, h, _⟩ := q2 0 x0 rfl; rw [hA] at h; cases h
        · cases h
      · cases h
    · cases h
  · cases h

end Ev
end Go.Proofs.YtidnikjkpbmhhaaDoor
/- Literals, make, calls, operators. -/
set_option linter.unusedVariables false
namespace Go.Proofs.YtidnikjkpbmhhaaDoor
namespace Ev

variable {E : Env} {V0 : Nat → Nat → Prop} {io0 : Io} {W0 : World} {C : Cx} {s : St} {a : Act} {W : World} {X : Ctx} {o : Oper}

inductive All2 {α β : Type} (R : α → β → Prop) : List α → List β → Prop where
  | nil : All2 R [] []
  | cons {x : α} {y : β} {l : List α} {m : List β} : R x y → All2 R l m → All2 R (x :: l) (y :: m)

theorem foldl_set (off : Nat) : ∀ (vs : List Value) (k : Nat) (cs : Array Value), off + k + vs.length ≤ cs.size →
    ((vs.zipIdx k).foldl (fun cs x => cs.setIfInBounds (off + x.2) x.1) cs).toList = cs.toList.take (off + k) ++ vs ++ cs.toList.drop (off + k + vs.length)
  | [], k, cs, h => by simp
  | v :: vs, k, cs, h => by
    simp only [List.length_cons] at h
    rw [List.zipIdx_cons, List.foldl_cons, foldl_set off vs (k + 1) _ (by simp; omega)]
    have := list_seg_step cs.toList (off + k) v vs (by simp; omega)
    simpa [Array.toList_setIfInBounds, Nat.add_assoc, Nat.add_comm, Nat.add_left_comm] using this

theorem fill_cons {place : Nat → Option (Nat × Nat)} {cells : Array Value} {i off sz : Nat} {v : Value} {rest : List (Nat × Value)} {ds : List Value} (hp : place i = some (off, sz)) (hv : v.cells = ds.toArray) (hs : ds.length = sz) (hf : off + sz ≤ cells.size) :
    Instr.fill place cells ((i, v) :: rest) = Instr.fill place (cells.toList.take off ++ ds ++ cells.toList.drop (off + sz)).toArray rest := by
  have h1 : ¬ (v.cells.size ≠ sz ∨ off + v.cells.size > cells.size) := by
    rw [hv]
    simp
    omega
  rw [Instr.fill]
  simp only [hp]
  rw [if_neg (by simpa using h1)]
  congr 1
  apply Array.ext'
  rw [hv, ← Array.foldl_toList, Array.toList_zipIdx]
  have := foldl_set off ds 0 cells (by omega)
  simp only [Nat.add_zero] at this
  rw [hs] at this
  simpa using this

/-- Parts of a struct literal. -/
theorem setAll_rel (hT : TblOK E.toBase X.T) {i : Ti} {t : Nat} (hi : TiOK E.toBase t i) (hn : i.ar = none) {pl : List (Nat × Nat)}
    (hpl : ∀ (f off ft : Nat), i.flds[f]? = some (off, ft) → ∃ inf, E.P.info? ft = some inf ∧ pl[f]? = some (off, inf.size)) :
    ∀ (parts : List (Nat × AV)) (vals : List (Nat × Value)) (l l' : List AV) (cs : List Value), RelL E.TR C W l cs → setAll X.T i.flds l parts = some l' → All2 (fun x y => x.1 = y.1 ∧ VR E.TR C W x.2 y.2) parts vals →
      ∃ cs', Instr.fill (pl.toArray[·]?) cs.toArray vals = some cs'.toArray ∧ RelL E.TR C W l' cs'
  | [], _, l, l', cs, hr, h, hv => by
    cases hv
    simp only [setAll] at h
    cases h
    exact ⟨cs, rfl, hr⟩
  | (j, v) :: parts, _, l, l', cs, hr, h, hv => by
    cases hv with
    | @cons _ y _ vals hv1 hv2 =>
    obtain ⟨j', x⟩ := y
    obtain ⟨e0, hx⟩ := hv1
    replace e0 : j = j' := e0
    replace hx : VR E.TR C W v x := hx
    subst e0
    simp only [setAll] at h
    split at h
    · rename_i u off ft hu hf
      split at h
      · rename_i fi hfi
        split at h
        · rename_i hc
          obtain ⟨h1, h2, h3, h4⟩ := hc
          obtain ⟨inf, g1, g2⟩ := hpl j off ft hf
          obtain ⟨inf', g3, g4⟩ := (hT ft fi hfi).sz
          rw [g1] at g3
          cases g3
          rcases hx with hx | ⟨ds, hl, hd, hx⟩
          · subst hx
            simp [clean] at h4
          · have hcl := mkV_cells E.hT h4 hd
            obtain ⟨A, c, B, q1, q2, q3, q4⟩ := relL_split hr j u hu
            obtain ⟨q5, q6⟩ := q4 v ds h1.symm hd
            have hcl' := q3.len
            obtain ⟨cs', r1, r2⟩ := setAll_rel hT hi hn hpl parts vals (l.set j v) l' (A ++ ds ++ B) q5 h hv2
            refine ⟨cs', ?_, r2⟩
            rw [fill_cons (off := off) (sz := inf.size) (ds := ds) (by simpa using g2) (by rw [hx]; exact hcl) (by omega) (by rw [q1]; simp; omega)]
            rw [← r1]
            congr 2
            have e1 : off = A.length := by omega
            have e2 : inf.size = c.length := by omega
            rw [q1, e1, e2]
            simp [List.drop_append]
        · cases h
      · cases h
    · cases h

theorem forall2_map {α β γ : Type} {R : β → γ → Prop} (f : α → β) (g : α → γ) : ∀ (l : List α), (∀ x, R (f x) (g x)) → All2 R (l.map f) (l.map g)
  | [], _ => .nil
  | x :: l, h => .cons (h x) (forall2_map f g l h)

theorem op_build (hX : CtxOK E X) (S : Sim E V0 io0 W0 C s a W) {t : Nat} {parts : Array (Nat × Operand)} {i : Ti} {z l : List AV} (ho : o.op = .build t parts) (hi : look X.T t = some i) (hz : i.zero = some (.agg z)) (hn : i.ar = none)
    (hf : i.flds ≠ []) (h : setAll X.T i.flds z (parts.toList.map fun y => (y.1, evO X s (fieldT i.flds y.1) y.2)) = some l) : OpOK E V0 io0 W0 C o s a W (.agg l) s.objs := by
  have hti := hX.T t i hi
  obtain ⟨inf, v, h1, h2, h3, h4, hcz, h5⟩ := hti.zero _ hz
  obtain ⟨cs, q1, q2, q3⟩ := h5 C W
  obtain ⟨fs, pl, w1, w2, w3⟩ := hti.bld hn hf
  simp only [Rel] at q2
  obtain ⟨cs', r1, r2⟩ := setAll_rel hX.T hti hn w3 _ (parts.toList.map fun y => (y.1, a.eval y.2)) z l cs q2 h (forall2_map _ _ _ fun x => ⟨rfl, S.evO hX _ _⟩)
  refine OpOK.pure S (x := .agg cs'.toArray) ?_ (.inr ⟨cs', (show Rel E.TR C W (.agg l) cs' by simp only [Rel]; exact r2).len, by simp only [Rel]; exact r2, rfl⟩)
  unfold execOp
  rw [ho]
  refine run_v ?_
  refine run_build W t _ _ ?_
  unfold Program.built
  have e : v.cells = cs.toArray := by rw [q3]; simp [mkV, isAg, Value.cells]
  simp only [h1, w1, h2, w2, e]
  rw [← r1]
  congr 1
  simp

/-- All places of an array or slice, one behind the other. -/
theorem decAll_rel {te : Ty} {pre : List Value} : ∀ (parts : List (Nat × AV)) (vals : List (Nat × Value)) (k : Nat) (l : List te.den) (cells : Array Value), decAll te k parts = some l → All2 (fun x y => x.1 = y.1 ∧ VR E.TR C W x.2 y.2) parts vals →
    (k + l.length) * te.size ≤ cells.size → ∃ ds, Flat (CRel C.V W te) l ds ∧ Instr.fill (fun i => some (i * te.size, te.size)) cells vals = some (cells.toList.take (k * te.size) ++ ds ++ cells.toList.drop ((k + l.length) * te.size)).toArray
  | [], _, k, l, cells, h, hv, hs => by
    cases hv
    simp only [decAll] at h
    cases h
    refine ⟨[], rfl, ?_⟩
    simp [Instr.fill]
  | (j, v) :: parts, _, k, l, cells, h, hv, hs => by
    cases hv with
    | @cons _ y _ vals hv1 hv2 =>
    obtain ⟨j', x⟩ := y
    obtain ⟨e0, hx⟩ := hv1
    replace e0 : j = j' := e0
    replace hx : VR E.TR C W v x := hx
    subst e0
    simp only [decAll] at h
    split at h
    · rename_i hj
      subst hj
      split at h
      · rename_i d r hd hr
        cases h
        have hx' : ∃ cx, CRel C.V W te d cx ∧ x.cells = cx.toArray := by
          rcases hx with hx | ⟨cx, hl, hx, e⟩
          · subst hx
            cases te <;> simp [dec] at hd
          · have hc := dec_rel hd hx
            refine ⟨cx, hc, ?_⟩
            rw [e]
            unfold mkV
            cases ha : isAg v with
            | true => simp [Value.cells]
            | false =>
              have hl1 := hx.len
              rw [size_one ha] at hl1
              match cx, hl1, hc with
              | [u], _, hc =>
                have := crel_one hc u (by simp)
                cases u <;> simp_all [Value.cells, Value.oneCell']
        obtain ⟨cx, hc, hxc⟩ := hx'
        have hcl := CRel.length hc
        simp only [List.length_cons] at hs
        have e1 : j * te.size + te.size = (j + 1) * te.size := by rw [Nat.add_mul, Nat.one_mul]
        have e2 : (j + (r.length + 1)) * te.size = (j + 1) * te.size + r.length * te.size := by rw [← Nat.add_mul]; congr 1; omega
        have hsz : (cells.toList.take (j * te.size) ++ cx ++ cells.toList.drop (j * te.size + te.size)).toArray.size = cells.size := by
          simp
          omega
        obtain ⟨ds, q1, q2⟩ := decAll_rel (pre := pre) parts vals (j + 1) r (cells.toList.take (j * te.size) ++ cx ++ cells.toList.drop (j * te.size + te.size)).toArray hr hv2 (by rw [hsz, Nat.add_mul]; omega)
        refine ⟨cx ++ ds, ⟨cx, ds, rfl, hc, q1⟩, ?_⟩
        rw [fill_cons (off := j * te.size) (sz := te.size) (ds := cx) rfl hxc hcl (by omega), q2]
        congr 2
        have hA : (cells.toList.take (j * te.size)).length = j * te.size := by simp; omega
        have t1 : (cells.toList.take (j * te.size) ++ cx ++ cells.toList.drop (j * te.size + te.size)).take ((j + 1) * te.size) = cells.toList.take (j * te.size) ++ cx := by
          rw [List.take_append_of_le_length (by simp [hcl]; omega), List.take_of_length_le (by simp [hcl]; omega)]
        have t2 : (cells.toList.take (j * te.size) ++ cx ++ cells.toList.drop (j * te.size + te.size)).drop ((j + 1 + r.length) * te.size) = cells.toList.drop ((j + (r.length + 1)) * te.size) := by
          have hAB : (cells.toList.take (j * te.size) ++ cx).length = (j + 1) * te.size := by simp [hcl]; omega
          have e3 : (j + 1 + r.length) * te.size = (cells.toList.take (j * te.size) ++ cx).length + r.length * te.size := by rw [hAB, ← Nat.add_mul]
          rw [e3, List.drop_length_add_append, List.drop_drop]
          congr 1
          rw [e2]
          omega
        simp only [List.length_cons] at *
        rw [t1, t2]
        simp
      · cases h
    · cases h

theorem op_buildArr (hX : CtxOK E X) (S : Sim E V0 io0 W0 C s a W) {t n tid : Nat} {te te' : Ty} {m : Nat} {xs : List te'.den} {parts : Array (Nat × Operand)} {i : Ti} {l : List te.den} (ho : o.op = .build t parts) (hi : look X.T t = some i) (hz : i.zero = some (.arr te' m xs)) (hn : i.ar = some (n, te, tid))
    (h : decAll te 0 (parts.toList.map fun y => (y.1, evO X s tid y.2)) = some l) (hl : l.length = n) (hsz : i.sz = n * te.size) : OpOK E V0 io0 W0 C o s a W (.arr te n l) s.objs := by
  have hti := hX.T t i hi
  obtain ⟨inf, v, h1, h2, h3, h4, hcz, h5⟩ := hti.zero _ hz
  obtain ⟨cs, q1, q2, q3⟩ := h5 C W
  obtain ⟨ie, d, w1, w2, w3, w4, w5⟩ := hti.ar n te tid hn
  have hcs : cs.length = n * te.size := by rw [q1, h3, hsz]
  obtain ⟨ds, r1, r2⟩ := decAll_rel (E := E) (C := C) (W := W) (pre := []) _ (parts.toList.map fun y => (y.1, a.eval y.2)) 0 l cs.toArray h (forall2_map _ _ _ fun x => ⟨rfl, S.evO hX _ _⟩) (by simp [hl, hcs])
  have e : v.cells = cs.toArray := by rw [q3]; simp [mkV, isAg, Value.cells]
  have hr : Rel E.TR C W (.arr te n l) ds := by simp only [Rel]; exact ⟨hl, r1⟩
  refine OpOK.pure S (x := .agg ds.toArray) ?_ (.inr ⟨ds, hr.len, hr, rfl⟩)
  unfold execOp
  rw [ho]
  refine run_v ?_
  refine run_build W t _ _ ?_
  unfold Program.built
  simp only [h1, w1, h2, w2, e, w3]
  have : (cs.toArray.toList.take (0 * te.size) ++ ds ++ cs.toArray.toList.drop ((0 + l.length) * te.size)) = ds := by
    simp [hl, ← hcs]
  rw [this] at r2
  rw [← r2]
  congr 1
  simp

theorem op_buildSlice (hX : CtxOK E X) (S : Sim E V0 io0 W0 C s a W) {t len e by_ : Nat} {te : Ty} {parts : Array (Nat × Operand)} {l : List te.den} (ho : o.op = .buildSlice t len parts) (he : elOf X.T t = some (te, e, by_))
    (h : decAll te 0 (parts.toList.map fun y => (y.1, evO X s e y.2)) = some l) (hl : l.length = len) (hl1 : len ≤ 1000) (hs1 : te.size ≤ 1000) (z : Bool) (hz : z = true → len ≠ 0) : OpOK E V0 io0 W0 C o s a W (.sl te ⟨z, true, none⟩ l) s.objs := by
  obtain ⟨hu, hel⟩ := look_el hX.T he
  obtain ⟨inf, zv, g1, g2, g3, g4, g5, g6⟩ := hel.ex
  have hpos := hel.pos
  have hprod : len * te.size ≤ 1000 * 1000 := Nat.mul_le_mul hl1 hs1
  let cells0 : Array Value := if len * te.size = 0 then (Array.range (len * te.size)).map ((#[] : Array Value)[· % (#[] : Array Value).size]!) else (Array.range (len * te.size)).map (zv.cells[· % zv.cells.size]!)
  have hc0 : cells0.size = len * te.size := by simp only [cells0]; split <;> simp
  obtain ⟨ds, r1, r2⟩ := decAll_rel (E := E) (C := C) (W := W) (pre := []) _ (parts.toList.map fun y => (y.1, a.eval y.2)) 0 l cells0 h (forall2_map _ _ _ fun x => ⟨rfl, S.evO hX _ _⟩) (by rw [hc0, hl]; simp)
  have hds := Flat.length (fun x c h => CRel.length h) r1
  have e1 : (cells0.toList.take (0 * te.size) ++ ds ++ cells0.toList.drop ((0 + l.length) * te.size)) = ds := by
    rw [List.drop_of_length_le (by simp [hc0, hl])]
    simp
  rw [e1] at r2
  obtain ⟨c1, c2⟩ := S.keep (Keep.alloc C.io W (.cells ds.toArray e)) (S.iok.alloc _)
  have hrun : (execOp a.eval o).run E.P W = .ok (.value (.slice (some ⟨W.heap.size, 0, none⟩) len len)) (W.alloc (.cells ds.toArray e)) := by
    unfold execOp
    rw [ho]
    refine run_v ?_
    have hpe : (parts.map fun (i, x) => (i, a.eval x)).toList = parts.toList.map fun y => (y.1, a.eval y.2) := by simp
    by_cases hlen : len = 0
    · have hd0 : ds = [] := List.eq_nil_of_length_eq_zero (by rw [hds, hl, hlen]; simp)
      subst hlen
      have hl0 : l = [] := List.eq_nil_of_length_eq_zero hl
      subst hl0
      have hp0 : parts.toList = [] := by
        cases hp : parts.toList with
        | nil => rfl
        | cons x r =>
          rw [hp] at h
          simp only [List.map_cons, decAll] at h
          split at h
          · split at h
            · cases h
            · cases h
          · cases h
      have hp1 : parts = #[] := by apply Array.ext'; simpa using hp0
      subst hp1
      subst hd0
      simp [Instr.buildSlice, run_underlying hu, run_sizeOf' g1, Instr.fill, newRow, Array.range_zero']
    · have hne : ¬ len * inf.size = 0 := by
        rw [g2]
        have := Nat.mul_pos (Nat.pos_of_ne_zero hlen) hpos
        omega
      refine run_buildSlice W t e len _ ds.toArray inf zv hu g1 g4 (by rw [g2]; omega) hne ?_
      rw [hpe, g2, ← r2]
      simp only [cells0]
      rw [if_neg (by rw [← g2]; exact hne)]
  refine OpOK.value hrun c2 c1 ⟨(Keep.alloc C.io W _).of_noM, fun _ _ h => .inl h, fun k v b lo hi h1 h2 h3 => .inl ⟨k, v, lo, hi, h1, h2, h3⟩, fun _ _ _ h => .inl h⟩ ?_
  refine vr_sl hl.symm (by omega) ?_ (fun hzt hn => absurd (by rw [hn] at hl; exact hl.symm) (hz hzt)) (fun _ => hl.symm) rfl
  refine row_of_flat (ds := ds) (Flat.imp (fun x c h => CRel.mono c1.st h) r1) (heap_alloc_new' W _) (fun i v hv => by simpa using hv) (fun o ho hV => ?_)
  rcases S.Vn _ _ hV with h | h
  · have := S.old0 _ _ h
    have := S.kp.size
    omega
  · omega

end Ev
end Go.Proofs.YtidnikjkpbmhhaaDoor
/- make, function values, calls, operators; all operations. -/
set_option linter.unusedVariables false
namespace Go.Proofs.YtidnikjkpbmhhaaDoor
namespace Ev

variable {E : Env} {V0 : Nat → Nat → Prop} {io0 : Io} {W0 : World} {C : Cx} {s : St} {a : Act} {W : World} {X : Ctx} {o : Oper}

/-! make -/

theorem flat_zeros {t : Ty} {zl : List Value} {V : Nat → Nat → Prop} (h : CRel V W t t.dflt zl) : ∀ n : Nat, Flat (CRel V W t) (List.replicate n t.dflt) (List.replicate n zl).flatten
  | 0 => rfl
  | n + 1 => ⟨zl, _, by simp [List.replicate_succ], h, flat_zeros h n⟩

theorem getElem?_flatten_rep (zl : List Value) (hz : 0 < zl.length) : ∀ (n i : Nat), (List.replicate n zl).flatten[i]? = if i < n * zl.length then zl[i % zl.length]? else none
  | 0, i => by simp
  | n + 1, i => by
    rw [List.replicate_succ, List.flatten_cons, List.getElem?_append]
    by_cases h : i < zl.length
    · rw [if_pos h, if_pos (by rw [Nat.add_mul]; omega), Nat.mod_eq_of_lt h]
    · rw [if_neg h, getElem?_flatten_rep zl hz n]
      have e : (i - zl.length) % zl.length = i % zl.length := by
        conv => rhs; rw [← Nat.sub_add_cancel (Nat.le_of_not_lt h)]
        simp
      rw [e]
      by_cases h2 : i - zl.length < n * zl.length
      · rw [if_pos h2, if_pos (by rw [Nat.add_mul]; omega)]
      · rw [if_neg h2, if_neg (by rw [Nat.add_mul]; omega)]

theorem op_make (hX : CtxOK E X) (S : Sim E V0 io0 W0 C s a W) {t d : Nat} {x y : Operand} {v : AV} {obs : List Ob} (ho : o.op = .makeSlice t x y) (hd : d < s.objs.length) (h : mkSl X.T s t d (evO X s 0 x) (evO X s 0 y) = some (true, v, obs)) : OpOK E V0 io0 W0 C o s a W v obs := by
  have hxv := S.evO hX 0 x
  have hyv := S.evO hX 0 y
  unfold mkSl at h
  split at h
  · rename_i n c te e by_ hx hy he
    rw [hx] at hxv
    rw [hy] at hyv
    obtain ⟨hu, hel⟩ := look_el hX.T he
    obtain ⟨inf, zv, g1, g2, g3, g4, g5, g6⟩ := hel.ex
    have hpos := hel.pos
    have hbp := hel.bpos
    split at h
    · cases h
    · cases h
    · rename_i hb1 hb2
      simp only [Option.some.injEq, Prod.mk.injEq, Bool.and_eq_true] at h
      obtain ⟨⟨h0, h1, h2⟩, rfl, rfl⟩ := h
      replace h0 := of_decide_eq_true h0
      replace h1 := of_decide_eq_true h1
      replace h2 := of_decide_eq_true h2
      unfold roomFor at h2
      have hc63 : c ≤ 70368744177664 := by
        have : c * 1 ≤ c * (by_ : Int) := Int.mul_le_mul_of_nonneg_left (by omega) (by omega)
        omega
      have hR := relin_mk hd rfl (fun v => hb1 v) (fun a b m => hb2 a b m)
      have hrun : (execOp a.eval o).run E.P W = .ok (.value (.slice (some ⟨W.heap.size, 0, none⟩) n.toNat c.toNat)) (W.alloc (.cells (madeCells zv.cells (c.toNat * te.size)) e)) := by
        unfold execOp
        rw [ho]
        refine run_v ?_
        rw [hxv.int_inv, hyv.int_inv, ← g2]
        exact run_make W t e inf zv hu g1 g4 .i64 .i64 n c h0 h1 (by rw [g3, Int.mul_comm]; omega) (by omega)
      obtain ⟨C', ⟨c1, cx⟩, c2, c3, c4, c5, c6⟩ := S.grow hR (.inl rfl) (cs := madeCells zv.cells (c.toNat * te.size)) (ty := e) (lo := n.toNat * te.size) (hi := c.toNat * te.size) (by rw [size_madeCells]; exact Nat.le_refl _)
      refine OpOK.value hrun c6 c1 cx ?_
      refine VR.sl_mk (by simp) (by simp; omega) ?_ (by simp) (by simp) rfl c3 (.inr ⟨W.heap.size, rfl, by rw [c4]; simp⟩)
      have hzl : zv.cells.toList.length = te.size := by simpa using g5
      have hfl := flat_zeros (g6 C'.V (W.alloc (.cells (madeCells zv.cells (c.toNat * te.size)) e))) n.toNat
      have hnc : n.toNat * te.size ≤ c.toNat * te.size := Nat.mul_le_mul_right _ (by omega)
      refine row_of_flat hfl (heap_alloc_new' W _) (fun i v hv => ?_) (fun o ho hV => ?_)
      · rw [getElem?_flatten_rep _ (by omega)] at hv
        split at hv
        · rename_i hi
          rw [hzl] at hi hv
          have hi' : i < c.toNat * te.size := by omega
          have hm : i % te.size < te.size := Nat.mod_lt _ hpos
          have hsz : zv.cells.size = te.size := g5
          simp only [madeCells, Array.getElem?_map, Array.getElem?_range, if_pos hi', Option.map_some]
          have hlt : i % zv.cells.size < zv.cells.size := by rw [hsz]; exact hm
          rw [getElem!_pos zv.cells _ hlt]
          rw [List.getElem?_eq_getElem (by rw [hzl]; exact hm)] at hv
          rw [← hv]
          congr 1
          simp [hsz]
        · cases hv
      · have := c5 o hV
        rw [Flat.length (fun x c h => CRel.length h) hfl] at ho
        simp at ho
        omega
  · cases h

/-! function values -/

theorem relV_map (hX : CtxOK E X) (S : Sim E V0 io0 W0 C s a W) (t : Nat) : ∀ l : List Operand, RelV E.TR C W (l.map (evO X s t)) (l.map a.eval)
  | [] => by simp [RelV]
  | x :: l => by
    simp only [List.map_cons, RelV]
    exact ⟨_, _, rfl, S.evO hX t x, relV_map hX S t l⟩

theorem op_makeFunc (hX : CtxOK E X) (S : Sim E V0 io0 W0 C s a W) {f : Nat} {x y : Array Operand} (ho : o.op = .makeFunc (.func f) x y) : OpOK E V0 io0 W0 C o s a W (.fn f (x.toList.map (evO X s 0)) (y.toList.map (evO X s 0))) s.objs := by
  refine OpOK.pure S (x := .func (.func f) (x.map a.eval) (y.map a.eval)) ?_ (.inr ⟨[.func (.func f) (x.map a.eval) (y.map a.eval)], rfl, ?_, rfl⟩)
  · unfold execOp
    rw [ho]
    rfl
  · simp only [Rel]
    refine ⟨x.toList.map a.eval, y.toList.map a.eval, ?_, relV_map hX S 0 _, relV_map hX S 0 _⟩
    congr 2 <;> (apply Array.ext'; simp)

/-! max, min -/

theorem run_max (W : World) : ∀ (l : List AV) (vs : List Value) (n : Int) (r : AV), maxAV (.int n) l = some r → RelV E.TR C W l vs → ∃ m, r = .int m ∧ (vs.foldlM Builtin.max2 (.int .i64 n)).run E.P W = .ok (.int .i64 m) W
  | [], vs, n, r, h, hr => by
    simp only [maxAV] at h
    cases h
    simp only [RelV] at hr
    subst hr
    exact ⟨n, rfl, rfl⟩
  | v :: l, vs, n, r, h, hr => by
    cases v with
    | int b =>
      simp only [maxAV] at h
      simp only [RelV] at hr
      obtain ⟨x, rest, rfl, h1, h2⟩ := hr
      obtain ⟨m, rfl, h3⟩ := run_max W l rest _ _ h h2
      refine ⟨m, rfl, ?_⟩
      have : x = .int .i64 b := VR.int_inv h1
      subst this
      simp only [List.foldlM_cons, Sem.run_bind, Builtin.max2, Sem.run_pure, Result.andThen_ok]
      exact h3
    | _ => simp [maxAV] at h
theorem run_min (W : World) : ∀ (l : List AV) (vs : List Value) (n : Int) (r : AV), minAV (.int n) l = some r → RelV E.TR C W l vs → ∃ m, r = .int m ∧ (vs.foldlM Builtin.min2 (.int .i64 n)).run E.P W = .ok (.int .i64 m) W
  | [], vs, n, r, h, hr => by
    simp only [minAV] at h
    cases h
    simp only [RelV] at hr
    subst hr
    exact ⟨n, rfl, rfl⟩
  | v :: l, vs, n, r, h, hr => by
    cases v with
    | int b =>
      simp only [minAV] at h
      simp only [RelV] at hr
      obtain ⟨x, rest, rfl, h1, h2⟩ := hr
      obtain ⟨m, rfl, h3⟩ := run_min W l rest _ _ h h2
      refine ⟨m, rfl, ?_⟩
      have : x = .int .i64 b := VR.int_inv h1
      subst this
      simp only [List.foldlM_cons, Sem.run_bind, Builtin.min2, Sem.run_pure, Result.andThen_ok]
      exact h3
    | _ => simp [minAV] at h

theorem op_max (hX : CtxOK E X) (S : Sim E V0 io0 W0 C s a W) {args : Array Operand} {x : Operand} {r : List Operand} {ts : Array TypeId} {v : AV} (ho : o.op = .call { callee := .builtin .max, args, argTypes := ts }) (ha : args.toList = x :: r)
    (h : maxAV (evO X s 0 x) (r.map (evO X s 0)) = some v) : OpOK E V0 io0 W0 C o s a W v s.objs := by
  have hxv := S.evO hX 0 x
  cases hx : evO X s 0 x with
  | int n =>
    rw [hx] at h hxv
    obtain ⟨m, rfl, hm⟩ := run_max (E := E) (C := C) W _ _ n v h (relV_map hX S 0 r)
    refine OpOK.pure S (x := .int .i64 m) ?_ (vr_int _)
    unfold execOp
    rw [ho]
    simp only [Sem.run_bind, resolve, Sem.run_pure, Result.andThen_ok, invoke, builtin]
    have : (Builtin.max_ ts o.type (args.map a.eval)).run E.P W = .ok (.int .i64 m) W := by
      unfold Builtin.max_
      have e : (args.map a.eval).toList = a.eval x :: r.map a.eval := by simp [ha]
      rw [e, hxv.int_inv]
      exact hm
    simp [this]
  | _ => rw [hx] at h; cases r <;> simp [maxAV] at h

theorem op_min (hX : CtxOK E X) (S : Sim E V0 io0 W0 C s a W) {args : Array Operand} {x : Operand} {r : List Operand} {ts : Array TypeId} {v : AV} (ho : o.op = .call { callee := .builtin .min, args, argTypes := ts }) (ha : args.toList = x :: r)
    (h : minAV (evO X s 0 x) (r.map (evO X s 0)) = some v) : OpOK E V0 io0 W0 C o s a W v s.objs := by
  have hxv := S.evO hX 0 x
  cases hx : evO X s 0 x with
  | int n =>
    rw [hx] at h hxv
    obtain ⟨m, rfl, hm⟩ := run_min (E := E) (C := C) W _ _ n v h (relV_map hX S 0 r)
    refine OpOK.pure S (x := .int .i64 m) ?_ (vr_int _)
    unfold execOp
    rw [ho]
    simp only [Sem.run_bind, resolve, Sem.run_pure, Result.andThen_ok, invoke, builtin]
    have : (Builtin.min_ ts o.type (args.map a.eval)).run E.P W = .ok (.int .i64 m) W := by
      unfold Builtin.min_
      have e : (args.map a.eval).toList = a.eval x :: r.map a.eval := by simp [ha]
      rw [e, hxv.int_inv]
      exact hm
    simp [this]
  | _ => rw [hx] at h; cases r <;> simp [minAV] at h

theorem op_lenA (hX : CtxOK E X) (S : Sim E V0 io0 W0 C s a W) {x : Operand} {t m tid : Nat} {te te' : Ty} {xs : List te.den} {i : Ti} (ho : o.op = .call { callee := .builtin .len, args := #[x], argTypes := #[t] }) (hx : evO X s t x = .arr te m xs)
    (hi : look X.T t = some i) (ha : i.ar = some (m, te', tid)) : OpOK E V0 io0 W0 C o s a W (.int m) s.objs := by
  obtain ⟨inf, d, g1, _⟩ := (hX.T t i hi).ar _ _ _ ha
  refine OpOK.pure S (x := .int .i64 m) ?_ (vr_int _)
  unfold execOp
  rw [ho]
  simp only [Sem.run_bind, resolve, Sem.run_pure, Result.andThen_ok, invoke, builtin]
  have h := S.evO hX t x
  rw [hx] at h
  obtain ⟨cs, ev, _⟩ := h.arr_inv
  simp [Builtin.len_, run_underlying g1, ev, goInt]

/-! calls -/

mutual
theorem st_size : ∀ v : AV, (stAV v).size = v.size
  | .poison => rfl
  | .undef => rfl
  | .int _ => rfl
  | .bool _ => rfl
  | .agg l => by simp only [stAV, AV.size]; exact stL_size l
  | .arr .. => rfl
  | .sl .. => rfl
  | .tup _ => rfl
  | .ref .. => rfl
  | .cref .. => rfl
  | .fn .. => rfl
  | .map _ => rfl
  | .tok .. => rfl
theorem stL_size : ∀ l : List AV, sizeL (stL l) = sizeL l
  | [] => rfl
  | v :: l => by simp only [stL, sizeL, st_size v, stL_size l]
end

theorem st_isAg : ∀ v : AV, isAg (stAV v) = isAg v := fun v => by cases v <;> rfl

mutual
theorem st_rel : ∀ {v : AV} {cs : List Value}, Rel E.TR C W v cs → Rel E.TR (baseCx C.V C.io) W (stAV v) cs
  | .poison, cs, h => by simpa only [stAV, Rel] using h
  | .undef, cs, h => by simpa only [stAV, Rel] using h
  | .int _, cs, h => by simpa only [stAV, Rel] using h
  | .bool _, cs, h => by simpa only [stAV, Rel] using h
  | .agg l, cs, h => by
    simp only [stAV, Rel] at h ⊢
    exact stL_rel h
  | .arr .., cs, h => by
    simp only [stAV, Rel] at h ⊢
    exact h
  | .sl t f l, cs, h => by
    simp only [stAV, Rel] at h ⊢
    obtain ⟨A, c, h1, h2, h3, h4, h5, _⟩ := h
    exact ⟨A, c, h1, h2, h3, h4, h5, by simp⟩
  | .tup l, cs, h => by
    simp only [stAV, Rel] at h ⊢
    obtain ⟨vs, e, h⟩ := h
    exact ⟨vs, e, stV_rel h⟩
  | .ref k p, cs, h => by
    simp only [stAV, Rel] at h ⊢
    obtain ⟨b, _, _, e⟩ := h
    exact ⟨_, e⟩
  | .cref v p, cs, h => by
    simp only [stAV, Rel] at h ⊢
    obtain ⟨ad, ds, h1, h2, h3⟩ := h
    exact ⟨ad, ds, st_rel h1, h2, h3⟩
  | .fn f x y, cs, h => by
    simp only [stAV, Rel] at h ⊢
    obtain ⟨xs, ys, e, h1, h2⟩ := h
    exact ⟨xs, ys, e, stV_rel h1, stV_rel h2⟩
  | .map _, cs, h => by simp only [Rel] at h
  | .tok .., cs, h => by
    simp only [stAV, Rel] at h ⊢
    exact h
theorem stL_rel : ∀ {l : List AV} {cs : List Value}, RelL E.TR C W l cs → RelL E.TR (baseCx C.V C.io) W (stL l) cs
  | [], cs, h => by simpa only [stL, RelL] using h
  | v :: l, cs, h => by
    simp only [stL, RelL] at h ⊢
    obtain ⟨c, d, e, hl, h1, h2⟩ := h
    exact ⟨c, d, e, by rw [st_size, hl], st_rel h1, stL_rel h2⟩
theorem stV_rel : ∀ {l : List AV} {vs : List Value}, RelV E.TR C W l vs → RelV E.TR (baseCx C.V C.io) W (stL l) vs
  | [], cs, h => by simpa only [stL, RelV] using h
  | v :: l, cs, h => by
    simp only [stL, RelV] at h ⊢
    obtain ⟨x, r, e, h1, h2⟩ := h
    refine ⟨x, r, e, ?_, stV_rel h2⟩
    rcases h1 with h1 | ⟨ds, g1, g2, g3⟩
    · subst h1
      exact .inl rfl
    · exact .inr ⟨ds, by rw [st_size, g1], st_rel g2, by rw [g3]; simp [mkV, st_isAg]⟩
end

theorem relV_append {TR : TokRel} {C : Cx} : ∀ {l m : List AV} {xs ys : List Value}, RelV TR C W l xs → RelV TR C W m ys → RelV TR C W (l ++ m) (xs ++ ys)
  | [], m, xs, ys, h, k => by
    simp only [RelV] at h
    subst h
    simpa using k
  | v :: l, m, xs, ys, h, k => by
    simp only [RelV] at h
    obtain ⟨x, r, rfl, h1, h2⟩ := h
    simp only [List.cons_append, RelV]
    exact ⟨x, r ++ ys, rfl, h1, relV_append h2 k⟩

theorem relV_args (hX : CtxOK E X) (S : Sim E V0 io0 W0 C s a W) : ∀ (l : List Operand) (ts : List Nat), RelV E.TR C W (argsO X s ts l) (l.map a.eval)
  | [], ts => by cases ts <;> simp [argsO, RelV]
  | x :: l, [] => by
    simp only [argsO, List.map_cons, RelV]
    exact ⟨_, _, rfl, S.evO hX 0 x, relV_args hX S l []⟩
  | x :: l, t :: ts => by
    simp only [argsO, List.map_cons, RelV]
    exact ⟨_, _, rfl, S.evO hX t x, relV_args hX S l ts⟩

theorem op_call (hX : CtxOK E X) (S : Sim E V0 io0 W0 C s a W) {f : Operand} {fid : Nat} {args : Array Operand} {ts : Array TypeId} {first cap : List AV} {g : List AV → Option (Bool × AV)} {v : AV} (ho : o.op = .call { callee := .value f, args, argTypes := ts })
    (hf : evO X s 0 f = .fn fid first cap) (hg : findA X.C fid = some g) (h : g (stL first ++ (stL (argsO X s ts.toList args.toList) ++ stL cap)) = some (true, v)) : OpOK E V0 io0 W0 C o s a W v s.objs := by
  have hfv := S.evO hX 0 f
  rw [hf] at hfv
  obtain ⟨xs, ys, ev, h1, h2⟩ := hfv.fn_inv
  obtain ⟨hc, fn, hfn, hbody, hname⟩ := hX.C fid g hg
  have hrel := relV_append (stV_rel h1) (relV_append (stV_rel (relV_args hX S args.toList ts.toList)) (stV_rel h2))
  have hcall := hc C.V C.io W _ _ v S.base hrel h
  have hrun : (execOp a.eval o).run E.P W = .ok (.enter fid (xs ++ (args.toList.map a.eval ++ ys)).toArray) W := by
    unfold execOp
    rw [ho]
    simp only [Sem.run_bind, resolve, ev, Deferred.ofValue, Sem.run_pure, Result.andThen_ok, invoke, callFunc, run_program, hfn, hbody, hname, Bool.false_eq_true, if_false]
    congr 2
    apply Array.ext'
    simp
  intro ro next Q hn
  refine ⟨fun _ _ => trivial, ?_⟩
  rw [semAt_fr _ hrun (fun _ h => nomatch h), hrun, Oper.uponIn_enter]
  refine ⟨(fun h => nomatch h), CallsIn.mono (callsIn_fr hcall) ?_⟩
  rintro e W' ⟨x, io', rfl, hv, hk, hio⟩
  obtain ⟨c1, c2⟩ := S.keep hk hio
  refine hn { C with io := io' } _ _ ?_ c1 (fmA_put _ _ _) ⟨hk.of_noM, fun _ _ h => .inl h, fun k v b lo hi h1 h2 h3 => .inl ⟨k, v, lo, hi, h1, h2, h3⟩, fun _ _ _ h => .inl h⟩
  rw [put_objs]
  exact c2.put o.dst (VR.mono E.hT (CxLe.ofBase { C with io := io' } rfl rfl) hv)

/-- A value that is called, and tells others something. -/
theorem op_tcall (hX : CtxOK E X) (S : Sim E V0 io0 W0 C s a W) {f : Operand} {i x y : Nat} {t : Ty} {d : t.den} {args : Array Operand} {ts : Array TypeId} {g : List AV → (t : Ty) → t.den → List AV → Option (Bool × AV × List AV)} {v : AV} {tr m : List AV}
    (ho : o.op = .call { callee := .value f, args, argTypes := ts }) (hf : evO X s 0 f = .tok i t d) (hg : findA X.K i = some g) (hl : s.objs.getD (s.objs.length - 1) .none = .map x y tr) (h : g tr t d (stL (argsO X s ts.toList args.toList)) = some (true, v, m)) :
    OpOK E V0 io0 W0 C o s a W v (s.objs.set (s.objs.length - 1) (.map x y (tr ++ m))) := by
  have hfv := S.evO hX 0 f
  rw [hf] at hfv
  have htr : E.TR i t d C.V C.io W (a.eval f) := by
    rcases hfv with h | ⟨cs, _, h, h2⟩
    · cases h
    · simp only [Rel] at h
      obtain ⟨b, rfl, h⟩ := h
      rw [h2, mkV_one rfl]
      exact h
  have hlt : s.objs.length - 1 < s.objs.length ∧ s.objs[s.objs.length - 1]? = some (.map x y tr) := by
    cases hq : s.objs[s.objs.length - 1]? with
    | none => simp [List.getD, hq] at hl
    | some q =>
      simp [List.getD, hq] at hl
      subst hl
      exact ⟨(List.getElem?_eq_some_iff.1 hq).1, rfl⟩
  have hrel := stV_rel (relV_args hX S args.toList ts.toList)
  have hgo := hX.K i g hg C.V C.io W tr t d (a.eval f) _ _ v m S.base (Nat.le_trans S.n0 S.kp.size) (fun b hb => ⟨(S.hM b hb).1, fun o => S.V0V b o ((S.hM b hb).2 o)⟩) (S.gh _ x y tr (by omega) hlt.2) htr hrel h
  have fin : ∀ (ro : Option Nat) (next : Act → World → Prop) (y' : Value) (W' : World), (∀ C' a' W', Sim E V0 io0 W0 C' ⟨(s.put o.dst v).tmps, s.objs.set (s.objs.length - 1) (.map x y (tr ++ m))⟩ a' W' → CxLe C C' W W' → FmA o.dst a a' → Kx E.M C C' W W' → next a' W') →
      (∃ io', VR E.TR (baseCx C.V io') W' v y' ∧ Keep E.M C.io io' W W' ∧ IoOK E.MI io' W' ∧ E.J (tr ++ m) C.V io' W') → next (a.put o.dst y') W' := by
    rintro ro next y' W' hn ⟨io', hv, hk, hio, hJ⟩
    have hset : ∀ (k : Nat) (z : Ob), (∀ a b c, z ≠ .map a b c) → ((s.objs.set (s.objs.length - 1) (.map x y (tr ++ m)))[k]? = some z ↔ s.objs[k]? = some z) := fun k z hz => by
      rw [List.getElem?_set]
      by_cases e : s.objs.length - 1 = k
      · subst e
        rw [if_pos rfl, if_pos hlt.1, hlt.2]
        constructor
        · intro h; cases h; exact absurd rfl (hz _ _ _)
        · intro h; cases h; exact absurd rfl (hz _ _ _)
      · rw [if_neg e]
    obtain ⟨c1, c2⟩ := S.keepM (objs' := s.objs.set (s.objs.length - 1) (.map x y (tr ++ m))) hk hio (fun k v => hset k _ (fun _ _ _ h => nomatch h)) (fun k v al => hset k _ (fun _ _ _ h => nomatch h)) (fun k x' y' tr' hkl hk' => by
      rw [List.getElem?_set] at hk'
      by_cases e : s.objs.length - 1 = k
      · subst e
        rw [if_pos rfl, if_pos hlt.1] at hk'
        cases hk'
        exact hJ
      · rw [if_neg e] at hk'
        exact absurd (by simp at hkl; omega) e)
    refine hn { C with io := io' } _ _ ?_ c1 (fmA_put _ _ _) ⟨hk.weak fun _ _ h => .inl h, fun _ _ h => .inl h, fun k v b lo hi h1 h2 h3 => .inl ⟨k, v, lo, hi, h1, h2, h3⟩, fun _ _ _ h => .inl h⟩
    rw [put_objs]
    exact c2.put o.dst (VR.mono E.hT (CxLe.ofBase { C with io := io' } rfl rfl) hv)
  rcases hgo with ⟨fid, xs, ys, fn, ev, hfn, hbody, hname, hcall⟩ | ⟨l, ev, fn, tmps, assign, body, hy, hR⟩
  · have hrun : (execOp a.eval o).run E.P W = .ok (.enter fid (xs ++ (args.toList.map a.eval ++ ys)).toArray) W := by
      unfold execOp
      rw [ho]
      simp only [Sem.run_bind, resolve, ev, Deferred.ofValue, Sem.run_pure, Result.andThen_ok, invoke, callFunc, run_program, hfn, hbody, hname, Bool.false_eq_true, if_false]
      congr 2
      apply Array.ext'
      simp
    intro ro next Q hn
    refine ⟨fun _ _ => trivial, ?_⟩
    rw [semAt_fr _ hrun (fun _ h => nomatch h), hrun, Oper.uponIn_enter]
    refine ⟨(fun h => nomatch h), CallsIn.mono (callsIn_fr hcall) ?_⟩
    rintro e W' ⟨r, rfl, h⟩
    exact fin ro next r W' hn h
  · have hrun : (execOp a.eval o).run E.P W = .ok (.round l fn tmps assign body) W := by
      unfold execOp
      rw [ho]
      simp only [Sem.run_bind, resolve, ev, Deferred.ofValue, Sem.run_pure, Result.andThen_ok, invoke]
      have e : (#[] ++ args.map a.eval : Array Value) = (args.toList.map a.eval).toArray := by
        apply Array.ext'
        simp
      rw [e]
      exact hy
    intro ro next Q hn
    refine ⟨fun _ _ => trivial, ?_⟩
    rw [semAt_fr _ hrun (fun _ h => nomatch h), hrun, Oper.uponIn_round]
    refine ⟨(fun h => nomatch h), RoundIn.mono (F := Fr ro) hR ?_⟩
    rintro e W' ⟨r, rfl, h⟩
    exact fin ro next r W' hn h

/-- A value handed on. -/
theorem vr_base (S : Sim E V0 io0 W0 C s a W) {v : AV} {x : Value} (h : VR E.TR C W v x) : VR E.TR (baseCx C.V C.io) W (stAV v) x := by
  rcases h with h1 | ⟨cs, g0, g1, g2⟩
  · subst h1
    exact .inl rfl
  · exact .inr ⟨cs, by rw [st_size, g0], st_rel g1, by rw [g2]; simp only [mkV, st_isAg]⟩

theorem tok_inv {i : Nat} {t : Ty} {d : t.den} {x : Value} (h : VR E.TR C W (.tok i t d) x) : E.TR i t d C.V C.io W x := by
  rcases h with h | ⟨cs, _, h, h2⟩
  · cases h
  · simp only [Rel] at h
    obtain ⟨b, rfl, h⟩ := h
    rw [h2, mkV_one rfl]
    exact h

/-- A new map. -/
theorem op_makeMap (hX : CtxOK E X) (S : Sim E V0 io0 W0 C s a W) {t : Nat} {d : (t : Ty) × t.den} (ho : o.op = .makeMap t none) (hd : X.mkm = some d) : OpOK E V0 io0 W0 C o s a W (.tok 0 d.1 d.2) s.objs := by
  obtain ⟨h1, h2⟩ := hX.mkm d hd
  let io' : Io := fun b => if b = W.heap.size then some d else C.io b
  have hk : Keep noM C.io io' W (W.alloc (.map #[] 0)) := ⟨rfl, rfl, rfl, by simp, fun b hb _ _ => by
    show (W.heap.push _)[b]? = _
    rw [Array.getElem?_push, if_neg (by omega)], fun b hb => by simp only [io', if_neg (Nat.ne_of_lt hb)]⟩
  have hio : IoOK E.MI io' (W.alloc (.map #[] 0)) := fun b t' d' hb => by
    simp only [io'] at hb
    split at hb
    · rename_i e
      cases hb
      subst e
      exact ⟨#[], 0, heap_alloc_new' W _, h1⟩
    · obtain ⟨es, ck, g1, g2⟩ := S.iok b t' d' hb
      exact ⟨es, ck, heap_alloc_old' W _ g1, g2⟩
  obtain ⟨c1, c2⟩ := S.keep hk hio
  have hrun : (execOp a.eval o).run E.P W = .ok (.value (.map (some W.heap.size))) (W.alloc (.map #[] 0)) := by
    unfold execOp
    rw [ho]
    simp [Instr.makeMap, run_newObj_alloc]
  refine OpOK.value hrun c2 c1 ⟨hk.of_noM, fun _ _ h => .inl h, fun k v b lo hi h1 h2 h3 => .inl ⟨k, v, lo, hi, h1, h2, h3⟩, fun _ _ _ h => .inl h⟩ ?_
  exact .inr ⟨[.map (some W.heap.size)], rfl, by simp only [Rel]; exact ⟨_, rfl, h2 _ _ _ _ (by simp [io']) (by simp)⟩, rfl⟩

/-- Something is noted in a memo. -/
theorem op_mapUpdate (hX : CtxOK E X) (S : Sim E V0 io0 W0 C s a W) {t : Nat} {m k v : Operand} {u : Nat × ((t : Ty) → t.den → AV → AV → Bool)} {mt : Ty} {d : mt.den} (ho : o.op = .mapUpdate t m k v) (hu : X.up = some u) (hm : evO X s 0 m = .tok 0 mt d) (ht : u.1 = t) (h : u.2 mt d (stAV (evO X s 0 k)) (stAV (evO X s 0 v)) = true) :
    OpOK E V0 io0 W0 C o s a W .undef s.objs := by
  have hmv := S.evO hX 0 m
  rw [hm] at hmv
  subst ht
  obtain ⟨W', h1, h2, h3⟩ := hX.up u hu C.V C.io W mt d _ _ _ _ _ S.base (tok_inv hmv) (vr_base S (S.evO hX 0 k)) (vr_base S (S.evO hX 0 v)) h
  obtain ⟨c1, c2⟩ := S.keep h2 h3
  have hrun : (execOp a.eval o).run E.P W = .ok .skip W' := by
    unfold execOp
    rw [ho]
    simp [h1]
  exact OpOK.skip hrun c2 c1 ⟨h2.of_noM, fun _ _ h => .inl h, fun k v b lo hi h1 h2 h3 => .inl ⟨k, v, lo, hi, h1, h2, h3⟩, fun _ _ _ h => .inl h⟩

/-! operators -/

theorem run_binInt {op : BinOp} {t : Nat} {x y : Int} {v : AV} (h : binAV op (.int x) (.int y) = some (true, v)) : ∃ r, VR E.TR C W v r ∧ (binOp op t (.int .i64 x) (.int .i64 y)).run E.P W = .ok r W := by
  cases op <;> simp only [binAV, Option.some.injEq, Prod.mk.injEq] at h <;> try (obtain ⟨h0, rfl⟩ := h)
  · exact ⟨_, vr_int _, rfl⟩
  · exact ⟨_, vr_int _, rfl⟩
  · exact ⟨_, vr_int _, rfl⟩
  · refine ⟨_, vr_int _, ?_⟩
    have : y ≠ 0 := by simpa using h0
    simp [binOp, Op.intDiv, this, w64]
  · refine ⟨_, vr_int _, ?_⟩
    have : y ≠ 0 := by simpa using h0
    simp [binOp, Op.intDiv, this]
  all_goals first
    | (exact ⟨_, vr_bool _, rfl⟩)
    | (exact ⟨_, vr_int _, rfl⟩)
    | (refine ⟨_, vr_bool _, ?_⟩
       simp only [binOp, Op.intCmp]
       rfl)
    | (refine ⟨_, vr_bool _, ?_⟩
       simp [binOp, Op.intCmp]
       done)
    | (refine ⟨_, vr_bool _, ?_⟩
       simp [binOp, Op.intCmp]
       by_cases hxy : x = y <;> simp [hxy])
    | (refine ⟨_, vr_int _, ?_⟩
       have : ¬ y < 0 := by have := of_decide_eq_true h0; omega
       simp [binOp, Op.shift, this, w64, IntKind.bits]
       done)
    | (simp only [bitsOf] at h
       obtain ⟨_, rfl⟩ := h
       exact ⟨_, vr_int _, rfl⟩)
    | (simp only [bitsOf] at h
       simp only [Option.some.injEq, Prod.mk.injEq] at h
       obtain ⟨_, rfl⟩ := h
       exact ⟨_, vr_int _, rfl⟩)
    | (simp [bitsOf] at h)

end Ev
end Go.Proofs.YtidnikjkpbmhhaaDoor
/- Comparisons; all operations; guards and choices. -/
set_option linter.unusedVariables false
namespace Go.Proofs.YtidnikjkpbmhhaaDoor
namespace Ev

variable {E : Env} {V0 : Nat → Nat → Prop} {io0 : Io} {W0 : World} {C : Cx} {s : St} {a : Act} {W : World} {X : Ctx} {o : Oper}

theorem map_and {o : Option Bool} {a b : Bool} : (o.map (b && ·)).map (a && ·) = o.map ((a && b) && ·) := by
  cases o <;> simp [Bool.and_assoc]

mutual
theorem eqAV_vals {TR : TokRel} : ∀ {u v : AV} {r : Bool} {xs ys : List Value}, eqAV u v = some r → Rel TR C W u xs → Rel TR C W v ys → ∀ xs' ys', eqVals (xs ++ xs') (ys ++ ys') = (eqVals xs' ys').map (r && ·)
  | .int a, v, r, xs, ys, h, h1, h2, xs', ys' => by
    cases v <;> simp only [eqAV] at h <;> first | (cases h; done) | skip
    cases h
    simp only [Rel] at h1 h2
    subst h1 h2
    rfl
  | .bool a, v, r, xs, ys, h, h1, h2, xs', ys' => by
    cases v <;> simp only [eqAV] at h <;> first | (cases h; done) | skip
    cases h
    simp only [Rel] at h1 h2
    subst h1 h2
    rfl
  | .agg l, v, r, xs, ys, h, h1, h2, xs', ys' => by
    cases v <;> simp only [eqAV] at h <;> first | (cases h; done) | skip
    simp only [Rel] at h1 h2
    exact eqAL_vals h h1 h2 xs' ys'
  | .poison, v, r, xs, ys, h, h1, h2, xs', ys' => by simp [eqAV] at h
  | .undef, v, r, xs, ys, h, h1, h2, xs', ys' => by simp [eqAV] at h
  | .arr .., v, r, xs, ys, h, h1, h2, xs', ys' => by simp [eqAV] at h
  | .sl .., v, r, xs, ys, h, h1, h2, xs', ys' => by simp [eqAV] at h
  | .tup _, v, r, xs, ys, h, h1, h2, xs', ys' => by simp [eqAV] at h
  | .ref .., v, r, xs, ys, h, h1, h2, xs', ys' => by simp [eqAV] at h
  | .cref .., v, r, xs, ys, h, h1, h2, xs', ys' => by simp [eqAV] at h
  | .fn .., v, r, xs, ys, h, h1, h2, xs', ys' => by simp [eqAV] at h
  | .map _, v, r, xs, ys, h, h1, h2, xs', ys' => by simp [eqAV] at h
  | .tok .., v, r, xs, ys, h, h1, h2, xs', ys' => by simp [eqAV] at h
theorem eqAL_vals {TR : TokRel} : ∀ {l m : List AV} {r : Bool} {xs ys : List Value}, eqAL l m = some r → RelL TR C W l xs → RelL TR C W m ys → ∀ xs' ys', eqVals (xs ++ xs') (ys ++ ys') = (eqVals xs' ys').map (r && ·)
  | [], [], r, xs, ys, h, h1, h2, xs', ys' => by
    simp only [eqAL] at h
    cases h
    simp only [RelL] at h1 h2
    subst h1 h2
    simp only [List.nil_append]
    cases eqVals xs' ys' <;> simp
  | x :: l, y :: m, r, xs, ys, h, h1, h2, xs', ys' => by
    simp only [eqAL] at h
    split at h
    · rename_i p q hp hq
      cases h
      simp only [RelL] at h1 h2
      obtain ⟨c, d, rfl, _, h3, h4⟩ := h1
      obtain ⟨c', d', rfl, _, h5, h6⟩ := h2
      rw [List.append_assoc, List.append_assoc, eqAV_vals hp h3 h5, eqAL_vals hq h4 h6, map_and]
    · cases h
  | [], _ :: _, r, xs, ys, h, h1, h2, xs', ys' => by simp [eqAL] at h
  | _ :: _, [], r, xs, ys, h, h1, h2, xs', ys' => by simp [eqAL] at h
end

theorem eqInts {V : Nat → Nat → Prop} : ∀ {xs ys : List Int} {cs ds : List Value}, xs.length = ys.length → Flat (CRel V W .int) xs cs → Flat (CRel V W .int) ys ds → eqVals cs ds = some (decide (xs = ys))
  | [], [], cs, ds, _, h1, h2 => by
    have e1 : cs = [] := h1
    have e2 : ds = [] := h2
    subst e1 e2
    simp [eqVals]
  | x :: xs, y :: ys, cs, ds, hl, ⟨c, d, e, h3, h4⟩, ⟨c', d', e', h5, h6⟩ => by
    have e1 : c = [.int .i64 x] := h3
    have e2 : c' = [.int .i64 y] := h5
    subst e e' e1 e2
    simp only [List.cons_append, List.nil_append, eqVals, eqInts (by simpa using hl) h4 h6, Option.map_some, List.cons.injEq, Bool.decide_and]
  | [], _ :: _, _, _, hl, _, _ => by simp at hl
  | _ :: _, [], _, _, hl, _, _ => by simp at hl
theorem eqBools {V : Nat → Nat → Prop} : ∀ {xs ys : List Bool} {cs ds : List Value}, xs.length = ys.length → Flat (CRel V W .bool) xs cs → Flat (CRel V W .bool) ys ds → eqVals cs ds = some (decide (xs = ys))
  | [], [], cs, ds, _, h1, h2 => by
    have e1 : cs = [] := h1
    have e2 : ds = [] := h2
    subst e1 e2
    simp [eqVals]
  | x :: xs, y :: ys, cs, ds, hl, ⟨c, d, e, h3, h4⟩, ⟨c', d', e', h5, h6⟩ => by
    have e1 : c = [.bool x] := h3
    have e2 : c' = [.bool y] := h5
    subst e e' e1 e2
    simp only [List.cons_append, List.nil_append, eqVals, eqBools (by simpa using hl) h4 h6, Option.map_some, List.cons.injEq, Bool.decide_and]
    congr 2
  | [], _ :: _, _, _, hl, _, _ => by simp at hl
  | _ :: _, [], _, _, hl, _, _ => by simp at hl

theorem eqArr_vals {V : Nat → Nat → Prop} {t : Ty} {xs ys : List t.den} {cs ds : List Value} {r : Bool} (h : eqArr t xs ys = some r) (hl : xs.length = ys.length) (h1 : Flat (CRel V W t) xs cs) (h2 : Flat (CRel V W t) ys ds) : eqVals cs ds = some r := by
  cases t with
  | int =>
    simp only [eqArr] at h
    cases h
    exact eqInts hl h1 h2
  | bool =>
    simp only [eqArr] at h
    cases h
    exact eqBools hl h1 h2
  | _ => simp [eqArr] at h

theorem kindsV_append : ∀ (xs ys : List Value), kindsV (xs ++ ys) = match kindsV xs, kindsV ys with | some a, some b => some (a ++ b) | _, _ => none
  | [], ys => by
    simp only [List.nil_append, kindsV]
    cases kindsV ys <;> rfl
  | x :: xs, ys => by
    have ih := kindsV_append xs ys
    cases x with
    | int k n =>
      cases k <;> simp only [List.cons_append, kindsV] <;> first
        | rfl
        | (rw [ih]
           cases kindsV xs <;> cases kindsV ys <;> rfl)
    | bool b =>
      simp only [List.cons_append, kindsV, ih]
      cases kindsV xs <;> cases kindsV ys <;> rfl
    | _ => simp only [List.cons_append, kindsV]

theorem kinds_flat {V : Nat → Nat → Prop} : ∀ {xs : List Int} {cs : List Value}, Flat (CRel V W .int) xs cs → kindsV cs = some (List.replicate xs.length false)
  | [], cs, h => by
    have e : cs = [] := h
    subst e
    rfl
  | x :: xs, cs, ⟨c, d, e, h1, h2⟩ => by
    have e1 : c = [.int .i64 x] := h1
    subst e e1
    simp [kindsV, kinds_flat h2, List.replicate_succ]
theorem kinds_flatB {V : Nat → Nat → Prop} : ∀ {xs : List Bool} {cs : List Value}, Flat (CRel V W .bool) xs cs → kindsV cs = some (List.replicate xs.length true)
  | [], cs, h => by
    have e : cs = [] := h
    subst e
    rfl
  | x :: xs, cs, ⟨c, d, e, h1, h2⟩ => by
    have e1 : c = [.bool x] := h1
    subst e e1
    simp [kindsV, kinds_flatB h2, List.replicate_succ]

mutual
theorem kinds_rel {TR : TokRel} : ∀ {v : AV} {cs : List Value} {ks : List Bool}, kindsAV v = some ks → Rel TR C W v cs → kindsV cs = some ks
  | .int n, cs, ks, hk, h => by
    simp only [Rel] at h
    subst h
    simpa [kindsV, kindsAV] using hk
  | .bool n, cs, ks, hk, h => by
    simp only [Rel] at h
    subst h
    simpa [kindsV, kindsAV] using hk
  | .agg l, cs, ks, hk, h => by
    simp only [Rel] at h
    simp only [kindsAV] at hk
    exact kindsL_rel hk h
  | .arr t n xs, cs, ks, hk, h => by
    simp only [Rel] at h
    obtain ⟨h1, h2⟩ := h
    cases t with
    | int =>
      simp only [kindsAV, Option.some.injEq] at hk
      subst hk h1
      exact kinds_flat h2
    | bool =>
      simp only [kindsAV, Option.some.injEq] at hk
      subst hk h1
      exact kinds_flatB h2
    | _ => simp [kindsAV] at hk
  | .poison, cs, ks, hk, h => by simp [kindsAV] at hk
  | .undef, cs, ks, hk, h => by simp [kindsAV] at hk
  | .sl .., cs, ks, hk, h => by simp [kindsAV] at hk
  | .tup _, cs, ks, hk, h => by simp [kindsAV] at hk
  | .ref .., cs, ks, hk, h => by simp [kindsAV] at hk
  | .cref .., cs, ks, hk, h => by simp [kindsAV] at hk
  | .fn .., cs, ks, hk, h => by simp [kindsAV] at hk
  | .map _, cs, ks, hk, h => by simp [kindsAV] at hk
  | .tok .., cs, ks, hk, h => by simp [kindsAV] at hk
theorem kindsL_rel {TR : TokRel} : ∀ {l : List AV} {cs : List Value} {ks : List Bool}, kindsL l = some ks → RelL TR C W l cs → kindsV cs = some ks
  | [], cs, ks, hk, h => by
    simp only [RelL] at h
    subst h
    simpa [kindsV, kindsL] using hk
  | v :: l, cs, ks, hk, h => by
    simp only [RelL] at h
    obtain ⟨c, d, rfl, _, h1, h2⟩ := h
    simp only [kindsL] at hk
    split at hk
    · rename_i a b ha hb
      cases hk
      rw [kindsV_append, kinds_rel ha h1, kindsL_rel hb h2]
    · cases hk
end

theorem run_eqAgg {t : Nat} {i : Ti} (hi : TiOK E.toBase t i) (he : i.eq ≠ []) {xs ys : List Value} {r : Bool} (hx : kindsV xs = some i.eq) (hy : kindsV ys = some i.eq) (h : eqVals xs ys = some r) (x y : Operand) :
    (do eqGuard .eql t x y (.agg xs.toArray) (.agg ys.toArray); binOp .eql t (.agg xs.toArray) (.agg ys.toArray) : Sem Value).run E.P W = .ok (.bool r) W ∧
    (do eqGuard .neq t x y (.agg xs.toArray) (.agg ys.toArray); binOp .neq t (.agg xs.toArray) (.agg ys.toArray) : Sem Value).run E.P W = .ok (.bool (!r)) W := by
  obtain ⟨h1, h2⟩ := hi.eq he
  have := h2 xs ys r W hx hy h
  constructor <;> simp [eqGuard, h1, binOp, this]

theorem run_equal_bool {t : Nat} (hu : E.P.underlying t = some .bool) (n m : Bool) : (Op.equal t (.bool n) (.bool m)).run E.P W = .ok (n == m) W := by
  have : ∀ d, (Op.equalIn (d + 1) t (.bool n) (.bool m)).run E.P W = .ok (n == m) W := fun d => by
    simp only [Op.equalIn, Sem.run_bind, run_underlying hu, Result.andThen_ok, Sem.run_pure]
  exact this 9999
theorem run_equal_nil {t e : Nat} (hu : E.P.underlying t = some (.slice e)) (n c : Nat) : (Op.equal t (.slice none n c) (.slice none 0 0)).run E.P W = .ok true W := by
  have : ∀ d, (Op.equalIn (d + 1) t (.slice none n c) (.slice none 0 0)).run E.P W = .ok true W := fun d => by
    simp only [Op.equalIn, Sem.run_bind, run_underlying hu, Result.andThen_ok, Sem.run_pure, Option.isNone_none]
  exact this 9999
theorem run_equal_some {t e : Nat} (hu : E.P.underlying t = some (.slice e)) (ad : Addr) (n c : Nat) : (Op.equal t (.slice (some ad) n c) (.slice none 0 0)).run E.P W = .ok false W := by
  have : ∀ d, (Op.equalIn (d + 1) t (.slice (some ad) n c) (.slice none 0 0)).run E.P W = .ok false W := fun d => by
    simp only [Op.equalIn, Sem.run_bind, run_underlying hu, Result.andThen_ok, Sem.run_pure]
  exact this 9999

theorem eqAV_kinds {u w : AV} {r : Bool} (h : eqAV u w = some r) : (∃ n m, u = .int n ∧ w = .int m) ∨ (∃ n m, u = .bool n ∧ w = .bool m) ∨ (∃ l m, u = .agg l ∧ w = .agg m) := by
  cases u with
  | int n =>
    cases w with
    | int m => exact .inl ⟨_, _, rfl, rfl⟩
    | _ => simp [eqAV] at h
  | bool n =>
    cases w with
    | bool m => exact .inr (.inl ⟨_, _, rfl, rfl⟩)
    | _ => simp [eqAV] at h
  | agg n =>
    cases w with
    | agg m => exact .inr (.inr ⟨_, _, rfl, rfl⟩)
    | _ => simp [eqAV] at h
  | _ => simp [eqAV] at h

theorem binAV_kinds {op : BinOp} {u w : AV} {b : Bool} {v : AV} (h : binAV op u w = some (b, v)) : (∃ n m, u = .int n ∧ w = .int m) ∨ (∃ n m, u = .bool n ∧ w = .bool m) ∨ (∃ t f l t' g, u = .sl t f l ∧ w = .sl t' g []) ∨ (∃ l m, u = .agg l ∧ w = .agg m) ∨
    (∃ t n xs n' ys, u = .arr t n xs ∧ w = .arr t n' ys) := by
  unfold binAV at h
  split at h
  · exact .inl ⟨_, _, rfl, rfl⟩
  · exact .inr (.inr (.inl ⟨_, _, _, _, _, rfl, rfl⟩))
  · split at h
    · rename_i e
      subst e
      exact .inr (.inr (.inr (.inr ⟨_, _, _, _, _, rfl, rfl⟩)))
    · cases h
  · cases hq : eqAV u w with
    | none =>
      rw [hq] at h
      cases op <;> cases h
    | some r =>
      rcases eqAV_kinds hq with h | h | h
      · exact .inl h
      · exact .inr (.inl h)
      · exact .inr (.inr (.inr (.inl h)))

/-- It is enough to run it. -/
theorem op_bin_run (S : Sim E V0 io0 W0 C s a W) {op : BinOp} {t t' : Nat} {x y : Operand} {v : AV} (ho : o.op = .binOp op t x y t') {r : Value} (hr : VR E.TR C W v r)
    (hrun : (do eqGuard op t x y (a.eval x) (a.eval y); binOp op t (a.eval x) (a.eval y) : Sem Value).run E.P W = .ok r W) : OpOK E V0 io0 W0 C o s a W v s.objs := by
  refine OpOK.pure S (x := r) ?_ hr
  unfold execOp
  rw [ho]
  exact run_v hrun

theorem run_eqn {t : Nat} {x y : Operand} {u w : Value} {r : Bool} (hg : ∀ op, (eqGuard op t x y u w).run E.P W = .ok () W) (h : (Op.equal t u w).run E.P W = .ok r W) (h1 : binOp .eql t u w = (do pure (.bool (← Op.equal t u w)))) (h2 : binOp .neq t u w = (do pure (.bool (!(← Op.equal t u w))))) :
    (do eqGuard .eql t x y u w; binOp .eql t u w : Sem Value).run E.P W = .ok (.bool r) W ∧ (do eqGuard .neq t x y u w; binOp .neq t u w : Sem Value).run E.P W = .ok (.bool (!r)) W := by
  constructor
  · simp only [Sem.run_bind, hg, Result.andThen_ok, h1, h, Sem.run_pure]
  · simp only [Sem.run_bind, hg, Result.andThen_ok, h2, h, Sem.run_pure]

theorem op_bin (hX : CtxOK E X) (S : Sim E V0 io0 W0 C s a W) {op : BinOp} {t t' : Nat} {x y : Operand} {v : AV} (ho : o.op = .binOp op t x y t') (hb : binT X.T t (evO X s t x) = true) (hb2 : binT X.T t (evO X s t y) = true) (h : binAV op (evO X s t x) (evO X s t y) = some (true, v)) : OpOK E V0 io0 W0 C o s a W v s.objs := by
  have hxv := S.evO hX t x
  have hyv := S.evO hX t y
  rcases binAV_kinds h with ⟨n, m, e1, e2⟩ | ⟨n, m, e1, e2⟩ | ⟨te, f, l, te', g, e1, e2⟩ | ⟨l, m, e1, e2⟩ | ⟨te, n, xs, n', ys, e1, e2⟩
  · rw [e1, e2] at h
    rw [e1] at hxv
    rw [e2] at hyv
    obtain ⟨r, h1, h2⟩ := run_binInt (E := E) (C := C) (W := W) (t := t) h
    refine op_bin_run S ho h1 ?_
    rw [hxv.int_inv, hyv.int_inv]
    have : (eqGuard op t x y (.int .i64 n) (.int .i64 m)).run E.P W = .ok () W := by
      cases op <;> rfl
    simp only [Sem.run_bind, this, Result.andThen_ok]
    exact h2
  · rw [e1, e2] at h
    rw [e1] at hxv hb
    rw [e2] at hyv
    simp only [binT] at hb
    split at hb
    · rename_i i hi
      have hu := (hX.T t i hi).bl hb
      obtain ⟨k1, k2⟩ := run_eqn (E := E) (W := W) (x := x) (y := y) (fun op => by cases op <;> rfl) (run_equal_bool (W := W) hu n m) rfl rfl
      simp only [binAV, eqAV] at h
      cases op <;> simp only [eqRes, Option.some.injEq, Prod.mk.injEq, true_and, reduceCtorEq] at h
      · subst h
        exact op_bin_run S ho (vr_bool _) (by rw [hxv.bool_inv, hyv.bool_inv]; exact k1)
      · subst h
        exact op_bin_run S ho (vr_bool _) (by rw [hxv.bool_inv, hyv.bool_inv]; exact k2)
    · cases hb
  · rw [e1, e2] at h
    rw [e1] at hxv hb
    rw [e2] at hyv
    simp only [binT, Option.isSome_iff_exists] at hb
    obtain ⟨⟨te0, e, by_⟩, he⟩ := hb
    obtain ⟨hu, _⟩ := look_el hX.T he
    obtain ⟨A, c, ev, hr⟩ := hxv.sl_inv
    obtain ⟨B, c', ev', hr'⟩ := hyv.sl_inv
    obtain ⟨q1, q2, q3, q4, q5⟩ := rel_row hr
    obtain ⟨p1, p2, p3, p4, p5⟩ := rel_row hr'
    have run : (f.z = true ∨ (!decide (l.length = 0)) = true) → g.z = true → (Op.equal t (a.eval x) (a.eval y)).run E.P W = .ok (decide (l.length = 0)) W := by
      intro hf hg
      obtain ⟨rfl, rfl⟩ := p3 hg rfl
      rw [ev, ev']
      cases l with
      | nil =>
        obtain ⟨rfl, rfl⟩ := q3 (hf.resolve_right (by simp)) rfl
        exact run_equal_nil hu _ _
      | cons x0 l =>
        obtain ⟨ad, _, h, _⟩ := q2 0 x0 rfl
        subst h
        exact run_equal_some hu _ _ _
    simp only [binAV] at h
    have hgd : ∀ op, (eqGuard op t x y (a.eval x) (a.eval y)).run E.P W = .ok () W := fun op => by rw [ev, ev']; cases op <;> rfl
    cases op <;> simp only [Option.some.injEq, Prod.mk.injEq, Bool.and_eq_true, Bool.or_eq_true, reduceCtorEq] at h
    · obtain ⟨⟨h1, h2⟩, rfl⟩ := h
      exact op_bin_run S ho (vr_bool _) (run_eqn hgd (run h1 h2) (by rw [ev, ev']; rfl) (by rw [ev, ev']; rfl)).1
    · obtain ⟨⟨h1, h2⟩, rfl⟩ := h
      exact op_bin_run S ho (vr_bool _) (run_eqn hgd (run h1 h2) (by rw [ev, ev']; rfl) (by rw [ev, ev']; rfl)).2
  · rw [e1, e2] at h
    rw [e1] at hxv hb
    rw [e2] at hyv hb2
    simp only [binT] at hb hb2
    split at hb
    · rename_i i hi
      rw [hi] at hb2
      simp only [decide_eq_true_eq] at hb hb2
      obtain ⟨us, ev, hr⟩ := hxv.agg_inv
      obtain ⟨ws, ev', hr'⟩ := hyv.agg_inv
      simp only [binAV] at h
      cases he : eqAV (.agg l) (.agg m) with
      | none => rw [he] at h; cases op <;> cases h
      | some r =>
        rw [he] at h
        have fin : eqVals us ws = some r := by
          simp only [eqAV] at he
          have := eqAL_vals he hr hr' [] []
          simpa [eqVals] using this
        have hl1 : kindsV us = some i.eq := kinds_rel hb.2 (by simpa only [Rel] using hr)
        have hl2 : kindsV ws = some i.eq := kinds_rel hb2.2 (by simpa only [Rel] using hr')
        obtain ⟨h1, h2⟩ := run_eqAgg (W := W) (hX.T t i hi) hb.1 hl1 hl2 fin x y
        cases op <;> simp only [eqRes, Option.some.injEq, Prod.mk.injEq, true_and, reduceCtorEq] at h
        · subst h
          exact op_bin_run S ho (vr_bool _) (by rw [ev, ev']; exact h1)
        · subst h
          exact op_bin_run S ho (vr_bool _) (by rw [ev, ev']; exact h2)
    · cases hb
  · rw [e1, e2] at h
    rw [e1] at hxv hb
    rw [e2] at hyv hb2
    simp only [binT] at hb hb2
    split at hb
    · rename_i i hi
      rw [hi] at hb2
      simp only [decide_eq_true_eq] at hb hb2
      obtain ⟨us, ev, hn, hr⟩ := hxv.arr_inv
      obtain ⟨ws, ev', hn', hr'⟩ := hyv.arr_inv
      simp only [binAV, dif_pos] at h
      cases he : eqArr te xs ys with
      | none => rw [he] at h; cases op <;> cases h
      | some r =>
        rw [he] at h
        have hl1 : kindsV us = some i.eq := kinds_rel (TR := E.TR) hb.2 (by simp only [Rel]; exact ⟨hn, hr⟩)
        have hl2 : kindsV ws = some i.eq := kinds_rel (TR := E.TR) hb2.2 (by simp only [Rel]; exact ⟨hn', hr'⟩)
        cases op <;> simp only [Option.some.injEq, Prod.mk.injEq, decide_eq_true_eq, reduceCtorEq] at h
        · obtain ⟨rfl, rfl⟩ := h
          have fin := eqArr_vals he (by rw [hn, hn']) hr hr'
          exact op_bin_run S ho (vr_bool _) (by rw [ev, ev']; exact (run_eqAgg (W := W) (hX.T t i hi) hb.1 hl1 hl2 fin x y).1)
        · obtain ⟨rfl, rfl⟩ := h
          have fin := eqArr_vals he (by rw [hn, hn']) hr hr'
          exact op_bin_run S ho (vr_bool _) (by rw [ev, ev']; exact (run_eqAgg (W := W) (hX.T t i hi) hb.1 hl1 hl2 fin x y).2)
    · cases hb

end Ev
end Go.Proofs.YtidnikjkpbmhhaaDoor
/- All operations in one word; guards and choices. -/
set_option linter.unusedVariables false
namespace Go.Proofs.YtidnikjkpbmhhaaDoor
namespace Ev

variable {E : Env} {V0 : Nat → Nat → Prop} {io0 : Io} {W0 : World} {C : Cx} {s : St} {a : Act} {W : World} {X : Ctx} {o : Oper}

theorem evVal_ok (hX : CtxOK E X) (S : Sim E V0 io0 W0 C s a W) {v : AV} {obs : List Ob} (h : evVal X s o = some (true, v, obs)) : OpOK E V0 io0 W0 C o s a W v obs := by
  unfold evVal at h
  dsimp only at h
  have hq : ∀ {r : Option (Bool × AV)}, (match r with | some (b, v) => some (b, v, s.objs) | none => none) = some (true, v, obs) → r = some (true, v) ∧ obs = s.objs := fun {r} h => by
    cases r with
    | none => cases h
    | some x => obtain ⟨b, u⟩ := x; cases h; exact ⟨rfl, rfl⟩
  have hp : ∀ {r : Option AV}, (match r with | some v => some (true, v, s.objs) | none => none) = some (true, v, obs) → r = some v ∧ obs = s.objs := fun {r} h => by
    cases r with
    | none => cases h
    | some x => cases h; exact ⟨rfl, rfl⟩
  split at h
  · rename_i x ho
    cases h
    exact op_move hX S _ (.inl ho)
  · rename_i x ho
    cases h
    exact op_move hX S _ (.inr ho)
  · rename_i e ho
    split at h
    · rename_i d i hd hi
      split at h
      · rename_i z hz hn
        split at h
        · rename_i hl
          cases h
          exact op_alloc hX S ho hi hz hn hl
        · cases h
      · cases h
    · cases h
  · rename_i e x ho
    split at h
    · rename_i d hd
      split at h
      · rename_i hn
        split at h
        · rename_i hl
          cases h
          exact op_box hX S ho hl.1 hl.2.1 hn hl.2.2
        · cases h
      · cases h
    · cases h
  · rename_i t parts ho
    split at h
    · rename_i i hi
      split at h
      · rename_i z hz hn
        split at h
        · cases h
        · rename_i hf
          obtain ⟨h1, rfl⟩ := hp h
          split at h1
          · rename_i l hl
            cases h1
            exact op_build hX S ho hi hz hn (by simpa using hf) hl
          · cases h1
      · rename_i n te eid te' m xs hz hn
        obtain ⟨h1, rfl⟩ := hp h
        split at h1
        · rename_i l hl
          split at h1
          · rename_i hc
            cases h1
            exact op_buildArr hX S ho hi hz hn hl hc.1 hc.2
          · cases h1
        · cases h1
      · cases h
    · cases h
  · rename_i t len parts ho
    split at h
    · rename_i e eid by_ he
      split at h
      · rename_i l hl
        split at h
        · rename_i hc
          cases h
          exact op_buildSlice hX S ho he hl hc.1 hc.2.1 hc.2.2.1 _ (by simp)
        · cases h
      · cases h
    · cases h
  · rename_i t x ho
    obtain ⟨h1, rfl⟩ := hp h
    split at h1
    · rename_i u hu
      split at h1
      · rename_i hf
        cases h1
        exact op_load hX S ho hu hf
      · cases h1
    · cases h1
  · rename_i t x y ho
    split at h
    · rename_i k p hx
      split at h
      · rename_i u hk
        split at h
        · rename_i u' hf hs
          cases h
          simp only [Bool.and_eq_true] at hf
          exact op_store hX S ho hx hk hf.1 hf.2 hs
        · cases h
      · cases h
    · cases h
  · rename_i op t x y t' ho
    split at h
    · rename_i hb
      obtain ⟨h1, rfl⟩ := hq h
      exact op_bin hX S ho hb.1 hb.2 h1
    · cases h
  · rename_i t x ho
    obtain ⟨h1, rfl⟩ := hp h
    split at h1
    · rename_i b hx
      cases h1
      exact op_not hX S ho hx
    · cases h1
  · rename_i t x ho
    obtain ⟨h1, rfl⟩ := hp h
    split at h1
    · rename_i b hx
      cases h1
      exact op_neg hX S ho hx
    · cases h1
  · rename_i x i ho
    obtain ⟨h1, rfl⟩ := hp h
    split at h1
    · rename_i l hx
      exact op_extract hX S ho hx h1
    · cases h1
  · rename_i t x f ho
    split at h
    · rename_i i hi
      obtain ⟨h1, rfl⟩ := hp h
      split at h1
      · rename_i off ft hf
        exact op_fieldAddr hX S ho hi hf h1
      · cases h1
    · cases h
  · rename_i t x f ho
    split at h
    · rename_i i hi
      obtain ⟨h1, rfl⟩ := hp h
      split at h1
      · rename_i l off ft hx hf
        split at h1
        · rename_i u hu
          split at h1
          · rename_i hc
            cases h1
            exact op_field hX S ho hi hx hf hu hc.1 hc.2
          · cases h1
        · cases h1
      · cases h1
    · cases h
  · rename_i t x y ho
    split at h
    · rename_i te f l n hx hy
      split at h
      · rename_i te' e by_ he
        split at h
        · rename_i ee
          subst ee
          simp only [Option.some.injEq, Prod.mk.injEq, Bool.and_eq_true, decide_eq_true_eq] at h
          obtain ⟨⟨h0, h1⟩, rfl, rfl⟩ := h
          exact op_indexAddr hX S ho hx hy he h0 h1
        · cases h
      · cases h
    · rename_i n hy _
      split at h
      · rename_i ti hi
        split at h
        · rename_i m te tid ha
          split at h
          · rename_i r hr
            simp only [Option.some.injEq, Prod.mk.injEq, Bool.and_eq_true, decide_eq_true_eq] at h
            obtain ⟨⟨h0, h1⟩, rfl, rfl⟩ := h
            exact op_indexAddrA hX S ho hi ha hy hr h0 h1
          · cases h
        · cases h
      · cases h
    · cases h
  · rename_i t x y ho
    split at h
    · rename_i te m xs n ti hx hy hi
      split at h
      · rename_i m' te' tid ha
        split at h
        · rename_i ee
          obtain ⟨e1, e2⟩ := ee
          subst e1 e2
          simp only [Option.some.injEq, Prod.mk.injEq, Bool.and_eq_true, decide_eq_true_eq] at h
          obtain ⟨⟨h0, h1⟩, rfl, rfl⟩ := h
          exact op_index hX S ho hi ha hx hy h0 h1
        · cases h
      · cases h
    · cases h
  · rename_i t x lo hi mx ho
    split at h
    · rename_i te f l te' e by_ hx he
      split at h
      · rename_i ee
        subst ee
        obtain ⟨h1, rfl⟩ := hq h
        exact op_slice hX S ho hx he h1
      · cases h
    · cases h
  · rename_i f x y ho
    cases h
    exact op_makeFunc hX S ho
  · rename_i ho
    split at h
    · rename_i d hd
      cases h
      exact op_makeMap hX S ho hd
    · cases h
  · rename_i t m k v' ho
    split at h
    · rename_i u mt d hu hm
      split at h
      · rename_i hut
        simp only [Option.some.injEq, Prod.mk.injEq] at h
        obtain ⟨h1, rfl, rfl⟩ := h
        exact op_mapUpdate hX S ho hu hm hut h1
      · cases h
    · cases h
  · rename_i t n c ho
    split at h
    · rename_i d hd
      split at h
      · rename_i hl
        exact op_make hX S ho hl h
      · cases h
    · cases h
  · rename_i args ts ho
    split at h
    · rename_i x t ha ht
      have e1 : args = #[x] := Array.ext' (by simpa using ha)
      have e2 : ts = #[t] := Array.ext' (by simpa using ht)
      subst e1 e2
      split at h
      · rename_i te f l hx
        obtain ⟨h1, rfl⟩ := hp h
        split at h1
        · rename_i y he
          obtain ⟨te0, e, by_⟩ := y
          cases h1
          obtain ⟨hu, _⟩ := look_el hX.T he
          have := S.evO hX t x
          rw [hx] at this
          obtain ⟨A, c, ev, _⟩ := this.sl_inv
          refine OpOK.pure S (x := .int .i64 l.length) ?_ (vr_int _)
          unfold execOp
          rw [ho]
          simp only [Sem.run_bind, resolve, Sem.run_pure, Result.andThen_ok, invoke, builtin]
          simp [Builtin.len_, run_underlying hu, ev, goInt]
        · cases h1
      · rename_i te n xs hx
        obtain ⟨h1, rfl⟩ := hp h
        split at h1
        · rename_i i hi
          split at h1
          · rename_i m te' tid ha
            split at h1
            · rename_i ee
              subst ee
              cases h1
              exact op_lenA hX S ho hx hi ha
            · cases h1
          · cases h1
        · cases h1
      · cases h
    · cases h
  · rename_i args ts ho
    split at h
    · rename_i x r ha
      obtain ⟨h1, rfl⟩ := hp h
      exact op_max hX S ho ha h1
    · cases h
  · rename_i args ts ho
    split at h
    · rename_i x r ha
      obtain ⟨h1, rfl⟩ := hp h
      exact op_min hX S ho ha h1
    · cases h
  · rename_i args ts ho
    split at h
    · rename_i d x y t t' hd ha ht
      have e1 : args = #[x, y] := Array.ext' (by simpa using ha)
      have e2 : ts = #[t, t'] := Array.ext' (by simpa using ht)
      split at h
      · rename_i hc
        obtain ⟨e3, hl⟩ := hc
        subst e1 e2 e3
        exact op_append hX S ho hl h
      · cases h
    · cases h
  · rename_i f args ts ho
    split at h
    · rename_i fid first cap hf
      split at h
      · rename_i g hg
        obtain ⟨h1, rfl⟩ := hq h
        exact op_call hX S ho hf hg h1
      · cases h
    · rename_i i t d hf
      split at h
      · rename_i g x y tr hg hl
        split at h
        · rename_i tt u m hgm
          cases h
          exact op_tcall hX S ho hf hg hl hgm
        · cases h
      · cases h
    · cases h
  · cases h

/-! Which objects an operation turns. -/

theorem ObLe.refl (d : Option Nat) (l : List Ob) : ObLe d l l := fun _ _ => ⟨fun v h => ⟨v, h⟩, fun _ h => h⟩

theorem ObLe.set (d : Nat) (l : List Ob) (x : Ob) : ObLe (some d) l (l.set d x) := fun k hk => by
  have : d ≠ k := fun e => hk (by rw [e])
  rw [List.getElem?_set_ne this]
  exact ⟨fun v h => ⟨v, h⟩, fun _ h => h⟩

theorem ObLe.setBox {d : Option Nat} {l : List Ob} {k : Nat} {v u : AV} (hk : l.getD k .none = .box v) : ObLe d l (l.set k (.box u)) := fun j _ => by
  rw [List.getElem?_set]
  by_cases e : k = j
  · subst e
    have hl : l[k]? = some (.box v) := by
      cases hq : l[k]? with
      | none => simp [List.getD, hq] at hk
      | some q => simp [List.getD, hq] at hk; rw [hk]
    rw [if_pos rfl, hl]
    refine ⟨fun _ _ => ⟨v, rfl⟩, fun w h => ?_⟩
    split at h <;> cases h
  · rw [if_neg e]
    exact ⟨fun v h => ⟨v, h⟩, fun _ h => h⟩

theorem ObLe.setNot {d : Option Nat} {l : List Ob} {k : Nat} {x : Ob} (h1 : ∀ v, x ≠ .box v) (h2 : ∀ v, x ≠ .lin v true) : ObLe d l (l.set k x) := fun j _ => by
  rw [List.getElem?_set]
  by_cases e : k = j
  · subst e
    rw [if_pos rfl]
    refine ⟨fun w h => ?_, fun w h => ?_⟩
    · split at h
      · cases h; exact absurd rfl (h1 _)
      · cases h
    · split at h
      · cases h; exact absurd rfl (h2 _)
      · cases h
  · rw [if_neg e]
    exact ⟨fun v h => ⟨v, h⟩, fun _ h => h⟩

theorem ObLe.trans {d : Option Nat} {l m n : List Ob} (h : ObLe d l m) (k : ObLe d m n) : ObLe d l n := fun j hj =>
  ⟨fun v hv => by
    obtain ⟨u, hu⟩ := (k j hj).1 v hv
    exact (h j hj).1 u hu, fun v hv => (h j hj).2 v ((k j hj).2 v hv)⟩

theorem app_ob {T : Tbl} {ty d : Nat} {x y : AV} {b : Bool} {v : AV} {obs : List Ob} (h : appAV T s ty d x y = some (b, v, obs)) : ObLe (some d) s.objs obs := by
  unfold appAV at h
  repeat' split at h
  all_goals first
    | (cases h; done)
    | (dsimp only at h
       repeat' split at h
       all_goals first
         | (cases h; done)
         | (cases h
            exact (ObLe.setNot (by intro v h; cases h) (by intro v h; cases h)).trans (ObLe.set _ _ _))
         | (cases h
            exact ObLe.set _ _ _))

theorem mk_ob {T : Tbl} {ty d : Nat} {x y : AV} {b : Bool} {v : AV} {obs : List Ob} (h : mkSl T s ty d x y = some (b, v, obs)) : ObLe (some d) s.objs obs := by
  unfold mkSl at h
  repeat' split at h
  all_goals first
    | (cases h; done)
    | (cases h
       exact ObLe.set _ _ _)

theorem evVal_ob {b : Bool} {v : AV} {obs : List Ob} (h : evVal X s o = some (b, v, obs)) : ObLe o.dst s.objs obs := by
  unfold evVal at h
  dsimp only at h
  split at h
  all_goals repeat' split at h
  all_goals first
    | (cases h; done)
    | (cases h
       exact ObLe.refl _ _)
    | (rw [‹o.dst = some _›]; exact app_ob h)
    | (rw [‹o.dst = some _›]; exact mk_ob h)
    | (cases h
       rw [‹o.dst = some _›]; exact ObLe.set _ _ _)
    | (cases h
       exact ObLe.setBox (by assumption))
    | (cases h
       exact ObLe.setNot (by intro v h; cases h) (by intro v h; cases h))

end Ev
end Go.Proofs.YtidnikjkpbmhhaaDoor
/- One operation with its guard; the operations of a region in the order of the text. -/
set_option linter.unusedVariables false
namespace Go.Proofs.YtidnikjkpbmhhaaDoor
namespace Ev

variable {E : Env} {V0 : Nat → Nat → Prop} {io0 : Io} {W0 : World} {C : Cx} {s : St} {a : Act} {W : World} {X : Ctx} {o : Oper}

/-- The value of an operation, a choice among them. -/
def valA (X : Ctx) (s : St) (o : Oper) : Option (AV × List Ob) :=
  match o.op with
  | .pick c x y =>
    match evO X s 0 c with
    | .bool t => some (bif t then evO X s o.type x else evO X s o.type y, s.objs)
    | _ => none
  | _ =>
    match evVal X s o with
    | some (t, v, obs) => bif t then some (v, obs) else none
    | none => none

def wantA (ops : List Oper) (s : St) (o : Oper) : Option Bool :=
  match o.guard with
  | none => some true
  | some (j, want) =>
    match ops[j]? with
    | some oj =>
      match oj.dst with
      | some k =>
        match s.get k with
        | .bool t => some (t == want)
        | .undef => some false
        | _ => none
      | none => none
    | none => none

def st1 (X : Ctx) (ops : List Oper) (s : St) (o : Oper) : Option St :=
  match wantA ops s o with
  | some true =>
    match valA X s o with
    | some (v, obs) => some ⟨(s.put o.dst v).tmps, obs⟩
    | none => none
  | some false => some (s.put o.dst .undef)
  | none => none

/-- Writing into a slot what it holds. -/
theorem set_same {s : St} {k : Nat} {v : AV} (h : s.get k = v) (hv : v ≠ .undef) : s.tmps.set k v = s.tmps := by
  unfold St.get at h
  by_cases hk : k < s.tmps.length
  · have : s.tmps[k] = v := by rw [← h]; simp [List.getD, List.getElem?_eq_getElem hk]
    apply List.ext_getElem?
    intro i
    rw [List.getElem?_set]
    by_cases e : k = i
    · subst e
      rw [if_pos rfl, if_pos hk, List.getElem?_eq_getElem hk, this]
    · rw [if_neg e]
  · have : s.tmps.getD k .undef = .undef := by simp [List.getD, List.getElem?_eq_none (Nat.le_of_not_lt hk)]
    rw [this] at h
    exact absurd h.symm hv

theorem evOp_eq {ρ : Type} (K : St → Option ρ) : evOp X s o K = match valA X s o with | some (v, obs) => K ⟨(s.put o.dst v).tmps, obs⟩ | none => none := by
  unfold evOp valA
  cases ho : o.op with
  | pick c x y =>
    dsimp only
    cases hc : evO X s 0 c with
    | bool t =>
      dsimp only
      have e : ∀ u : Bool, u = t → ∀ k, c = .tmp k → (⟨s.tmps.set k (.bool u), s.objs⟩ : St) = s := fun u hu k hk => by
        subst hu
        subst hk
        simp only [evO] at hc
        rw [set_same hc (by simp)]
      cases c with
      | tmp k => cases t <;> simp only [cond_true, cond_false] <;> rw [e _ rfl k rfl] <;> simp only [put_objs]
      | _ => cases t <;> simp only [cond_true, cond_false, put_objs]
    | _ => rfl
  | _ =>
    dsimp only
    cases hv : evVal X s o with
    | none => rfl
    | some r =>
      obtain ⟨t, v, obs⟩ := r
      cases t <;> rfl

theorem evG_eq {ρ : Type} (ops : List Oper) (K : St → Option ρ) : evG X ops s o K = match st1 X ops s o with | some s' => K s' | none => none := by
  unfold evG st1 wantA
  cases hg : o.guard with
  | none =>
    simp only [evOp_eq]
    cases valA X s o with
    | none => rfl
    | some r => rfl
  | some jw =>
    obtain ⟨j, want⟩ := jw
    dsimp only
    cases hj : ops[j]? with
    | none => rfl
    | some oj =>
      dsimp only
      cases hk : oj.dst with
      | none => rfl
      | some k =>
        dsimp only
        cases hs : s.get k with
        | bool t =>
          dsimp only
          have e : ∀ u : Bool, u = t → ({ s with tmps := s.tmps.set k (.bool u) } : St) = s := fun u hu => by
            subst hu
            rw [set_same hs (by simp)]
          cases t <;> cases want <;> simp only [cond_true, cond_false, e true, e false, if_true, if_false, evOp_eq, reduceCtorEq, beq_self_eq_true, beq_iff_eq] <;> first
            | (cases valA X s o <;> rfl)
            | rfl
        | undef => rfl
        | _ => rfl

def steps (X : Ctx) (ops : List Oper) : List Oper → St → Option St
  | [], s => some s
  | o :: r, s => match st1 X ops s o with | some s' => steps X ops r s' | none => none

theorem evOps_eq {ρ : Type} (ops : List Oper) : ∀ (l : List Oper) (s : St) (K : St → Option ρ), evOps X ops l s K = match steps X ops l s with | some s' => K s' | none => none
  | [], s, K => rfl
  | o :: r, s, K => by
    simp only [evOps, evG_eq, steps]
    cases st1 X ops s o with
    | none => rfl
    | some s' => exact evOps_eq ops r s' K

/-- A guard is read alike. -/
theorem wanted_of (S : Sim E V0 io0 W0 C s a W) {ops : Array Oper} {b : Bool} (h : wantA ops.toList s o = some b) : Region.wanted o (yielded ops a.tmps) = b := by
  unfold wantA at h
  unfold Region.wanted
  cases hg : o.guard with
  | none =>
    rw [hg] at h
    cases h
    rfl
  | some jw =>
    obtain ⟨j, want⟩ := jw
    rw [hg] at h
    dsimp only at h ⊢
    split at h
    · rename_i oj hj
      split at h
      · rename_i k hk
        have hoj : ops[j]? = some oj := by simpa using hj
        have hy : yielded ops a.tmps j = match a.tmps[k]? with | some (.bool b) => some b | _ => none := by
          unfold yielded
          rw [hoj]
          simp only [Option.bind_some, hk]
          cases a.tmps[k]? <;> rfl
        rw [hy]
        split at h
        · rename_i t ht
          cases h
          have hlt : k < s.tmps.length := by
            rcases Nat.lt_or_ge k s.tmps.length with h | h
            · exact h
            · unfold St.get at ht
              simp [List.getD, List.getElem?_eq_none h] at ht
          obtain ⟨v, hv, hr⟩ := S.tm k _ (List.getElem?_eq_getElem hlt)
          have he : s.tmps[k] = .bool t := by rw [← ht]; unfold St.get; simp [List.getD, List.getElem?_eq_getElem hlt]
          rw [he] at hr
          rw [hv, hr.bool_inv]
          cases t <;> cases want <;> rfl
        · rename_i ht
          cases h
          by_cases hlt : k < s.tmps.length
          · obtain ⟨v, hv, hr⟩ := S.tm k _ (List.getElem?_eq_getElem hlt)
            have he : s.tmps[k] = .undef := by rw [← ht]; unfold St.get; simp [List.getD, List.getElem?_eq_getElem hlt]
            rw [he] at hr
            rw [hv, hr.undef_inv]
            rfl
          · rw [Array.getElem?_eq_none (by rw [S.len]; exact Nat.le_of_not_lt hlt)]
            rfl
        · cases h
      · cases h
    · cases h

/-- A choice. -/
theorem op_pick (hX : CtxOK E X) (S : Sim E V0 io0 W0 C s a W) {c x y : Operand} {t : Bool} (ho : o.op = .pick c x y) (hc : evO X s 0 c = .bool t) :
    OpOK E V0 io0 W0 C o s a W (bif t then evO X s o.type x else evO X s o.type y) s.objs := by
  have h := S.evO hX 0 c
  rw [hc] at h
  refine OpOK.pure S (x := if t then a.eval x else a.eval y) ?_ ?_
  · unfold execOp
    rw [ho]
    simp only [h.bool_inv, asBool, Sem.run_bind, Sem.run_pure, Result.andThen_ok]
  · cases t
    · exact S.evO hX _ y
    · exact S.evO hX _ x

theorem valA_ok (hX : CtxOK E X) (S : Sim E V0 io0 W0 C s a W) {v : AV} {obs : List Ob} (h : valA X s o = some (v, obs)) : OpOK E V0 io0 W0 C o s a W v obs := by
  unfold valA at h
  split at h
  · rename_i c x y ho
    split at h
    · rename_i t hc
      cases h
      exact op_pick hX S ho hc
    · cases h
  · split at h
    · rename_i t v' obs' hv
      cases t with
      | true =>
        simp only [cond_true] at h
        cases h
        exact evVal_ok hX S hv
      | false => cases h
    · cases h

theorem valA_ob {v : AV} {obs : List Ob} (h : valA X s o = some (v, obs)) : ObLe o.dst s.objs obs := by
  unfold valA at h
  split at h
  · split at h
    · cases h
      exact ObLe.refl _ _
    · cases h
  · split at h
    · rename_i t v' obs' hv
      cases t with
      | true =>
        simp only [cond_true] at h
        cases h
        exact evVal_ob hv
      | false => cases h
    · cases h

/-- An operation of a region, guarded or not, from one state to the next. -/
def StepOK (E : Env) (V0 : Nat → Nat → Prop) (io0 : Io) (W0 : World) (ops : Array Oper) (o : Oper) (s s' : St) : Prop :=
  ∀ C a W, Sim E V0 io0 W0 C s a W → ∀ (ro : Option Nat) (next : Act → World → Prop) (Q : Exit → Act → World → Prop), (∀ C' a' W', Sim E V0 io0 W0 C' s' a' W' → Fm E.M (fun k => o.dst = some k) a a' C C' W W' → next a' W') →
    if Region.wanted o (yielded ops a.tmps) then o.wpIn (Fr ro) 0 E.P a W next Q else next (a.put o.dst undef) W

theorem st1_ok (hX : CtxOK E X) {ops : Array Oper} {s' : St} (h : st1 X ops.toList s o = some s') : StepOK E V0 io0 W0 ops o s s' := by
  intro C a W S ro next Q hn
  unfold st1 at h
  split at h
  · rename_i hw
    rw [wanted_of S hw]
    simp only [if_true]
    split at h
    · rename_i v obs hv
      cases h
      exact valA_ok hX S hv ro next Q fun C' a' W' S' hle ha hk => hn C' a' W' S' (Fm.of S S' hle (valA_ob hv) ha hk)
    · cases h
  · rename_i hw
    rw [wanted_of S hw]
    cases h
    simp only [Bool.false_eq_true, if_false]
    exact hn _ _ _ (S.put o.dst vr_undef) ⟨(fmA_put o.dst a undef).1, (fmA_put o.dst a undef).2.1, fun _ _ _ h => h, fun _ v _ h => ⟨v, h, rfl⟩, Kx.refl _ _ _⟩
  · cases h

theorem wpOp_of_step {ops : Array Oper} {s' : St} (h : StepOK E V0 io0 W0 ops o s s') (S : Sim E V0 io0 W0 C s a W) {i : Nat} (hi : ops[i]? = some o) (ro : Option Nat) {K : Act → World → Prop} {Q : Exit → Act → World → Prop}
    (hn : ∀ C' a' W', Sim E V0 io0 W0 C' s' a' W' → Fm E.M (fun k => o.dst = some k) a a' C C' W W' → K a' W') : wpOpIn (Fr ro) 0 E.P ops Q i K a W := by
  have := h C a W S ro K Q hn
  unfold wpOpIn
  simp only [hi]
  split
  · rename_i hw
    rw [if_pos hw] at this
    exact this
  · rename_i hw
    rw [if_neg hw] at this
    exact ⟨fun _ _ => trivial, this⟩

/-- In the order of the text. -/
theorem wpOps_steps (hX : CtxOK E X) (ro : Option Nat) {D : Nat → Prop} {a0 : Act} {C0 : Cx} {Wa : World} {ops : Array Oper} {Q : Exit → Act → World → Prop} : ∀ (l : List Oper) (k : Nat) (s s' : St) (C : Cx) (a : Act) (W : World), (∀ j, l[j]? = ops[k + j]?) → steps X ops.toList l s = some s' → Sim E V0 io0 W0 C s a W → (∀ o ∈ l, ∀ k, o.dst = some k → D k) → Fm E.M D a0 a C0 C Wa W →
    (∀ C' a' W', Sim E V0 io0 W0 C' s' a' W' → Fm E.M D a0 a' C0 C' Wa W' → Q .normal a' W') → wpOpsIn (Fr ro) 0 E.P ops Q (List.range' k l.length) a W
  | [], k, s, s', C, a, W, hl, h, S, hD, hF, hn => by
    simp only [steps] at h
    cases h
    simp only [List.length_nil, List.range'_zero, wpOpsIn]
    exact hn _ _ _ S hF
  | o :: l, k, s, s', C, a, W, hl, h, S, hD, hF, hn => by
    simp only [steps] at h
    split at h
    · rename_i s1 hs1
      have h0 : ops[k]? = some o := by simpa using (hl 0).symm
      simp only [List.length_cons, List.range'_succ]
      rw [wpOpsIn_cons]
      refine wpOp_of_step (st1_ok hX hs1) S h0 ro fun C' a' W' S' hf => ?_
      exact wpOps_steps hX ro l (k + 1) s1 s' C' a' W' (fun j => by have := hl (j + 1); simpa [Nat.add_assoc, Nat.add_comm 1 j] using this) h S' (fun o ho => hD o (List.mem_cons_of_mem _ ho)) (hF.trans (hf.mono (hD o (List.mem_cons_self ..)))) hn
    · cases h

theorem region_text (hX : CtxOK E X) (ro : Option Nat) {D : Nat → Prop} {a0 : Act} {C0 : Cx} {Wa : World} {ops : Array Oper} {id : Nat} {s' : St} {Q : Exit → Act → World → Prop} (h : steps X ops.toList ops.toList s = some s') (S : Sim E V0 io0 W0 C s a W) (hD : ∀ o ∈ ops.toList, ∀ k, o.dst = some k → D k) (hF : Fm E.M D a0 a C0 C Wa W) (hn : ∀ C' a' W', Sim E V0 io0 W0 C' s' a' W' → Fm E.M D a0 a' C0 C' Wa W' → Q .normal a' W') :
    (Code.region id ops false).wpIn (Fr ro) 0 E.P Q a W := by
  refine wpIn_region ?_
  have := wpOps_steps hX ro (Q := Q) ops.toList 0 s s' C a W (by simp) h S hD hF hn
  rw [List.range_eq_range']
  simpa using this

end Ev
end Go.Proofs.YtidnikjkpbmhhaaDoor
