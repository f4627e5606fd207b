/- The evaluator: what a function of the program answers, on abstract values; definitions alone. Its soundness: the texts behind this one. -/
import Derived.Orders
import Derived.LoopN
import Derived.Below
import Derived.Still
import Derived.KernelRfl
namespace Go.Proofs.YtidnikjkpbmhhaaDoor
namespace Ev

/-- The kinds of data. -/
inductive Ty where
  | int | bool | last (a : Ty) | cons (a b : Ty) | slice (t : Ty) | arr (n : Nat) (t : Ty)
  deriving DecidableEq

@[reducible] def Ty.den : Ty → Type
  | .int => Int
  | .bool => Bool
  | .last a => a.den
  | .cons a b => a.den × b.den
  | .slice t => List t.den
  | .arr _ t => List t.den

def Ty.dflt : (t : Ty) → t.den
  | .int => (0 : Int)
  | .bool => false
  | .last a => a.dflt
  | .cons a b => (a.dflt, b.dflt)
  | .slice _ => []
  | .arr n t => List.replicate n t.dflt

def Ty.size : Ty → Nat
  | .int => 1
  | .bool => 1
  | .last a => a.size
  | .cons a b => a.size + b.size
  | .slice _ => 1
  | .arr n t => n * t.size

/-- A slice's marks: nil if empty; full (no room); the lineage that may grow in place. -/
structure Fl where
  z : Bool
  tg : Bool
  ow : Option (Nat × Nat)

inductive Stp where
  | fld (i off : Nat)
  | idx (i : Int) (sz n : Nat)

inductive AV where
  | poison
  | undef
  | int (n : Int)
  | bool (b : Bool)
  | agg (l : List AV)
  | arr (t : Ty) (n : Nat) (xs : List t.den)
  | sl (t : Ty) (f : Fl) (l : List t.den)
  | tup (l : List AV)
  | ref (k : Nat) (p : List Stp)
  | cref (v : AV) (p : List Stp)
  | fn (f : Nat) (fst cap : List AV)
  | map (k : Nat)
  | tok (i : Nat) (t : Ty) (d : t.den)

mutual
def enc : (t : Ty) → t.den → AV
  | .int, n => .int n
  | .bool, b => .bool b
  | .last a, x => .agg [enc a x]
  | .cons a b, x => .agg (enc a x.1 :: encT b x.2)
  | .slice t, l => .sl t ⟨false, false, none⟩ l
  | .arr n t, xs => .arr t n xs
def encT : (t : Ty) → t.den → List AV
  | .int, n => [.int n]
  | .bool, b => [.bool b]
  | .last a, x => [enc a x]
  | .cons a b, x => enc a x.1 :: encT b x.2
  | .slice t, l => [.sl t ⟨false, false, none⟩ l]
  | .arr n t, xs => [.arr t n xs]
end

mutual
def dec : (t : Ty) → AV → Option t.den
  | .int, .int n => some n
  | .bool, .bool b => some b
  | .last a, .agg [x] => dec a x
  | .cons a b, .agg (x :: r) =>
    match dec a x, decT b r with
    | some u, some v => some (u, v)
    | _, _ => none
  | .slice t, .sl t' _ l => if h : t' = t then some (h ▸ l) else none
  | .arr n t, .arr t' n' xs => if h : t' = t then (if n' = n then some (h ▸ xs) else none) else none
  | _, _ => none
def decT : (t : Ty) → List AV → Option t.den
  | .last a, [x] => dec a x
  | .cons a b, x :: r =>
    match dec a x, decT b r with
    | some u, some v => some (u, v)
    | _, _ => none
  | _, _ => none
end

mutual
/-- How many cells a value has. -/
def AV.size : AV → Nat
  | .agg l => sizeL l
  | .arr t n _ => n * t.size

  | _ => 1
def sizeL : List AV → Nat
  | [] => 0
  | v :: r => v.size + sizeL r
end

def getP : AV → List Stp → Option AV
  | v, [] => some v
  | .agg l, .fld i off :: p =>
    match l[i]? with
    | some x => if off = sizeL (l.take i) then getP x p else none
    | none => none
  | .agg l, .idx i sz _ :: p =>
    match l[i.toNat]? with
    | some x => if sizeL (l.take i.toNat) = i.toNat * sz then getP x p else none
    | none => none
  | .arr t n xs, .idx i sz m :: p => if sz = t.size ∧ m = n then getP (enc t (xs.getD i.toNat t.dflt)) p else none
  | _, _ => none
termination_by structural _ p => p

def setP : AV → List Stp → AV → Option AV
  | v, [], u => if u.size = v.size then some u else none
  | .agg l, .fld i off :: p, u =>
    match l[i]? with
    | some x => if off = sizeL (l.take i) then (match setP x p u with | some y => some (.agg (l.set i y)) | none => none) else none
    | none => none
  | .arr t n xs, .idx i sz m :: p, u =>
    if sz = t.size ∧ m = n then
      match setP (enc t (xs.getD i.toNat t.dflt)) p u with
      | some y => (match dec t y with | some d => some (.arr t n (xs.set i.toNat d)) | none => none)
      | none => none
    else none
  | _, _, _ => none
termination_by structural _ p => p

inductive Ob where
  | none
  | box (v : AV)
  | lin (v : Nat) (alive : Bool)
  | map (a b : Nat) (m : List AV)      -- what has been told to others, one behind the other

structure St where
  tmps : List AV
  objs : List Ob

/-- What is known of a type. -/
structure Ti where
  sz : Nat
  ag : Bool
  zero : Option AV
  flds : List (Nat × Nat)         -- a struct: each field's offset and type
  el : Option (Ty × Nat × Nat)   -- a slice: its element's kind, type, bytes
  ar : Option (Nat × Ty × Nat)
  bl : Bool                        -- truths
  eq : List Bool                   -- a struct or array of scalars that is compared: which cells are truths

abbrev Tbl := List (Nat × Ti)

def look : Tbl → Nat → Option Ti
  | [], _ => none
  | (j, i) :: r, t => if j = t then some i else look r t

def findA {α : Type} : List (Nat × α) → Nat → Option α
  | [], _ => none
  | (j, i) :: r, t => if j = t then some i else findA r t

inductive Ex where
  | norm | exit (id : Nat) | ret

/-- A function that tells what is ranged over: kind, and (by what it captures) a test and what is told. -/
structure It where
  t : Ty
  f : List AV → Option (Bool × List t.den)

/-- What an evaluation leans on: types, package-level variables, callees, which slots a loop keeps. -/
structure Ctx where
  T : Tbl
  G : List (Nat × AV)
  C : List (Nat × (List AV → Option (Bool × AV)))
  L : List (Nat × List Nat × List Nat)
  K : List (Nat × (List AV → (t : Ty) → t.den → List AV → Option (Bool × AV × List AV))) := []   -- values that are called and tell others something: by what has been told
  I : List (Nat × It) := []
  mkm : Option ((t : Ty) × t.den) := none   -- what a new map is a memo of
  up : Option (Nat × ((t : Ty) → t.den → AV → AV → Bool)) := none   -- what may be noted in a memo
  R : List (Nat × Bool) := []   -- a range over a function: do all rounds go on, or does the first one stop?

def elOf (T : Tbl) (t : Nat) : Option (Ty × Nat × Nat) :=
  match look T t with
  | some i => i.el
  | none => none

def constAV (T : Tbl) (t : Nat) : Value → AV
  | .int .i64 n => .int n
  | .bool b => .bool b
  | .slice none 0 0 =>
    match elOf T t with
    | some (e, _, _) => .sl e ⟨true, true, none⟩ []
    | none => .poison
  | _ => .poison

def trOf (s : St) : Option (List AV) := match s.objs.getD (s.objs.length - 1) .none with | .map _ _ l => some l | _ => none

def St.get (s : St) (t : Nat) : AV := s.tmps.getD t .undef
def St.put (s : St) (d : Option Nat) (v : AV) : St :=
  match d with
  | some d => { s with tmps := s.tmps.set d v }
  | none => s

def evO (X : Ctx) (s : St) (t : Nat) : Operand → AV
  | .tmp k => s.get k
  | .const v => constAV X.T t v
  | .global g =>
    match findA X.G g with
    | some v => .cref v []
    | none => .poison
  | .func f => .fn f [] []

def argsO (X : Ctx) (s : St) : List Nat → List Operand → List AV
  | t :: ts, o :: os => evO X s t o :: argsO X s ts os
  | [], o :: os => evO X s 0 o :: argsO X s [] os
  | _, [] => []

def w64 (n : Int) : Int := IntKind.wrap .i64 n

def bitsOf (op : BinOp) (x y : Int) : Option Int :=
  let a := BitVec.ofInt 64 x
  let b := BitVec.ofInt 64 y
  match op with
  | .and => some (w64 (a &&& b).toNat)
  | .or => some (w64 (a ||| b).toNat)
  | .xor => some (w64 (a ^^^ b).toNat)
  | .andNot => some (w64 (a &&& ~~~b).toNat)
  | _ => none

mutual
/-- Equality of scalars and structs of scalars. -/
def eqAV : AV → AV → Option Bool
  | .int a, .int b => some (decide (a = b))
  | .bool a, .bool b => some (a == b)
  | .agg l, .agg m => eqAL l m
  | _, _ => none
def eqAL : List AV → List AV → Option Bool
  | [], [] => some true
  | x :: l, y :: m =>
    match eqAV x y, eqAL l m with
    | some a, some b => some (a && b)
    | _, _ => none
  | _, _ => none
end

/-- The elements of an array, as numbers or truths alone, compared. -/
def eqArr : (t : Ty) → List t.den → List t.den → Option Bool
  | .int, xs, ys => some (decide (xs = ys))
  | .bool, xs, ys => some (decide (xs = ys))
  | _, _, _ => none

def eqRes : BinOp → Option Bool → Option (Bool × AV)
  | .eql, some r => some (true, .bool r)
  | .neq, some r => some (true, .bool (!r))
  | _, _ => none

/-- An operator: a test that must hold, and the value. -/
def binAV (op : BinOp) (a b : AV) : Option (Bool × AV) :=
  match a, b with
  | .int x, .int y =>
    match op with
    | .add => some (true, .int (w64 (x + y)))
    | .sub => some (true, .int (w64 (x - y)))
    | .mul => some (true, .int (w64 (x * y)))
    | .quo => some (!decide (y = 0), .int (w64 (x.tdiv y)))
    | .rem => some (!decide (y = 0), .int (x.tmod y))
    | .eql => some (true, .bool (decide (x = y)))
    | .neq => some (true, .bool (!decide (x = y)))
    | .lss => some (true, .bool (decide (x < y)))
    | .leq => some (true, .bool (decide (x ≤ y)))
    | .gtr => some (true, .bool (decide (y < x)))
    | .geq => some (true, .bool (decide (y ≤ x)))
    | .shl => some (decide (0 ≤ y), .int (w64 (x * 2 ^ (min y.toNat 64))))
    | .shr => some (decide (0 ≤ y), .int (x.fdiv (2 ^ (min y.toNat 64))))
    | op => match bitsOf op x y with | some r => some (true, .int r) | none => none
  | .sl _ f l, .sl _ g [] =>
    match op with
    | .eql => some ((f.z || !decide (l.length = 0)) && g.z, .bool (decide (l.length = 0)))
    | .neq => some ((f.z || !decide (l.length = 0)) && g.z, .bool (!decide (l.length = 0)))
    | _ => none
  | .arr t n xs, .arr t' n' ys =>
    if h : t' = t then
      match op, eqArr t xs (h ▸ ys) with
      | .eql, some r => some (decide (n = n'), .bool r)
      | .neq, some r => some (decide (n = n'), .bool (!r))
      | _, _ => none
    else none
  | a, b => eqRes op (eqAV a b)

mutual
/-- Which cells are truths, of numbers and truths alone. -/
def kindsAV : AV → Option (List Bool)
  | .int _ => some [false]
  | .bool _ => some [true]
  | .agg l => kindsL l
  | .arr .int n _ => some (List.replicate n false)
  | .arr .bool n _ => some (List.replicate n true)
  | _ => none
def kindsL : List AV → Option (List Bool)
  | [] => some []
  | v :: l =>
    match kindsAV v, kindsL l with
    | some a, some b => some (a ++ b)
    | _, _ => none
end

/-- The operands fit the type that is named. -/
def binT (T : Tbl) (t : Nat) : AV → Bool
  | .int _ => true
  | .sl .. => (elOf T t).isSome
  | .bool _ => match look T t with | some i => i.bl | none => false
  | v => match look T t with | some i => decide (i.eq ≠ [] ∧ kindsAV v = some i.eq) | none => false

def ldAV (s : St) : AV → Option AV
  | .ref k p => match s.objs.getD k .none with | .box v => getP v p | _ => none
  | .cref v p => getP v p
  | _ => none

def isAg : AV → Bool
  | .agg _ | .arr .. => true
  | _ => false

/-- A loaded value fits its type. -/
def fits (T : Tbl) (t : Nat) (v : AV) : Bool :=
  match look T t with
  | some i => decide (i.sz = v.size) && (i.ag == isAg v)
  | none => false

mutual
/-- Each cell holds one cell's value. -/
def clean : AV → Bool
  | .poison => false
  | .undef => false
  | .tup _ => false
  | .map _ => false
  | .agg l => cleanL l
  | _ => true
def cleanL : List AV → Bool
  | [] => true
  | v :: l => clean v && cleanL l
end

def addStp : AV → Stp → Option AV
  | .ref k p, x => some (.ref k (p ++ [x]))
  | .cref v p, x => some (.cref v (p ++ [x]))
  | _, _ => none

def setAll (T : Tbl) (fl : List (Nat × Nat)) (l : List AV) : List (Nat × AV) → Option (List AV)
  | [] => some l
  | (i, v) :: r =>
    match l[i]?, fl[i]? with
    | some u, some (off, ft) =>
      match look T ft with
      | some fi => if u.size = v.size ∧ fi.sz = v.size ∧ off = sizeL (l.take i) ∧ clean v = true then setAll T fl (l.set i v) r else none
      | none => none
    | _, _ => none

def fieldT (fl : List (Nat × Nat)) (i : Nat) : Nat := match fl[i]? with | some (_, t) => t | none => 0

/-- The parts of a slice literal: all places in their order. -/
def decAll (t : Ty) : Nat → List (Nat × AV) → Option (List t.den)
  | _, [] => some []
  | k, (i, v) :: r =>
    if i = k then
      match dec t v, decAll t (k + 1) r with
      | some d, some l => some (d :: l)
      | _, _ => none
    else none

def maxAV : AV → List AV → Option AV
  | .int a, .int b :: r => maxAV (.int (if a < b then b else a)) r
  | .int a, [] => some (.int a)
  | _, _ => none
termination_by structural _ l => l

def minAV : AV → List AV → Option AV
  | .int a, .int b :: r => minAV (.int (if b < a then b else a)) r
  | .int a, [] => some (.int a)
  | _, _ => none
termination_by structural _ l => l

def roomFor : Int := 70368744177664
/-- Elements that have room, so many bytes each. -/
def roomy (n m b : Nat) : Bool := Nat.ble ((n + m) * b) 70368744177664

mutual
/-- What is handed to a callee, or back: no growing in place, no box. -/
def stAV : AV → AV
  | .sl t f l => .sl t ⟨f.z, f.tg, none⟩ l
  | .ref _ _ => .poison
  | .map _ => .poison
  | .agg l => .agg (stL l)
  | .tup l => .tup (stL l)
  | .fn f a b => .fn f (stL a) (stL b)
  | .cref v p => .cref (stAV v) p
  | v => v
def stL : List AV → List AV
  | [] => []
  | v :: l => stAV v :: stL l
end

def linOf (o : Ob) : Nat :=
  match o with
  | .lin v _ => v + 1
  | _ => 0

/-- append(x, y...): the test, the slice, the objects. -/
def appAV (T : Tbl) (s : St) (ty : Nat) (d : Nat) (x y : AV) : Option (Bool × AV × List Ob) :=
  match x, y with
  | .sl t f l, .sl t' _ m =>
    if h : t' = t then
      match elOf T ty with
      | some (e, _, by_) =>
        if e = t then
          match s.objs.getD d .none with
          | .box _ => none
          | .map .. => none
          | ob =>
            let ok := roomy l.length m.length by_
            let v := linOf ob
            let r := AV.sl t ⟨f.z, false, some (d, v)⟩ (l ++ h ▸ m)
            match f.ow with
            | some (k, u) =>
              match s.objs.getD k .none with
              | .lin cu true => if u = cu then some (ok, r, (s.objs.set k (.lin cu false)).set d (.lin v true)) else none
              | _ => none
            | none => some (f.tg && ok, r, s.objs.set d (.lin v true))
        else none
      | none => none
    else none
  | _, _ => none

def mkSl (T : Tbl) (s : St) (ty : Nat) (d : Nat) (n c : AV) : Option (Bool × AV × List Ob) :=
  match n, c, elOf T ty with
  | .int n, .int c, some (e, _, by_) =>
    match s.objs.getD d .none with
    | .box _ => none
    | .map .. => none
    | ob =>
      some (decide (0 ≤ n) && (decide (n ≤ c) && decide (c * (by_ : Int) ≤ roomFor)), .sl e ⟨false, false, some (d, linOf ob)⟩ (List.replicate n.toNat e.dflt), s.objs.set d (.lin (linOf ob) true))
  | _, _, _ => none

def slAV (x : AV) (lo hi mx : Option AV) : Option (Bool × AV) :=
  match x with
  | .sl t f l =>
    match lo, hi, mx with
    | none, none, none => some (true, .sl t f l)
    | none, some (.int h), none => some (decide (0 ≤ h) && decide (h ≤ l.length), .sl t ⟨false, false, none⟩ (l.take h.toNat))
    | some (.int a), none, none => some (decide (0 ≤ a) && decide (a ≤ l.length), .sl t ⟨false, false, none⟩ (l.drop a.toNat))
    | some (.int a), some (.int h), none => some (decide (0 ≤ a) && (decide (a ≤ h) && decide (h ≤ l.length)), .sl t ⟨false, false, none⟩ ((l.take h.toNat).drop a.toNat))
    | none, some (.int h), some (.int m) => some (decide (h = m) && (decide (0 ≤ h) && decide (h ≤ l.length)), .sl t ⟨f.z && decide (h = l.length), true, none⟩ (l.take h.toNat))
    | some (.int a), some (.int h), some (.int m) => some (decide (h = m) && (decide (0 ≤ a) && (decide (a ≤ h) && decide (h ≤ l.length))), .sl t ⟨f.z && (decide (a = 0) && decide (h = l.length)), true, none⟩ ((l.take h.toNat).drop a.toNat))
    | _, _, _ => none
  | _ => none

/-- The value of an operation (but for a choice): a test that must hold, the value, the objects behind. -/
def evVal (X : Ctx) (s : St) (o : Oper) : Option (Bool × AV × List Ob) :=
  let T := X.T
  let p (v : Option AV) : Option (Bool × AV × List Ob) := match v with | some v => some (true, v, s.objs) | none => none
  let q (r : Option (Bool × AV)) : Option (Bool × AV × List Ob) := match r with | some (b, v) => some (b, v, s.objs) | none => none
  match o.op with
  | .move x | .assign x => some (true, evO X s o.type x, s.objs)
  | .alloc e =>
    match o.dst, look T e with
    | some d, some i =>
      match i.zero, s.objs.getD d .none with
      | some z, .none => if d < s.objs.length then some (true, .ref d [], s.objs.set d (.box z)) else none
      | _, _ => none
    | _, _ => none
  | .box e x =>
    match o.dst with
    | some d =>
      match s.objs.getD d .none with
      | .none => if fits T e (evO X s e x) = true ∧ clean (evO X s e x) = true ∧ d < s.objs.length then some (true, .ref d [], s.objs.set d (.box (evO X s e x))) else none
      | _ => none
    | none => none
  | .build t parts =>
    match look T t with
    | some i =>
      match i.zero, i.ar with
      | some (.agg z), none => if i.flds.isEmpty = true then none else p (match setAll T i.flds z (parts.toList.map fun y => (y.1, evO X s (fieldT i.flds y.1) y.2)) with | some l => some (.agg l) | none => none)
      | some (.arr _ _ _), some (n, te, eid) => p (match decAll te 0 (parts.toList.map fun y => (y.1, evO X s eid y.2)) with | some l => (if l.length = n ∧ i.sz = n * te.size then some (.arr te n l) else none) | none => none)
      | _, _ => none
    | none => none
  | .buildSlice t len parts =>
    match elOf T t with
    | some (e, eid, by_) =>
      match decAll e 0 (parts.toList.map fun y => (y.1, evO X s eid y.2)) with
      | some l => if l.length = len ∧ len ≤ 1000 ∧ e.size ≤ 1000 ∧ (len : Int) * (by_ : Int) ≤ 1048576 then some (true, .sl e ⟨!decide (len = 0), true, none⟩ l, s.objs) else none
      | none => none
    | none => none
  | .load t a => p (match ldAV s (evO X s 0 a) with | some v => (if fits T t v then some v else none) | none => none)
  | .store t a x =>
    match evO X s 0 a with
    | .ref k pth =>
      match s.objs.getD k .none with
      | .box v =>
        match fits T t (evO X s t x) && clean (evO X s t x), setP v pth (evO X s t x) with
        | true, some u => some (true, .undef, s.objs.set k (.box u))
        | _, _ => none
      | _ => none
    | _ => none
  | .binOp op t x y _ => if binT T t (evO X s t x) = true ∧ binT T t (evO X s t y) = true then q (binAV op (evO X s t x) (evO X s t y)) else none
  | .unOp .not _ x => p (match evO X s 0 x with | .bool b => some (.bool (!b)) | _ => none)
  | .unOp .neg _ x => p (match evO X s 0 x with | .int n => some (.int (w64 (0 - n))) | _ => none)
  | .extract x i => p (match evO X s 0 x with | .tup l => l[i]? | _ => none)
  | .fieldAddr t x f =>
    match look T t with
    | some i => p (match i.flds[f]? with | some (off, _) => addStp (evO X s 0 x) (.fld f off) | none => none)
    | none => none
  | .field t x f =>
    match look T t with
    | some i =>
      p (match evO X s 0 x, i.flds[f]? with
        | .agg l, some (off, ft) =>
          match l[f]? with
          | some v => if off = sizeL (l.take f) ∧ fits T ft v = true then some v else none
          | none => none
        | _, _ => none)
    | none => none
  | .indexAddr t x i =>
    match evO X s t x, evO X s 0 i with
    | .sl te _ l, .int n =>
      match elOf T t with
      | some (te', _, _) => if te' = te then some (decide (0 ≤ n) && decide (n < l.length), .cref (enc te (l.getD n.toNat te.dflt)) [], s.objs) else none
      | none => none
    | v, .int n =>
      match look T t with
      | some ti =>
        match ti.ar with
        | some (m, te, _) => (match addStp v (.idx n te.size m) with | some r => some (decide (0 ≤ n) && decide (n < m), r, s.objs) | none => none)
        | none => none
      | none => none
    | _, _ => none
  | .index t x i =>
    match evO X s t x, evO X s 0 i, look T t with
    | .arr te m xs, .int n, some ti =>
      (match ti.ar with
        | some (m', te', _) => if m' = m ∧ te' = te then some (decide (0 ≤ n) && decide (n < m), enc te (xs.getD n.toNat te.dflt), s.objs) else none
        | none => none)
    | _, _, _ => none
  | .slice t x lo hi mx =>
    match evO X s t x, elOf T t with
    | .sl te f l, some (te', _, _) => if te' = te then q (slAV (.sl te f l) (lo.map (evO X s 0)) (hi.map (evO X s 0)) (mx.map (evO X s 0))) else none
    | _, _ => none
  | .makeFunc (.func f) first cap => p (some (.fn f (first.toList.map (evO X s 0)) (cap.toList.map (evO X s 0))))
  | .makeMap _ none =>
    match X.mkm with
    | some d => some (true, .tok 0 d.1 d.2, s.objs)
    | none => none
  | .mapUpdate t m k v =>
    match X.up, evO X s 0 m with
    | some u, .tok 0 mt d => if u.1 = t then some (u.2 mt d (stAV (evO X s 0 k)) (stAV (evO X s 0 v)), .undef, s.objs) else none
    | _, _ => none
  | .makeSlice t n c => match o.dst with | some d => if d < s.objs.length then mkSl T s t d (evO X s 0 n) (evO X s 0 c) else none | none => none
  | .call { callee := .builtin .len, args, argTypes } =>
    match args.toList, argTypes.toList with
    | [x], [t] =>
      match evO X s t x with
      | .sl _ _ l => p (match elOf T t with | some _ => some (.int l.length) | none => none)
      | .arr _ n _ => p (match look T t with | some i => (match i.ar with | some (m, _, _) => (if m = n then some (.int n) else none) | none => none) | none => none)
      | _ => none
    | _, _ => none
  | .call { callee := .builtin .max, args, .. } =>
    match args.toList with
    | x :: r => p (maxAV (evO X s 0 x) (r.map (evO X s 0)))
    | _ => none
  | .call { callee := .builtin .min, args, .. } =>
    match args.toList with
    | x :: r => p (minAV (evO X s 0 x) (r.map (evO X s 0)))
    | _ => none
  | .call { callee := .builtin .append, args, argTypes } =>
    match o.dst, args.toList, argTypes.toList with
    | some d, [x, y], [t, t'] => if t = t' ∧ d < s.objs.length then appAV T s t d (evO X s t x) (evO X s t y) else none
    | _, _, _ => none
  | .call { callee := .value f, args, argTypes } =>
    match evO X s 0 f with
    | .fn f first cap =>
      match findA X.C f with
      | some g => q (g (stL first ++ (stL (argsO X s argTypes.toList args.toList) ++ stL cap)))
      | none => none
    | .tok i t d =>
      match findA X.K i, s.objs.getD (s.objs.length - 1) .none with
      | some g, .map a b l =>
        match g l t d (stL (argsO X s argTypes.toList args.toList)) with
        | some (tt, v, m) => some (tt, v, s.objs.set (s.objs.length - 1) (.map a b (l ++ m)))
        | none => none
      | _, _ => none
    | _ => none
  | _ => none

/-- One operation. -/
def evOp {ρ : Type} (X : Ctx) (s : St) (o : Oper) (K : St → Option ρ) : Option ρ :=
  match o.op with
  | .pick c a b =>
    match evO X s 0 c with
    | .bool t =>
      let s1 (t : Bool) : St := match c with | .tmp k => { s with tmps := s.tmps.set k (.bool t) } | _ => s
      bif t then K ((s1 true).put o.dst (evO X s o.type a)) else K ((s1 false).put o.dst (evO X s o.type b))
    | _ => none
  | _ =>
    match evVal X s o with
    | some (t, v, obs) => bif t then K { tmps := (s.put o.dst v).tmps, objs := obs } else none
    | none => none

/-- An operation, if its guard wants it. -/
def evG {ρ : Type} (X : Ctx) (ops : List Oper) (s : St) (o : Oper) (K : St → Option ρ) : Option ρ :=
  match o.guard with
  | none => evOp X s o K
  | some (j, want) =>
    match ops[j]? with
    | some oj =>
      match oj.dst with
      | some k =>
        match s.get k with
        | .bool t =>
          bif t then
            (if want = true then evOp X { s with tmps := s.tmps.set k (.bool true) } o K else K ({ s with tmps := s.tmps.set k (.bool true) }.put o.dst .undef))
          else
            (if want = false then evOp X { s with tmps := s.tmps.set k (.bool false) } o K else K ({ s with tmps := s.tmps.set k (.bool false) }.put o.dst .undef))
        | .undef => K (s.put o.dst .undef)
        | _ => none
      | none => none
    | none => none

def evOps {ρ : Type} (X : Ctx) (ops : List Oper) : List Oper → St → (St → Option ρ) → Option ρ
  | [], s, K => K s
  | o :: r, s, K => evG X ops s o fun s => evOps X ops r s K

/-! Regions that draw their order. -/

def looksL (ops : List Oper) (o : Oper) : List Nat :=
  (o.op.operands.toList.filterMap fun | .tmp t => some t | _ => none) ++
  (match o.guard with
   | some (g, _) => (match ops[g]? with | some og => (match og.dst with | some d => [d] | none => []) | none => [])
   | none => [])

def elemN (l : List Nat) (k : Nat) : Bool :=
  match l with
  | [] => false
  | x :: r => if x = k then true else elemN r k

def apartL (ops : List Oper) (x y : Oper) : Bool :=
  (match x.dst with
   | some d => !(elemN (looksL ops y) d) && (match y.dst with | some e => !decide (e = d) | none => true)
   | none => true) &&
  (match y.dst with
   | some d => !(elemN (looksL ops x) d)
   | none => true)

/-- 0: no object; 1: reads one; 2: a new box; 3: a store; 4: a slice that may grow; 5: a value is called that may tell others something. -/
def clsO (tk : Bool) : Op → Nat
  | .load _ _ => 1
  | .alloc _ => 2
  | .box _ _ => 2
  | .store _ _ _ => 3
  | .makeSlice _ _ _ => 4
  | .call { callee := .builtin .append, .. } => 4
  | .call { callee := .value f, .. } => (match f with | .func _ => 0 | _ => if tk = true then 5 else 0)
  | _ => 0

def compatN : Nat → Nat → Bool
  | 0, _ => true
  | _, 0 => true
  | 1, 1 => true
  | 1, 2 => true
  | 2, 1 => true
  | 2, 2 => true
  | 1, 4 => true
  | 4, 1 => true
  | 2, 3 => true
  | 3, 2 => true
  | 2, 4 => true
  | 4, 2 => true
  | 3, 4 => true
  | 4, 3 => true
  | 5, 1 => true
  | 1, 5 => true
  | 5, 2 => true
  | 2, 5 => true
  | 5, 3 => true
  | 3, 5 => true
  | 5, 4 => true
  | 4, 5 => true
  | _, _ => false

def edgeL (o : Oper) (k : Nat) : Bool := o.after.toList.any fun e => Region.binds .any e && decide (e.on = k)

/-- The address that an operation reads or writes. -/
def adrO : Op → Option Operand
  | .load _ a => some a
  | .store _ a _ => some a
  | _ => none

/-- Which box an operand points into, as far as a region leaves it; none: no box. -/
def boxOf (s : St) (ops : List Oper) : Operand → Option (Option Nat)
  | .tmp t =>
    if elemN (ops.filterMap (·.dst)) t then none else
    match s.get t with
    | .ref k _ => some (some k)
    | .cref _ _ => some none
    | _ => none
  | .global _ => some none
  | _ => none

/-- A load and a store of different boxes. -/
def farL (s : St) (ops : List Oper) (a b : Op) : Bool :=
  match adrO a, adrO b with
  | some x, some y =>
    match boxOf s ops x, boxOf s ops y with
    | some (some k), some (some j) => !decide (k = j)
    | some none, some _ => true
    | some _, some none => true
    | _, _ => false
  | _, _ => false

def freeL (s : St) (tk : Bool) (ops : List Oper) (k : Nat) (ok : Oper) : List Oper → Bool
  | [] => true
  | oj :: r => (edgeL oj k || (apartL ops ok oj && (compatN (clsO tk ok.op) (clsO tk oj.op) || farL s ops ok.op oj.op))) && freeL s tk ops k ok r

/-- The order of the text is one that may be drawn, and any other comes to the same. -/
def lexC (s : St) (tk : Bool) (ops : List Oper) : List Oper → Nat → Bool
  | [], _ => true
  | o :: r, k => (o.after.toList.all fun e => !(Region.binds .any e) || decide (e.on < k)) && (freeL s tk ops k o r && lexC s tk ops r (k + 1))

def Ctx.tk (X : Ctx) : Bool := match X.K with | [] => false | _ => true

/-! Loops: what a round forgets. -/

def dstsOps (ops : Array Oper) : List Nat := ops.toList.filterMap (·.dst)
def dsts : Code → List Nat
  | .region _ ops _ => dstsOps ops
  | .seq a b => dsts a ++ dsts b
  | .cond _ a b => dsts a ++ dsts b
  | .block _ b => dsts b
  | .loop b => dsts b
  | .scope b => dsts b
  | .rangeFunc _ ps a b => ps.toList ++ (dsts a ++ dsts b)
  | _ => []
def firstReg : Code → Nat
  | .region id _ _ => id
  | .seq a _ => firstReg a
  | .cond _ a _ => firstReg a
  | .block _ b => firstReg b
  | .loop b => firstReg b
  | .scope b => firstReg b
  | _ => 0

def memN (l : List Nat) (k : Nat) : Bool :=
  match l with
  | [] => false
  | x :: r => if x = k then true else memN r k

mutual
def swAV (w : List Nat) (objs : List Ob) : AV → AV
  | .ref k p => bif memN w k then .poison else .ref k p
  | .map k => bif memN w k then .poison else .map k
  | .sl t f l =>
    match f.ow with
    | none => .sl t f l
    | some (k, v) =>
      match objs.getD k .none with
      | .lin cv true => .sl t ⟨f.z, f.tg, if v = cv then some (k, 0) else none⟩ l
      | _ => .sl t ⟨f.z, f.tg, none⟩ l
  | .agg l => .agg (swL w objs l)
  | .tup l => .tup (swL w objs l)
  | .fn f a b => .fn f (swL w objs a) (swL w objs b)
  | .cref v p => .cref (swAV w objs v) p
  | v => v
def swL (w : List Nat) (objs : List Ob) : List AV → List AV
  | [] => []
  | v :: r => swAV w objs v :: swL w objs r
end

def swOb (w : List Nat) (objs : List Ob) (i : Nat) : Ob → Ob
  | .box v => bif memN w i then .none else .box (swAV w objs v)
  | .map a b m => .map a b m
  | .lin _ a => .lin 0 a
  | .none => .none

def swTs (w : List Nat) (objs : List Ob) : Nat → List AV → List AV
  | _, [] => []
  | i, v :: r => (bif memN w i then .poison else swAV w objs v) :: swTs w objs (i + 1) r
def swObs (w : List Nat) (objs : List Ob) : Nat → List Ob → List Ob
  | _, [] => []
  | i, o :: r => swOb w objs i o :: swObs w objs (i + 1) r

def St.mask1 (w : List Nat) (s : St) : St := ⟨swTs w s.objs 0 s.tmps, swObs w s.objs 0 s.objs⟩

mutual
/-- No marks at all. -/
def wkAV : AV → AV
  | .sl t _ l => .sl t ⟨false, false, none⟩ l
  | .agg l => .agg (wkL l)
  | .tup l => .tup (wkL l)
  | .fn f a b => .fn f (wkL a) (wkL b)
  | .cref v p => .cref (wkAV v) p
  | v => v
def wkL : List AV → List AV
  | [] => []
  | v :: r => wkAV v :: wkL r
end
def softTs (u : List Nat) : Nat → List AV → List AV
  | _, [] => []
  | i, v :: r => (bif memN u i then wkAV v else v) :: softTs u (i + 1) r
def St.soft (u : List Nat) (s : St) : St := ⟨softTs u 0 s.tmps, s.objs⟩
def St.mask (w : List Nat × List Nat) (s : St) : St := (s.soft w.2).mask1 w.1

def loopN {ρ : Type} (B : St → (Ex → St → Option ρ) → Option ρ) (w : List Nat × List Nat) : Nat → St → (Ex → St → Option ρ) → Option ρ
  | 0, _, _ => none
  | n + 1, s, K => B s fun e s' =>
    match e with
    | .norm => loopN B w n (s'.mask w) K
    | .exit j => K (.exit j) s'
    | .ret => K .ret s'

def keepOf (L : List (Nat × List Nat × List Nat)) (c : Code) : List Nat × List Nat := match findA L (firstReg c) with | some l => l | none => ([], [])

def seqK {ρ : Type} (B : St → (Ex → St → Option ρ) → Option ρ) (K : Ex → St → Option ρ) : Ex → St → Option ρ
  | .norm, s => B s K
  | .exit j, s => K (.exit j) s
  | .ret, s => K .ret s
def blockK {ρ : Type} (id : Nat) (K : Ex → St → Option ρ) : Ex → St → Option ρ
  | .norm, s => K .norm s
  | .exit j, s => if j = id then K .norm s else K (.exit j) s
  | .ret, s => K .ret s

/-! A range over a function. -/
def quietOb : Ob → Ob
  | .lin v _ => .lin v false
  | o => o
/-- No slice grows where it stands any more. -/
def St.quiet (s : St) : St := ⟨s.tmps, s.objs.map quietOb⟩
def asgK {ρ : Type} (B : St → (Ex → St → Option ρ) → Option ρ) (K : Ex → St → Option ρ) : Ex → St → Option ρ
  | .norm, s => B s K
  | _, _ => none
def rangeT {δ ρ : Type} (B : δ → St → (Ex → St → Option ρ) → Option ρ) (w : List Nat × List Nat) : List δ → St → (Ex → St → Option ρ) → Option ρ
  | [], s, K => K .norm s
  | x :: xs, s, K => B x s fun e s' =>
    match e with
    | .norm => rangeT B w xs (s'.quiet.mask w) K
    | _ => none
def lcase {δ ρ : Type} (xs : List δ) (z : Option ρ) (f : δ → Option ρ) : Option ρ := match xs with | [] => z | x :: _ => f x
def stopK {ρ : Type} (w : List Nat × List Nat) (K : Ex → St → Option ρ) : Ex → St → Option ρ
  | .norm, _ => none
  | .exit j, s => K (.exit j) (s.quiet.mask w)
  | .ret, s => K .ret (s.quiet.mask w)
def rangeF {δ ρ : Type} (B : δ → St → (Ex → St → Option ρ) → Option ρ) (w : List Nat × List Nat) (xs : List δ) (s : St) (K : Ex → St → Option ρ) : Option ρ :=
  lcase xs (K .norm s) fun x => B x s (stopK w K)
def noRange : Code → Bool
  | .seq a b => noRange a && noRange b
  | .cond _ a b => noRange a && noRange b
  | .block _ b => noRange b
  | .loop b => noRange b
  | .scope b => noRange b
  | .rangeFunc .. => false
  | _ => true
def allMem (l w : List Nat) : Bool :=
  match l with
  | [] => true
  | x :: r => memN w x && allMem r w

def evC {ρ : Type} (X : Ctx) (N : Nat) : Code → St → (Ex → St → Option ρ) → Option ρ
  | .skip, s, K => K .norm s
  | .label _, s, K => K .norm s
  | .region _ ops dr, s, K =>
    if dr = false ∨ lexC s X.tk ops.toList ops.toList 0 = true then evOps X ops.toList ops.toList s (K .norm) else none
  | .seq a b, s, K => evC X N a s (seqK (evC X N b) K)
  | .cond c a b, s, K =>
    match evO X s 0 c with
    | .bool t =>
      let s1 (t : Bool) : St := match c with | .tmp k => { s with tmps := s.tmps.set k (.bool t) } | _ => s
      bif t then evC X N a (s1 true) K else evC X N b (s1 false) K
    | _ => none
  | .block id b, s, K => evC X N b s (blockK id K)
  | .loop b, s, K => loopN (evC X N b) (keepOf X.L b) N (s.mask (keepOf X.L b)) K
  | .scope b, s, K => evC X N b s K
  | .exit j, s, K => K (.exit j) s
  | .ret, s, K => K .ret s
  | .rangeFunc g ps assign body, s, K =>
    match evO X s 0 g, ps.toList with
    | .fn f [] cap, [p] =>
      match findA X.I f, findA X.R (firstReg body) with
      | some it, some b =>
        match it.f (stL cap) with
        | some (t, xs) =>
          bif noRange assign && (noRange body && allMem (p :: (dsts assign ++ dsts body)) (keepOf X.L body).1) then
            bif t then
              bif b then rangeT (fun x s K => evC X N assign (s.put (some p) (enc it.t x)) (asgK (evC X N body) K)) (keepOf X.L body) xs (s.quiet.mask (keepOf X.L body)) K
              else rangeF (fun x s K => evC X N assign (s.put (some p) (enc it.t x)) (asgK (evC X N body) K)) (keepOf X.L body) xs (s.quiet.mask (keepOf X.L body)) K
            else none
          else none
        | none => none
      | _, _ => none
    | _, _ => none
  | _, _, _ => none

/-! Parts of the code, and what stands behind them. -/
def bodyOf (fn : Func) : Code := match fn.body with | some c => c | none => .skip
def sub : List (Nat × Nat) → Code → Code
  | [], c => c
  | (0, _) :: p, .seq a _ => sub p a
  | _ :: p, .seq _ b => sub p b
  | (0, _) :: p, .cond _ a _ => sub p a
  | _ :: p, .cond _ _ b => sub p b
  | _ :: p, .block _ b => sub p b
  | _ :: p, .loop b => sub p b
  | _ :: p, .scope b => sub p b
  | _ :: _, c => c
def loopK {ρ : Type} (B : St → (Ex → St → Option ρ) → Option ρ) (w : List Nat × List Nat) (n : Nat) (K : Ex → St → Option ρ) : Ex → St → Option ρ
  | .norm, s => loopN B w n (s.mask w) K
  | .exit j, s => K (.exit j) s
  | .ret, s => K .ret s
def ctxK {ρ : Type} (X : Ctx) (N : Nat) : List (Nat × Nat) → Code → (Ex → St → Option ρ) → Ex → St → Option ρ
  | [], _, K => K
  | (0, _) :: p, .seq a b, K => ctxK X N p a (seqK (evC X N b) K)
  | _ :: p, .seq _ b, K => ctxK X N p b K
  | (0, _) :: p, .cond _ a _, K => ctxK X N p a K
  | _ :: p, .cond _ _ b, K => ctxK X N p b K
  | _ :: p, .block id b, K => ctxK X N p b (blockK id K)
  | (_, m) :: p, .loop b, K => ctxK X N p b (loopK (evC X N b) (keepOf X.L b) m K)
  | _ :: p, .scope b, K => ctxK X N p b K
  | _ :: _, _, K => K

/-! What is handed back: a box that nobody turns any more is memory like any other. -/
mutual
def frAV (obs : List Ob) : AV → AV
  | .sl t f l => .sl t ⟨f.z, f.tg, none⟩ l
  | .ref k p => match obs.getD k .none with | .box v => .cref (stAV v) p | _ => .poison
  | .map _ => .poison
  | .agg l => .agg (frL obs l)
  | .tup l => .tup (frL obs l)
  | .fn f a b => .fn f (frL obs a) (frL obs b)
  | .cref v p => .cref (stAV v) p
  | v => v
def frL (obs : List Ob) : List AV → List AV
  | [] => []
  | v :: l => frAV obs v :: frL obs l
end

def resV (X : Ctx) (s : St) : ResultVar → Option AV
  | .tmp t => some (s.get t)
  | .cell a t => match ldAV s (s.get a) with | some v => (if fits X.T t v then some v else none) | none => none
def resVs (X : Ctx) (s : St) : List ResultVar → Option (List AV)
  | [] => some []
  | r :: l =>
    match resV X s r, resVs X s l with
    | some v, some m => some (v :: m)
    | _, _ => none
def resAV (X : Ctx) (fn : Func) (s : St) : Option AV :=
  match resVs X s fn.results.toList with
  | some [v] => some (frAV s.objs v)
  | some l => some (.tup (frL s.objs l))
  | none => none

def st0 (fn : Func) (args : List AV) : St := ⟨args ++ List.replicate (fn.ntmps - args.length) .undef, List.replicate fn.ntmps .none⟩

def finK (X : Ctx) (fn : Func) : Ex → St → Option AV
  | .norm, s => resAV X fn s
  | .ret, s => resAV X fn s
  | .exit _, _ => none

/-- What a function answers. -/
def evF (X : Ctx) (N : Nat) (fn : Func) (args : List AV) : Option AV :=
  match fn.body with
  | some c => evC X N c (st0 fn args) (finK X fn)
  | none => none

/-- A function that tells others: the last object is what has been told. -/
def st1T (fn : Func) (args : List AV) : St := ⟨args ++ List.replicate (fn.ntmps - args.length) .undef, List.replicate fn.ntmps .none ++ [.map 0 0 []]⟩

def finT (X : Ctx) (fn : Func) : Ex → St → Option (AV × List AV)
  | .norm, s => match resAV X fn s, trOf s with | some v, some l => some (v, l) | _, _ => none
  | .ret, s => match resAV X fn s, trOf s with | some v, some l => some (v, l) | _, _ => none
  | .exit _, _ => none

def evT (X : Ctx) (N : Nat) (fn : Func) (args : List AV) : Option (AV × List AV) :=
  match fn.body with
  | some c => evC X N c (st1T fn args) (finT X fn)
  | none => none

/-! Boxes that nobody turns any more become memory; a closure that names itself becomes a token. -/
structure Frz where
  ks : List Nat
  k : Nat          -- the box of the closure that names itself
  j : Nat          -- where it does
  f : Nat
  i : Nat
  t : Ty
  d : List AV → Option t.den

mutual
def fzAV (c : Nat → Option AV) : AV → AV
  | .ref k p => match c k with | some v => .cref v p | none => .ref k p
  | .agg l => .agg (fzL c l)
  | .tup l => .tup (fzL c l)
  | .fn f a b => .fn f (fzL c a) (fzL c b)
  | .cref v p => .cref (fzAV c v) p
  | v => v
def fzL (c : Nat → Option AV) : List AV → List AV
  | [] => []
  | v :: r => fzAV c v :: fzL c r
end

def contOf (s : St) (z : Frz) (self : AV) (k : Nat) : Option AV :=
  bif memN z.ks k then (if k = z.k then some self else match s.objs.getD k .none with | .box v => some (stAV v) | _ => none) else none

def fzOb (c : Nat → Option AV) (ks : List Nat) (i : Nat) : Ob → Ob
  | .box v => bif memN ks i then .none else .box (fzAV c v)
  | o => o
def fzObs (c : Nat → Option AV) (ks : List Nat) : Nat → List Ob → List Ob
  | _, [] => []
  | i, o :: r => fzOb c ks i o :: fzObs c ks (i + 1) r

def freeze (z : Frz) (s : St) : Option St :=
  match s.objs.getD z.k .none with
  | .box (.fn f [] caps) =>
    if f = z.f ∧ memN z.ks z.k = true then
      match caps[z.j]? with
      | some (.ref k []) =>
        if k = z.k then
          match z.d (stL (fzL (contOf s z .poison) caps)) with
          | some d => some ⟨fzL (contOf s z (.tok z.i z.t d)) s.tmps, fzObs (contOf s z (.tok z.i z.t d)) z.ks 0 s.objs⟩
          | none => none
        else none
      | _ => none
    else none
  | _ => none

/-- The code, but that boxes are frozen behind n pieces. -/
def evZ {ρ : Type} (X : Ctx) (N : Nat) (z : Frz) : Nat → Code → St → (Ex → St → Option ρ) → Option ρ
  | 0, c, s, K => match freeze z s with | some s' => evC X N c s' K | none => none
  | n + 1, .seq a b, s, K => evC X N a s (seqK (evZ X N z n b) K)
  | _ + 1, _, _, _ => none

def evFz (X : Ctx) (N : Nat) (z : Frz) (n : Nat) (fn : Func) (args : List AV) : Option AV :=
  match fn.body with
  | some c => evZ X N z n c (st0 fn args) (finK X fn)
  | none => none
def evTz (X : Ctx) (N : Nat) (z : Frz) (n : Nat) (fn : Func) (args : List AV) : Option (AV × List AV) :=
  match fn.body with
  | some c => evZ X N z n c (st1T fn args) (finT X fn)
  | none => none

end Ev
end Go.Proofs.YtidnikjkpbmhhaaDoor
