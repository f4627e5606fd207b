/- What the functions of layer 1 and of its reference answer, in plain words. -/
import Derived.Test.YtidnikjkpbmhhaaDoorBas
namespace Go.Proofs.YtidnikjkpbmhhaaDoor
namespace Ev

abbrev Sp := Int × Int
abbrev Rl := Sp × Sp × Sp
abbrev Fi := List Rl × Sp × Sp × Int

def lenOK {α : Type} (l : List α) : Bool := Nat.ble l.length 70368744177664

def amid (n lo hi : Int) : Bool := decide (lo ≤ n) && decide (n ≤ hi)
def legal (s : Sp) (lo hi : Int) : Bool := decide (lo ≤ s.1) && (decide (s.1 ≤ s.2) && decide (s.2 ≤ hi))
def mk2 (lo hi : Int) : Sp := (lo, hi)
def holds (s : Sp) (n : Int) : Bool := amid n s.1 s.2
def maxI (a b : Int) : Int := if a < b then b else a
def minI (a b : Int) : Int := if b < a then b else a
def meet (a c : Sp) : Sp := (maxI a.1 c.1, minI a.2 c.2)
def emptyS (s : Sp) : Bool := decide (s.2 < s.1)
def turnI (n many : Int) : Int := if many < 1 then 0 else if n.tmod many < 0 then w64 (n.tmod many + many) else n.tmod many
def pickI (l : List Int) (n : Int) : Int := if l.length = 0 then 0 else l.getD (turnI n l.length).toNat 0
def pickOK (l : List Int) (n : Int) : Bool := decide (l.length = 0) || (decide (0 ≤ turnI n l.length) && decide (turnI n l.length < l.length))
def chooseI (s : Sp) (n : Int) : Int := if s.2 < s.1 then s.1 else w64 (s.1 + turnI n (w64 (w64 (s.2 - s.1) + 1)))
def sumI : List Int → Int → Int
  | [], a => a
  | x :: l, a => sumI l (w64 (a + x))
def findFrom (n : Int) : List Int → Int → Int
  | [], _ => -1
  | x :: l, i => if x = n then i else findFrom n l (i + 1)
def findI (l : List Int) (n : Int) : Int := findFrom n l 0
def sameI (a c : List Int) : Bool := decide (a = c)
def sameS (a c : List Sp) : Bool := decide (a = c)
def beforeI : List Int → List Int → Bool
  | x :: a, y :: c => if x = y then beforeI a c else decide (x < y)
  | [], _ :: _ => true
  | _, [] => false
def moreI (l : List Int) (n : Int) : List Int := l ++ [n]
def risesFrom (below : Int) : List Int → Int → Bool
  | [], _ => true
  | x :: l, last => amid x (w64 (last + 1)) (w64 (below - 1)) && risesFrom below l x
def risesI (l : List Int) (below : Int) : Bool := risesFrom below l (-1)
def bitI (set n : Int) : Bool := decide (w64 ((BitVec.ofInt 64 (set.fdiv (2 ^ (min n.toNat 64))) &&& BitVec.ofInt 64 1).toNat : Int) = 1)
def membersI (set below : Int) : List Int := ((List.range below.toNat).map Int.ofNat).filter (bitI set)

def okReel (r : Rl) : Bool := legal r.1 0 99 && (legal r.2.1 0 99 && (decide (r.1.1 ≤ r.2.1.2) && legal r.2.2 1 1200))
def checkB (f : Fi) : Bool := amid f.1.length 1 6 && (legal f.2.1 1 20 && (legal f.2.2.1 0 50 && (amid f.2.2.2 1 6000 && f.1.all okReel)))
def checkI (f : Fi) : Int := if checkB f = true then 0 else 10
def askedI (f : Fi) (right : Bool) : Int := if checkB f = true then (if right = true then 0 else 11) else 10
def askedF (f : Fi) (right : Bool) : Fi × Int := (if askedI f right = 0 then f else zRF, askedI f right)
/-- The scenes that a reel can end with, if it begins with some of a span. -/
def lastF (x : Fi) (p : Int × Sp) : Sp :=
  if minI (x.1.getD p.1.toNat (((0 : Int), (0 : Int)), ((0 : Int), (0 : Int)), ((0 : Int), (0 : Int)))).1.2 p.2.2 < maxI (x.1.getD p.1.toNat (((0 : Int), (0 : Int)), ((0 : Int), (0 : Int)), ((0 : Int), (0 : Int)))).1.1 p.2.1 ∨
    (x.1.getD p.1.toNat (((0 : Int), (0 : Int)), ((0 : Int), (0 : Int)), ((0 : Int), (0 : Int)))).2.1.2 < maxI (x.1.getD p.1.toNat (((0 : Int), (0 : Int)), ((0 : Int), (0 : Int)), ((0 : Int), (0 : Int)))).2.1.1 (maxI (x.1.getD p.1.toNat (((0 : Int), (0 : Int)), ((0 : Int), (0 : Int)), ((0 : Int), (0 : Int)))).1.1 p.2.1) then (1, 0)
  else (maxI (x.1.getD p.1.toNat (((0 : Int), (0 : Int)), ((0 : Int), (0 : Int)), ((0 : Int), (0 : Int)))).2.1.1 (maxI (x.1.getD p.1.toNat (((0 : Int), (0 : Int)), ((0 : Int), (0 : Int)), ((0 : Int), (0 : Int)))).1.1 p.2.1), (x.1.getD p.1.toNat (((0 : Int), (0 : Int)), ((0 : Int), (0 : Int)), ((0 : Int), (0 : Int)))).2.1.2)

def unusedB : List Bool := List.replicate 6 false

def lenOK2 {α β : Type} (l : List α) (_ : β) : Bool := lenOK l
def moreOK (l : List Int) (_ : Int) : Bool := roomy 0 (l.length + 1) 8
def membersOK (_ below : Int) : Bool := decide (below ≤ 1000)
def cloneI (l : List Int) : List Int := l
def cloneOK (l : List Int) : Bool := roomy 0 l.length 8
def containsI (l : List Int) (n : Int) : Bool := decide (0 ≤ findI l n)

abbrev z2 : Sp := ((0 : Int), (0 : Int))
abbrev zR : Rl := (((0 : Int), (0 : Int)), ((0 : Int), (0 : Int)), ((0 : Int), (0 : Int)))
def reelAt (x : Fi) (k : Int) : Rl := x.1.getD k.toNat zR
def inReels (x : Fi) (k : Int) : Bool := decide (0 ≤ k) && decide (k < x.1.length)

def isReelB (x : Fi) (k : Int) : Bool := amid k 0 (w64 ((x.1.length : Int) - 1))
def areFrom (n : Int) : List Int → List Int → Bool
  | _, [] => true
  | pre, k :: r => amid k 0 (w64 (n - 1)) && (!(decide (k ∈ pre)) && areFrom n (pre ++ [k]) r)
def areReelsB (x : Fi) (l : List Int) : Bool := areFrom x.1.length [] l
def areOK (_ : Fi) (l : List Int) : Bool := lenOK l

def leastI (x : Fi) (k n : Int) : Int := maxI 0 (w64 ((reelAt x k).2.2.1 - w64 (n * x.2.2.1.2)))
def mostI (x : Fi) (k n : Int) : Int := maxI 0 (w64 ((reelAt x k).2.2.2 - w64 (n * x.2.2.1.1)))
def wornS (x : Fi) (k n : Int) : Sp := (leastI x k n, mostI x k n)
def inReels3 (x : Fi) (k _n : Int) : Bool := inReels x k

def lastOK (x : Fi) (p : Int × Sp) : Bool := inReels x p.1
def followsF (x : Fi) (k : Int) (e : Sp) : Sp × Bool := (lastF x (k, (e.1, w64 (e.2 + 1))), !(decide ((lastF x (k, (e.1, w64 (e.2 + 1)))).1 = 1) && decide ((lastF x (k, (e.1, w64 (e.2 + 1)))).2 = 0)))
def followsOK (x : Fi) (k : Int) (_e : Sp) : Bool := inReels x k
def isOrdF (x : Fi) : List Int → Sp → Bool
  | [], _ => true
  | k :: r, e => (followsF x k e).2 && isOrdF x r (followsF x k e).1
def isOrderF (x : Fi) (l : List Int) : Bool := isOrdF x l (-1, 99)
def listOK (x : Fi) (l : List Int) : Bool := lenOK l && l.all (inReels x)

/-- The reference's. -/
def followsR (x : Fi) (k : Int) (first : Sp) : Sp :=
  if emptyS (meet (reelAt x k).1 first) = true then meet (reelAt x k).1 first else meet (reelAt x k).2.1 (mk2 (meet (reelAt x k).1 first).1 99)
def isOrdR (x : Fi) : List Int → Sp → Bool
  | [], _ => true
  | k :: r, e => if emptyS (followsR x k e) = true then false else isOrdR x r (mk2 (followsR x k e).1 (w64 ((followsR x k e).2 + 1)))
def isOrderR (x : Fi) (l : List Int) : Bool := isOrdR x l (0, 99)

def allB (x : Fi) : List Bool := (List.range 6).map fun k => decide (k < x.1.length)
def allOK (x : Fi) : Bool := Nat.ble x.1.length 6
def allR (x : Fi) : List Int := membersI (w64 (w64 (1 * 2 ^ (min x.1.length 64)) - 1)) x.1.length
def stepR (x : Fi) (reels : List Int) (rows : List (List Int)) : List (List Int) :=
  rows.flatMap fun row => (reels.filter fun k => decide (findI row k < 0) && isOrderR x (row ++ [k])).map fun k => row ++ [k]
def iterR (x : Fi) (reels : List Int) : Nat → List (List Int) → List (List Int)
  | 0, rows => rows
  | n + 1, rows => iterR x reels n (stepR x reels rows)
def ordersR (x : Fi) (reels : List Int) : List (List Int) := iterR x reels reels.length [[]]

/-- All orders of some reels, in their order: the reels in turn, as far as the scenes let them follow. -/
def ordsF (x : Fi) : Nat → List Bool → Sp → List (List Int)
  | 0, _, _ => []
  | n + 1, left, e =>
    if left = unusedB then [[]] else
    (List.range x.1.length).flatMap fun k => if left.getD k false = true ∧ (followsF x k e).2 = true then (ordsF x n (left.set k false) (followsF x k e).1).map fun l => (k : Int) :: l else []
def ordersF (x : Fi) (left : List Bool) : List (List Int) := ordsF x 7 left (-1, 99)

end Ev
end Go.Proofs.YtidnikjkpbmhhaaDoor
