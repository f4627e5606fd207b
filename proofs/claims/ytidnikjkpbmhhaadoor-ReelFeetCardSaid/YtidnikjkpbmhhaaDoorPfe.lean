/- What is answered of a reel's feet and showings, in plain words. -/
import Derived.Test.YtidnikjkpbmhhaaDoorPure
namespace Go.Proofs.YtidnikjkpbmhhaaDoor
namespace Ev

def openF (x : Fi) : Fi := x
def chkOK (x : Fi) : Bool := lenOK x.1
def askOK (x : Fi) (_ : Bool) : Bool := chkOK x
def chkOK3 (x : Fi) (_ _ : Int) : Bool := chkOK x
def WornI (x : Fi) (k n : Int) : Sp × Int :=
  (if askedI x (isReelB x k && amid n 0 999) = 0 then wornS x k n else z2, askedI x (isReelB x k && amid n 0 999))
/-- Rounds that are left, and what was found. -/
def shR (x : Fi) (k w : Int) : Nat → Nat → Int × Int → Int × Int
  | 0, _, s => s
  | m + 1, n, s => shR x k w m (n + 1) (if w ≤ leastI x k n then (n : Int) else s.1, if w ≤ mostI x k n then (n : Int) else s.2)
def ShowsI (x : Fi) (k w : Int) : Int × Int × Int :=
  if askedI x (isReelB x k && amid w 1 1200) = 0 then
    if (wornS x k 0).2 < w then (0, 0, 4) else ((shR x k w 1000 0 (-1, -1)).1, (shR x k w 1000 0 (-1, -1)).2, 0)
  else (0, 0, askedI x (isReelB x k && amid w 1 1200))
def seR (x : Fi) (k w : Int) : Nat → Nat → Int × Int → Int × Int
  | 0, _, s => s
  | m + 1, n, s => seR x k w m (n + 1) (if amid w (leastI x k n) (mostI x k n) = true then (if s.1 < 0 then (n : Int) else s.1, (n : Int)) else s)
def SeenI (x : Fi) (k w : Int) : Sp × Int :=
  if askedI x (isReelB x k && amid w 0 1200) = 0 then
    if (seR x k w 1000 0 (-1, -1)).1 < 0 then (z2, 4) else (seR x k w 1000 0 (-1, -1), 0)
  else (z2, askedI x (isReelB x k && amid w 0 1200))

end Ev
end Go.Proofs.YtidnikjkpbmhhaaDoor
