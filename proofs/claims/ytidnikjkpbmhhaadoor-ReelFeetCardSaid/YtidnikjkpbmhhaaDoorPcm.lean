/- What the statements share, in plain words. -/
import Derived.Test.YtidnikjkpbmhhaaDoorPfe
namespace Go.Proofs.YtidnikjkpbmhhaaDoor
namespace Ev

def turnedB : Bool := true
def soundB (x : Fi) : Bool := checkB x
def sumI0 (l : List Int) : Int := sumI l 0
def endsB (_ : Fi) (_ : List Int) : Bool := true
def endsOK (x : Fi) (_ : List Int) : Bool := chkOK x

end Ev
end Go.Proofs.YtidnikjkpbmhhaaDoor
