/- The contexts of the search for strange reels. -/
import Derived.Test.YtidnikjkpbmhhaaDoorSlf
set_option linter.unusedVariables false
set_option maxRecDepth 4000
namespace Go.Proofs.YtidnikjkpbmhhaaDoor
namespace Ev

noncomputable def X79 (g : List AV → (t : Ty) → t.den → List AV → Option (Bool × AV × List AV)) : Ctx := { T := TT, G := GG, C := [(71, sg71)], L := [(9, [0, 1, 3, 8, 11, 13, 14, 15, 16, 17, 18, 19, 20, 21, 22, 23, 24, 25, 26, 27, 28, 29, 30, 31, 32, 33, 34, 35, 36, 37, 38, 39, 40, 41, 42, 43, 44, 45, 46, 47, 48, 49, 50, 51, 52, 53, 54, 55, 56, 57, 58, 59, 60, 61, 62, 63], []), (3, [23, 24], [])], I := [(90, itO)], R := [(3, false)], K := [(4, g)] }
noncomputable def X28 (g : List AV → (t : Ty) → t.den → List AV → Option (Bool × AV × List AV)) : Ctx := { T := TT, G := GG, C := [(62, g62), (72, sg72)], L := [(7, [0, 1, 2, 3, 5, 7, 8, 9, 10, 11, 12, 13, 14, 15, 16, 17, 18, 19, 20, 23, 24, 25, 26, 27, 28, 29, 30, 31, 32, 33, 34, 35, 36, 37, 38, 39, 40], [])], K := [(4, g)] }

end Ev
end Go.Proofs.YtidnikjkpbmhhaaDoor
