/- The iterator of orders may be ranged over. -/
import Derived.Test.YtidnikjkpbmhhaaDoorKfe
set_option linter.unusedVariables false
namespace Go.Proofs.YtidnikjkpbmhhaaDoor
namespace Ev

theorem itO_good : ICtr Bs 90 itO := itO_ok k77 k88
theorem ctxI {X : Ctx} (hT : X.T = TT) (hG : X.G = GG) (hK : X.K = []) (hI : X.I = [(90, itO)]) (hk : X.mkm = none) (hu : X.up = none) (hC : AllC X.C) : CtxOK Bs.env X where
  T := by rw [hT]; exact chkAll_ok (B := Bs) rfl chkTT
  G := hG
  C := fun f g h => hC f g h
  M := mixed
  K := fun i g h => by rw [hK] at h; cases h
  I := fun f it h => by
    rw [hI] at h
    simp only [findA] at h
    split at h
    · rename_i e
      cases h
      subst e
      exact ⟨itO_good, Tryd.f90, Tryd.func90, by kernel_rfl, by kernel_rfl⟩
    · cases h
  mkm := fun d h => by rw [hk] at h; cases h
  up := fun u h => by rw [hu] at h; cases h

end Ev
end Go.Proofs.YtidnikjkpbmhhaaDoor
