/- A film in the calculation is opened with an empty memo. -/
import Derived.Test.YtidnikjkpbmhhaaDoorSfe
import Derived.Test.YtidnikjkpbmhhaaDoorLast
set_option linter.unusedVariables false
set_option maxRecDepth 4000
namespace Go.Proofs.YtidnikjkpbmhhaaDoor
namespace Ev

theorem ctxM (x : Fi) : CtxOK Bs.env (X86 x) where
  T := chkAll_ok (B := Bs) rfl chkTT
  G := rfl
  C := fun f g h => nomatch h
  M := mixed
  K := fun i g h => nomatch h
  I := fun f it h => nomatch h
  mkm := fun d h => by
    cases h
    exact ⟨⟨x, rfl, fun e he => by simp at he⟩, fun V io W b hb hlt => .inl ⟨b, rfl, hlt, hb⟩⟩
  up := fun u h => nomatch h

theorem k86 : Good 86 g86 := ⟨ctr_of_each (fun args r h => by
  unfold g86 at h
  split at h
  · rename_i a0
    split at h
    · rename_i x h0
      simp only [Option.some.injEq, Prod.mk.injEq, true_and] at h
      subst h
      refine ⟨selfG (X86 x) 0 Tryd.f86, ctr_self (ctxM x) Tryd.func86, ?_⟩
      unfold selfG
      simp only [wkL, wk_dec h0, f86_ev, wkAV, wk_enc]
      rfl
    · cases h
  · cases h), Tryd.f86, Tryd.func86, by kernel_rfl, by kernel_rfl⟩

end Ev
end Go.Proofs.YtidnikjkpbmhhaaDoor
