/- The spools of a film: the code, piece by piece. -/
import Derived.Test.YtidnikjkpbmhhaaDoorOwn
set_option linter.unusedVariables false
set_option maxRecDepth 4000
namespace Go.Proofs.YtidnikjkpbmhhaaDoor
namespace Ev

noncomputable def cz0 : Code := sub [(0, 0)] (bodyOf Tryd.f96)
noncomputable def cz1 : Code := sub [(1, 0), (0, 0)] (bodyOf Tryd.f96)
noncomputable def cz2 : Code := sub [(1, 0), (1, 0), (0, 0)] (bodyOf Tryd.f96)
noncomputable def cz3 : Code := sub [(1, 0), (1, 0), (1, 0), (0, 0), (0, 0)] (bodyOf Tryd.f96)
noncomputable def cz4 : Code := sub [(1, 0), (1, 0), (1, 0), (0, 0), (1, 0), (0, 0), (0, 0), (0, 0)] (bodyOf Tryd.f96)
noncomputable def cz13 : Code := sub [(1, 0), (1, 0), (1, 0), (0, 0), (1, 0), (0, 0), (0, 0), (1, 0), (1, 0), (1, 0)] (bodyOf Tryd.f96)
noncomputable def cz5 : Code := sub [(1, 0), (1, 0), (1, 0), (0, 0), (1, 0), (0, 0), (0, 0), (1, 0), (1, 0), (0, 0), (0, 0), (0, 0)] (bodyOf Tryd.f96)
noncomputable def cz6 : Code := sub [(1, 0), (1, 0), (1, 0), (0, 0), (1, 0), (0, 0), (0, 0), (1, 0), (1, 0), (0, 0), (0, 0), (1, 0), (0, 0)] (bodyOf Tryd.f96)
noncomputable def cz7 : Code := sub [(1, 0), (1, 0), (1, 0), (0, 0), (1, 0), (0, 0), (0, 0), (1, 0), (1, 0), (0, 0), (0, 0), (1, 0), (1, 0), (0, 0), (0, 0)] (bodyOf Tryd.f96)
noncomputable def cz8 : Code := sub [(1, 0), (1, 0), (1, 0), (0, 0), (1, 0), (0, 0), (0, 0), (1, 0), (1, 0), (0, 0), (0, 0), (1, 0), (1, 0), (0, 0), (1, 0), (0, 0)] (bodyOf Tryd.f96)
noncomputable def cz9 : Code := sub [(1, 0), (1, 0), (1, 0), (0, 0), (1, 0), (0, 0), (0, 0), (1, 0), (1, 0), (0, 0), (0, 0), (1, 0), (1, 0), (1, 0), (0, 0), (0, 0)] (bodyOf Tryd.f96)
noncomputable def cz10 : Code := sub [(1, 0), (1, 0), (1, 0), (0, 0), (1, 0), (0, 0), (0, 0), (1, 0), (1, 0), (0, 0), (0, 0), (1, 0), (1, 0), (1, 0), (0, 0), (1, 0), (0, 0)] (bodyOf Tryd.f96)
noncomputable def cz11 : Code := sub [(1, 0), (1, 0), (1, 0), (0, 0), (1, 0), (0, 0), (0, 0), (1, 0), (1, 0), (0, 0), (0, 0), (1, 0), (1, 0), (1, 0), (1, 0), (0, 0)] (bodyOf Tryd.f96)
noncomputable def cz12 : Code := sub [(1, 0), (1, 0), (1, 0), (0, 0), (1, 0), (0, 0), (0, 0), (1, 0), (1, 0), (0, 0), (0, 0), (1, 0), (1, 0), (1, 0), (1, 0), (1, 0)] (bodyOf Tryd.f96)
noncomputable def czE : Code := sub [(1, 0), (1, 0), (1, 0), (1, 0)] (bodyOf Tryd.f96)
noncomputable def czB : Code := .seq cz5 (.seq cz6 (.seq (.seq cz7 (.cond (.tmp 28) cz8 .skip)) (.seq (.seq cz9 (.cond (.tmp 31) cz10 .skip)) (.seq cz11 cz12))))
noncomputable def czL : Code := .seq cz4 (.seq (.cond (.tmp 16) .skip (.exit 0)) (.seq (.block 1 czB) cz13))
theorem spools_body : Tryd.f96.body = some (.seq cz0 (.seq cz1 (.seq cz2 (.seq (.seq cz3 (.block 0 (.loop czL))) czE)))) := by kernel_rfl
noncomputable def X96 : Ctx := { T := TT, G := GG, C := [(80, g80)], L := [] }
theorem ctx96 : CtxOK Bs.env X96 := ctxOK rfl rfl rfl rfl rfl rfl (AllC.cons k80 AllC.nil)

end Ev
end Go.Proofs.YtidnikjkpbmhhaaDoor
